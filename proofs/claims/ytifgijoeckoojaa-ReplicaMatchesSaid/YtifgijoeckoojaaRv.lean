/-
  ReplicaVotes, walked.
-/
import Derived.Test.YtifgijoeckoojaaRu
set_option linter.unusedVariables false
set_option linter.unusedSimpArgs false
namespace Go.Proofs.Ytifgijoeckoojaa
open Go.Vc

abbrev EPhi (Φ : PW) (gs : List Value) (said : List MsgR) : PW := fun M w => Φ M w ∧ Elems M w gs said
instance ephi_stable (Φ : PW) [Stable Φ] (gs : List Value) (said : List MsgR) : Stable (EPhi Φ gs said) := instStableAnd Φ (fun M w => Elems M w gs said)
abbrev VO (L : Lay) (C : Cl) (sp : Option Addr) (n sc : Nat) (gs : List Value) (R : List Own) : List Own := clO L C ++ .buf sp n sc gs 37 9 :: R

set_option maxHeartbeats 4000000 in
set_option maxRecDepth 20000 in
theorem Votes_in {Φ : PW} [Stable Φ] (p : Option Addr) (cap : Nat) (l : List OpR) (hΦ : ∀ M w, Φ M w → Sl M w p l) (hlen : l.length ≤ 9223372036854775807) :
    GivesIn Φ Try.prog F.erratalaw08_ReplicaVotes #[.slice p l.length cap] (.bool true) := by
  refine .there (fun M w h => (hΦ M w h).there) fun hth => ?_
  refine gives_in (Berratalaw08_ReplicaVotes_run p l.length cap) fun W R => ?_
  refine fun w G cx => small_g.use cx fun w cx => ⟨true, rfl, R, Φ, inferInstance, cx, fun w G cx => begin_use cx fun L0 w cx => ⟨some ⟨L0.x, 0, none⟩, rfl, clO L0 cl0 ++ R, CPhi Φ L0 cl0, inferInstance, gr cx, fun w G cx => ?_⟩⟩
  obtain ⟨bf, hbf, hfew⟩ := few_in (Φ := CPhi Φ L0 cl0) p cap l 150 (fun M w h => hΦ M w h.1) hlen
  refine hbf.use cx fun w cx => ⟨bf, rfl, clO L0 cl0 ++ R, CPhi Φ L0 cl0, inferInstance, cx, Br.intro (fun h => fun w G cx w G cx => ⟨rfl, cx.left.right.weak fun M w h => h.1⟩) (fun h => Br.intro (fun h => by cases h) (fun _ => ?_))⟩
  clear cx hfew hbf
  refine exI_mk (fun sp sn sc iI R' Φ' kk => ∃ (i : Nat) (said : List MsgR) (gs : List Value) (L : Lay) (C : Cl), iI = i ∧ sn = said.length ∧ i ≤ l.length ∧ L.x = L0.x ∧ R' = VO L C sp said.length sc gs R ∧ Φ' = CPhi (EPhi Φ gs said) L C ∧ VInv C said ∧ kk = l.length - i)
    ⟨⟨VO L0 cl0 none 0 0 [] R, CPhi (EPhi Φ [] []) L0 cl0, _, inferInstance, fun w G cx => (sink (cx.nobuf 37 9)).weak fun M w h => ⟨⟨h.1, Elems.nil⟩, h.2⟩, 0, [], [], L0, cl0, rfl, rfl, Nat.zero_le _, rfl, rfl, rfl, vinv0, rfl⟩, ?_⟩
  rintro sp _ sc iI R1 Φ1 kk _ ⟨i, said, gs, L, C, rfl, rfl, hi, hx, rfl, rfl, hinv, rfl⟩
  refine Br.intro (fun hlt => ?_) (fun hge => fun w G cx => ⟨rfl, cx.left.right.drop1.weak fun M w h => h.1.1⟩)
  have hlt : i < l.length := by have := of_decide_eq_true hlt; omega
  obtain ⟨lb, lo, rfl⟩ := hth (by omega)
  refine ⟨by omega, ptrK_intro lb lo rfl fun w G cx => ⟨l[i].op, l[i].who, l[i].n, l[i].data, by rw [Int.toNat_natCast]; exact sl_op (hΦ _ _ cx.phi.1.1) hlt, fun w G cx => ?_⟩⟩
  have hinv1 := hinv.cluster l[i]
  generalize hop : l[i] = op at hinv1
  have hstep := fun K hK => step_use (gl cx) hinv.wf op (K := K) hK
  rw [hx] at hstep
  refine hstep _ fun L1 w hx1 cx => ⟨true, rfl, VO L1 (stepC C op) sp said.length sc gs R, CPhi (EPhi Φ gs said) L1 (stepC C op), inferInstance, gr cx, Br.intro (fun h => by cases h) (fun _ => ?_)⟩
  clear hstep cx
  have hx1 : L1.x = L0.x := hx1
  generalize stepC C op = C1 at hinv1
  have h300 := hinv1.wf.sent
  refine exI_mk (fun sp2 sn sc2 kI R' Φ' kk => ∃ (k : Nat) (said2 : List MsgR) (gs2 : List Value), kI = k ∧ sn = said2.length ∧ k ≤ C1.sent.length ∧ R' = VO L1 C1 sp2 said2.length sc2 gs2 R ∧ Φ' = CPhi (EPhi Φ gs2 said2) L1 C1 ∧ VInv C1 said2 ∧ kk = C1.sent.length - k)
    ⟨⟨VO L1 C1 sp said.length sc gs R, CPhi (EPhi Φ gs said) L1 C1, _, inferInstance, fun w G cx => cx, 0, said, gs, rfl, rfl, Nat.zero_le _, rfl, rfl, hinv1, rfl⟩, ?_⟩
  clear hinv hinv1
  rintro sp2 _ sc2 kI R1 Φ1 kk _ ⟨k, said, gs, rfl, rfl, hk, rfl, rfl, hinv, rfl⟩
  rw [← hx1]
  refine ptrK_intro L1.x 0 rfl fun w G cx => ⟨L1.tp, C1.sent.length, L1.tc, cx.get 0 rfl rfl, Br.intro (fun hlk => ?_) (fun hge => ?_)⟩
  · have hlk : k < C1.sent.length := by have := of_decide_eq_true hlk; omega
    obtain ⟨m, hm⟩ : ∃ m, C1.sent[k]? = some m := ⟨_, List.getElem?_eq_getElem hlk⟩
    have hmem : m ∈ C1.sent := List.mem_of_getElem? hm
    obtain ⟨mp, mcap, hme, hm1, hm2, hmo⟩ := sent_at cx.phi.2.1 hm
    obtain ⟨gt, hgt, _⟩ := cx.bufCell 3 rfl (show 0 < L1.mc.length by
      have := cx.phi.2.1.1
      rw [show (Gv.ty MsgR).size = 9 from rfl] at this
      omega)
    refine ptrK_intro L1.x 0 rfl fun w G cx => ⟨L1.tp, C1.sent.length, L1.tc, cx.get 0 rfl rfl, by omega, ptrK_intro gt 0 hgt ?_⟩
    rw [Int.toNat_natCast, Nat.zero_add]
    refine fun w G cx => ⟨m.kind, m.src, m.to, m.term, m.index, m.prev, m.commit, m.yes, mp, m.recs.length, mcap, cx.bufRow 3 rfl hgt (row_of hme), fun _ w G cx => Br.intro (fun hno => ?_) (fun hyes => ?_)⟩
    · exact ⟨by unfold I64; omega, VO L1 C1 sp2 said.length sc2 gs R, CPhi (EPhi Φ gs said) L1 C1, C1.sent.length - (k + 1), inferInstance, fun w G cx => cx, ⟨k + 1, said, gs, rfl, rfl, hlk, rfl, rfl, hinv, rfl⟩, by omega⟩
    have hyes : YesM m := by
      simp only [Bool.or_eq_false_iff, decide_eq_false_iff_not, Bool.not_eq_false'] at hyes
      exact ⟨by omega, hyes.2⟩
    refine exI_mk (fun jI R' Φ' kk => ∃ j : Nat, jI = j ∧ j ≤ said.length ∧ R' = VO L1 C1 sp2 said.length sc2 gs R ∧ Φ' = CPhi (EPhi Φ gs said) L1 C1 ∧ kk = said.length - j)
      ⟨⟨VO L1 C1 sp2 said.length sc2 gs R, CPhi (EPhi Φ gs said) L1 C1, _, inferInstance, fun w G cx => cx, 0, rfl, Nat.zero_le _, rfl, rfl, rfl⟩, ?_⟩
    clear cx
    rintro jI R1 Φ1 kk _ ⟨j, rfl, hj, rfl, rfl, rfl⟩
    refine Br.intro (fun hjl => fun w G cx => ?_) (fun _ => Br.intro (fun h500 => ?_) (fun _ => ?_))
    · have hjl : j < said.length := by have := of_decide_eq_true hjl; omega
      obtain ⟨v, hv⟩ : ∃ v, said[j]? = some v := ⟨_, List.getElem?_eq_getElem hjl⟩
      have hvm : v ∈ said := List.mem_of_getElem? hv
      obtain ⟨vp, vcap, hve, hv1, hv2, hvo⟩ := sent_at cx.phi.1.2 hv
      obtain ⟨g, hg, _⟩ := cx.bufCell 10 rfl (show 0 < gs.length by
        have := cx.phi.1.2.1
        rw [show (Gv.ty MsgR).size = 9 from rfl] at this
        omega)
      have hsl : said.length ≤ 9223372036854775807 := by
        obtain ⟨_, a1, a2⟩ := cx.bufLen 10 rfl
        exact Nat.le_trans a1 (Nat.le_trans a2 (by decide))
      have hc1 : w.cell? ⟨g, 0 + (j : Int).toNat * 9 + 1, none⟩ = some (.int .i64 v.src) := by
        rw [Int.toNat_natCast, Nat.zero_add]
        exact cx.bufGet 10 rfl hg (row_of hve 1 (show 1 < 9 by decide))
      have hc3 : w.cell? ⟨g, 0 + (j : Int).toNat * 9 + 3, none⟩ = some (.int .i64 v.term) := by
        rw [Int.toNat_natCast, Nat.zero_add]
        exact cx.bufGet 10 rfl hg (row_of hve 3 (show 3 < 9 by decide))
      have hc2 : w.cell? ⟨g, 0 + (j : Int).toNat * 9 + 2, none⟩ = some (.int .i64 v.to) := by
        rw [Int.toNat_natCast, Nat.zero_add]
        exact cx.bufGet 10 rfl hg (row_of hve 2 (show 2 < 9 by decide))
      refine ⟨by omega, ptrK_intro g 0 hg ⟨v.src, hc1, fun _ => by omega, ptrK_intro g 0 hg ⟨v.term, fun _ => hc3, fun _ => by omega, ptrK_intro g 0 hg ⟨v.to, fun _ => hc2, Br.intro (fun hbad => ?_) (fun _ => ?_)⟩⟩⟩⟩
      · simp only [Bool.and_eq_true, decide_eq_true_eq] at hbad
        obtain ⟨⟨e1, e2⟩, e3⟩ := hbad
        exact absurd (hinv.two v (List.mem_append_right _ hvm) m (List.mem_append_left _ hmem) (hinv.all v hvm) hyes e1 e2) e3
      · exact ⟨by unfold I64; omega, VO L1 C1 sp2 said.length sc2 gs R, CPhi (EPhi Φ gs said) L1 C1, said.length - (j + 1), inferInstance, fun w G cx => cx, ⟨j + 1, rfl, hjl, rfl, rfl, rfl⟩, by omega⟩
    · have h500 : said.length < 500 := by have := of_decide_eq_true h500; omega
      intro k1 w G cx
      have cx1 : Ctx W w (.blk k1 (m.cells mp mcap) 37 :: .buf sp2 said.length sc2 gs 37 9 :: (clO L1 C1 ++ (R ++ G))) (CPhi (EPhi Φ gs said) L1 C1) := cx.perm (List.Perm.cons _ ((List.Perm.of_eq (List.append_assoc _ _ _)).trans (List.perm_middle (l₁ := clO L1 C1))))
      obtain ⟨p', cap', w', hrun, _, cx'⟩ := Ctx.app1 (P := Try.prog) (ts := 27) (ty := 27) (kb := #[false, false]) (size := 9) (bytes := 88) cx1 (by kernel_rfl) (by omega) rfl rfl (by omega) (by omega)
      have cx2 : Ctx W w' (VO L1 C1 p' (said ++ [m]).length cap' (gs ++ m.cells mp mcap) R ++ G) (CPhi (EPhi Φ (gs ++ m.cells mp mcap) (said ++ [m])) L1 C1) := by
        rw [List.length_append]
        refine (cx'.perm ((List.perm_middle (l₁ := clO L1 C1)).symm.trans (List.Perm.of_eq (by simp)))).weak fun M w h => ⟨⟨h.1.1, h.1.2.snoc (rep_msg hmo hm1 hm2 (sent_sl h.2.1 hm hme))⟩, h.2⟩
      refine ⟨p', said.length + 1, cap', w', hrun, VO L1 C1 p' (said ++ [m]).length cap' (gs ++ m.cells mp mcap) R, CPhi (EPhi Φ (gs ++ m.cells mp mcap) (said ++ [m])) L1 C1, inferInstance, cx2, by unfold I64; omega, _, CPhi (EPhi Φ (gs ++ m.cells mp mcap) (said ++ [m])) L1 C1, C1.sent.length - (k + 1), inferInstance, fun w G cx => cx, ⟨k + 1, said ++ [m], gs ++ m.cells mp mcap, rfl, by simp, hlk, rfl, rfl, hinv.say hmem hyes, rfl⟩, by omega⟩
    · exact ⟨by unfold I64; omega, VO L1 C1 sp2 said.length sc2 gs R, CPhi (EPhi Φ gs said) L1 C1, C1.sent.length - (k + 1), inferInstance, fun w G cx => cx, ⟨k + 1, said, gs, rfl, rfl, hlk, rfl, rfl, hinv, rfl⟩, by omega⟩
  · exact ⟨by unfold I64; omega, VO L1 C1 sp2 said.length sc2 gs R, CPhi (EPhi Φ gs said) L1 C1, l.length - (i + 1), inferInstance, fun w G cx => cx, ⟨i + 1, said, gs, L1, C1, rfl, rfl, hlt, rfl, rfl, rfl, hinv, rfl⟩, by omega⟩

end Go.Proofs.Ytifgijoeckoojaa
