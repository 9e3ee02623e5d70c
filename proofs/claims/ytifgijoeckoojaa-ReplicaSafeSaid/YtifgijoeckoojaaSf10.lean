/-
  For every input erratalaw08.ReplicaSafe returns true, does not panic, comes to an end, and leaves what came in as it was.
  Conditions: none beyond the given statement's own (ReplicaSafeSaid).
-/
import Derived.Test.YtifgijoeckoojaaSf9
import Derived.Test.YtifgijoeckoojaaRows

/-
  ReplicaSafe, walked.
-/
section
set_option linter.unusedVariables false
set_option linter.unusedSimpArgs false
namespace Go.Proofs.Ytifgijoeckoojaa
open Go.Vc

theorem Sure.cut {g : Gh} {A : Int → Nat → Nat} {s s' : Int} {l : List RecD} {n : Nat} (h : Sure g A s l n) (hs : s ≤ s') : Sure g A s' (l.take n) n := by
  rcases h with e | ⟨t, p, h1, h2, h3, h4, h5⟩
  · exact .inl e
  · exact .inr ⟨t, p, h1, by omega, h3, by rw [List.length_take]; omega, by rw [List.take_take, Nat.min_self]; exact h5⟩

set_option maxHeartbeats 8000000 in
set_option maxRecDepth 20000 in
theorem Safe_in {Φ : PW} [Stable Φ] (p : Option Addr) (cap : Nat) (l : List OpR) (hΦ : ∀ M w, Φ M w → Sl M w p l) (hlen : l.length ≤ 9223372036854775807) :
    GivesIn Φ Try.prog F.erratalaw08_ReplicaSafe #[.slice p l.length cap] (.bool true) := by
  refine .there (fun M w h => (hΦ M w h).there) fun hth => ?_
  refine gives_in (Berratalaw08_ReplicaSafe_run p l.length cap) fun W R => ?_
  refine fun w G cx => small_g.use cx fun w cx => ⟨true, rfl, R, Φ, inferInstance, cx, fun w G cx => begin_use cx fun L0 w cx => ⟨some ⟨L0.x, 0, none⟩, rfl, clO L0 cl0 ++ R, CPhi Φ L0 cl0, inferInstance, gr cx, fun w G cx => ?_⟩⟩
  obtain ⟨bf, hbf, hfew⟩ := few_in (Φ := CPhi Φ L0 cl0) p cap l 150 (fun M w h => hΦ M w h.1) hlen
  refine hbf.use cx fun w cx => ⟨bf, rfl, clO L0 cl0 ++ R, CPhi Φ L0 cl0, inferInstance, cx, Br.intro (fun h => fun w G cx w G cx => ⟨rfl, cx.left.right.weak fun M w h => h.1⟩) (fun hbt => Br.intro (fun h => by cases h) (fun _ => ?_))⟩
  have hl150 := (hfew (by simpa using hbt)).2
  clear cx hfew hbf
  refine exI_mk (fun ep en ec kp kn kc tI iI R' Φ' kk => ∃ (i : Nat) (L : Lay) (C : Cl) (g : Gh) (A : Int → Nat → Nat) (lead : List (Int × Int)) (es : List Value) (known : List RecD), iI = i ∧ i ≤ l.length ∧ L.x = L0.x ∧ en = lead.length ∧ kn = known.length ∧ known.length ≤ kc ∧ (known.length ≤ 4000 ∧ lead.length ≤ 3 * i) ∧
      R' = LO L C ep lead.length ec es R ∧ Φ' = CPhi (SPhi Φ es lead kp known) L C ∧ SInv C g A ∧ SafeF g A lead tI known ∧ kk = l.length - i)
    ⟨⟨LO L0 cl0 none 0 0 [] R, CPhi (SPhi Φ [] [] none []) L0 cl0, _, inferInstance, fun w G cx => (sink (cx.nobuf 40 2)).weak fun M w h => ⟨⟨h.1, Elems.nil, Sl.nil⟩, h.2⟩, 0, L0, cl0, gh0, _, [], [], [], rfl, Nat.zero_le _, rfl, rfl, rfl, Nat.le_refl _, ⟨Nat.zero_le _, Nat.zero_le _⟩, rfl, rfl, sinv0, ⟨fun x hx => (by cases hx), .inl rfl⟩, rfl⟩, ?_⟩
  rintro ep _ ec kp _ kc tI iI R1 Φ1 kk _ ⟨i, L, C, g, A, lead, es, known, rfl, hi, hx, rfl, rfl, hkc, ⟨hk4, hle⟩, rfl, rfl, hinv, hsf, rfl⟩
  refine Br.intro (fun hlt => ?_) (fun hge => fun w G cx => ⟨rfl, cx.left.right.drop1.weak fun M w h => h.1.1⟩)
  have hlt : i < l.length := by have := of_decide_eq_true hlt; omega
  obtain ⟨lb, lo, rfl⟩ := hth (by omega)
  refine ⟨by omega, ptrK_intro lb lo rfl fun w G cx => ⟨l[i].op, l[i].who, l[i].n, l[i].data, by rw [Int.toNat_natCast]; exact sl_op (hΦ _ _ cx.phi.1.1) hlt, fun w G cx => ?_⟩⟩
  obtain ⟨g1, A1, hinv1, haft⟩ := hinv.cluster l[i]
  have hsf1 := hsf.aft haft
  generalize hop : l[i] = op at hinv1
  have hstep := fun K hK => step_use (gl cx) hinv.m.wf op (K := K) hK
  rw [hx] at hstep
  refine hstep _ fun L1 w hx1 cx => ⟨true, rfl, LO L1 (stepC C op) ep lead.length ec es R, CPhi (SPhi Φ es lead kp known) L1 (stepC C op), inferInstance, gr cx, Br.intro (fun h => by cases h) (fun _ => ?_)⟩
  clear hstep cx
  have hx1 : L1.x = L0.x := hx1
  generalize stepC C op = C1 at hinv1
  clear hinv hsf haft
  have hwf := hinv1.m.wf
  rw [← hx1]
  refine exI_mk (fun ep en ec kp kn kc tI kI R' Φ' kk => ∃ (k : Nat) (lead : List (Int × Int)) (es : List Value) (known : List RecD), kI = k ∧ k ≤ 3 ∧ en = lead.length ∧ kn = known.length ∧ known.length ≤ kc ∧ (known.length ≤ 4000 ∧ lead.length ≤ 3 * i + k) ∧
      R' = LO L1 C1 ep lead.length ec es R ∧ Φ' = CPhi (SPhi Φ es lead kp known) L1 C1 ∧ SafeF g1 A1 lead tI known ∧ kk = 3 - k)
    ⟨⟨LO L1 C1 ep lead.length ec es R, CPhi (SPhi Φ es lead kp known) L1 C1, _, inferInstance, fun w G cx => cx, 0, lead, es, known, rfl, Nat.zero_le _, rfl, rfl, hkc, ⟨hk4, hle⟩, rfl, rfl, hsf1, rfl⟩, ?_⟩
  clear hsf1 hkc hk4 hle
  rintro ep _ ec kp _ kc tI kI R1 Φ1 kk _ ⟨k, lead, es, known, rfl, hk, rfl, rfl, hkc, ⟨hk4, hle⟩, rfl, rfl, hsf, rfl⟩
  refine Br.intro (fun hlk => ?_) (fun hge => ?_)
  · have hk3 : k < 3 := by have := of_decide_eq_true hlk; omega
    obtain ⟨hrw, hrid⟩ := hwf.rep k hk3
    refine ptrK_intro L1.x 0 rfl fun w G cx => ?_
    obtain ⟨_, gp, hgp⟩ := lay_at (gl cx)
    have hcl := hrw.ok.commit
    have hll := hrw.ok.len
    refine ⟨L1.rp, 3, L1.rc, cx.get 0 rfl rfl, by omega, ptrK_intro gp 0 hgp fun w G cx => ⟨some ⟨L1.b k, 0, none⟩, ?_, fun w G cx => log_cl (gl cx) hwf hk3 fun q cq w hq1 hq2 cx => ⟨q, _, cq, rfl, LO L1 C1 ep lead.length ec es R, CPhi (MPhi (SPhi Φ es lead kp known) q (C1.nd k).rep.log) L1 C1, inferInstance, gr cx, fun w G cx => ⟨(C1.nd k).rep.commit, fun w' hw => by rw [hw]; exact commit_cl (gl cx) hk3, (C1.nd k).rep.commit, fun _ w' hw => by rw [hw]; exact commit_cl (gl cx) hk3, Br.intro (fun hbad => ?_) (fun _ => fun w G cx => commit_go (gl cx) hk3 fun w cx => ⟨_, rfl, LO L1 C1 ep lead.length ec es R, CPhi (MPhi (SPhi Φ es lead kp known) q (C1.nd k).rep.log) L1 C1, inferInstance, gr cx, by omega, fun w G cx => ?_⟩)⟩⟩⟩⟩
    · rw [Int.toNat_natCast, Nat.zero_add]
      exact cx.bufGet 1 rfl hgp (r_at hk3)
    · simp only [Bool.or_eq_true, decide_eq_true_eq] at hbad
      omega
    rw [sub0, Int.toNat_natCast]
    have hco := hinv1.co k hk3
    have hb := begins_in (Φ := CPhi (MPhi (SPhi Φ es lead kp known) q (C1.nd k).rep.log) L1 C1) kp q kc cq known ((C1.nd k).rep.log.take (C1.nd k).rep.commit) (fun M w h => h.1.1.2.2) (fun M w h => Sl.take h.1.2 _) hkc (by rw [List.length_take]; omega) (by omega)
    have htl : ((C1.nd k).rep.log.take (C1.nd k).rep.commit).length = (C1.nd k).rep.commit := by rw [List.length_take]; omega
    rw [htl, decide_eq_true (by
      rw [List.take_take, Nat.min_eq_left (Nat.min_le_right _ _)]
      rcases Nat.le_total known.length (C1.nd k).rep.commit with e | e
      · rw [Nat.min_eq_left e]
        exact hinv1.sure_cmp hsf.sure hco e
      · rw [Nat.min_eq_right e]
        exact (hinv1.sure_cmp hco hsf.sure e).symm)] at hb
    refine hb.use cx fun w cx => ⟨true, rfl, LO L1 C1 ep lead.length ec es R, CPhi (MPhi (SPhi Φ es lead kp known) q (C1.nd k).rep.log) L1 C1, inferInstance, cx, Br.intro (fun h => by cases h) (fun _ => fun w G cx => commit_go (gl cx) hk3 fun w cx => ⟨_, rfl, LO L1 C1 ep lead.length ec es R, CPhi (MPhi (SPhi Φ es lead kp known) q (C1.nd k).rep.log) L1 C1, inferInstance, gr cx, Br.intro (fun hgr => fun w G cx => ?_) (fun hgr => fun w G cx => ?_)⟩)⟩
    · have hgr : known.length < (C1.nd k).rep.commit := by have := of_decide_eq_true hgr; omega
      have hsf2 : SafeF g1 A1 lead (max tI (C1.nd k).rep.term) ((C1.nd k).rep.log.take (C1.nd k).rep.commit) := ⟨hsf.led, by rw [htl]; exact hco.cut (by omega)⟩
      have hkc2 : ((C1.nd k).rep.log.take (C1.nd k).rep.commit).length ≤ cq := by rw [htl]; omega
      have hk42 : ((C1.nd k).rep.log.take (C1.nd k).rep.commit).length ≤ 4000 := by rw [htl]; omega
      refine commit_go (gl cx) hk3 fun w cx => ⟨_, rfl, LO L1 C1 ep lead.length ec es R, CPhi (MPhi (SPhi Φ es lead kp known) q (C1.nd k).rep.log) L1 C1, inferInstance, gr cx, by omega, fun w G cx => hard_cl (gl cx) hk3 fun w cx => ⟨_, _, rfl, LO L1 C1 ep lead.length ec es R, CPhi (MPhi (SPhi Φ es lead kp known) q (C1.nd k).rep.log) L1 C1, inferInstance, gr cx, fun w G cx => role_go (gl cx) hk3 fun w cx => ⟨_, rfl, LO L1 C1 ep lead.length ec es R, CPhi (MPhi (SPhi Φ es lead q ((C1.nd k).rep.log.take (C1.nd k).rep.commit)) q (C1.nd k).rep.log) L1 C1, inferInstance, (gr cx).weak fun M w h => ⟨⟨⟨h.1.1.1, h.1.1.2.1, Sl.take h.1.2 _⟩, h.1.2⟩, h.2⟩, ?_⟩⟩⟩
      rw [Int.toNat_natCast]
      clear hb hsf hkc hk4
      generalize max tI (C1.nd k).rep.term = t2 at hsf2 ⊢
      generalize (C1.nd k).rep.log.take (C1.nd k).rep.commit = kn2 at htl hsf2 hkc2 hk42 ⊢
      rw [← htl]
      refine Br.intro (fun _ => ⟨by unfold I64; omega, LO L1 C1 ep lead.length ec es R, CPhi (SPhi Φ es lead q kn2) L1 C1, 3 - (k + 1), inferInstance, fun w G cx => cx.weak fun M w h => ⟨h.1.1, h.2⟩, ⟨k + 1, lead, es, kn2, rfl, hk3, rfl, rfl, hkc2, ⟨hk42, by omega⟩, rfl, rfl, hsf2, rfl⟩, by omega⟩) (fun hro => fun w G cx => hard_cl (gl cx) hk3 fun w cx => ⟨_, _, rfl, LO L1 C1 ep lead.length ec es R, CPhi (MPhi (SPhi Φ es lead q kn2) q (C1.nd k).rep.log) L1 C1, inferInstance, gr cx, fun _ => ?_⟩)
      have hro : (C1.nd k).rep.role = 2 := by have := of_decide_eq_false hro; omega
      obtain ⟨hld, hLL⟩ := hinv1.m.lead k hk3 hro
      have ht0 := hrw.ok.term0
      have htM := hrw.ok.termM
      refine exI_mk (fun cI nI R' Φ' kk => ∃ n : Nat, nI = n ∧ n ≤ lead.length ∧ R' = LO L1 C1 ep lead.length ec es R ∧ Φ' = CPhi (MPhi (SPhi Φ es lead q kn2) q (C1.nd k).rep.log) L1 C1 ∧ kk = lead.length - n)
        ⟨⟨LO L1 C1 ep lead.length ec es R, CPhi (MPhi (SPhi Φ es lead q kn2) q (C1.nd k).rep.log) L1 C1, _, inferInstance, fun w G cx => cx, 0, rfl, Nat.zero_le _, rfl, rfl, rfl⟩, ?_⟩
      rintro cI nI R1 Φ1 kk _ ⟨n, rfl, hn, rfl, rfl, hkk⟩
      refine Br.intro (fun hlt => fun w G cx => ?_) (fun _ => Br.intro (fun _ => ?_) (fun _ => ?_))
      · have hnl : n < lead.length := by have := of_decide_eq_true hlt; omega
        have hes := cx.phi.1.1.2.1
        obtain ⟨ge, hge, _⟩ := cx.bufCell 10 rfl (show 0 < es.length by
          have := hes.1
          rw [show (Gv.ty (Int × Int)).size = 2 from rfl] at this
          omega)
        have hec := (cx.bufLen 10 rfl).2
        have hrow := row_of (pair_at hes hnl)
        have hc0 : w.cell? ⟨ge, 0 + (n : Int).toNat * 2, none⟩ = some (.int .i64 lead[n].1) := by
          rw [Int.toNat_natCast, Nat.zero_add]
          exact cx.bufGet 10 rfl hge (hrow 0 (by simp))
        have hc1 : w.cell? ⟨ge, 0 + (n : Int).toNat * 2 + 1, none⟩ = some (.int .i64 lead[n].2) := by
          rw [Int.toNat_natCast, Nat.zero_add]
          exact cx.bufGet 10 rfl hge (hrow 1 (by simp))
        have hmx : lead.length ≤ 9223372036854775807 := Nat.le_trans hec.1 (Nat.le_trans hec.2 (by decide))
        refine ⟨by omega, ptrK_intro ge 0 hge ⟨lead[n].1, hc0, fun _ => by omega, ptrK_intro ge 0 hge ⟨lead[n].2, fun _ => hc1, Br.intro (fun hbad => ?_) (fun _ => fun w G cx => ⟨fun _ => by omega, ptrK_intro ge 0 hge ⟨lead[n].1, lead[n].2, fun _ => ?_, okAgg40, by unfold I64; omega, LO L1 C1 ep lead.length ec es R, CPhi (MPhi (SPhi Φ es lead q kn2) q (C1.nd k).rep.log) L1 C1, lead.length - (n + 1), inferInstance, fun w G cx => cx, ⟨n + 1, rfl, hnl, rfl, rfl, rfl⟩, by omega⟩⟩)⟩⟩⟩
        · simp only [Bool.and_eq_true, decide_eq_true_eq] at hbad
          obtain ⟨e1, e2⟩ := hbad
          have := (hsf2.led lead[n] (List.getElem_mem hnl)).1
          rw [e1, hld] at this
          exact absurd this.symm e2
        · rw [Int.toNat_natCast, Nat.zero_add]
          exact cx.bufRow 10 rfl hge hrow
      · intro k1 w G cx
        have hec := (cx.bufLen 11 rfl).2
        obtain ⟨T, hT⟩ : ∃ T, (C1.nd k).rep.term = T := ⟨_, rfl⟩
        have cx1 : Ctx W w (.blk k1 [.int .i64 (C1.nd k).rep.term, .int .i64 k] 40 :: .buf ep lead.length ec es 40 2 :: (clO L1 C1 ++ (R ++ G))) (CPhi (MPhi (SPhi Φ es lead q kn2) q (C1.nd k).rep.log) L1 C1) := cx.perm (List.Perm.cons _ ((List.Perm.of_eq (List.append_assoc _ _ _)).trans (List.perm_middle (l₁ := clO L1 C1))))
        obtain ⟨p', cap', w', hrun, _, cx'⟩ := Ctx.app1 (P := Try.prog) (ts := 69) (ty := 69) (kb := #[false, false]) (size := 2) (bytes := 16) cx1 (by kernel_rfl) (by omega) rfl rfl (by omega) (by omega)
        have cx2 : Ctx W w' (LO L1 C1 p' (lead ++ [((C1.nd k).rep.term, (k : Int))]).length cap' (es ++ [.int .i64 (C1.nd k).rep.term, .int .i64 k]) R ++ G) (CPhi (MPhi (SPhi Φ (es ++ [.int .i64 (C1.nd k).rep.term, .int .i64 k]) (lead ++ [((C1.nd k).rep.term, (k : Int))]) q kn2) q (C1.nd k).rep.log) L1 C1) := by
          rw [List.length_append]
          refine (cx'.perm ((List.perm_middle (l₁ := clO L1 C1)).symm.trans (List.Perm.of_eq (by simp)))).weak fun M w h => ⟨⟨⟨h.1.1.1, h.1.1.2.1.snoc (rep_pair (by unfold I64; omega) (by unfold I64; omega)), h.1.1.2.2⟩, h.1.2⟩, h.2⟩
        have hsf3 : SafeF g1 A1 (lead ++ [((C1.nd k).rep.term, (k : Int))]) t2 kn2 := ⟨fun x hx => by
          rcases List.mem_append.1 hx with hx | hx
          · exact hsf2.led x hx
          · rw [List.mem_singleton.1 hx]
            exact ⟨hld, by show g1.ld (C1.nd k).rep.term ≠ -1; rw [hld]; omega⟩, hsf2.sure⟩
        refine ⟨p', lead.length + 1, cap', w', hrun, LO L1 C1 p' (lead ++ [((C1.nd k).rep.term, (k : Int))]).length cap' (es ++ [.int .i64 (C1.nd k).rep.term, .int .i64 k]) R, CPhi (MPhi (SPhi Φ (es ++ [.int .i64 (C1.nd k).rep.term, .int .i64 k]) (lead ++ [((C1.nd k).rep.term, (k : Int))]) q kn2) q (C1.nd k).rep.log) L1 C1, inferInstance, cx2, Br.intro (fun hlt => ?_) (fun _ => ?_)⟩
        · have hlt : t2 < (C1.nd k).rep.term := of_decide_eq_true hlt
          obtain ⟨z1, z2⟩ := hinv1.lead_has hsf2.sure hlt (by rw [hld]; omega)
          rw [hLL] at z1 z2
          refine Br.intro (fun hbad => by have := of_decide_eq_true hbad; omega) (fun _ => fun w G cx => ?_)
          have hb2 := begins_in (Φ := CPhi (MPhi (SPhi Φ (es ++ [.int .i64 (C1.nd k).rep.term, .int .i64 k]) (lead ++ [((C1.nd k).rep.term, (k : Int))]) q kn2) q (C1.nd k).rep.log) L1 C1) q q cq cq kn2 (C1.nd k).rep.log (fun M w h => h.1.1.2.2) (fun M w h => h.1.2) hkc2 hq1 (by omega)
          rw [decide_eq_true (by rw [Nat.min_eq_left z1, z2])] at hb2
          exact hb2.use cx fun w cx => ⟨true, rfl, _, _, inferInstance, cx, Br.intro (fun h => by cases h) (fun _ => ⟨by unfold I64; omega, LO L1 C1 p' (lead ++ [((C1.nd k).rep.term, (k : Int))]).length cap' (es ++ [.int .i64 (C1.nd k).rep.term, .int .i64 k]) R, CPhi (SPhi Φ (es ++ [.int .i64 (C1.nd k).rep.term, .int .i64 k]) (lead ++ [((C1.nd k).rep.term, (k : Int))]) q kn2) L1 C1, 3 - (k + 1), inferInstance, fun w G cx => cx.weak fun M w h => ⟨h.1.1, h.2⟩, ⟨k + 1, _, _, kn2, rfl, hk3, by simp, rfl, hkc2, ⟨hk42, by simp; omega⟩, rfl, rfl, hsf3, rfl⟩, by omega⟩)⟩
        · exact ⟨by unfold I64; omega, LO L1 C1 p' (lead ++ [((C1.nd k).rep.term, (k : Int))]).length cap' (es ++ [.int .i64 (C1.nd k).rep.term, .int .i64 k]) R, CPhi (SPhi Φ (es ++ [.int .i64 (C1.nd k).rep.term, .int .i64 k]) (lead ++ [((C1.nd k).rep.term, (k : Int))]) q kn2) L1 C1, 3 - (k + 1), inferInstance, fun w G cx => cx.weak fun M w h => ⟨h.1.1, h.2⟩, ⟨k + 1, _, _, kn2, rfl, hk3, by simp, rfl, hkc2, ⟨hk42, by simp; omega⟩, rfl, rfl, hsf3, rfl⟩, by omega⟩
      · exact ⟨by unfold I64; omega, LO L1 C1 ep lead.length ec es R, CPhi (SPhi Φ es lead q kn2) L1 C1, 3 - (k + 1), inferInstance, fun w G cx => cx.weak fun M w h => ⟨h.1.1, h.2⟩, ⟨k + 1, lead, es, kn2, rfl, hk3, rfl, rfl, hkc2, ⟨hk42, by omega⟩, rfl, rfl, hsf2, rfl⟩, by omega⟩
    · have hsf2 := hsf
      have hkc2 := hkc
      have hk42 := hk4
      refine role_go (gl cx) hk3 fun w cx => ⟨_, rfl, LO L1 C1 ep lead.length ec es R, CPhi (MPhi (SPhi Φ es lead kp known) q (C1.nd k).rep.log) L1 C1, inferInstance, gr cx, ?_⟩
      clear hb hsf hkc hk4
      generalize known = kn2 at *
      generalize tI = t2 at *
      refine Br.intro (fun _ => ⟨by unfold I64; omega, LO L1 C1 ep lead.length ec es R, CPhi (SPhi Φ es lead kp kn2) L1 C1, 3 - (k + 1), inferInstance, fun w G cx => cx.weak fun M w h => ⟨h.1.1, h.2⟩, ⟨k + 1, lead, es, kn2, rfl, hk3, rfl, rfl, hkc2, ⟨hk42, by omega⟩, rfl, rfl, hsf2, rfl⟩, by omega⟩) (fun hro => fun w G cx => hard_cl (gl cx) hk3 fun w cx => ⟨_, _, rfl, LO L1 C1 ep lead.length ec es R, CPhi (MPhi (SPhi Φ es lead kp kn2) q (C1.nd k).rep.log) L1 C1, inferInstance, gr cx, fun _ => ?_⟩)
      have hro : (C1.nd k).rep.role = 2 := by have := of_decide_eq_false hro; omega
      obtain ⟨hld, hLL⟩ := hinv1.m.lead k hk3 hro
      have ht0 := hrw.ok.term0
      have htM := hrw.ok.termM
      refine exI_mk (fun cI nI R' Φ' kk => ∃ n : Nat, nI = n ∧ n ≤ lead.length ∧ R' = LO L1 C1 ep lead.length ec es R ∧ Φ' = CPhi (MPhi (SPhi Φ es lead kp kn2) q (C1.nd k).rep.log) L1 C1 ∧ kk = lead.length - n)
        ⟨⟨LO L1 C1 ep lead.length ec es R, CPhi (MPhi (SPhi Φ es lead kp kn2) q (C1.nd k).rep.log) L1 C1, _, inferInstance, fun w G cx => cx, 0, rfl, Nat.zero_le _, rfl, rfl, rfl⟩, ?_⟩
      rintro cI nI R1 Φ1 kk _ ⟨n, rfl, hn, rfl, rfl, hkk⟩
      refine Br.intro (fun hlt => fun w G cx => ?_) (fun _ => Br.intro (fun _ => ?_) (fun _ => ?_))
      · have hnl : n < lead.length := by have := of_decide_eq_true hlt; omega
        have hes := cx.phi.1.1.2.1
        obtain ⟨ge, hge, _⟩ := cx.bufCell 10 rfl (show 0 < es.length by
          have := hes.1
          rw [show (Gv.ty (Int × Int)).size = 2 from rfl] at this
          omega)
        have hec := (cx.bufLen 10 rfl).2
        have hrow := row_of (pair_at hes hnl)
        have hc0 : w.cell? ⟨ge, 0 + (n : Int).toNat * 2, none⟩ = some (.int .i64 lead[n].1) := by
          rw [Int.toNat_natCast, Nat.zero_add]
          exact cx.bufGet 10 rfl hge (hrow 0 (by simp))
        have hc1 : w.cell? ⟨ge, 0 + (n : Int).toNat * 2 + 1, none⟩ = some (.int .i64 lead[n].2) := by
          rw [Int.toNat_natCast, Nat.zero_add]
          exact cx.bufGet 10 rfl hge (hrow 1 (by simp))
        have hmx : lead.length ≤ 9223372036854775807 := Nat.le_trans hec.1 (Nat.le_trans hec.2 (by decide))
        refine ⟨by omega, ptrK_intro ge 0 hge ⟨lead[n].1, hc0, fun _ => by omega, ptrK_intro ge 0 hge ⟨lead[n].2, fun _ => hc1, Br.intro (fun hbad => ?_) (fun _ => fun w G cx => ⟨fun _ => by omega, ptrK_intro ge 0 hge ⟨lead[n].1, lead[n].2, fun _ => ?_, okAgg40, by unfold I64; omega, LO L1 C1 ep lead.length ec es R, CPhi (MPhi (SPhi Φ es lead kp kn2) q (C1.nd k).rep.log) L1 C1, lead.length - (n + 1), inferInstance, fun w G cx => cx, ⟨n + 1, rfl, hnl, rfl, rfl, rfl⟩, by omega⟩⟩)⟩⟩⟩
        · simp only [Bool.and_eq_true, decide_eq_true_eq] at hbad
          obtain ⟨e1, e2⟩ := hbad
          have := (hsf2.led lead[n] (List.getElem_mem hnl)).1
          rw [e1, hld] at this
          exact absurd this.symm e2
        · rw [Int.toNat_natCast, Nat.zero_add]
          exact cx.bufRow 10 rfl hge hrow
      · intro k1 w G cx
        have hec := (cx.bufLen 11 rfl).2
        obtain ⟨T, hT⟩ : ∃ T, (C1.nd k).rep.term = T := ⟨_, rfl⟩
        have cx1 : Ctx W w (.blk k1 [.int .i64 (C1.nd k).rep.term, .int .i64 k] 40 :: .buf ep lead.length ec es 40 2 :: (clO L1 C1 ++ (R ++ G))) (CPhi (MPhi (SPhi Φ es lead kp kn2) q (C1.nd k).rep.log) L1 C1) := cx.perm (List.Perm.cons _ ((List.Perm.of_eq (List.append_assoc _ _ _)).trans (List.perm_middle (l₁ := clO L1 C1))))
        obtain ⟨p', cap', w', hrun, _, cx'⟩ := Ctx.app1 (P := Try.prog) (ts := 69) (ty := 69) (kb := #[false, false]) (size := 2) (bytes := 16) cx1 (by kernel_rfl) (by omega) rfl rfl (by omega) (by omega)
        have cx2 : Ctx W w' (LO L1 C1 p' (lead ++ [((C1.nd k).rep.term, (k : Int))]).length cap' (es ++ [.int .i64 (C1.nd k).rep.term, .int .i64 k]) R ++ G) (CPhi (MPhi (SPhi Φ (es ++ [.int .i64 (C1.nd k).rep.term, .int .i64 k]) (lead ++ [((C1.nd k).rep.term, (k : Int))]) kp kn2) q (C1.nd k).rep.log) L1 C1) := by
          rw [List.length_append]
          refine (cx'.perm ((List.perm_middle (l₁ := clO L1 C1)).symm.trans (List.Perm.of_eq (by simp)))).weak fun M w h => ⟨⟨⟨h.1.1.1, h.1.1.2.1.snoc (rep_pair (by unfold I64; omega) (by unfold I64; omega)), h.1.1.2.2⟩, h.1.2⟩, h.2⟩
        have hsf3 : SafeF g1 A1 (lead ++ [((C1.nd k).rep.term, (k : Int))]) t2 kn2 := ⟨fun x hx => by
          rcases List.mem_append.1 hx with hx | hx
          · exact hsf2.led x hx
          · rw [List.mem_singleton.1 hx]
            exact ⟨hld, by show g1.ld (C1.nd k).rep.term ≠ -1; rw [hld]; omega⟩, hsf2.sure⟩
        refine ⟨p', lead.length + 1, cap', w', hrun, LO L1 C1 p' (lead ++ [((C1.nd k).rep.term, (k : Int))]).length cap' (es ++ [.int .i64 (C1.nd k).rep.term, .int .i64 k]) R, CPhi (MPhi (SPhi Φ (es ++ [.int .i64 (C1.nd k).rep.term, .int .i64 k]) (lead ++ [((C1.nd k).rep.term, (k : Int))]) kp kn2) q (C1.nd k).rep.log) L1 C1, inferInstance, cx2, Br.intro (fun hlt => ?_) (fun _ => ?_)⟩
        · have hlt : t2 < (C1.nd k).rep.term := of_decide_eq_true hlt
          obtain ⟨z1, z2⟩ := hinv1.lead_has hsf2.sure hlt (by rw [hld]; omega)
          rw [hLL] at z1 z2
          refine Br.intro (fun hbad => by have := of_decide_eq_true hbad; omega) (fun _ => fun w G cx => ?_)
          have hb2 := begins_in (Φ := CPhi (MPhi (SPhi Φ (es ++ [.int .i64 (C1.nd k).rep.term, .int .i64 k]) (lead ++ [((C1.nd k).rep.term, (k : Int))]) kp kn2) q (C1.nd k).rep.log) L1 C1) kp q kc cq kn2 (C1.nd k).rep.log (fun M w h => h.1.1.2.2) (fun M w h => h.1.2) hkc2 hq1 (by omega)
          rw [decide_eq_true (by rw [Nat.min_eq_left z1, z2])] at hb2
          exact hb2.use cx fun w cx => ⟨true, rfl, _, _, inferInstance, cx, Br.intro (fun h => by cases h) (fun _ => ⟨by unfold I64; omega, LO L1 C1 p' (lead ++ [((C1.nd k).rep.term, (k : Int))]).length cap' (es ++ [.int .i64 (C1.nd k).rep.term, .int .i64 k]) R, CPhi (SPhi Φ (es ++ [.int .i64 (C1.nd k).rep.term, .int .i64 k]) (lead ++ [((C1.nd k).rep.term, (k : Int))]) kp kn2) L1 C1, 3 - (k + 1), inferInstance, fun w G cx => cx.weak fun M w h => ⟨h.1.1, h.2⟩, ⟨k + 1, _, _, kn2, rfl, hk3, by simp, rfl, hkc2, ⟨hk42, by simp; omega⟩, rfl, rfl, hsf3, rfl⟩, by omega⟩)⟩
        · exact ⟨by unfold I64; omega, LO L1 C1 p' (lead ++ [((C1.nd k).rep.term, (k : Int))]).length cap' (es ++ [.int .i64 (C1.nd k).rep.term, .int .i64 k]) R, CPhi (SPhi Φ (es ++ [.int .i64 (C1.nd k).rep.term, .int .i64 k]) (lead ++ [((C1.nd k).rep.term, (k : Int))]) kp kn2) L1 C1, 3 - (k + 1), inferInstance, fun w G cx => cx.weak fun M w h => ⟨h.1.1, h.2⟩, ⟨k + 1, _, _, kn2, rfl, hk3, by simp, rfl, hkc2, ⟨hk42, by simp; omega⟩, rfl, rfl, hsf3, rfl⟩, by omega⟩
      · exact ⟨by unfold I64; omega, LO L1 C1 ep lead.length ec es R, CPhi (SPhi Φ es lead kp kn2) L1 C1, 3 - (k + 1), inferInstance, fun w G cx => cx.weak fun M w h => ⟨h.1.1, h.2⟩, ⟨k + 1, lead, es, kn2, rfl, hk3, rfl, rfl, hkc2, ⟨hk42, by omega⟩, rfl, rfl, hsf2, rfl⟩, by omega⟩
  · have hk3 : k = 3 := by have := of_decide_eq_false hge; omega
    exact ⟨by unfold I64; omega, LO L1 C1 ep lead.length ec es R, CPhi (SPhi Φ es lead kp known) L1 C1, l.length - (i + 1), inferInstance, fun w G cx => cx, ⟨i + 1, L1, C1, g1, A1, lead, es, known, rfl, hlt, rfl, rfl, rfl, hkc, ⟨hk4, by omega⟩, rfl, rfl, hinv1, hsf, rfl⟩, by omega⟩

end Go.Proofs.Ytifgijoeckoojaa
end

section
set_option linter.unusedVariables false
set_option linter.unusedSimpArgs false
namespace Go.Proofs.Ytifgijoeckoojaa
open Go.ChangeShapes Go.WideShapes Go.ChangeAt Go.RowKit Go.Vc

theorem rp_own : ownKnob Try.prog.godebug = none := by kernel_rfl
theorem rp_laid : laidOutB Try.prog = true := by kernel_rfl
theorem len_max {n c : Nat} (h1 : n ≤ c) (h2 : c ≤ maxLen) : n ≤ 9223372036854775807 := Nat.le_trans h1 (Nat.le_trans h2 (by decide))

set_option maxRecDepth 100000 in
theorem safe_lifted (os : Os) (started : os.Started) (H : Type) (enc : TypeId × Value → H) :
    ReturnsInHanded {} Try.checked os 6 .any (Rows.replicaSafeSpec.pre6 enc Try.prog Try.f6 Rows.replicaSafeRow.domain false) (Rows.replicaSafeSpec.post enc Try.prog Try.f6 false true false false) := by
  refine lawTrue (C := Try.checked) (tb := 4) rp_own started (by kernel_rfl) Try.func6 rp_laid rfl ?_ rfl Try.underlying4 (by kernel_rfl)
    (ChangeSpec.witness6 (enc := enc) (C := Try.checked) false ⟨#[], #[.slice none 0 0], []⟩ 8 (by kernel_rfl) (by kernel_rfl) (by kernel_rfl) (by kernel_rfl)) ?_
  · intro ds hd
    match ds, hd with
    | [_], _ => exact ⟨rfl, rfl, rfl⟩
  · intro W base args ds p hval0 hA0 _
    have hval : ∀ (j : Nat) t v, Try.f6.params[j]? = some t → args[j]? = some v → Value.okWide Try.prog W .any base t v := hval0
    have hA : DataW.TrodAll enc Try.prog W 0 (fun _ => true) true Try.f6.params.toList args.toList ds p := hA0
    rw [Try.params6] at hA hval
    obtain ⟨v0, d0, rfl, rfl, h0⟩ := trodAll_one hA
    obtain ⟨lp, lcap, l, rfl, hl1, hl2, hs⟩ := open_sl (α := OpR) 12 Try.underlying22 (hval 0 22 v0 rfl rfl) (by kernel_rfl) h0
    exact (Safe_in (Φ := fun M w => Sl M w lp l) lp lcap l (fun _ _ h => h) (len_max hl1 hl2)).law hs

theorem safe_holds : Rows.ReplicaSafeSaid :=
  OpenClaim.holds_of_wide 6 Try.f6 rfl rfl rfl rfl rfl rfl rfl ⟨rfl, rfl, rfl, rfl, rfl⟩ rfl rfl rfl rfl rfl (by kernel_rfl) Try.func6 (by kernel_rfl)
    (of_decide_eq_true (by kernel_rfl)) (by unfold Func.isWrapper; first | (rw [if_pos (by decide +kernel)]; kernel_rfl) | (rw [if_neg (by decide +kernel)]; exact ⟨rfl, rfl⟩))
    (fun os started H enc _ => safe_lifted os started H enc)

end Go.Proofs.Ytifgijoeckoojaa
end

