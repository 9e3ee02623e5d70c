/-
  ReplicaMatches, walked.
-/
import Derived.Test.YtifgijoeckoojaaMd
set_option linter.unusedVariables false
set_option linter.unusedSimpArgs false
namespace Go.Proofs.Ytifgijoeckoojaa
open Go.Vc

/-! ### terms never decrease -/
def UpC (C C' : Cl) : Prop := ∀ j, j < 3 → (C.nd j).rep.term ≤ (C'.nd j).rep.term
theorem VStep.upc {C C' : Cl} (s : VStep C C') : UpC C C' := fun j hj => (s.up j hj).1

theorem arrive_up {C : Cl} (h : C.Wf) (n : Int) (keep : Bool) : UpC C (arriveC C n keep) := by
  unfold arriveC
  split
  · exact fun j hj => Int.le_refl _
  · rename_i m hm
    have hlt := (List.getElem?_eq_some_iff.1 hm).1
    cases keep with
    | true => exact (deliver_v h m).upc
    | false => exact fun j hj => Int.le_trans ((drop_v h hlt).upc j hj) ((deliver_v (drop_wf h hlt) m).upc j hj)

theorem step_up {C : Cl} (h : C.Wf) (x : OpR) : UpC C (stepC C x) := by
  have hi := who_lt x.who
  have hrw := (h.rep _ hi).1
  unfold stepC
  simp only
  split
  · unfold loseC
    split
    · exact fun j hj => Int.le_refl _
    · exact fun j hj => Int.le_refl _
  split
  · exact arrive_up h _ _
  split
  · have := tick_wf hrw
    exact (call_v h hi this.1 this.2 (tick_v _)).upc
  split
  · have := propose_wf hrw x.data
    exact (call_v (x := ((proposeP (C.nd (pickZ x.who 3).toNat).rep x.data).1, (proposeP (C.nd (pickZ x.who 3).toNat).rep x.data).2.2.2)) h hi this.1 this.2 (prop_v _ _)).upc
  split
  · exact (start_v h hi).upc
  split
  · intro j hj
    by_cases hji : j = (pickZ x.who 3).toNat
    · subst hji
      unfold stopC ndC
      simp only [put_self]
      exact Int.le_refl _
    · unfold stopC ndC
      simp only [put_ne _ _ hji]
      exact Int.le_refl _
  · exact arrive_up h _ _

/-! ### where it lies -/
abbrev tC (ts : Nat → Int) : List Value := [.int .i64 (ts 0), .int .i64 (ts 1), .int .i64 (ts 2)]
abbrev TO (L : Lay) (C : Cl) (tb : Nat) (ts : Nat → Int) (R : List Own) : List Own := clO L C ++ .blk tb (tC ts) 3 :: R

theorem t_at (ts : Nat → Int) {k : Nat} (hk : k < 3) : (tC ts)[k]? = some (.int .i64 (ts k)) := by
  match k, hk with
  | 0, _ => rfl
  | 1, _ => rfl
  | 2, _ => rfl

theorem t_set (ts : Nat → Int) {k : Nat} (hk : k < 3) (v : Int) : (tC ts).set k (.int .i64 v) = tC (put ts k v) := by
  match k, hk with
  | 0, _ => rfl
  | 1, _ => rfl
  | 2, _ => rfl

theorem sub_xs {W w : World} {L : Lay} {C : Cl} {T F : List Own} {Ψ : PW} [Stable Ψ] (cx : Ctx W w (clO L C ++ T ++ F) Ψ) : Ctx W w ([.blk L.x (xCells L C) 34, .buf L.sp 3 L.sc (sCells L C) 42 4] ++ F) (fun _ _ => True) := by
  have cx1 : Ctx W w (heads L C ++ (repsO L C ++ T ++ F)) (fun _ _ => True) := (cx.weak fun _ _ _ => trivial).re (by simp)
  exact cx1.sub (List.Sublist.cons_cons _ (List.Sublist.cons _ (List.Sublist.cons_cons _ (List.Sublist.cons _ (List.sublist_append_right _ _)))))

theorem sub_t {W w : World} {L : Lay} {C : Cl} {tb : Nat} {ts : Nat → Int} {R F : List Own} {Ψ : PW} [Stable Ψ] (cx : Ctx W w (TO L C tb ts R ++ F) Ψ) : Ctx W w ([.blk tb (tC ts) 3] ++ F) (fun _ _ => True) :=
  ((lift cx).weak fun _ _ _ => trivial).sub (List.Sublist.cons_cons _ (List.sublist_append_right _ _))

theorem hard_cl {W w : World} {L : Lay} {C : Cl} {G : List Own} {Φ : PW} [Stable Φ] (cx : Ctx W w (clO L C ++ G) Φ) {k : Nat} (hk : k < 3) {K : Ending → World → Prop} (hK : ∀ w', Ctx W w' (clO L C ++ G) Φ → K (.returned (.agg #[.int .i64 (C.nd k).rep.term, .int .i64 (C.nd k).rep.vote])) w') :
    Calls Try.prog F.replica_Replica_Hard #[.pointer (some ⟨L.b k, 0, none⟩)] w K :=
  Hard_use (focus hk cx) fun w cx => hK w (unfocus hk cx)

theorem log_cl {W w : World} {L : Lay} {C : Cl} {G : List Own} {Φ : PW} [Stable Φ] (cx : Ctx W w (clO L C ++ G) (CPhi Φ L C)) (h : C.Wf) {k : Nat} (hk : k < 3) {K : Ending → World → Prop} (hK : ∀ q cap w', (C.nd k).rep.log.length ≤ cap → cap ≤ maxLen → Ctx W w' (clO L C ++ G) (CPhi (MPhi Φ q (C.nd k).rep.log) L C) → K (.returned (.slice q (C.nd k).rep.log.length cap)) w') :
    Calls Try.prog F.replica_Replica_Log #[.pointer (some ⟨L.b k, 0, none⟩)] w K :=
  Log_use (focus hk cx) (h.rep k hk).1.ok.recs (h.rep k hk).1.ok.len fun q cap w h1 h2 cx => hK q cap w h1 h2 (by
    have hst : Stable (fun M w => CPhi Φ L C M w ∧ Sl M w q (C.nd k).rep.log) := instStableAnd (CPhi Φ L C) (fun M w => Sl M w q (C.nd k).rep.log)
    exact (unfocus hk cx).weak fun M w h => ⟨⟨h.1.1, h.2⟩, h.1.2⟩)

set_option maxHeartbeats 8000000 in
set_option maxRecDepth 20000 in
theorem Matches_in {Φ : PW} [Stable Φ] (p : Option Addr) (cap : Nat) (l : List OpR) (hΦ : ∀ M w, Φ M w → Sl M w p l) (hlen : l.length ≤ 9223372036854775807) :
    GivesIn Φ Try.prog F.erratalaw08_ReplicaMatches #[.slice p l.length cap] (.bool true) := by
  refine .there (fun M w h => (hΦ M w h).there) fun hth => ?_
  refine gives_in (Berratalaw08_ReplicaMatches_run p l.length cap) fun W R => ?_
  refine fun w G cx => small_g.use cx fun w cx => ⟨true, rfl, R, Φ, inferInstance, cx, fun w G cx => begin_use cx fun L0 w cx => ⟨some ⟨L0.x, 0, none⟩, rfl, clO L0 cl0 ++ R, CPhi Φ L0 cl0, inferInstance, gr cx, fun w G cx => ?_⟩⟩
  obtain ⟨bf, hbf, hfew⟩ := few_in (Φ := CPhi Φ L0 cl0) p cap l 150 (fun M w h => hΦ M w h.1) hlen
  refine hbf.use cx fun w cx => ⟨bf, rfl, clO L0 cl0 ++ R, CPhi Φ L0 cl0, inferInstance, cx, Br.intro (fun h => fun w G cx w G cx => ⟨rfl, cx.left.right.weak fun M w h => h.1⟩) (fun h => Br.intro (fun h => by cases h) (fun _ tb => ?_))⟩
  clear cx hfew hbf
  refine exI_mk (fun iI R' Φ' kk => ∃ (i : Nat) (L : Lay) (C : Cl) (g : Gh) (ts : Nat → Int), iI = i ∧ i ≤ l.length ∧ L.x = L0.x ∧ R' = TO L C tb ts R ∧ Φ' = CPhi Φ L C ∧ MInv C g ∧ (∀ j, j < 3 → ts j ≤ (C.nd j).rep.term) ∧ kk = l.length - i)
    ⟨⟨TO L0 cl0 tb (fun _ => 0) R, CPhi Φ L0 cl0, _, inferInstance, fun w G cx => sink cx, 0, L0, cl0, _, fun _ => 0, rfl, Nat.zero_le _, rfl, rfl, rfl, minv0, fun j hj => Int.le_refl _, rfl⟩, ?_⟩
  rintro iI R1 Φ1 kk _ ⟨i, L, C, g, ts, rfl, hi, hx, rfl, rfl, hinv, hts, rfl⟩
  refine Br.intro (fun hlt => ?_) (fun hge => fun w G cx => ⟨rfl, cx.left.right.drop1.weak fun M w h => h.1⟩)
  have hlt : i < l.length := by have := of_decide_eq_true hlt; omega
  obtain ⟨lb, lo, rfl⟩ := hth (by omega)
  refine ⟨by omega, ptrK_intro lb lo rfl fun w G cx => ⟨l[i].op, l[i].who, l[i].n, l[i].data, by rw [Int.toNat_natCast]; exact sl_op (hΦ _ _ cx.phi.1) hlt, fun w G cx => ?_⟩⟩
  obtain ⟨g1, hinv1⟩ := hinv.cluster l[i]
  have hup := step_up hinv.wf l[i]
  generalize hop : l[i] = op at hinv1 hup
  have hstep := fun K hK => step_use (gl cx) hinv.wf op (K := K) hK
  rw [hx] at hstep
  refine hstep _ fun L1 w hx1 cx => ⟨true, rfl, TO L1 (stepC C op) tb ts R, CPhi Φ L1 (stepC C op), inferInstance, gr cx, Br.intro (fun h => by cases h) (fun _ => ?_)⟩
  clear hstep cx
  have hx1 : L1.x = L0.x := hx1
  have hts1 : ∀ j, j < 3 → ts j ≤ ((stepC C op).nd j).rep.term := fun j hj => Int.le_trans (hts j hj) (hup j hj)
  generalize stepC C op = C1 at hinv1 hts1
  clear hts hup hinv
  have hwf := hinv1.wf
  rw [← hx1]
  refine exI_mk (fun kI R' Φ' kk => ∃ (k : Nat) (ts : Nat → Int), kI = k ∧ k ≤ 3 ∧ R' = TO L1 C1 tb ts R ∧ Φ' = CPhi Φ L1 C1 ∧ (∀ j, j < 3 → ts j ≤ (C1.nd j).rep.term) ∧ kk = 3 - k)
    ⟨⟨TO L1 C1 tb ts R, CPhi Φ L1 C1, _, inferInstance, fun w G cx => cx, 0, ts, rfl, Nat.zero_le _, rfl, rfl, hts1, rfl⟩, ?_⟩
  clear hts1
  rintro kI R1 Φ1 kk _ ⟨k, ts, rfl, hk, rfl, rfl, hts, rfl⟩
  refine Br.intro (fun hlk => ?_) (fun hge => ?_)
  · have hk3 : k < 3 := by have := of_decide_eq_true hlk; omega
    obtain ⟨q1, q2, q3⟩ := hwf.hard k hk3
    refine ptrK_intro L1.x 0 rfl fun w G cx => ?_
    obtain ⟨⟨gs, hgs⟩, gp, hgp⟩ := lay_at (gl cx)
    have hptr : ∀ {w : World} {F : List Own} {ts : Nat → Int} {Ψ : PW} {n : Nat}, n < 3 → Ctx W w (TO L1 C1 tb ts R ++ F) Ψ → w.cell? ⟨gp, 0 + (n : Int).toNat, none⟩ = some (.pointer (some ⟨L1.b n, 0, none⟩)) := fun hn cx => by
      rw [Int.toNat_natCast, Nat.zero_add]
      exact cx.bufGet 1 rfl hgp (r_at hn)
    refine ⟨L1.rp, 3, L1.rc, cx.get 0 rfl rfl, by omega, ptrK_intro gp 0 hgp fun w G cx => ⟨some ⟨L1.b k, 0, none⟩, hptr hk3 cx, [.blk L1.x (xCells L1 C1) 34, .buf L1.sp 3 L1.sc (sCells L1 C1) 42 4], fun _ _ => True, inferInstance, fun w F cx => sub_xs cx, ptrK_intro L1.x 0 rfl ⟨L1.sp, 3, L1.sc, fun w F cx => ⟨L1.sp, 3, L1.sc, cx.get 0 rfl rfl, rfl⟩, by omega, ptrK_intro gs 0 hgs ⟨(C1.nd k).sterm, (C1.nd k).svote, fun w F cx => ⟨(C1.nd k).sterm, (C1.nd k).svote, ?_, rfl⟩, fun w F cx => hard_cl (gl cx) hk3 fun w cx => ?_⟩⟩⟩⟩
    · rw [Int.toNat_natCast, Nat.zero_add]
      refine cx.bufRow 1 rfl hgs (fun j hj => ?_)
      have : (nodeS (C1.nd k) (L1.lp k) (L1.lc k))[j]? = some [Value.int .i64 (C1.nd k).sterm, Value.int .i64 (C1.nd k).svote][j] := by
        match j, hj with
        | 0, _ => rfl
        | 1, _ => rfl
      exact s_at hk3 (by simp at hj; omega) this
    refine ⟨_, _, rfl, TO L1 C1 tb ts R, CPhi Φ L1 C1, inferInstance, gr cx, fun w F cx => sub_xs cx, [.blk L1.x (xCells L1 C1) 34, .buf L1.sp 3 L1.sc (sCells L1 C1) 42 4], fun _ _ => True, inferInstance, fun w F cx => sub_xs cx, okAgg40, Br.intro (fun hbad => ?_) (fun _ => ?_)⟩
    · rw [q1, q2] at hbad
      simp at hbad
    refine ptrK_intro L1.x 0 rfl ⟨L1.sp, 3, L1.sc, fun w F cx => ⟨L1.sp, 3, L1.sc, cx.get 0 rfl rfl, rfl⟩, by omega, ptrK_intro gs 0 hgs ⟨L1.lp k, (C1.nd k).slog.length, L1.lc k, fun w F cx => ⟨L1.lp k, (C1.nd k).slog.length, L1.lc k, ?_, rfl⟩, fun w F cx => log_cl (gl cx) hwf hk3 fun q cq w hq1 hq2 cx => ?_⟩⟩
    · rw [Int.toNat_natCast, Nat.zero_add]
      exact cx.bufGet 1 rfl hgs (s_at hk3 (by decide) rfl)
    refine ⟨q, _, cq, rfl, TO L1 C1 tb ts R, CPhi (MPhi Φ q (C1.nd k).rep.log) L1 C1, inferInstance, gr cx, fun w F cx => sub_xs cx, fun w F cx => ?_⟩
    refine (SameRecs_in (Φ := CPhi (MPhi Φ q (C1.nd k).rep.log) L1 C1) q (L1.lp k) cq (L1.lc k) (C1.nd k).rep.log (C1.nd k).slog (fun M w h => h.1.2) (fun M w h => h.2.log hk3) (by have := (hwf.rep k hk3).1.ok.len; omega)).use cx fun w cx => ?_
    refine ⟨_, rfl, TO L1 C1 tb ts R, CPhi Φ L1 C1, inferInstance, cx.weak fun M w h => ⟨h.1.1, h.2⟩, [.blk tb (tC ts) 3], fun _ _ => True, inferInstance, fun w F cx => sub_t cx, Br.intro (fun hbad => ?_) (fun _ => ?_)⟩
    · rw [q3] at hbad
      simp at hbad
    refine ⟨by omega, ts k, fun w F cx => ⟨ts k, by rw [Int.toNat_natCast, Nat.zero_add]; exact cx.get 0 rfl (t_at ts hk3), rfl⟩, fun w F cx => hard_cl (gl cx) hk3 fun w cx => ⟨_, _, rfl, TO L1 C1 tb ts R, CPhi Φ L1 C1, inferInstance, gr cx, fun w F cx => sub_t cx, Br.intro (fun hbad => ?_) (fun _ => fun w F cx => hard_cl (gl cx) hk3 fun w cx => ⟨_, _, rfl, TO L1 C1 tb ts R, CPhi Φ L1 C1, inferInstance, gr cx, by omega, fun w F cx => ⟨?_, fun w' hw' => ?_⟩⟩)⟩⟩
    · have := hts k hk3
      have := of_decide_eq_true hbad
      omega
    · rw [Int.toNat_natCast, Nat.zero_add]
      exact (lift cx).can 0 rfl (by show k + 1 ≤ 3; omega)
    rw [Int.toNat_natCast, Nat.zero_add] at hw'
    have cx1 := (lift cx).put 0 hw' rfl
    have hts2 : ∀ j, j < 3 → (put ts k (C1.nd k).rep.term) j ≤ (C1.nd j).rep.term := fun j hj => by
      by_cases hjk : j = k
      · subst hjk; rw [put_self]; exact Int.le_refl _
      · rw [put_ne _ _ hjk]; exact hts j hj
    have cx2 : Ctx W w' (TO L1 C1 tb (put ts k (C1.nd k).rep.term) R ++ F) (CPhi Φ L1 C1) := by
      have e := t_set ts hk3 (C1.nd k).rep.term
      have cx3 : Ctx W w' (.blk tb ((tC ts).set k (.int .i64 (C1.nd k).rep.term)) 3 :: (clO L1 C1 ++ R) ++ F) (CPhi Φ L1 C1) := cx1
      rw [e] at cx3
      exact sink cx3
    generalize put ts k (C1.nd k).rep.term = ts2 at hts2 cx2
    clear cx cx1 hts
    refine ⟨TO L1 C1 tb ts2 R, CPhi Φ L1 C1, inferInstance, cx2, ?_⟩
    clear cx2
    refine exI_mk (fun nI R' Φ' kk => ∃ n : Nat, nI = n ∧ n ≤ k ∧ R' = TO L1 C1 tb ts2 R ∧ Φ' = CPhi Φ L1 C1 ∧ kk = k - n)
      ⟨⟨TO L1 C1 tb ts2 R, CPhi Φ L1 C1, _, inferInstance, fun w G cx => cx, 0, rfl, Nat.zero_le _, rfl, rfl, rfl⟩, ?_⟩
    rintro nI R1 Φ1 kk _ ⟨n, rfl, hn, rfl, rfl, rfl⟩
    refine Br.intro (fun hnk => fun w F cx => ?_) (fun hge => ?_)
    · have hnk : n < k := by have := of_decide_eq_true hnk; omega
      have hn3 : n < 3 := by omega
      refine log_cl (gl cx) hwf hk3 fun q cq w hq1 hq2 cx => ⟨q, _, cq, rfl, TO L1 C1 tb ts2 R, CPhi (MPhi Φ q (C1.nd k).rep.log) L1 C1, inferInstance, gr cx, ptrK_intro L1.x 0 rfl fun w F cx => ⟨L1.rp, 3, L1.rc, cx.get 0 rfl rfl, by omega, ptrK_intro gp 0 hgp fun w F cx => ⟨some ⟨L1.b n, 0, none⟩, hptr hn3 cx, fun w F cx => log_cl (gl cx) hwf hn3 fun q2 cq2 w hr1 hr2 cx => ⟨q2, _, cq2, rfl, TO L1 C1 tb ts2 R, CPhi (MPhi (MPhi Φ q (C1.nd k).rep.log) q2 (C1.nd n).rep.log) L1 C1, inferInstance, gr cx, ?_⟩⟩⟩⟩
      have hqa := cx.phi.1.1.2.there
      have hqb := cx.phi.1.2.there
      have hpa := hinv1.log k hk3
      have hpb := hinv1.log n hn3
      have hla := (hwf.rep k hk3).1.ok.len
      have hlb := (hwf.rep n hn3).1.ok.len
      clear cx
      generalize (C1.nd k).rep.log = a at *
      generalize (C1.nd n).rep.log = b at *
      refine exI_mk (fun mI R' Φ' kk => ∃ m : Nat, mI = m ∧ m ≤ a.length ∧ m ≤ b.length ∧ R' = TO L1 C1 tb ts2 R ∧ Φ' = CPhi (MPhi (MPhi Φ q a) q2 b) L1 C1 ∧ kk = m)
        ⟨⟨TO L1 C1 tb ts2 R, CPhi (MPhi (MPhi Φ q a) q2 b) L1 C1, _, inferInstance, fun w F cx => cx, min a.length b.length, by omega, by omega, by omega, rfl, rfl, rfl⟩, ?_⟩
      rintro mI R1 Φ1 kk _ ⟨m, rfl, hma, hmb, rfl, rfl, hkk⟩ w F cx
      have hpt : ∀ {q : Option Addr} {K : Nat → Nat → Prop}, (0 < m → ∃ ba oa, q = some ⟨ba, oa, none⟩) → (∀ ba oa, (0 < m → q = some ⟨ba, oa, none⟩) → K ba oa) → ptrK (some (decide (0 < (m : Int)))) q K := fun {q K} h1 h2 => by
        rcases Nat.eq_zero_or_pos m with h0 | h0
        · exact ptrK_off (decide_eq_false (by omega)) fun ba oa => h2 ba oa fun h => by omega
        · obtain ⟨ba, oa, e⟩ := h1 h0
          exact ptrK_intro ba oa e (h2 ba oa fun _ => e)
      have hcell : ∀ {w : World} {M : List Nat} {q : Option Addr} {a : List RecD} {ba oa : Nat}, Sl M w q a → m ≤ a.length → decide (0 < (m : Int)) = true → (0 < m → q = some ⟨ba, oa, none⟩) → w.cell? ⟨ba, oa + (max ((m : Int) - 1) 0).toNat * 2, none⟩ = some (.int .i64 (termAt a m)) := fun {w M q a ba oa} hs hm hd he => by
        have h0 : 0 < m := by have := of_decide_eq_true hd; omega
        have hq := he h0
        subst hq
        obtain ⟨j, rfl⟩ : ∃ j, m = j + 1 := ⟨m - 1, by omega⟩
        have e : (max (((j + 1 : Nat) : Int) - 1) 0).toNat = j := by omega
        rw [e, term_some (List.getElem?_eq_getElem hm)]
        exact sl_rec hs hm 0 (by simp)
      refine ⟨fun _ => by unfold I64; omega, fun h => by have := of_decide_eq_true h; omega, hpt (fun h => hqa (by omega)) fun ba oa hae => ⟨termAt a m, fun h => hcell cx.phi.1.1.2 hma h hae, fun _ => by unfold I64; omega, fun h => by have := of_decide_eq_true h; omega, hpt (fun h => hqb (by omega)) fun bb ob hbe => ⟨termAt b m, fun h => hcell cx.phi.1.2 hmb h hbe, Br.intro (fun hne => ?_) (fun heq => ?_)⟩⟩⟩
      · simp only [Bool.and_eq_true, decide_eq_true_eq] at hne
        exact ⟨by unfold I64; omega, TO L1 C1 tb ts2 R, CPhi (MPhi (MPhi Φ q a) q2 b) L1 C1, m - 1, inferInstance, fun w F cx => cx, ⟨m - 1, by omega, by omega, by omega, rfl, rfl, rfl⟩, by omega⟩
      have hte : termAt a m = termAt b m := by
        simp only [Bool.and_eq_false_iff, decide_eq_false_iff_not] at heq
        rcases heq with h | h
        · have : m = 0 := by omega
          subst this; rfl
        · exact Decidable.of_not_not h
      have hab := match_at hpa hpb hma hmb hte
      refine ⟨TO L1 C1 tb ts2 R, CPhi (MPhi (MPhi Φ q a) q2 b) L1 C1, inferInstance, fun w F cx => cx, by omega, by omega, fun w F cx => ?_⟩
      rw [sub0, sub0, Int.toNat_natCast]
      have hs := SameRecs_in (Φ := CPhi (MPhi (MPhi Φ q a) q2 b) L1 C1) q q2 cq cq2 (a.take m) (b.take m) (fun M w h => Sl.take h.1.1.2 m) (fun M w h => Sl.take h.1.2 m) (by rw [List.length_take]; omega)
      rw [show (a.take m).length = m by rw [List.length_take]; omega, show (b.take m).length = m by rw [List.length_take]; omega, decide_eq_true hab] at hs
      exact hs.use cx fun w cx => ⟨true, rfl, TO L1 C1 tb ts2 R, CPhi Φ L1 C1, inferInstance, cx.weak fun M w h => ⟨h.1.1.1, h.2⟩, Br.intro (fun h => by cases h) (fun _ => ⟨by unfold I64; omega, TO L1 C1 tb ts2 R, CPhi Φ L1 C1, k - (n + 1), inferInstance, fun w F cx => cx, ⟨n + 1, rfl, hnk, rfl, rfl, rfl⟩, by omega⟩)⟩
    · exact ⟨by unfold I64; omega, TO L1 C1 tb ts2 R, CPhi Φ L1 C1, 3 - (k + 1), inferInstance, fun w F cx => cx, ⟨k + 1, ts2, rfl, hk3, rfl, rfl, hts2, rfl⟩, by omega⟩
  · have hk3 : k = 3 := by have := of_decide_eq_false hge; omega
    exact ⟨by unfold I64; omega, TO L1 C1 tb ts R, CPhi Φ L1 C1, l.length - (i + 1), inferInstance, fun w G cx => cx, ⟨i + 1, L1, C1, g1, ts, rfl, hlt, rfl, rfl, rfl, hinv1, hts, rfl⟩, by omega⟩

end Go.Proofs.Ytifgijoeckoojaa
