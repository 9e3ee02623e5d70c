/-
  Leaders and logs, plain: hearing keeps the invariant; steps.
-/
import Derived.Test.YtifgijoeckoojaaMc
set_option linter.unusedVariables false
set_option linter.unusedSimpArgs false
namespace Go.Proofs.Ytifgijoeckoojaa
open Go.Vc

/-- a state is backed by what was -/
structure Bk (g : Gh) (i : Nat) (r : Rep) : Prop where
  cand : r.role = 1 → (∀ j, j < 3 → r.votes j = true → g.V r.term j = i) ∧ g.ld r.term ≠ i
  lead : r.role = 2 → g.ld r.term = i ∧ g.LL r.term = r.log
  log : Pre g.LL r.log

theorem Bk.as {g : Gh} {i : Nat} {r r' : Rep} (h : Bk g i r) (h1 : r'.role = r.role) (h2 : r'.term = r.term) (h3 : r'.votes = r.votes) (h4 : r'.log = r.log) : Bk g i r' :=
  ⟨by rw [h1, h2, h3]; exact h.cand, by rw [h1, h2, h4]; exact h.lead, by rw [h4]; exact h.log⟩

theorem Bk.fol {g : Gh} {i : Nat} {r' : Rep} (h : Pre g.LL r'.log) (h1 : r'.role = 0) : Bk g i r' :=
  ⟨fun hr => by omega, fun hr => by omega, h⟩

theorem append_bk {g : Gh} {i : Nat} {r : Rep} {m : MsgR} (h : Bk g i r) (hll : ∀ t, Pre g.LL (g.LL t)) (ha : AppM g.LL m) : Bk g i (appendP r m).1 := by
  unfold appendP
  split
  · exact h
  split
  · exact h
  simp only
  split
  · exact .fol h.log rfl
  rename_i hc
  simp only [Bool.or_eq_true, decide_eq_true_eq, not_or] at hc
  obtain ⟨hc1, hc2⟩ := hc
  obtain ⟨a1, a2, a3, a4⟩ := ha
  split
  · split
    · exact .fol h.log rfl
    · refine .fol ?_ rfl
      show Pre g.LL (r.log.take (m.index.toNat + agree (r.log.drop m.index.toNat) m.recs) ++ m.recs.drop (agree (r.log.drop m.index.toNat) m.recs))
      rw [match_new h.log (hll m.term) (by omega) a2 a3 (by rw [← a4]; exact Decidable.of_not_not hc2) (agree_le _ _)]
      exact pre_take (hll m.term) _
  · exact .fol h.log rfl

theorem append_kind (r : Rep) (m : MsgR) : ∀ v ∈ (appendP r m).2.send, v.kind = 3 := by
  unfold appendP
  split
  · exact fun v hv => by rw [List.mem_singleton.1 hv]; rfl
  split
  · exact fun v hv => by cases hv
  simp only
  split
  · exact fun v hv => by rw [List.mem_singleton.1 hv]
  split
  · split
    · exact fun v hv => by cases hv
    · exact fun v hv => by rw [List.mem_singleton.1 hv]; rfl
  · exact fun v hv => by rw [List.mem_singleton.1 hv]; rfl

theorem adv_same (r : Rep) : (advanceP r).role = r.role ∧ (advanceP r).term = r.term ∧ (advanceP r).votes = r.votes ∧ (advanceP r).log = r.log := by
  unfold advanceP
  split <;> exact ⟨rfl, rfl, rfl, rfl⟩

theorem appended_same (r : Rep) (m : MsgR) : ((appendedP r m).1.role = r.role ∧ (appendedP r m).1.term = r.term ∧ (appendedP r m).1.votes = r.votes ∧ (appendedP r m).1.log = r.log) ∧ ∀ v ∈ (appendedP r m).2.send, r.role = 2 ∧ ∃ f, v = entriesOf (appendedP r m).1 f := by
  unfold appendedP
  split
  · exact ⟨⟨rfl, rfl, rfl, rfl⟩, fun v hv => by cases hv⟩
  rename_i hc
  simp only [Bool.or_eq_true, decide_eq_true_eq, not_or] at hc
  have h2 : r.role = 2 := by omega
  simp only
  split
  · exact ⟨⟨rfl, rfl, rfl, rfl⟩, fun v hv => ⟨h2, _, List.mem_singleton.1 hv⟩⟩
  split
  · exact ⟨adv_same _, fun v hv => ⟨h2, _, List.mem_singleton.1 hv⟩⟩
  · exact ⟨adv_same _, fun v hv => by cases hv⟩

theorem voteP_same (r : Rep) (m : MsgR) : ((voteP r m).1.role = r.role ∧ (voteP r m).1.term = r.term ∧ (voteP r m).1.votes = r.votes ∧ (voteP r m).1.log = r.log) ∧ ∀ v ∈ (voteP r m).2.send, v.kind = 1 := by
  unfold voteP
  split
  · exact ⟨⟨rfl, rfl, rfl, rfl⟩, fun v hv => by rw [List.mem_singleton.1 hv]⟩
  · exact ⟨⟨rfl, rfl, rfl, rfl⟩, fun v hv => by rw [List.mem_singleton.1 hv]; rfl⟩

theorem two_of {v : Nat → Bool} (h : ¬ countV v < 2) : ∃ a b, a < 3 ∧ b < 3 ∧ a ≠ b ∧ v a = true ∧ v b = true := by
  unfold countV b2n at h
  cases h0 : v 0 <;> cases h1 : v 1 <;> cases h2 : v 2 <;> rw [h0, h1, h2] at h <;> simp at h
  · exact ⟨1, 2, by decide, by decide, by decide, h1, h2⟩
  · exact ⟨0, 2, by decide, by decide, by decide, h0, h2⟩
  · exact ⟨0, 1, by decide, by decide, by decide, h0, h1⟩
  · exact ⟨0, 1, by decide, by decide, by decide, h0, h1⟩

theorem hear_m {C : Cl} {g : Gh} (h : MInv C g) {i : Nat} (hi : i < 3) {m : MsgR} (hmy : YesM m → ∃ j : Nat, j < 3 ∧ m.src = j ∧ g.V m.term j = m.to ∧ 0 ≤ m.to) (hma : m.kind = 2 → AppM g.LL m) :
    ∃ g', MFit C g i (hearP (C.nd i).rep m).1 (hearP (C.nd i).rep m).2.send g' := by
  obtain ⟨hw, hid⟩ := h.wf.rep i hi
  have hf := (hear_wf (m := m) hw).2
  have hxw := (hear_wf (m := m) hw).1
  have hv := hear_v (C.nd i).rep m
  have hb : Bk g i (C.nd i).rep := ⟨h.cand i hi, h.lead i hi, h.log i hi⟩
  -- where nothing new is led
  have same : Bk g i (hearP (C.nd i).rep m).1 → (∀ v ∈ (hearP (C.nd i).rep m).2.send, v.kind = 2 → AppM g.LL v) → ∃ g', MFit C g i (hearP (C.nd i).rep m).1 (hearP (C.nd i).rep m).2.send g' := fun hb ha =>
    ⟨_, mfit_same h hi rfl hf hv hb.cand hb.lead hb.log ha⟩
  cases hy : rightP (C.nd i).rep.id m with
  | false =>
    rw [hear_no hy] at same ⊢
    exact same hb fun v hv => by cases hv
  | true =>
    have hm := right_iff.1 hy
    obtain ⟨r1, hr1⟩ : ∃ r1, (if (C.nd i).rep.term < m.term then upR (C.nd i).rep m else (C.nd i).rep) = r1 := ⟨_, rfl⟩
    have e1 : (hearP (C.nd i).rep m).1 = (hearX r1 m).1 := by rw [hear_yes hy, hr1, fin_fst]
    have e2 : (hearP (C.nd i).rep m).2.send = (hearX r1 m).2.send := by rw [hear_yes hy, hr1, fin_send]
    have hb1 : Bk g i r1 := by
      rw [← hr1]
      split
      · exact .fol hb.log rfl
      · exact hb
    have hw1 : r1.Wf := by
      rw [← hr1]
      split
      · exact up_wf hw hm (by assumption)
      · exact hw
    have hid1 : r1.id = i := by
      rw [← hr1]
      split
      · exact hid
      · exact hid
    have hrole : r1.role = 1 → r1 = (C.nd i).rep := by
      rw [← hr1]
      split
      · intro h0; cases (show (0 : Int) = 1 from h0)
      · exact fun _ => rfl
    rw [e1, e2] at same
    by_cases hk0 : m.kind = 0
    · have e : hearX r1 m = voteP r1 m := by unfold hearX; rw [if_pos hk0]
      rw [e] at same e1 e2
      rw [e1, e2]
      obtain ⟨⟨s1, s2, s3, s4⟩, s5⟩ := voteP_same r1 m
      exact same (hb1.as s1 s2 s3 s4) fun v hv hk => by rw [s5 v hv] at hk; cases hk
    by_cases hk1 : m.kind = 1
    · have e : hearX r1 m = votedP r1 m := by unfold hearX; rw [if_neg hk0, if_pos hk1]
      rw [e] at same e1 e2
      by_cases hc : (decide (r1.role ≠ 1) || decide (m.term ≠ r1.term) || !m.yes) = true
      · have e3 : votedP r1 m = (r1, out0) := by unfold votedP; rw [if_pos hc]
        rw [e1, e2]
        rw [e3] at same ⊢
        exact same hb1 fun v hv => by cases hv
      have hc' := hc
      simp only [Bool.or_eq_true, decide_eq_true_eq, not_or, Bool.not_eq_true', Bool.not_eq_false] at hc'
      obtain ⟨⟨c1, c2⟩, c3⟩ := hc'
      have c1 : r1.role = 1 := by omega
      have c2 : m.term = r1.term := by omega
      obtain ⟨j, hj, a1, a2, a3⟩ := hmy ⟨hk1, c3⟩
      have hto : m.to = i := by rw [hm.to, hid]
      have hsrc : m.src.toNat = j := by omega
      obtain ⟨b1, b2⟩ := hb1.cand c1
      have hvotes : ∀ k, k < 3 → put r1.votes m.src.toNat true k = true → g.V r1.term k = i := fun k hk hvk => by
        by_cases hkj : k = m.src.toNat
        · rw [hkj, hsrc, ← c2, a2, hto]
        · rw [put_ne _ _ hkj] at hvk
          exact b1 k hk hvk
      by_cases hc2 : countV (put r1.votes m.src.toNat true) < 2
      · have e3 : votedP r1 m = ({ r1 with votes := put r1.votes m.src.toNat true }, out0) := by unfold votedP; rw [if_neg hc]; simp only; rw [if_pos hc2]
        rw [e1, e2]
        rw [e3] at same ⊢
        exact same ⟨fun _ => ⟨hvotes, b2⟩, fun h0 => by have h0 : r1.role = 2 := h0; omega, hb1.log⟩ fun v hv => by cases hv
      · -- leads
        obtain ⟨r2, hr2⟩ : ∃ r2 : Rep, ({ r1 with votes := put r1.votes m.src.toNat true, role := 2, next := fun _ => r1.log.length + 1, mat := fun _ => 0 } : Rep) = r2 := ⟨_, rfl⟩
        have e3 : votedP r1 m = (r2, outS (allOf r2)) := by unfold votedP; rw [if_neg hc]; simp only; rw [if_neg hc2, ← hr2]
        have t2 : r2.term = r1.term := by rw [← hr2]
        have v2 : r2.vote = r1.vote := by rw [← hr2]
        have l2 : r2.log = r1.log := by rw [← hr2]
        have o2 : r2.role = 2 := by rw [← hr2]
        have n2 : ∀ f, r2.next f = r1.log.length + 1 := fun f => by rw [← hr2]
        rw [e3] at e1 e2
        have hrr := hrole c1
        have hfree : g.ld r1.term = -1 := by
          refine Decidable.byContradiction fun hne => ?_
          obtain ⟨a, b, q1, q2, q3, q4, q5⟩ := h.quo _ hne
          obtain ⟨c, d, p1, p2, p3, p4, p5⟩ := two_of hc2
          have p6 := hvotes c p1 p4
          have p7 := hvotes d p2 p5
          have : a = c ∨ a = d ∨ b = c ∨ b = d := by omega
          rcases this with rfl | rfl | rfl | rfl
          · exact b2 (by rw [← q4, p6])
          · exact b2 (by rw [← q4, p7])
          · exact b2 (by rw [← q5, p6])
          · exact b2 (by rw [← q5, p7])
        obtain ⟨LL', hLL⟩ : ∃ LL' : Int → List RecD, (fun t => if t = r1.term then r1.log else g.LL t) = LL' := ⟨_, rfl⟩
        have hL1 : LL' r1.term = r1.log := by rw [← hLL]; exact if_pos rfl
        have hL2 : ∀ t, t ≠ r1.term → LL' t = g.LL t := fun t ht => by rw [← hLL]; exact if_neg ht
        have hext : Ext g.LL LL' := fun t => by
          by_cases ht : t = r1.term
          · subst ht; exact ⟨r1.log, by rw [hL1, h.none _ hfree, List.nil_append]⟩
          · exact ⟨[], by rw [hL2 t ht, List.append_nil]⟩
        rw [e1, e2]
        have hkeep := hv.keep
        rw [e1] at hf hkeep
        have hV : ∀ k, k < 3 → put r1.votes m.src.toNat true k = true → voteV g.V i r2.term r2.vote r1.term k = i := fun k hk hvk => by
          have := hvotes k hk hvk
          have e5 := voteV_old h hi (r := r2) hf.term hkeep (t := r1.term) (j := k) (by omega)
          rw [e5, this]
        refine ⟨⟨voteV g.V i r2.term r2.vote, fun t => if t = r1.term then i else g.ld t, LL'⟩, rfl, hf.term, hkeep, fun v hv' hyv => absurd ((all_kind _ v hv').symm.trans hyv.1) (by decide), fun t => ?_, hext, fun t => ?_, fun h1 => (by have h1 : r2.role = 1 := h1; omega), fun _ => ⟨by rw [t2]; exact if_pos rfl, by rw [t2, l2]; exact hL1⟩, by rw [l2]; exact pre_ext hext hb1.log, fun v hv' _ => all_app (by rw [t2, l2]; exact hL1) (fun f => by rw [n2, l2]; omega) v hv'⟩
        · by_cases ht : t = r1.term
          · subst ht
            obtain ⟨c, d, p1, p2, p3, p4, p5⟩ := two_of hc2
            exact .inr ⟨hfree, if_pos rfl, by rw [t2]; exact Int.le_refl _, c, d, p1, p2, p3, hV c p1 p4, hV d p2 p5⟩
          · exact .inl (if_neg ht)
        · by_cases ht : t = r1.term
          · subst ht
            exact .inr ⟨if_pos rfl, by show Pre LL' (LL' r1.term); rw [hL1]; exact pre_ext hext hb1.log⟩
          · exact .inl (hL2 t ht)
    by_cases hk2 : m.kind = 2
    · have e : hearX r1 m = appendP r1 m := by unfold hearX; rw [if_neg hk0, if_neg hk1, if_pos hk2]
      rw [e] at same e1 e2
      rw [e1, e2]
      exact same (append_bk hb1 h.ll (hma hk2)) fun v hv hk => by rw [append_kind r1 m v hv] at hk; cases hk
    · have e : hearX r1 m = appendedP r1 m := by unfold hearX; rw [if_neg hk0, if_neg hk1, if_neg hk2]
      rw [e] at same e1 e2
      rw [e1, e2]
      obtain ⟨⟨s1, s2, s3, s4⟩, s5⟩ := appended_same r1 m
      refine same (hb1.as s1 s2 s3 s4) fun v hv hk => ?_
      obtain ⟨h2, f, rfl⟩ := s5 v hv
      have hwx := (appended_wf hw1 (m := m) hm.index.1).1
      have hn := hwx.ok.next (by rw [s1]; exact h2) f
      exact app_entries (by rw [s2, s4]; exact (hb1.lead h2).2) hn.1 hn.2.1

theorem MInv.deliver {C : Cl} {g : Gh} (h : MInv C g) {m : MsgR} (hmy : YesM m → ∃ j : Nat, j < 3 ∧ m.src = j ∧ g.V m.term j = m.to ∧ 0 ≤ m.to) (hma : m.kind = 2 → AppM g.LL m) : ∃ g', MInv (deliver C m) g' := by
  have hi := who_lt m.to
  obtain ⟨g', f⟩ := hear_m h hi hmy hma
  have hh := hear_wf (m := m) (h.wf.rep _ hi).1
  exact h.call hi hh.1 hh.2 f

theorem MInv.arrive {C : Cl} {g : Gh} (h : MInv C g) (n : Int) (keep : Bool) : ∃ g', MInv (arriveC C n keep) g' := by
  unfold arriveC
  split
  · exact ⟨g, h⟩
  · rename_i m hm
    have hlt := (List.getElem?_eq_some_iff.1 hm).1
    have hmem : m ∈ C.sent := List.mem_of_getElem? hm
    cases keep with
    | true => exact h.deliver (h.yes m hmem) (h.app m hmem)
    | false => exact (h.drop hlt).deliver (h.yes m hmem) (h.app m hmem)

theorem MInv.cluster {C : Cl} {g : Gh} (h : MInv C g) (x : OpR) : ∃ g', MInv (stepC C x) g' := by
  have hi := who_lt x.who
  have h1 := and_one x.n
  have hrw := (h.wf.rep _ hi).1
  unfold stepC
  simp only
  split
  · unfold loseC
    split
    · rename_i h0
      have hp := pickZ_lt (n := x.n) (show (0 : Int) < C.sent.length by omega)
      exact ⟨g, h.drop (by omega)⟩
    · exact ⟨g, h⟩
  split
  · exact h.arrive _ _
  split
  · have := tick_wf hrw
    obtain ⟨g', f⟩ := tick_m h hi
    exact h.call hi this.1 this.2 f
  split
  · have := propose_wf hrw x.data
    obtain ⟨g', f⟩ := prop_m h hi x.data
    exact h.call (x := ((proposeP (C.nd (pickZ x.who 3).toNat).rep x.data).1, (proposeP (C.nd (pickZ x.who 3).toNat).rep x.data).2.2.2)) hi this.1 this.2 f
  split
  · exact ⟨g, h.start hi⟩
  split
  · exact ⟨g, h.stop hi (by omega)⟩
  · exact h.arrive _ _

theorem minv0 : MInv cl0 ⟨fun _ _ => -1, fun _ => -1, fun _ => []⟩ :=
  ⟨cl0_wf, fun _ _ => rfl, fun _ _ _ _ => rfl, fun m hm => (by cases hm), fun i hi hr => (by cases (show (0 : Int) = 1 from hr)), fun i hi hr => (by cases (show (0 : Int) = 2 from hr)), fun t ht => absurd rfl ht, fun t ht => absurd rfl ht, fun _ _ => rfl, fun i hi => pre_nil _, fun t => pre_nil _, fun m hm => (by cases hm)⟩

end Go.Proofs.Ytifgijoeckoojaa
