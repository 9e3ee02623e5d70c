/-
  Leaders and logs, plain: each call of a replica keeps the invariant.
-/
import Derived.Test.YtifgijoeckoojaaRGo8

section
set_option linter.unusedVariables false
set_option linter.unusedSimpArgs false
namespace Go.Proofs.Ytifgijoeckoojaa
open Go.Vc

theorem app_entries {LL : Int → List RecD} {r : Rep} (hL : LL r.term = r.log) {f : Nat} (h1 : 1 ≤ r.next f) (h2 : r.next f ≤ r.log.length + 1) : AppM LL (entriesOf r f) := by
  have e0 : (entriesOf r f).index.toNat = r.next f - 1 := Int.toNat_natCast _
  have e1 : (entriesOf r f).recs = (r.log.drop (r.next f - 1)).take 8 := rfl
  have e2 : (entriesOf r f).recs.length = min 8 (r.log.length - (r.next f - 1)) := by rw [e1, List.length_take, List.length_drop]
  refine ⟨Int.natCast_nonneg _, ?_, ?_, ?_⟩
  · rw [e0, e2, show (entriesOf r f).term = r.term from rfl, hL]; omega
  · rw [e0, e2, show (entriesOf r f).term = r.term from rfl, hL, e1]
    rw [List.take_eq_take_iff, List.length_drop]
    omega
  · rw [e0, show (entriesOf r f).term = r.term from rfl, hL]; rfl

theorem voteV_old {C : Cl} {g : Gh} (h : MInv C g) {i : Nat} (hi : i < 3) {r : Rep} (up : (C.nd i).rep.term ≤ r.term) (keep : (C.nd i).rep.term = r.term → (C.nd i).rep.vote ≠ -1 → r.vote = (C.nd i).rep.vote) {t : Int} {j : Nat} (hv : g.V t j ≠ -1) : voteV g.V i r.term r.vote t j = g.V t j := by
  by_cases hc : t = r.term ∧ j = i
  · obtain ⟨rfl, rfl⟩ := hc
    rw [voteV_self]
    rcases Int.lt_or_eq_of_le up with hlt | heq
    · exact absurd (h.later j hi r.term hlt) hv
    · have h1 := h.now j hi
      rw [heq] at h1
      rw [keep heq (by rw [← h1]; exact hv), ← h1]
  · exact voteV_ne _ _ hc

abbrev Gh.vote (g : Gh) (i : Nat) (r : Rep) : Gh := { g with V := voteV g.V i r.term r.vote }

theorem mfit_same {C : Cl} {g : Gh} (h : MInv C g) {i : Nat} (hi : i < 3) {r : Rep} (hr : (C.nd i).rep = r) {x : Rep × OutR} (hf : Fits r x.1 x.2) (hv : VFit r x)
    (cand : x.1.role = 1 → (∀ j, j < 3 → x.1.votes j = true → g.V x.1.term j = i) ∧ g.ld x.1.term ≠ i) (lead : x.1.role = 2 → g.ld x.1.term = i ∧ g.LL x.1.term = x.1.log) (log : Pre g.LL x.1.log)
    (app : ∀ m ∈ x.2.send, m.kind = 2 → AppM g.LL m) : MFit C g i x.1 x.2.send (g.vote i x.1) := by
  subst hr
  have hid := (h.wf.rep i hi).2
  refine ⟨rfl, hf.term, hv.keep, fun m hm hy => ?_, fun t => .inl rfl, Ext.refl _, fun t => .inl rfl, fun hr => ?_, lead, log, app⟩
  · obtain ⟨a, b⟩ := hv.yes m hm hy
    exact ⟨by rw [a, hid], b⟩
  · obtain ⟨a, b⟩ := cand hr
    exact ⟨fun j hj hvo => by
      have e := a j hj hvo
      show voteV g.V i x.1.term x.1.vote x.1.term j = i
      rw [voteV_old h hi hf.term hv.keep (by omega), e], b⟩

theorem all_app {LL : Int → List RecD} {r : Rep} (hL : LL r.term = r.log) (hn : ∀ f, 1 ≤ r.next f ∧ r.next f ≤ r.log.length + 1) : ∀ m ∈ allOf r, AppM LL m := fun m hm => by
  unfold allOf at hm
  obtain ⟨f, _, rfl⟩ := List.mem_map.1 hm
  exact app_entries hL (hn f).1 (hn f).2

theorem tick_m {C : Cl} {g : Gh} (h : MInv C g) {i : Nat} (hi : i < 3) : ∃ g', MFit C g i (tickP (C.nd i).rep).1 (tickP (C.nd i).rep).2.send g' ∧ g'.LL = g.LL ∧ g'.ld = g.ld := by
  obtain ⟨hw, hid⟩ := h.wf.rep i hi
  have hf := (tick_wf hw).2
  have hv := tick_v (C.nd i).rep
  have hc := h.cand i hi
  have hl := h.lead i hi
  have hg := h.log i hi
  have hnow := h.now i hi
  have hldt := h.ldt ((C.nd i).rep.term + 1)
  generalize hr : (C.nd i).rep = r at hw hid hf hv hc hl hg hnow hldt
  by_cases h2 : r.role = 2
  · have e : tickP r = (r, outS (allOf r)) := if_pos h2
    refine ⟨_, mfit_same h hi hr hf hv ?_ ?_ ?_ ?_, rfl, rfl⟩
    all_goals rw [e]
    · exact hc
    · exact hl
    · exact hg
    · exact fun m hm _ => all_app (hl h2).2 (fun f => ⟨(hw.ok.next h2 f).1, (hw.ok.next h2 f).2.1⟩) m hm
  by_cases h3 : r.term = 1099511627776
  · have e : tickP r = (r, out0) := by unfold tickP; rw [if_neg h2, if_pos h3]
    refine ⟨_, mfit_same h hi hr hf hv ?_ ?_ ?_ ?_, rfl, rfl⟩
    all_goals rw [e]
    · exact hc
    · exact hl
    · exact hg
    · exact fun m hm _ => by cases hm
  · have e : tickP r = ({ r with term := r.term + 1, vote := r.id, role := 1, votes := fun i => decide (i = r.id) }, ⟨true, r.term + 1, r.id, 0, [], (othersOf r.id).map fun k => askOf { r with term := r.term + 1, vote := r.id, role := 1, votes := fun i => decide (i = r.id) } k⟩) := by
      unfold tickP; rw [if_neg h2, if_neg h3]
    rw [e]
    refine ⟨g.vote i { r with term := r.term + 1, vote := r.id, role := 1, votes := fun i => decide (i = r.id) }, ⟨rfl, by rw [hr]; show r.term ≤ r.term + 1; omega, fun ht => ?_, fun m hm hy => ?_, fun t => .inl rfl, Ext.refl _, fun t => .inl rfl, fun _ => ⟨fun j hj hvo => ?_, ?_⟩, fun h0 => (by cases (show (1 : Int) = 2 from h0)), hg, fun m hm hk => ?_⟩, rfl, rfl⟩
    · rw [hr] at ht
      have : r.term = r.term + 1 := ht
      omega
    · obtain ⟨k, _, rfl⟩ := List.mem_map.1 hm
      cases hy.1
    · have hj : j = r.id := of_decide_eq_true hvo
      show voteV g.V i (r.term + 1) r.id (r.term + 1) j = i
      rw [hj, hid, voteV_self]
    · intro hc2
      have hc2 : g.ld (r.term + 1) = i := hc2
      obtain ⟨j, hj, a1, a2⟩ := hldt (by omega)
      have : j = i := by omega
      subst this
      rw [hr] at a2
      omega
    · obtain ⟨k, _, rfl⟩ := List.mem_map.1 hm
      cases hk

theorem prop_m {C : Cl} {g : Gh} (h : MInv C g) {i : Nat} (hi : i < 3) (data : ByteArray) : ∃ g', MFit C g i (proposeP (C.nd i).rep data).1 (proposeP (C.nd i).rep data).2.2.2.send g' ∧ g'.ld = g.ld ∧ (∀ t, t ≠ (C.nd i).rep.term → g'.LL t = g.LL t) ∧ ((proposeP (C.nd i).rep data).2.2.2 = out0 → g'.LL = g.LL) := by
  obtain ⟨hw, hid⟩ := h.wf.rep i hi
  have hf := prop_fits hw data
  have hv := prop_v (C.nd i).rep data
  have hc := h.cand i hi
  have hl := h.lead i hi
  have hg := h.log i hi
  generalize hr : (C.nd i).rep = r at hw hid hf hv hc hl hg
  have same : proposeP r data = (r, (proposeP r data).2.1, (proposeP r data).2.2.1, out0) → ∃ g', MFit C g i (proposeP r data).1 (proposeP r data).2.2.2.send g' ∧ g'.ld = g.ld ∧ (∀ t, t ≠ r.term → g'.LL t = g.LL t) ∧ ((proposeP r data).2.2.2 = out0 → g'.LL = g.LL) := fun e => by
    rw [e]
    rw [e] at hf hv
    exact ⟨_, mfit_same (x := (r, out0)) h hi hr hf hv hc hl hg (fun m hm _ => by cases hm), rfl, fun _ _ => rfl, fun _ => rfl⟩
  by_cases h2 : r.role = 2
  · by_cases h3 : 2000 < (data.size : Int)
    · exact same (by unfold proposeP; rw [if_neg (by simpa using h2), if_pos h3])
    by_cases h4 : r.log.length = 4000
    · exact same (by unfold proposeP; rw [if_neg (by simpa using h2), if_neg h3, if_pos h4])
    obtain ⟨x, hx⟩ : ∃ x : RecD, x = ⟨r.term, data⟩ := ⟨_, rfl⟩
    have hxt : x.term = r.term := by rw [hx]
    have e1 : (proposeP r data).1 = { r with log := r.log ++ [x] } := by unfold proposeP; rw [if_neg (by simpa using h2), if_neg h3, if_neg h4, hx]
    have e2 : (proposeP r data).2.2.2.send = allOf { r with log := r.log ++ [x] } := by unfold proposeP; rw [if_neg (by simpa using h2), if_neg h3, if_neg h4, hx]
    have e4 : (proposeP r data).2.2.2 ≠ out0 := fun e => by
      have := congrArg OutR.send e
      rw [e2] at this
      have := congrArg List.length this
      unfold allOf at this
      rw [List.length_map, others_len] at this
      cases this
    rw [e1, e2]
    obtain ⟨hl1, hl2⟩ := hl h2
    obtain ⟨LL', hLL⟩ : ∃ LL' : Int → List RecD, (fun t => if t = r.term then r.log ++ [x] else g.LL t) = LL' := ⟨_, rfl⟩
    have hL1 : LL' r.term = r.log ++ [x] := by rw [← hLL]; exact if_pos rfl
    have hL2 : ∀ t, t ≠ r.term → LL' t = g.LL t := fun t ht => by rw [← hLL]; exact if_neg ht
    have hext : Ext g.LL LL' := fun t => by
      by_cases ht : t = r.term
      · subst ht; exact ⟨[x], by rw [hL1, hl2]⟩
      · exact ⟨[], by rw [hL2 t ht, List.append_nil]⟩
    have hpre : Pre LL' (r.log ++ [x]) := fun p y hy => by
      rcases Nat.lt_or_ge p r.log.length with hp | hp
      · rw [List.getElem?_append_left hp] at hy
        rw [List.take_append_of_le_length (by omega)]
        exact pre_ext hext hg p y hy
      · rw [List.getElem?_append_right hp] at hy
        have hz : p - r.log.length = 0 := by
          have := (List.getElem?_eq_some_iff.1 hy).1
          simp at this; omega
        rw [hz] at hy
        have hy : x = y := by simpa using hy
        rw [← hy, hxt, hL1]
    refine ⟨⟨voteV g.V i r.term r.vote, g.ld, LL'⟩, ⟨rfl, by rw [hr]; exact Int.le_refl _, fun _ _ => by rw [hr], no_yes (by decide) (all_kind _), fun t => .inl rfl, hext, fun t => ?_, fun h1 => ?_, fun _ => ⟨hl1, hL1⟩, hpre, fun m hm _ => all_app (r := { r with log := r.log ++ [x] }) hL1 (fun f => ?_) m hm⟩, rfl, hL2, fun e => absurd e e4⟩
    · by_cases ht : t = r.term
      · subst ht; exact .inr ⟨hl1, by show Pre LL' (LL' r.term); rw [hL1]; exact hpre⟩
      · exact .inl (hL2 t ht)
    · have h1 : r.role = 1 := h1
      omega
    · have := hw.ok.next h2 f
      refine ⟨this.1, ?_⟩
      show r.next f ≤ (r.log ++ [x]).length + 1
      rw [List.length_append]
      omega
  · exact same (by unfold proposeP; rw [if_pos h2])

end Go.Proofs.Ytifgijoeckoojaa
end

/-
  Leaders and logs, plain: hearing keeps the invariant; steps.
-/
section
set_option linter.unusedVariables false
set_option linter.unusedSimpArgs false
namespace Go.Proofs.Ytifgijoeckoojaa
open Go.Vc

/-- a state is backed by what was -/
structure Bk (g : Gh) (i : Nat) (r : Rep) : Prop where
  cand : r.role = 1 → (∀ j, j < 3 → r.votes j = true → g.V r.term j = i) ∧ g.ld r.term ≠ i
  lead : r.role = 2 → g.ld r.term = i ∧ g.LL r.term = r.log
  log : Pre g.LL r.log

theorem Bk.as {g : Gh} {i : Nat} {r r' : Rep} (h : Bk g i r) (h1 : r'.role = r.role) (h2 : r'.term = r.term) (h3 : r'.votes = r.votes) (h4 : r'.log = r.log) : Bk g i r' :=
  ⟨by rw [h1, h2, h3]; exact h.cand, by rw [h1, h2, h4]; exact h.lead, by rw [h4]; exact h.log⟩

theorem Bk.fol {g : Gh} {i : Nat} {r' : Rep} (h : Pre g.LL r'.log) (h1 : r'.role = 0) : Bk g i r' :=
  ⟨fun hr => by omega, fun hr => by omega, h⟩

theorem append_bk {g : Gh} {i : Nat} {r : Rep} {m : MsgR} (h : Bk g i r) (hll : ∀ t, Pre g.LL (g.LL t)) (ha : AppM g.LL m) : Bk g i (appendP r m).1 := by
  unfold appendP
  split
  · exact h
  split
  · exact h
  simp only
  split
  · exact .fol h.log rfl
  rename_i hc
  simp only [Bool.or_eq_true, decide_eq_true_eq, not_or] at hc
  obtain ⟨hc1, hc2⟩ := hc
  obtain ⟨a1, a2, a3, a4⟩ := ha
  split
  · split
    · exact .fol h.log rfl
    · refine .fol ?_ rfl
      show Pre g.LL (r.log.take (m.index.toNat + agree (r.log.drop m.index.toNat) m.recs) ++ m.recs.drop (agree (r.log.drop m.index.toNat) m.recs))
      rw [match_new h.log (hll m.term) (by omega) a2 a3 (by rw [← a4]; exact Decidable.of_not_not hc2) (agree_le _ _)]
      exact pre_take (hll m.term) _
  · exact .fol h.log rfl

theorem append_kind (r : Rep) (m : MsgR) : ∀ v ∈ (appendP r m).2.send, v.kind = 3 := by
  unfold appendP
  split
  · exact fun v hv => by rw [List.mem_singleton.1 hv]; rfl
  split
  · exact fun v hv => by cases hv
  simp only
  split
  · exact fun v hv => by rw [List.mem_singleton.1 hv]
  split
  · split
    · exact fun v hv => by cases hv
    · exact fun v hv => by rw [List.mem_singleton.1 hv]; rfl
  · exact fun v hv => by rw [List.mem_singleton.1 hv]; rfl

theorem adv_same (r : Rep) : (advanceP r).role = r.role ∧ (advanceP r).term = r.term ∧ (advanceP r).votes = r.votes ∧ (advanceP r).log = r.log := by
  unfold advanceP
  split <;> exact ⟨rfl, rfl, rfl, rfl⟩

theorem appended_same (r : Rep) (m : MsgR) : ((appendedP r m).1.role = r.role ∧ (appendedP r m).1.term = r.term ∧ (appendedP r m).1.votes = r.votes ∧ (appendedP r m).1.log = r.log) ∧ ∀ v ∈ (appendedP r m).2.send, r.role = 2 ∧ ∃ f, v = entriesOf (appendedP r m).1 f := by
  unfold appendedP
  split
  · exact ⟨⟨rfl, rfl, rfl, rfl⟩, fun v hv => by cases hv⟩
  rename_i hc
  simp only [Bool.or_eq_true, decide_eq_true_eq, not_or] at hc
  have h2 : r.role = 2 := by omega
  simp only
  split
  · exact ⟨⟨rfl, rfl, rfl, rfl⟩, fun v hv => ⟨h2, _, List.mem_singleton.1 hv⟩⟩
  split
  · exact ⟨adv_same _, fun v hv => ⟨h2, _, List.mem_singleton.1 hv⟩⟩
  · exact ⟨adv_same _, fun v hv => by cases hv⟩

theorem voteP_same (r : Rep) (m : MsgR) : ((voteP r m).1.role = r.role ∧ (voteP r m).1.term = r.term ∧ (voteP r m).1.votes = r.votes ∧ (voteP r m).1.log = r.log) ∧ ∀ v ∈ (voteP r m).2.send, v.kind = 1 := by
  unfold voteP
  split
  · exact ⟨⟨rfl, rfl, rfl, rfl⟩, fun v hv => by rw [List.mem_singleton.1 hv]⟩
  · exact ⟨⟨rfl, rfl, rfl, rfl⟩, fun v hv => by rw [List.mem_singleton.1 hv]; rfl⟩

theorem two_of {v : Nat → Bool} (h : ¬ countV v < 2) : ∃ a b, a < 3 ∧ b < 3 ∧ a ≠ b ∧ v a = true ∧ v b = true := by
  unfold countV b2n at h
  cases h0 : v 0 <;> cases h1 : v 1 <;> cases h2 : v 2 <;> rw [h0, h1, h2] at h <;> simp at h
  · exact ⟨1, 2, by decide, by decide, by decide, h1, h2⟩
  · exact ⟨0, 2, by decide, by decide, by decide, h0, h2⟩
  · exact ⟨0, 1, by decide, by decide, by decide, h0, h1⟩
  · exact ⟨0, 1, by decide, by decide, by decide, h0, h1⟩

/-- nothing is led anew; or i leads -/
def HearG (C : Cl) (g : Gh) (i : Nat) (r : Rep) (send : List MsgR) (g' : Gh) : Prop :=
  (g'.LL = g.LL ∧ g'.ld = g.ld) ∨ ((C.nd i).rep.role = 1 ∧ r.role = 2 ∧ r.term = (C.nd i).rep.term ∧ r.log = (C.nd i).rep.log ∧ r.commit = (C.nd i).rep.commit ∧ r.vote = (C.nd i).rep.vote ∧ (∀ f, r.mat f = 0) ∧ g.ld r.term = -1 ∧
    (∀ t, t ≠ r.term → g'.LL t = g.LL t ∧ g'.ld t = g.ld t) ∧ send = allOf r ∧ ∃ a b, a < 3 ∧ b < 3 ∧ a ≠ b ∧ g.V r.term a = i ∧ g.V r.term b = i)

theorem hear_m {C : Cl} {g : Gh} (h : MInv C g) {i : Nat} (hi : i < 3) {m : MsgR} (hmy : YesM m → ∃ j : Nat, j < 3 ∧ m.src = j ∧ g.V m.term j = m.to ∧ 0 ≤ m.to) (hma : m.kind = 2 → AppM g.LL m) :
    ∃ g', MFit C g i (hearP (C.nd i).rep m).1 (hearP (C.nd i).rep m).2.send g' ∧ HearG C g i (hearP (C.nd i).rep m).1 (hearP (C.nd i).rep m).2.send g' := by
  obtain ⟨hw, hid⟩ := h.wf.rep i hi
  have hf := (hear_wf (m := m) hw).2
  have hxw := (hear_wf (m := m) hw).1
  have hv := hear_v (C.nd i).rep m
  have hb : Bk g i (C.nd i).rep := ⟨h.cand i hi, h.lead i hi, h.log i hi⟩
  -- where nothing new is led
  have same : Bk g i (hearP (C.nd i).rep m).1 → (∀ v ∈ (hearP (C.nd i).rep m).2.send, v.kind = 2 → AppM g.LL v) → ∃ g', MFit C g i (hearP (C.nd i).rep m).1 (hearP (C.nd i).rep m).2.send g' ∧ HearG C g i (hearP (C.nd i).rep m).1 (hearP (C.nd i).rep m).2.send g' := fun hb ha =>
    ⟨_, mfit_same h hi rfl hf hv hb.cand hb.lead hb.log ha, .inl ⟨rfl, rfl⟩⟩
  cases hy : rightP (C.nd i).rep.id m with
  | false =>
    rw [hear_no hy] at same ⊢
    exact same hb fun v hv => by cases hv
  | true =>
    have hm := right_iff.1 hy
    obtain ⟨r1, hr1⟩ : ∃ r1, (if (C.nd i).rep.term < m.term then upR (C.nd i).rep m else (C.nd i).rep) = r1 := ⟨_, rfl⟩
    have e1 : (hearP (C.nd i).rep m).1 = (hearX r1 m).1 := by rw [hear_yes hy, hr1, fin_fst]
    have e2 : (hearP (C.nd i).rep m).2.send = (hearX r1 m).2.send := by rw [hear_yes hy, hr1, fin_send]
    have hb1 : Bk g i r1 := by
      rw [← hr1]
      split
      · exact .fol hb.log rfl
      · exact hb
    have hw1 : r1.Wf := by
      rw [← hr1]
      split
      · exact up_wf hw hm (by assumption)
      · exact hw
    have hid1 : r1.id = i := by
      rw [← hr1]
      split
      · exact hid
      · exact hid
    have hrole : r1.role = 1 → r1 = (C.nd i).rep := by
      rw [← hr1]
      split
      · intro h0; cases (show (0 : Int) = 1 from h0)
      · exact fun _ => rfl
    rw [e1, e2] at same
    by_cases hk0 : m.kind = 0
    · have e : hearX r1 m = voteP r1 m := by unfold hearX; rw [if_pos hk0]
      rw [e] at same e1 e2
      rw [e1, e2]
      obtain ⟨⟨s1, s2, s3, s4⟩, s5⟩ := voteP_same r1 m
      exact same (hb1.as s1 s2 s3 s4) fun v hv hk => by rw [s5 v hv] at hk; cases hk
    by_cases hk1 : m.kind = 1
    · have e : hearX r1 m = votedP r1 m := by unfold hearX; rw [if_neg hk0, if_pos hk1]
      rw [e] at same e1 e2
      by_cases hc : (decide (r1.role ≠ 1) || decide (m.term ≠ r1.term) || !m.yes) = true
      · have e3 : votedP r1 m = (r1, out0) := by unfold votedP; rw [if_pos hc]
        rw [e1, e2]
        rw [e3] at same ⊢
        exact same hb1 fun v hv => by cases hv
      have hc' := hc
      simp only [Bool.or_eq_true, decide_eq_true_eq, not_or, Bool.not_eq_true', Bool.not_eq_false] at hc'
      obtain ⟨⟨c1, c2⟩, c3⟩ := hc'
      have c1 : r1.role = 1 := by omega
      have c2 : m.term = r1.term := by omega
      obtain ⟨j, hj, a1, a2, a3⟩ := hmy ⟨hk1, c3⟩
      have hto : m.to = i := by rw [hm.to, hid]
      have hsrc : m.src.toNat = j := by omega
      obtain ⟨b1, b2⟩ := hb1.cand c1
      have hvotes : ∀ k, k < 3 → put r1.votes m.src.toNat true k = true → g.V r1.term k = i := fun k hk hvk => by
        by_cases hkj : k = m.src.toNat
        · rw [hkj, hsrc, ← c2, a2, hto]
        · rw [put_ne _ _ hkj] at hvk
          exact b1 k hk hvk
      by_cases hc2 : countV (put r1.votes m.src.toNat true) < 2
      · have e3 : votedP r1 m = ({ r1 with votes := put r1.votes m.src.toNat true }, out0) := by unfold votedP; rw [if_neg hc]; simp only; rw [if_pos hc2]
        rw [e1, e2]
        rw [e3] at same ⊢
        exact same ⟨fun _ => ⟨hvotes, b2⟩, fun h0 => by have h0 : r1.role = 2 := h0; omega, hb1.log⟩ fun v hv => by cases hv
      · -- leads
        obtain ⟨r2, hr2⟩ : ∃ r2 : Rep, ({ r1 with votes := put r1.votes m.src.toNat true, role := 2, next := fun _ => r1.log.length + 1, mat := fun _ => 0 } : Rep) = r2 := ⟨_, rfl⟩
        have e3 : votedP r1 m = (r2, outS (allOf r2)) := by unfold votedP; rw [if_neg hc]; simp only; rw [if_neg hc2, ← hr2]
        have t2 : r2.term = r1.term := by rw [← hr2]
        have v2 : r2.vote = r1.vote := by rw [← hr2]
        have l2 : r2.log = r1.log := by rw [← hr2]
        have o2 : r2.role = 2 := by rw [← hr2]
        have n2 : ∀ f, r2.next f = r1.log.length + 1 := fun f => by rw [← hr2]
        rw [e3] at e1 e2
        have hrr := hrole c1
        have hfree : g.ld r1.term = -1 := by
          refine Decidable.byContradiction fun hne => ?_
          obtain ⟨a, b, q1, q2, q3, q4, q5⟩ := h.quo _ hne
          obtain ⟨c, d, p1, p2, p3, p4, p5⟩ := two_of hc2
          have p6 := hvotes c p1 p4
          have p7 := hvotes d p2 p5
          have : a = c ∨ a = d ∨ b = c ∨ b = d := by omega
          rcases this with rfl | rfl | rfl | rfl
          · exact b2 (by rw [← q4, p6])
          · exact b2 (by rw [← q4, p7])
          · exact b2 (by rw [← q5, p6])
          · exact b2 (by rw [← q5, p7])
        obtain ⟨LL', hLL⟩ : ∃ LL' : Int → List RecD, (fun t => if t = r1.term then r1.log else g.LL t) = LL' := ⟨_, rfl⟩
        have hL1 : LL' r1.term = r1.log := by rw [← hLL]; exact if_pos rfl
        have hL2 : ∀ t, t ≠ r1.term → LL' t = g.LL t := fun t ht => by rw [← hLL]; exact if_neg ht
        have hext : Ext g.LL LL' := fun t => by
          by_cases ht : t = r1.term
          · subst ht; exact ⟨r1.log, by rw [hL1, h.none _ hfree, List.nil_append]⟩
          · exact ⟨[], by rw [hL2 t ht, List.append_nil]⟩
        rw [e1, e2]
        have hkeep := hv.keep
        rw [e1] at hf hkeep
        have hV : ∀ k, k < 3 → put r1.votes m.src.toNat true k = true → voteV g.V i r2.term r2.vote r1.term k = i := fun k hk hvk => by
          have := hvotes k hk hvk
          have e5 := voteV_old h hi (r := r2) hf.term hkeep (t := r1.term) (j := k) (by omega)
          rw [e5, this]
        refine ⟨⟨voteV g.V i r2.term r2.vote, fun t => if t = r1.term then i else g.ld t, LL'⟩, ⟨rfl, hf.term, hkeep, fun v hv' hyv => absurd ((all_kind _ v hv').symm.trans hyv.1) (by decide), fun t => ?_, hext, fun t => ?_, fun h1 => (by have h1 : r2.role = 1 := h1; omega), fun _ => ⟨by rw [t2]; exact if_pos rfl, by rw [t2, l2]; exact hL1⟩, by rw [l2]; exact pre_ext hext hb1.log, fun v hv' _ => all_app (by rw [t2, l2]; exact hL1) (fun f => by rw [n2, l2]; omega) v hv'⟩, ?_⟩
        · by_cases ht : t = r1.term
          · subst ht
            obtain ⟨c, d, p1, p2, p3, p4, p5⟩ := two_of hc2
            exact .inr ⟨hfree, if_pos rfl, by rw [t2]; exact Int.le_refl _, c, d, p1, p2, p3, hV c p1 p4, hV d p2 p5⟩
          · exact .inl (if_neg ht)
        · by_cases ht : t = r1.term
          · subst ht
            exact .inr ⟨if_pos rfl, by show Pre LL' (LL' r1.term); rw [hL1]; exact pre_ext hext hb1.log⟩
          · exact .inl (hL2 t ht)
        · obtain ⟨c, d, p1, p2, p3, p4, p5⟩ := two_of hc2
          refine .inr ⟨by rw [← hrr]; exact c1, o2, by rw [← hrr]; exact t2, by rw [← hrr]; exact l2, by rw [← hrr, ← hr2], by rw [← hrr]; exact v2, fun f => by rw [← hr2], by show g.ld r2.term = -1; rw [t2]; exact hfree, fun t ht => ?_, rfl, c, d, p1, p2, p3, by show g.V r2.term c = i; rw [t2]; exact hvotes c p1 p4, by show g.V r2.term d = i; rw [t2]; exact hvotes d p2 p5⟩
          have ht : t ≠ r2.term := ht
          rw [t2] at ht
          exact ⟨hL2 t ht, if_neg ht⟩
    by_cases hk2 : m.kind = 2
    · have e : hearX r1 m = appendP r1 m := by unfold hearX; rw [if_neg hk0, if_neg hk1, if_pos hk2]
      rw [e] at same e1 e2
      rw [e1, e2]
      exact same (append_bk hb1 h.ll (hma hk2)) fun v hv hk => by rw [append_kind r1 m v hv] at hk; cases hk
    · have e : hearX r1 m = appendedP r1 m := by unfold hearX; rw [if_neg hk0, if_neg hk1, if_neg hk2]
      rw [e] at same e1 e2
      rw [e1, e2]
      obtain ⟨⟨s1, s2, s3, s4⟩, s5⟩ := appended_same r1 m
      refine same (hb1.as s1 s2 s3 s4) fun v hv hk => ?_
      obtain ⟨h2, f, rfl⟩ := s5 v hv
      have hwx := (appended_wf hw1 (m := m) hm.index.1).1
      have hn := hwx.ok.next (by rw [s1]; exact h2) f
      exact app_entries (by rw [s2, s4]; exact (hb1.lead h2).2) hn.1 hn.2.1

theorem MInv.deliver {C : Cl} {g : Gh} (h : MInv C g) {m : MsgR} (hmy : YesM m → ∃ j : Nat, j < 3 ∧ m.src = j ∧ g.V m.term j = m.to ∧ 0 ≤ m.to) (hma : m.kind = 2 → AppM g.LL m) : ∃ g', MInv (deliver C m) g' := by
  have hi := who_lt m.to
  obtain ⟨g', f, _⟩ := hear_m h hi hmy hma
  have hh := hear_wf (m := m) (h.wf.rep _ hi).1
  exact h.call hi hh.1 hh.2 f

theorem MInv.arrive {C : Cl} {g : Gh} (h : MInv C g) (n : Int) (keep : Bool) : ∃ g', MInv (arriveC C n keep) g' := by
  unfold arriveC
  split
  · exact ⟨g, h⟩
  · rename_i m hm
    have hlt := (List.getElem?_eq_some_iff.1 hm).1
    have hmem : m ∈ C.sent := List.mem_of_getElem? hm
    cases keep with
    | true => exact h.deliver (h.yes m hmem) (h.app m hmem)
    | false => exact (h.drop hlt).deliver (h.yes m hmem) (h.app m hmem)

theorem MInv.cluster {C : Cl} {g : Gh} (h : MInv C g) (x : OpR) : ∃ g', MInv (stepCl C x) g' := by
  have hi := who_lt x.who
  have h1 := and_one x.n
  have hrw := (h.wf.rep _ hi).1
  unfold stepCl
  simp only
  split
  · unfold loseC
    split
    · rename_i h0
      have hp := pickZ_lt (n := x.n) (show (0 : Int) < C.sent.length by omega)
      exact ⟨g, h.drop (by omega)⟩
    · exact ⟨g, h⟩
  split
  · exact h.arrive _ _
  split
  · have := tick_wf hrw
    obtain ⟨g', f, _⟩ := tick_m h hi
    exact h.call hi this.1 this.2 f
  split
  · have := propose_wf hrw x.data
    obtain ⟨g', f, _⟩ := prop_m h hi x.data
    exact h.call (x := ((proposeP (C.nd (pickZ x.who 3).toNat).rep x.data).1, (proposeP (C.nd (pickZ x.who 3).toNat).rep x.data).2.2.2)) hi this.1 this.2 f
  split
  · exact ⟨g, h.start hi⟩
  split
  · exact ⟨g, h.stop hi (by omega)⟩
  · exact h.arrive _ _

theorem minv0 : MInv cl0 ⟨fun _ _ => -1, fun _ => -1, fun _ => []⟩ :=
  ⟨cl0_wf, fun _ _ => rfl, fun _ _ _ _ => rfl, fun m hm => (by cases hm), fun i hi hr => (by cases (show (0 : Int) = 1 from hr)), fun i hi hr => (by cases (show (0 : Int) = 2 from hr)), fun t ht => absurd rfl ht, fun t ht => absurd rfl ht, fun _ _ => rfl, fun i hi => pre_nil _, fun t => pre_nil _, fun m hm => (by cases hm)⟩

end Go.Proofs.Ytifgijoeckoojaa
end

/-
  Safety, plain: what was acknowledged by two is in the log of every later leader.
-/
section
set_option linter.unusedVariables false
set_option linter.unusedSimpArgs false
namespace Go.Proofs.Ytifgijoeckoojaa
open Go.Vc

/-- number p of term t's list is an entry of that term -/
def Valid (g : Gh) (t : Int) (p : Nat) : Prop := 1 ≤ p ∧ p ≤ (g.LL t).length ∧ termAt (g.LL t) p = t
def Has (g : Gh) (t : Int) (p : Nat) (l : List RecD) : Prop := p ≤ l.length ∧ l.take p = (g.LL t).take p
def Cannot (C : Cl) (A : Int → Nat → Nat) (t : Int) (p : Nat) : Prop := ∃ x y, x < 3 ∧ y < 3 ∧ x ≠ y ∧ t < (C.nd x).rep.term ∧ t < (C.nd y).rep.term ∧ A t x < p ∧ A t y < p
def Chosen (g : Gh) (A : Int → Nat → Nat) (t : Int) (p : Nat) : Prop := Valid g t p ∧ ∃ a b, a < 3 ∧ b < 3 ∧ a ≠ b ∧ p ≤ A t a ∧ p ≤ A t b
/-- the first n of l are chosen, in a term up to s -/
def Sure (g : Gh) (A : Int → Nat → Nat) (s : Int) (l : List RecD) (n : Nat) : Prop := n = 0 ∨ ∃ t p, Chosen g A t p ∧ t ≤ s ∧ n ≤ p ∧ Has g t n l

structure SInv (C : Cl) (g : Gh) (A : Int → Nat → Nat) : Prop where
  m : MInv C g
  asc : ∀ t, Sorted (g.LL t) t
  a1 : ∀ t j, A t j ≤ (g.LL t).length
  a2 : ∀ t j, j < 3 → 0 < A t j → t ≤ (C.nd j).rep.term
  a3 : ∀ i, i < 3 → (C.nd i).rep.role = 2 → A (C.nd i).rep.term i = (C.nd i).rep.log.length
  ia : ∀ t j p, j < 3 → 1 ≤ p → p ≤ A t j → Has g t p (C.nd j).rep.log ∨ ∃ u, t < u ∧ u ≤ (C.nd j).rep.term ∧ g.ld u ≠ -1 ∧ ¬ Has g t p (g.LL u)
  ib : ∀ t u p, Valid g t p → t < u → g.ld u ≠ -1 → Has g t p (g.LL u) ∨ Cannot C A t p
  iq : ∀ m ∈ C.sent, m.kind = 0 → ∃ c : Nat, c < 3 ∧ m.src = c ∧ m.term ≤ (C.nd c).rep.term ∧ ((C.nd c).rep.role = 1 → m.term = (C.nd c).rep.term → m.index = (C.nd c).rep.log.length ∧ m.prev = termAt (C.nd c).rep.log (C.nd c).rep.log.length)
  il : ∀ c, c < 3 → (C.nd c).rep.role = 1 → ∀ x ∈ (C.nd c).rep.log, x.term < (C.nd c).rep.term
  iv : ∀ c, c < 3 → (C.nd c).rep.role = 1 → ∀ x, x < 3 → g.V (C.nd c).rep.term x = c → ∀ t p, t < (C.nd c).rep.term → Valid g t p → p ≤ A t x → Has g t p (C.nd c).rep.log ∨ Cannot C A t p
  vt : ∀ t x c, x < 3 → c < 3 → g.V t x = ((c : Nat) : Int) → t ≤ (C.nd c).rep.term
  im : ∀ i, i < 3 → (C.nd i).rep.role = 2 → ∀ f, f < 3 → f ≠ i → (C.nd i).rep.mat f ≤ A (C.nd i).rep.term f
  ik : ∀ m ∈ C.sent, m.kind = 3 → m.yes = true → ∃ f : Nat, f < 3 ∧ m.src = f ∧ m.index.toNat ≤ A m.term f
  ic : ∀ m ∈ C.sent, m.kind = 2 → Sure g A m.term (g.LL m.term) m.commit.toNat
  co : ∀ j, j < 3 → Sure g A (C.nd j).rep.term (C.nd j).rep.log (C.nd j).rep.commit

/-! ### what stays -/
/-- lists of leaders grow by entries of their term -/
def Grow (g g' : Gh) : Prop := ∀ u, g.ld u ≠ -1 → ∃ s, g'.LL u = g.LL u ++ s ∧ ∀ x ∈ s, x.term = u

theorem Valid.ext {g g' : Gh} (he : Ext g.LL g'.LL) {t : Int} {p : Nat} (h : Valid g t p) : Valid g' t p := by
  obtain ⟨s, hs⟩ := he t
  obtain ⟨h1, h2, h3⟩ := h
  exact ⟨h1, by rw [hs, List.length_append]; omega, by rw [hs, term_ext h2]; exact h3⟩

theorem Valid.back {g g' : Gh} (he : Ext g.LL g'.LL) {t : Int} {p : Nat} (h : Valid g' t p) (hp : p ≤ (g.LL t).length) : Valid g t p := by
  obtain ⟨s, hs⟩ := he t
  obtain ⟨h1, h2, h3⟩ := h
  exact ⟨h1, hp, by rw [hs, term_ext hp] at h3; exact h3⟩

theorem Has.ext {g g' : Gh} (he : Ext g.LL g'.LL) {t : Int} {p : Nat} {l : List RecD} (hp : p ≤ (g.LL t).length) : Has g' t p l ↔ Has g t p l := by
  obtain ⟨s, hs⟩ := he t
  unfold Has
  rw [hs, List.take_append_of_le_length hp]

theorem Has.more {g : Gh} {t : Int} {p : Nat} {l s : List RecD} (h : Has g t p l) : Has g t p (l ++ s) :=
  ⟨by rw [List.length_append]; have := h.1; omega, by rw [List.take_append_of_le_length h.1]; exact h.2⟩

theorem Has.less {g : Gh} {t : Int} {p n : Nat} {l : List RecD} (h : Has g t p l) (hn : n ≤ p) : Has g t n l := by
  obtain ⟨h1, h2⟩ := h
  refine ⟨by omega, ?_⟩
  have := congrArg (List.take n) h2
  rwa [List.take_take, List.take_take, Nat.min_eq_left hn] at this

/-- a list that lacked it lacks it -/
theorem has_back {g g' : Gh} {t : Int} (he : Ext g.LL g'.LL) (hg : Grow g g') (hs : Sorted (g.LL t) t) {u : Int} {p : Nat} (htu : t < u) (hp : p ≤ (g.LL t).length) (hu : g.ld u ≠ -1) (h : Has g' t p (g'.LL u)) : Has g t p (g.LL u) := by
  rw [Has.ext he hp] at h
  obtain ⟨s, e, hx⟩ := hg u hu
  obtain ⟨h1, h2⟩ := h
  rcases Nat.lt_or_ge (g.LL u).length p with hlt | hge
  · exfalso
    obtain ⟨q, rfl⟩ : ∃ q, p = q + 1 := ⟨p - 1, by omega⟩
    have hq1 : q < (g'.LL u).length := h1
    have hq2 : q < (g.LL t).length := hp
    have e1 : (g'.LL u)[q]? = (g.LL t)[q]? := by
      have := congrArg (fun l => l[q]?) h2
      simpa [List.getElem?_take_of_lt (show q < q + 1 by omega)] using this
    obtain ⟨z, hz⟩ : ∃ z, (g'.LL u)[q]? = some z := ⟨_, List.getElem?_eq_getElem hq1⟩
    have hz2 : (g.LL t)[q]? = some z := by rw [← e1]; exact hz
    have e3 : z.term = u := hx z (by
      rw [e, List.getElem?_append_right (by omega)] at hz
      exact List.mem_of_getElem? hz)
    have e4 := hs.hi z (List.mem_of_getElem? hz2)
    omega
  · rw [e, List.take_append_of_le_length hge] at h2
    exact ⟨hge, h2⟩

def ackA (A : Int → Nat → Nat) (i : Nat) (t : Int) (n : Nat) : Int → Nat → Nat := fun u j => if u = t ∧ j = i then n else A u j
theorem ackA_self (A : Int → Nat → Nat) (i : Nat) (t : Int) (n : Nat) : ackA A i t n t i = n := if_pos ⟨rfl, rfl⟩
theorem ackA_ne (A : Int → Nat → Nat) {i j : Nat} {t u : Int} (n : Nat) (h : ¬ (u = t ∧ j = i)) : ackA A i t n u j = A u j := if_neg h
theorem ackA_le {A : Int → Nat → Nat} {i : Nat} {t : Int} {n : Nat} (h : A t i ≤ n) (u : Int) (j : Nat) : A u j ≤ ackA A i t n u j := by
  unfold ackA
  split
  · rename_i hc
    obtain ⟨rfl, rfl⟩ := hc
    exact h
  · exact Nat.le_refl _

theorem Chosen.ext {g g' : Gh} {A A' : Int → Nat → Nat} (he : Ext g.LL g'.LL) (ha : ∀ t j, A t j ≤ A' t j) {t : Int} {p : Nat} (h : Chosen g A t p) : Chosen g' A' t p := by
  obtain ⟨hv, a, b, h1, h2, h3, h4, h5⟩ := h
  exact ⟨hv.ext he, a, b, h1, h2, h3, Nat.le_trans h4 (ha t a), Nat.le_trans h5 (ha t b)⟩

theorem Sure.ext {g g' : Gh} {A A' : Int → Nat → Nat} (he : Ext g.LL g'.LL) (ha : ∀ t j, A t j ≤ A' t j) {s s' : Int} (hs : s ≤ s') {l r : List RecD} {n : Nat} (h : Sure g A s l n) : Sure g' A' s' (l ++ r) n := by
  rcases h with h | ⟨t, p, h1, h2, h3, h4⟩
  · exact .inl h
  · refine .inr ⟨t, p, h1.ext he ha, by omega, h3, Has.more ?_⟩
    have := h1.1.2.1
    exact (Has.ext he (by omega)).2 h4

theorem Sure.ext0 {g g' : Gh} {A A' : Int → Nat → Nat} (he : Ext g.LL g'.LL) (ha : ∀ t j, A t j ≤ A' t j) {s s' : Int} (hs : s ≤ s') {l : List RecD} {n : Nat} (h : Sure g A s l n) : Sure g' A' s' l n := by
  have := h.ext (r := []) he ha hs
  rwa [List.append_nil] at this

/-- chosen, and not to be chosen -/
theorem Chosen.no {C : Cl} {g : Gh} {A : Int → Nat → Nat} {t : Int} {p : Nat} (h : Chosen g A t p) (hc : Cannot C A t p) : False := by
  obtain ⟨_, a, b, h1, h2, h3, h4, h5⟩ := h
  obtain ⟨x, y, k1, k2, k3, _, _, k4, k5⟩ := hc
  have : a = x ∨ a = y ∨ b = x ∨ b = y := by omega
  rcases this with rfl | rfl | rfl | rfl <;> omega

/-- what node i may become, and send -/
structure SFit (C : Cl) (g : Gh) (A : Int → Nat → Nat) (i : Nat) (r : Rep) (send : List MsgR) (g' : Gh) (n : Nat) : Prop where
  m : MFit C g i r send g'
  grow : Grow g g'
  asc : ∀ t, Sorted (g'.LL t) t
  le : A r.term i ≤ n
  a1 : n ≤ (g'.LL r.term).length
  a3 : r.role = 2 → n = r.log.length
  ia : ∀ t p, 1 ≤ p → p ≤ ackA A i r.term n t i → Has g' t p r.log ∨ ∃ u, t < u ∧ u ≤ r.term ∧ g'.ld u ≠ -1 ∧ ¬ Has g' t p (g'.LL u)
  new : ∀ u, g.ld u = -1 → g'.ld u ≠ -1 → (∀ t p, Valid g t p → t < u → Has g t p (g'.LL u) ∨ Cannot C A t p) ∧ ∀ p, ¬ Valid g' u p
  old : ∀ t p, g.ld t ≠ -1 → Valid g' t p → (g.LL t).length < p → t = (C.nd i).rep.term ∧ t = r.term
  iq : ∀ m ∈ send, m.kind = 0 → m.src = i ∧ m.term ≤ r.term ∧ (r.role = 1 → m.term = r.term → m.index = r.log.length ∧ m.prev = termAt r.log r.log.length)
  iq2 : r.role = 1 → (C.nd i).rep.term < r.term ∨ ((C.nd i).rep.role = 1 ∧ r.term = (C.nd i).rep.term ∧ r.log = (C.nd i).rep.log)
  il : r.role = 1 → ∀ x ∈ r.log, x.term < r.term
  iv : r.role = 1 → ∀ x, x < 3 → g'.V r.term x = i → ∀ t p, t < r.term → Valid g t p → p ≤ A t x → Has g t p r.log ∨ Cannot C A t p
  vote : ∀ c, c < 3 → c ≠ i → (C.nd c).rep.role = 1 → (C.nd c).rep.term = r.term → r.vote = c → g.V r.term i ≠ c → ∀ t p, t < r.term → Valid g t p → p ≤ A t i → Has g t p (C.nd c).rep.log ∨ Cannot C A t p
  vt : ∀ c, c < 3 → c ≠ i → r.vote = ((c : Nat) : Int) → g.V r.term i = c ∨ r.term ≤ (C.nd c).rep.term
  im : r.role = 2 → ∀ f, f < 3 → f ≠ i → r.mat f ≤ A r.term f
  ik : ∀ m ∈ send, m.kind = 3 → m.yes = true → m.src = i ∧ m.term = r.term ∧ m.index.toNat ≤ n
  ic : ∀ m ∈ send, m.kind = 2 → Sure g' (ackA A i r.term n) m.term (g'.LL m.term) m.commit.toNat
  co : Sure g' (ackA A i r.term n) r.term r.log r.commit

end Go.Proofs.Ytifgijoeckoojaa
end

/-
  Safety, plain: one node changes; restart; loss.
-/
section
set_option linter.unusedVariables false
set_option linter.unusedSimpArgs false
namespace Go.Proofs.Ytifgijoeckoojaa
open Go.Vc

theorem SInv.led {C : Cl} {g : Gh} {A : Int → Nat → Nat} (h : SInv C g A) {t : Int} {p : Nat} (hv : Valid g t p) : g.ld t ≠ -1 := fun e => by
  have := h.m.none t e
  have h1 := hv.1
  have h2 := hv.2.1
  rw [this] at h2
  simp at h2
  omega

theorem voted_term {C : Cl} {g : Gh} (h : MInv C g) {u : Int} {x : Nat} (hx : x < 3) (hv : g.V u x ≠ -1) : u ≤ (C.nd x).rep.term := by
  rcases Int.lt_or_le (C.nd x).rep.term u with hlt | hle
  · exact absurd (h.later x hx u hlt) hv
  · exact hle

theorem SInv.node {C C' : Cl} {g g' : Gh} {A : Int → Nat → Nat} {i n : Nat} {r : Rep} {send : List MsgR} (h : SInv C g A) (hi : i < 3) (f : SFit C g A i r send g' n) (hw : C'.Wf) (hr : (C'.nd i).rep = r) (hne : ∀ j, j ≠ i → C'.nd j = C.nd j) (hs : ∀ m ∈ C'.sent, m ∈ C.sent ∨ m ∈ send) : SInv C' g' (ackA A i r.term n) := by
  have hm := h.m.node hi f.m hw hr hne hs
  have he := f.m.ext
  have hup := f.m.up
  have ha : ∀ t j, A t j ≤ ackA A i r.term n t j := ackA_le f.le
  have hterm : ∀ j, (C.nd j).rep.term ≤ (C'.nd j).rep.term := fun j => by
    by_cases hji : j = i
    · subst hji; rw [hr]; exact hup
    · rw [hne j hji]; exact Int.le_refl _
  have hld : ∀ u, g.ld u ≠ -1 → g'.ld u = g.ld u := fun u hu => by
    rcases f.m.ld u with e | ⟨e, _⟩
    · exact e
    · exact absurd e hu
  have keepA : ∀ t x, t < (C.nd x).rep.term → ackA A i r.term n t x = A t x := fun t x ht => ackA_ne _ _ fun hc => by
    obtain ⟨rfl, rfl⟩ := hc
    omega
  have can : ∀ t p, Cannot C A t p → Cannot C' (ackA A i r.term n) t p := fun t p hc => by
    obtain ⟨x, y, h1, h2, h3, h4, h5, h6, h7⟩ := hc
    have hx := hterm x
    have hy := hterm y
    exact ⟨x, y, h1, h2, h3, by omega, by omega, by rw [keepA t x h4]; exact h6, by rw [keepA t y h5]; exact h7⟩
  have ledV : ∀ t p, Valid g' t p → g'.ld t ≠ -1 := fun t p hv e => by
    have h1 := hm.none t e
    have h2 := hv.1
    have h3 := hv.2.1
    rw [h1] at h3
    simp at h3
    omega
  -- an entry that is new
  have fresh : ∀ t p, Valid g' t p → (g.LL t).length < p → g.ld t ≠ -1 ∧ t = (C.nd i).rep.term ∧ t = r.term := fun t p hv hp => by
    have hl : g.ld t ≠ -1 := fun e => (f.new t e (ledV t p hv)).2 p hv
    exact ⟨hl, f.old t p hl hv hp⟩
  refine ⟨hm, f.asc, fun t j => ?_, fun t j hj hp => ?_, fun j hj hrole => ?_, fun t j p hj h1 hp => ?_, fun t u p hv htu hu => ?_, fun m hmem hk => ?_, fun c hc hrole => ?_, fun c hc hrole x hx hV t p ht hv hp => ?_, fun t x c hx hc hV => ?_, fun j hj hrole k hk hkj => ?_, fun m hmem hk hy => ?_, fun m hmem hk => ?_, fun j hj => ?_⟩
  · by_cases hc : t = r.term ∧ j = i
    · obtain ⟨rfl, rfl⟩ := hc
      rw [ackA_self]; exact f.a1
    · rw [ackA_ne _ _ hc]
      obtain ⟨s, e⟩ := he t
      have := h.a1 t j
      rw [e, List.length_append]
      omega
  · by_cases hc : t = r.term ∧ j = i
    · obtain ⟨rfl, rfl⟩ := hc
      rw [hr]; exact Int.le_refl _
    · rw [ackA_ne _ _ hc] at hp
      exact Int.le_trans (h.a2 t j hj hp) (hterm j)
  · by_cases hji : j = i
    · subst hji
      rw [hr] at hrole ⊢
      rw [ackA_self]; exact f.a3 hrole
    · rw [hne j hji] at hrole ⊢
      rw [ackA_ne _ _ (fun hc => hji hc.2)]
      exact h.a3 j hj hrole
  · by_cases hji : j = i
    · subst hji
      rw [hr]
      exact f.ia t p h1 hp
    · rw [ackA_ne _ _ (fun hc => hji hc.2)] at hp
      rw [hne j hji]
      have hpl := Nat.le_trans hp (h.a1 t j)
      rcases h.ia t j p hj h1 hp with h2 | ⟨u, h2, h3, h4, h5⟩
      · exact .inl ((Has.ext he hpl).2 h2)
      · exact .inr ⟨u, h2, h3, by rw [hld u h4]; exact h4, fun hh => h5 (has_back he f.grow (h.asc t) h2 hpl h4 hh)⟩
  · by_cases hp : p ≤ (g.LL t).length
    · have hv0 := hv.back he hp
      by_cases e : g.ld u = -1
      · rcases (f.new u e hu).1 t p hv0 htu with h1 | h1
        · exact .inl ((Has.ext he hp).2 h1)
        · exact .inr (can t p h1)
      · rcases h.ib t u p hv0 htu e with h1 | h1
        · obtain ⟨s, es, _⟩ := f.grow u e
          refine .inl ((Has.ext he hp).2 ?_)
          rw [es]
          exact h1.more
        · exact .inr (can t p h1)
    · obtain ⟨_, e1, e2⟩ := fresh t p hv (by omega)
      have e : g.ld u ≠ -1 := fun e => by
        rcases f.m.ld u with e3 | ⟨_, _, e3, _⟩
        · exact hu (by rw [e3]; exact e)
        · omega
      obtain ⟨x, y, hx, hy, hxy, hvx, hvy⟩ := h.m.quo u e
      have tx := voted_term h.m hx (by rw [hvx]; exact e)
      have ty := voted_term h.m hy (by rw [hvy]; exact e)
      have ux := hterm x
      have uy := hterm y
      have ax := h.a1 t x
      have ay := h.a1 t y
      exact .inr ⟨x, y, hx, hy, hxy, by omega, by omega, by rw [keepA t x (by omega)]; omega, by rw [keepA t y (by omega)]; omega⟩
  · rcases hs m hmem with h1 | h1
    · obtain ⟨c, hc, a1, a2, a3⟩ := h.iq m h1 hk
      refine ⟨c, hc, a1, Int.le_trans a2 (hterm c), ?_⟩
      by_cases hci : c = i
      · subst hci
        rw [hr]
        intro hro ht
        rcases f.iq2 hro with h2 | ⟨h2, h3, h4⟩
        · omega
        · rw [h4]; exact a3 h2 (by omega)
      · rw [hne c hci]; exact a3
    · obtain ⟨a1, a2, a3⟩ := f.iq m h1 hk
      exact ⟨i, hi, a1, by rw [hr]; exact a2, by rw [hr]; exact a3⟩
  · by_cases hci : c = i
    · subst hci
      rw [hr] at hrole ⊢
      exact f.il hrole
    · rw [hne c hci] at hrole ⊢
      exact h.il c hc hrole
  · by_cases hci : c = i
    · subst hci
      rw [hr] at hrole hV ht ⊢
      have hpl : p ≤ (g.LL t).length := Decidable.byContradiction fun hn => by
        obtain ⟨_, _, e2⟩ := fresh t p hv (by omega)
        omega
      have hv0 := hv.back he hpl
      rw [ackA_ne _ _ (fun hc => by omega)] at hp
      rcases f.iv hrole x hx hV t p ht hv0 hp with h1 | h1
      · exact .inl ((Has.ext he hpl).2 h1)
      · exact .inr (can t p h1)
    · rw [hne c hci] at hrole hV ht ⊢
      have hcx : g.V (C.nd c).rep.term x = c → (C.nd c).rep.term ≤ (C.nd x).rep.term := fun e => voted_term h.m hx (by rw [e]; omega)
      by_cases hpl : p ≤ (g.LL t).length
      · have hv0 := hv.back he hpl
        have fin : Has g t p (C.nd c).rep.log ∨ Cannot C A t p → Has g' t p (C.nd c).rep.log ∨ Cannot C' (ackA A i r.term n) t p := fun q => by
          rcases q with h1 | h1
          · exact .inl ((Has.ext he hpl).2 h1)
          · exact .inr (can t p h1)
        by_cases hold : g.V (C.nd c).rep.term x = c
        · have := hcx hold
          rw [keepA t x (by omega)] at hp
          exact fin (h.iv c hc hrole x hx hold t p ht hv0 hp)
        · rw [f.m.V] at hV
          by_cases hch : (C.nd c).rep.term = r.term ∧ x = i
          · obtain ⟨e1, rfl⟩ := hch
            rw [e1, voteV_self] at hV
            rw [ackA_ne _ _ (fun hc => by omega)] at hp
            exact fin (f.vote c hc hci hrole e1 hV (by rw [← e1]; exact hold) t p (by omega) hv0 hp)
          · rw [voteV_ne _ _ hch] at hV
            exact absurd hV hold
      · exfalso
        obtain ⟨_, e1, e2⟩ := fresh t p hv (by omega)
        have ax := h.a1 t x
        by_cases hxi : x = i
        · subst hxi
          rw [f.m.V, voteV_ne _ _ (fun hc => by omega)] at hV
          have := hcx hV
          omega
        · rw [ackA_ne _ _ (fun hc => hxi hc.2)] at hp
          omega
  · rw [f.m.V] at hV
    by_cases hch : t = r.term ∧ x = i
    · obtain ⟨rfl, rfl⟩ := hch
      rw [voteV_self] at hV
      by_cases hci : c = x
      · subst hci; rw [hr]; exact Int.le_refl _
      · rcases f.vt c hc hci hV with e | e
        · exact Int.le_trans (h.vt _ _ c hx hc e) (hterm c)
        · exact Int.le_trans e (hterm c)
    · rw [voteV_ne _ _ hch] at hV
      exact Int.le_trans (h.vt t x c hx hc hV) (hterm c)
  · by_cases hji : j = i
    · subst hji
      rw [hr] at hrole ⊢
      exact Nat.le_trans (f.im hrole k hk hkj) (ha _ _)
    · rw [hne j hji] at hrole ⊢
      exact Nat.le_trans (h.im j hj hrole k hk hkj) (ha _ _)
  · rcases hs m hmem with h1 | h1
    · obtain ⟨k, hk3, a1, a2⟩ := h.ik m h1 hk hy
      exact ⟨k, hk3, a1, Nat.le_trans a2 (ha _ _)⟩
    · obtain ⟨a1, a2, a3⟩ := f.ik m h1 hk hy
      exact ⟨i, hi, a1, by rw [a2, ackA_self]; exact a3⟩
  · rcases hs m hmem with h1 | h1
    · obtain ⟨s, e⟩ := he m.term
      rw [e]
      exact (h.ic m h1 hk).ext he ha (Int.le_refl _)
    · exact f.ic m h1 hk
  · by_cases hji : j = i
    · subst hji
      rw [hr]
      exact f.co
    · rw [hne j hji]
      exact (h.co j hj).ext0 he ha (Int.le_refl _)

end Go.Proofs.Ytifgijoeckoojaa
end

/-
  Safety, plain: where a log stays; restart, loss.
-/
section
set_option linter.unusedVariables false
set_option linter.unusedSimpArgs false
namespace Go.Proofs.Ytifgijoeckoojaa
open Go.Vc

theorem ackA_id (A : Int → Nat → Nat) (i : Nat) (t : Int) : ackA A i t (A t i) = A := by
  funext u j
  unfold ackA
  split
  · rename_i hc
    obtain ⟨rfl, rfl⟩ := hc
    rfl
  · rfl

theorem grow_refl {g g' : Gh} (h : g'.LL = g.LL) : Grow g g' := fun u _ => ⟨[], by rw [h, List.append_nil], fun x hx => by cases hx⟩

theorem has_eq {g g' : Gh} (h : g'.LL = g.LL) {t : Int} {p : Nat} {l : List RecD} : Has g' t p l ↔ Has g t p l := by unfold Has; rw [h]
theorem sure_eq {g g' : Gh} (h : g'.LL = g.LL) {A : Int → Nat → Nat} {s : Int} {l : List RecD} {n : Nat} (hs : Sure g A s l n) : Sure g' A s l n :=
  hs.ext0 (fun t => ⟨[], by rw [h, List.append_nil]⟩) (fun _ _ => Nat.le_refl _) (Int.le_refl _)

/-- nothing is appended, nothing acknowledged, nobody begins to ask or to lead -/
theorem sfit_quiet {C : Cl} {g g' : Gh} {A : Int → Nat → Nat} (h : SInv C g A) {i : Nat} (hi : i < 3) {r : Rep} {send : List MsgR} (fm : MFit C g i r send g') (hLL : g'.LL = g.LL) (hld : g'.ld = g.ld) (hlog : r.log = (C.nd i).rep.log)
    (h1 : r.role = 1 → (C.nd i).rep.role = 1 ∧ r.term = (C.nd i).rep.term) (h2 : r.role = 2 → (C.nd i).rep.role = 2 ∧ r.term = (C.nd i).rep.term)
    (hself : r.role = 1 → ∀ x, x < 3 → g'.V r.term x = i → g.V r.term x = i)
    (hvote : ∀ c, c < 3 → c ≠ i → (C.nd c).rep.role = 1 → (C.nd c).rep.term = r.term → r.vote = c → g.V r.term i ≠ c → ∀ t p, t < r.term → Valid g t p → p ≤ A t i → Has g t p (C.nd c).rep.log ∨ Cannot C A t p)
    (hvt : ∀ c, c < 3 → c ≠ i → r.vote = ((c : Nat) : Int) → g.V r.term i = c ∨ r.term ≤ (C.nd c).rep.term)
    (him : r.role = 2 → ∀ f, f < 3 → f ≠ i → r.mat f ≤ A r.term f) (hk0 : ∀ m ∈ send, m.kind ≠ 0) (hik : ∀ m ∈ send, m.kind = 3 → m.yes = true → m.src = i ∧ m.term = r.term ∧ m.index.toNat ≤ A r.term i)
    (hic : ∀ m ∈ send, m.kind = 2 → Sure g A m.term (g.LL m.term) m.commit.toNat) (hco : Sure g A r.term r.log r.commit) : SFit C g A i r send g' (A r.term i) := by
  refine ⟨fm, grow_refl hLL, by rw [hLL]; exact h.asc, Nat.le_refl _, by rw [hLL]; exact h.a1 _ _, fun hr => ?_, fun t p hp1 hp => ?_, fun u hu hu' => absurd hu (by rw [← hld]; exact hu'), fun t p _ hv hlt => ?_, fun m hm hk => absurd hk (hk0 m hm), fun hr => ?_, fun hr => ?_, fun hr x hx hv t p ht hval hp => ?_, hvote, hvt, him, hik, fun m hm hk => ?_, ?_⟩
  · obtain ⟨a, b⟩ := h2 hr
    rw [b, hlog]; exact h.a3 i hi a
  · rw [ackA_id] at hp
    rw [hlog]
    rcases h.ia t i p hi hp1 hp with q | ⟨u, q1, q2, q3, q4⟩
    · exact .inl ((has_eq hLL).2 q)
    · exact .inr ⟨u, q1, Int.le_trans q2 fm.up, by rw [hld]; exact q3, fun hh => q4 (by rw [hLL] at hh; exact (has_eq hLL).1 hh)⟩
  · have := hv.2.1
    rw [hLL] at this
    omega
  · obtain ⟨a, b⟩ := h1 hr
    exact .inr ⟨a, b, hlog⟩
  · obtain ⟨a, b⟩ := h1 hr
    rw [hlog, b]; exact h.il i hi a
  · obtain ⟨a, b⟩ := h1 hr
    have := hself hr x hx hv
    rw [b] at this ht
    rw [hlog]
    exact h.iv i hi a x hx this t p ht hval hp
  · rw [ackA_id, hLL]
    exact sure_eq hLL (hic m hm hk)
  · rw [ackA_id]
    exact sure_eq hLL hco

theorem start_mfit {C : Cl} {g : Gh} (h : MInv C g) {i : Nat} (hi : i < 3) : MFit C g i (newRep i (C.nd i).sterm (C.nd i).svote (C.nd i).slog) [] g := by
  obtain ⟨h1, h2, h3⟩ := h.wf.hard i hi
  refine ⟨?_, by show _ ≤ (C.nd i).sterm; omega, fun _ _ => h2, fun m hm => (by cases hm), fun t => .inl rfl, Ext.refl _, fun t => .inl rfl, fun hr => (by cases (show (0 : Int) = 1 from hr)), fun hr => (by cases (show (0 : Int) = 2 from hr)), ?_, fun m hm => (by cases hm)⟩
  · funext t j
    by_cases hc : t = (C.nd i).sterm ∧ j = i
    · obtain ⟨rfl, rfl⟩ := hc
      have := h.now j hi
      rw [← h1, ← h2] at this
      rw [this]
      exact (voteV_self _ _ _ _).symm
    · exact (voteV_ne _ _ hc).symm
  · show Pre g.LL (C.nd i).slog
    rw [h3]
    exact h.log i hi

theorem SInv.start {C : Cl} {g : Gh} {A : Int → Nat → Nat} (h : SInv C g A) {i : Nat} (hi : i < 3) : SInv (startC C i) g A := by
  obtain ⟨h1, h2, h3⟩ := h.m.wf.hard i hi
  have e : ((startC C i).nd i).rep = newRep i (C.nd i).sterm (C.nd i).svote (C.nd i).slog := by
    unfold startC
    simp only [put_self]
    rfl
  have f : SFit C g A i (newRep i (C.nd i).sterm (C.nd i).svote (C.nd i).slog) [] g (A (newRep i (C.nd i).sterm (C.nd i).svote (C.nd i).slog).term i) :=
    sfit_quiet h hi (start_mfit h.m hi) rfl rfl h3 (fun hr => (by cases (show (0 : Int) = 1 from hr))) (fun hr => (by cases (show (0 : Int) = 2 from hr))) (fun hr => (by cases (show (0 : Int) = 1 from hr)))
      (fun c hc hci hro ht hv hV => absurd (by
        have := h.m.now i hi
        show g.V (C.nd i).sterm i = c
        rw [h1, this, ← h2]; exact hv) hV)
      (fun c hc hci hv => .inl (by
        have := h.m.now i hi
        show g.V (C.nd i).sterm i = c
        rw [h1, this, ← h2]; exact hv)) (fun hr => (by cases (show (0 : Int) = 2 from hr))) (fun m hm => (by cases hm)) (fun m hm => (by cases hm)) (fun m hm => (by cases hm)) (.inl rfl)
  have := h.node hi f (start_wf h.m.wf hi) e (fun j hj => put_ne _ _ hj) fun m hm => .inl hm
  rwa [ackA_id] at this

theorem SInv.call {C : Cl} {g g' : Gh} {A : Int → Nat → Nat} (h : SInv C g A) {i n : Nat} (hi : i < 3) {x : Rep × OutR} (hx : x.1.Wf) (hf : Fits (C.nd i).rep x.1 x.2) (f : SFit C g A i x.1 x.2.send g' n) : (SInv (callC C i x) g A ∧ g = g) ∨ SInv (callC C i x) g' (ackA A i x.1.term n) := by
  have hid := (h.m.wf.rep i hi).2
  have hw := call_wf h.m.wf hi hx hf
  have hh : (hardC C i x.1).Wf := hard_wf h.m.wf hi hx (by rw [hf.id]; exact hid)
  rw [call_cases h.m.wf hi hf] at hw ⊢
  split
  · exact .inl ⟨h.start hi, rfl⟩
  rename_i hs1
  rw [if_neg hs1] at hw
  split
  · have h1 := h.node hi f hh (by unfold hardC; simp only [put_self]; rfl) (fun j hj => put_ne _ _ hj) fun m hm => .inl hm
    exact .inr (h1.start hi)
  · rename_i hs2
    rw [if_neg hs2] at hw
    refine .inr (h.node hi f hw (by unfold hardC; simp only [put_self]; rfl) (fun j hj => put_ne _ _ hj) fun m hm => ?_)
    rcases List.mem_append.1 hm with hm | hm
    · exact .inl hm
    · exact .inr (List.mem_of_mem_take hm)

theorem SInv.drop {C : Cl} {g : Gh} {A : Int → Nat → Nat} (h : SInv C g A) {n : Nat} (hn : n < C.sent.length) : SInv (dropC C n) g A := by
  have hs : ∀ m ∈ (dropC C n).sent, m ∈ C.sent := fun m hm => by
    rcases List.mem_append.1 hm with hm | hm
    · exact List.mem_of_mem_take hm
    · exact List.mem_of_mem_drop hm
  exact ⟨h.m.drop hn, h.asc, h.a1, h.a2, h.a3, h.ia, h.ib, fun m hm => h.iq m (hs m hm), h.il, h.iv, h.vt, h.im, fun m hm => h.ik m (hs m hm), fun m hm => h.ic m (hs m hm), h.co⟩

theorem SInv.stop {C : Cl} {g : Gh} {A : Int → Nat → Nat} (h : SInv C g A) {i : Nat} (hi : i < 3) {s : Int} (hs : s = 1 ∨ s = 2) : SInv (stopC C i s) g A := by
  have e : ∀ j, ((stopC C i s).nd j).rep = (C.nd j).rep := fun j => by
    by_cases hj : j = i
    · subst hj
      unfold stopC ndC
      simp only [put_self]
    · unfold stopC ndC
      simp only [put_ne _ _ hj]
  have hc : ∀ t p, Cannot C A t p → Cannot (stopC C i s) A t p := fun t p ⟨x, y, a1, a2, a3, a4, a5, a6, a7⟩ => ⟨x, y, a1, a2, a3, by rw [e]; exact a4, by rw [e]; exact a5, a6, a7⟩
  refine ⟨h.m.stop hi hs, h.asc, h.a1, fun t j hj => ?_, fun j hj => ?_, fun t j p hj => ?_, fun t u p a b c => (h.ib t u p a b c).imp id (hc t p), fun m hm hk => ?_, fun c hcc => ?_, fun c hcc => ?_, fun t x c hx hcc hV => ?_, fun j hj => ?_, h.ik, h.ic, fun j hj => ?_⟩
  · rw [e]; exact h.a2 t j hj
  · rw [e]; exact h.a3 j hj
  · rw [e]; exact h.ia t j p hj
  · obtain ⟨c, a1, a2, a3, a4⟩ := h.iq m hm hk
    exact ⟨c, a1, a2, by rw [e]; exact a3, by rw [e]; exact a4⟩
  · rw [e]; exact h.il c hcc
  · rw [e]; exact fun a x b d t p k1 k2 k3 => (h.iv c hcc a x b d t p k1 k2 k3).imp id (hc t p)
  · rw [e]; exact h.vt t x c hx hcc hV
  · rw [e]; exact h.im j hj
  · rw [e]; exact h.co j hj

end Go.Proofs.Ytifgijoeckoojaa
end

/-
  Safety, plain: Tick and Propose.
-/
section
set_option linter.unusedVariables false
set_option linter.unusedSimpArgs false
namespace Go.Proofs.Ytifgijoeckoojaa
open Go.Vc

theorem voteV_now {C : Cl} {g : Gh} (h : MInv C g) {i : Nat} (hi : i < 3) : voteV g.V i (C.nd i).rep.term (C.nd i).rep.vote = g.V := by
  funext t j
  by_cases hc : t = (C.nd i).rep.term ∧ j = i
  · obtain ⟨rfl, rfl⟩ := hc
    rw [voteV_self]
    exact (h.now j hi).symm
  · exact voteV_ne _ _ hc

theorem all_ic {g : Gh} {A : Int → Nat → Nat} {r : Rep} (hs : Sure g A r.term (g.LL r.term) r.commit) : ∀ m ∈ allOf r, Sure g A m.term (g.LL m.term) m.commit.toNat := fun m hm => by
  unfold allOf at hm
  obtain ⟨f, _, rfl⟩ := List.mem_map.1 hm
  exact hs

/-- the replica is as it was -/
theorem sfit_as {C : Cl} {g g' : Gh} {A : Int → Nat → Nat} (h : SInv C g A) {i : Nat} (hi : i < 3) {send : List MsgR} (fm : MFit C g i (C.nd i).rep send g') (hLL : g'.LL = g.LL) (hld : g'.ld = g.ld)
    (hk0 : ∀ m ∈ send, m.kind ≠ 0) (hik : ∀ m ∈ send, m.kind = 3 → m.yes = true → m.src = i ∧ m.term = (C.nd i).rep.term ∧ m.index.toNat ≤ A (C.nd i).rep.term i) (hic : ∀ m ∈ send, m.kind = 2 → Sure g A m.term (g.LL m.term) m.commit.toNat) :
    SFit C g A i (C.nd i).rep send g' (A (C.nd i).rep.term i) :=
  sfit_quiet h hi fm hLL hld rfl (fun hr => ⟨hr, rfl⟩) (fun hr => ⟨hr, rfl⟩) (fun _ x _ hv => by rw [fm.V, voteV_now h.m hi] at hv; exact hv) (fun c _ _ _ _ hv hV => absurd ((h.m.now i hi).trans hv) hV) (fun c _ _ hv => .inl ((h.m.now i hi).trans hv)) (h.im i hi) hk0 hik hic (h.co i hi)

theorem tick_s {C : Cl} {g : Gh} {A : Int → Nat → Nat} (h : SInv C g A) {i : Nat} (hi : i < 3) : ∃ g' n, SFit C g A i (tickP (C.nd i).rep).1 (tickP (C.nd i).rep).2.send g' n := by
  obtain ⟨hw, hid⟩ := h.m.wf.rep i hi
  obtain ⟨g', fm, hLL, hld⟩ := tick_m h.m hi
  by_cases h2 : (C.nd i).rep.role = 2
  · have e : tickP (C.nd i).rep = ((C.nd i).rep, outS (allOf (C.nd i).rep)) := if_pos h2
    rw [e] at fm ⊢
    refine ⟨g', _, sfit_as h hi fm hLL hld (fun m hm => by rw [all_kind _ m hm]; decide) (fun m hm hk => by rw [all_kind _ m hm] at hk; cases hk) fun m hm _ => all_ic ?_ m hm⟩
    rw [(h.m.lead i hi h2).2]
    exact h.co i hi
  by_cases h3 : (C.nd i).rep.term = 1099511627776
  · have e : tickP (C.nd i).rep = ((C.nd i).rep, out0) := by unfold tickP; rw [if_neg h2, if_pos h3]
    rw [e] at fm ⊢
    exact ⟨g', _, sfit_as h hi fm hLL hld (fun m hm => by cases hm) (fun m hm => by cases hm) (fun m hm => by cases hm)⟩
  · obtain ⟨r', hr'⟩ : ∃ r' : Rep, ({ (C.nd i).rep with term := (C.nd i).rep.term + 1, vote := (C.nd i).rep.id, role := 1, votes := fun k => decide (k = (C.nd i).rep.id) } : Rep) = r' := ⟨_, rfl⟩
    have e1 : (tickP (C.nd i).rep).1 = r' := by unfold tickP; rw [if_neg h2, if_neg h3, ← hr']
    have e2 : (tickP (C.nd i).rep).2.send = (othersOf (C.nd i).rep.id).map fun k => askOf r' k := by unfold tickP; rw [if_neg h2, if_neg h3, ← hr']
    rw [e1, e2] at fm ⊢
    have t1 : r'.term = (C.nd i).rep.term + 1 := by rw [← hr']
    have l1 : r'.log = (C.nd i).rep.log := by rw [← hr']
    have v1 : r'.vote = i := by rw [← hr', hid]
    have i1 : r'.id = i := by rw [← hr', hid]
    have c1 : r'.commit = (C.nd i).rep.commit := by rw [← hr']
    have o1 : r'.role = 1 := by rw [← hr']
    have hask : ∀ m ∈ (othersOf (C.nd i).rep.id).map (fun k => askOf r' k), ∃ k, m = askOf r' k := fun m hm => by
      obtain ⟨k, _, rfl⟩ := List.mem_map.1 hm
      exact ⟨k, rfl⟩
    have mine : ∀ t p, Valid g t p → p ≤ A t i → Has g t p (C.nd i).rep.log ∨ Cannot C A t p := fun t p hv hp => by
      rcases h.ia t i p hi hv.1 hp with q | ⟨u, q1, _, q3, q4⟩
      · exact .inl q
      · rcases h.ib t u p hv q1 q3 with q | q
        · exact absurd q q4
        · exact .inr q
    refine ⟨g', A r'.term i, fm, grow_refl hLL, by rw [hLL]; exact h.asc, Nat.le_refl _, by rw [hLL]; exact h.a1 _ _, fun hr => by omega, fun t p hp1 hp => ?_, fun u hu hu' => absurd hu (by rw [← hld]; exact hu'), fun t p _ hv hlt => ?_, fun m hm hk => ?_, fun _ => .inl (by omega), fun _ x hx => ?_, fun _ x hx hV t p ht hv hp => ?_, fun c _ hci _ _ hv => absurd (by rw [v1] at hv; omega) hci, fun c _ hci hv => absurd (by rw [v1] at hv; omega) hci, fun hr => by omega, fun m hm hk => ?_, fun m hm hk => ?_, ?_⟩
    · rw [ackA_id] at hp
      rw [l1]
      rcases h.ia t i p hi hp1 hp with q | ⟨u, q1, q2, q3, q4⟩
      · exact .inl ((has_eq hLL).2 q)
      · exact .inr ⟨u, q1, by omega, by rw [hld]; exact q3, fun hh => q4 (by rw [hLL] at hh; exact (has_eq hLL).1 hh)⟩
    · have := hv.2.1
      rw [hLL] at this
      omega
    · obtain ⟨k, rfl⟩ := hask m hm
      exact ⟨by show (r'.id : Int) = i; rw [i1], Int.le_refl _, fun _ _ => ⟨rfl, rfl⟩⟩
    · rw [l1] at hx
      have := hw.ok.log.hi x hx
      omega
    · rw [l1]
      by_cases hxi : x = i
      · subst hxi
        exact mine t p hv hp
      · rw [fm.V, voteV_ne _ _ (fun hc => hxi hc.2)] at hV
        have := h.vt _ x i hx hi hV
        omega
    · obtain ⟨k, rfl⟩ := hask m hm
      cases hk
    · obtain ⟨k, rfl⟩ := hask m hm
      cases hk
    · rw [ackA_id, l1, c1]
      exact sure_eq hLL ((h.co i hi).ext0 (Ext.refl _) (fun _ _ => Nat.le_refl _) (by omega))

theorem prop_s {C : Cl} {g : Gh} {A : Int → Nat → Nat} (h : SInv C g A) {i : Nat} (hi : i < 3) (data : ByteArray) : ∃ g' n, SFit C g A i (proposeP (C.nd i).rep data).1 (proposeP (C.nd i).rep data).2.2.2.send g' n := by
  obtain ⟨hw, hid⟩ := h.m.wf.rep i hi
  have hw' := (propose_wf hw data).1
  obtain ⟨g', fm, hld, hLo, hL0⟩ := prop_m h.m hi data
  have same : proposeP (C.nd i).rep data = ((C.nd i).rep, (proposeP (C.nd i).rep data).2.1, (proposeP (C.nd i).rep data).2.2.1, out0) → ∃ g' n, SFit C g A i (proposeP (C.nd i).rep data).1 (proposeP (C.nd i).rep data).2.2.2.send g' n := fun e => by
    rw [e] at fm hL0 ⊢
    exact ⟨g', _, sfit_as h hi fm (hL0 rfl) hld (fun m hm => by cases hm) (fun m hm => by cases hm) (fun m hm => by cases hm)⟩
  by_cases h2 : (C.nd i).rep.role = 2
  · by_cases h3 : 2000 < (data.size : Int)
    · exact same (by unfold proposeP; rw [if_neg (by simpa using h2), if_pos h3])
    by_cases h4 : (C.nd i).rep.log.length = 4000
    · exact same (by unfold proposeP; rw [if_neg (by simpa using h2), if_neg h3, if_pos h4])
    obtain ⟨x, hx⟩ : ∃ x : RecD, x = ⟨(C.nd i).rep.term, data⟩ := ⟨_, rfl⟩
    obtain ⟨r', hr'⟩ : ∃ r' : Rep, ({ (C.nd i).rep with log := (C.nd i).rep.log ++ [x] } : Rep) = r' := ⟨_, rfl⟩
    have e1 : (proposeP (C.nd i).rep data).1 = r' := by unfold proposeP; rw [if_neg (by simpa using h2), if_neg h3, if_neg h4, ← hr', hx]
    have e2 : (proposeP (C.nd i).rep data).2.2.2.send = allOf r' := by unfold proposeP; rw [if_neg (by simpa using h2), if_neg h3, if_neg h4, ← hr', hx]
    rw [e1, e2] at fm ⊢
    rw [e1] at hw'
    have t1 : r'.term = (C.nd i).rep.term := by rw [← hr']
    have l1 : r'.log = (C.nd i).rep.log ++ [x] := by rw [← hr']
    have v1 : r'.vote = (C.nd i).rep.vote := by rw [← hr']
    have c1 : r'.commit = (C.nd i).rep.commit := by rw [← hr']
    have o1 : r'.role = 2 := by rw [← hr']; exact h2
    have m1 : r'.mat = (C.nd i).rep.mat := by rw [← hr']
    obtain ⟨hl1, hl2⟩ := h.m.lead i hi h2
    have hL1 : g'.LL (C.nd i).rep.term = (C.nd i).rep.log ++ [x] := by have := (fm.lead o1).2; rw [t1, l1] at this; exact this
    have ha3 := h.a3 i hi h2
    have he := fm.ext
    have hgrow : Grow g g' := fun u _ => by
      by_cases hu : u = (C.nd i).rep.term
      · subst hu
        exact ⟨[x], by rw [hL1, hl2], fun y hy => by rw [List.mem_singleton.1 hy, hx]⟩
      · exact ⟨[], by rw [hLo u hu, List.append_nil], fun y hy => by cases hy⟩
    have hle : A r'.term i ≤ (C.nd i).rep.log.length + 1 := by rw [t1, ha3]; omega
    have hco : Sure g' (ackA A i r'.term ((C.nd i).rep.log.length + 1)) r'.term r'.log r'.commit := by
      rw [l1, c1]
      exact (h.co i hi).ext he (ackA_le hle) (by omega)
    refine ⟨g', (C.nd i).rep.log.length + 1, fm, hgrow, fun t => ?_, hle, by rw [t1, hL1]; simp, fun _ => by rw [l1]; simp, fun t p hp1 hp => ?_, fun u hu hu' => absurd hu (by rw [← hld]; exact hu'), fun t p _ hv hlt => ?_, fun m hm hk => (by rw [all_kind _ m hm] at hk; cases hk), fun hr => by omega, fun hr => by omega, fun hr => by omega, fun c _ _ _ _ hv hV => absurd (by rw [t1, h.m.now i hi, ← v1]; exact hv) hV, fun c _ _ hv => .inl (by rw [t1, h.m.now i hi, ← v1]; exact hv), fun _ f hf hfi => by rw [m1, t1]; exact h.im i hi h2 f hf hfi, fun m hm hk => (by rw [all_kind _ m hm] at hk; cases hk), fun m hm _ => all_ic ?_ m hm, hco⟩
    · by_cases ht : t = (C.nd i).rep.term
      · rw [ht, hL1, ← l1, ← t1]; exact hw'.ok.log
      · rw [hLo t ht]; exact h.asc t
    · by_cases ht : t = (C.nd i).rep.term
      · subst ht
        rw [← t1, ackA_self] at hp
        refine .inl ⟨by rw [l1]; simp; omega, by rw [l1, hL1]⟩
      · rw [ackA_ne _ _ (fun hc => ht (by rw [← t1]; exact hc.1))] at hp
        have hpl := Nat.le_trans hp (h.a1 t i)
        rcases h.ia t i p hi hp1 hp with q | ⟨u, q1, q2, q3, q4⟩
        · rw [l1]; exact .inl ((Has.ext he hpl).2 q.more)
        · exact .inr ⟨u, q1, by omega, by rw [hld]; exact q3, fun hh => q4 (has_back he hgrow (h.asc t) q1 hpl q3 hh)⟩
    · by_cases ht : t = (C.nd i).rep.term
      · exact ⟨ht, by rw [t1]; exact ht⟩
      · have := hv.2.1
        rw [hLo t ht] at this
        omega
    · rw [(fm.lead o1).2]
      exact hco
  · exact same (by unfold proposeP; rw [if_pos h2])

end Go.Proofs.Ytifgijoeckoojaa
end

/-
  Safety, plain: to be elected.
-/
section
set_option linter.unusedVariables false
set_option linter.unusedSimpArgs false
namespace Go.Proofs.Ytifgijoeckoojaa
open Go.Vc

theorem lead_s {C : Cl} {g g' : Gh} {A : Int → Nat → Nat} (h : SInv C g A) {i : Nat} (hi : i < 3) {r : Rep} {send : List MsgR} (fm : MFit C g i r send g') (h1 : (C.nd i).rep.role = 1) (o1 : r.role = 2) (t1 : r.term = (C.nd i).rep.term) (l1 : r.log = (C.nd i).rep.log) (c1 : r.commit = (C.nd i).rep.commit)
    (v1 : r.vote = (C.nd i).rep.vote) (m1 : ∀ f, r.mat f = 0) (hfree : g.ld r.term = -1) (hsame : ∀ t, t ≠ r.term → g'.LL t = g.LL t ∧ g'.ld t = g.ld t) (hsend : send = allOf r) (hq : ∃ a b, a < 3 ∧ b < 3 ∧ a ≠ b ∧ g.V r.term a = i ∧ g.V r.term b = i) :
    SFit C g A i r send g' r.log.length := by
  obtain ⟨hw, hid⟩ := h.m.wf.rep i hi
  have he := fm.ext
  have hL0 : g.LL r.term = [] := h.m.none _ hfree
  have hA0 : A r.term i = 0 := by have := h.a1 r.term i; rw [hL0] at this; simpa using this
  obtain ⟨hl1, hl2⟩ := fm.lead o1
  have hgrow : Grow g g' := fun u hu => ⟨[], by rw [(hsame u (fun e => hu (by rw [e]; exact hfree))).1, List.append_nil], fun x hx => by cases hx⟩
  have hle : A r.term i ≤ r.log.length := by omega
  have hco : Sure g' (ackA A i r.term r.log.length) r.term r.log r.commit := by
    rw [l1, c1]
    exact (h.co i hi).ext0 he (ackA_le (by rw [← l1]; exact hle)) (by omega)
  have hil := h.il i hi h1
  have hk : ∀ m ∈ send, m.kind = 2 := by rw [hsend]; exact all_kind r
  refine ⟨fm, hgrow, fun t => ?_, hle, by rw [hl2]; exact Nat.le_refl _, fun _ => rfl, fun t p hp1 hp => ?_, fun u hu hu' => ?_, fun t p hl hv hlt => ?_, fun m hm hk0 => (by rw [hk m hm] at hk0; cases hk0), fun hr => by omega, fun hr => by omega, fun hr => by omega,
    fun c _ _ _ _ hv hV => absurd (by rw [t1, h.m.now i hi, ← v1]; exact hv) hV, fun c _ _ hv => .inl (by rw [t1, h.m.now i hi, ← v1]; exact hv), fun _ f _ _ => by rw [m1]; exact Nat.zero_le _, fun m hm hk0 => (by rw [hk m hm] at hk0; cases hk0), fun m hm _ => ?_, hco⟩
  · by_cases ht : t = r.term
    · rw [ht, hl2, l1, t1]; exact hw.ok.log
    · rw [(hsame t ht).1]; exact h.asc t
  · by_cases ht : t = r.term
    · subst ht
      rw [ackA_self] at hp
      exact .inl ⟨hp, by rw [hl2]⟩
    · rw [ackA_ne _ _ (fun hc => ht hc.1)] at hp
      have hpl := Nat.le_trans hp (h.a1 t i)
      rcases h.ia t i p hi hp1 hp with q | ⟨u, q1, q2, q3, q4⟩
      · rw [l1]; exact .inl ((Has.ext he hpl).2 q)
      · have hu : u ≠ r.term := fun e => q3 (by rw [e]; exact hfree)
        exact .inr ⟨u, q1, by omega, by rw [(hsame u hu).2]; exact q3, fun hh => q4 (has_back he hgrow (h.asc t) q1 hpl q3 hh)⟩
  · have hu1 : u = r.term := Decidable.byContradiction fun e => hu' (by rw [(hsame u e).2]; exact hu)
    subst hu1
    refine ⟨fun t p hv ht => ?_, fun p hv => ?_⟩
    · obtain ⟨a, b, ha, hb, hab, hva, hvb⟩ := hq
      rw [hl2, l1]
      have ta := voted_term h.m ha (by rw [hva]; omega)
      have tb := voted_term h.m hb (by rw [hvb]; omega)
      by_cases h3 : p ≤ A t a
      · exact h.iv i hi h1 a ha (by rw [← t1]; exact hva) t p (by omega) hv h3
      by_cases h4 : p ≤ A t b
      · exact h.iv i hi h1 b hb (by rw [← t1]; exact hvb) t p (by omega) hv h4
      exact .inr ⟨a, b, ha, hb, hab, by omega, by omega, by omega, by omega⟩
    · obtain ⟨h3, h4, h5⟩ := hv
      rw [hl2, l1] at h4 h5
      obtain ⟨q, rfl⟩ : ∃ q, p = q + 1 := ⟨p - 1, by omega⟩
      obtain ⟨x, hx⟩ : ∃ x, (C.nd i).rep.log[q]? = some x := ⟨_, List.getElem?_eq_getElem h4⟩
      rw [term_some hx] at h5
      have := hil x (List.mem_of_getElem? hx)
      omega
  · have ht : t ≠ r.term := fun e => hl (by rw [e]; exact hfree)
    have := hv.2.1
    rw [(hsame t ht).1] at this
    omega
  · rw [hsend] at hm
    exact all_ic (by rw [hl2]; exact hco) m hm

theorem pre_last {LL : Int → List RecD} {l : List RecD} (h : Pre LL l) (h0 : 0 < l.length) : l = (LL (termAt l l.length)).take l.length ∧ l.length ≤ (LL (termAt l l.length)).length ∧ ∃ z, l[l.length - 1]? = some z ∧ z.term = termAt l l.length := by
  obtain ⟨n, hn⟩ : ∃ n, l.length = n + 1 := ⟨l.length - 1, by omega⟩
  obtain ⟨z, hz⟩ : ∃ z, l[n]? = some z := ⟨_, List.getElem?_eq_getElem (by omega)⟩
  have e := h n z hz
  have hl := take_len (by omega) e
  rw [hn, term_some hz]
  refine ⟨?_, by omega, z, by rw [Nat.add_sub_cancel]; exact hz, rfl⟩
  rw [← e, ← hn, List.take_length]

/-- the log of a voter is no longer, or ends in an earlier term: what it holds of the leaders' lists, the asker's holds -/
theorem fresh_has {C : Cl} {g : Gh} {A : Int → Nat → Nat} (h : SInv C g A) {x c : Nat} (hx : x < 3) (hc : c < 3)
    (hfr : termAt (C.nd x).rep.log (C.nd x).rep.log.length < termAt (C.nd c).rep.log (C.nd c).rep.log.length ∨ (termAt (C.nd c).rep.log (C.nd c).rep.log.length = termAt (C.nd x).rep.log (C.nd x).rep.log.length ∧ (C.nd x).rep.log.length ≤ (C.nd c).rep.log.length))
    {t : Int} {p : Nat} (hv : Valid g t p) (hp : Has g t p (C.nd x).rep.log) : Has g t p (C.nd c).rep.log ∨ Cannot C A t p := by
  have px := h.m.log x hx
  have pc := h.m.log c hc
  have sx := (h.m.wf.rep x hx).1.ok.log
  generalize (C.nd x).rep.log = a at px sx hp hfr
  generalize hb : (C.nd c).rep.log = b at pc hfr ⊢
  obtain ⟨v1, v2, v3⟩ := hv
  obtain ⟨p1, p2⟩ := hp
  obtain ⟨ea, la, z, hz, hzt⟩ := pre_last px (by omega)
  have hb0 : 0 < b.length := by
    rcases hfr with q | q
    · rcases Nat.eq_zero_or_pos b.length with e | e
      · rw [e] at q
        have h1 := sx.lo z (List.mem_of_getElem? hz)
        have : termAt b 0 = 0 := rfl
        omega
      · exact e
    · omega
  obtain ⟨eb, lb, y, hy, hyt⟩ := pre_last pc hb0
  rcases hfr with q | ⟨q1, q2⟩
  · -- the asker's last term is greater
    obtain ⟨k, rfl⟩ : ∃ k, p = k + 1 := ⟨p - 1, by omega⟩
    obtain ⟨e, he⟩ : ∃ e, (g.LL t)[k]? = some e := ⟨_, List.getElem?_eq_getElem v2⟩
    rw [term_some he] at v3
    have hea : a[k]? = some e := by
      have := congrArg (fun l => l[k]?) p2
      simp only [List.getElem?_take_of_lt (show k < k + 1 by omega)] at this
      rw [this, he]
    have hts : t ≤ termAt a a.length := by
      have h1 := sx.asc k (a.length - 1) (by omega) (by omega) (by omega)
      have e1 : a[k] = e := by have := hea; rw [List.getElem?_eq_getElem (by omega)] at this; simpa using this
      have e2 : a[a.length - 1] = z := by have := hz; rw [List.getElem?_eq_getElem (by omega)] at this; simpa using this
      rw [e1, e2, v3, hzt] at h1
      exact h1
    have hled : g.ld (termAt b b.length) ≠ -1 := fun e => by
      rw [h.m.none _ e] at lb
      simp at lb
      rw [lb] at hb0
      simp at hb0
    rcases h.ib t (termAt b b.length) (k + 1) ⟨v1, v2, by rw [term_some he]; exact v3⟩ (by omega) hled with ⟨r1, r2⟩ | r
    · left
      have hkb : k + 1 ≤ b.length := Decidable.byContradiction fun hn => by
        have h1 : (g.LL (termAt b b.length))[b.length - 1]? = some y := by
          have := hy
          rw [eb, List.getElem?_take_of_lt (by rw [List.length_take]; omega)] at this
          rw [List.length_take, Nat.min_eq_left lb] at this
          exact this
        have h2 : (g.LL t)[b.length - 1]? = some y := by
          have := congrArg (fun l => l[b.length - 1]?) r2
          simp only [List.getElem?_take_of_lt (show b.length - 1 < k + 1 by omega)] at this
          rw [← this, h1]
        have := (h.asc t).hi y (List.mem_of_getElem? h2)
        omega
      refine ⟨hkb, ?_⟩
      rw [eb, List.take_take, Nat.min_eq_left hkb]
      exact r2
    · exact .inr r
  · left
    refine ⟨by omega, ?_⟩
    rw [← p2, eb, ea, q1, List.take_take, List.take_take]
    congr 1
    omega

theorem mine {C : Cl} {g : Gh} {A : Int → Nat → Nat} (h : SInv C g A) {i : Nat} (hi : i < 3) {t : Int} {p : Nat} (hv : Valid g t p) (hp : p ≤ A t i) : Has g t p (C.nd i).rep.log ∨ Cannot C A t p := by
  rcases h.ia t i p hi hv.1 hp with q | ⟨u, q1, _, q3, q4⟩
  · exact .inl q
  · rcases h.ib t u p hv q1 q3 with q | q
    · exact absurd q q4
    · exact .inr q

/-- no vote is given -/
theorem sfit_hear {C : Cl} {g g' : Gh} {A : Int → Nat → Nat} (h : SInv C g A) {i : Nat} (hi : i < 3) {r : Rep} {send : List MsgR} (fm : MFit C g i r send g') (hLL : g'.LL = g.LL) (hld : g'.ld = g.ld) (hlog : r.log = (C.nd i).rep.log)
    (h1 : r.role = 1 → (C.nd i).rep.role = 1 ∧ r.term = (C.nd i).rep.term) (h2 : r.role = 2 → (C.nd i).rep.role = 2 ∧ r.term = (C.nd i).rep.term) (hv : (r.term = (C.nd i).rep.term ∧ r.vote = (C.nd i).rep.vote) ∨ r.vote = -1)
    (him : r.role = 2 → ∀ f, f < 3 → f ≠ i → r.mat f ≤ A r.term f) (hk0 : ∀ m ∈ send, m.kind ≠ 0) (hik : ∀ m ∈ send, m.kind = 3 → m.yes = true → m.src = i ∧ m.term = r.term ∧ m.index.toNat ≤ A r.term i)
    (hic : ∀ m ∈ send, m.kind = 2 → Sure g A m.term (g.LL m.term) m.commit.toNat) (hco : Sure g A r.term r.log r.commit) : SFit C g A i r send g' (A r.term i) := by
  have hnow : ∀ c : Nat, r.vote = c → g.V r.term i = c := fun c hc => by
    rcases hv with ⟨a, b⟩ | b
    · rw [a, h.m.now i hi, ← b]; exact hc
    · omega
  refine sfit_quiet h hi fm hLL hld hlog h1 h2 (fun hr x hx hV => ?_) (fun c _ _ _ _ hc hV => absurd (hnow c hc) hV) (fun c _ _ hc => .inl (hnow c hc)) him hk0 hik hic hco
  rw [fm.V] at hV
  by_cases hxi : x = i
  · subst hxi
    rw [voteV_self] at hV
    exact hnow x hV
  · rw [voteV_ne _ _ (fun hc => hxi hc.2)] at hV
    exact hV

end Go.Proofs.Ytifgijoeckoojaa
end

/-
  Safety, plain: to hear an ask, an answer, an acknowledgement.
-/
section
set_option linter.unusedVariables false
set_option linter.unusedSimpArgs false
namespace Go.Proofs.Ytifgijoeckoojaa
open Go.Vc

/-- node i's replica, in the term of the message -/
structure Turn (C : Cl) (i : Nat) (r1 : Rep) : Prop where
  up : (C.nd i).rep.term ≤ r1.term
  hv : (r1.term = (C.nd i).rep.term ∧ r1.vote = (C.nd i).rep.vote) ∨ r1.vote = -1
  log : r1.log = (C.nd i).rep.log
  same : r1.role ≠ 0 → r1 = (C.nd i).rep
  commit : r1.commit = (C.nd i).rep.commit
  id : r1.id = i

theorem Turn.one {C : Cl} {i : Nat} {r1 : Rep} (u : Turn C i r1) {k : Int} (hk : k ≠ 0) (hr : r1.role = k) : (C.nd i).rep.role = k ∧ r1.term = (C.nd i).rep.term := by
  have := u.same (by omega)
  exact ⟨by rw [← this]; exact hr, by rw [← this]⟩

theorem Turn.co {C : Cl} {g : Gh} {A : Int → Nat → Nat} (h : SInv C g A) {i : Nat} (hi : i < 3) {r1 : Rep} (u : Turn C i r1) : Sure g A r1.term r1.log r1.commit := by
  rw [u.log, u.commit]
  exact (h.co i hi).ext0 (Ext.refl _) (fun _ _ => Nat.le_refl _) u.up

theorem vote_s {C : Cl} {g g' : Gh} {A : Int → Nat → Nat} (h : SInv C g A) {i : Nat} (hi : i < 3) {r1 : Rep} (u : Turn C i r1) {m : MsgR} (hmem : m ∈ C.sent) (hm : m.Right i) (hk : m.kind = 0) (fm : MFit C g i (voteP r1 m).1 (voteP r1 m).2.send g') (hLL : g'.LL = g.LL) (hld : g'.ld = g.ld) :
    SFit C g A i (voteP r1 m).1 (voteP r1 m).2.send g' (A (voteP r1 m).1.term i) := by
  obtain ⟨⟨s1, s2, s3, s4⟩, s5⟩ := voteP_same r1 m
  have hs : ∀ {k : Int}, k ≠ 1 → ∀ v ∈ (voteP r1 m).2.send, v.kind ≠ k := fun hk1 v hv => by rw [s5 v hv]; exact fun e => hk1 e.symm
  have c1 : (voteP r1 m).1.commit = r1.commit ∧ (voteP r1 m).1.mat = r1.mat := by unfold voteP; split <;> exact ⟨rfl, rfl⟩
  have hco : Sure g A (voteP r1 m).1.term (voteP r1 m).1.log (voteP r1 m).1.commit := by rw [s2, s4, c1.1]; exact u.co h hi
  have him : (voteP r1 m).1.role = 2 → ∀ f, f < 3 → f ≠ i → (voteP r1 m).1.mat f ≤ A (voteP r1 m).1.term f := fun hr f hf hfi => by
    rw [s1] at hr
    have e := u.same (by omega)
    rw [c1.2, s2, e]
    exact h.im i hi (by rw [← e]; exact hr) f hf hfi
  by_cases hg : (decide (m.term = r1.term) && (decide (r1.vote = -1) || decide (r1.vote = m.src)) && freshP r1 m) = true
  · have ev : (voteP r1 m).1.vote = m.src := by unfold voteP; rw [if_pos hg]
    simp only [Bool.and_eq_true, decide_eq_true_eq] at hg
    obtain ⟨⟨g1, _⟩, g3⟩ := hg
    obtain ⟨c, hc, a1, a2, a3⟩ := h.iq m hmem hk
    have hci : c ≠ i := fun e => hm.src.1 (by rw [a1, e])
    refine sfit_quiet h hi fm hLL hld (by rw [s4]; exact u.log) (fun hr => by rw [s2]; exact u.one (by decide) (by rw [← s1]; exact hr)) (fun hr => by rw [s2]; exact u.one (by decide) (by rw [← s1]; exact hr)) (fun hr x hx hV => ?_) (fun d hd hdi hro ht hv hV t p htt hval hp => ?_) (fun d hd hdi hv => .inr ?_) him (hs (by decide)) (fun v hv hk3 => absurd hk3 (hs (by decide) v hv)) (fun v hv hk2 => absurd hk2 (hs (by decide) v hv)) hco
    · rw [fm.V] at hV
      by_cases hxi : x = i
      · subst hxi
        rw [voteV_self, ev] at hV
        omega
      · rw [voteV_ne _ _ (fun hc => hxi hc.2)] at hV
        exact hV
    · rw [ev] at hv
      have hdc : d = c := by omega
      subst hdc
      obtain ⟨b1, b2⟩ := a3 hro (by rw [ht, s2, g1])
      rcases mine h hi hval hp with q | q
      · refine fresh_has h hi hd ?_ hval q
        rw [← u.log]
        unfold freshP at g3
        simp only [Bool.or_eq_true, Bool.and_eq_true, decide_eq_true_eq] at g3
        rw [b2, b1] at g3
        rcases g3 with g3 | ⟨g3, g4⟩
        · exact .inl g3
        · exact .inr ⟨g3, by omega⟩
      · exact .inr q
    · rw [ev] at hv
      have hdc : d = c := by omega
      subst hdc
      rw [s2, ← g1]
      exact a2
  · have ev : (voteP r1 m).1.vote = r1.vote := by unfold voteP; rw [if_neg hg]
    exact sfit_hear h hi fm hLL hld (by rw [s4]; exact u.log) (fun hr => by rw [s2]; exact u.one (by decide) (by rw [← s1]; exact hr)) (fun hr => by rw [s2]; exact u.one (by decide) (by rw [← s1]; exact hr)) (by rw [s2, ev]; exact u.hv) him (hs (by decide)) (fun v hv hk3 => absurd hk3 (hs (by decide) v hv)) (fun v hv hk2 => absurd hk2 (hs (by decide) v hv)) hco

theorem voted_s {C : Cl} {g g' : Gh} {A : Int → Nat → Nat} (h : SInv C g A) {i : Nat} (hi : i < 3) {r1 : Rep} (u : Turn C i r1) {m : MsgR} (fm : MFit C g i (votedP r1 m).1 (votedP r1 m).2.send g') (hLL : g'.LL = g.LL) (hld : g'.ld = g.ld) :
    SFit C g A i (votedP r1 m).1 (votedP r1 m).2.send g' (A (votedP r1 m).1.term i) := by
  have him : r1.role = 2 → ∀ f, f < 3 → f ≠ i → r1.mat f ≤ A r1.term f := fun hr f hf hfi => by
    have e := u.same (by omega)
    rw [e] at hr ⊢
    exact h.im i hi hr f hf hfi
  by_cases hc : (decide (r1.role ≠ 1) || decide (m.term ≠ r1.term) || !m.yes) = true
  · have e : votedP r1 m = (r1, out0) := by unfold votedP; rw [if_pos hc]
    rw [e] at fm ⊢
    exact sfit_hear h hi fm hLL hld u.log (u.one (by decide)) (u.one (by decide)) u.hv him (fun v hv => by cases hv) (fun v hv => by cases hv) (fun v hv => by cases hv) (u.co h hi)
  have hc' := hc
  simp only [Bool.or_eq_true, decide_eq_true_eq, not_or, Bool.not_eq_true', Bool.not_eq_false] at hc'
  obtain ⟨⟨c1, _⟩, _⟩ := hc'
  have c1 : r1.role = 1 := by omega
  by_cases hc2 : countV (put r1.votes m.src.toNat true) < 2
  · have e : votedP r1 m = ({ r1 with votes := put r1.votes m.src.toNat true }, out0) := by unfold votedP; rw [if_neg hc]; simp only; rw [if_pos hc2]
    rw [e] at fm ⊢
    exact sfit_hear h hi fm hLL hld u.log (u.one (by decide)) (u.one (by decide)) u.hv him (fun v hv => by cases hv) (fun v hv => by cases hv) (fun v hv => by cases hv) (u.co h hi)
  · exfalso
    have e : (votedP r1 m).1.role = 2 ∧ (votedP r1 m).1.term = r1.term := by unfold votedP; rw [if_neg hc]; simp only; rw [if_neg hc2]; exact ⟨rfl, rfl⟩
    obtain ⟨a, b⟩ := u.one (k := 1) (by decide) c1
    have := (fm.lead e.1).1
    rw [hld, e.2, b] at this
    exact (h.m.cand i hi a).2 this

end Go.Proofs.Ytifgijoeckoojaa
end

/-
  Safety, plain: to hear an acknowledgement.
-/
section
set_option linter.unusedVariables false
set_option linter.unusedSimpArgs false
namespace Go.Proofs.Ytifgijoeckoojaa
open Go.Vc

theorem most_mem (r : Rep) (h : r.id ≤ 2) : mostOf r = 0 ∨ ∃ f, f < 3 ∧ f ≠ r.id ∧ r.mat f = mostOf r := by
  have two : ∀ a b : Nat, (([a, b] : List Nat).foldl (fun x i => max x (r.mat i)) 0 = r.mat a) ∨ (([a, b] : List Nat).foldl (fun x i => max x (r.mat i)) 0 = r.mat b) := fun a b => by
    simp only [List.foldl_cons, List.foldl_nil]
    omega
  unfold mostOf othersOf
  split
  · rcases two 1 2 with e | e
    · exact .inr ⟨1, by decide, by omega, e.symm⟩
    · exact .inr ⟨2, by decide, by omega, e.symm⟩
  split
  · rcases two 0 2 with e | e
    · exact .inr ⟨0, by decide, by omega, e.symm⟩
    · exact .inr ⟨2, by decide, by omega, e.symm⟩
  · rcases two 0 1 with e | e
    · exact .inr ⟨0, by decide, by omega, e.symm⟩
    · exact .inr ⟨1, by decide, by omega, e.symm⟩

theorem adv_sure {g : Gh} {A : Int → Nat → Nat} {i : Nat} (hi : i < 3) {r : Rep} (hid : r.id = i) (hL : g.LL r.term = r.log) (ha1 : ∀ t j, A t j ≤ (g.LL t).length) (ha : A r.term i = r.log.length) (him : ∀ f, f < 3 → f ≠ i → r.mat f ≤ A r.term f) (hs : Sure g A r.term r.log r.commit) :
    Sure g A r.term r.log (advanceP r).commit := by
  unfold advanceP
  split
  · rename_i hc
    simp only [Bool.and_eq_true, decide_eq_true_eq] at hc
    obtain ⟨c1, c2⟩ := hc
    rcases most_mem r (by omega) with e | ⟨f, hf, hfi, e⟩
    · omega
    · have h1 := him f hf (by omega)
      have h2 := ha1 r.term f
      rw [hL] at h2
      refine .inr ⟨r.term, mostOf r, ⟨⟨by omega, by rw [hL]; omega, by rw [hL]; exact c2⟩, i, f, hi, hf, by omega, by omega, by omega⟩, Int.le_refl _, Nat.le_refl _, by show mostOf r ≤ r.log.length; omega, by rw [hL]⟩
  · exact hs

theorem appended_s {C : Cl} {g g' : Gh} {A : Int → Nat → Nat} (h : SInv C g A) {i : Nat} (hi : i < 3) {r1 : Rep} (u : Turn C i r1) {m : MsgR} (hmem : m ∈ C.sent) (hm : m.Right i) (hk : m.kind = 3) (fm : MFit C g i (appendedP r1 m).1 (appendedP r1 m).2.send g') (hLL : g'.LL = g.LL) (hld : g'.ld = g.ld) :
    SFit C g A i (appendedP r1 m).1 (appendedP r1 m).2.send g' (A (appendedP r1 m).1.term i) := by
  obtain ⟨⟨s1, s2, s3, s4⟩, s5⟩ := appended_same r1 m
  have sv := (appended_mute r1 m).vote
  have him1 : r1.role = 2 → ∀ f, f < 3 → f ≠ i → r1.mat f ≤ A r1.term f := fun hr f hf hfi => by
    have e := u.same (by omega)
    rw [e] at hr ⊢
    exact h.im i hi hr f hf hfi
  have hlead : r1.role = 2 → g.LL r1.term = r1.log ∧ A r1.term i = r1.log.length := fun hr => by
    have e := u.same (by omega)
    rw [e] at hr ⊢
    exact ⟨(h.m.lead i hi hr).2, h.a3 i hi hr⟩
  -- marks and commit
  have key : (r1.role = 2 → ∀ f, f < 3 → f ≠ i → (appendedP r1 m).1.mat f ≤ A r1.term f) ∧ Sure g A r1.term r1.log (appendedP r1 m).1.commit := by
    unfold appendedP
    split
    · exact ⟨him1, u.co h hi⟩
    rename_i hc
    simp only [Bool.or_eq_true, decide_eq_true_eq, not_or] at hc
    obtain ⟨⟨d1, d2⟩, _⟩ := hc
    have h2 : r1.role = 2 := by omega
    have d2 : m.term = r1.term := by omega
    simp only
    split
    · exact ⟨him1, u.co h hi⟩
    rename_i hy
    have hy : m.yes = true := by simpa using hy
    obtain ⟨f0, hf0, b1, b2⟩ := h.ik m hmem hk hy
    have hf : m.src.toNat = f0 := by omega
    have hmat : ∀ f, f < 3 → f ≠ i → put r1.mat m.src.toNat (max (r1.mat m.src.toNat) m.index.toNat) f ≤ A r1.term f := fun f hf3 hfi => by
      have h3 := him1 h2 f hf3 hfi
      by_cases hff : f = m.src.toNat
      · rw [hff, put_self]
        rw [hff] at h3
        rw [d2] at b2
        rw [hf] at h3 ⊢
        omega
      · rw [put_ne _ _ hff]; exact h3
    have hadv : ∀ r : Rep, (advanceP r).mat = r.mat := fun r => by unfold advanceP; split <;> rfl
    have hres : (r1.role = 2 → ∀ f, f < 3 → f ≠ i → (advanceP { r1 with mat := put r1.mat m.src.toNat (max (r1.mat m.src.toNat) m.index.toNat), next := put r1.next m.src.toNat (max (r1.mat m.src.toNat) m.index.toNat + 1) }).mat f ≤ A r1.term f) ∧
        Sure g A r1.term r1.log (advanceP { r1 with mat := put r1.mat m.src.toNat (max (r1.mat m.src.toNat) m.index.toNat), next := put r1.next m.src.toNat (max (r1.mat m.src.toNat) m.index.toNat + 1) }).commit :=
      ⟨fun _ f hf3 hfi => by rw [hadv]; exact hmat f hf3 hfi, adv_sure (r := { r1 with mat := put r1.mat m.src.toNat (max (r1.mat m.src.toNat) m.index.toNat), next := put r1.next m.src.toNat (max (r1.mat m.src.toNat) m.index.toNat + 1) }) hi u.id (hlead h2).1 h.a1 (hlead h2).2 hmat (u.co h hi)⟩
    split
    · exact hres
    · exact hres
  have hco : Sure g A (appendedP r1 m).1.term (appendedP r1 m).1.log (appendedP r1 m).1.commit := by rw [s2, s4]; exact key.2
  have hk2 : ∀ v ∈ (appendedP r1 m).2.send, v.kind = 2 := fun v hv => by
    obtain ⟨_, f, rfl⟩ := s5 v hv
    rfl
  refine sfit_hear h hi fm hLL hld (by rw [s4]; exact u.log) (fun hr => by rw [s2]; exact u.one (by decide) (by rw [← s1]; exact hr)) (fun hr => by rw [s2]; exact u.one (by decide) (by rw [← s1]; exact hr)) (by rw [s2, sv]; exact u.hv) (fun hr f hf hfi => by rw [s2]; exact key.1 (by rw [← s1]; exact hr) f hf hfi)
    (fun v hv => by rw [hk2 v hv]; decide) (fun v hv hk3 => by rw [hk2 v hv] at hk3; cases hk3) (fun v hv _ => ?_) hco
  obtain ⟨h2, f, rfl⟩ := s5 v hv
  show Sure g A (appendedP r1 m).1.term (g.LL (appendedP r1 m).1.term) ((appendedP r1 m).1.commit : Int).toNat
  rw [s2, (hlead h2).1, Int.toNat_natCast]
  exact key.2

end Go.Proofs.Ytifgijoeckoojaa
end

/-
  Safety, plain: to hear entries.
-/
section
set_option linter.unusedVariables false
set_option linter.unusedSimpArgs false
namespace Go.Proofs.Ytifgijoeckoojaa
open Go.Vc

theorem agree_max : ∀ (a b : List RecD), agree a b < b.length → ∀ x y, a[agree a b]? = some x → b[agree a b]? = some y → x.term ≠ y.term
  | [], b, _, x, y, hx, _ => by cases b <;> simp [agree] at hx
  | p :: a, [], h, _, _, _, _ => by simp [agree] at h
  | p :: a, q :: b, h, x, y, hx, hy => by
    unfold agree at h hx hy
    by_cases e : p.term = q.term
    · rw [if_pos e] at h hx hy
      simp only [List.getElem?_cons_succ] at hx hy
      exact agree_max a b (by simpa using h) x y hx hy
    · rw [if_neg e] at hx hy
      simp only [List.getElem?_cons_zero, Option.some.injEq] at hx hy
      rw [← hx, ← hy]
      exact e

/-- what is accepted -/
structure Acc (g : Gh) (r1 r : Rep) (m : MsgR) : Prop where
  role : r.role = 0
  term : r.term = r1.term
  vote : r.vote = r1.vote
  p1 : m.index.toNat + m.recs.length ≤ r.log.length ∧ r.log.take (m.index.toNat + m.recs.length) = (g.LL r1.term).take (m.index.toNat + m.recs.length)
  p2 : ∀ p, p ≤ r1.log.length → p ≤ (g.LL r1.term).length → r1.log.take p = (g.LL r1.term).take p → p ≤ r.log.length ∧ r.log.take p = (g.LL r1.term).take p
  p3 : ∀ n, n ≤ r1.commit → n ≤ r1.log.length → n ≤ r.log.length ∧ r.log.take n = r1.log.take n
  p4 : m.recs.length = 0 → r.log = r1.log
  commit : r.commit = max r1.commit (min m.commit.toNat (m.index.toNat + m.recs.length))

theorem acc_s {C : Cl} {g g' : Gh} {A : Int → Nat → Nat} (h : SInv C g A) {i : Nat} (hi : i < 3) {r1 r : Rep} (u : Turn C i r1) (hw1 : r1.Wf) {m : MsgR} (hmem : m ∈ C.sent) (hk : m.kind = 2) (hmt : m.term = r1.term) {send : List MsgR} (hsend : send = [ackOf r1 m]) (hr : Acc g r1 r m)
    (fm : MFit C g i r send g') (hLL : g'.LL = g.LL) (hld : g'.ld = g.ld) : SFit C g A i r send g' (max (A r.term i) (m.index.toNat + m.recs.length)) := by
  obtain ⟨a1, a2, a3, a4⟩ := h.m.app m hmem hk
  rw [hmt] at a2 a3 a4
  have hnow : ∀ c : Nat, r.vote = c → g.V r.term i = c := fun c hc => by
    rw [hr.vote] at hc
    rw [hr.term]
    rcases u.hv with ⟨a, b⟩ | b
    · rw [a, h.m.now i hi, ← b]; exact hc
    · omega
  have hro := hr.role
  have hA := h.a1 r1.term i
  have hle : A r.term i ≤ max (A r.term i) (m.index.toNat + m.recs.length) := by omega
  have hcl := hw1.ok.commit
  have hk3 : ∀ v ∈ send, v = ackOf r1 m := fun v hv => by rw [hsend] at hv; exact List.mem_singleton.1 hv
  have hup := u.up
  have hco : Sure g A r.term r.log r.commit := by
    rw [hr.term, hr.commit]
    by_cases hc : min m.commit.toNat (m.index.toNat + m.recs.length) ≤ r1.commit
    · rw [Nat.max_eq_left hc]
      rcases u.co h hi with e | ⟨t, p, q1, q2, q3, q4, q5⟩
      · exact .inl e
      · obtain ⟨z1, z2⟩ := hr.p3 r1.commit (Nat.le_refl _) hcl
        exact .inr ⟨t, p, q1, q2, q3, z1, by rw [z2]; exact q5⟩
    · rw [Nat.max_eq_right (by omega)]
      rcases h.ic m hmem hk with e | ⟨t, p, q1, q2, q3, q4⟩
      · omega
      · rw [hmt] at q2 q4
        have q5 := q4.less (Nat.min_le_left m.commit.toNat (m.index.toNat + m.recs.length))
        obtain ⟨y1, y2⟩ := hr.p1
        refine .inr ⟨t, p, q1, q2, by omega, by omega, ?_⟩
        rw [← q5.2]
        have := congrArg (List.take (min m.commit.toNat (m.index.toNat + m.recs.length))) y2
        rw [List.take_take, List.take_take, Nat.min_eq_left (by omega)] at this
        exact this
  refine ⟨fm, grow_refl hLL, by rw [hLL]; exact h.asc, hle, by rw [hLL, hr.term]; omega, fun h0 => by omega, fun t p hp1 hp => ?_, fun w hu hu' => absurd hu (by rw [← hld]; exact hu'), fun t p _ hv hlt => ?_, fun v hv hk0 => (by rw [hk3 v hv] at hk0; cases hk0), fun h0 => by omega, fun h0 => by omega, fun h0 => by omega,
    fun c _ _ _ _ hv hV => absurd (hnow c hv) hV, fun c _ _ hv => .inl (hnow c hv), fun h0 => by omega, fun v hv _ _ => ?_, fun v hv hk0 => (by rw [hk3 v hv] at hk0; cases hk0), ?_⟩
  · have keep : ∀ {t p}, Has g t p (C.nd i).rep.log → p ≤ (g.LL r1.term).length → (C.nd i).rep.log.take p = (g.LL r1.term).take p → Has g t p r.log := fun q hpl e => by
      obtain ⟨z1, z2⟩ := hr.p2 _ (by rw [u.log]; exact q.1) hpl (by rw [u.log]; exact e)
      exact ⟨z1, by rw [z2, ← e]; exact q.2⟩
    by_cases ht : t = r.term
    · subst ht
      rw [ackA_self] at hp
      by_cases hp2 : p ≤ m.index.toNat + m.recs.length
      · refine .inl ((has_eq hLL).2 ?_)
        rw [hr.term]
        exact Has.less (p := m.index.toNat + m.recs.length) hr.p1 hp2
      · have hp3 : p ≤ A r.term i := by omega
        rcases h.ia r.term i p hi hp1 hp3 with q | ⟨w, q1, q2, _, _⟩
        · rw [hr.term] at q hp3 ⊢
          exact .inl ((has_eq hLL).2 (keep q (by omega) q.2))
        · rw [hr.term] at q1; omega
    · rw [ackA_ne _ _ (fun hc => ht hc.1)] at hp
      have hta := h.a2 t i hi (by omega)
      rw [hr.term] at ht ⊢
      rcases h.ia t i p hi hp1 hp with q | ⟨w, q1, q2, q3, q4⟩
      · by_cases hM : Has g t p (g.LL r1.term)
        · exact .inl ((has_eq hLL).2 (keep q hM.1 (q.2.trans hM.2.symm)))
        · by_cases hl : g.ld r1.term = -1
          · have h0 := h.m.none _ hl
            rw [h0] at a2
            have h1 : m.recs.length = 0 := by simp at a2; rw [a2.2]; rfl
            rw [hr.p4 h1, u.log]
            exact .inl ((has_eq hLL).2 q)
          · exact .inr ⟨r1.term, by omega, Int.le_refl _, by rw [hld]; exact hl, fun hh => hM (by rw [hLL] at hh; exact (has_eq hLL).1 hh)⟩
      · exact .inr ⟨w, q1, by omega, by rw [hld]; exact q3, fun hh => q4 (by rw [hLL] at hh; exact (has_eq hLL).1 hh)⟩
  · have := hv.2.1
    rw [hLL] at this
    omega
  · rw [hk3 v hv]
    refine ⟨by show (r1.id : Int) = i; rw [u.id], by rw [hr.term]; rfl, ?_⟩
    show (m.index + (m.recs.length : Int)).toNat ≤ _
    omega
  · exact (hco.ext0 (fun t => ⟨[], by rw [hLL, List.append_nil]⟩) (ackA_le hle) (Int.le_refl _))

end Go.Proofs.Ytifgijoeckoojaa
end

/-
  Safety, plain: to hear anything; steps.
-/
section
set_option linter.unusedVariables false
set_option linter.unusedSimpArgs false
namespace Go.Proofs.Ytifgijoeckoojaa
open Go.Vc

theorem append_s {C : Cl} {g g' : Gh} {A : Int → Nat → Nat} (h : SInv C g A) {i : Nat} (hi : i < 3) {r1 : Rep} (u : Turn C i r1) (hw1 : r1.Wf) {m : MsgR} (hmem : m ∈ C.sent) (hk : m.kind = 2) (hmt : m.term ≤ r1.term)
    (fm : MFit C g i (appendP r1 m).1 (appendP r1 m).2.send g') (hLL : g'.LL = g.LL) (hld : g'.ld = g.ld) : ∃ n, SFit C g A i (appendP r1 m).1 (appendP r1 m).2.send g' n := by
  have him : r1.role = 2 → ∀ f, f < 3 → f ≠ i → r1.mat f ≤ A r1.term f := fun hr f hf hfi => by
    have e := u.same (by omega)
    rw [e] at hr ⊢
    exact h.im i hi hr f hf hfi
  have hcl := hw1.ok.commit
  by_cases h1 : m.term < r1.term
  · have e : appendP r1 m = (r1, outS [msgOf r1 3 m.src]) := by unfold appendP; rw [if_pos h1]
    rw [e] at fm ⊢
    exact ⟨_, sfit_hear h hi fm hLL hld u.log (u.one (by decide)) (u.one (by decide)) u.hv him (fun v hv => by rw [List.mem_singleton.1 hv]; show (3 : Int) ≠ 0; decide) (fun v hv _ hy => by rw [List.mem_singleton.1 hv] at hy; cases hy) (fun v hv hk2 => by rw [List.mem_singleton.1 hv] at hk2; cases hk2) (u.co h hi)⟩
  have hmt : m.term = r1.term := by omega
  by_cases h2 : r1.role = 2
  · have e : appendP r1 m = (r1, out0) := by unfold appendP; rw [if_neg h1, if_pos h2]
    rw [e] at fm ⊢
    exact ⟨_, sfit_hear h hi fm hLL hld u.log (u.one (by decide)) (u.one (by decide)) u.hv him (fun v hv => by cases hv) (fun v hv => by cases hv) (fun v hv => by cases hv) (u.co h hi)⟩
  have no : ∀ k : Int, k ≠ 0 → ({ r1 with role := 0 } : Rep).role = k → (C.nd i).rep.role = k ∧ ({ r1 with role := 0 } : Rep).term = (C.nd i).rep.term := fun k hk0 hr => absurd hr.symm hk0
  by_cases h3 : (decide ((r1.log.length : Int) < m.index) || decide (termAt r1.log m.index.toNat ≠ m.prev)) = true
  · have e : appendP r1 m = ({ r1 with role := 0 }, outS [⟨3, r1.id, m.src, r1.term, min (r1.log.length : Int) (m.index - 1), 0, 0, false, []⟩]) := by unfold appendP; rw [if_neg h1, if_neg h2]; simp only; rw [if_pos h3]
    rw [e] at fm ⊢
    exact ⟨_, sfit_hear h hi fm hLL hld u.log (no 1 (by decide)) (no 2 (by decide)) u.hv (fun hr => (by cases (show (0 : Int) = 2 from hr))) (fun v hv => by rw [List.mem_singleton.1 hv]; show (3 : Int) ≠ 0; decide) (fun v hv _ hy => by rw [List.mem_singleton.1 hv] at hy; cases hy) (fun v hv hk2 => by rw [List.mem_singleton.1 hv] at hk2; cases hk2) (u.co h hi)⟩
  have h3' := h3
  simp only [Bool.or_eq_true, decide_eq_true_eq, not_or] at h3'
  obtain ⟨h4, h5⟩ := h3'
  have h5 : termAt r1.log m.index.toNat = m.prev := Decidable.of_not_not h5
  obtain ⟨a1, a2, a3, a4⟩ := h.m.app m hmem hk
  rw [hmt] at a2 a3 a4
  have hpl : Pre g.LL r1.log := by rw [u.log]; exact h.m.log i hi
  have hpM := h.m.ll r1.term
  have hix : m.index.toNat ≤ r1.log.length := by omega
  have hag := match_agree hpl hpM hix a2 a3 (by rw [h5]; exact a4)
  have hkb := agree_le (r1.log.drop m.index.toNat) m.recs
  have hka : m.index.toNat + agree (r1.log.drop m.index.toNat) m.recs ≤ r1.log.length := by
    rcases Nat.eq_zero_or_pos (agree (r1.log.drop m.index.toNat) m.recs) with e | e
    · omega
    · obtain ⟨q, _⟩ := agree_terms (r1.log.drop m.index.toNat) m.recs (agree (r1.log.drop m.index.toNat) m.recs - 1) (by omega)
      rw [List.length_drop] at q
      omega
  by_cases h6 : agree (r1.log.drop m.index.toNat) m.recs < m.recs.length
  · by_cases h7 : m.index.toNat + agree (r1.log.drop m.index.toNat) m.recs + 1 ≤ r1.commit
    · have e : appendP r1 m = ({ r1 with role := 0 }, out0) := by unfold appendP; rw [if_neg h1, if_neg h2]; simp only; rw [if_neg h3, if_pos h6, if_pos h7]
      rw [e] at fm ⊢
      exact ⟨_, sfit_hear h hi fm hLL hld u.log (no 1 (by decide)) (no 2 (by decide)) u.hv (fun hr => (by cases (show (0 : Int) = 2 from hr))) (fun v hv => by cases hv) (fun v hv => by cases hv) (fun v hv => by cases hv) (u.co h hi)⟩
    · have e1 : (appendP r1 m).1 = { r1 with role := 0, log := r1.log.take (m.index.toNat + agree (r1.log.drop m.index.toNat) m.recs) ++ m.recs.drop (agree (r1.log.drop m.index.toNat) m.recs), commit := max r1.commit (min m.commit.toNat (m.index.toNat + m.recs.length)) } := by unfold appendP; rw [if_neg h1, if_neg h2]; simp only; rw [if_neg h3, if_pos h6, if_neg h7]
      have e2 : (appendP r1 m).2.send = [ackOf r1 m] := by unfold appendP; rw [if_neg h1, if_neg h2]; simp only; rw [if_neg h3, if_pos h6, if_neg h7]
      have hnew := match_new hpl hpM hix a2 a3 (by rw [h5]; exact a4) hkb
      rw [e1] at fm ⊢
      refine ⟨_, acc_s h hi u hw1 hmem hk hmt e2 ⟨rfl, rfl, rfl, ?_, fun p hp1 hp2 hp3 => ?_, fun n hn1 hn2 => ?_, fun h0 => by omega, rfl⟩ fm hLL hld⟩
      · show m.index.toNat + m.recs.length ≤ (r1.log.take _ ++ _).length ∧ (r1.log.take _ ++ _).take _ = _
        rw [hnew, List.length_take, List.take_take, Nat.min_self]
        exact ⟨by omega, rfl⟩
      · show p ≤ (r1.log.take _ ++ _).length ∧ (r1.log.take _ ++ _).take _ = _
        have hpk : p ≤ m.index.toNat + agree (r1.log.drop m.index.toNat) m.recs := Decidable.byContradiction fun hn => by
          have hq : m.index.toNat + agree (r1.log.drop m.index.toNat) m.recs < r1.log.length := by omega
          obtain ⟨x, hx⟩ : ∃ x, r1.log[m.index.toNat + agree (r1.log.drop m.index.toNat) m.recs]? = some x := ⟨_, List.getElem?_eq_getElem hq⟩
          obtain ⟨y, hy⟩ : ∃ y, m.recs[agree (r1.log.drop m.index.toNat) m.recs]? = some y := ⟨_, List.getElem?_eq_getElem h6⟩
          have hne := agree_max _ _ h6 x y (by rw [List.getElem?_drop]; exact hx) hy
          have hy2 : (g.LL r1.term)[m.index.toNat + agree (r1.log.drop m.index.toNat) m.recs]? = some y := by
            have h9 : ((List.drop m.index.toNat (g.LL r1.term)).take m.recs.length)[agree (r1.log.drop m.index.toNat) m.recs]? = some y := by rw [← a3]; exact hy
            rw [List.getElem?_take_of_lt h6, List.getElem?_drop] at h9
            exact h9
          have := congrArg (fun l => l[m.index.toNat + agree (r1.log.drop m.index.toNat) m.recs]?) hp3
          simp only [List.getElem?_take_of_lt (show m.index.toNat + agree (r1.log.drop m.index.toNat) m.recs < p by omega)] at this
          rw [hx, hy2] at this
          cases this
          exact hne rfl
        rw [hnew, List.length_take, List.take_take]
        exact ⟨by omega, by rw [Nat.min_eq_left (show p ≤ m.index.toNat + m.recs.length by omega)]⟩
      · show n ≤ (r1.log.take _ ++ _).length ∧ (r1.log.take _ ++ _).take _ = _
        have hn3 : n ≤ (r1.log.take (m.index.toNat + agree (r1.log.drop m.index.toNat) m.recs)).length := by rw [List.length_take]; omega
        rw [List.take_append_of_le_length hn3, List.take_take, Nat.min_eq_left (by omega), List.length_append]
        exact ⟨by omega, rfl⟩
  · have e1 : (appendP r1 m).1 = { r1 with role := 0, commit := max r1.commit (min m.commit.toNat (m.index.toNat + m.recs.length)) } := by unfold appendP; rw [if_neg h1, if_neg h2]; simp only; rw [if_neg h3, if_neg h6]
    have e2 : (appendP r1 m).2.send = [ackOf r1 m] := by unfold appendP; rw [if_neg h1, if_neg h2]; simp only; rw [if_neg h3, if_neg h6]
    have hkk : agree (r1.log.drop m.index.toNat) m.recs = m.recs.length := by omega
    rw [hkk] at hag hka
    rw [e1] at fm ⊢
    exact ⟨_, acc_s h hi u hw1 hmem hk hmt e2 ⟨rfl, rfl, rfl, ⟨hka, hag⟩, fun p hp1 hp2 hp3 => ⟨hp1, hp3⟩, fun n hn1 hn2 => ⟨hn2, rfl⟩, fun _ => rfl, rfl⟩ fm hLL hld⟩

theorem hear_s {C : Cl} {g : Gh} {A : Int → Nat → Nat} (h : SInv C g A) {i : Nat} (hi : i < 3) {m : MsgR} (hmem : m ∈ C.sent) : ∃ g' n, SFit C g A i (hearP (C.nd i).rep m).1 (hearP (C.nd i).rep m).2.send g' n := by
  obtain ⟨hw, hid⟩ := h.m.wf.rep i hi
  obtain ⟨g', fm, hg⟩ := hear_m h.m hi (h.m.yes m hmem) (h.m.app m hmem)
  rcases hg with ⟨hLL, hld⟩ | ⟨q1, q2, q3, q4, q5, q6, q7, q8, q9, q10, q11⟩
  · refine ⟨g', ?_⟩
    cases hy : rightP (C.nd i).rep.id m with
    | false =>
      rw [hear_no hy] at fm ⊢
      exact ⟨_, sfit_as h hi fm hLL hld (fun v hv => by cases hv) (fun v hv => by cases hv) (fun v hv => by cases hv)⟩
    | true =>
      have hm := right_iff.1 hy
      obtain ⟨r1, hr1⟩ : ∃ r1, (if (C.nd i).rep.term < m.term then upR (C.nd i).rep m else (C.nd i).rep) = r1 := ⟨_, rfl⟩
      have e1 : (hearP (C.nd i).rep m).1 = (hearX r1 m).1 := by rw [hear_yes hy, hr1, fin_fst]
      have e2 : (hearP (C.nd i).rep m).2.send = (hearX r1 m).2.send := by rw [hear_yes hy, hr1, fin_send]
      rw [e1, e2] at fm ⊢
      have hw1 : r1.Wf := by
        rw [← hr1]
        split
        · exact up_wf hw hm (by assumption)
        · exact hw
      have hmt : m.term ≤ r1.term := by
        rw [← hr1]
        split
        · exact Int.le_refl _
        · omega
      have u : Turn C i r1 := by
        rw [← hr1]
        split
        · rename_i hlt
          exact ⟨by show _ ≤ m.term; omega, .inr rfl, rfl, fun hr => absurd rfl hr, rfl, hid⟩
        · exact ⟨Int.le_refl _, .inl ⟨rfl, rfl⟩, rfl, fun _ => rfl, rfl, hid⟩
      rw [hid] at hm
      by_cases hk0 : m.kind = 0
      · have e : hearX r1 m = voteP r1 m := by unfold hearX; rw [if_pos hk0]
        rw [e] at fm ⊢
        exact ⟨_, vote_s h hi u hmem hm hk0 fm hLL hld⟩
      by_cases hk1 : m.kind = 1
      · have e : hearX r1 m = votedP r1 m := by unfold hearX; rw [if_neg hk0, if_pos hk1]
        rw [e] at fm ⊢
        exact ⟨_, voted_s h hi u fm hLL hld⟩
      by_cases hk2 : m.kind = 2
      · have e : hearX r1 m = appendP r1 m := by unfold hearX; rw [if_neg hk0, if_neg hk1, if_pos hk2]
        rw [e] at fm ⊢
        exact append_s h hi u hw1 hmem hk2 hmt fm hLL hld
      · have e : hearX r1 m = appendedP r1 m := by unfold hearX; rw [if_neg hk0, if_neg hk1, if_neg hk2]
        rw [e] at fm ⊢
        have := hm.kind
        exact ⟨_, appended_s h hi u hmem hm (by omega) fm hLL hld⟩
  · exact ⟨g', _, lead_s h hi fm q1 q2 q3 q4 q5 q6 q7 q8 q9 q10 q11⟩

end Go.Proofs.Ytifgijoeckoojaa
end

/-
  Safety, plain: the cluster.
-/
section
set_option linter.unusedVariables false
set_option linter.unusedSimpArgs false
namespace Go.Proofs.Ytifgijoeckoojaa
open Go.Vc

/-- what was stays -/
structure Aft (g : Gh) (A : Int → Nat → Nat) (g' : Gh) (A' : Int → Nat → Nat) : Prop where
  ext : Ext g.LL g'.LL
  ld : ∀ u, g.ld u ≠ -1 → g'.ld u = g.ld u
  a : ∀ t j, A t j ≤ A' t j

theorem Aft.refl (g : Gh) (A : Int → Nat → Nat) : Aft g A g A := ⟨Ext.refl _, fun _ _ => rfl, fun _ _ => Nat.le_refl _⟩

theorem SFit.aft {C : Cl} {g g' : Gh} {A : Int → Nat → Nat} {i n : Nat} {r : Rep} {send : List MsgR} (f : SFit C g A i r send g' n) : Aft g A g' (ackA A i r.term n) :=
  ⟨f.m.ext, fun u hu => by
    rcases f.m.ld u with e | ⟨e, _⟩
    · exact e
    · exact absurd e hu, ackA_le f.le⟩

def Goes (C : Cl) (g : Gh) (A : Int → Nat → Nat) (C' : Cl) : Prop := ∃ g' A', SInv C' g' A' ∧ Aft g A g' A'

theorem SInv.goes {C : Cl} {g : Gh} {A : Int → Nat → Nat} (h : SInv C g A) {i : Nat} (hi : i < 3) {x : Rep × OutR} (hx : x.1.Wf) (hf : Fits (C.nd i).rep x.1 x.2) (he : ∃ g' n, SFit C g A i x.1 x.2.send g' n) : Goes C g A (callC C i x) := by
  obtain ⟨g', n, f⟩ := he
  rcases h.call hi hx hf f with ⟨q, _⟩ | q
  · exact ⟨g, A, q, Aft.refl g A⟩
  · exact ⟨g', _, q, f.aft⟩

theorem SInv.deliver {C : Cl} {g : Gh} {A : Int → Nat → Nat} (h : SInv C g A) {m : MsgR} (hmem : m ∈ C.sent) : Goes C g A (deliver C m) := by
  have hi := who_lt m.to
  have hh := hear_wf (m := m) (h.m.wf.rep _ hi).1
  exact h.goes hi hh.1 hh.2 (hear_s h hi hmem)

theorem SInv.arrive {C : Cl} {g : Gh} {A : Int → Nat → Nat} (h : SInv C g A) (n : Int) (keep : Bool) : Goes C g A (arriveC C n keep) := by
  unfold arriveC
  split
  · exact ⟨g, A, h, Aft.refl g A⟩
  · rename_i m hm
    have hlt := (List.getElem?_eq_some_iff.1 hm).1
    have hmem : m ∈ C.sent := List.mem_of_getElem? hm
    cases keep with
    | true => exact h.deliver hmem
    | false =>
      have hi := who_lt m.to
      have hh := hear_wf (m := m) (h.m.wf.rep _ hi).1
      have hd := h.drop hlt
      exact SInv.goes hd hi (x := hearP (C.nd (pickZ m.to 3).toNat).rep m) hh.1 hh.2 (by
        obtain ⟨g', n, f⟩ := hear_s h hi hmem
        exact ⟨g', n, ⟨⟨f.m.V, f.m.up, f.m.keep, f.m.yes, f.m.ld, f.m.ext, f.m.LL, f.m.cand, f.m.lead, f.m.log, f.m.app⟩, f.grow, f.asc, f.le, f.a1, f.a3, f.ia, f.new, f.old, f.iq, f.iq2, f.il, f.iv, f.vote, f.vt, f.im, f.ik, f.ic, f.co⟩⟩)

theorem SInv.cluster {C : Cl} {g : Gh} {A : Int → Nat → Nat} (h : SInv C g A) (x : OpR) : Goes C g A (stepCl C x) := by
  have hi := who_lt x.who
  have h1 := and_one x.n
  have hrw := (h.m.wf.rep _ hi).1
  unfold stepCl
  simp only
  split
  · unfold loseC
    split
    · rename_i h0
      have hp := pickZ_lt (n := x.n) (show (0 : Int) < C.sent.length by omega)
      exact ⟨g, A, h.drop (by omega), Aft.refl g A⟩
    · exact ⟨g, A, h, Aft.refl g A⟩
  split
  · exact h.arrive _ _
  split
  · have := tick_wf hrw
    exact h.goes hi this.1 this.2 (tick_s h hi)
  split
  · have := propose_wf hrw x.data
    exact h.goes (x := ((proposeP (C.nd (pickZ x.who 3).toNat).rep x.data).1, (proposeP (C.nd (pickZ x.who 3).toNat).rep x.data).2.2.2)) hi this.1 this.2 (prop_s h hi x.data)
  split
  · exact ⟨g, A, h.start hi, Aft.refl g A⟩
  split
  · exact ⟨g, A, h.stop hi (by omega), Aft.refl g A⟩
  · exact h.arrive _ _

abbrev gh0 : Gh := ⟨fun _ _ => -1, fun _ => -1, fun _ => []⟩
theorem sinv0 : SInv cl0 gh0 fun _ _ => 0 := by
  have hv : ∀ t p, ¬ Valid gh0 t p := fun t p h => by
    have h1 := h.1
    have h2 := h.2.1
    simp at h2
    omega
  exact ⟨minv0, fun t => ⟨by simp, by simp, by simp, by simp⟩, fun _ _ => Nat.le_refl _, fun t j _ h => absurd h (Nat.lt_irrefl _), fun i hi hr => (by cases (show (0 : Int) = 2 from hr)), fun t j p _ h1 h2 => absurd (Nat.le_trans h1 h2) (by decide), fun t u p h => absurd h (hv t p), fun m hm => (by cases hm), fun c _ hr => (by cases (show (0 : Int) = 1 from hr)), fun c _ hr => (by cases (show (0 : Int) = 1 from hr)),
    fun t x c _ _ h => absurd (show (-1 : Int) = c from h) (by omega), fun i hi hr => (by cases (show (0 : Int) = 2 from hr)), fun m hm => (by cases hm), fun m hm => (by cases hm), fun j hj => .inl rfl⟩

end Go.Proofs.Ytifgijoeckoojaa
end

/-
  Safety, plain: what follows for what was committed.
-/
section
set_option linter.unusedVariables false
set_option linter.unusedSimpArgs false
namespace Go.Proofs.Ytifgijoeckoojaa
open Go.Vc

theorem has_take {g : Gh} {t : Int} {p n : Nat} {l : List RecD} (h : Has g t p l) (hn : n ≤ p) : l.take n = (g.LL t).take n := (h.less hn).2

theorem SInv.later_has {C : Cl} {g : Gh} {A : Int → Nat → Nat} (h : SInv C g A) {t u : Int} {p : Nat} (hc : Chosen g A t p) (htu : t < u) (hu : g.ld u ≠ -1) : Has g t p (g.LL u) := by
  rcases h.ib t u p hc.1 htu hu with q | q
  · exact q
  · exact (hc.no q).elim

end Go.Proofs.Ytifgijoeckoojaa
end

/-
  Liveness, plain: a message arrives in a cluster that is not interrupted.
-/
section
set_option linter.unusedVariables false
set_option linter.unusedSimpArgs false
namespace Go.Proofs.Ytifgijoeckoojaa
open Go.Vc

def flowC : Nat → Cl → Cl
  | 0, C => C
  | n + 1, C => if C.sent.length = 0 then C else flowC n (arriveC C 0 false)

/-- node j is another replica, and these messages are in flight -/
def setN (C : Cl) (j : Nat) (r : Rep) (s : List MsgR) : Cl := ⟨put C.nd j (hardN (C.nd j) r), s⟩
theorem setN_self (C : Cl) (j : Nat) (r : Rep) (s : List MsgR) : ((setN C j r s).nd j).rep = r := by
  unfold setN
  simp only [put_self]
  rfl
theorem setN_ne (C : Cl) {j k : Nat} (r : Rep) (s : List MsgR) (h : k ≠ j) : (setN C j r s).nd k = C.nd k := put_ne _ _ h
theorem setN_stop (C : Cl) (j k : Nat) (r : Rep) (s : List MsgR) : ((setN C j r s).nd k).stop = (C.nd k).stop := by
  by_cases h : k = j
  · subst h
    unfold setN
    simp only [put_self]
    rfl
  · rw [setN_ne C r s h]

theorem call_head {C : Cl} (hw : C.Wf) {i : Nat} (hi : i < 3) (hs : (C.nd i).stop = 0) {x : Rep × OutR} (hf : Fits (C.nd i).rep x.1 x.2) (hl : C.sent.length + x.2.send.length ≤ 300) : callC C i x = setN C i x.1 (C.sent ++ x.2.send) := by
  rw [call_cases hw hi hf, if_neg (by rw [hs]; decide), if_neg (by rw [hs]; decide), List.take_of_length_le (by omega)]
  rfl

theorem arrive_head {C : Cl} (hw : C.Wf) (hs : ∀ j, j < 3 → (C.nd j).stop = 0) {m : MsgR} {rest : List MsgR} (he : C.sent = m :: rest) {j : Nat} (hj : j < 3) (hto : m.to = (j : Nat)) (hl : rest.length ≤ 298) :
    arriveC C 0 false = setN C j (hearP (C.nd j).rep m).1 (rest ++ (hearP (C.nd j).rep m).2.send) := by
  have hp : pickZ 0 C.sent.length = ((0 : Nat) : Int) := by
    unfold pickZ
    split
    · rfl
    · exact Int.zero_emod _
  rw [arrive_some hp (by rw [he]; rfl)]
  have h3 : (pickZ m.to 3).toNat = j := by
    rw [hto]
    unfold pickZ
    rw [if_neg (by decide)]
    show ((j : Int) % 3).toNat = j
    omega
  unfold deliver
  rw [h3]
  have hh := hear_wf (m := m) (hw.rep j hj).1
  have hsm := (hear_small (C.nd j).rep m).send
  have hd : (dropC C 0).sent = rest := by unfold dropC remL; rw [he]; rfl
  have hc := call_head (C := dropC C 0) (drop_wf hw (by rw [he]; simp)) hj (hs j hj) (x := hearP (C.nd j).rep m) hh.2 (by rw [hd]; omega)
  rw [hd] at hc
  exact hc

/-! ### a right message is heard -/
def turnR (r : Rep) (m : MsgR) : Rep := if r.term < m.term then upR r m else r

theorem hear_out {r : Rep} {m : MsgR} (hm : m.Right r.id) : (hearP r m).1 = (hearX (turnR r m) m).1 ∧ (hearP r m).2.send = (hearX (turnR r m) m).2.send := by
  rw [hear_yes (right_iff.2 hm)]
  exact ⟨fin_fst, fin_send⟩

theorem turn_same (r : Rep) (m : MsgR) : (turnR r m).id = r.id ∧ (turnR r m).log = r.log ∧ (turnR r m).commit = r.commit ∧ (turnR r m).next = r.next ∧ (turnR r m).mat = r.mat ∧ (turnR r m).votes = r.votes := by
  unfold turnR
  split <;> exact ⟨rfl, rfl, rfl, rfl, rfl, rfl⟩
theorem turn_term (r : Rep) (m : MsgR) : (turnR r m).term = max r.term m.term := by
  unfold turnR
  split
  · show m.term = _
    omega
  · omega
theorem turn_id {r : Rep} {m : MsgR} (h : ¬ r.term < m.term) : turnR r m = r := if_neg h
theorem turn_up {r : Rep} {m : MsgR} (h : r.term < m.term) : turnR r m = upR r m := if_pos h
theorem turn_wf {r : Rep} (h : r.Wf) {m : MsgR} (hm : m.Right r.id) : (turnR r m).Wf := by
  unfold turnR
  split
  · rename_i ht
    exact up_wf h hm ht
  · exact h

/-! ### messages that are right -/
theorem bare_right {id to kind : Nat} {t index : Int} (hid : id < 3) (hto : to < 3) (hne : id ≠ to) (hk : kind ≤ 3) (h1 : 1 ≤ t) (h2 : t ≤ 1099511627776) (h3 : 0 ≤ index) (h4 : index ≤ 4000) (y : Bool) : (⟨kind, id, to, t, index, 0, 0, y, []⟩ : MsgR).Right to :=
  ⟨by constructor <;> (simp only; omega), rfl, by refine ⟨?_, ?_, ?_⟩ <;> (simp only; omega), ⟨h1, h2⟩, ⟨h3, h4⟩, by constructor <;> (simp only; omega), fun _ => rfl, by constructor <;> (simp only; omega), by simp, by simp only [List.length_nil]; omega, rfl⟩

theorem termAt_in {r : Rep} (h : r.Ok) (k : Nat) : 0 ≤ termAt r.log k ∧ termAt r.log k ≤ r.term := by
  cases k with
  | zero => exact ⟨Int.le_refl _, h.term0⟩
  | succ k =>
    have h0 := h.term0
    by_cases hk : k < r.log.length
    · rw [termAt_succ hk]
      have h1 := h.log.lo _ (List.getElem_mem hk)
      have h2 := h.log.hi _ (List.getElem_mem hk)
      omega
    · have : termAt r.log (k + 1) = 0 := by
        simp only [termAt, List.getElem?_eq_none (show r.log.length ≤ k by omega)]
      omega

theorem ask_right {r : Rep} (h : r.Ok) (h1 : 1 ≤ r.term) {to : Nat} (hto : to < 3) (hne : r.id ≠ to) : (askOf r to).Right to := by
  have hid := h.id
  have ht := termAt_in h r.log.length
  have hl := h.len
  refine ⟨⟨Int.le_refl _, show (0 : Int) ≤ 3 by decide⟩, rfl, ?_, ⟨h1, h.termM⟩, ?_, ht, fun hz => ?_, ⟨Int.le_refl _, show (0 : Int) ≤ 4000 by decide⟩, by simp [askOf], ?_, rfl⟩
  · refine ⟨?_, ?_, ?_⟩ <;> (simp only [askOf]; omega)
  · constructor <;> (simp only [askOf]; omega)
  · show termAt r.log r.log.length = 0
    have : r.log.length = 0 := by
      have : ((r.log.length : Nat) : Int) = 0 := hz
      omega
    rw [this]
    rfl
  · simp only [askOf, List.length_nil]
    omega

theorem entries_right {r : Rep} (h : r.Ok) (h1 : 1 ≤ r.term) {to : Nat} (hto : to < 3) (hne : r.id ≠ to) (hn1 : 1 ≤ r.next to) (hn2 : r.next to ≤ r.log.length + 1) {c : Nat} (hc : c ≤ 4000) : ({ entriesOf r to with commit := (c : Int) } : MsgR).Right to := by
  have hid := h.id
  have hl := h.len
  have ht := termAt_in h (r.next to - 1)
  refine ⟨⟨show (0 : Int) ≤ 2 by decide, show (2 : Int) ≤ 3 by decide⟩, rfl, ?_, ⟨h1, h.termM⟩, ?_, ht, fun hz => ?_, ?_, ?_, ?_, ?_⟩
  · refine ⟨?_, ?_, ?_⟩ <;> (simp only [entriesOf]; omega)
  · constructor <;> (simp only [entriesOf]; omega)
  · show termAt r.log (r.next to - 1) = 0
    have : r.next to - 1 = 0 := by
      have : ((r.next to - 1 : Nat) : Int) = 0 := hz
      omega
    rw [this]
    rfl
  · constructor <;> (simp only; omega)
  · simp only [entriesOf, List.length_take]
    omega
  · simp only [entriesOf, List.length_take, List.length_drop]
    omega
  · show soundR ((r.log.drop (r.next to - 1)).take 8) (max 1 (termAt r.log (r.next to - 1))) r.term = true
    have hs := sorted_take (sorted_drop h.log (r.next to - 1)) 8
    refine soundR_of _ _ _ (fun x hx => ?_) hs.hi hs.data hs.asc
    have hx1 := hs.lo x hx
    have hx2 : termAt r.log (r.next to - 1) ≤ x.term := by
      have hx := List.mem_of_mem_take hx
      generalize r.next to - 1 = q at hx
      obtain ⟨k, hk, rfl⟩ := List.getElem_of_mem hx
      rw [List.length_drop] at hk
      rw [List.getElem_drop]
      cases q with
      | zero => exact Int.le_trans (show (0 : Int) ≤ 1 by decide) (h.log.lo _ (List.getElem_mem _))
      | succ p =>
        rw [termAt_succ (show p < r.log.length by omega)]
        exact h.log.asc p (p + 1 + k) (by omega) (by omega) (by omega)
    omega

end Go.Proofs.Ytifgijoeckoojaa
end

/-
  Liveness, plain: messages flow between one replica and the others.
-/
section
set_option linter.unusedVariables false
set_option linter.unusedSimpArgs false
namespace Go.Proofs.Ytifgijoeckoojaa
open Go.Vc

def peerZ (i : Nat) (m : MsgR) : Int := if m.src = i then m.to else m.src
theorem peer_to {i : Nat} {m : MsgR} (h : m.src = i) : peerZ i m = m.to := if_pos h
theorem peer_src {i j : Nat} {m : MsgR} (h : m.src = (j : Nat)) (hji : j ≠ i) : peerZ i m = j := by
  unfold peerZ
  rw [if_neg (by rw [h]; omega), h]

/-- the answer to entries -/
def BackOk (r : Rep) (j : Nat) (m : MsgR) : Prop :=
  (m.yes = true → m.index = ((r.next j - 1 + ((r.log.drop (r.next j - 1)).take 8).length : Nat) : Int)) ∧ (m.yes = false → m.index + 2 ≤ (r.next j : Int) ∧ r.mat j + 1 < r.next j)

def EntOk (r : Rep) (j : Nat) (m : MsgR) : Prop := ∃ c : Nat, c ≤ 4000 ∧ m = { entriesOf r j with commit := (c : Int) }
def Req (i : Nat) (T : Int) (r : Rep) (m : MsgR) (j : Nat) : Prop :=
  m.Right j ∧ m.src = i ∧ m.term = T ∧ (m.kind = 0 ∨ (m.kind = 2 ∧ (r.role = 2 → EntOk r j m)))
def Rsp (i : Nat) (T : Int) (r rj : Rep) (m : MsgR) (j : Nat) : Prop :=
  m.Right i ∧ m.src = j ∧ m.term = rj.term ∧ T ≤ m.term ∧ (m.kind = 1 ∨ (m.kind = 3 ∧ (r.role = 2 → m.term = T → BackOk r j m)))

abbrev apart (i : Nat) (a b : MsgR) : Prop := ¬ ((2 ≤ a.kind ↔ 2 ≤ b.kind) ∧ peerZ i a = peerZ i b)

structure FI (i : Nat) (T Mx : Int) (t0 : Nat → Int) (ld : Nat → Prop) (C : Cl) : Prop where
  inv : ∃ g A, SInv C g A
  stop : ∀ j, j < 3 → (C.nd j).stop = 0
  len : C.sent.length + (if (C.nd i).rep.role = 1 then 2 else 0) ≤ 4
  tl : T ≤ (C.nd i).rep.term
  ti : (C.nd i).rep.role ≠ 0 → (C.nd i).rep.term = T
  up : ∀ j, j < 3 → t0 j ≤ (C.nd j).rep.term
  mx : ∀ j, j < 3 → (C.nd j).rep.term ≤ Mx
  q : ∀ j, j < 3 → j ≠ i → ((C.nd j).rep.term ≤ (C.nd i).rep.term ∧ T ≤ (C.nd j).rep.term) ∨ ∃ m ∈ C.sent, peerZ i m = j
  msg : ∀ m ∈ C.sent, ∃ j, j < 3 ∧ j ≠ i ∧ (Req i T (C.nd i).rep m j ∨ Rsp i T (C.nd i).rep (C.nd j).rep m j)
  pw : C.sent.Pairwise (apart i)
  noapp : (C.nd i).rep.role = 1 → ∀ m ∈ C.sent, m.kind < 2
  nx : (C.nd i).rep.role = 2 → ∀ f, (C.nd i).rep.mat f + 1 ≤ (C.nd i).rep.next f
  ro : ∀ j, j < 3 → j ≠ i → (C.nd j).rep.role = 2 → ld j
  goal : (C.nd i).rep.role = 2 → ∀ j, j < 3 → j ≠ i → ((C.nd i).rep.mat j = (C.nd i).rep.log.length ∧ (C.nd i).rep.next j = (C.nd i).rep.log.length + 1) ∨ ∃ m ∈ C.sent, 2 ≤ m.kind ∧ peerZ i m = j

/-! ### the measure -/
def base (m : MsgR) : Nat := if m.kind = 0 ∨ m.kind = 2 then 2 else 1
def ms (r : Rep) (j : Nat) : Nat := (r.log.length - r.mat j) + (r.next j - 1 - r.mat j)
def wt (i : Nat) (r : Rep) (m : MsgR) : Nat := base m + (if r.role = 2 ∧ 2 ≤ m.kind then 2 * ms r (peerZ i m).toNat else 0)
def sumW (f : MsgR → Nat) : List MsgR → Nat
  | [] => 0
  | m :: l => f m + sumW f l
def mu (i : Nat) (C : Cl) : Nat := (if (C.nd i).rep.role = 1 then 2 * (4 * (C.nd i).rep.log.length + 2) else 0) + sumW (wt i (C.nd i).rep) C.sent

theorem sum_app (f : MsgR → Nat) : ∀ a b, sumW f (a ++ b) = sumW f a + sumW f b
  | [], b => by simp [sumW]
  | m :: a, b => by
    show f m + sumW f (a ++ b) = f m + sumW f a + sumW f b
    rw [sum_app f a b]
    omega
theorem sum_le {f g : MsgR → Nat} : ∀ {l : List MsgR}, (∀ m ∈ l, f m ≤ g m) → sumW f l ≤ sumW g l
  | [], _ => Nat.le_refl _
  | m :: l, h => Nat.add_le_add (h m (by simp)) (sum_le fun x hx => h x (List.mem_cons_of_mem _ hx))
theorem base_pos (m : MsgR) : 1 ≤ base m := by unfold base; split <;> omega
theorem wt_pos (i : Nat) (r : Rep) (m : MsgR) : 1 ≤ wt i r m := by have := base_pos m; unfold wt; omega

/-! ### one of the others hears -/
theorem FI.goes {i : Nat} {T Mx : Int} {t0 : Nat → Int} {ld : Nat → Prop} {C : Cl} (h : FI i T Mx t0 ld C) : ∃ g A, SInv (arriveC C 0 false) g A := by
  obtain ⟨g, A, hs⟩ := h.inv
  obtain ⟨g', A', hs', _⟩ := hs.arrive 0 false
  exact ⟨g', A', hs'⟩

/-- what another one sends -/
def AnsJ (i : Nat) (T : Int) (r rj r' : Rep) (j : Nat) (m : MsgR) (send : List MsgR) : Prop :=
  (send = [] ∧ m.kind = 2 ∧ rj.term ≤ T ∧ r.role ≠ 2) ∨ ∃ a, send = [a] ∧ a.Right i ∧ a.src = j ∧ a.term = r'.term ∧ a.kind = m.kind + 1 ∧ (m.kind = 2 → r.role = 2 → a.term = T → BackOk r j a)

theorem FI.atJ {i : Nat} {T Mx : Int} {t0 : Nat → Int} {ld : Nat → Prop} {C : Cl} {m : MsgR} {rest : List MsgR} (h : FI i T Mx t0 ld C) (he : C.sent = m :: rest) (hi : i < 3) {j : Nat} (hj : j < 3) (hji : j ≠ i) (hq : Req i T (C.nd i).rep m j) {r' : Rep} {send : List MsgR}
    (hC : arriveC C 0 false = setN C j r' (rest ++ send)) (ht : r'.term = max (C.nd j).rep.term T) (hrj : r'.role = 2 → (C.nd j).rep.role = 2)
    (hs : AnsJ i T (C.nd i).rep (C.nd j).rep r' j m send) :
    FI i T Mx t0 ld (arriveC C 0 false) ∧ mu i (arriveC C 0 false) < mu i C := by
  have hg := h.goes
  obtain ⟨q1, q2, q3, q4⟩ := hq
  have hpm : peerZ i m = j := by rw [peer_to q2, q1.to]
  have hk4 : m.kind = 0 ∨ m.kind = 2 := by rcases q4 with e | e; exact .inl e; exact .inr e.1
  have hpwl := h.pw
  have hlen := h.len
  have hmem : ∀ x ∈ rest, x ∈ C.sent := fun x hx => by rw [he]; exact List.mem_cons_of_mem _ hx
  have hm0 : m ∈ C.sent := by rw [he]; simp
  rw [he] at hpwl hlen
  obtain ⟨hp1, hp2⟩ := List.pairwise_cons.1 hpwl
  have hT := h.tl
  have hTm := h.mx i hi
  have hii : ((setN C j r' (rest ++ send)).nd i) = C.nd i := setN_ne C r' _ (fun e => hji e.symm)
  rw [hC] at hg ⊢
  have hps : ∀ a : MsgR, a.src = ((j : Nat) : Int) → peerZ i a = j := fun a ha => peer_src ha hji
  have hj2 : ∀ k, k ≠ j → (setN C j r' (rest ++ send)).nd k = C.nd k := fun k hk => setN_ne C r' _ hk
  have hjj : ((setN C j r' (rest ++ send)).nd j).rep = r' := setN_self C j r' _
  refine ⟨⟨hg, fun k hk => by rw [setN_stop]; exact h.stop k hk, ?_, by rw [hii]; exact h.tl, by rw [hii]; exact h.ti, fun k hk => ?_, fun k hk => ?_, fun k hk hki => ?_, fun x hx => ?_, ?_, ?_, by rw [hii]; exact h.nx, fun k hk hki => ?_, ?_⟩, ?_⟩
  · rw [hii]
    show (rest ++ send).length + _ ≤ 4
    rw [List.length_append]
    rw [List.length_cons] at hlen
    rcases hs with ⟨e, _⟩ | ⟨a, e, _⟩ <;> rw [e] <;> simp only [List.length_nil, List.length_cons] <;> omega
  · by_cases hkj : k = j
    · subst hkj
      rw [hjj, ht]
      have := h.up k hk
      omega
    · rw [hj2 k hkj]
      exact h.up k hk
  · by_cases hkj : k = j
    · subst hkj
      rw [hjj, ht]
      have := h.mx k hk
      omega
    · rw [hj2 k hkj]
      exact h.mx k hk
  · rw [hii]
    by_cases hkj : k = j
    · subst hkj
      rw [hjj, ht]
      rcases hs with ⟨e, _, e2, _⟩ | ⟨a, e, a1, a2, _⟩
      · exact .inl (by omega)
      · exact .inr ⟨a, by rw [e]; show a ∈ rest ++ [a]; simp, hps a a2⟩
    · rw [hj2 k hkj]
      rcases h.q k hk hki with e | ⟨x, hx, e⟩
      · exact .inl e
      · rw [he] at hx
        rcases List.mem_cons.1 hx with rfl | hx
        · rw [hpm] at e
          omega
        · exact .inr ⟨x, List.mem_append_left _ hx, e⟩
  · rw [hii]
    rcases List.mem_append.1 hx with hx | hx
    · obtain ⟨k, k1, k2, k3⟩ := h.msg x (hmem x hx)
      refine ⟨k, k1, k2, ?_⟩
      rcases k3 with k3 | k3
      · exact .inl k3
      · refine .inr ?_
        by_cases hkj : k = j
        · subst hkj
          rw [hjj]
          obtain ⟨z1, z2, z3, z4, z5⟩ := k3
          exact ⟨z1, z2, by rw [ht]; omega, z4, z5⟩
        · rw [hj2 k hkj]
          exact k3
    · rcases hs with ⟨e, _⟩ | ⟨a, e, a1, a2, a3, a4, a5⟩
      · rw [e] at hx
        cases hx
      · rw [e] at hx
        rw [List.mem_singleton.1 hx]
        refine ⟨j, hj, hji, .inr ⟨a1, a2, by rw [hjj]; exact a3, by rw [a3, ht]; omega, ?_⟩⟩
        rcases hk4 with hk | hk
        · exact .inl (by omega)
        · exact .inr ⟨by omega, a5 hk⟩
  · show (rest ++ send).Pairwise (apart i)
    rw [List.pairwise_append]
    rcases hs with ⟨e, _⟩ | ⟨a, e, a1, a2, a3, a4, a5⟩
    · rw [e]
      exact ⟨hp2, List.Pairwise.nil, fun _ _ _ h => by cases h⟩
    · rw [e]
      refine ⟨hp2, List.pairwise_singleton _ _, fun x hx y hy => ?_⟩
      rw [List.mem_singleton.1 hy]
      have := hp1 x hx
      unfold apart at this ⊢
      rw [hpm] at this
      intro hh
      rw [hps a a2] at hh
      refine this ⟨?_, hh.2.symm⟩
      have h1 := hh.1
      omega
  · rw [hii]
    intro hr x hx
    have hmk := h.noapp hr m hm0
    rcases List.mem_append.1 hx with hx | hx
    · exact h.noapp hr x (hmem x hx)
    · rcases hs with ⟨e, _⟩ | ⟨a, e, a1, a2, a3, a4, a5⟩
      · rw [e] at hx
        cases hx
      · rw [e] at hx
        rw [List.mem_singleton.1 hx]
        omega
  · by_cases hkj : k = j
    · subst hkj
      rw [hjj]
      exact fun hr => h.ro k hk hki (hrj hr)
    · rw [hj2 k hkj]
      exact h.ro k hk hki
  · rw [hii]
    intro hr k hk hki
    rcases h.goal hr k hk hki with e | ⟨x, hx, e1, e2⟩
    · exact .inl e
    · rw [he] at hx
      rcases List.mem_cons.1 hx with rfl | hx
      · rcases hs with ⟨e, _, _, e3⟩ | ⟨a, e, a1, a2, a3, a4, a5⟩
        · exact absurd hr e3
        · exact .inr ⟨a, by rw [e]; show a ∈ rest ++ [a]; simp, by omega, by rw [hps a a2, ← hpm, e2]⟩
      · exact .inr ⟨x, List.mem_append_left _ hx, e1, e2⟩
  · unfold mu
    rw [hii, he]
    show _ + sumW (wt i (C.nd i).rep) (rest ++ send) < _ + sumW (wt i (C.nd i).rep) (m :: rest)
    rw [sum_app]
    show _ < _ + (wt i (C.nd i).rep m + sumW (wt i (C.nd i).rep) rest)
    have hlt : sumW (wt i (C.nd i).rep) send < wt i (C.nd i).rep m := by
      rcases hs with ⟨e, _⟩ | ⟨a, e, a1, a2, a3, a4, a5⟩
      · rw [e]
        exact wt_pos i _ m
      · rw [e]
        show wt i (C.nd i).rep a + 0 < _
        have e1 : base m = 2 := by unfold base; rw [if_pos hk4]
        have e2 : base a = 1 := by unfold base; rw [if_neg (by omega)]
        unfold wt
        rw [e1, e2, hps a a2, hpm]
        by_cases hc : (C.nd i).rep.role = 2 ∧ 2 ≤ m.kind
        · rw [if_pos hc, if_pos ⟨hc.1, by omega⟩]
          omega
        · rw [if_neg hc, if_neg (fun hh => hc ⟨hh.1, by omega⟩)]
          omega
    omega

end Go.Proofs.Ytifgijoeckoojaa
end

/-
  Liveness, plain: the one in the middle hears.
-/
section
set_option linter.unusedVariables false
set_option linter.unusedSimpArgs false
namespace Go.Proofs.Ytifgijoeckoojaa
open Go.Vc

theorem entries_same {r r' : Rep} {k : Nat} (hid : r'.id = r.id) (hlog : r'.log = r.log) (ht : r'.term = r.term) (hn : r'.next k = r.next k) (c : Int) : { entriesOf r' k with commit := c } = { entriesOf r k with commit := c } := by
  unfold entriesOf
  rw [hid, hlog, ht, hn]

theorem FI.atI {i : Nat} {T Mx : Int} {t0 : Nat → Int} {ld : Nat → Prop} {C : Cl} {m : MsgR} {rest : List MsgR} (h : FI i T Mx t0 ld C) (he : C.sent = m :: rest) (hi : i < 3) {j : Nat} (hj : j < 3) (hji : j ≠ i) (hq : Rsp i T (C.nd i).rep (C.nd j).rep m j) {r' : Rep} {send : List MsgR}
    (hC : arriveC C 0 false = setN C i r' (rest ++ send)) (ht : r'.term = max (C.nd i).rep.term m.term) (hid : r'.id = (C.nd i).rep.id) (hlog : r'.log = (C.nd i).rep.log) (hro : r'.role ≠ 0 → r'.term = T) (hlen : (rest ++ send).length + (if r'.role = 1 then 2 else 0) ≤ 4)
    (hmsg : r'.role = 2 → ∀ x ∈ rest, 2 ≤ x.kind → ∀ k : Nat, peerZ i x = k → (C.nd i).rep.role = 2 ∧ r'.next k = (C.nd i).rep.next k ∧ r'.mat k = (C.nd i).rep.mat k)
    (hsend : ∀ a ∈ send, r'.role = 2 ∧ ∃ k, k < 3 ∧ k ≠ i ∧ a = entriesOf r' k) (hpw : (rest ++ send).Pairwise (apart i)) (hna : r'.role = 1 → (C.nd i).rep.role = 1 ∧ send = [])
    (hnx : r'.role = 2 → ∀ f, r'.mat f + 1 ≤ r'.next f)
    (hgoal : r'.role = 2 → ∀ k, k < 3 → k ≠ i → (r'.mat k = r'.log.length ∧ r'.next k = r'.log.length + 1) ∨ ∃ x ∈ rest ++ send, 2 ≤ x.kind ∧ peerZ i x = k)
    (hmu : (if r'.role = 1 then 2 * (4 * r'.log.length + 2) else 0) + sumW (wt i r') (rest ++ send) < mu i C) :
    FI i T Mx t0 ld (arriveC C 0 false) ∧ mu i (arriveC C 0 false) < mu i C := by
  have hg := h.goes
  obtain ⟨q1, q2, q3, q4, q5⟩ := hq
  have hpm : peerZ i m = j := peer_src q2 hji
  have hmem : ∀ x ∈ rest, x ∈ C.sent := fun x hx => by rw [he]; exact List.mem_cons_of_mem _ hx
  have hT := h.tl
  have hTm := h.mx j hj
  have hTi := h.mx i hi
  rw [hC] at hg ⊢
  have hj2 : ∀ k, k ≠ i → (setN C i r' (rest ++ send)).nd k = C.nd k := fun k hk => setN_ne C r' _ hk
  have hjj : ((setN C i r' (rest ++ send)).nd i).rep = r' := setN_self C i r' _
  have hwf : r'.Wf := by
    obtain ⟨g, A, hs⟩ := hg
    have := (hs.m.wf.rep i hi).1
    rwa [hjj] at this
  have hidi : r'.id = i := by
    obtain ⟨g, A, hs⟩ := hg
    have := (hs.m.wf.rep i hi).2
    rwa [hjj] at this
  refine ⟨⟨hg, fun k hk => by rw [setN_stop]; exact h.stop k hk, by rw [hjj]; exact hlen, by rw [hjj, ht]; omega, by rw [hjj]; exact hro, fun k hk => ?_, fun k hk => ?_, fun k hk hki => ?_, fun x hx => ?_, hpw, ?_, by rw [hjj]; exact hnx, fun k hk hki => by rw [hj2 k hki]; exact h.ro k hk hki, by rw [hjj]; exact hgoal⟩, ?_⟩
  · by_cases hkj : k = i
    · subst hkj
      rw [hjj, ht]
      have := h.up k hk
      omega
    · rw [hj2 k hkj]
      exact h.up k hk
  · by_cases hkj : k = i
    · subst hkj
      rw [hjj, ht]
      omega
    · rw [hj2 k hkj]
      exact h.mx k hk
  · rw [hjj, hj2 k hki, ht]
    rcases h.q k hk hki with e | ⟨x, hx, e⟩
    · exact .inl ⟨by omega, e.2⟩
    · rw [he] at hx
      rcases List.mem_cons.1 hx with rfl | hx
      · rw [hpm] at e
        have e : j = k := by omega
        subst e
        exact .inl ⟨by omega, by omega⟩
      · exact .inr ⟨x, List.mem_append_left _ hx, e⟩
  · rw [hjj]
    rcases List.mem_append.1 hx with hx | hx
    · obtain ⟨k, k1, k2, k3⟩ := h.msg x (hmem x hx)
      refine ⟨k, k1, k2, ?_⟩
      rw [hj2 k k2]
      rcases k3 with ⟨z1, z2, z3, z4⟩ | ⟨z1, z2, z3, z4, z5⟩
      · refine .inl ⟨z1, z2, z3, ?_⟩
        rcases z4 with z4 | ⟨z4, z5⟩
        · exact .inl z4
        · refine .inr ⟨z4, fun hr => ?_⟩
          obtain ⟨w1, w2, w3⟩ := hmsg hr x hx (by omega) k (by rw [peer_to z2, z1.to])
          obtain ⟨c, hc, e⟩ := z5 w1
          refine ⟨c, hc, ?_⟩
          rw [entries_same hid hlog (by rw [hro (by rw [hr]; decide), h.ti (by rw [w1]; decide)]) w2]
          exact e
      · refine .inr ⟨z1, z2, z3, z4, ?_⟩
        rcases z5 with z5 | ⟨z5, z6⟩
        · exact .inl z5
        · refine .inr ⟨z5, fun hr htx => ?_⟩
          obtain ⟨w1, w2, w3⟩ := hmsg hr x hx (by omega) k (peer_src z2 k2)
          have := z6 w1 htx
          unfold BackOk at this ⊢
          rw [hlog, w2, w3]
          exact this
    · obtain ⟨hr, k, k1, k2, rfl⟩ := hsend x hx
      obtain ⟨n1, n2, n3⟩ := hwf.ok.next hr k
      have hc := hwf.ok.commit
      have hl := hwf.ok.len
      refine ⟨k, k1, k2, .inl ⟨entries_right hwf.ok (hwf.one (by rw [hr]; decide)) k1 (by omega) n1 n2 (c := r'.commit) (by omega), by show ((r'.id : Nat) : Int) = i; rw [hidi], hro (by rw [hr]; decide), .inr ⟨rfl, fun _ => ⟨r'.commit, by omega, rfl⟩⟩⟩⟩
  · rw [hjj]
    intro hr x hx
    obtain ⟨w1, w2⟩ := hna hr
    rw [show (setN C i r' (rest ++ send)).sent = rest ++ send from rfl, w2, List.append_nil] at hx
    exact h.noapp w1 x (hmem x hx)
  · unfold mu
    rw [hjj]
    exact hmu

/-- the middle is no leader, and does not ask any longer -/
theorem FI.atI0 {i : Nat} {T Mx : Int} {t0 : Nat → Int} {ld : Nat → Prop} {C : Cl} {m : MsgR} {rest : List MsgR} (h : FI i T Mx t0 ld C) (he : C.sent = m :: rest) (hi : i < 3) {j : Nat} (hj : j < 3) (hji : j ≠ i) (hq : Rsp i T (C.nd i).rep (C.nd j).rep m j) {r' : Rep}
    (hC : arriveC C 0 false = setN C i r' (rest ++ [])) (ht : r'.term = max (C.nd i).rep.term m.term) (hid : r'.id = (C.nd i).rep.id) (hlog : r'.log = (C.nd i).rep.log) (hr0 : r'.role = 0) :
    FI i T Mx t0 ld (arriveC C 0 false) ∧ mu i (arriveC C 0 false) < mu i C := by
  have hlen := h.len
  have hpw := h.pw
  rw [he] at hlen hpw
  refine h.atI he hi hj hji hq hC ht hid hlog (fun hr => absurd hr0 hr) ?_ (fun hr => by rw [hr0] at hr; cases hr) (fun a ha => by cases ha) ?_ (fun hr => by rw [hr0] at hr; cases hr) (fun hr => by rw [hr0] at hr; cases hr) (fun hr => by rw [hr0] at hr; cases hr) ?_
  · rw [List.append_nil, if_neg (by rw [hr0]; decide)]
    rw [List.length_cons] at hlen
    omega
  · rw [List.append_nil]
    exact (List.pairwise_cons.1 hpw).2
  · unfold mu
    rw [he, List.append_nil, if_neg (by rw [hr0]; decide)]
    show 0 + sumW (wt i r') rest < _ + (wt i (C.nd i).rep m + sumW (wt i (C.nd i).rep) rest)
    have h1 := wt_pos i (C.nd i).rep m
    have h2 : sumW (wt i r') rest ≤ sumW (wt i (C.nd i).rep) rest := sum_le fun x _ => by
      unfold wt
      rw [if_neg (fun hh => by rw [hr0] at hh; cases hh.1)]
      omega
    omega

/-- the middle counts a vote, or pays no heed -/
theorem FI.atI1 {i : Nat} {T Mx : Int} {t0 : Nat → Int} {ld : Nat → Prop} {C : Cl} {m : MsgR} {rest : List MsgR} (h : FI i T Mx t0 ld C) (he : C.sent = m :: rest) (hi : i < 3) {j : Nat} (hj : j < 3) (hji : j ≠ i) (hq : Rsp i T (C.nd i).rep (C.nd j).rep m j) {r' : Rep}
    (hC : arriveC C 0 false = setN C i r' (rest ++ [])) (hk : m.kind = 1) (hmt : m.term ≤ (C.nd i).rep.term) (ht : r'.term = (C.nd i).rep.term) (hid : r'.id = (C.nd i).rep.id) (hlog : r'.log = (C.nd i).rep.log) (hr0 : r'.role = (C.nd i).rep.role) (hn : r'.next = (C.nd i).rep.next) (hm : r'.mat = (C.nd i).rep.mat) :
    FI i T Mx t0 ld (arriveC C 0 false) ∧ mu i (arriveC C 0 false) < mu i C := by
  have hlen := h.len
  have hpw := h.pw
  rw [he] at hlen hpw
  refine h.atI he hi hj hji hq hC (by rw [ht]; omega) hid hlog (fun hr => by rw [ht]; exact h.ti (by rw [← hr0]; exact hr)) ?_ (fun hr x hx hx2 k hk => ⟨by rw [← hr0]; exact hr, by rw [hn], by rw [hm]⟩) (fun a ha => by cases ha) ?_ (fun hr => ⟨by rw [← hr0]; exact hr, rfl⟩) (fun hr f => by rw [hn, hm]; exact h.nx (by rw [← hr0]; exact hr) f) (fun hr k hk hki => ?_) ?_
  · rw [List.append_nil, hr0]
    rw [List.length_cons] at hlen
    omega
  · rw [List.append_nil]
    exact (List.pairwise_cons.1 hpw).2
  · rw [hlog, hn, hm, List.append_nil]
    rcases h.goal (by rw [← hr0]; exact hr) k hk hki with e | ⟨x, hx, e1, e2⟩
    · exact .inl e
    · rw [he] at hx
      rcases List.mem_cons.1 hx with rfl | hx
      · omega
      · exact .inr ⟨x, hx, e1, e2⟩
  · unfold mu
    rw [he, List.append_nil, hr0, hlog]
    show _ + sumW (wt i r') rest < _ + (wt i (C.nd i).rep m + sumW (wt i (C.nd i).rep) rest)
    have h1 := wt_pos i (C.nd i).rep m
    have h2 : sumW (wt i r') rest ≤ sumW (wt i (C.nd i).rep) rest := sum_le fun x _ => by
      unfold wt ms
      rw [hr0, hlog, hn, hm]
      exact Nat.le_refl _
    omega

theorem mem_others {i k : Nat} (hi : i < 3) : k ∈ othersOf i ↔ k < 3 ∧ k ≠ i := by
  have h : i = 0 ∨ i = 1 ∨ i = 2 := by omega
  rcases h with rfl | rfl | rfl <;> simp [othersOf] <;> omega

theorem all_mem {r : Rep} {i : Nat} (hid : r.id = i) (hi : i < 3) {m : MsgR} : m ∈ allOf r ↔ ∃ k, k < 3 ∧ k ≠ i ∧ m = entriesOf r k := by
  unfold allOf
  rw [List.mem_map, hid]
  constructor
  · rintro ⟨k, hk, rfl⟩
    exact ⟨k, ((mem_others hi).1 hk).1, ((mem_others hi).1 hk).2, rfl⟩
  · rintro ⟨k, h1, h2, rfl⟩
    exact ⟨k, (mem_others hi).2 ⟨h1, h2⟩, rfl⟩

theorem all_two {r : Rep} {i : Nat} (hid : r.id = i) (hi : i < 3) : ∃ a b, a < 3 ∧ b < 3 ∧ a ≠ b ∧ a ≠ i ∧ b ≠ i ∧ othersOf r.id = [a, b] := by
  rw [hid]
  have h : i = 0 ∨ i = 1 ∨ i = 2 := by omega
  rcases h with rfl | rfl | rfl
  · exact ⟨1, 2, by decide, by decide, by decide, by decide, by decide, rfl⟩
  · exact ⟨0, 2, by decide, by decide, by decide, by decide, by decide, rfl⟩
  · exact ⟨0, 1, by decide, by decide, by decide, by decide, by decide, rfl⟩

theorem peer_ent {r : Rep} {i : Nat} (hid : r.id = i) (k : Nat) : peerZ i (entriesOf r k) = k := peer_to (by show ((r.id : Nat) : Int) = i; rw [hid])

theorem all_pw {r : Rep} {i : Nat} (hid : r.id = i) (hi : i < 3) : (allOf r).Pairwise (apart i) := by
  obtain ⟨a, b, _, _, hab, _, _, e⟩ := all_two hid hi
  unfold allOf
  rw [e]
  refine List.pairwise_cons.2 ⟨fun x hx => ?_, List.pairwise_singleton _ _⟩
  have hx : x = entriesOf r b := List.mem_singleton.1 hx
  rw [hx]
  intro hh
  have := hh.2
  rw [peer_ent hid, peer_ent hid] at this
  omega

theorem lead_wt {r : Rep} {i : Nat} (hid : r.id = i) (hr : r.role = 2) {k n : Nat} (hn : ms r k ≤ n) : wt i r (entriesOf r k) ≤ 2 + 2 * n := by
  unfold wt
  rw [if_pos ⟨hr, by show (2 : Int) ≤ 2; decide⟩, peer_ent hid, Int.toNat_natCast, show base (entriesOf r k) = 2 from rfl]
  omega

theorem all_wt {r : Rep} {i : Nat} (hid : r.id = i) (hi : i < 3) (hr : r.role = 2) {n : Nat} (hn : ∀ k, ms r k ≤ n) : sumW (wt i r) (allOf r) ≤ 4 + 4 * n := by
  obtain ⟨a, b, _, _, hab, _, _, e⟩ := all_two hid hi
  unfold allOf
  rw [e]
  show wt i r (entriesOf r a) + (wt i r (entriesOf r b) + 0) ≤ _
  have h1 := lead_wt hid hr (hn a)
  have h2 := lead_wt hid hr (hn b)
  omega

/-- the middle is elected -/
theorem FI.atI2 {i : Nat} {T Mx : Int} {t0 : Nat → Int} {ld : Nat → Prop} {C : Cl} {m : MsgR} {rest : List MsgR} (h : FI i T Mx t0 ld C) (he : C.sent = m :: rest) (hi : i < 3) {j : Nat} (hj : j < 3) (hji : j ≠ i) (hq : Rsp i T (C.nd i).rep (C.nd j).rep m j) {r' : Rep}
    (hC : arriveC C 0 false = setN C i r' (rest ++ allOf r')) (hk : m.kind = 1) (hmt : m.term ≤ (C.nd i).rep.term) (hr1 : (C.nd i).rep.role = 1) (hidi : (C.nd i).rep.id = i) (ht : r'.term = (C.nd i).rep.term) (hid : r'.id = (C.nd i).rep.id) (hlog : r'.log = (C.nd i).rep.log) (hr0 : r'.role = 2) (hn : ∀ k, r'.next k = (C.nd i).rep.log.length + 1) (hm : ∀ k, r'.mat k = 0) :
    FI i T Mx t0 ld (arriveC C 0 false) ∧ mu i (arriveC C 0 false) < mu i C := by
  have hlen := h.len
  have hpw := h.pw
  have hmem : ∀ x ∈ rest, x ∈ C.sent := fun x hx => by rw [he]; exact List.mem_cons_of_mem _ hx
  have hna := fun x hx => h.noapp hr1 x (hmem x hx)
  have hidr : r'.id = i := by rw [hid, hidi]
  rw [he] at hlen hpw
  rw [hr1, if_pos rfl] at hlen
  have hal := all_len r'
  refine h.atI he hi hj hji hq hC (by rw [ht]; omega) hid hlog (fun hr => by rw [ht]; exact h.ti (by rw [hr1]; decide)) ?_ (fun hr x hx hx2 k hk => by have := hna x hx; omega) (fun a ha => ⟨hr0, (all_mem hidr hi).1 ha⟩) ?_ (fun hr => by rw [hr0] at hr; cases hr) (fun hr f => by rw [hn, hm]; omega) (fun hr k hk hki => .inr ⟨entriesOf r' k, List.mem_append_right _ ((all_mem hidr hi).2 ⟨k, hk, hki, rfl⟩), by show (2 : Int) ≤ 2; decide, peer_ent hidr k⟩) ?_
  · rw [List.length_append, hr0, if_neg (by decide)]
    rw [List.length_cons] at hlen
    omega
  · rw [List.pairwise_append]
    refine ⟨(List.pairwise_cons.1 hpw).2, all_pw hidr hi, fun x hx y hy => ?_⟩
    obtain ⟨k, _, _, rfl⟩ := (all_mem hidr hi).1 hy
    have := hna x hx
    intro hh
    have h1 := hh.1
    have h2 : (entriesOf r' k).kind = 2 := rfl
    omega
  · unfold mu
    rw [he, hr0, hr1, if_neg (by decide), if_pos rfl, sum_app]
    show 0 + (sumW (wt i r') rest + sumW (wt i r') (allOf r')) < _ + (wt i (C.nd i).rep m + sumW (wt i (C.nd i).rep) rest)
    have h1 := wt_pos i (C.nd i).rep m
    have h2 : sumW (wt i r') rest ≤ sumW (wt i (C.nd i).rep) rest := sum_le fun x hx => by
      have := hna x hx
      unfold wt
      rw [if_neg (by omega)]
      omega
    have h3 := all_wt hidr hi hr0 (n := 2 * (C.nd i).rep.log.length) fun k => by
      unfold ms
      rw [hn, hm, hlog]
      omega
    omega

/-- the middle leads, and hears of entries -/
theorem FI.atI3 {i : Nat} {T Mx : Int} {t0 : Nat → Int} {ld : Nat → Prop} {C : Cl} {m : MsgR} {rest : List MsgR} (h : FI i T Mx t0 ld C) (he : C.sent = m :: rest) (hi : i < 3) {j : Nat} (hj : j < 3) (hji : j ≠ i) (hq : Rsp i T (C.nd i).rep (C.nd j).rep m j) {r' : Rep} {send : List MsgR}
    (hC : arriveC C 0 false = setN C i r' (rest ++ send)) (hk : m.kind = 3) (hmt : m.term ≤ (C.nd i).rep.term) (hr1 : (C.nd i).rep.role = 2) (hidi : (C.nd i).rep.id = i) (ht : r'.term = (C.nd i).rep.term) (hid : r'.id = (C.nd i).rep.id) (hlog : r'.log = (C.nd i).rep.log) (hr0 : r'.role = 2)
    (hn : ∀ k, k ≠ j → r'.next k = (C.nd i).rep.next k ∧ r'.mat k = (C.nd i).rep.mat k) (hnj : r'.mat j + 1 ≤ r'.next j)
    (hs : (send = [entriesOf r' j] ∧ ms r' j + 1 ≤ ms (C.nd i).rep j) ∨ (send = [] ∧ r'.mat j = (C.nd i).rep.log.length ∧ r'.next j = (C.nd i).rep.log.length + 1)) :
    FI i T Mx t0 ld (arriveC C 0 false) ∧ mu i (arriveC C 0 false) < mu i C := by
  have hlen := h.len
  have hpw := h.pw
  have hpm : peerZ i m = j := peer_src hq.2.1 hji
  have hidr : r'.id = i := by rw [hid, hidi]
  rw [he] at hlen hpw
  obtain ⟨hp1, hp2⟩ := List.pairwise_cons.1 hpw
  have hne : ∀ x ∈ rest, 2 ≤ x.kind → peerZ i x ≠ j := fun x hx hx2 e => hp1 x hx ⟨by omega, by rw [hpm, e]⟩
  rw [hr1, if_neg (by decide), List.length_cons] at hlen
  refine h.atI he hi hj hji hq hC (by rw [ht]; omega) hid hlog (fun hr => by rw [ht]; exact h.ti (by rw [hr1]; decide)) ?_ (fun hr x hx hx2 k hk => ?_) (fun a ha => ⟨hr0, j, hj, hji, ?_⟩) ?_ (fun hr => by rw [hr0] at hr; cases hr) (fun hr f => ?_) (fun hr k hk hki => ?_) ?_
  · rw [List.length_append, hr0, if_neg (by decide)]
    rcases hs with ⟨e, _⟩ | ⟨e, _⟩ <;> rw [e] <;> simp only [List.length_nil, List.length_cons] <;> omega
  · have hkj : k ≠ j := fun e => hne x hx hx2 (by rw [hk, e])
    exact ⟨hr1, (hn k hkj).1, (hn k hkj).2⟩
  · rcases hs with ⟨e, _⟩ | ⟨e, _⟩
    · rw [e] at ha
      exact List.mem_singleton.1 ha
    · rw [e] at ha
      cases ha
  · rw [List.pairwise_append]
    rcases hs with ⟨e, _⟩ | ⟨e, _⟩
    · rw [e]
      refine ⟨hp2, List.pairwise_singleton _ _, fun x hx y hy => ?_⟩
      rw [List.mem_singleton.1 hy]
      intro hh
      have h1 := hh.1
      have h2 := hh.2
      rw [peer_ent hidr] at h2
      have h3 : (entriesOf r' j).kind = 2 := rfl
      exact hne x hx (by omega) h2
    · rw [e]
      exact ⟨hp2, List.Pairwise.nil, fun _ _ _ h => by cases h⟩
  · by_cases hf : f = j
    · rw [hf]
      exact hnj
    · rw [(hn f hf).1, (hn f hf).2]
      exact h.nx hr1 f
  · by_cases hkj : k = j
    · subst hkj
      rcases hs with ⟨e, _⟩ | ⟨e, e1, e2⟩
      · exact .inr ⟨entriesOf r' k, by rw [e]; simp, by show (2 : Int) ≤ 2; decide, peer_ent hidr k⟩
      · exact .inl ⟨by rw [e1, hlog], by rw [e2, hlog]⟩
    · rw [(hn k hkj).1, (hn k hkj).2, hlog]
      rcases h.goal hr1 k hk hki with e | ⟨x, hx, e1, e2⟩
      · exact .inl e
      · rw [he] at hx
        rcases List.mem_cons.1 hx with rfl | hx
        · rw [hpm] at e2
          omega
        · exact .inr ⟨x, List.mem_append_left _ hx, e1, e2⟩
  · unfold mu
    rw [he, hr0, hr1, if_neg (by decide), sum_app]
    show 0 + (sumW (wt i r') rest + sumW (wt i r') send) < 0 + (wt i (C.nd i).rep m + sumW (wt i (C.nd i).rep) rest)
    have h2 : sumW (wt i r') rest ≤ sumW (wt i (C.nd i).rep) rest := sum_le fun x hx => by
      unfold wt
      rw [hr0, hr1]
      by_cases hx2 : 2 ≤ x.kind
      · obtain ⟨k, hk3, hki, hkk⟩ := h.msg x (by rw [he]; exact List.mem_cons_of_mem _ hx)
        have hpk : peerZ i x = k := by
          rcases hkk with hkk | hkk
          · rw [peer_to hkk.2.1, hkk.1.to]
          · exact peer_src hkk.2.1 hki
        have hkj : k ≠ j := fun e => hne x hx hx2 (by rw [hpk, e])
        unfold ms
        rw [hpk, Int.toNat_natCast, hlog, (hn k hkj).1, (hn k hkj).2]
        exact Nat.le_refl _
      · rw [if_neg (fun hh => hx2 hh.2), if_neg (fun hh => hx2 hh.2)]
        exact Nat.le_refl _
    have h1 : sumW (wt i r') send < wt i (C.nd i).rep m := by
      have hb : base m = 1 := by unfold base; rw [if_neg (by omega)]
      rcases hs with ⟨e, e1⟩ | ⟨e, _⟩
      · rw [e]
        show wt i r' (entriesOf r' j) + 0 < _
        have h3 := lead_wt hidr hr0 (Nat.le_refl (ms r' j))
        have h4 : wt i (C.nd i).rep m = 1 + 2 * ms (C.nd i).rep j := by
          unfold wt
          rw [if_pos ⟨hr1, by omega⟩, hb, hpm, Int.toNat_natCast]
        omega
      · rw [e]
        exact wt_pos i _ m
    omega

end Go.Proofs.Ytifgijoeckoojaa
end

/-
  Liveness, plain: what entries meet with; each arrival.
-/
section
set_option linter.unusedVariables false
set_option linter.unusedSimpArgs false
namespace Go.Proofs.Ytifgijoeckoojaa
open Go.Vc

theorem termAt_take {l : List RecD} {n : Nat} (h : n ≤ l.length) : termAt (l.take n) n = termAt l n := by
  cases n with
  | zero => rfl
  | succ n =>
    rw [termAt_succ (show n < l.length by omega), termAt_succ (show n < (l.take (n + 1)).length by rw [List.length_take]; omega), List.getElem_take]

/-- what is surely there, a leader has -/
theorem SInv.sure_led {C : Cl} {g : Gh} {A : Int → Nat → Nat} (h : SInv C g A) {s u : Int} {l : List RecD} {n : Nat} (h1 : Sure g A s l n) (hsu : s ≤ u) (hu : g.ld u ≠ -1) : n ≤ (g.LL u).length ∧ (g.LL u).take n = l.take n := by
  rcases h1 with e | ⟨t, p, c1, k0, k1, q1⟩
  · subst e
    simp
  · rcases Int.lt_or_eq_of_le (show t ≤ u by omega) with hlt | heq
    · have q := h.later_has c1 hlt hu
      exact ⟨by have := q.1; omega, by rw [has_take q k1, q1.2]⟩
    · subst heq
      exact ⟨Nat.le_trans k1 c1.1.2.1, q1.2.symm⟩

/-- another replica, no further than the leader's term, has what the leader knows of -/
theorem SInv.has_mat {C : Cl} {g : Gh} {A : Int → Nat → Nat} (h : SInv C g A) {i j : Nat} (hi : i < 3) (hj : j < 3) (hji : j ≠ i) (hr : (C.nd i).rep.role = 2) (ht : (C.nd j).rep.term ≤ (C.nd i).rep.term) :
    (C.nd i).rep.mat j ≤ (C.nd j).rep.log.length ∧ (C.nd j).rep.log.take ((C.nd i).rep.mat j) = (C.nd i).rep.log.take ((C.nd i).rep.mat j) := by
  rcases Nat.eq_zero_or_pos ((C.nd i).rep.mat j) with h0 | h0
  · rw [h0]
    simp
  · have hL := (h.m.lead i hi hr).2
    rcases h.ia (C.nd i).rep.term j ((C.nd i).rep.mat j) hj h0 (h.im i hi hr j hj hji) with hh | ⟨u, h1, h2, _⟩
    · rw [← hL]
      exact hh
    · omega

/-- entries that follow what is known to be there are taken -/
theorem SInv.no_gap {C : Cl} {g : Gh} {A : Int → Nat → Nat} (h : SInv C g A) {i j : Nat} (hi : i < 3) (hj : j < 3) (hji : j ≠ i) (hr : (C.nd i).rep.role = 2) (ht : (C.nd j).rep.term ≤ (C.nd i).rep.term) (hn : (C.nd i).rep.next j = (C.nd i).rep.mat j + 1) :
    (decide ((((C.nd j).rep.log.length : Nat) : Int) < (entriesOf (C.nd i).rep j).index) || decide (termAt (C.nd j).rep.log (entriesOf (C.nd i).rep j).index.toNat ≠ (entriesOf (C.nd i).rep j).prev)) = false := by
  obtain ⟨h1, h2⟩ := h.has_mat hi hj hji hr ht
  have hm := ((h.m.wf.rep i hi).1.ok.next hr j).2.2
  have e1 : (entriesOf (C.nd i).rep j).index = (((C.nd i).rep.mat j : Nat) : Int) := by
    show ((((C.nd i).rep.next j - 1 : Nat)) : Int) = _
    rw [hn]
    rfl
  have e2 : (entriesOf (C.nd i).rep j).prev = termAt (C.nd i).rep.log ((C.nd i).rep.mat j) := by
    show termAt (C.nd i).rep.log ((C.nd i).rep.next j - 1) = _
    rw [hn]
    rfl
  rw [e1, e2, Int.toNat_natCast, Bool.or_eq_false_iff]
  refine ⟨decide_eq_false (by omega), decide_eq_false ?_⟩
  intro hne
  apply hne
  rw [← termAt_take h1, ← termAt_take hm, h2]

/-- a leader's entries do not clash with what is committed -/
theorem SInv.no_clash {C : Cl} {g : Gh} {A : Int → Nat → Nat} (h : SInv C g A) {i j : Nat} (hi : i < 3) (hj : j < 3) (hr : (C.nd i).rep.role = 2) (ht : (C.nd j).rep.term ≤ (C.nd i).rep.term) {ix : Nat} {recs : List RecD} (hrec : recs = ((C.nd i).rep.log.drop ix).take recs.length)
    (h4 : agree ((C.nd j).rep.log.drop ix) recs < recs.length) (h5 : ix + agree ((C.nd j).rep.log.drop ix) recs + 1 ≤ (C.nd j).rep.commit) : False := by
  obtain ⟨hld, hLL⟩ := h.m.lead i hi hr
  have hc := h.sure_led (h.co j hj) ht (by rw [hld]; omega)
  rw [hLL] at hc
  obtain ⟨c1, c2⟩ := hc
  have hcj := (h.m.wf.rep j hj).1.ok.commit
  obtain ⟨k, hk⟩ : ∃ k, agree ((C.nd j).rep.log.drop ix) recs = k := ⟨_, rfl⟩
  have hmax := agree_max ((C.nd j).rep.log.drop ix) recs h4
  rw [hk] at h4 h5 hmax
  have e1 : (C.nd j).rep.log[ix + k]? = (C.nd i).rep.log[ix + k]? := by
    have := congrArg (fun l => l[ix + k]?) c2
    simp only [List.getElem?_take_of_lt (show ix + k < (C.nd j).rep.commit by omega)] at this
    exact this.symm
  have hx : ix + k < (C.nd j).rep.log.length := by omega
  have hy : recs[k]? = (C.nd i).rep.log[ix + k]? := by
    rw [hrec, List.getElem?_take_of_lt h4, List.getElem?_drop]
  obtain ⟨x, hx2⟩ : ∃ x, (C.nd j).rep.log[ix + k]? = some x := ⟨_, List.getElem?_eq_getElem hx⟩
  exact hmax x x (by rw [List.getElem?_drop]; exact hx2) (by rw [hy, ← e1]; exact hx2) rfl

theorem turn_role {r : Rep} {m : MsgR} (h : (turnR r m).role = 2) : r.role = 2 := by
  unfold turnR at h
  split at h
  · cases (show (0 : Int) = 2 from h)
  · exact h

theorem hear0 {r : Rep} {m : MsgR} (h : m.kind = 0) : hearX r m = voteP r m := if_pos h
theorem hear1 {r : Rep} {m : MsgR} (h : m.kind = 1) : hearX r m = votedP r m := by unfold hearX; rw [if_neg (by omega), if_pos h]
theorem hear2 {r : Rep} {m : MsgR} (h : m.kind = 2) : hearX r m = appendP r m := by unfold hearX; rw [if_neg (by omega), if_neg (by omega), if_pos h]
theorem hear3 {r : Rep} {m : MsgR} (h : m.kind = 3) : hearX r m = appendedP r m := by unfold hearX; rw [if_neg (by omega), if_neg (by omega), if_neg (by omega)]

theorem vote_out (r : Rep) (m : MsgR) : ∃ y, (voteP r m).2.send = [⟨1, r.id, m.src, r.term, 0, 0, 0, y, []⟩] ∧ (y = true ↔ (m.term = r.term ∧ (r.vote = -1 ∨ r.vote = m.src) ∧ freshP r m = true)) := by
  unfold voteP
  split
  · rename_i h
    simp only [Bool.and_eq_true, Bool.or_eq_true, decide_eq_true_eq] at h
    exact ⟨true, rfl, fun _ => ⟨h.1.1, h.1.2, h.2⟩, fun _ => rfl⟩
  · rename_i h
    simp only [Bool.and_eq_true, Bool.or_eq_true, decide_eq_true_eq] at h
    exact ⟨false, rfl, fun h => (by cases h), fun hh => absurd ⟨⟨hh.1, hh.2.1⟩, hh.2.2⟩ h⟩

set_option maxHeartbeats 1000000 in
theorem FI.step {i : Nat} {T Mx : Int} {t0 : Nat → Int} {ld : Nat → Prop} {C : Cl} {m : MsgR} {rest : List MsgR} (h : FI i T Mx t0 ld C) (he : C.sent = m :: rest) (hi : i < 3) : FI i T Mx t0 ld (arriveC C 0 false) ∧ mu i (arriveC C 0 false) < mu i C := by
  obtain ⟨g, A, hs⟩ := h.inv
  have hw := hs.m.wf
  have hm0 : m ∈ C.sent := by rw [he]; simp
  have hlen := h.len
  have hl : rest.length ≤ 298 := by rw [he, List.length_cons] at hlen; omega
  obtain ⟨j, hj, hji, hq | hq⟩ := h.msg m hm0
  · have hC := arrive_head hw h.stop he hj hq.1.to hl
    obtain ⟨hwj, hidj⟩ := hw.rep j hj
    have hright : m.Right (C.nd j).rep.id := by rw [hidj]; exact hq.1
    obtain ⟨e1, e2⟩ := hear_out hright
    rw [e1, e2] at hC
    obtain ⟨t1, t2, t3, t4, t5, t6⟩ := turn_same (C.nd j).rep m
    have t7 := turn_term (C.nd j).rep m
    have hw1 := turn_wf hwj hright
    have hidr : (turnR (C.nd j).rep m).id = j := by rw [t1, hidj]
    have h1t : 1 ≤ (turnR (C.nd j).rep m).term := by rw [t7]; have := hq.1.term.1; omega
    have hMt := hw1.ok.termM
    have hmT := hq.2.2.1
    have hsrc := hq.2.1
    rcases hq.2.2.2 with hk | ⟨hk, hen⟩
    · rw [hear0 hk] at hC
      obtain ⟨y, ey, _⟩ := vote_out (turnR (C.nd j).rep m) m
      have hvt := (vote_wf hw1 (m := m) hright.src.2).2.2.1
      refine h.atJ he hi hj hji hq hC (by rw [hvt, t7, hmT]) (fun hr => turn_role (by rw [← (voteP_same (turnR (C.nd j).rep m) m).1.1]; exact hr)) (.inr ⟨_, ey, ?_, ?_, ?_, ?_, fun h => by omega⟩)
      · rw [hidr, hsrc]
        exact bare_right (id := j) (to := i) (kind := 1) hj hi hji (by decide) h1t hMt (by decide) (by decide) y
      · show (((turnR (C.nd j).rep m).id : Nat) : Int) = j
        rw [hidr]
      · exact hvt.symm
      · show (1 : Int) = _
        omega
    · rw [hear2 hk] at hC
      have hat := (append_wf hw1 (by rw [hidr]; exact hq.1) (by rw [t7]; omega)).2.2.1
      by_cases h1 : m.term < (turnR (C.nd j).rep m).term
      · rw [append_old h1] at hC hat
        refine h.atJ he hi hj hji hq hC (by rw [t7, hmT]) turn_role (.inr ⟨_, rfl, ?_, ?_, rfl, ?_, fun _ _ ht => ?_⟩)
        · unfold msgOf
          rw [hidr, hsrc]
          exact bare_right (id := j) (to := i) (kind := 3) hj hi hji (by decide) h1t hMt (by decide) (by decide) false
        · show (((turnR (C.nd j).rep m).id : Nat) : Int) = j
          rw [hidr]
        · show (3 : Int) = _
          omega
        · exfalso
          have ht : (turnR (C.nd j).rep m).term = T := ht
          omega
      have hjT : (C.nd j).rep.term ≤ T := by omega
      have hrT : (turnR (C.nd j).rep m).term = T := by omega
      by_cases h2 : (turnR (C.nd j).rep m).role = 2
      · rw [append_lead h1 h2] at hC hat
        refine h.atJ he hi hj hji hq hC (by rw [t7, hmT]) turn_role (.inl ⟨rfl, hk, hjT, fun hri => ?_⟩)
        have hti := h.ti (by rw [hri]; decide)
        by_cases hup : (C.nd j).rep.term < m.term
        · rw [turn_up hup] at h2
          cases (show (0 : Int) = 2 from h2)
        · rw [turn_id hup] at h2 hrT
          have a1 := (hs.m.lead j hj h2).1
          have a2 := (hs.m.lead i hi hri).1
          rw [hrT] at a1
          rw [hti, a1] at a2
          omega
      by_cases h3 : (decide (((turnR (C.nd j).rep m).log.length : Int) < m.index) || decide (termAt (turnR (C.nd j).rep m).log m.index.toNat ≠ m.prev)) = true
      · rw [append_gap h1 h2 h3] at hC hat
        have hix : 1 ≤ m.index := Decidable.byContradiction fun hn => by
          have hz : m.index = 0 := by have := hq.1.index.1; omega
          have hp := hq.1.zero hz
          rw [hz, hp] at h3
          simp only [Bool.or_eq_true, decide_eq_true_eq] at h3
          rcases h3 with h3 | h3
          · omega
          · exact h3 rfl
        have hi4 := hq.1.index.2
        refine h.atJ he hi hj hji hq hC (by show (turnR (C.nd j).rep m).term = _; rw [t7, hmT]) (fun hr => by cases (show (0 : Int) = 2 from hr)) (.inr ⟨_, rfl, ?_, ?_, rfl, ?_, fun _ hri ht => ⟨fun hy => (by cases hy), fun _ => ?_⟩⟩)
        · unfold nackOf
          rw [hidr, hsrc]
          exact bare_right (id := j) (to := i) (kind := 3) hj hi hji (by decide) h1t hMt (by omega) (by omega) false
        · show (((turnR (C.nd j).rep m).id : Nat) : Int) = j
          rw [hidr]
        · show (3 : Int) = _
          omega
        · obtain ⟨c, _, hmc⟩ := hen hri
          have hti := h.ti (by rw [hri]; decide)
          have hnx := h.nx hri j
          have hin : m.index = (((C.nd i).rep.next j - 1 : Nat) : Int) := by rw [hmc]; rfl
          refine ⟨?_, Decidable.byContradiction fun hn => ?_⟩
          · show min ((turnR (C.nd j).rep m).log.length : Int) (m.index - 1) + 2 ≤ _
            omega
          · have hng := hs.no_gap hi hj hji hri (by omega) (show (C.nd i).rep.next j = (C.nd i).rep.mat j + 1 by omega)
            rw [t2, hmc] at h3
            rw [show (({ entriesOf (C.nd i).rep j with commit := (c : Int) } : MsgR)).index = (entriesOf (C.nd i).rep j).index from rfl, show (({ entriesOf (C.nd i).rep j with commit := (c : Int) } : MsgR)).prev = (entriesOf (C.nd i).rep j).prev from rfl, hng] at h3
            cases h3
      have h3 : (decide (((turnR (C.nd j).rep m).log.length : Int) < m.index) || decide (termAt (turnR (C.nd j).rep m).log m.index.toNat ≠ m.prev)) = false := by simpa using h3
      have hack : (ackOf (turnR (C.nd j).rep m) m).Right i ∧ (ackOf (turnR (C.nd j).rep m) m).src = (j : Nat) ∧ (ackOf (turnR (C.nd j).rep m) m).kind = m.kind + 1 ∧ (m.kind = 2 → (C.nd i).rep.role = 2 → (ackOf (turnR (C.nd j).rep m) m).term = T → BackOk (C.nd i).rep j (ackOf (turnR (C.nd j).rep m) m)) := by
        refine ⟨?_, ?_, ?_, fun _ hri _ => ⟨fun _ => ?_, fun hy => (by cases hy)⟩⟩
        · unfold ackOf
          rw [hidr, hsrc]
          have h5 := hq.1.index.1
          have h6 := hq.1.fits
          exact bare_right (id := j) (to := i) (kind := 3) hj hi hji (by decide) h1t hMt (by omega) h6 true
        · show (((turnR (C.nd j).rep m).id : Nat) : Int) = j
          rw [hidr]
        · show (3 : Int) = _
          omega
        · obtain ⟨c, _, hmc⟩ := hen hri
          show m.index + (m.recs.length : Int) = _
          rw [hmc]
          show ((((C.nd i).rep.next j - 1 : Nat)) : Int) + ((((C.nd i).rep.log.drop ((C.nd i).rep.next j - 1)).take 8).length : Int) = _
          omega
      obtain ⟨k1, k2, k3, k4⟩ := hack
      by_cases h4 : appK (turnR (C.nd j).rep m) m < m.recs.length
      · by_cases h5 : m.index.toNat + appK (turnR (C.nd j).rep m) m + 1 ≤ (turnR (C.nd j).rep m).commit
        · rw [append_done h1 h2 h3 h4 h5] at hC hat
          refine h.atJ he hi hj hji hq hC (by show (turnR (C.nd j).rep m).term = _; rw [t7, hmT]) (fun hr => by cases (show (0 : Int) = 2 from hr)) (.inl ⟨rfl, hk, hjT, fun hri => ?_⟩)
          obtain ⟨c, _, hmc⟩ := hen hri
          have hti := h.ti (by rw [hri]; decide)
          unfold appK at h4 h5
          rw [t2] at h4 h5
          rw [t3] at h5
          refine hs.no_clash hi hj hri (by omega) ?_ h4 h5
          rw [hmc]
          show ((C.nd i).rep.log.drop ((C.nd i).rep.next j - 1)).take 8 = ((C.nd i).rep.log.drop ((((C.nd i).rep.next j - 1 : Nat)) : Int).toNat).take (((C.nd i).rep.log.drop ((C.nd i).rep.next j - 1)).take 8).length
          rw [Int.toNat_natCast, List.length_take, ← List.take_take, List.take_length]
        · rw [append_new h1 h2 h3 h4 h5] at hC hat
          exact h.atJ he hi hj hji hq hC (by rw [hat, t7, hmT]) (fun hr => by cases (show (0 : Int) = 2 from hr)) (.inr ⟨_, rfl, k1, k2, rfl, k3, k4⟩)
      · rw [append_same h1 h2 h3 h4] at hC hat
        exact h.atJ he hi hj hji hq hC (by rw [hat, t7, hmT]) (fun hr => by cases (show (0 : Int) = 2 from hr)) (.inr ⟨_, rfl, k1, k2, rfl, k3, k4⟩)
  · have hC := arrive_head hw h.stop he hi hq.1.to hl
    obtain ⟨hwi, hidi⟩ := hw.rep i hi
    have hright : m.Right (C.nd i).rep.id := by rw [hidi]; exact hq.1
    obtain ⟨e1, e2⟩ := hear_out hright
    rw [e1, e2] at hC
    have hsn : m.src.toNat = j := by rw [hq.2.1, Int.toNat_natCast]
    have hT := hq.2.2.2.1
    by_cases hup : (C.nd i).rep.term < m.term
    · rw [turn_up hup] at hC
      have hu : (hearX (upR (C.nd i).rep m) m) = (upR (C.nd i).rep m, out0) := by
        rcases hq.2.2.2.2 with hk | ⟨hk, _⟩
        · rw [hear1 hk, voted_no (by simp [upR])]
        · rw [hear3 hk, appended_no (by simp [upR])]
      rw [hu] at hC
      exact h.atI0 he hi hj hji hq hC (by show m.term = _; omega) rfl rfl rfl
    rw [turn_id hup] at hC
    rcases hq.2.2.2.2 with hk | ⟨hk, hb⟩
    · rw [hear1 hk] at hC
      by_cases hc : (decide ((C.nd i).rep.role ≠ 1) || decide (m.term ≠ (C.nd i).rep.term) || !m.yes) = true
      · rw [voted_no hc] at hC
        exact h.atI1 he hi hj hji hq hC hk (by omega) rfl rfl rfl rfl rfl rfl
      have hc : (decide ((C.nd i).rep.role ≠ 1) || decide (m.term ≠ (C.nd i).rep.term) || !m.yes) = false := by simpa using hc
      by_cases h2 : countV (voteR (C.nd i).rep m).votes < 2
      · rw [voted_few hc h2] at hC
        exact h.atI1 he hi hj hji hq hC hk (by omega) rfl rfl rfl rfl rfl rfl
      · rw [voted_lead hc h2] at hC
        have hr1 : (C.nd i).rep.role = 1 := by simp only [Bool.or_eq_false_iff, decide_eq_false_iff_not] at hc; exact Decidable.not_not.1 hc.1.1
        exact h.atI2 he hi hj hji hq hC hk (by omega) hr1 hidi rfl rfl rfl rfl (fun _ => rfl) (fun _ => rfl)
    · rw [hear3 hk] at hC
      rcases hwi.ok.role with hr | hr | hr
      · rw [appended_no (by rw [hr]; simp)] at hC
        exact h.atI0 he hi hj hji hq hC (by show (C.nd i).rep.term = _; omega) rfl rfl hr
      · have := h.noapp hr m hm0
        omega
      · have hti := h.ti (by rw [hr]; decide)
        have hmT : m.term = T := by omega
        obtain ⟨b1, b2⟩ := hb hr hmT
        have hnx := h.nx hr j
        obtain ⟨n1, n2, n3⟩ := hwi.ok.next hr j
        cases hy : m.yes with
        | false =>
          obtain ⟨b3, b4⟩ := b2 hy
          have hc : (decide ((C.nd i).rep.role ≠ 2) || decide (m.term ≠ (C.nd i).rep.term) || m.yes && decide (((C.nd i).rep.log.length : Int) < m.index)) = false := by rw [hr, hy, hmT, hti]; simp
          rw [appended_back hc hy] at hC
          have hself : (backR (C.nd i).rep m).next j = max ((C.nd i).rep.mat j + 1) (min ((C.nd i).rep.next j - 1) (m.index.toNat + 1)) := by
            unfold backR
            rw [hsn]
            exact put_self _ _ _
          rw [hsn] at hC
          have hi0 := hq.1.index.1
          refine h.atI3 he hi hj hji hq hC hk (by omega) hr hidi rfl rfl rfl hr (fun k hkj => ⟨?_, rfl⟩) (by rw [hself]; show (C.nd i).rep.mat j + 1 ≤ _; omega) (.inl ⟨rfl, ?_⟩)
          · unfold backR
            rw [hsn]
            exact put_ne _ _ hkj
          · unfold ms
            rw [hself]
            show ((C.nd i).rep.log.length - (C.nd i).rep.mat j) + (max ((C.nd i).rep.mat j + 1) (min ((C.nd i).rep.next j - 1) (m.index.toNat + 1)) - 1 - (C.nd i).rep.mat j) + 1 ≤ _
            omega
        | true =>
          have b3 := b1 hy
          rw [List.length_take, List.length_drop] at b3
          have hc : (decide ((C.nd i).rep.role ≠ 2) || decide (m.term ≠ (C.nd i).rep.term) || m.yes && decide (((C.nd i).rep.log.length : Int) < m.index)) = false := by
            rw [hr, hy, hmT, hti, decide_eq_false (show ¬ ((C.nd i).rep.log.length : Int) < m.index by omega)]
            simp
          rw [appended_fwd hc hy] at hC
          rw [hsn] at hC
          obtain ⟨a1, a2, a3, a4, a5, a6, a7⟩ := adv_eq (fwdR (C.nd i).rep m)
          have s1 : (advanceP (fwdR (C.nd i).rep m)).mat j = max ((C.nd i).rep.mat j) m.index.toNat := by
            rw [a4]
            unfold fwdR
            rw [hsn]
            exact put_self _ _ _
          have s2 : (advanceP (fwdR (C.nd i).rep m)).next j = max ((C.nd i).rep.mat j) m.index.toNat + 1 := by
            rw [a3]
            unfold fwdR
            rw [hsn]
            exact put_self _ _ _
          have s3 : ∀ k, k ≠ j → (advanceP (fwdR (C.nd i).rep m)).next k = (C.nd i).rep.next k ∧ (advanceP (fwdR (C.nd i).rep m)).mat k = (C.nd i).rep.mat k := fun k hkj => by
            rw [a3, a4]
            unfold fwdR
            rw [hsn]
            exact ⟨put_ne _ _ hkj, put_ne _ _ hkj⟩
          have a2 : (advanceP (fwdR (C.nd i).rep m)).log = (C.nd i).rep.log := a2
          by_cases hmore : max ((C.nd i).rep.mat j) m.index.toNat + 1 ≤ (C.nd i).rep.log.length
          · rw [if_pos hmore] at hC
            refine h.atI3 he hi hj hji hq hC hk (by omega) hr hidi a6 a5 a2 (by rw [a1]; exact hr) s3 (by rw [s1, s2]; exact Nat.le_refl _) (.inl ⟨rfl, ?_⟩)
            unfold ms
            rw [s1, s2, a2]
            omega
          · rw [if_neg hmore] at hC
            exact h.atI3 he hi hj hji hq hC hk (by omega) hr hidi a6 a5 a2 (by rw [a1]; exact hr) s3 (by rw [s1, s2]; exact Nat.le_refl _) (.inr ⟨rfl, by rw [s1]; omega, by rw [s2]; omega⟩)

/-- all messages arrive -/
theorem flow_ends {P : Cl → Prop} {i : Nat} (step : ∀ C m rest, P C → C.sent = m :: rest → P (arriveC C 0 false) ∧ mu i (arriveC C 0 false) < mu i C) : ∀ n C, P C → mu i C ≤ n → P (flowC n C) ∧ (flowC n C).sent = []
  | n, C, h, hn => by
    cases hs : C.sent with
    | nil =>
      cases n with
      | zero => exact ⟨h, hs⟩
      | succ n =>
        have : flowC (n + 1) C = C := by
          unfold flowC
          rw [if_pos (by rw [hs]; rfl)]
        rw [this]
        exact ⟨h, hs⟩
    | cons m rest =>
      obtain ⟨h1, h2⟩ := step C m rest h hs
      cases n with
      | zero => omega
      | succ n =>
        have : flowC (n + 1) C = flowC n (arriveC C 0 false) := by
          show (if C.sent.length = 0 then C else flowC n (arriveC C 0 false)) = _
          rw [if_neg (by rw [hs]; simp)]
        rw [this]
        exact flow_ends step n _ h1 (by omega)

end Go.Proofs.Ytifgijoeckoojaa
end

