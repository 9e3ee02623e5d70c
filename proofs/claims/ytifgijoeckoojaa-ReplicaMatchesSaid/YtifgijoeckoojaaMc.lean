/-
  Leaders and logs, plain: each call of a replica keeps the invariant.
-/
import Derived.Test.YtifgijoeckoojaaMb
set_option linter.unusedVariables false
set_option linter.unusedSimpArgs false
namespace Go.Proofs.Ytifgijoeckoojaa
open Go.Vc

theorem app_entries {LL : Int → List RecD} {r : Rep} (hL : LL r.term = r.log) {f : Nat} (h1 : 1 ≤ r.next f) (h2 : r.next f ≤ r.log.length + 1) : AppM LL (entriesOf r f) := by
  have e0 : (entriesOf r f).index.toNat = r.next f - 1 := Int.toNat_natCast _
  have e1 : (entriesOf r f).recs = (r.log.drop (r.next f - 1)).take 8 := rfl
  have e2 : (entriesOf r f).recs.length = min 8 (r.log.length - (r.next f - 1)) := by rw [e1, List.length_take, List.length_drop]
  refine ⟨Int.natCast_nonneg _, ?_, ?_, ?_⟩
  · rw [e0, e2, show (entriesOf r f).term = r.term from rfl, hL]; omega
  · rw [e0, e2, show (entriesOf r f).term = r.term from rfl, hL, e1]
    rw [List.take_eq_take_iff, List.length_drop]
    omega
  · rw [e0, show (entriesOf r f).term = r.term from rfl, hL]; rfl

theorem voteV_old {C : Cl} {g : Gh} (h : MInv C g) {i : Nat} (hi : i < 3) {r : Rep} (up : (C.nd i).rep.term ≤ r.term) (keep : (C.nd i).rep.term = r.term → (C.nd i).rep.vote ≠ -1 → r.vote = (C.nd i).rep.vote) {t : Int} {j : Nat} (hv : g.V t j ≠ -1) : voteV g.V i r.term r.vote t j = g.V t j := by
  by_cases hc : t = r.term ∧ j = i
  · obtain ⟨rfl, rfl⟩ := hc
    rw [voteV_self]
    rcases Int.lt_or_eq_of_le up with hlt | heq
    · exact absurd (h.later j hi r.term hlt) hv
    · have h1 := h.now j hi
      rw [heq] at h1
      rw [keep heq (by rw [← h1]; exact hv), ← h1]
  · exact voteV_ne _ _ hc

abbrev Gh.vote (g : Gh) (i : Nat) (r : Rep) : Gh := { g with V := voteV g.V i r.term r.vote }

theorem mfit_same {C : Cl} {g : Gh} (h : MInv C g) {i : Nat} (hi : i < 3) {r : Rep} (hr : (C.nd i).rep = r) {x : Rep × OutR} (hf : Fits r x.1 x.2) (hv : VFit r x)
    (cand : x.1.role = 1 → (∀ j, j < 3 → x.1.votes j = true → g.V x.1.term j = i) ∧ g.ld x.1.term ≠ i) (lead : x.1.role = 2 → g.ld x.1.term = i ∧ g.LL x.1.term = x.1.log) (log : Pre g.LL x.1.log)
    (app : ∀ m ∈ x.2.send, m.kind = 2 → AppM g.LL m) : MFit C g i x.1 x.2.send (g.vote i x.1) := by
  subst hr
  have hid := (h.wf.rep i hi).2
  refine ⟨rfl, hf.term, hv.keep, fun m hm hy => ?_, fun t => .inl rfl, Ext.refl _, fun t => .inl rfl, fun hr => ?_, lead, log, app⟩
  · obtain ⟨a, b⟩ := hv.yes m hm hy
    exact ⟨by rw [a, hid], b⟩
  · obtain ⟨a, b⟩ := cand hr
    exact ⟨fun j hj hvo => by
      have e := a j hj hvo
      show voteV g.V i x.1.term x.1.vote x.1.term j = i
      rw [voteV_old h hi hf.term hv.keep (by omega), e], b⟩

theorem all_app {LL : Int → List RecD} {r : Rep} (hL : LL r.term = r.log) (hn : ∀ f, 1 ≤ r.next f ∧ r.next f ≤ r.log.length + 1) : ∀ m ∈ allOf r, AppM LL m := fun m hm => by
  unfold allOf at hm
  obtain ⟨f, _, rfl⟩ := List.mem_map.1 hm
  exact app_entries hL (hn f).1 (hn f).2

theorem tick_m {C : Cl} {g : Gh} (h : MInv C g) {i : Nat} (hi : i < 3) : ∃ g', MFit C g i (tickP (C.nd i).rep).1 (tickP (C.nd i).rep).2.send g' := by
  obtain ⟨hw, hid⟩ := h.wf.rep i hi
  have hf := (tick_wf hw).2
  have hv := tick_v (C.nd i).rep
  have hc := h.cand i hi
  have hl := h.lead i hi
  have hg := h.log i hi
  have hnow := h.now i hi
  have hldt := h.ldt ((C.nd i).rep.term + 1)
  generalize hr : (C.nd i).rep = r at hw hid hf hv hc hl hg hnow hldt
  by_cases h2 : r.role = 2
  · have e : tickP r = (r, outS (allOf r)) := if_pos h2
    refine ⟨_, mfit_same h hi hr hf hv ?_ ?_ ?_ ?_⟩
    all_goals rw [e]
    · exact hc
    · exact hl
    · exact hg
    · exact fun m hm _ => all_app (hl h2).2 (fun f => ⟨(hw.ok.next h2 f).1, (hw.ok.next h2 f).2.1⟩) m hm
  by_cases h3 : r.term = 1099511627776
  · have e : tickP r = (r, out0) := by unfold tickP; rw [if_neg h2, if_pos h3]
    refine ⟨_, mfit_same h hi hr hf hv ?_ ?_ ?_ ?_⟩
    all_goals rw [e]
    · exact hc
    · exact hl
    · exact hg
    · exact fun m hm _ => by cases hm
  · have e : tickP r = ({ r with term := r.term + 1, vote := r.id, role := 1, votes := fun i => decide (i = r.id) }, ⟨true, r.term + 1, r.id, 0, [], (othersOf r.id).map fun k => askOf { r with term := r.term + 1, vote := r.id, role := 1, votes := fun i => decide (i = r.id) } k⟩) := by
      unfold tickP; rw [if_neg h2, if_neg h3]
    rw [e]
    refine ⟨g.vote i { r with term := r.term + 1, vote := r.id, role := 1, votes := fun i => decide (i = r.id) }, rfl, by rw [hr]; show r.term ≤ r.term + 1; omega, fun ht => ?_, fun m hm hy => ?_, fun t => .inl rfl, Ext.refl _, fun t => .inl rfl, fun _ => ⟨fun j hj hvo => ?_, ?_⟩, fun h0 => (by cases (show (1 : Int) = 2 from h0)), hg, fun m hm hk => ?_⟩
    · rw [hr] at ht
      have : r.term = r.term + 1 := ht
      omega
    · obtain ⟨k, _, rfl⟩ := List.mem_map.1 hm
      cases hy.1
    · have hj : j = r.id := of_decide_eq_true hvo
      show voteV g.V i (r.term + 1) r.id (r.term + 1) j = i
      rw [hj, hid, voteV_self]
    · intro hc2
      have hc2 : g.ld (r.term + 1) = i := hc2
      obtain ⟨j, hj, a1, a2⟩ := hldt (by omega)
      have : j = i := by omega
      subst this
      rw [hr] at a2
      omega
    · obtain ⟨k, _, rfl⟩ := List.mem_map.1 hm
      cases hk

theorem prop_m {C : Cl} {g : Gh} (h : MInv C g) {i : Nat} (hi : i < 3) (data : ByteArray) : ∃ g', MFit C g i (proposeP (C.nd i).rep data).1 (proposeP (C.nd i).rep data).2.2.2.send g' := by
  obtain ⟨hw, hid⟩ := h.wf.rep i hi
  have hf := prop_fits hw data
  have hv := prop_v (C.nd i).rep data
  have hc := h.cand i hi
  have hl := h.lead i hi
  have hg := h.log i hi
  generalize hr : (C.nd i).rep = r at hw hid hf hv hc hl hg
  have same : proposeP r data = (r, (proposeP r data).2.1, (proposeP r data).2.2.1, out0) → ∃ g', MFit C g i (proposeP r data).1 (proposeP r data).2.2.2.send g' := fun e => by
    rw [e]
    rw [e] at hf hv
    exact ⟨_, mfit_same (x := (r, out0)) h hi hr hf hv hc hl hg fun m hm _ => by cases hm⟩
  by_cases h2 : r.role = 2
  · by_cases h3 : 2000 < (data.size : Int)
    · exact same (by unfold proposeP; rw [if_neg (by simpa using h2), if_pos h3])
    by_cases h4 : r.log.length = 4000
    · exact same (by unfold proposeP; rw [if_neg (by simpa using h2), if_neg h3, if_pos h4])
    obtain ⟨x, hx⟩ : ∃ x : RecD, x = ⟨r.term, data⟩ := ⟨_, rfl⟩
    have hxt : x.term = r.term := by rw [hx]
    have e1 : (proposeP r data).1 = { r with log := r.log ++ [x] } := by unfold proposeP; rw [if_neg (by simpa using h2), if_neg h3, if_neg h4, hx]
    have e2 : (proposeP r data).2.2.2.send = allOf { r with log := r.log ++ [x] } := by unfold proposeP; rw [if_neg (by simpa using h2), if_neg h3, if_neg h4, hx]
    rw [e1, e2]
    obtain ⟨hl1, hl2⟩ := hl h2
    obtain ⟨LL', hLL⟩ : ∃ LL' : Int → List RecD, (fun t => if t = r.term then r.log ++ [x] else g.LL t) = LL' := ⟨_, rfl⟩
    have hL1 : LL' r.term = r.log ++ [x] := by rw [← hLL]; exact if_pos rfl
    have hL2 : ∀ t, t ≠ r.term → LL' t = g.LL t := fun t ht => by rw [← hLL]; exact if_neg ht
    have hext : Ext g.LL LL' := fun t => by
      by_cases ht : t = r.term
      · subst ht; exact ⟨[x], by rw [hL1, hl2]⟩
      · exact ⟨[], by rw [hL2 t ht, List.append_nil]⟩
    have hpre : Pre LL' (r.log ++ [x]) := fun p y hy => by
      rcases Nat.lt_or_ge p r.log.length with hp | hp
      · rw [List.getElem?_append_left hp] at hy
        rw [List.take_append_of_le_length (by omega)]
        exact pre_ext hext hg p y hy
      · rw [List.getElem?_append_right hp] at hy
        have hz : p - r.log.length = 0 := by
          have := (List.getElem?_eq_some_iff.1 hy).1
          simp at this; omega
        rw [hz] at hy
        have hy : x = y := by simpa using hy
        rw [← hy, hxt, hL1]
    refine ⟨⟨voteV g.V i r.term r.vote, g.ld, LL'⟩, rfl, by rw [hr]; exact Int.le_refl _, fun _ _ => by rw [hr], no_yes (by decide) (all_kind _), fun t => .inl rfl, hext, fun t => ?_, fun h1 => ?_, fun _ => ⟨hl1, hL1⟩, hpre, fun m hm _ => all_app (r := { r with log := r.log ++ [x] }) hL1 (fun f => ?_) m hm⟩
    · by_cases ht : t = r.term
      · subst ht; exact .inr ⟨hl1, by show Pre LL' (LL' r.term); rw [hL1]; exact hpre⟩
      · exact .inl (hL2 t ht)
    · have h1 : r.role = 1 := h1
      omega
    · have := hw.ok.next h2 f
      refine ⟨this.1, ?_⟩
      show r.next f ≤ (r.log ++ [x]).length + 1
      rw [List.length_append]
      omega
  · exact same (by unfold proposeP; rw [if_pos h2])

end Go.Proofs.Ytifgijoeckoojaa
