/-
  BoundsGrow: the plain law.
-/
import Derived.Test.YtflanndhfdfemaaWk
set_option linter.unusedVariables false
set_option linter.unusedSimpArgs false
namespace Go.Proofs.Ytflanndhfdfemaa
open Go.Vc

theorem timesI_min {a b : Int} (ha : 0 ≤ a) (hb : 0 ≤ b) : timesI a b = min (a * b) 1099511627776 := by
  unfold timesI
  split
  · rename_i h
    obtain ⟨h0, h1⟩ := h
    rw [Int.tdiv_eq_ediv_of_nonneg (by omega)] at h1
    have h2 := Int.lt_mul_ediv_self_add (x := 1099511627776) (k := a) (by omega)
    have h3 := Int.mul_le_mul_of_nonneg_left (show 1099511627776 / a + 1 ≤ b by omega) ha
    rw [Int.mul_add, Int.mul_one] at h3
    omega
  · rename_i h
    have h1 := (timesI_bd ha hb).2
    unfold timesI at h1
    rw [if_neg h] at h1
    omega

theorem timesI_mono {a a' b b' : Int} (ha : 0 ≤ a) (haa : a ≤ a') (hb : 0 ≤ b) (hbb : b ≤ b') : timesI a b ≤ timesI a' b' := by
  rw [timesI_min ha hb, timesI_min (by omega) (by omega)]
  have := Int.mul_le_mul haa hbb hb (by omega)
  omega

theorem plusI_mono {a a' b b' : Int} (ha : a ≤ a') (hb : b ≤ b') : plusI a b ≤ plusI a' b' := by unfold plusI; omega

structure BLe (y y' : BndD) : Prop where
  b : y.back = y'.back
  f : y.fore = y'.fore
  r : y.rate ≤ y'.rate
  s : y.state ≤ y'.state

structure CLe (c c' : CfgC) : Prop where
  p : c.parts ≤ c'.parts
  r : c.rate ≤ c'.rate
  s : c.span ≤ c'.span

theorem fold_mono {keeps : Bool} {span span' back : Int} (hs0 : 0 ≤ span) (hs : span ≤ span') (hb : 0 ≤ back) {acc acc' : List BndD} : ∀ (inp : List Int) (a a' : Int × Int × Int),
    (∀ i ∈ inp, BLe (acc.getD i.toNat default) (acc'.getD i.toNat default) ∧ (acc.getD i.toNat default).Ok) → a.1 = a'.1 → a.2.1 = a'.2.1 → a.2.2 ≤ a'.2.2 →
    ((insD inp acc).foldl (stepB keeps span back) a).1 = ((insD inp acc').foldl (stepB keeps span' back) a').1 ∧ ((insD inp acc).foldl (stepB keeps span back) a).2.1 = ((insD inp acc').foldl (stepB keeps span' back) a').2.1 ∧
    ((insD inp acc).foldl (stepB keeps span back) a).2.2 ≤ ((insD inp acc').foldl (stepB keeps span' back) a').2.2
  | [], a, a', _, h1, h2, h3 => ⟨h1, h2, h3⟩
  | i :: r, a, a', h, h1, h2, h3 => by
    obtain ⟨⟨k1, k2, k3, k4⟩, kb, kf, kr, ks⟩ := h i (by simp)
    simp only [insD, List.map_cons, List.foldl_cons]
    refine fold_mono hs0 hs hb r _ _ (fun j hj => h j (by simp [hj])) ?_ ?_ ?_
    · show max a.1 _ = max a'.1 _; rw [h1, k1]
    · show max a.2.1 _ = max a'.2.1 _; rw [h2, k2]
    · unfold stepB; simp only
      split
      · exact plusI_mono h3 (timesI_mono kr.1 k3 (by omega) (by omega))
      · exact h3

theorem rate_mono {x : NodeC} {inp : List Int} {acc acc' : List BndD} {c c' : CfgC} (hc : cfgB c = true) (hcc : CLe c c') (hb : boundedB x = true) (hk : (inp.length : Int) = kIn x.n0)
    (h : ∀ i ∈ inp, BLe (acc.getD i.toNat default) (acc'.getD i.toNat default) ∧ (acc.getD i.toNat default).Ok) : rateI x (insD inp acc) c ≤ rateI x (insD inp acc') c' := by
  obtain ⟨c1, c2, c3, c4⟩ := cfg_bd hc
  obtain ⟨d1, d2, d3⟩ := hcc
  have hkin : kIn x.n0 = if x.n0 = 0 then 0 else if x.n0 = 3 ∨ x.n0 = 6 ∨ x.n0 = 7 then 2 else 1 := rfl
  have at_ : ∀ q, q < inp.length → ((insD inp acc).getD q default).rate ≤ ((insD inp acc').getD q default).rate ∧ 0 ≤ ((insD inp acc).getD q default).rate := fun q hq => by
    have := h inp[q] (List.getElem_mem hq)
    rw [List.getD_eq_getElem?_getD, List.getD_eq_getElem?_getD, List.getElem?_eq_getElem (by simpa [insD] using hq), List.getElem?_eq_getElem (by simpa [insD] using hq)]
    simp only [insD, List.getElem_map, Option.getD_some]
    exact ⟨this.1.r, this.2.r.1⟩
  unfold rateI
  by_cases h0 : x.n0 = 0
  · rw [if_pos h0, if_pos h0]
    exact Int.mul_le_mul d1 d2 (by omega) (by omega)
  rw [if_neg h0, if_neg h0]
  rw [if_neg h0] at hkin
  by_cases hs3 : x.n0 = 3
  · rw [if_pos hs3, if_pos hs3]
    rw [if_pos (by omega)] at hkin
    exact plusI_mono (at_ 0 (by omega)).1 (at_ 1 (by omega)).1
  rw [if_neg hs3, if_neg hs3]
  by_cases hs4 : x.n0 = 4 ∨ x.n0 = 5
  · rw [if_pos hs4, if_pos hs4]
    rw [if_neg (by omega)] at hkin
    have r6 := bounded_n6 hb hs4
    exact timesI_mono (at_ 0 (by omega)).2 (at_ 0 (by omega)).1 (by omega) (Int.le_refl _)
  rw [if_neg hs4, if_neg hs4]
  by_cases hs6 : x.n0 = 6
  · rw [if_pos hs6, if_pos hs6]
    rw [if_pos (by omega)] at hkin
    have r6 := bounded_n10 hb hs6
    have a0 := at_ 0 (by omega)
    have a1 := at_ 1 (by omega)
    exact timesI_mono (timesI_bd a0.2 a1.2).1 (timesI_mono a0.2 a0.1 a1.2 a1.1) (by omega) (Int.le_refl _)
  rw [if_neg hs6, if_neg hs6]
  exact (at_ 0 (by split at hkin <;> omega)).1

theorem grow_law {l : List NodeD} {c c' : CfgC} {acc acc' : List BndD} (h : AnOk l c acc) (h' : AnOk l c' acc') (hcc : CLe c c') : ∀ j, j < l.length → BLe (acc.getD j default) (acc'.getD j default) := by
  intro j
  induction j using Nat.strongRecOn with
  | _ j ih =>
    intro hj
    have hi : ∀ i ∈ l[j].inp, BLe (acc.getD i.toNat default) (acc'.getD i.toNat default) ∧ (acc.getD i.toNat default).Ok := fun i hi => by
      have := h.ins hj i hi
      exact ⟨ih _ (by omega) (by omega), h.getOk _⟩
    have ho := own_bd (toC l[j])
    have hcb := cfg_bd h.cfg
    have hf := fold_mono (keeps := kKeeps (toC l[j]).n0) (by omega) hcc.s ho.1 l[j].inp (0, 0, 0) (0, 0, 0) hi rfl rfl (Int.le_refl _)
    have hr := rate_mono h.cfg hcc (h.bounded j hj) (by rw [← show (l[j].inp.length : Int) = kIn (toC l[j]).n0 from h.num hj]) hi
    rw [h.at hj, h'.at hj]
    refine ⟨?_, ?_, hr, hf.2.2⟩
    · show (foldI (toC l[j]) (insD l[j].inp acc) c).1 + _ = (foldI (toC l[j]) (insD l[j].inp acc') c').1 + _
      unfold foldI; rw [hf.1]
    · show (foldI (toC l[j]) (insD l[j].inp acc) c).2.1 + _ = (foldI (toC l[j]) (insD l[j].inp acc') c').2.1 + _
      unfold foldI; rw [hf.2.1]

theorem anFrom_pre (c : CfgC) : ∀ (r : List NodeD) (i : Nat) (acc res : List BndD), anFrom c i r acc = (res, -1, 0) → ∀ k, k ≤ r.length → anFrom c i (r.take k) acc = (res.take (acc.length + k), -1, 0)
  | r, i, acc, res, h, 0, _ => by
    rcases anFrom_cases c r i acc _ h with ⟨_, h2, _⟩ | ⟨_, _, h3, _⟩
    · simp at h2
    · simp only at h3
      rw [List.take_zero, Nat.add_zero, h3]
      rfl
  | [], i, acc, res, h, k + 1, hk => by simp at hk
  | x :: r, i, acc, res, h, k + 1, hk => by
    rw [List.take_succ_cons]
    unfold anFrom at h ⊢
    split at h
    · simp at h
    rename_i h1
    rw [if_neg h1]
    split at h
    · simp at h
    rename_i h2
    rw [if_neg h2]
    have := anFrom_pre c r (i + 1) _ res h k (by simpa using hk)
    rw [this, List.length_append, List.length_singleton]
    congr 2
    omega

theorem prefix_law {l : List NodeD} {c : CfgC} (h : AnOk l c (analyzeD l c).1) (h2 : (analyzeD l c).2 = (-1, 0)) {k : Nat} (h1 : 1 ≤ k) (hk : k ≤ l.length) : analyzeD (l.take k) c = ((analyzeD l c).1.take k, -1, 0) := by
  have hw := h.well
  have hle := h.le
  have e : analyzeD l c = ((analyzeD l c).1, -1, 0) := by rw [← h2]
  have hwell : wellB l = true := by
    unfold wellB
    rw [(wellFrom_iff l 0).2 fun j hj => by rw [Nat.zero_add]; exact hw j hj]
    simp [win]; omega
  have hwell' : wellB (l.take k) = true := by
    unfold wellB
    rw [(wellFrom_iff (l.take k) 0).2 fun j hj => by
      rw [Nat.zero_add]
      have hj' : j < l.length := by simp at hj; omega
      rw [List.getElem_take]
      exact hw j hj']
    simp [win]; omega
  generalize (analyzeD l c).1 = acc at *
  unfold analyzeD at e ⊢
  rw [if_pos ⟨h.cfg, hwell⟩] at e
  rw [if_pos ⟨h.cfg, hwell'⟩]
  have := anFrom_pre c l 0 [] acc e k hk
  rwa [List.length_nil, Nat.zero_add] at this

end Go.Proofs.Ytflanndhfdfemaa
