/-
  BoundsPaths: the plain law, and the walk.
-/
import Derived.Test.YtflanndhfdfemaaWh
set_option linter.unusedVariables false
set_option linter.unusedSimpArgs false
namespace Go.Proofs.Ytflanndhfdfemaa
open Go.Vc

theorem timesI_ge {a b : Int} (ha : 1 ≤ a) (ha' : a ≤ 1099511627776) (hb : 1 ≤ b) (hb' : b ≤ 1099511627776) : a ≤ timesI a b ∧ b ≤ timesI a b := by
  unfold timesI
  split
  · omega
  · have h1 := Int.mul_le_mul_of_nonneg_left hb (show 0 ≤ a by omega)
    have h2 := Int.mul_le_mul_of_nonneg_right ha (show 0 ≤ b by omega)
    omega

theorem plusI_ge {a b : Int} (ha : 0 ≤ a) (ha' : a ≤ 1099511627776) (hb : 0 ≤ b) (hb' : b ≤ 1099511627776) : a ≤ plusI a b ∧ b ≤ plusI a b := by unfold plusI; omega

/-- the rates of the inputs -/
def Rated (ys : List BndD) : Prop := ∀ y ∈ ys, 1 ≤ y.rate ∧ y.rate ≤ 1099511627776

theorem Rated.at {ys : List BndD} (h : Rated ys) {i : Nat} (hi : i < ys.length) : 1 ≤ (ys.getD i default).rate ∧ (ys.getD i default).rate ≤ 1099511627776 := by
  rw [List.getD_eq_getElem?_getD, List.getElem?_eq_getElem hi]
  exact h _ (List.getElem_mem hi)

theorem rateI_law {x : NodeC} {ys : List BndD} {c : CfgC} (hc : cfgB c = true) (hb : boundedB x = true) (hk : (ys.length : Int) = kIn x.n0) (hy : Rated ys) :
    1 ≤ rateI x ys c ∧ ∀ q, q < ys.length → rateI x ys c < (ys.getD q default).rate → x.n0 = 7 ∧ q ≠ 0 := by
  obtain ⟨h1, h2, h3, h4⟩ := cfg_bd hc
  have hkin : kIn x.n0 = if x.n0 = 0 then 0 else if x.n0 = 3 ∨ x.n0 = 6 ∨ x.n0 = 7 then 2 else 1 := rfl
  unfold rateI
  by_cases h0 : x.n0 = 0
  · rw [if_pos h0]
    rw [if_pos h0] at hkin
    refine ⟨?_, fun q hq => by omega⟩
    have := Int.mul_le_mul h1.1 h3.1 (by omega) (by omega)
    omega
  rw [if_neg h0]
  rw [if_neg h0] at hkin
  by_cases hs3 : x.n0 = 3
  · rw [if_pos hs3]
    rw [if_pos (by omega)] at hkin
    have r0 := hy.at (i := 0) (by omega)
    have r1 := hy.at (i := 1) (by omega)
    have := plusI_ge (a := (ys.getD 0 default).rate) (b := (ys.getD 1 default).rate) (by omega) (by omega) (by omega) (by omega)
    refine ⟨by omega, fun q hq hl => ?_⟩
    have : q = 0 ∨ q = 1 := by omega
    rcases this with rfl | rfl <;> omega
  rw [if_neg hs3]
  by_cases hs4 : x.n0 = 4 ∨ x.n0 = 5
  · rw [if_pos hs4]
    rw [if_neg (by omega)] at hkin
    have r0 := hy.at (i := 0) (by omega)
    have r6 := bounded_n6 hb hs4
    have := timesI_ge (a := (ys.getD 0 default).rate) (b := x.n6) (by omega) (by omega) (by omega) (by omega)
    refine ⟨by omega, fun q hq hl => ?_⟩
    have : q = 0 := by omega
    subst this; omega
  rw [if_neg hs4]
  by_cases hs6 : x.n0 = 6
  · rw [if_pos hs6]
    rw [if_pos (by omega)] at hkin
    have r0 := hy.at (i := 0) (by omega)
    have r1 := hy.at (i := 1) (by omega)
    have r6 := bounded_n10 hb hs6
    have t1 := timesI_ge (a := (ys.getD 0 default).rate) (b := (ys.getD 1 default).rate) (by omega) (by omega) (by omega) (by omega)
    have t2 := timesI_bd (a := (ys.getD 0 default).rate) (b := (ys.getD 1 default).rate) (by omega) (by omega)
    have t3 := timesI_ge (a := timesI (ys.getD 0 default).rate (ys.getD 1 default).rate) (b := x.n10 + x.n11 + 2) (by omega) (by omega) (by omega) (by omega)
    refine ⟨by omega, fun q hq hl => ?_⟩
    have : q = 0 ∨ q = 1 := by omega
    rcases this with rfl | rfl <;> omega
  rw [if_neg hs6]
  have hl : 0 < ys.length := by split at hkin <;> omega
  have r0 := hy.at (i := 0) hl
  refine ⟨by omega, fun q hq hlt => ?_⟩
  by_cases hq0 : q = 0
  · subst hq0; omega
  · refine ⟨?_, hq0⟩
    split at hkin
    · omega
    · omega

theorem max_ge (f : BndD → Int) : ∀ (ys : List BndD) (a : Int), a ≤ ys.foldl (fun v y => max v (f y)) a ∧ ∀ y ∈ ys, f y ≤ ys.foldl (fun v y => max v (f y)) a
  | [], a => ⟨Int.le_refl _, by simp⟩
  | y :: r, a => by
    have h := max_ge f r (max a (f y))
    rw [List.foldl_cons]
    refine ⟨by have := h.1; omega, fun z hz => ?_⟩
    rcases List.mem_cons.1 hz with rfl | hz
    · have := h.1; omega
    · exact h.2 z hz

theorem state_none (span back : Int) : ∀ (ys : List BndD) (a : Int × Int × Int), (ys.foldl (stepB false span back) a).2.2 = a.2.2
  | [], _ => rfl
  | y :: r, a => by rw [List.foldl_cons, state_none span back r]; rfl

theorem state_pos {span back : Int} (hs : 1 ≤ span ∧ span ≤ 30000) (hb : 0 ≤ back ∧ back ≤ 10000) : ∀ (ys : List BndD) (a : Int × Int × Int), 0 ≤ a.2.2 → a.2.2 ≤ 1099511627776 → (1 ≤ a.2.2 ∨ ys ≠ []) → Rated ys → (∀ y ∈ ys, y.Ok) → 1 ≤ (ys.foldl (stepB true span back) a).2.2
  | [], a, _, _, h, _, _ => by rcases h with h | h; exact h; exact absurd rfl h
  | y :: r, a, h0, h1, _, hr, hy => by
    rw [List.foldl_cons]
    have k1 := hr y (by simp)
    have k2 := hy y (by simp)
    have kf := k2.f
    have t := timesI_ge (a := y.rate) (b := span + y.fore + back) (by omega) (by omega) (by omega) (by omega)
    have t2 := timesI_bd (a := y.rate) (b := span + y.fore + back) (by omega) (by omega)
    have p := plusI_ge (a := a.2.2) (b := timesI y.rate (span + y.fore + back)) h0 h1 (by omega) (by omega)
    have p2 := plusI_bd (a := a.2.2) (b := timesI y.rate (span + y.fore + back)) h0 (by omega)
    have e : (stepB true span back a y).2.2 = plusI a.2.2 (timesI y.rate (span + y.fore + back)) := rfl
    exact state_pos hs hb r _ (by omega) (by omega) (.inl (by omega)) (fun z hz => hr z (by simp [hz])) fun z hz => hy z (by simp [hz])

theorem AnOk.rated {l : List NodeD} {c : CfgC} {acc : List BndD} (h : AnOk l c acc) : ∀ j, j < l.length → 1 ≤ (acc.getD j default).rate := by
  intro j
  induction j using Nat.strongRecOn with
  | _ j ih =>
    intro hj
    rw [h.at hj]
    refine (rateI_law h.cfg (h.bounded j hj) (by rw [← show (l[j].inp.length : Int) = kIn (toC l[j]).n0 from h.num hj]; simp [insD]) fun y hy => ?_).1
    obtain ⟨i, hi, rfl⟩ := List.mem_map.1 hy
    have := h.ins hj i hi
    exact ⟨ih _ (by omega) (by omega), (h.getOk _).r.2⟩

theorem AnOk.ratedIns {l : List NodeD} {c : CfgC} {acc : List BndD} (h : AnOk l c acc) {j : Nat} (hj : j < l.length) : Rated (insD l[j].inp acc) := by
  intro y hy
  obtain ⟨i, hi, rfl⟩ := List.mem_map.1 hy
  have := h.ins hj i hi
  exact ⟨h.rated _ (by omega), (h.getOk _).r.2⟩

theorem paths_law {l : List NodeD} {c : CfgC} {acc : List BndD} (h : AnOk l c acc) {j : Nat} (hj : j < l.length) :
    1 ≤ (acc.getD j default).rate ∧ ((acc.getD j default).state = 0 ↔ l[j].op ≤ 3) ∧ ∀ q, (hq : q < l[j].inp.length) →
      (acc.getD l[j].inp[q].toNat default).back ≤ (acc.getD j default).back ∧ (acc.getD l[j].inp[q].toNat default).fore ≤ (acc.getD j default).fore ∧
      ((acc.getD j default).rate < (acc.getD l[j].inp[q].toNat default).rate → l[j].op = 7 ∧ q ≠ 0) := by
  refine ⟨h.rated j hj, ?_, ?_⟩
  · have hcf := cfg_bd h.cfg
    have ho := own_bd (toC l[j])
    have hnum := h.num hj
    rw [h.at hj]
    show (foldI (toC l[j]) (insD l[j].inp acc) c).2.2 = 0 ↔ _
    unfold foldI
    have hkk : kKeeps (toC l[j]).n0 = decide (4 ≤ l[j].op) := rfl
    rw [hkk]
    by_cases h4 : 4 ≤ l[j].op
    · rw [decide_eq_true h4]
      have hkin : kIn l[j].op = if l[j].op = 0 then 0 else if l[j].op = 3 ∨ l[j].op = 6 ∨ l[j].op = 7 then 2 else 1 := rfl
      rw [if_neg (by omega)] at hkin
      have := state_pos (span := c.span) (back := (ownI (toC l[j])).1) (by omega) (by omega) (insD l[j].inp acc) (0, 0, 0) (by simp) (by simp) (.inr fun e => by
        have := congrArg List.length e
        simp [insD] at this
        rw [this] at hnum
        split at hkin <;> simp at hnum <;> omega) (h.ratedIns hj) (h.insOk _)
      constructor
      · intro e; omega
      · intro e; omega
    · rw [decide_eq_false h4, state_none]
      constructor
      · intro _; omega
      · intro _; rfl
  · intro q hq
    have ho := own_bd (toC l[j])
    have hlen : (insD l[j].inp acc).length = l[j].inp.length := by simp [insD]
    have hz : (insD l[j].inp acc).getD q default = acc.getD l[j].inp[q].toNat default := by
      rw [List.getD_eq_getElem?_getD, List.getElem?_eq_getElem (by omega)]; simp [insD]
    have hm : acc.getD l[j].inp[q].toNat default ∈ insD l[j].inp acc := List.mem_map.2 ⟨_, List.getElem_mem hq, rfl⟩
    have hr := (rateI_law h.cfg (h.bounded j hj) (by rw [← show (l[j].inp.length : Int) = kIn (toC l[j]).n0 from h.num hj]; simp [insD]) (h.ratedIns hj)).2 q (by omega)
    rw [hz] at hr
    have e1 : (acc.getD j default).back = (foldI (toC l[j]) (insD l[j].inp acc) c).1 + (ownI (toC l[j])).1 := by rw [h.at hj]; rfl
    have e2 : (acc.getD j default).fore = (foldI (toC l[j]) (insD l[j].inp acc) c).2.1 + (ownI (toC l[j])).2 := by rw [h.at hj]; rfl
    have e3 : (acc.getD j default).rate = rateI (toC l[j]) (insD l[j].inp acc) c := by rw [h.at hj]; rfl
    have f1 := (max_ge BndD.back (insD l[j].inp acc) 0).2 _ hm
    have f2 := (max_ge BndD.fore (insD l[j].inp acc) 0).2 _ hm
    rw [← e3] at hr
    unfold foldI at e1 e2
    rw [(fold_fst _ _ _ _ _).1] at e1
    rw [(fold_fst _ _ _ _ _).2] at e2
    simp only at e1 e2
    exact ⟨by omega, by omega, hr⟩

end Go.Proofs.Ytflanndhfdfemaa
