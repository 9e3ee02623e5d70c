/-
  The plain law of 'CheckpointOnce': what a gate answers to channels at whose heads messages and then a barrier stand.
-/
import Derived.Test.YtahibihckcpmmaaGate
namespace Go.Proofs.Ytahibihckcpmmaa
open Go.Vc

def negs (ls : List Int) : Nat := ls.countP (fun x => decide (x < 0))

structure Inv (n kind a came snaps i : Int) (ls : List Int) (g : GateS) : Prop where
  len : (ls.length : Int) = n
  rng : ∀ x ∈ ls, -1 ≤ x ∧ x ≤ 4
  cnt : came = negs ls
  ch : g.ch = n
  idle : came = 0 ∨ came = n → g.num = 0 ∧ g.came = []
  busy : 0 < came → came < n → g.num = 3 ∧ g.kind = kind ∧ (g.came.length : Int) = came ∧ ∀ j : Nat, (hj : j < ls.length) → ((j : Int) ∈ g.came ↔ ls[j] < 0)
  snap : snaps = if kind = 0 then (if came = n then 1 else 0) else (if came = 0 then 0 else 1)
  prog : a ≤ i → ∀ j : Nat, (hj : j < ls.length) → ls[j] ≤ max (-1) (4 - ((i - 1 - j) / n - (a - 1 - j) / n))

theorem negs_le (ls : List Int) : negs ls ≤ ls.length := List.countP_le_length

theorem negs_set (ls : List Int) (c : Nat) (hc : c < ls.length) (y : Int) :
    (negs (ls.set c y) : Int) = negs ls - (if ls[c] < 0 then 1 else 0) + (if y < 0 then 1 else 0) := by
  unfold negs
  rw [List.countP_set hc]
  have h1 : ls[c] < 0 → 0 < ls.countP (fun x => decide (x < 0)) := fun h => List.countP_pos_iff.2 ⟨ls[c], List.getElem_mem hc, by simpa using h⟩
  by_cases h : ls[c] < 0
  · have h2 := h1 h
    by_cases hy : y < 0
    · simp only [h, hy, decide_true, if_true]; omega
    · simp only [h, hy, decide_true, decide_false, if_true, if_false, Bool.false_eq_true]; omega
  · by_cases hy : y < 0
    · simp only [h, hy, decide_true, decide_false, if_true, if_false, Bool.false_eq_true]; omega
    · simp only [h, hy, decide_false, if_false, Bool.false_eq_true]; omega

theorem negs_all {ls : List Int} (h : negs ls = ls.length) : ∀ x ∈ ls, x < 0 := by
  unfold negs at h
  intro x hx
  simpa using List.countP_eq_length.1 h x hx

theorem negs_zero {ls : List Int} (h : negs ls = 0) : ∀ x ∈ ls, ¬ x < 0 := by
  unfold negs at h
  intro x hx
  simpa using List.countP_eq_zero.1 h x hx

def want (n kind came x : Int) : Int :=
  if x = 0 then (if kind = 0 ∧ came + 1 = n ∨ kind = 1 ∧ came + 1 = 1 then 4 else 3)
  else if x < 0 ∧ kind = 0 ∧ came < n then 0
  else if 0 < x ∧ kind = 1 ∧ 0 < came then 2
  else 1

/-- where the greatest multiple below goes up by one: 'q' counts the visits of channel j -/
theorem visit (n a i j : Int) (hn : n = 1 ∨ n = 2 ∨ n = 3 ∨ n = 4 ∨ n = 5 ∨ n = 6) (hj : 0 ≤ j) (hjn : j < n) (hi : 0 ≤ i) :
    ((i + 1 - 1 - j) / n = (i - 1 - j) / n ∨ i % n = j ∧ (i + 1 - 1 - j) / n = (i - 1 - j) / n + 1) := by
  rcases hn with rfl | rfl | rfl | rfl | rfl | rfl <;> omega

theorem visits (n a j : Int) (hn : n = 1 ∨ n = 2 ∨ n = 3 ∨ n = 4 ∨ n = 5 ∨ n = 6) : (a + 6 * n - 1 - j) / n - (a - 1 - j) / n = 6 := by
  rcases hn with rfl | rfl | rfl | rfl | rfl | rfl <;> omega

theorem Inv.step {n kind a came snaps i : Int} {ls : List Int} {g : GateS} (h : Inv n kind a came snaps i ls g) (hn : 1 ≤ n) (hn6 : n ≤ 6) (hk : kind = 0 ∨ kind = 1) (hi : 0 ≤ i) (c : Nat) (hc : c < ls.length)
    (hci : a ≤ i → (c : Int) = i % n) (ha : 0 ≤ a) :
    let x := ls[c]
    let r := gArrive g c (if x = 0 then 1 else 2) (if x = 0 then 3 else 1) kind
    let came' := if x = 0 then came + 1 else came
    let snaps' := if x = 0 ∧ (kind = 0 ∧ came + 1 = n ∨ kind = 1 ∧ came + 1 = 1) then snaps + 1 else snaps
    r.1 = want n kind came x ∧ (0 < r.2.num ↔ 0 < came' ∧ came' < n) ∧ Inv n kind a came' snaps' (i + 1) (ls.set c (max (-1) (x - 1))) r.2 := by
  intro x r came' snaps'
  have hx := h.rng x (List.getElem_mem hc)
  have hcn : (c : Int) < n := by have := h.len; omega
  have hcnt := h.cnt
  have hle := negs_le ls
  have hlen := h.len
  have hset := negs_set ls c hc (max (-1) (x - 1))
  have hcl : 0 ≤ came ∧ came ≤ n := by omega
  -- what is left of the channels
  have hprog : a ≤ i + 1 → ∀ j : Nat, (hj : j < (ls.set c (max (-1) (x - 1))).length) → (ls.set c (max (-1) (x - 1)))[j] ≤ max (-1) (4 - ((i + 1 - 1 - j) / n - (a - 1 - j) / n)) := by
    intro hai j hj
    have hj' : j < ls.length := by simpa using hj
    have hrj := h.rng ls[j] (List.getElem_mem hj')
    rw [List.getElem_set]
    by_cases hai' : a ≤ i
    · have hp := h.prog hai' j hj'
      have hv := visit n a i j (by omega) (by omega) (by omega) hi
      have e := hci hai'
      by_cases hcj : c = j
      · subst hcj
        rw [if_pos rfl]
        show max (-1) (ls[c] - 1) ≤ _
        omega
      · rw [if_neg hcj]
        rcases hv with hv | ⟨hv, _⟩
        · rw [hv]; exact hp
        · omega
    · have : i + 1 = a := by omega
      have e0 : (i + 1 - 1 - (j : Int)) / n - (a - 1 - j) / n = 0 := by rw [this]; omega
      rw [e0]
      split
      · show max (-1) (ls[c] - 1) ≤ _
        omega
      · omega
  have hrng : ∀ y ∈ ls.set c (max (-1) (x - 1)), -1 ≤ y ∧ y ≤ 4 := by
    intro y hy
    rcases List.mem_or_eq_of_mem_set hy with hy | rfl
    · exact h.rng y hy
    · omega
  have hlen' : ((ls.set c (max (-1) (x - 1))).length : Int) = n := by simpa using h.len
  have nobad : ¬ ((c : Int) < 0 ∨ g.ch ≤ c ∨ kind ≠ 0 ∧ kind ≠ 1) := by rw [h.ch]; omega
  have hxc : ls[c] = x := rfl
  by_cases hx0 : x = 0
  · -- the barrier
    have hcne : came < n := by
      rcases Int.lt_or_le came n with h' | h'
      · exact h'
      · have : negs ls = ls.length := by omega
        have := negs_all this x (List.getElem_mem hc)
        omega
    have hnew : (negs (ls.set c (max (-1) (x - 1))) : Int) = came + 1 := by
      rw [hset, hxc, if_neg (by omega), if_pos (by omega)]; omega
    have hbar : r = gBarrier g c 3 kind := by
      show gArrive g c (if x = 0 then 1 else 2) (if x = 0 then 3 else 1) kind = _
      rw [if_pos hx0, if_pos hx0]
      simp only [gArrive]
      rw [if_neg nobad]
      by_cases h0 : came = 0
      · have := h.idle (.inl h0)
        simp [this]
      · obtain ⟨b1, b2, b3, b4⟩ := h.busy (by omega) hcne
        have hnm : (c : Int) ∉ g.came := fun hm => by have := (b4 c hc).1 hm; omega
        simp [b1, b2, hnm]
    have hnum : (0 < g.num) ↔ 0 < came := by
      by_cases h0 : came = 0
      · have := h.idle (.inl h0); omega
      · have := h.busy (by omega) hcne; omega
    have hcl : (g.came.length : Int) = came := by
      by_cases h0 : came = 0
      · have := h.idle (.inl h0); simp [this, h0]
      · exact (h.busy (by omega) hcne).2.2.1
    have e1 : came' = came + 1 := if_pos hx0
    by_cases hall : came + 1 = n
    · have hg : gBarrier g c 3 kind = (if kind = 0 ∨ kind = 1 ∧ ¬ 0 < g.num then 4 else 3, { g with num := 0, kind := kind, came := [] }) := by
        simp only [gBarrier]; rw [if_pos (by rw [hcl, h.ch]; exact hall)]
      rw [hbar, hg]
      refine ⟨?_, ?_, ⟨hlen', hrng, ?_, h.ch, fun _ => ⟨rfl, rfl⟩, fun _ hlt => absurd hlt (by rw [e1]; omega), ?_, hprog⟩⟩
      · simp only [want]
        rw [if_pos hx0]
        by_cases hk0 : kind = 0
        · rw [if_pos (.inl hk0), if_pos (.inl ⟨hk0, hall⟩)]
        · by_cases h0 : came = 0
          · rw [if_pos (by omega), if_pos (by omega)]
          · rw [if_neg (by omega), if_neg (by omega)]
      · simp only [e1]; omega
      · rw [e1, hnew]
      · show snaps' = _
        have := h.snap
        simp only [snaps', e1]
        rcases hk with rfl | rfl
        · simp at this ⊢; rw [if_neg (by omega)] at this; simp [hx0, hall]; omega
        · simp at this ⊢
          by_cases h0 : came = 0
          · simp [h0] at this ⊢; simp [hx0]; omega
          · simp [h0] at this ⊢; simp [hx0, h0, this]; omega
    · have hg : gBarrier g c 3 kind = (if kind = 1 ∧ ¬ 0 < g.num then 4 else 3, { g with num := 3, kind := kind, came := g.came ++ [(c : Int)] }) := by
        simp only [gBarrier]; rw [if_neg (by rw [hcl, h.ch]; exact hall)]
      rw [hbar, hg]
      refine ⟨?_, ?_, ⟨hlen', hrng, ?_, h.ch, fun hh => ?_, fun _ _ => ⟨rfl, rfl, ?_, ?_⟩, ?_, hprog⟩⟩
      · simp only [want]
        rw [if_pos hx0]
        by_cases h0 : kind = 1 ∧ ¬ 0 < g.num
        · rw [if_pos h0, if_pos (by omega)]
        · rw [if_neg h0, if_neg (by omega)]
      · simp only [e1]; omega
      · rw [e1, hnew]
      · exfalso; rw [e1] at hh; omega
      · rw [e1]; simp; omega
      · intro j hj
        have hj' : j < ls.length := by simpa using hj
        rw [List.getElem_set]
        have hbase : (j : Int) ∈ g.came ↔ ls[j] < 0 := by
          by_cases h0 : came = 0
          · have hi := h.idle (.inl h0)
            have hz := negs_zero (ls := ls) (by omega) ls[j] (List.getElem_mem hj')
            simp [hi.2]; omega
          · exact (h.busy (by omega) hcne).2.2.2 j hj'
        by_cases hcj : c = j
        · subst hcj
          simp; omega
        · rw [if_neg hcj, List.mem_append, hbase]
          have : (j : Int) ≠ c := by omega
          simp [this]
      · show snaps' = _
        have := h.snap
        simp only [snaps', e1]
        rcases hk with rfl | rfl
        · simp at this ⊢; rw [if_neg (by omega)] at this; simp [hx0, hall, this]
        · simp at this ⊢
          by_cases h0 : came = 0
          · simp [h0] at this ⊢; simp [hx0]; omega
          · simp [h0] at this ⊢; simp [hx0, h0, this]; omega
  · -- a message
    have hsame : (negs (ls.set c (max (-1) (x - 1))) : Int) = came := by
      rw [hset, hxc]
      by_cases hneg : x < 0
      · rw [if_pos hneg, if_pos (by omega)]; omega
      · rw [if_neg hneg, if_neg (by omega)]; omega
    have e1 : came' = came := if_neg hx0
    have e2 : snaps' = snaps := if_neg fun hh => hx0 hh.1
    have hlt : x < 0 → 0 < came := fun hneg => by
      rcases Int.lt_or_le 0 came with h' | h'
      · exact h'
      · have := negs_zero (ls := ls) (by omega) x (List.getElem_mem hc); omega
    have hcame : 0 < came → came < n → ((c : Int) ∈ g.came ↔ x < 0) := fun h1 h2 => (h.busy h1 h2).2.2.2 c hc
    have hidle : ¬ (0 < came ∧ came < n) → g.num = 0 ∧ g.came = [] := fun hh => h.idle (by omega)
    have hbusy : 0 < came ∧ came < n → g.num = 3 ∧ g.kind = kind := fun hh => ⟨(h.busy hh.1 hh.2).1, (h.busy hh.1 hh.2).2.1⟩
    have key : r = (want n kind came x, g) := by
      show gArrive g c (if x = 0 then 1 else 2) (if x = 0 then 3 else 1) kind = _
      rw [if_neg hx0, if_neg hx0]
      simp only [gArrive, want]
      rw [if_neg nobad, if_neg hx0]
      by_cases hb : 0 < came ∧ came < n
      · obtain ⟨b1, b2⟩ := hbusy hb
        have hm := hcame hb.1 hb.2
        rw [b1, b2]
        by_cases hneg : x < 0
        · have hm' := hm.2 hneg
          rcases hk with rfl | rfl
          · simp [hm', hneg, hb.2]
          · simp [hm', hneg]; omega
        · have hm' : (c : Int) ∉ g.came := fun hh => hneg (hm.1 hh)
          rcases hk with rfl | rfl
          · simp [hm', hneg]
          · simp [hm', hneg, hb.1]; omega
      · obtain ⟨b1, b2⟩ := hidle hb
        rw [b1]
        have w1 : ¬ (x < 0 ∧ kind = 0 ∧ came < n) := fun hh => hb ⟨hlt hh.1, hh.2.2⟩
        have w2 : ¬ (0 < x ∧ kind = 1 ∧ 0 < came) := by
          rintro ⟨q1, _, q3⟩
          have : came = n := by omega
          have := negs_all (ls := ls) (by omega) x (List.getElem_mem hc)
          omega
        rw [if_neg w1, if_neg w2]
        simp
    rw [key]
    refine ⟨rfl, ?_, ⟨hlen', hrng, ?_, h.ch, fun hh => h.idle (by rw [e1] at hh; exact hh), fun h1 h2 => ?_, ?_, hprog⟩⟩
    · rw [e1]
      by_cases hb : 0 < came ∧ came < n
      · have := hbusy hb; simp only; omega
      · have := hidle hb; simp only; omega
    · rw [e1, hsame]
    · rw [e1] at h1 h2 ⊢
      obtain ⟨b1, b2, b3, b4⟩ := h.busy h1 h2
      refine ⟨b1, b2, b3, fun j hj => ?_⟩
      have hj' : j < ls.length := by simpa using hj
      rw [List.getElem_set, b4 j hj']
      by_cases hcj : c = j
      · subst hcj; rw [if_pos rfl, hxc]; omega
      · rw [if_neg hcj]
    · rw [e1, e2]; exact h.snap

theorem Inv.last {n kind a came snaps i : Int} {ls : List Int} {g : GateS} (h : Inv n kind a came snaps i ls g) (hn : 1 ≤ n) (hn6 : n ≤ 6) (hk : kind = 0 ∨ kind = 1) (hi : i = a + 6 * n) :
    came = n ∧ snaps = 1 ∧ g.num = 0 := by
  have hall : ∀ x ∈ ls, x < 0 := by
    intro x hx
    obtain ⟨j, hj, rfl⟩ := List.getElem_of_mem hx
    have hp := h.prog (by omega) j hj
    rw [hi, visits n a j (by omega)] at hp
    omega
  have hc : came = n := by
    rw [h.cnt, ← h.len]
    unfold negs
    rw [List.countP_eq_length.2 (fun x hx => by simpa using hall x hx)]
  refine ⟨hc, ?_, (h.idle (.inr hc)).1⟩
  rw [h.snap]
  rcases hk with rfl | rfl
  · simp [hc]
  · simp; omega

end Go.Proofs.Ytahibihckcpmmaa
