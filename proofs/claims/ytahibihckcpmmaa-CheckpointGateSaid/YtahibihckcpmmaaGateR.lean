/-
  The plain law of 'CheckpointGate': the gate and the reference's gate answer alike.
-/
import Derived.Test.YtahibihckcpmmaaRefA
namespace Go.Proofs.Ytahibihckcpmmaa
open Go.Vc

structure GRel (g : GateS) (r : RefS) : Prop where
  ch : g.ch = r.came.length
  num : g.num = r.num
  pos : 0 ≤ r.num
  kind : g.kind = r.kind
  kinds : r.kind = 0 ∨ r.kind = 1
  mem : ∀ j : Nat, (hj : j < r.came.length) → ((j : Int) ∈ g.came ↔ r.came[j] = true)
  rng : ∀ x ∈ g.came, 0 ≤ x ∧ x < g.ch
  cnt : g.came.length = r.came.countP id
  nodup : g.came.Nodup
  zero : ¬ 0 < g.num → g.came = []

theorem count_false (n : Nat) : (List.replicate n false).countP id = 0 := by
  rw [List.countP_eq_zero]
  intro a ha
  rw [List.eq_of_mem_replicate ha]
  simp

theorem GRel.start (n : Int) : GRel ⟨max n 0, 0, 0, []⟩ ⟨List.replicate (max 0 n).toNat false, 0, 0⟩ :=
  ⟨by simp; omega, rfl, Int.le_refl _, rfl, .inl rfl, by intro j hj; simp, by simp, by simp [count_false], by simp, fun _ => rfl⟩

theorem GRel.cancel {g : GateS} {r : RefS} (h : GRel g r) (k : Int) (hk : k = 0 ∨ k = 1) : GRel { g with num := 0, kind := k, came := [] } ⟨List.replicate r.came.length false, 0, k⟩ :=
  ⟨by simpa using h.ch, rfl, Int.le_refl _, rfl, hk, by intro j hj; simp, by simp, by simp [count_false], by simp, fun _ => rfl⟩

theorem GRel.cancel' {g : GateS} {r : RefS} (h : GRel g r) : GRel { g with num := 0, came := [] } { r with num := 0, came := List.replicate r.came.length false } := by
  have := h.cancel r.kind h.kinds
  rw [← h.kind] at this
  have e : r.kind = g.kind := h.kind.symm
  simpa [e] using this

theorem GRel.perm {g : GateS} {r : RefS} (h : GRel g r) {l : List Int} (hp : l.Perm g.came) : GRel { g with came := l } r :=
  ⟨h.ch, h.num, h.pos, h.kind, h.kinds, fun j hj => by rw [← h.mem j hj]; exact hp.mem_iff, fun x hx => h.rng x (hp.mem_iff.1 hx), by rw [← h.cnt]; exact hp.length_eq, (hp.nodup_iff).2 h.nodup, fun hz => by have := h.zero hz; rw [this] at hp; exact hp.eq_nil⟩

theorem GRel.came {g : GateS} {r : RefS} (h : GRel g r) (i : Int) : decide (i ∈ g.came) = (if 0 ≤ i then r.came.getD i.toNat false else false) := by
  by_cases h0 : 0 ≤ i
  · rw [if_pos h0]
    by_cases h1 : i.toNat < r.came.length
    · have := h.mem _ h1
      rw [show ((i.toNat : Nat) : Int) = i by omega] at this
      simp only [List.getD, h1, getElem?_pos, Option.getD_some]
      rw [Bool.eq_iff_iff, decide_eq_true_iff]
      exact this
    · simp only [List.getD, h1, not_false_eq_true, getElem?_neg, Option.getD_none, decide_eq_false_iff_not]
      intro hm
      have := h.rng i hm
      have := h.ch
      omega
  · rw [if_neg h0, decide_eq_false_iff_not]
    intro hm
    have := h.rng i hm
    omega

theorem GRel.mark {g : GateS} {r : RefS} (h : GRel g r) (i mn kind : Int) (hi0 : 0 ≤ i) (hil : i.toNat < r.came.length) (hif : r.came[i.toNat] = false) (hi : i ∉ g.came) (hmn : 1 ≤ mn) (hk' : kind = 0 ∨ kind = 1) :
    (gBarrier g i mn kind).1 = (rMark r i mn kind).1 ∧ GRel (gBarrier g i mn kind).2 (rMark r i mn kind).2 := by
  have hch := h.ch
  have hcnt : (r.came.set i.toNat true).countP id = g.came.length + 1 := by
    rw [List.countP_set hil, hif]
    simp [h.cnt]
  have hlen : (r.came.set i.toNat true).length = r.came.length := by simp
  have hall : (g.came.length + 1 : Int) = r.came.length ↔ ∀ x ∈ r.came.set i.toNat true, x = true := by
    have := List.countP_eq_length (p := id) (l := r.came.set i.toNat true)
    rw [hcnt, hlen] at this
    constructor
    · intro e; exact fun x hx => this.1 (by omega) x hx
    · intro e; have := this.2 fun x hx => e x hx; omega
  have hz : ¬ 0 < g.num ↔ r.num = 0 := by have := h.num; have := h.pos; omega
  have hall2 : (g.came.length + 1 : Int) = g.ch ↔ ∀ x ∈ r.came.set i.toNat true, x = true := by rw [hch]; exact hall
  by_cases ha : ∀ x ∈ r.came.set i.toNat true, x = true
  · have ea : gBarrier g i mn kind = (if kind = 0 ∨ kind = 1 ∧ ¬ 0 < g.num then 4 else 3, { g with num := 0, kind := kind, came := [] }) := by
      unfold gBarrier; rw [if_pos (hall2.2 ha)]
    have eb : rMark r i mn kind = (if kind = 0 ∨ kind = 1 ∧ r.num = 0 then 4 else 3, ⟨List.replicate r.came.length false, 0, kind⟩) := by
      unfold rMark; rw [if_pos ha]
    rw [ea, eb]
    exact ⟨by simp only [hz], h.cancel kind hk'⟩
  · have ea : gBarrier g i mn kind = (if kind = 1 ∧ ¬ 0 < g.num then 4 else 3, { g with num := mn, kind := kind, came := g.came ++ [i] }) := by
      unfold gBarrier; rw [if_neg (fun hh => ha (hall2.1 hh))]
    have eb : rMark r i mn kind = (if kind = 1 ∧ r.num = 0 then 4 else 3, ⟨r.came.set i.toNat true, mn, kind⟩) := by
      unfold rMark; rw [if_neg ha]
    rw [ea, eb]
    refine ⟨by simp only [hz], ⟨by simpa using h.ch, rfl, by show 0 ≤ mn; omega, rfl, hk', ?_, ?_, ?_, ?_, ?_⟩⟩
    · intro j hj
      have hj' : j < r.came.length := by simpa using hj
      show (j : Int) ∈ g.came ++ [i] ↔ (r.came.set i.toNat true)[j] = true
      rw [List.getElem_set, List.mem_append, h.mem j hj']
      by_cases hij : i.toNat = j
      · rw [if_pos hij]; simp; right; omega
      · rw [if_neg hij]
        have : (j : Int) ≠ i := by omega
        simp [this]
    · intro x hx
      show 0 ≤ x ∧ x < g.ch
      rcases List.mem_append.1 hx with hx | hx
      · exact h.rng x hx
      · simp at hx; omega
    · show (g.came ++ [i]).length = _
      rw [hcnt]; simp
    · show (g.came ++ [i]).Nodup
      rw [List.nodup_append]
      exact ⟨h.nodup, by simp, fun a ha' c hc' => by simp at hc'; subst hc'; exact fun hh => hi (hh ▸ ha')⟩
    · intro hh
      exfalso
      have : ¬ 0 < mn := hh
      omega

theorem GRel.arrive {g : GateS} {r : RefS} (h : GRel g r) (i mk mn kind : Int) :
    (gArrive g i mk mn kind).1 = (rArrive r i mk mn kind).1 ∧ GRel (gArrive g i mk mn kind).2 (rArrive r i mk mn kind).2 := by
  have hch := h.ch
  have hk := h.kinds
  simp only [gArrive, rArrive]
  rw [h.num, h.kind, hch]
  by_cases n1 : i < 0 ∨ (r.came.length : Int) ≤ i ∨ kind ≠ 0 ∧ kind ≠ 1
  · rw [if_pos n1, if_pos n1]; exact ⟨rfl, h⟩
  rw [if_neg n1, if_neg n1]
  have hil : i.toNat < r.came.length := by omega
  have hm : i ∈ g.came ↔ r.came.getD i.toNat false = true := by
    have := h.came i
    rw [if_pos (by omega)] at this
    rw [← this, decide_eq_true_iff]
  by_cases n2 : 0 < r.num ∧ r.kind ≠ 1 ∧ i ∈ g.came
  · have m2 : (0 < r.num ∧ r.kind = 0 ∧ r.came.getD i.toNat false = true) := ⟨n2.1, by omega, hm.1 n2.2.2⟩
    rw [if_pos n2, if_pos m2]; exact ⟨rfl, h⟩
  have m2 : ¬ (0 < r.num ∧ r.kind = 0 ∧ r.came.getD i.toNat false = true) := fun hh => n2 ⟨hh.1, by omega, hm.2 hh.2.2⟩
  rw [if_neg n2, if_neg m2]
  by_cases n3 : mk ≠ 1 ∧ 0 < r.num ∧ r.kind = 1 ∧ i ∉ g.came
  · have m3 : (mk ≠ 1 ∧ 0 < r.num ∧ r.kind = 1 ∧ r.came.getD i.toNat false = false) := ⟨n3.1, n3.2.1, n3.2.2.1, by have := n3.2.2.2; rw [hm] at this; simpa using this⟩
    rw [if_pos n3, if_pos m3]; exact ⟨rfl, h⟩
  have m3 : ¬ (mk ≠ 1 ∧ 0 < r.num ∧ r.kind = 1 ∧ r.came.getD i.toNat false = false) := fun hh => n3 ⟨hh.1, hh.2.1, hh.2.2.1, by rw [hm, hh.2.2.2]; simp⟩
  rw [if_neg n3, if_neg m3]
  by_cases n4 : mk ≠ 1
  · rw [if_pos n4, if_pos n4]; exact ⟨rfl, h⟩
  rw [if_neg n4, if_neg n4]
  by_cases n5 : mn < 1 ∨ 0 < r.num ∧ (mn ≠ r.num ∨ kind ≠ r.kind ∨ i ∈ g.came)
  · have m5 : (mn < 1 ∨ 0 < r.num ∧ (mn ≠ r.num ∨ kind ≠ r.kind ∨ r.came.getD i.toNat false = true)) := by rw [hm] at n5; exact n5
    rw [if_pos n5, if_pos m5]; exact ⟨rfl, h⟩
  have m5 : ¬ (mn < 1 ∨ 0 < r.num ∧ (mn ≠ r.num ∨ kind ≠ r.kind ∨ r.came.getD i.toNat false = true)) := by rw [hm] at n5; exact n5
  rw [if_neg n5, if_neg m5]
  have hi : i ∉ g.came := by
    by_cases hb : 0 < r.num
    · intro hm; exact n5 (.inr ⟨hb, .inr (.inr hm)⟩)
    · rw [h.zero (by rw [h.num]; exact hb)]; simp
  have hif : r.came[i.toNat] = false := by
    rw [hm] at hi
    simpa [List.getD, hil] using hi
  exact h.mark i mn kind (by omega) hil hif hi (by omega) (by omega)

end Go.Proofs.Ytahibihckcpmmaa
