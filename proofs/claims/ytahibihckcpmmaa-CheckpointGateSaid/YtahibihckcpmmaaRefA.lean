/-
  The reference's Arrive.
-/
import Derived.Test.YtahibihckcpmmaaRef
namespace Go.Proofs.Ytahibihckcpmmaa
open Go.Vc

def rMark (r : RefS) (i n kind : Int) : Int × RefS :=
  if ∀ x ∈ r.came.set i.toNat true, x = true then (if kind = 0 ∨ kind = 1 ∧ r.num = 0 then 4 else 3, ⟨List.replicate r.came.length false, 0, kind⟩)
  else (if kind = 1 ∧ r.num = 0 then 4 else 3, ⟨r.came.set i.toNat true, n, kind⟩)

def rArrive (r : RefS) (i mk mn kind : Int) : Int × RefS :=
  if i < 0 ∨ (r.came.length : Int) ≤ i ∨ kind ≠ 0 ∧ kind ≠ 1 then (-1, r)
  else if 0 < r.num ∧ r.kind = 0 ∧ r.came.getD i.toNat false = true then (0, r)
  else if mk ≠ 1 ∧ 0 < r.num ∧ r.kind = 1 ∧ r.came.getD i.toNat false = false then (2, r)
  else if mk ≠ 1 then (1, r)
  else if mn < 1 ∨ 0 < r.num ∧ (mn ≠ r.num ∨ kind ≠ r.kind ∨ r.came.getD i.toNat false = true) then (-1, r)
  else rMark r i mn kind

def RefTo (w : World) (b bc : Nat) (r : Int × RefS) (v : Value) (w' : World) : Prop :=
  v = .int .i64 r.1 ∧ Chg [b, bc] w w' ∧ ∃ bc', RefAt w' b bc' r.2 ∧ (bc' = bc ∨ w.heap.size ≤ bc')

theorem refArrive_any {w : World} {b bc : Nat} {r : RefS} (h : RefAt w b bc r) (i m0 m1 m2 m3 m4 kind : Int) (p : Option Addr) (n c : Nat) (hlen : r.came.length ≤ 1000000) :
    Calls Try.prog 17 #[.pointer (some ⟨b, 0, none⟩), .int .i64 i, .agg #[.int .i64 m0, .int .i64 m1, .int .i64 m2, .int .i64 m3, .int .i64 m4, .slice p n c], .int .i64 kind] w fun e w' =>
      ∃ u, e = .returned u ∧ RefTo w b bc (rArrive r i m0 m4 kind) u w' := by
  refine B17_run b 0 i m0 m1 m2 m3 m4 p n c kind w _ ?_
  intro w0 h0
  have hlt := h.lt
  have hg : RefAt w0 b bc r := by rw [h0]; exact h.same (hp_alloc_old _ _ hlt.1) (hp_alloc_old _ _ hlt.2)
  have hm := Blk.eqNew h0
  have hc : Chg [b, bc] w w0 := by rw [h0]; exact (Chg.refl _ _).alloc _
  have stay : ∀ x, rArrive r i m0 m4 kind = (x, r) → RefTo w b bc (rArrive r i m0 m4 kind) (.int .i64 x) w0 := by
    intro x hx; rw [hx]; exact ⟨rfl, hc, bc, hg, .inl rfl⟩
  have hs : ∀ j, j < 3 → w0.cell? ⟨b, 0 + j, none⟩ = ([.slice (some ⟨bc, 0, none⟩) r.came.length r.came.length, .int .i64 r.num, .int .i64 r.kind] : List Value)[j]? := fun j _ => by
    rw [Nat.zero_add, hg.1.cell]
  clear h0
  refine ⟨some ⟨bc, 0, none⟩, r.came.length, r.came.length, fun _ => hg.1.cell_eq (i := 0) rfl, Br.intro (fun h1 => ?_) (fun h1 => ?_)⟩
  · refine stay _ ?_
    have h1 : (i < 0 ∨ (r.came.length : Int) ≤ i) ∨ kind ≠ 0 ∧ kind ≠ 1 := by simpa [or_assoc] using h1
    simp only [rArrive]
    rw [if_pos (or_assoc.1 h1)]
  have n1 : ¬ (i < 0 ∨ (r.came.length : Int) ≤ i ∨ kind ≠ 0 ∧ kind ≠ 1) := by
    simp at h1; omega
  have hil : i.toNat < r.came.length := by omega
  have hi : 0 ≤ i ∧ i < (r.came.length : Int) := by omega
  have hcell : w0.cell? ⟨bc, 0 + i.toNat, none⟩ = some (.bool (r.came.getD i.toNat false)) := by
    rw [Nat.zero_add, hg.2.1.cell_eq (bools_get hil)]
    simp [List.getD, hil]
  refine ⟨r.num, hg.1.cell_eq (i := 1) rfl, r.kind, fun _ => hg.1.cell_eq (i := 2) rfl, some ⟨bc, 0, none⟩, r.came.length, r.came.length, fun _ => hg.1.cell_eq (i := 0) rfl, fun _ => hi, ptrK_intro bc 0 rfl ⟨_, fun _ => hcell, Br.intro (fun h2 => ?_) (fun h2 => ?_)⟩⟩
  · refine stay _ ?_
    simp at h2
    simp only [rArrive]
    rw [if_neg n1, if_pos ⟨h2.1.1, h2.1.2, by simpa using h2.2⟩]
  have n2 : ¬ (0 < r.num ∧ r.kind = 0 ∧ r.came.getD i.toNat false = true) := by
    rintro ⟨a1, a2, a3⟩
    simp only [a1, a2, a3, decide_true, Bool.and_self] at h2
    cases h2
  refine ⟨m0, hm.cell_eq (i := 0) rfl, Br.intro (fun h3 => ?_) (fun h3 => ?_)⟩
  · have h3 : m0 ≠ 1 := by simpa using h3
    refine ⟨r.num, hg.1.cell_eq (i := 1) rfl, r.kind, fun _ => hg.1.cell_eq (i := 2) rfl, some ⟨bc, 0, none⟩, r.came.length, r.came.length, fun _ => hg.1.cell_eq (i := 0) rfl, fun _ => hi, ptrK_intro bc 0 rfl ⟨_, fun _ => hcell, Br.intro (fun h4 => ?_) (fun h4 => ?_)⟩⟩
    · refine stay _ ?_
      simp only [Bool.and_eq_true, decide_eq_true_eq, Bool.not_eq_true'] at h4
      simp only [rArrive]
      rw [if_neg n1, if_neg n2, if_pos ⟨h3, h4.1.1, h4.1.2, h4.2⟩]
    · refine stay _ ?_
      have n3 : ¬ (m0 ≠ 1 ∧ 0 < r.num ∧ r.kind = 1 ∧ r.came.getD i.toNat false = false) := by
        rintro ⟨_, a1, a2, a3⟩
        simp only [a1, a2, a3, decide_true, Bool.and_self, Bool.not_false] at h4
        cases h4
      simp only [rArrive]
      rw [if_neg n1, if_neg n2, if_neg n3, if_pos h3]
  have h3 : m0 = 1 := by simpa using h3
  have n3 : ¬ (m0 ≠ 1 ∧ 0 < r.num ∧ r.kind = 1 ∧ r.came.getD i.toNat false = false) := fun hh => hh.1 h3
  have n4 : ¬ m0 ≠ 1 := fun hh => hh h3
  refine ⟨m4, hm.cell_eq (i := 4) rfl, r.num, fun _ => hg.1.cell_eq (i := 1) rfl, m4, fun _ => hm.cell_eq (i := 4) rfl, r.num, fun _ => hg.1.cell_eq (i := 1) rfl, r.kind, fun _ => hg.1.cell_eq (i := 2) rfl, some ⟨bc, 0, none⟩, r.came.length, r.came.length, fun _ => hg.1.cell_eq (i := 0) rfl, fun _ => hi, ptrK_intro bc 0 rfl ⟨_, fun _ => hcell, fun k => Br.intro (fun h5 => ?_) (fun h5 => ?_)⟩⟩
  · have : rArrive r i m0 m4 kind = (-1, r) := by
      simp only [Bool.or_eq_true, Bool.and_eq_true, decide_eq_true_eq] at h5
      simp only [rArrive]
      rw [if_neg n1, if_neg n2, if_neg n3, if_neg n4, if_pos (by rcases h5 with h5 | ⟨h5, h6⟩; exact .inl h5; exact .inr ⟨h5, or_assoc.1 h6⟩)]
    obtain ⟨a1, a2, bm', a3, a4⟩ := stay _ this
    exact ⟨a1, a2.drewN k, bm', a3, a4⟩
  have n5 : ¬ (m4 < 1 ∨ 0 < r.num ∧ (m4 ≠ r.num ∨ kind ≠ r.kind ∨ r.came.getD i.toNat false = true)) := by
    intro hh
    have : (decide (m4 < 1) || decide (0 < r.num) && (decide (m4 ≠ r.num) || decide (kind ≠ r.kind) || r.came.getD i.toNat false)) = true := by
      simp only [Bool.or_eq_true, Bool.and_eq_true, decide_eq_true_eq]
      rcases hh with h5 | ⟨h5, h6⟩
      · exact .inl h5
      · exact .inr ⟨h5, or_assoc.2 h6⟩
    rw [this] at h5
    cases h5
  have hg : RefAt (w0.drewN k) b bc r := hg
  have hm : Blk (w0.drewN k) w.heap.size _ _ := hm
  have hc := hc.drewN k
  clear hcell hs stay
  generalize w0.drewN k = w1 at *
  refine ⟨r.num, hg.1.cell_eq (i := 1) rfl, m4, hm.cell_eq (i := 4) rfl, hg.1.can (by simp), fun w2 h2 => ?_⟩
  have hb2 := hg.1.eqSet h2
  have hc2 := hg.2.1.eqOther h2 (by simpa using hg.2.2.symm)
  have k2 := hc.eqSet h2 (by simp)
  refine ⟨hb2.can (by simp), fun w3 h3' => ?_⟩
  have hb3 := hb2.eqSet h3'
  have hc3 := hc2.eqOther h3' (by simpa using hg.2.2.symm)
  have k3 := k2.eqSet h3' (by simp)
  refine ⟨some ⟨bc, 0, none⟩, r.came.length, r.came.length, hb3.cell_eq (i := 0) rfl, hi, ptrK_intro bc 0 rfl ⟨hc3.can (by rw [bools_len]; omega), fun w4 h4 => ?_⟩⟩
  rw [Nat.zero_add] at h4
  have hb4 := hb3.eqOther h4 (by simpa using hg.2.2)
  have hc4 := hc3.eqSet h4
  rw [bools_set] at hc4
  have k4 := k3.eqSet h4 (by simp)
  have hcl : (r.came.set i.toNat true).length = r.came.length := by simp
  clear hb2 hc2 k2 h2 hb3 hc3 k3 h3' h4 hm hc
  have hne := hg.2.2
  have res : rArrive r i m0 m4 kind = rMark r i m4 kind := by
    simp only [rArrive]
    rw [if_neg n1, if_neg n2, if_neg n3, if_neg n4, if_neg n5]
  rw [res]
  generalize hcc : r.came.set i.toNat true = came at *
  refine exI_mk (fun all k wk => wk = w4 ∧ 0 ≤ k ∧ k ≤ (came.length : Int) ∧ (all = true ↔ ∀ j, (hj : j < came.length) → (j : Int) < k → came[j] = true)) ?_
  refine exI_mk (fun _ k _ => ((came.length : Int) - k).toNat) ?_
  refine ⟨⟨rfl, Int.le_refl _, by omega, by simp; intro j hj hlt; omega⟩, ?_⟩
  rintro all k wk ⟨rfl, hk0, hkn, hall⟩
  refine ⟨some ⟨bc, 0, none⟩, r.came.length, r.came.length, hb4.cell_eq (i := 0) rfl, Br.intro (fun hlt => ?_) (fun hge => ?_)⟩
  · have hlt : k < (r.came.length : Int) := by simpa using hlt
    have hkl : k.toNat < came.length := by omega
    refine ⟨some ⟨bc, 0, none⟩, r.came.length, r.came.length, fun _ => hb4.cell_eq (i := 0) rfl, fun _ => by omega, ptrK_intro bc 0 rfl ⟨came[k.toNat], fun _ => by rw [Nat.zero_add]; exact hc4.cell_eq (bools_get hkl), ⟨by omega, by omega⟩, ⟨rfl, by omega, by omega, ?_⟩, ?_⟩⟩
    · rw [Bool.and_eq_true, hall]
      constructor
      · rintro ⟨a1, a2⟩ j hj hjk
        by_cases hjj : (j : Int) < k
        · exact a1 j hj hjj
        · have : j = k.toNat := by omega
          subst this; exact a2
      · intro a
        exact ⟨fun j hj hjk => a j hj (by omega), a _ hkl (by omega)⟩
    · show ((came.length : Int) - (k + 1)).toNat < ((came.length : Int) - k).toNat
      omega
  · have hk : k = (came.length : Int) := by simp at hge; omega
    have hall' : all = true ↔ ∀ x ∈ came, x = true := by
      rw [hall]
      constructor
      · intro a x hx
        obtain ⟨j, hj, rfl⟩ := List.getElem_of_mem hx
        exact a j hj (by omega)
      · intro a j hj _
        exact a _ (List.getElem_mem hj)
    have hr4 : RefAt wk b bc ⟨came, m4, kind⟩ := ⟨by simpa [hcl] using hb4, hc4, hne⟩
    refine Br.intro (fun ha => ?_) (fun ha => ?_)
    · have ha' := hall'.1 ha
      refine calls_of (refCancel_any hr4 (by show came.length ≤ _; omega)) fun u w5 ⟨hu, hc5, bc', hr5, hlt⟩ => ?_
      subst hu
      have hr5 : RefAt w5 b bc' ⟨List.replicate r.came.length false, 0, kind⟩ := by
        have := hr5
        rwa [show (⟨came, m4, kind⟩ : RefS).came.length = r.came.length from hcl] at this
      have hC : Chg [b, bc] w w5 := k4.trans hc5 (by simp)
      have hle : w.heap.size ≤ bc' := Nat.le_trans k4.size hlt
      refine ⟨rfl, Br.intro (fun hk => ?_) (fun hk => ?_)⟩ <;> simp [ha] at hk <;> refine ⟨?_, hC, bc', ?_, .inr hle⟩ <;> simp only [rMark, hcc, if_pos ha'] <;> first | exact hr5 | (congr 1) | skip
      · rw [if_pos hk]
      · rw [if_neg (by rintro (a | a); exact hk.1 a; exact hk.2 a.1 a.2)]
    · have ha' : ¬ ∀ x ∈ came, x = true := fun hh => by rw [hall'.2 hh] at ha; cases ha
      refine Br.intro (fun hk => ?_) (fun hk => ?_) <;> simp [ha] at hk <;> refine ⟨?_, k4, bc, ?_, .inl rfl⟩ <;> simp only [rMark, hcc, if_neg ha'] <;> first | exact hr4 | (congr 1) | skip
      · rw [if_pos hk]
      · rw [if_neg (by rintro a; exact hk a.1 a.2)]

end Go.Proofs.Ytahibihckcpmmaa
