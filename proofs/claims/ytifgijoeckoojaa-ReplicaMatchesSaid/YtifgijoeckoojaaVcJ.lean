/-
  WHAT CAME IN: the cells of a flat type, by its shape; slices of such.
-/
import Derived.Test.YtifgijoeckoojaaVcI
set_option linter.unusedVariables false
set_option linter.unusedSimpArgs false
namespace Go.Vc
open Go.ChangeShapes Go.WideShapes Go.RowKit

section
variable {H : Type} {enc : TypeId × Value → H} {P : Program} {w : World} {base : Nat} {spare : Nat → Bool} {held : Bool}

/-- kinds of cells -/
inductive Ck where
  | int (k : IntKind)
  | bool
  | str
  | ptr
  | slice
  | map

def Ck.fits : Ck → Value → Prop
  | .int k, v => ∃ n, v = .int k n ∧ (Lit.int k n).wf = true
  | .bool, v => ∃ b, v = .bool b
  | .str, v => ∃ s, v = .string s ∧ s.size ≤ maxLen
  | .ptr, v => ∃ p, v = .pointer p
  | .slice, v => ∃ p n c, v = .slice p n c ∧ n ≤ c ∧ c ≤ maxLen ∧ (p = none → n = 0)
  | .map, v => ∃ m, v = .map m

def Fits : List Ck → List Value → Prop
  | [], [] => True
  | k :: r, v :: vs => k.fits v ∧ Fits r vs
  | _, _ => False

def flatL (fl : TypeId → Option (List Ck)) : List Field → Nat → Option (List Ck)
  | [], _ => some []
  | f :: r, off => match fl f.type with
    | some l => match Nat.beq f.offset off, flatL fl r (off + l.length) with
      | true, some l' => some (l ++ l')
      | _, _ => none
    | none => none

def flat (P : Program) : Nat → TypeId → Option (List Ck)
  | 0, _ => none
  | d + 1, t => match P.underlying t with
    | some .bool => some [.bool]
    | some (.int k) => some [.int k]
    | some .string => some [.str]
    | some (.pointer _) => some [.ptr]
    | some (.slice _) => some [.slice]
    | some (.map ..) => some [.map]
    | some (.struct fs) => match flatL (flat P d) fs.toList 0 with
      | some l => if l.length = P.cellsOf t ∧ (fs.toList.all fun f => decide ((flat P d f.type).map (·.length) = some (P.cellsOf f.type))) = true then some l else none
      | none => none
    | _ => none

theorem fits_nil {cs : List Value} (h : Fits [] cs) : cs = [] := by
  cases cs with
  | nil => rfl
  | cons => exact h.elim

theorem fits_cons {k : Ck} {ks : List Ck} {cs : List Value} (h : Fits (k :: ks) cs) : ∃ v vs, cs = v :: vs ∧ k.fits v ∧ Fits ks vs := by
  cases cs with
  | nil => exact h.elim
  | cons v vs => exact ⟨v, vs, rfl, h.1, h.2⟩

theorem Fits.length {ks : List Ck} {cs : List Value} (h : Fits ks cs) : cs.length = ks.length := by
  induction ks generalizing cs with
  | nil => cases fits_nil h; rfl
  | cons k r ih =>
    obtain ⟨v, vs, rfl, _, h2⟩ := fits_cons h
    simp [ih h2]

theorem Fits.append {k l : List Ck} {a b : List Value} (h : Fits k a) (h' : Fits l b) : Fits (k ++ l) (a ++ b) := by
  induction k generalizing a with
  | nil => cases a with
    | nil => exact h'
    | cons => exact h.elim
  | cons x r ih => cases a with
    | nil => exact h.elim
    | cons v vs => exact ⟨h.1, ih h.2⟩

theorem mapM_all {α β : Type} {f : α → Option β} : ∀ {l : List α} {xs : List β}, l.mapM f = some xs → ∀ a ∈ l, ∃ y, f a = some y
  | [], _, _, a, ha => by cases ha
  | b :: r, xs, h, a, ha => by
    rw [List.mapM_cons] at h
    cases hb : f b with
    | none => simp [hb] at h
    | some y =>
      cases hr : r.mapM f with
      | none => simp [hb, hr] at h
      | some ys =>
        rcases List.mem_cons.1 ha with rfl | ha
        · exact ⟨y, hb⟩
        · exact mapM_all hr a ha

theorem trod_flat : ∀ {d : Nat} {t : TypeId} {fuel : Nat} {cs : List Value} {x : DataW H × List MemPlace} {l : List Ck}, flat P d t = some l → DataW.trod enc P w base spare held fuel t cs = some x → Fits l cs
  | 0, _, _, _, _, _, hl, _ => by simp [flat] at hl
  | d + 1, t, fuel, cs, x, l, hl, h => by
    cases fuel with
    | zero => simp [DataW.trod] at h
    | succ fuel =>
    have h' := h
    unfold flat at hl
    unfold DataW.trod at h
    split at hl
    · rename_i ht
      cases hl
      rw [ht] at h
      split at h <;> simp_all [Fits, Ck.fits]
    · rename_i k ht
      cases hl
      rw [ht] at h
      split at h <;> simp_all [Fits, Ck.fits]
    · rename_i ht
      cases hl
      rw [ht] at h
      split at h <;> simp_all [Fits, Ck.fits]
    · rename_i e ht
      cases hl
      rw [ht] at h
      split at h <;> simp_all [Fits, Ck.fits]
    · rename_i e ht
      cases hl
      rcases DataW.trod_slice ht h' with ⟨rfl, _⟩ | ⟨a, len, cap, _, _, _, _, rfl, _, _, hl, hm, _⟩
      · exact ⟨⟨none, 0, 0, rfl, by omega, by simp [maxLen], fun _ => rfl⟩, trivial⟩
      · exact ⟨⟨some a, len, cap, rfl, hl, hm, fun hh => by cases hh⟩, trivial⟩
    · rename_i k e ht
      cases hl
      rw [ht] at h
      split at h <;> simp_all [Fits, Ck.fits]
    · rename_i fs ht
      rw [ht] at h
      split at hl
      · rename_i l' hfl
        split at hl
        · rename_i hc
          cases hl
          simp only at h
          split at h
          · rename_i hlen
            cases hm : (fs.toList.mapM fun f => DataW.trod enc P w base spare held fuel f.type ((cs.drop f.offset).take (P.cellsOf f.type))) with
            | none => simp [hm] at h
            | some xs =>
            have each := mapM_all hm
            have key : ∀ (gs : List Field) (off : Nat) (l : List Ck), (∀ f ∈ gs, ∃ y, DataW.trod enc P w base spare held fuel f.type ((cs.drop f.offset).take (P.cellsOf f.type)) = some y) →
                (∀ f ∈ gs, (flat P d f.type).map (·.length) = some (P.cellsOf f.type)) → flatL (flat P d) gs off = some l → off + l.length = cs.length → Fits l (cs.drop off) := by
              intro gs
              induction gs with
              | nil =>
                intro off l _ _ hl ho
                simp only [flatL, Option.some.injEq] at hl
                subst hl
                rw [List.drop_of_length_le (by simp at ho; omega)]
                trivial
              | cons f r ih =>
                intro off l he hz hl ho
                unfold flatL at hl
                split at hl
                · rename_i l1 h1
                  split at hl
                  · rename_i l2 hb h2
                    cases hl
                    have hoff : f.offset = off := Nat.eq_of_beq_eq_true hb
                    obtain ⟨y, hy⟩ := he f (by simp)
                    have hz1 := hz f (by simp)
                    rw [h1] at hz1
                    simp only [Option.map_some, Option.some.injEq] at hz1
                    have f1 := trod_flat h1 hy
                    rw [hoff, ← hz1] at f1
                    have f2 := ih (off + l1.length) l2 (fun g hg => he g (List.mem_cons_of_mem _ hg)) (fun g hg => hz g (List.mem_cons_of_mem _ hg)) h2 (by simp at ho; omega)
                    have := f1.append f2
                    rwa [← List.drop_drop, List.take_append_drop] at this
                  · cases hl
                · cases hl
            have := key fs.toList 0 l each (fun f hf => by simpa using List.all_eq_true.1 hc.2 f hf) hfl (by rw [hlen, ← hc.1]; simp)
            simpa using this
          · cases h
        · cases hl
      · cases hl
    · cases hl

/-- a slice that came in: each element's cells can be read, and are of the type's kinds -/
def CellsIn (ks : List Ck) (w : World) (p : Option Addr) (n : Nat) : Prop :=
  ∀ j, j < n → ∃ b o cs, p = some ⟨b, o, none⟩ ∧ (∀ i, (hi : i < cs.length) → w.cell? ⟨b, o + j * ks.length + i, none⟩ = some cs[i]) ∧ Fits ks cs

theorem rows_in {d : Nat} {t e : TypeId} {ks : List Ck} {p : Option Addr} {n c : Nat} {x : DataW H} {ps : List MemPlace} (ht : P.underlying t = some (.slice e)) (hf : flat P d e = some ks) (hc : P.cellsOf e = ks.length) (hpos : 0 < ks.length)
    (h : DataW.Trod enc P w base spare held t (.slice p n c) x ps) : CellsIn ks w p n := by
  obtain ⟨fuel, h⟩ := h
  rcases DataW.trod_slice ht h with ⟨h0, _⟩ | ⟨a, len, cap, elems, rest, m, _, h0, _, hb, hl, hm, hlen, hel, _, _⟩
  · simp [Value.cells] at h0
    obtain ⟨rfl, rfl, rfl⟩ := h0
    exact fun j hj => absurd hj (by omega)
  · simp [Value.cells] at h0
    obtain ⟨rfl, rfl, rfl⟩ := h0
    have each : ∀ j, j < n → ∃ cs, w.cells? base (a.add (j * P.cellsOf e)) (P.cellsOf e) = some cs ∧ Fits ks cs := by
      intro j hj
      have h1 := hel j hj
      rw [List.getElem?_eq_getElem (by omega)] at h1
      cases hcs : w.cells? base (a.add (j * P.cellsOf e)) (P.cellsOf e) with
      | none => rw [hcs] at h1; cases h1
      | some cs => rw [hcs] at h1; exact ⟨cs, rfl, trod_flat hf h1⟩
    intro j hj
    obtain ⟨b, o, s⟩ := a
    have hs : s = none := by
      obtain ⟨cs, h1, _⟩ := each 0 (by omega)
      obtain ⟨_, hn, h2⟩ := World.cells?_some h1
      have h2 := h2 0 (by omega)
      rw [List.getElem?_eq_getElem (by omega)] at h2
      have := cell_spot h2
      simpa [Addr.add] using this
    subst hs
    obtain ⟨cs, h1, h2⟩ := each j hj
    obtain ⟨_, hn, h3⟩ := World.cells?_some h1
    refine ⟨b, o, cs, rfl, fun i hi => ?_, h2⟩
    have h4 := h3 i (by omega)
    rw [addr_add, addr_add, hc] at h4
    rw [h4, List.getElem?_eq_getElem hi]

end

end Go.Vc
