/-
  BLOCKS OF MEMORY: what a block holds, and what becomes of it when the world is written.
-/
import Derived.Test.YtifgijoeckoojaaVcG
set_option linter.unusedVariables false
set_option linter.unusedSimpArgs false
namespace Go.Vc
open Go.RowKit

/-- block b is a row of these cells, none of them frozen -/
def Blk (w : World) (b : Nat) (cs : List Value) (t : TypeId) : Prop := w.heap[b]? = some (.cells cs.toArray t (0, 0))

theorem Blk.lt {w : World} {b : Nat} {cs : List Value} {t : TypeId} (h : Blk w b cs t) : b < w.heap.size := (Array.getElem?_eq_some_iff.1 h).1

theorem Blk.cell {w : World} {b : Nat} {cs : List Value} {t : TypeId} (h : Blk w b cs t) (i : Nat) : w.cell? ⟨b, i, none⟩ = cs[i]? := by
  unfold Blk at h
  simp [World.cell?, h]

theorem Blk.cell_eq {w : World} {b : Nat} {cs : List Value} {t : TypeId} (h : Blk w b cs t) {i : Nat} {v : Value} (hv : cs[i]? = some v) : w.cell? ⟨b, i, none⟩ = some v := by rw [h.cell, hv]

theorem Blk.frozen {w : World} {b : Nat} {cs : List Value} {t : TypeId} (h : Blk w b cs t) (i : Nat) : w.frozen? ⟨b, i, none⟩ = false := by
  unfold Blk at h
  simp [World.frozen?, h]

theorem Blk.can {w : World} {b : Nat} {cs : List Value} {t : TypeId} (h : Blk w b cs t) {o n : Nat} (hn : o + n ≤ cs.length) : CanWrite w b o n := by
  intro j hj
  refine ⟨?_, h.frozen _⟩
  rw [h.cell]
  simp; omega

theorem Blk.row {w : World} {b : Nat} {cs : List Value} {t : TypeId} (h : Blk w b cs t) {o : Nat} {vs : List Value} (hv : ∀ j, (hj : j < vs.length) → cs[o + j]? = some vs[j]) : RowAt w b o vs := by
  intro j hj
  rw [h.cell, hv j hj]

theorem Blk.row0 {w : World} {b : Nat} {cs : List Value} {t : TypeId} (h : Blk w b cs t) : RowAt w b 0 cs := h.row fun j hj => by simp

theorem Blk.same {w w' : World} {b : Nat} {cs : List Value} {t : TypeId} (h : Blk w b cs t) (e : w'.heap[b]? = w.heap[b]?) : Blk w' b cs t := e.trans h

theorem Blk.alloc_new (w : World) (cs : List Value) (t : TypeId) : Blk (w.alloc (.cells cs.toArray t)) w.heap.size cs t := by
  unfold Blk
  show (w.heap.push _)[w.heap.size]? = _
  simp

theorem hp_alloc_new (w : World) (o : Obj) : (w.alloc o).heap[w.heap.size]? = some o := by
  show (w.heap.push _)[w.heap.size]? = _
  simp
theorem hp_alloc_old (w : World) (o : Obj) {k : Nat} (h : k < w.heap.size) : (w.alloc o).heap[k]? = w.heap[k]? := Below.heap_alloc _ _ _ h
theorem hp_setCell (w : World) (a : Addr) (u : Value) {k : Nat} (h : k ≠ a.block) : (w.setCell a u).heap[k]? = w.heap[k]? := Below.heap_setCell _ _ _ _ h

theorem Blk.set {w : World} {b : Nat} {cs : List Value} {t : TypeId} (h : Blk w b cs t) (i : Nat) (v : Value) : Blk (w.setCell ⟨b, i, none⟩ v) b (cs.set i v) t := by
  unfold Blk at h ⊢
  simp only [World.setCell, Array.getElem?_modify, h]
  simp

theorem hp_setCells (b : Nat) {k : Nat} (h : k ≠ b) : ∀ (vs : List Value) (o : Nat) (w : World), (w.setCells b o vs).heap[k]? = w.heap[k]?
  | [], _, _ => rfl
  | v :: r, o, w => by
    unfold World.setCells
    rw [hp_setCells b h r, hp_setCell _ _ _ h]

theorem size_setCells (b : Nat) : ∀ (vs : List Value) (o : Nat) (w : World), (w.setCells b o vs).heap.size = w.heap.size
  | [], _, _ => rfl
  | v :: r, o, w => by
    unfold World.setCells
    rw [size_setCells b r, World.size_setCell]

def setL (cs : List Value) (o : Nat) : List Value → List Value
  | [] => cs
  | v :: r => setL (cs.set o v) (o + 1) r

theorem Blk.sets {b : Nat} {t : TypeId} : ∀ (vs : List Value) {w : World} {cs : List Value} (o : Nat), Blk w b cs t → Blk (w.setCells b o vs) b (setL cs o vs) t
  | [], _, _, _, h => h
  | v :: r, _, _, o, h => by
    unfold World.setCells setL
    exact Blk.sets r (o + 1) (h.set o v)

theorem size_alloc' (w : World) (o : Obj) : (w.alloc o).heap.size = w.heap.size + 1 := World.size_alloc w o
theorem size_setCell' (w : World) (a : Addr) (v : Value) : (w.setCell a v).heap.size = w.heap.size := World.size_setCell w a v

/-- all blocks that existed, but those of S, are as they were -/
structure Chg (S : List Nat) (w w' : World) : Prop where
  os : w'.os = w.os
  tape : w'.tape = w.tape
  output : w'.output = w.output
  size : w.heap.size ≤ w'.heap.size
  block : ∀ k, k < w.heap.size → k ∉ S → w'.heap[k]? = w.heap[k]?

theorem Chg.refl (S : List Nat) (w : World) : Chg S w w := ⟨rfl, rfl, rfl, Nat.le_refl _, fun _ _ _ => rfl⟩
theorem Chg.trans {S T : List Nat} {a b c : World} (h : Chg S a b) (k : Chg T b c) (hT : ∀ x ∈ T, x ∈ S ∨ a.heap.size ≤ x) : Chg S a c :=
  ⟨k.os.trans h.os, k.tape.trans h.tape, k.output.trans h.output, Nat.le_trans h.size k.size, fun i hi hS =>
    (k.block i (Nat.lt_of_lt_of_le hi h.size) (fun hm => by rcases hT i hm with h | h; exact hS h; omega)).trans (h.block i hi hS)⟩
theorem Chg.step {S : List Nat} {a b c : World} (h : Chg S a b) (k : Chg [] b c) : Chg S a c := h.trans k (by simp)
theorem Chg.mono {S T : List Nat} {a b : World} (h : Chg S a b) (hST : ∀ x ∈ S, x ∈ T) : Chg T a b := ⟨h.os, h.tape, h.output, h.size, fun k hk hT => h.block k hk fun hm => hT (hST k hm)⟩
theorem Chg.alloc {S : List Nat} {a w : World} (h : Chg S a w) (o : Obj) : Chg S a (w.alloc o) :=
  h.step ⟨rfl, rfl, rfl, by simp, fun _ hk _ => hp_alloc_old _ _ hk⟩
theorem Chg.setCell {S : List Nat} {a w : World} (h : Chg S a w) {p : Addr} (hp : p.block ∈ S ∨ a.heap.size ≤ p.block) (u : Value) : Chg S a (w.setCell p u) :=
  h.trans (T := [p.block]) ⟨rfl, rfl, rfl, by simp, fun _ _ hn => hp_setCell _ _ _ (by simpa using hn)⟩ (by simpa using hp)
theorem setCells_keeps (b : Nat) : ∀ (vs : List Value) (o : Nat) (w : World), (w.setCells b o vs).os = w.os ∧ (w.setCells b o vs).tape = w.tape ∧ (w.setCells b o vs).output = w.output
  | [], _, _ => ⟨rfl, rfl, rfl⟩
  | v :: r, o, w => by unfold World.setCells; exact setCells_keeps b r (o + 1) _
theorem Chg.setCells {S : List Nat} {a w : World} (h : Chg S a w) {b : Nat} (hb : b ∈ S ∨ a.heap.size ≤ b) (o : Nat) (vs : List Value) : Chg S a (w.setCells b o vs) :=
  h.trans (T := [b]) ⟨(setCells_keeps b vs o w).1, (setCells_keeps b vs o w).2.1, (setCells_keeps b vs o w).2.2, by rw [size_setCells]; exact Nat.le_refl _, fun _ _ hn => hp_setCells b (by simpa using hn) vs o w⟩ (by simpa using hb)
theorem Chg.drewN {S : List Nat} {a w : World} (h : Chg S a w) (n : Nat) : Chg S a (w.drewN n) := ⟨h.os, h.tape, h.output, h.size, h.block⟩
/-- a block is written as a whole -/
def setB (w : World) (b : Nat) (o : Obj) : World := { w with heap := w.heap.setIfInBounds b o }
theorem hp_setB (w : World) {b k : Nat} (o : Obj) (h : k ≠ b) : (setB w b o).heap[k]? = w.heap[k]? := by
  simp only [setB]; rw [Array.getElem?_setIfInBounds_ne (by omega)]
theorem hp_setB_same (w : World) {b : Nat} (o : Obj) (h : b < w.heap.size) : (setB w b o).heap[b]? = some o := by
  simp [setB, h]
theorem size_setB (w : World) (b : Nat) (o : Obj) : (setB w b o).heap.size = w.heap.size := by simp [setB]
theorem Chg.setB {S : List Nat} {a w : World} (h : Chg S a w) {b : Nat} (hb : b ∈ S ∨ a.heap.size ≤ b) (o : Obj) : Chg S a (setB w b o) :=
  h.trans (T := [b]) ⟨rfl, rfl, rfl, by rw [size_setB]; exact Nat.le_refl _, fun _ _ hn => hp_setB _ _ (by simpa using hn)⟩ (by simpa using hb)

theorem Chg.below {S : List Nat} {B : Nat} {w w' : World} (h : Chg S w w') (hB : B ≤ w.heap.size) (hS : ∀ x ∈ S, B ≤ x) : Below B w w' :=
  ⟨h.os, h.tape, h.output, h.size, fun k hk => h.block k (by omega) fun hm => by have := hS k hm; omega⟩
theorem Chg.blk {S : List Nat} {w w' : World} (h : Chg S w w') {b : Nat} {cs : List Value} {t : TypeId} (hb : Blk w b cs t) (hS : b ∉ S) : Blk w' b cs t := hb.same (h.block b hb.lt hS)
theorem Chg.cell {S : List Nat} {w w' : World} (h : Chg S w w') {b o : Nat} {v : Value} (hc : w.cell? ⟨b, o, none⟩ = some v) (hS : b ∉ S) : w'.cell? ⟨b, o, none⟩ = some v := by
  have hlt : b < w.heap.size := by
    rcases Nat.lt_or_ge b w.heap.size with h' | h'
    · exact h'
    · simp [World.cell?, Array.getElem?_eq_none h'] at hc
  rw [World.cell?_of_block (w := w) (h.block b hlt hS)]
  exact hc

/-! the same, of a world that has a name -/
theorem Blk.eqSet {w w' : World} {b i : Nat} {cs : List Value} {t : TypeId} {v : Value} (h : Blk w b cs t) (e : w' = w.setCell ⟨b, i, none⟩ v) : Blk w' b (cs.set i v) t := by rw [e]; exact h.set i v
theorem Blk.eqSets {w w' : World} {b o : Nat} {cs vs : List Value} {t : TypeId} (h : Blk w b cs t) (e : w' = w.setCells b o vs) : Blk w' b (setL cs o vs) t := by rw [e]; exact h.sets vs o
theorem Blk.eqNew {w w' : World} {cs : List Value} {t : TypeId} (e : w' = w.alloc (.cells cs.toArray t)) : Blk w' w.heap.size cs t := by rw [e]; exact Blk.alloc_new w cs t
theorem Blk.eqAlloc {w w' : World} {b : Nat} {cs : List Value} {t : TypeId} {o : Obj} (h : Blk w b cs t) (e : w' = w.alloc o) : Blk w' b cs t := h.same (by rw [e]; exact hp_alloc_old _ _ h.lt)
theorem Blk.eqOther {w w' : World} {b : Nat} {cs : List Value} {t : TypeId} {a : Addr} {v : Value} (h : Blk w b cs t) (e : w' = w.setCell a v) (hn : b ≠ a.block) : Blk w' b cs t := h.same (by rw [e]; exact hp_setCell _ _ _ hn)
theorem Blk.eqOthers {w w' : World} {b c o : Nat} {cs vs : List Value} {t : TypeId} (h : Blk w b cs t) (e : w' = w.setCells c o vs) (hn : b ≠ c) : Blk w' b cs t := h.same (by rw [e]; exact hp_setCells _ hn _ _ _)
theorem Chg.eqAlloc {S : List Nat} {a w w' : World} {o : Obj} (h : Chg S a w) (e : w' = w.alloc o) : Chg S a w' := by rw [e]; exact h.alloc o
theorem Chg.eqSet {S : List Nat} {a w w' : World} {p : Addr} {v : Value} (h : Chg S a w) (e : w' = w.setCell p v) (hp : p.block ∈ S ∨ a.heap.size ≤ p.block) : Chg S a w' := by rw [e]; exact h.setCell hp v
theorem Chg.eqSets {S : List Nat} {a w w' : World} {b o : Nat} {vs : List Value} (h : Chg S a w) (e : w' = w.setCells b o vs) (hp : b ∈ S ∨ a.heap.size ≤ b) : Chg S a w' := by rw [e]; exact h.setCells hp o vs

theorem drewN_heap (w : World) (n : Nat) : (w.drewN n).heap = w.heap := rfl
theorem blk_drewN {w : World} {n b : Nat} {cs : List Value} {t : TypeId} (h : Blk w b cs t) : Blk (w.drewN n) b cs t := h

/-- a contract of the form that 'vcF' gives -/
theorem calls_of {P : Program} {f : FuncId} {args : Array Value} {w : World} {J : Value → World → Prop} {R : Ending → World → Prop}
    (h : Calls P f args w fun e w' => ∃ v, e = .returned v ∧ J v w') (hR : ∀ v w', J v w' → R (.returned v) w') : Calls P f args w R :=
  h.mono fun e w' ⟨v, he, hj⟩ => by subst he; exact hR v w' hj

end Go.Vc
