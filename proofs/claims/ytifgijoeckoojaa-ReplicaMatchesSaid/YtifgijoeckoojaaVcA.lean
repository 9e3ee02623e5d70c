/-
  THE CONDITIONS OF A WALK AS ONE FORMULA: the operations. 'vcOp' says, for one operation in a known frame, what must hold of the memory so that the walk can go on; 'vcOp_sound' says that this suffices.
-/
import Derived.WalkKit
import Derived.WalkSpells
import Derived.WalkLawsBesides
import Derived.Deep.QuietTactic
set_option linter.unusedVariables false
set_option linter.unusedSimpArgs false
namespace Go.Vc
open Go.RowKit

/-- how one cell may look -/
inductive Sc where
  | int (k : IntKind) | bool | str | ptr | slice | map | fn | any | adr

def Sc.ex : Sc → (Value → Prop) → Prop
  | .int k, K => ∃ n : Int, K (.int k n)
  | .bool, K => ∃ b : Bool, K (.bool b)
  | .str, K => ∃ s : ByteArray, K (.string s)
  | .ptr, K => ∃ p : Option Addr, K (.pointer p)
  | .slice, K => ∃ p : Option Addr, ∃ n c : Nat, K (.slice p n c)
  | .map, K => ∃ r : Option Nat, K (.map r)
  | .fn, K => ∃ (f : FuncId) (a c : Array Value), K (.func (.func f) a c)
  | .any, K => ∃ v : Value, K v
  | .adr, K => ∃ b o : Nat, K (.pointer (some ⟨b, o, none⟩))

theorem Sc.ex_some {s : Sc} {K : Value → Prop} (h : s.ex K) : ∃ v, K v := by
  cases s <;> simp only [Sc.ex] at h
  case slice => obtain ⟨p, n, c, h⟩ := h; exact ⟨_, h⟩
  case fn => obtain ⟨p, a, c, h⟩ := h; exact ⟨_, h⟩
  case adr => obtain ⟨b, o, h⟩ := h; exact ⟨_, h⟩
  all_goals (obtain ⟨x, h⟩ := h; exact ⟨_, h⟩)

def Sc.of : Value → Sc
  | .int k _ => .int k
  | .bool _ => .bool
  | .string _ => .str
  | .pointer _ => .ptr
  | .slice _ _ _ => .slice
  | .map _ => .map
  | _ => .any

/-- how a value of a type looks: one cell, or so many -/
inductive Sh where
  | one (s : Sc) | agg (l : List Sc)

def Sh.of : Value → Sh
  | .agg cs => .agg (cs.toList.map Sc.of)
  | .nilFunc => .one .fn
  | v => .one (Sc.of v)

def shape (P : Program) (t : TypeId) : Option Sh := (P.info? t).bind fun i => i.zero.map Sh.of

def exL : List Sc → (List Value → Prop) → Prop
  | [], K => K []
  | s :: r, K => s.ex fun v => exL r fun vs => K (v :: vs)

theorem exL_some : ∀ {l : List Sc} {K : List Value → Prop}, exL l K → ∃ vs, K vs
  | [], _, h => ⟨[], h⟩
  | _ :: _, _, h => by
    obtain ⟨v, h⟩ := Sc.ex_some h
    obtain ⟨vs, h⟩ := exL_some h
    exact ⟨_, h⟩

theorem exL_len : ∀ {l : List Sc} {K : List Value → Prop}, exL l K → ∃ vs, vs.length = l.length ∧ K vs
  | [], _, h => ⟨[], rfl, h⟩
  | _ :: _, _, h => by
    obtain ⟨v, h⟩ := Sc.ex_some h
    obtain ⟨vs, hl, h⟩ := exL_len h
    exact ⟨_, by simp [hl], h⟩

def Sh.ex : Sh → (Value → Prop) → Prop
  | .one s, K => s.ex K
  | .agg l, K => exL l fun vs => K (.agg vs.toArray)

theorem Sh.ex_some {s : Sh} {K : Value → Prop} (h : s.ex K) : ∃ v, K v := by
  cases s with
  | one s => exact Sc.ex_some h
  | agg l => obtain ⟨vs, h⟩ := exL_some h; exact ⟨_, h⟩

def shapeK (P : Program) (t : TypeId) (K : Value → Prop) : Prop :=
  match shape P t with
  | some s => s.ex K
  | none => ∃ v, K v

theorem shapeK_some {P : Program} {t : TypeId} {K : Value → Prop} (h : shapeK P t K) : ∃ v, K v := by
  unfold shapeK at h
  split at h
  · exact Sh.ex_some h
  · exact h

def shapesK (P : Program) : List TypeId → (List Value → Prop) → Prop
  | [], K => K []
  | t :: r, K => shapeK P t fun v => shapesK P r fun vs => K (v :: vs)

theorem shapesK_some {P : Program} : ∀ {l : List TypeId} {K : List Value → Prop}, shapesK P l K → ∃ vs, K vs
  | [], _, h => ⟨[], h⟩
  | _ :: _, _, h => by
    obtain ⟨v, h⟩ := shapeK_some h
    obtain ⟨vs, h⟩ := shapesK_some h
    exact ⟨_, h⟩

def tupled : List Value → Value
  | [v] => v
  | vs => .tuple vs.toArray

/-- what a call hands back: 'K' takes the value -/
def retK (P : Program) (ts : List TypeId) (e : Ending) (K : Value → Prop) : Prop :=
  shapesK P ts fun vs => e = .returned (tupled vs) ∧ K (tupled vs)

/-- a call of a function: its contract must give 'retK' -/
def callK (P : Program) (f : FuncId) (args : Array Value) (w : World) (K : Value → World → Prop) : Prop :=
  match P.funcs[f]? with
  | some fn => Calls P f args w fun e w' => retK P fn.resultTypes.toList e fun v => K v w'
  | none => False

theorem callK_sound {P : Program} {f : FuncId} {args : Array Value} {w : World} {K : Value → World → Prop} (h : callK P f args w K) :
    Calls P f args w fun e w' => ∃ v, e = .returned v ∧ K v w' := by
  unfold callK at h
  split at h
  · refine h.mono fun e w' h => ?_
    obtain ⟨vs, he, hk⟩ := shapesK_some h
    exact ⟨_, he, hk⟩
  · exact h.elim

/-! ### memory -/

/-- cells that follow each other -/
def exCells (w : World) (b o : Nat) : List Sc → Nat → (List Value → Prop) → Prop
  | [], _, K => K []
  | s :: r, i, K => s.ex fun v => w.cell? ⟨b, o + i, none⟩ = some v ∧ exCells w b o r (i + 1) fun vs => K (v :: vs)

theorem exCells_some {w : World} {b o : Nat} : ∀ {l : List Sc} {i : Nat} {K : List Value → Prop}, exCells w b o l i K →
    ∃ vs, vs.length = l.length ∧ (∀ j, (h : j < vs.length) → w.cell? ⟨b, o + (i + j), none⟩ = some vs[j]) ∧ K vs
  | [], _, _, h => ⟨[], rfl, fun j h => by simp at h, h⟩
  | _ :: r, i, _, h => by
    obtain ⟨v, hv, h⟩ := Sc.ex_some h
    obtain ⟨vs, hl, hc, h⟩ := exCells_some h
    refine ⟨v :: vs, by simp [hl], fun j hj => ?_, h⟩
    cases j with
    | zero => simpa using hv
    | succ j =>
      have := hc j (by simpa using hj)
      rw [show i + (j + 1) = i + 1 + j by omega, this]; simp

/-- the cells from ⟨b, o⟩ on hold these values -/
def RowAt (w : World) (b o : Nat) (vs : List Value) : Prop := ∀ j, (h : j < vs.length) → w.cell? ⟨b, o + j, none⟩ = some vs[j]

theorem run_loadCellsFrom {P : Program} {w : World} {b o : Nat} : ∀ (vs : List Value) (i : Nat) (acc : Array Value),
    (∀ j, (h : j < vs.length) → w.cell? ⟨b, o + (i + j), none⟩ = some vs[j]) →
    (loadCellsFrom ⟨b, o, none⟩ i vs.length acc).run P w = .ok (acc ++ vs.toArray) w
  | [], i, acc, _ => by simp [loadCellsFrom]
  | v :: vs, i, acc, h => by
    have h0 : w.cell? ((⟨b, o, none⟩ : Addr).add i) = some v := by
      have := h 0 (by simp)
      simp only [Nat.add_zero, List.getElem_cons_zero] at this
      unfold Addr.add
      split
      · rename_i e; subst e; simpa using this
      · exact this
    have ih := run_loadCellsFrom (P := P) (w := w) (b := b) (o := o) vs (i + 1) (acc.push v) (fun j hj => by
      have := h (j + 1) (by simpa using hj)
      rw [show i + 1 + j = i + (j + 1) by omega, this]; simp)
    simp only [List.length_cons, loadCellsFrom, Sem.run_bind, load, Sem.run, h0, Result.andThen, Sem.run_pure', ih]
    simp

/-- how the cells of a variable of a type look, and whether it is a struct or an array -/
def vcLoad (P : Program) (t : TypeId) (w : World) (b o : Nat) (K : Value → Prop) : Prop :=
  match P.underlying t, P.info? t with
  | some (.struct _), some i | some (.array _ _), some i =>
    match i.zero.map Sh.of with
    | some (.agg l) => if l.length = i.size then exCells w b o l 0 fun vs => K (.agg vs.toArray) else False
    | _ => False
  | some _, some i =>
    match i.zero.map Sh.of with
    | some (.one s) => s.ex fun v => w.cell? ⟨b, o, none⟩ = some v ∧ K v
    | _ => False
  | _, _ => False

def aggD : TypeDesc → Bool
  | .struct _ | .array _ _ => true
  | _ => false

theorem run_isAgg {P : Program} {t : TypeId} {d : TypeDesc} {w : World} (h : P.underlying t = some d) :
    (isAgg t).run P w = .ok (aggD d) w := by
  unfold isAgg
  simp only [Sem.run_bind, run_underlying h, Result.andThen]
  cases d <;> simp [aggD]

theorem run_sizeOf {P : Program} {t : TypeId} {i : TypeInfo} {w : World} (h : P.info? t = some i) : (sizeOf t).run P w = .ok i.size w := by
  simp [sizeOf, typeInfo, h]

theorem vcLoad_sound {P : Program} {t : TypeId} {w : World} {b o : Nat} {K : Value → Prop} (h : vcLoad P t w b o K) :
    ∃ v, (loadVar t ⟨b, o, none⟩).run P w = .ok v w ∧ K v := by
  have aggCase : ∀ {d : TypeDesc} {i : TypeInfo}, P.underlying t = some d → aggD d = true → P.info? t = some i →
      (match i.zero.map Sh.of with | some (.agg l) => if l.length = i.size then exCells w b o l 0 fun vs => K (.agg vs.toArray) else False | _ => False) →
      ∃ v, (loadVar t ⟨b, o, none⟩).run P w = .ok v w ∧ K v := by
    intro d i hd hagg hi h
    split at h
    · rename_i l _
      split at h
      · rename_i hl
        obtain ⟨vs, hlen, hc, hk⟩ := exCells_some h
        refine ⟨_, ?_, hk⟩
        have hr := run_loadCellsFrom (P := P) (w := w) (b := b) (o := o) vs 0 #[] hc
        unfold loadVar loadCells
        simp only [Sem.run_bind, run_isAgg hd, hagg, Result.andThen, if_true, run_sizeOf hi, ← hl, ← hlen, hr, Sem.run_pure]
        simp
      · exact h.elim
    · exact h.elim
  unfold vcLoad at h
  split at h
  · rename_i hd hi; exact aggCase hd rfl hi h
  · rename_i hd hi; exact aggCase hd rfl hi h
  · rename_i d i hns hna hd hi
    split at h
    · obtain ⟨v, hv, hk⟩ := Sc.ex_some h
      refine ⟨v, ?_, hk⟩
      have hf : aggD d = false := by
        cases d <;> first | rfl | exact absurd rfl (hns _) | exact absurd rfl (hna _ _)
      unfold loadVar
      simp only [Sem.run_bind, run_isAgg hd, hf, Result.andThen, Bool.false_eq_true, if_false, load, Sem.run, hv]
    · exact h.elim
  · exact h.elim

def oneC : Value → Bool
  | .agg _ | .tuple _ => false
  | _ => true

/-- so many cells from ⟨b, o⟩ on may be written -/
def CanWrite (w : World) (b o n : Nat) : Prop := ∀ j, j < n → (w.cell? ⟨b, o + j, none⟩).isSome = true ∧ w.frozen? ⟨b, o + j, none⟩ = false

theorem run_storeCells {P : Program} {b o : Nat} : ∀ (vs : List Value) (i : Nat) (w : World), (∀ v ∈ vs, oneC v = true) →
    (∀ j, j < vs.length → (w.cell? ⟨b, o + (i + j), none⟩).isSome = true ∧ w.frozen? ⟨b, o + (i + j), none⟩ = false) →
    (storeCells ⟨b, o, none⟩ vs i).run P w = .ok () (w.setCells b (o + i) vs)
  | [], i, w, _, _ => by simp [storeCells, World.setCells]
  | v :: vs, i, w, h1, h2 => by
    obtain ⟨hs, hf⟩ := h2 0 (by simp)
    simp only [Nat.add_zero] at hs hf
    have ha : (⟨b, o, none⟩ : Addr).add i = ⟨b, o + i, none⟩ := by unfold Addr.add; split <;> simp_all
    obtain ⟨u, hu⟩ := Option.isSome_iff_exists.1 hs
    have ih := run_storeCells (P := P) (b := b) (o := o) vs (i + 1) (w.setCell ⟨b, o + i, none⟩ v) (fun x hx => h1 x (by simp [hx])) (fun j hj => by
      obtain ⟨k1, k2⟩ := h2 (j + 1) (by simpa using hj)
      rw [show i + (j + 1) = i + 1 + j by omega] at k1 k2
      rw [World.frozen?_setCell]
      refine ⟨?_, k2⟩
      obtain ⟨u, hu⟩ := Option.isSome_iff_exists.1 k1
      obtain ⟨v', hv'⟩ := cell?_setCell_some (p := ⟨b, o + i, none⟩) (x := v) hu
      simp [hv'])
    have hv : oneC v = true := h1 v (by simp)
    have hrun : ((store (⟨b, o + i, none⟩ : Addr) v).run P w) = .ok () (w.setCell ⟨b, o + i, none⟩ v) := by
      unfold store
      cases v <;> simp [oneC] at hv <;> simp [Sem.run, hu, hf]
    simp only [storeCells, Sem.run_bind, ha, hrun, Result.andThen, ih, World.setCells]
    rw [show o + i + 1 = o + (i + 1) by omega]

def vcStore (P : Program) (t : TypeId) (w : World) (b o : Nat) (v : Value) (K : World → Prop) : Prop :=
  match P.info? t with
  | some i =>
    match v with
    | .agg cs => match Nat.beq cs.toList.length i.size && cs.toList.all oneC with
      | true => CanWrite w b o i.size ∧ ∀ w', w' = w.setCells b o cs.toList → K w'
      | false => False
    | v => match Nat.beq i.size 1 && oneC v with
      | true => CanWrite w b o 1 ∧ ∀ w', w' = w.setCell ⟨b, o, none⟩ v → K w'
      | false => False
  | none => False

theorem run_storeVar_one {P : Program} {t : TypeId} {i : TypeInfo} {w : World} {b o : Nat} {v : Value} (hi : P.info? t = some i) (hs : i.size = 1) (h0 : oneC v = true)
    (h1 : (w.cell? ⟨b, o, none⟩).isSome = true) (h2 : w.frozen? ⟨b, o, none⟩ = false) : (storeVar t ⟨b, o, none⟩ v).run P w = .ok () (w.setCell ⟨b, o, none⟩ v) := by
  have hcells : v.cells = #[v] := by cases v <;> first | rfl | cases h0
  have hr := run_storeCells (P := P) (b := b) (o := o) [v] 0 w (by simpa using h0) (fun j hj => by
    have : j = 0 := by simpa using hj
    subst this; exact ⟨h1, h2⟩)
  unfold storeVar
  simp only [hcells, Sem.run_bind, run_sizeOf hi, Result.andThen, hs, List.size_toArray, List.length_cons, List.length_nil, ne_eq, not_true_eq_false, if_false]
  simpa [World.setCells] using hr

theorem vcStore_sound {P : Program} {t : TypeId} {w : World} {b o : Nat} {v : Value} {K : World → Prop} (h : vcStore P t w b o v K) :
    ∃ w', (storeVar t ⟨b, o, none⟩ v).run P w = .ok () w' ∧ K w' := by
  unfold vcStore at h
  cases hi : P.info? t with
  | none => rw [hi] at h; exact h.elim
  | some i =>
    rw [hi] at h
    simp only at h
    have one : (match Nat.beq i.size 1 && oneC v with | true => CanWrite w b o 1 ∧ ∀ w', w' = w.setCell ⟨b, o, none⟩ v → K w' | false => False) →
        ∃ w', (storeVar t ⟨b, o, none⟩ v).run P w = .ok () w' ∧ K w' := by
      intro h
      split at h
      · rename_i hc
        simp only [Bool.and_eq_true] at hc
        obtain ⟨h1, h3⟩ := h
        obtain ⟨h1, h2⟩ := h1 0 (by omega)
        exact ⟨_, run_storeVar_one hi (Nat.eq_of_beq_eq_true hc.1) hc.2 h1 h2, h3 _ rfl⟩
      · exact h.elim
    cases v
    case agg cs =>
      simp only at h
      split at h
      · rename_i hc
        simp only [Bool.and_eq_true] at hc
        have hl : cs.size = i.size := by have := Nat.eq_of_beq_eq_true hc.1; simpa using this
        obtain ⟨h1, h2⟩ := h
        refine ⟨_, ?_, h2 _ rfl⟩
        have hr := run_storeCells (P := P) (b := b) (o := o) cs.toList 0 w (fun v hv => List.all_eq_true.1 hc.2 v hv) (fun j hj => by rw [Nat.zero_add]; exact h1 j (by simp at hj; omega))
        unfold storeVar
        simp only [Value.cells, Sem.run_bind, run_sizeOf hi, Result.andThen, hl, ne_eq, not_true_eq_false, if_false]
        simpa using hr
      · exact h.elim
    all_goals exact one h

end Go.Vc
