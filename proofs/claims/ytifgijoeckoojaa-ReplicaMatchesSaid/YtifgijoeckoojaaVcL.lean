/-
  PLAIN DATA IN MEMORY: a class of Lean types that Go values stand for ('Go'), with what it takes to read them ('rep'); and
  WHAT A WALK OWNS: a list of blocks with their contents ('Ctx'), beside facts that stay ('Stable').
-/
import Derived.Test.YtifgijoeckoojaaVcJ
import Derived.Laws.AppendOwn
set_option linter.unusedVariables false
set_option linter.unusedSimpArgs false
namespace Go.Vc
open Go.ChangeShapes Go.WideShapes Go.RowKit

/-! ### shapes of plain data -/
inductive Ty where
  | int (k : IntKind) | bool | str | opq
  | slice (e : Ty)
  | pair (a b : Ty)

def Ty.size : Ty → Nat
  | .pair a b => a.size + b.size
  | _ => 1

def isFs (P : Program) (f : Ty → TypeId → Bool) : List Field → Nat → Ty → Bool
  | [], _, _ => false
  | [x], off, ty => Nat.beq x.offset off && f ty x.type && Nat.beq (P.cellsOf x.type) ty.size
  | x :: y :: r, off, .pair a b => Nat.beq x.offset off && f a x.type && Nat.beq (P.cellsOf x.type) a.size && isFs P f (y :: r) (off + a.size) b
  | _, _, _ => false

/-- has the type t of the program this shape? -/
def Ty.is (P : Program) : Nat → Ty → TypeId → Bool
  | 0, _, _ => false
  | d + 1, .int k, t => match P.underlying t with | some (.int k') => decide (k' = k) | _ => false
  | d + 1, .bool, t => match P.underlying t with | some .bool => true | _ => false
  | d + 1, .str, t => match P.underlying t with | some .string => true | _ => false
  | d + 1, .opq, t => match P.underlying t with | some (.slice _) => true | _ => false
  | d + 1, .slice te, t => match P.underlying t with | some (.slice e) => Ty.is P d te e && Nat.beq (P.cellsOf e) te.size | _ => false
  | d + 1, .pair a b, t => match P.underlying t with
    | some (.struct fs) => Nat.beq (P.cellsOf t) (Ty.pair a b).size && isFs P (Ty.is P d) fs.toList 0 (.pair a b)
    | _ => false

/-- changed at most the blocks M; and M' has no older block than M -/
structure Step (M M' : List Nat) (w w' : World) : Prop where
  chg : Chg M w w'
  sub : ∀ b ∈ M', b ∈ M ∨ w.heap.size ≤ b

/-- a fact that stays as long as only the blocks M are written -/
class Stable (Φ : List Nat → World → Prop) : Prop where
  step : ∀ {M M' : List Nat} {w w' : World}, Step M M' w w' → Φ M w → Φ M' w'

structure Opens (ty : Ty) (α : Type) (rep : List Nat → World → List Value → α → Prop) : Prop where
  ap : ∀ {H : Type} {enc : TypeId × Value → H} {P : Program} {W : World} {d fuel : Nat} {t : TypeId} {cs : List Value} {x : DataW H × List MemPlace},
    Ty.is P d ty t = true → DataW.trod enc P W 0 (fun _ => true) true fuel t cs = some x → ∃ y : α, rep [] W cs y

structure OpensFs (ty : Ty) (α : Type) (rep : List Nat → World → List Value → α → Prop) : Prop where
  ap : ∀ {H : Type} {enc : TypeId × Value → H} {P : Program} {W : World} {d fuel : Nat} {fs : List Field} {off : Nat} {cs : List Value},
    isFs P (Ty.is P d) fs off ty = true → (∀ f ∈ fs, ∃ y, DataW.trod enc P W 0 (fun _ => true) true fuel f.type ((cs.drop f.offset).take (P.cellsOf f.type)) = some y) →
      off + ty.size = cs.length → ∃ y : α, rep [] W (cs.drop off) y

/-- a Lean type that stands for plain Go data -/
class Gv (α : Type) where
  ty : Ty
  rep : List Nat → World → List Value → α → Prop
  len : ∀ {M w cs x}, rep M w cs x → cs.length = ty.size
  pos : 0 < ty.size
  stable : ∀ {M M' : List Nat} {w w' : World} {cs x}, Step M M' w w' → rep M w cs x → rep M' w' cs x
  opens : Opens ty α rep
  opensFs : OpensFs ty α rep

theorem opensFs_one {ty : Ty} {α : Type} {rep : List Nat → World → List Value → α → Prop} (ho : Opens ty α rep) {H : Type} {enc : TypeId × Value → H} {P : Program} {W : World} {d fuel : Nat} {f : Field} {off : Nat} {cs : List Value}
    (h : isFs P (Ty.is P d) [f] off ty = true) (ht : ∃ y, DataW.trod enc P W 0 (fun _ => true) true fuel f.type ((cs.drop f.offset).take (P.cellsOf f.type)) = some y) (hl : off + ty.size = cs.length) : ∃ y : α, rep [] W (cs.drop off) y := by
  simp only [isFs, Bool.and_eq_true] at h
  obtain ⟨⟨h1, h2⟩, h3⟩ := h
  have h1 := Nat.eq_of_beq_eq_true h1
  have h3 := Nat.eq_of_beq_eq_true h3
  obtain ⟨y, hy⟩ := ht
  rw [h1, h3, List.take_of_length_le (by simp; omega)] at hy
  exact ho.ap h2 hy

theorem opensFs_plain {ty : Ty} {α : Type} {rep : List Nat → World → List Value → α → Prop} (hp : ∀ a b, ty ≠ .pair a b) (ho : Opens ty α rep) : OpensFs ty α rep := by
  constructor
  intro H enc P W d fuel fs off cs h ht hl
  match fs, h with
  | [f], h => exact opensFs_one ho h (ht f (by simp)) hl
  | f :: g :: r, h =>
    cases ty
    case pair => exact absurd rfl (hp _ _)
    all_goals simp [isFs] at h

/-! ### instances -/
theorem int_opens : Opens (.int .i64) Int (fun _ _ cs x => cs = [.int .i64 x] ∧ I64 x) := by
  constructor
  intro H enc P W d fuel t cs x h hx
  cases d with
  | zero => simp [Ty.is] at h
  | succ d =>
  cases fuel with
  | zero => simp [DataW.trod] at hx
  | succ fuel =>
  unfold Ty.is at h
  split at h
  · rename_i k ht
    have : k = .i64 := by simpa using h
    subst this
    unfold DataW.trod at hx
    rw [ht] at hx
    split at hx <;> simp_all
    rename_i k n hk
    obtain ⟨⟨rfl, hw⟩, _⟩ := hx
    simp only [Lit.wf, Bool.and_eq_true, decide_eq_true_eq] at hw
    subst hk
    simp [IntKind.min, IntKind.max, IntKind.signed, IntKind.bits] at hw
    unfold I64
    omega
  · cases h

instance goInt : Gv Int where
  ty := .int .i64
  rep _ _ cs x := cs = [.int .i64 x] ∧ I64 x
  len h := by rw [h.1]; rfl
  pos := by decide
  stable _ h := h
  opens := int_opens
  opensFs := opensFs_plain (ty := .int .i64) (fun _ _ h => by cases h) int_opens

theorem bool_opens : Opens .bool Bool (fun _ _ cs x => cs = [.bool x]) := by
  constructor
  intro H enc P W d fuel t cs x h hx
  cases d with
  | zero => simp [Ty.is] at h
  | succ d =>
  cases fuel with
  | zero => simp [DataW.trod] at hx
  | succ fuel =>
  unfold Ty.is at h
  split at h
  · rename_i ht
    unfold DataW.trod at hx
    rw [ht] at hx
    split at hx <;> simp_all
  · cases h

instance goBool : Gv Bool where
  ty := .bool
  rep _ _ cs x := cs = [.bool x]
  len h := by rw [h]; rfl
  pos := by decide
  stable _ h := h
  opens := bool_opens
  opensFs := opensFs_plain (ty := .bool) (fun _ _ h => by cases h) bool_opens

theorem str_opens : Opens .str ByteArray (fun _ _ cs x => cs = [.string x] ∧ x.size ≤ maxLen) := by
  constructor
  intro H enc P W d fuel t cs x h hx
  cases d with
  | zero => simp [Ty.is] at h
  | succ d =>
  cases fuel with
  | zero => simp [DataW.trod] at hx
  | succ fuel =>
  unfold Ty.is at h
  split at h
  · rename_i ht
    unfold DataW.trod at hx
    rw [ht] at hx
    split at hx <;> simp_all
  · cases h

instance goStr : Gv ByteArray where
  ty := .str
  rep _ _ cs x := cs = [.string x] ∧ x.size ≤ maxLen
  len h := by rw [h.1]; rfl
  pos := by decide
  stable _ h := h
  opens := str_opens
  opensFs := opensFs_plain (ty := .str) (fun _ _ h => by cases h) str_opens

/-- a slice of which only the length is told -/
structure Opq where
  len : Nat

theorem opq_opens : Opens .opq Opq (fun _ _ cs x => ∃ p c, cs = [.slice p x.len c] ∧ x.len ≤ c ∧ c ≤ maxLen) := by
  constructor
  intro H enc P W d fuel t cs x h hx
  cases d with
  | zero => simp [Ty.is] at h
  | succ d =>
  unfold Ty.is at h
  split at h
  · rename_i e ht
    rcases DataW.trod_slice ht hx with ⟨rfl, _⟩ | ⟨a, len, cap, _, _, _, _, rfl, _, _, hl, hm, _⟩
    · exact ⟨⟨0⟩, none, 0, rfl, by simp, by simp [maxLen]⟩
    · exact ⟨⟨len⟩, some a, cap, rfl, hl, hm⟩
  · cases h

instance goOpq : Gv Opq where
  ty := .opq
  rep _ _ cs x := ∃ p c, cs = [.slice p x.len c] ∧ x.len ≤ c ∧ c ≤ maxLen
  len h := by obtain ⟨p, c, rfl, _⟩ := h; rfl
  pos := by decide
  stable _ h := h
  opens := opq_opens
  opensFs := opensFs_plain (ty := .opq) (fun _ _ h => by cases h) opq_opens

/-- the elements of a slice lie there -/
def Sl {α : Type} [Gv α] (M : List Nat) (w : World) (p : Option Addr) (l : List α) : Prop :=
  ∀ j, (hj : j < l.length) → ∃ b o cs, p = some ⟨b, o, none⟩ ∧ b ∉ M ∧ RowAt w b (o + j * (Gv.ty α).size) cs ∧ Gv.rep M w cs l[j]

theorem Chg.row {S : List Nat} {w w' : World} (h : Chg S w w') {b o : Nat} {vs : List Value} (hc : RowAt w b o vs) (hS : b ∉ S) : RowAt w' b o vs :=
  fun j hj => h.cell (hc j hj) hS

theorem row_lt {w : World} {b o : Nat} {vs : List Value} (h : RowAt w b o vs) (hp : 0 < vs.length) : b < w.heap.size := by
  have h0 := h 0 hp
  rcases Nat.lt_or_ge b w.heap.size with h' | h'
  · exact h'
  · simp [World.cell?, Array.getElem?_eq_none h'] at h0

theorem Sl.stable {α : Type} [Gv α] {M M' : List Nat} {w w' : World} {p : Option Addr} {l : List α} (hs : Step M M' w w') (h : Sl M w p l) : Sl M' w' p l := by
  intro j hj
  obtain ⟨b, o, cs, h1, h2, h3, h4⟩ := h j hj
  have hlt := row_lt h3 (by rw [Gv.len h4]; exact Gv.pos)
  exact ⟨b, o, cs, h1, fun hm => by rcases hs.sub b hm with h | h; exact h2 h; omega, hs.chg.row h3 h2, Gv.stable hs h4⟩

def repList {α : Type} [Gv α] (M : List Nat) (w : World) (cs : List Value) (l : List α) : Prop :=
  ∃ p c, cs = [.slice p l.length c] ∧ l.length ≤ c ∧ c ≤ maxLen ∧ Sl M w p l

theorem list_build {α : Type} {p : Nat → α → Prop} : ∀ (n : Nat), (∀ j, j < n → ∃ x, p j x) → ∃ l : List α, l.length = n ∧ ∀ j, (hj : j < l.length) → p j l[j]
  | 0, _ => ⟨[], rfl, fun j hj => by simp at hj⟩
  | n + 1, h => by
    obtain ⟨l, hl, hp⟩ := list_build n fun j hj => h j (by omega)
    obtain ⟨x, hx⟩ := h n (by omega)
    refine ⟨l ++ [x], by simp [hl], fun j hj => ?_⟩
    by_cases hj' : j < l.length
    · rw [List.getElem_append_left hj']; exact hp j hj'
    · have : j = n := by simp at hj; omega
      subst this
      rw [List.getElem_append_right (by omega)]
      simpa [hl] using hx

theorem list_opens {α : Type} [Gv α] : Opens (.slice (Gv.ty α)) (List α) repList := by
  constructor
  intro H enc P W d fuel t cs x h hx
  cases d with
  | zero => simp [Ty.is] at h
  | succ d =>
  unfold Ty.is at h
  split at h
  · rename_i e ht
    simp only [Bool.and_eq_true] at h
    obtain ⟨h1, h2⟩ := h
    have hsz := Nat.eq_of_beq_eq_true h2
    rcases DataW.trod_slice ht hx with ⟨rfl, _⟩ | ⟨a, len, cap, elems, rest, m, _, rfl, _, _, hl, hm, hlen, hel, _⟩
    · exact ⟨[], none, 0, rfl, by simp, by simp [maxLen], fun j hj => by simp at hj⟩
    · have spot : 0 < len → ∃ b o, a = ⟨b, o, none⟩ := by
        intro hpos0
        have h3 := hel 0 hpos0
        rw [List.getElem?_eq_getElem (by omega)] at h3
        cases hcs : W.cells? 0 (a.add (0 * P.cellsOf e)) (P.cellsOf e) with
        | none => rw [hcs] at h3; cases h3
        | some cs =>
          rw [hcs] at h3
          obtain ⟨y, hy⟩ := (Gv.opens (α := α)).ap h1 h3
          obtain ⟨_, hn, h4⟩ := World.cells?_some hcs
          have hp := Gv.len hy
          have hpos : 0 < (Gv.ty α).size := Gv.pos
          have h5 := h4 0 (by omega)
          rw [List.getElem?_eq_getElem (by omega)] at h5
          have h6 := cell_spot h5
          obtain ⟨b, o, s⟩ := a
          simp [Addr.add] at h6
          subst h6
          exact ⟨b, o, rfl⟩
      have key : ∀ j, j < len → ∃ y : α, ∃ b o cs, some a = some ⟨b, o, none⟩ ∧ b ∉ ([] : List Nat) ∧ RowAt W b (o + j * (Gv.ty α).size) cs ∧ Gv.rep [] W cs y := by
        intro j hj
        have h3 := hel j hj
        rw [List.getElem?_eq_getElem (by omega)] at h3
        cases hcs : W.cells? 0 (a.add (j * P.cellsOf e)) (P.cellsOf e) with
        | none => rw [hcs] at h3; cases h3
        | some cs =>
          rw [hcs] at h3
          obtain ⟨y, hy⟩ := (Gv.opens (α := α)).ap h1 h3
          obtain ⟨_, hn, h4⟩ := World.cells?_some hcs
          have hp := Gv.len hy
          obtain ⟨b, o, rfl⟩ := spot (by omega)
          refine ⟨y, b, o, cs, rfl, by simp, fun i hi => ?_, hy⟩
          have h7 := h4 i (by omega)
          rw [addr_add, addr_add, hsz] at h7
          rw [h7, List.getElem?_eq_getElem hi]
      obtain ⟨l, hl1, hl2⟩ := list_build len key
      exact ⟨l, some a, cap, by rw [hl1], by omega, hm, hl2⟩
  · cases h

instance goList {α : Type} [Gv α] : Gv (List α) where
  ty := .slice (Gv.ty α)
  rep := repList
  len h := by obtain ⟨p, c, rfl, _⟩ := h; rfl
  pos := by simp [Ty.size]
  stable hs h := by obtain ⟨p, c, h1, h2, h3, h4⟩ := h; exact ⟨p, c, h1, h2, h3, h4.stable hs⟩
  opens := list_opens
  opensFs := opensFs_plain (ty := .slice (Gv.ty α)) (fun _ _ h => by cases h) list_opens

def repPair {α β : Type} [Gv α] [Gv β] (M : List Nat) (w : World) (cs : List Value) (x : α × β) : Prop :=
  ∃ a b, cs = a ++ b ∧ Gv.rep M w a x.1 ∧ Gv.rep M w b x.2

theorem pair_many {α β : Type} [Gv α] [Gv β] {H : Type} {enc : TypeId × Value → H} {P : Program} {W : World} {d fuel : Nat} {f g : Field} {r : List Field} {off : Nat} {cs : List Value}
    (h : isFs P (Ty.is P d) (f :: g :: r) off (.pair (Gv.ty α) (Gv.ty β)) = true) (ht : ∀ x ∈ f :: g :: r, ∃ y, DataW.trod enc P W 0 (fun _ => true) true fuel x.type ((cs.drop x.offset).take (P.cellsOf x.type)) = some y)
    (hl : off + (Ty.pair (Gv.ty α) (Gv.ty β)).size = cs.length) : ∃ y : α × β, repPair [] W (cs.drop off) y := by
  simp only [isFs, Bool.and_eq_true] at h
  obtain ⟨⟨⟨h1, h2⟩, h3⟩, h4⟩ := h
  have h1 := Nat.eq_of_beq_eq_true h1
  have h3 := Nat.eq_of_beq_eq_true h3
  simp only [Ty.size] at hl
  obtain ⟨y, hy⟩ := ht f (by simp)
  rw [h1, h3] at hy
  obtain ⟨a, ha⟩ := (Gv.opens (α := α)).ap h2 hy
  obtain ⟨b, hb⟩ := (Gv.opensFs (α := β)).ap h4 (fun x hx => ht x (List.mem_cons_of_mem _ hx)) (by omega)
  refine ⟨(a, b), _, _, ?_, ha, hb⟩
  rw [← List.drop_drop, List.take_append_drop]

theorem pair_opens {α β : Type} [Gv α] [Gv β] : Opens (.pair (Gv.ty α) (Gv.ty β)) (α × β) repPair := by
  constructor
  intro H enc P W d
  induction d with
  | zero => intro fuel t cs x h; simp [Ty.is] at h
  | succ d ih =>
    intro fuel t cs x h hx
    cases fuel with
    | zero => simp [DataW.trod] at hx
    | succ fuel =>
    unfold Ty.is at h
    split at h
    · rename_i fs ht
      simp only [Bool.and_eq_true] at h
      obtain ⟨h1, h2⟩ := h
      have h1 := Nat.eq_of_beq_eq_true h1
      unfold DataW.trod at hx
      rw [ht] at hx
      simp only at hx
      split at hx
      · rename_i hlen
        cases hm : (fs.toList.mapM fun f => DataW.trod enc P W 0 (fun _ => true) true fuel f.type ((cs.drop f.offset).take (P.cellsOf f.type))) with
        | none => simp [hm] at hx
        | some xs =>
          have all := mapM_all hm
          have key : ∃ y : α × β, repPair [] W (cs.drop 0) y := by
            generalize fs.toList = l at h2 all
            match l, h2, all with
            | [f], h2, all =>
              simp only [isFs, Bool.and_eq_true] at h2
              obtain ⟨⟨g1, g2⟩, g3⟩ := h2
              have g1 := Nat.eq_of_beq_eq_true g1
              have g3 := Nat.eq_of_beq_eq_true g3
              obtain ⟨y, hy⟩ := all f (by simp)
              rw [g1, g3, List.take_of_length_le (by simp; omega)] at hy
              exact ih g2 hy
            | f :: g :: r, h2, all => exact pair_many h2 all (by omega)
          simpa using key
      · cases hx
    · cases h

instance goPair {α β : Type} [Gv α] [Gv β] : Gv (α × β) where
  ty := .pair (Gv.ty α) (Gv.ty β)
  rep := repPair
  len h := by obtain ⟨a, b, rfl, h1, h2⟩ := h; simp [Gv.len h1, Gv.len h2, Ty.size]
  pos := by have : 0 < (Gv.ty α).size := Gv.pos; simp only [Ty.size]; omega
  stable hs h := by obtain ⟨a, b, h1, h2, h3⟩ := h; exact ⟨a, b, h1, Gv.stable hs h2, Gv.stable hs h3⟩
  opens := pair_opens
  opensFs := by
    constructor
    intro H enc P W d fuel fs off cs h ht hl
    match fs, h with
    | [f], h => exact opensFs_one pair_opens h (ht f (by simp)) hl
    | f :: g :: r, h => exact pair_many h ht hl

/-- a Go type told by another one -/
@[reducible] def Gv.via {α β : Type} [Gv β] (f : α → β) (g : β → α) (h : ∀ y, f (g y) = y) : Gv α where
  ty := Gv.ty β
  rep M w cs x := Gv.rep M w cs (f x)
  len := Gv.len
  pos := Gv.pos (α := β)
  stable := Gv.stable
  opens := ⟨fun h1 h2 => let ⟨y, hy⟩ := (Gv.opens (α := β)).ap h1 h2; ⟨g y, by simp only [h]; exact hy⟩⟩
  opensFs := ⟨fun h1 h2 h3 => let ⟨y, hy⟩ := (Gv.opensFs (α := β)).ap h1 h2 h3; ⟨g y, by simp only [h]; exact hy⟩⟩

theorem rep_int {M : List Nat} {w : World} {cs : List Value} {x : Int} : Gv.rep M w cs x ↔ cs = [.int .i64 x] ∧ I64 x := Iff.rfl
theorem rep_bool {M : List Nat} {w : World} {cs : List Value} {x : Bool} : Gv.rep M w cs x ↔ cs = [.bool x] := Iff.rfl
theorem rep_str {M : List Nat} {w : World} {cs : List Value} {x : ByteArray} : Gv.rep M w cs x ↔ cs = [.string x] ∧ x.size ≤ maxLen := Iff.rfl
theorem rep_list {α : Type} [Gv α] {M : List Nat} {w : World} {cs : List Value} {l : List α} : Gv.rep M w cs l ↔ ∃ p c, cs = [.slice p l.length c] ∧ l.length ≤ c ∧ c ≤ maxLen ∧ Sl M w p l := Iff.rfl
theorem rep_pair {α β : Type} [Gv α] [Gv β] {M : List Nat} {w : World} {cs : List Value} {x : α × β} : Gv.rep M w cs x ↔ ∃ a b, cs = a ++ b ∧ Gv.rep M w a x.1 ∧ Gv.rep M w b x.2 := Iff.rfl

end Go.Vc
