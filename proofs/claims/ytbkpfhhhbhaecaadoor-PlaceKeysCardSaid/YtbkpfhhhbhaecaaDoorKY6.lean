/-
  Copies: what a function made and hands over; facts about single cells of a block that is laid aside.
-/
import Derived.Test.YtbkpfhhhbhaecaaDoorKY5
import Derived.Lib.Bytealg
import Derived.Test.YtbkpfhhhbhaecaaDoorKY4
import Derived.Test.YtbkpfhhhbhaecaaDoorKY2
import Derived.Lib.Strings
import Derived.Lib.Walk
import Derived.Shelf.Strings.Builder1
import Derived.Shelf.Strconv.Itoa3
import Derived.Lib.AppendStr
import Derived.Lib.LaidTab
import Derived.LaidMore
import Derived.OpenShut
import Derived.Stop.Joined
import Derived.Test.YtbkpfhhhbhaecaaDoorKY1
import Derived.Shelf.Small.Strs
import Derived.Shelf.Small.Wraps
import Derived.Shelf.Strings.BuilderF
import Derived.Shelf.Strings.BuilderK
import Derived.Shelf.Strconv.Itoa0
import Derived.Shelf.Strconv.Itoa1
import Derived.Shelf.LaysM
import Derived.Shelf.Strconv.Itoa2
import Derived.Shelf.Strings.BuilderCap
import Derived.Shelf.Slices.Turned
import Derived.Shelf.Slices.Clone
import Derived.Shelf.Slices.SearchI
import Derived.Shelf.SlicesE.Clone
import Derived.Test.YtbkpfhhhbhaecaaDoorRows

section
set_option linter.unusedVariables false
set_option linter.unusedSimpArgs false
namespace Go.Vc

section
variable {P : Program} {W w w' : World} {S S' F : List Own} {Φ Ψ : PW}

theorem Stable.less {Φ : PW} [Stable Φ] {D M : List Nat} {w : World} (h : Φ (D ++ M) w) : Φ M w :=
  Stable.step (Φ := Φ) ⟨Chg.refl _ _, fun b hb => .inl (List.mem_append_right _ hb)⟩ h


/-- the function hands back a slice that it made: the caller owns it; what its elements are, is known -/
structure GivesNew (Φ : PW) (P : Program) (f : FuncId) (args : Array Value) {α : Type} [Gv α] (l : List α) (t : TypeId) : Prop where
  go : ∀ (W w : World) (S : List Own), Ctx W w S Φ → Calls P f args w fun e w' => ∃ p cap cs, e = .returned (.slice p l.length cap) ∧ Ctx W w' (.buf p l.length cap cs t (Gv.ty α).size :: S) (fun M w => Φ M w ∧ Elems M w cs l)

theorem GivesNew.use {f : FuncId} {args : Array Value} {α : Type} [Gv α] {l : List α} {t : TypeId} (h : GivesNew Φ P f args l t) (c : Ctx W w S Φ) {K : Ending → World → Prop}
    (hk : ∀ p cap cs w', Ctx W w' (.buf p l.length cap cs t (Gv.ty α).size :: S) (fun M w => Φ M w ∧ Elems M w cs l) → K (.returned (.slice p l.length cap)) w') : Calls P f args w K :=
  (h.go W w S c).mono fun e w' ⟨p, cap, cs, he, c'⟩ => by subst he; exact hk p cap cs w' c'

theorem gives_new [Stable Φ] {f : FuncId} {args : Array Value} {α : Type} [Gv α] {l : List α} {t : TypeId} {B : World → List Own → PW → (Value → World → Prop) → Prop}
    (run : ∀ {W w : World} {R : List Own} {Φ : PW} [Stable Φ] {J : Value → World → Prop}, Ctx W w R Φ → B W R Φ J → Calls P f args w fun e w' => ∃ v, e = .returned v ∧ J v w')
    (h : ∀ (W : World) (R : List Own), B W R Φ fun u w' => ∃ p cap cs, u = .slice p l.length cap ∧ Ctx W w' (.buf p l.length cap cs t (Gv.ty α).size :: R) (fun M w => Φ M w ∧ Elems M w cs l)) : GivesNew Φ P f args l t :=
  ⟨fun W w S c => calls_of (run c (h W S)) fun u w' ⟨p, cap, cs, h1, h2⟩ => ⟨p, cap, cs, by rw [h1], h2⟩⟩

theorem GivesNew.there {f : FuncId} {args : Array Value} {α : Type} [Gv α] {l : List α} {t : TypeId} {p : Option Addr} {n : Nat} (hΦ : ∀ M w, Φ M w → There p n) (h : There p n → GivesNew Φ P f args l t) : GivesNew Φ P f args l t :=
  ⟨fun W w S c => (h (hΦ _ _ c.phi)).go W w S c⟩

/-- a slice of plain data is appended to nothing: slices.Clone -/
theorem Ctx.cloned [Stable Φ] {α : Type} [Gv α] {q : Option Addr} {l : List α} {c2 : Nat} {k : Nat} {t : TypeId} {bytes : Nat} (c : Ctx W w (.blk k [] t :: S) Φ)
    {ts ty : TypeId} {kb : Array Bool} (hb : appB P ts t (Gv.ty α).size bytes = true) (h1 : ∀ M w cs (x : α), Gv.rep M w cs x → (cs.all fun u => oneC u) = true) (hsl : ∀ M w, Φ M w → Sl M w q l) (hlen : l.length < 100000000) (hbytes : bytes ≤ 1000) :
    ∃ p' cap' w' cs, Sem.run P (builtin Builtin.append #[ts, ts] ty kb #[.slice (some ⟨k, 0, none⟩) 0 0, .slice q l.length c2]) w = .ok (.value (.slice p' l.length cap')) w' ∧
      Ctx W w' (.buf p' l.length cap' cs t (Gv.ty α).size :: S) (fun M w => Φ M w ∧ Elems M w cs l) := by
  have c' : Ctx W w (.buf (some ⟨k, 0, none⟩) 0 0 [] t (Gv.ty α).size :: S) Φ := c.toBuf 0 0 (Gv.ty α).size rfl (by simp) (by simp [maxLen])
  rcases Nat.eq_zero_or_pos l.length with h0 | h0
  · obtain ⟨i, z, e1, e2, e3, e4, e5, e6⟩ := appB_out hb
    have hl : l = [] := List.eq_nil_of_length_eq_zero h0
    subst hl
    exact ⟨_, _, w, [], run_app (c'.append0 0 rfl e1 e2 q c2), c'.add Elems.nil⟩
  · obtain ⟨p', cap', w', news, h2, _, c3⟩ := c'.appSl (ty := ty) (kb := kb) (c2 := c2) hb h1 hsl h0 (by omega) hbytes
    rw [Nat.zero_add] at h2 c3
    exact ⟨p', cap', w', news, h2, c3⟩

/-- these cells lie in a block that is not written -/
def RowIn (b o : Nat) (vs : List Value) (M : List Nat) (w : World) : Prop := b ∉ M ∧ RowAt w b o vs ∧ b < w.heap.size

instance instStableRowIn (b o : Nat) (vs : List Value) : Stable (fun M w => RowIn b o vs M w) := ⟨fun hs h =>
  ⟨fun hm => by rcases hs.sub b hm with h1 | h1; exact h.1 h1; have := h.2.2; omega, hs.chg.row h.2.1 h.1, Nat.lt_of_lt_of_le h.2.2 hs.chg.size⟩⟩

/-- several things that are owned, laid aside -/
def ParkedL (W : World) (Q : List Own) (M : List Nat) (w : World) : Prop := (∀ o ∈ Q, o.at w) ∧ (dom Q).Nodup ∧ ∀ b ∈ dom Q, b ∉ M ∧ W.heap.size ≤ b

instance instStableParkedL (W : World) (Q : List Own) : Stable (fun M w => ParkedL W Q M w) := ⟨fun hs h => by
  have hlt : ∀ b ∈ dom Q, b < _ := fun b hb => by
    obtain ⟨o, ho, hb⟩ := List.mem_flatMap.1 hb
    exact Own.at_lt (h.1 o ho) b hb
  exact ⟨fun o ho => Own.at_keep (h.1 o ho) fun b hb => hs.chg.block b (hlt b (mem_dom ho hb)) (h.2.2 b (mem_dom ho hb)).1, h.2.1, fun b hb => ⟨fun hm => by
    rcases hs.sub b hm with h1 | h1
    · exact (h.2.2 b hb).1 h1
    · have := hlt b hb; omega, (h.2.2 b hb).2⟩⟩⟩

/-- what holds while Q is laid aside -/
def Aside (W : World) (Q : List Own) (Φ : PW) : PW := fun M w => Φ (dom Q ++ M) w ∧ ParkedL W Q M w
instance instStableAside (W : World) (Q : List Own) (Φ : PW) [Stable Φ] : Stable (Aside W Q Φ) :=
  have h1 : Stable (fun M w => Φ (dom Q ++ M) w) := instStableMore (dom Q) Φ
  instStableAnd (fun M w => Φ (dom Q ++ M) w) (fun M w => ParkedL W Q M w)

theorem Ctx.aside {Q : List Own} (c : Ctx W w (Q ++ S) Φ) : Ctx W w S (Aside W Q Φ) := by
  have hd := dom_app Q S
  have hn := c.nodup
  rw [hd, List.nodup_append] at hn
  refine ⟨c.chg, fun x hx => c.own x (List.mem_append_right _ hx), fun b hb => c.young b (by rw [hd]; exact List.mem_append_right _ hb), hn.2.1, ?_, fun o ho => c.own o (List.mem_append_left _ ho), hn.1, fun b hb => ⟨fun hm => hn.2.2 b hb b hm rfl, c.young b (by rw [hd]; exact List.mem_append_left _ hb)⟩⟩
  have := c.phi
  rw [hd] at this
  exact this

theorem Aside.less [Stable Φ] {Q : List Own} {M : List Nat} (h : Aside W Q Φ M w) : Φ M w := Stable.less h.1

theorem Aside.imp {Q : List Own} {Ψ : PW} {M : List Nat} (h : Aside W Q Φ M w) (hi : ∀ M w, Φ M w → Ψ M w) : Aside W Q Ψ M w := ⟨hi _ _ h.1, h.2⟩

theorem Ctx.re (c : Ctx W w S Φ) (e : S = S') : Ctx W w S' Φ := e ▸ c
theorem Ctx.bufGet (c : Ctx W w S Φ) (k : Nat) {p : Option Addr} {n cap : Nat} {cs : List Value} {t : TypeId} {size : Nat} (hk : S[k]? = some (.buf p n cap cs t size)) {b i : Nat} {v : Value} (hp : p = some ⟨b, 0, none⟩) (hv : cs[i]? = some v) : w.cell? ⟨b, i, none⟩ = some v := by
  obtain ⟨b', h1, _, h2⟩ := c.bufCell k hk (by have := (List.getElem?_eq_some_iff.1 hv).1; omega)
  rw [hp] at h1
  cases h1
  exact (h2 _ _ hv).1

end

end Go.Vc
end

/-
  Lists in order: what the steps of a stable sort do (in plain Lean).
-/
section
set_option linter.unusedVariables false
set_option linter.unusedSimpArgs false
namespace Go.Vc

section
variable {ε : Type} {le : ε → ε → Prop}

/-- a total preorder -/
structure Ord (le : ε → ε → Prop) : Prop where
  total : ∀ x y, le x y ∨ le y x
  trans : ∀ x y z, le x y → le y z → le x z

theorem Ord.refl (h : Ord le) (x : ε) : le x x := (h.total x x).elim id id

abbrev Asc (le : ε → ε → Prop) (l : List ε) : Prop := l.Pairwise le

theorem asc_app {a b : List ε} (ha : Asc le a) (hb : Asc le b) (h : ∀ x ∈ a, ∀ y ∈ b, le x y) : Asc le (a ++ b) := List.pairwise_append.2 ⟨ha, hb, h⟩

/-- one element is put where it belongs -/
theorem asc_put {a b : List ε} {x : ε} (h : Asc le (a ++ b)) (h1 : ∀ y ∈ a, le y x) (h2 : ∀ y ∈ b, le x y) : Asc le (a ++ x :: b) := by
  obtain ⟨ha, hb, hab⟩ := List.pairwise_append.1 h
  refine asc_app ha (List.pairwise_cons.2 ⟨h2, hb⟩) fun y hy z hz => ?_
  rcases List.mem_cons.1 hz with rfl | hz
  · exact h1 y hy
  · exact hab y hy z hz

/-- two elements change places -/
def swp (l : List ε) (i j : Nat) : List ε := match l[i]?, l[j]? with
  | some x, some y => (l.set i y).set j x
  | _, _ => l

theorem swp_eq {l : List ε} {i j : Nat} (hi : i < l.length) (hj : j < l.length) : swp l i j = (l.set i l[j]).set j l[i] := by
  unfold swp
  rw [List.getElem?_eq_getElem hi, List.getElem?_eq_getElem hj]

theorem swp_next (a : List ε) (x y : ε) (b : List ε) : swp (a ++ x :: y :: b) a.length (a.length + 1) = a ++ y :: x :: b := by
  rw [swp_eq (by simp) (by simp)]
  simp [List.getElem_append_right, List.set_append]

/-- chunks of one length, each in order, and a rest -/
structure Chunks (le : ε → ε → Prop) (bs : Nat) (cs : List (List ε)) (rest : List ε) : Prop where
  len : ∀ c ∈ cs, c.length = bs
  asc : ∀ c ∈ cs, Asc le c
  last : Asc le rest
  short : rest.length < bs

end

end Go.Vc
end

/-
  Values, rows and deltas in order (in plain Lean).
-/
section
set_option linter.unusedVariables false
set_option linter.unusedSimpArgs false
namespace Go.Proofs.YtbkpfhhhbhaecaaDoor
open Go.Vc

structure ValD where
  kind : Int
  num : Int
  text : ByteArray
instance : Gv ValD := Gv.via (β := Int × Int × ByteArray) (fun x => (x.kind, x.num, x.text)) (fun y => ⟨y.1, y.2.1, y.2.2⟩) (fun _ => rfl)

structure DeltaD where
  time : Int
  row : List ValD
  n : Int
instance : Gv DeltaD := Gv.via (β := Int × List ValD × Int) (fun x => (x.time, x.row, x.n)) (fun y => ⟨y.1, y.2.1, y.2.2⟩) (fun _ => rfl)

abbrev ValD.v (x : ValD) : Value := .agg #[.int .i64 x.kind, .int .i64 x.num, .string x.text]

theorem val_ext {x y : ValD} : x = y ↔ (x.kind = y.kind ∧ (x.num = y.num ∧ x.text = y.text)) := by
  cases x; cases y; simp
instance : DecidableEq ValD := fun _ _ => decidable_of_iff _ val_ext.symm

/-! ### comparisons of three answers -/
structure Cmp {α : Type} (c : α → α → Int) : Prop where
  eq : ∀ x y, c x y = 0 ↔ x = y
  anti : ∀ x y, 0 < c x y ↔ c y x < 0
  trans : ∀ x y z, c x y < 0 → c y z < 0 → c x z < 0
  bd : ∀ x y, -1 ≤ c x y ∧ c x y ≤ 1

theorem Cmp.refl {α : Type} {c : α → α → Int} (h : Cmp c) (x : α) : c x x = 0 := (h.eq x x).2 rfl
def cmpI (x y : Int) : Int := if x < y then -1 else if y < x then 1 else 0

def cmpT (a b : ByteArray) : Int := Lib.compareBytes a.data.toList b.data.toList
def orI : List Int → Int
  | [] => 0
  | x :: r => if x ≠ 0 then x else orI r

theorem orI_two (a b : Int) : orI [a, b] = if a ≠ 0 then a else b := by
  unfold orI orI orI
  split
  · rfl
  · split
    · rfl
    · omega

/-- first the one, then the other -/
def lex {α β : Type} (c : α → α → Int) (d : β → β → Int) (x y : α × β) : Int := if c x.1 y.1 ≠ 0 then c x.1 y.1 else d x.2 y.2

theorem Cmp.on {α β : Type} {c : β → β → Int} (h : Cmp c) (f : α → β) (hf : ∀ x y, f x = f y → x = y) : Cmp (fun x y => c (f x) (f y)) :=
  ⟨fun x y => ⟨fun e => hf _ _ ((h.eq _ _).1 e), fun e => by rw [e]; exact h.refl _⟩, fun x y => h.anti _ _, fun x y z => h.trans _ _ _, fun x y => h.bd _ _⟩

abbrev cmpL (x y : ValD) : List Int := [cmpI x.kind y.kind, cmpI x.num y.num, cmpT x.text y.text]
def cmpV (x y : ValD) : Int := orI (cmpL x y)

def cmpR : List ValD → List ValD → Int
  | [], [] => 0
  | [], _ :: _ => -1
  | _ :: _, [] => 1
  | a :: ar, b :: br => if cmpV a b ≠ 0 then cmpV a b else cmpR ar br

/-! ### deltas -/
abbrev Key : Type := Int × List ValD
abbrev DeltaD.key (x : DeltaD) : Key := (x.time, x.row)
def cmpK (x y : Key) : Int := lex cmpI cmpR x y
abbrev cmpDL (x y : DeltaD) : List Int := [cmpI x.time y.time, cmpR x.row y.row]
def cmpD (x y : DeltaD) : Int := orI (cmpDL x y)
theorem cmpD_key (x y : DeltaD) : cmpD x y = cmpK x.key y.key := by
  unfold cmpD cmpDL cmpK lex
  rw [orI_two]
end Go.Proofs.YtbkpfhhhbhaecaaDoor
end

/-
  Consolidated lists of deltas (in plain Lean).
-/
section
set_option linter.unusedVariables false
set_option linter.unusedSimpArgs false
namespace Go.Proofs.YtbkpfhhhbhaecaaDoor
open Go.Vc

/-! ### sums that wrap round -/
abbrev w64 (x : Int) : Int := IntKind.i64.wrap x
theorem w64_eq (x : Int) : w64 x = if 9223372036854775808 ≤ x % 18446744073709551616 then x % 18446744073709551616 - 18446744073709551616 else x % 18446744073709551616 := by
  simp [w64, IntKind.wrap, IntKind.signed, IntKind.bits]
theorem w64_id {x : Int} (h : I64 x) : w64 x = x := by rw [w64_eq]; unfold I64 at h; split <;> omega
/-- how often something is there, before it wraps round -/
def sumK : List DeltaD → Key → Int
  | [], _ => 0
  | x :: l, k => (if x.key = k then x.n else 0) + sumK l k

def findP (l : List DeltaD) (k : Key) : Int := w64 (sumK l k)

/-! ### the consolidated form -/
structure Norm (c : List DeltaD) : Prop where
  asc : c.Pairwise fun x y => cmpD x y < 0
  nz : ∀ x ∈ c, x.n ≠ 0
  i64 : ∀ x ∈ c, I64 x.n

theorem Norm.nil : Norm [] := ⟨List.Pairwise.nil, by simp, by simp⟩
theorem Norm.tail {x : DeltaD} {c : List DeltaD} (h : Norm (x :: c)) : Norm c := ⟨(List.pairwise_cons.1 h.asc).2, fun y hy => h.nz y (by simp [hy]), fun y hy => h.i64 y (by simp [hy])⟩
theorem Norm.cons {x : DeltaD} {c : List DeltaD} (h : Norm c) (h1 : ∀ y ∈ c, cmpK x.key y.key < 0) (h2 : x.n ≠ 0) (h3 : I64 x.n) : Norm (x :: c) :=
  ⟨List.pairwise_cons.2 ⟨fun y hy => by rw [cmpD_key]; exact h1 y hy, h.asc⟩, fun y hy => by rcases List.mem_cons.1 hy with rfl | hy; exact h2; exact h.nz y hy, fun y hy => by rcases List.mem_cons.1 hy with rfl | hy; exact h3; exact h.i64 y hy⟩

/-- one more element -/
def insD (x : DeltaD) : List DeltaD → List DeltaD
  | [] => if w64 x.n = 0 then [] else [⟨x.time, x.row, w64 x.n⟩]
  | y :: t => if cmpD x y < 0 then (if w64 x.n = 0 then y :: t else ⟨x.time, x.row, w64 x.n⟩ :: y :: t)
      else if cmpD x y = 0 then (if w64 (x.n + y.n) = 0 then t else ⟨y.time, y.row, w64 (x.n + y.n)⟩ :: t)
      else y :: insD x t

/-- the consolidated list of what is there -/
def consP (l : List DeltaD) : List DeltaD := l.foldr insD []

end Go.Proofs.YtbkpfhhhbhaecaaDoor
end

/-
  Deltas as they lie in memory.
-/
section
set_option linter.unusedVariables false
set_option linter.unusedSimpArgs false
namespace Go.Proofs.YtbkpfhhhbhaecaaDoor
open Go.Vc

abbrev DeltaD.v (x : DeltaD) (p : Option Addr) (c : Nat) : Value := .agg #[.int .i64 x.time, .slice p x.row.length c, .int .i64 x.n]
abbrev DeltaD.cells (x : DeltaD) (p : Option Addr) (c : Nat) : List Value := [.int .i64 x.time, .slice p x.row.length c, .int .i64 x.n]

/-- a delta, and where its row lies -/
structure DE where
  d : DeltaD
  p : Option Addr
  c : Nat
abbrev DE.cells (x : DE) : List Value := x.d.cells x.p x.c
abbrev DE.v (x : DE) : Value := x.d.v x.p x.c

def cellsE : List DE → List Value
  | [] => []
  | x :: l => .int .i64 x.d.time :: .slice x.p x.d.row.length x.c :: .int .i64 x.d.n :: cellsE l

/-- what the elements are -/
def EPhi (es : List DE) : PW := fun M w => ∀ x ∈ es, Gv.rep M w x.cells x.d
instance instStableEPhi (es : List DE) : Stable (EPhi es) := ⟨fun hs h x hx => Gv.stable hs (h x hx)⟩

end Go.Proofs.YtbkpfhhhbhaecaaDoor
end

/-
  The sort's steps over deltas: swapRange, rotate.
-/
section
set_option linter.unusedVariables false
set_option linter.unusedSimpArgs false
namespace Go.Proofs.YtbkpfhhhbhaecaaDoor
open Go.Vc


abbrev bufE (p : Option Addr) (cap : Nat) (es : List DE) : Own := .buf p es.length cap (cellsE es) 77 3

/-! ### swapRange -/
end Go.Proofs.YtbkpfhhhbhaecaaDoor
end

/-
  The sort's steps over deltas: rotate, insertionSort.
-/
section
set_option linter.unusedVariables false
set_option linter.unusedSimpArgs false
namespace Go.Proofs.YtbkpfhhhbhaecaaDoor
open Go.Vc


/-! ### rotate -/
/-! ### the order -/
abbrev cmpE (x y : DE) : Int := cmpD x.d y.d
abbrev leE (x y : DE) : Prop := cmpD x.d y.d ≤ 0
/-- the function that compares -/
def CmpFn (Φ : PW) (f : FuncId) (cp : Array Value) (G : DE → Prop) : Prop := okFun Tryd.prog f = true ∧ ∀ x y : DE, G x → G y → GivesIn Φ Tryd.prog f (Array.mk (x.v :: y.v :: cp.toList)) (.int .i64 (cmpE x y))

/-! ### insertionSort -/
end Go.Proofs.YtbkpfhhhbhaecaaDoor
end

/-
  The sort's steps over deltas: symMerge.
-/
section
set_option linter.unusedVariables false
set_option linter.unusedSimpArgs false
namespace Go.Proofs.YtbkpfhhhbhaecaaDoor
open Go.Vc


/-! ### one element into those behind it -/
/-! ### one element into those ahead of it -/
end Go.Proofs.YtbkpfhhhbhaecaaDoor
end

/-
  The sort's steps over deltas: symMerge, whole.
-/
section
set_option linter.unusedVariables false
set_option linter.unusedSimpArgs false
namespace Go.Proofs.YtbkpfhhhbhaecaaDoor
open Go.Vc


end Go.Proofs.YtbkpfhhhbhaecaaDoor
end

/-
  The stable sort of deltas.
-/
section
set_option linter.unusedVariables false
set_option linter.unusedSimpArgs false
namespace Go.Proofs.YtbkpfhhhbhaecaaDoor
open Go.Vc


end Go.Proofs.YtbkpfhhhbhaecaaDoor
end

/-
  THE ROW, out of a contract over owned worlds.
-/
section
set_option linter.unusedVariables false
set_option linter.unusedSimpArgs false
namespace Go.Vc
open Go.ChangeShapes Go.WideShapes Go.RowKit

section
variable {H : Type} {enc : TypeId × Value → H} {P : Program} {W : World}

/-- what came in is plain data -/
theorem open_gv {α : Type} [Gv α] (d : Nat) {t : TypeId} {v : Value} {x : DataW H} {ps : List MemPlace} (hty : Ty.is P d (Gv.ty α) t = true) (h : DataW.Trod enc P W 0 (fun _ => true) true t v x ps) : ∃ y : α, Gv.rep [] W v.cells.toList y := by
  obtain ⟨fuel, h⟩ := h
  exact Gv.opens.ap hty h

theorem open_agg {α : Type} [Gv α] (d : Nat) {t : TypeId} {v : Value} {r : Reach} {base : Nat} {x : DataW H} {ps : List MemPlace} {fs : Array Field} (ht : P.underlying t = some (.struct fs)) (hv : Value.okWide P W r base t v) (hty : Ty.is P d (Gv.ty α) t = true)
    (h : DataW.Trod enc P W 0 (fun _ => true) true t v x ps) : ∃ (cs : List Value) (y : α), v = .agg cs.toArray ∧ Gv.rep [] W cs y := by
  obtain ⟨cs, rfl, _⟩ := okWide_struct ht hv
  obtain ⟨y, hy⟩ := open_gv (α := α) d hty h
  exact ⟨cs.toList, y, by simp, hy⟩

/-- .. a slice -/
theorem open_sl {α : Type} [Gv α] (d : Nat) {t e : TypeId} {v : Value} {r : Reach} {base : Nat} {x : DataW H} {ps : List MemPlace} (ht : P.underlying t = some (.slice e)) (hv : Value.okWide P W r base t v) (hty : Ty.is P d (Gv.ty (List α)) t = true)
    (h : DataW.Trod enc P W 0 (fun _ => true) true t v x ps) : ∃ (p : Option Addr) (cap : Nat) (l : List α), v = .slice p l.length cap ∧ l.length ≤ cap ∧ cap ≤ maxLen ∧ Sl [] W p l := by
  obtain ⟨a, len, cap, rfl⟩ := okWide_slice ht hv
  obtain ⟨l, hl⟩ := open_gv (α := List α) d hty h
  obtain ⟨p, c, e, h1, h2, h3⟩ := rep_list.1 hl
  simp only [Value.cells, List.cons.injEq, Value.slice.injEq, and_true] at e
  obtain ⟨rfl, rfl, rfl⟩ := e
  exact ⟨a, cap, l, rfl, h1, h2, h3⟩

/-- from a contract that knows what came in -/
theorem GivesIn.law {Φ : PW} {f : FuncId} {args : Array Value} (h : GivesIn Φ P f args (.bool true)) (h0 : Φ [] W) : Calls P f args W fun e W' => ∃ u, e = .returned u ∧ (u = .bool true ∧ Chg [] W W') :=
  (h.go W W [] (Ctx.start W h0)).mono fun e w' ⟨h1, h2⟩ => ⟨_, h1, rfl, h2.chg⟩

end

end Go.Vc
end

/-
  The walks of the comparisons of values, rows and deltas; of Clone.
-/
section
set_option linter.unusedVariables false
set_option linter.unusedSimpArgs false
namespace Go.Proofs.YtbkpfhhhbhaecaaDoor
open Go.Vc


set_option maxHeartbeats 1000000 in
set_option maxRecDepth 100000 in
theorem bytealg_CompareString (a b : ByteArray) (w : World) :
    Calls Tryd.prog 144 #[.string a, .string b] w fun e w' => e = .returned (.int .i64 (Lib.compareBytes a.data.toList b.data.toList)) ∧ w' = w := by
  go_enter Tryd.func144, Tryd.ntmps144
  go_wp2
  rw [run_callFunc_extern Tryd.func150 (by kernel_rfl) (by kernel_rfl) (by kernel_rfl) (e := Extern.BytealgCompare.compare) (by kernel_rfl), Lib.run_compareString]
  simp only [Result.andThen]
  rw [Oper.upon_value]
  go_wp2
  go_ret
  exact ⟨rfl, rfl⟩

set_option maxHeartbeats 1000000 in
theorem strings_Compare (a b : ByteArray) (w : World) :
    Calls Tryd.prog 139 #[.string a, .string b] w fun e w' => e = .returned (.int .i64 (Lib.compareBytes a.data.toList b.data.toList)) ∧ w' = w := by
  go_enter Tryd.func139, Tryd.ntmps139
  go_wp2_with (go_at_call 144; refine (bytealg_CompareString _ _ _).mono ?_; rintro e w' ⟨rfl, rfl⟩)
  go_ret
  exact ⟨rfl, rfl⟩

theorem sl_val {M : List Nat} {w : World} {b o : Nat} {l : List ValD} (h : Sl M w (some ⟨b, o, none⟩) l) {i : Nat} (hi : i < l.length) : RowAt w b (o + i * 3) [.int .i64 l[i].kind, .int .i64 l[i].num, .string l[i].text] := by
  obtain ⟨b', o', cs, e, _, h3, _, _, rfl, ⟨rfl, _⟩, _, _, rfl, ⟨rfl, _⟩, rfl, _⟩ := h i hi
  cases e
  exact h3

theorem sl_int {M : List Nat} {w : World} {b o : Nat} {l : List Int} (h : Sl M w (some ⟨b, o, none⟩) l) {i : Nat} (hi : i < l.length) : w.cell? ⟨b, o + i, none⟩ = some (.int .i64 l[i]) := by
  obtain ⟨b', o', cs, e, _, h3, rfl, _⟩ := h i hi
  cases e
  have := h3 0 (by simp)
  simpa [show (Gv.ty Int).size = 1 from rfl] using this

theorem ints_elems {M : List Nat} {w : World} : ∀ (l : List Int), (∀ x ∈ l, I64 x) → Elems M w (l.map fun x => .int .i64 x) l := by
  intro l h
  refine ⟨by simp [show (Gv.ty Int).size = 1 from rfl], fun j hj => ?_⟩
  rw [show (Gv.ty Int).size = 1 from rfl, Nat.mul_one, rep_int]
  refine ⟨?_, h _ (List.getElem_mem _)⟩
  apply List.ext_getElem?
  intro i
  rcases i with _ | i
  · rw [List.getElem?_take_of_lt (by omega), List.getElem?_drop]; simp [hj]
  · simp; omega

/-! ### deltas -/
end Go.Proofs.YtbkpfhhhbhaecaaDoor
end

/-
  STRINGS.BUILDER over what a walk owns; tables that a row lays; rows with laid tables; the decimal form of ints.
-/
section
set_option linter.unusedVariables false
set_option linter.unusedSimpArgs false
namespace Go.Vc
open Go.RowKit Go.Shelf

section
variable {P : Program} {W w w' : World} {S R F : List Own} {Φ Ψ : PW}

/-- what is owned changes, and is owned no more -/
theorem Ctx.lose [Stable Φ] (c : Ctx W w (R ++ S) Φ) (h : Chg (dom R) w w') : Ctx W w' S Φ := by
  have hn := c.nodup
  rw [dom_app, List.nodup_append] at hn
  refine c.go ⟨h.mono fun x hx => by rw [dom_app]; exact List.mem_append_left _ hx, fun b hb => .inl (by rw [dom_app]; exact List.mem_append_right _ hb)⟩ (fun o ho => ?_) hn.2.1
  exact Own.at_keep (c.own o (List.mem_append_right _ ho)) fun b hb => h.block b (c.lt (mem_dom (List.mem_append_right _ ho) hb)) fun hm => hn.2.2 b hm b (mem_dom ho hb) rfl

/-- append of a string's bytes -/
theorem Ctx.appStr [Stable Φ] {p : Option Addr} {n cap : Nat} {cs : List Value} {e : TypeId} (c : Ctx W w (.buf p n cap cs e 1 :: S) Φ) {t u ty : TypeId} {kb : Array Bool} {i : TypeInfo}
    (ht : P.underlying t = some (.slice e)) (hu : P.underlying u = some .string) (hi : P.info? e = some i) (hz : i.zero = some (.int .u8 0)) (hsize : i.size = 1) (hby : i.bytes = 1) (s : ByteArray)
    (hb : n + s.size ≤ 140737488355328) (h63 : n + s.size ≤ maxLen) :
    ∃ p' cap' w', Sem.run P (builtin Builtin.append #[t, u] ty kb #[.slice p n cap, .string s]) w = .ok (.value (.slice p' (n + s.size) cap')) w' ∧ Ctx W w' (.buf p' (n + s.size) cap' (cs ++ Lib.strCells s) e 1 :: S) Φ := by
  have hown := c.own _ (List.mem_cons_self)
  obtain ⟨hcl, hown⟩ := hown
  have hxl : cs.length = n := by simpa using hcl
  have hlen : (cs ++ Lib.strCells s).length = (n + s.size) * 1 := by rw [List.length_append, hxl, Lib.strCells_length, Nat.mul_one]
  have grown : ∀ (old : Nat), old < n + s.size →
      Ctx W (w.drew.alloc (.cells (cs.toArray ++ (Lib.strCells s).toArray ++ Builtin.zeroCells (Value.int .u8 0).cells (grownCap w (n + s.size) old e - (n + s.size))) e))
        (.buf (some ⟨w.heap.size, 0, none⟩) (n + s.size) (grownCap w (n + s.size) old e) (cs ++ Lib.strCells s) e 1 :: S) Φ := by
    intro old ho
    have hge := grownCap_ge w (n + s.size) old e
    have hcm : grownCap w (n + s.size) old e ≤ maxLen := grownCap_le_maxLen w (n + s.size) old e h63
    have h := c.upd (k := 0) (o' := .buf (some ⟨w.heap.size, 0, none⟩) (n + s.size) (grownCap w (n + s.size) old e) (cs ++ Lib.strCells s) e 1) rfl (((Chg.refl _ _).drewN 1).alloc (.cells (cs.toArray ++ (Lib.strCells s).toArray ++ Builtin.zeroCells (Value.int .u8 0).cells (grownCap w (n + s.size) old e - (n + s.size))) e)) (by simp [Own.dom]) (by simp [Own.dom])
      ⟨hlen, .inr ⟨w.heap.size, _, _, rfl, Nat.zero_le _, hp_alloc_new w.drew _, hge, hcm, ?_, ?_⟩⟩
    · exact h
    · have hz1 : (Value.int IntKind.u8 0).cells.size = 1 := rfl
      simp only [Array.size_append, List.size_toArray, size_zeroCells, hz1, hxl, Lib.strCells_length]
      omega
    · simp only [Array.toList_append, List.append_assoc]
      rw [← List.append_assoc, ← hlen]
      exact List.take_left
  rcases hown with ⟨e1, rfl⟩ | ⟨g, cap', cur, e1, _, hg, hnc, hcm, hcs, htake⟩
  · cases e1
    have hx : cs = [] := List.eq_nil_of_length_eq_zero hxl
    subst hx
    by_cases hm : s.size = 0
    · have hn : Lib.strCells s = [] := List.eq_nil_of_length_eq_zero (by rw [Lib.strCells_length]; exact hm)
      refine ⟨none, 0, w, run_app ?_, by rw [hm, hn]; exact c⟩
      have hf := Lib.run_firstCells_string (P := P) w 1 s
      rw [hm] at hf
      simp [Builtin.append_, run_underlying ht, run_underlying hu, sizeOf, typeInfo, hi, hsize, Builtin.lenOf, hm, hf]
    · have hr := run_append_nil_string (P := P) w t u ty e i (.int .u8 0) ht hu hi hz s (by omega) (by omega) (by rw [hby]; omega)
      have hgr := grown 0 (by omega)
      simp only [Nat.zero_add, List.nil_append, Array.empty_append] at hgr ⊢
      have e1 : (s.data.map fun b => Value.int .u8 b.toNat) = (Lib.strCells s).toArray := by
        apply Array.ext'
        simp [Lib.strCells]
      rw [e1] at hr
      exact ⟨_, _, _, run_app hr, hgr⟩
  · cases e1
    have hcs' : cur.size = cap := by simpa using hcs
    have ht' : cur.toList.take n = cs := by simpa using htake
    by_cases hroom : n + s.size ≤ cap
    · have hr := Lib.run_append_room_string (P := P) w t u ty e i ht hu hi hsize g n cap cur hg s hroom (by omega)
      refine ⟨_, _, _, run_app hr, ?_⟩
      have h := c.upd (k := 0) (w' := w.setRow g (cur.toList.take n ++ Lib.strCells s ++ cur.toList.drop (n + s.size)).toArray) (o' := .buf (some ⟨g, 0, none⟩) (n + s.size) cap (cs ++ Lib.strCells s) e 1) rfl ⟨rfl, rfl, rfl, by simp, fun b _ hb => setRow_other w g b _ (by simpa [Own.dom] using hb)⟩ (by simp [Own.dom]) (by simp [Own.dom])
        ⟨hlen, .inr ⟨g, cap, _, rfl, Nat.zero_le _, setRow_heap w g cur _ e _ hg, hroom, hcm, ?_, ?_⟩⟩
      · exact h
      · simp only [List.size_toArray, List.length_append, List.length_take, List.length_drop, Array.length_toList, Lib.strCells_length]
        omega
      · rw [ht', ← hlen]
        exact List.take_left
    · have holds : ∀ j u, cs[j]? = some u → w.cell? ((⟨g, 0, none⟩ : Addr).add j) = some u := by
        intro j u hj
        have hlt : j < cs.length := (List.getElem?_eq_some_iff.1 hj).1
        have h2 : cur[j]? = some u := by
          rw [← ht', List.getElem?_take_of_lt (by omega)] at hj
          simpa using hj
        rw [addr_add, Nat.zero_add]
        simp [World.cell?, hg, h2]
      have hr := Lib.run_append_grow_string (P := P) w t u ty e i (.int .u8 0) ht hu hi hz ⟨g, 0, none⟩ n cap cs (by rw [hsize]; simpa using hxl) holds s (by omega) (by omega) (by rw [hby]; exact growslice_fits (by omega) (by omega))
      exact ⟨_, _, _, run_app hr, grown cap (by omega)⟩

/-- a strings.Builder (of type T, in block b) that holds these bytes (of type e) -/
def Bd (T e : TypeId) (b : Nat) (l : List UInt8) (R : List Own) : Prop :=
  ∃ (pa : Value) (p : Option Addr) (cap : Nat), (pa = .pointer none ∨ pa = .pointer (some ⟨b, 0, none⟩)) ∧ R = [.blk b [pa, .slice p l.length cap] T, .buf p l.length cap (Lib.byteCells l) e 1]

theorem Bd.fresh [Stable Φ] {T e : TypeId} {b : Nat} (c : Ctx W w (.blk b [.pointer none, .slice none 0 0] T :: S) Φ) : Ctx W w ([.blk b [.pointer none, .slice none 0 0] T, .buf none 0 0 [] e 1] ++ S) Φ :=
  ((c.buf0 e 1).perm (List.Perm.swap _ _ _))
theorem Bd.nil {T e : TypeId} {b : Nat} : Bd T e b [] [.blk b [.pointer none, .slice none 0 0] T, .buf none 0 0 [] e 1] := ⟨.pointer none, none, 0, .inl rfl, rfl⟩

end

/-! ### String -/
section
open Go.Proofs
variable {P : Program} {ρ : Ren}

theorem chg_freeze {a w : World} {D : List Nat} (h : Chg D a w) {p : Addr} (hp : p.block ∈ D) (n : Nat) : Chg D a (w.freeze p n) := by
  refine h.trans (T := D) ?_ (fun x hx => .inl hx)
  unfold World.freeze
  split
  · exact Chg.refl _ _
  · refine ⟨rfl, rfl, rfl, by simp, fun k hk hn => ?_⟩
    simp only [Array.getElem?_modify]
    rw [if_neg (fun e => hn (by rw [← e]; exact hp))]

set_option maxHeartbeats 1000000 in
set_option maxRecDepth 100000 in
theorem builder_String_some (L : Lays.n169 P ρ) (X : Builder.Extra P ρ) (b g cap : Nat) (pa : Value) (l : List UInt8) (w : World) (h0 : l ≠ []) (hbk : w.heap[b]? = some (.cells #[pa, .slice (some ⟨g, 0, none⟩) l.length cap] (ρ.t 72) (0, 0)))
    (hown : w.ownsRow 0 (ρ.t 5) 1 (.slice (some ⟨g, 0, none⟩) l.length cap) l.length (Lib.byteCells l)) :
    Calls P (ρ.f 169) #[.pointer (some ⟨b, 0, none⟩)] w fun e w' => e = .returned (.string ⟨l.toArray⟩) ∧ Chg [g] w w' := by
  have hl0 : l.length ≠ 0 := by simpa using h0
  obtain ⟨cur, hg, hnc, hcm, hcs, htake⟩ : ∃ cur, w.heap[g]? = some (.cells cur (ρ.t 5) (0, 0)) ∧ l.length ≤ cap ∧ cap ≤ maxLen ∧ cur.size = cap * 1 ∧ cur.toList.take (l.length * 1) = Lib.byteCells l := by
    rcases hown.2 with ⟨hv, _⟩ | ⟨g', cap', cur, hv, _, r⟩
    · cases hv
    · cases hv; exact ⟨cur, r⟩
  have c1 : w.drew.cell? ⟨b, 1, none⟩ = some (.slice (some ⟨g, 0, none⟩) l.length cap) := by
    have : w.drew.heap[b]? = some (.cells #[pa, .slice (some ⟨g, 0, none⟩) l.length cap] (ρ.t 72) (0, 0)) := hbk
    rw [Lib.cell_of_heap this]; rfl
  have hSD : (Builtin.unsafeSliceData_ #[(ρ.t 37)] (ρ.t 127) #[.slice (some ⟨g, 0, none⟩) l.length cap]).run P w.drew = .ok (.pointer (some ⟨g, 0, none⟩)) w.drew :=
    Lib.run_unsafeSliceData_row _ _ _ _ _ _ (by omega)
  have hUS : (Builtin.unsafeString_ #[(ρ.t 127), (ρ.t 3)] (ρ.t 9) #[.pointer (some ⟨g, 0, none⟩), .int .i64 l.length]).run P w.drew = .ok (.string ⟨l.toArray⟩) (w.drew.freeze ⟨g, 0, none⟩ l.length) := by
    refine Lib.run_unsafeString_row w.drew (ρ.t 127) (ρ.t 3) (ρ.t 9) (ρ.t 5) L.t127 X.cellsByte g cur.size (by have hg' : w.drew.heap[g]? = some (.cells cur (ρ.t 5) (0, 0)) := hg; simp [World.shape?, hg']) l h0 (by omega) (by unfold maxLen at hcm; omega) ?_
    intro j x hx
    have := hown.cells (g := g) rfl j (.int .u8 x.toNat) (by simp [Lib.byteCells, hx])
    exact this
  have mixed := L.mixed
  have t72 := L.t72; have a72 := L.a72; have z72 := L.z72; have v72 := L.v72; have u72 := run_underlying L.t72
  have t70 := L.t70; have a70 := L.a70; have z70 := L.z70; have v70 := L.v70; have u70 := run_underlying L.t70
  have t37 := L.t37; have a37 := L.a37; have z37 := L.z37; have v37 := L.v37; have u37 := run_underlying L.t37
  have t127 := L.t127; have a127 := L.a127; have z127 := L.z127; have v127 := L.v127; have u127 := run_underlying L.t127
  have t3 := L.t3; have a3 := L.a3; have z3 := L.z3; have v3 := L.v3; have u3 := run_underlying L.t3
  have t9 := L.t9; have a9 := L.a9; have z9 := L.z9; have v9 := L.v9; have u9 := run_underlying L.t9
  have t5 := X.t5; have a5 := X.a5; have z5 := X.z5; have v5 := X.v5; have u5 := run_underlying X.t5
  go_enter L.f169, Body.n169_ntmps ρ
  go_wp2
  go_region_o
  all_goals (go_wp2; go_ret; exact ⟨rfl, chg_freeze ((Chg.refl _ _).drewN 1) (p := ⟨g, 0, none⟩) (by simp) _⟩)

set_option maxHeartbeats 2000000 in
set_option maxRecDepth 100000 in
theorem builder_String_nil (L : Lays.n169 P ρ) (X : Builder.Extra P ρ) (b : Nat) (p : Value) (w : World) (hbk : w.heap[b]? = some (.cells #[p, .slice none 0 0] (ρ.t 72) (0, 0))) :
    Calls P (ρ.f 169) #[.pointer (some ⟨b, 0, none⟩)] w fun e w' => e = .returned (.string ⟨#[]⟩) ∧ Chg [] w w' := by
  have hUS := Any.unsafeString_none L X
  have c1 : w.drew.cell? ⟨b, 1, none⟩ = some (.slice none 0 0) := by
    have : w.drew.heap[b]? = some (.cells #[p, .slice none 0 0] (ρ.t 72) (0, 0)) := hbk
    rw [Lib.cell_of_heap this]; rfl
  have hSD : (Builtin.unsafeSliceData_ #[(ρ.t 37)] (ρ.t 127) #[.slice none 0 0]).run P w.drew = .ok (.pointer none) w.drew := rfl
  have mixed := L.mixed
  have t72 := L.t72; have a72 := L.a72; have z72 := L.z72; have v72 := L.v72; have u72 := run_underlying L.t72
  have t70 := L.t70; have a70 := L.a70; have z70 := L.z70; have v70 := L.v70; have u70 := run_underlying L.t70
  have t37 := L.t37; have a37 := L.a37; have z37 := L.z37; have v37 := L.v37; have u37 := run_underlying L.t37
  have t127 := L.t127; have a127 := L.a127; have z127 := L.z127; have v127 := L.v127; have u127 := run_underlying L.t127
  have t3 := L.t3; have a3 := L.a3; have z3 := L.z3; have v3 := L.v3; have u3 := run_underlying L.t3
  have t9 := L.t9; have a9 := L.a9; have z9 := L.z9; have v9 := L.v9; have u9 := run_underlying L.t9
  have t5 := X.t5; have a5 := X.a5; have z5 := X.z5; have v5 := X.v5; have u5 := run_underlying X.t5
  go_enter L.f169, Body.n169_ntmps ρ
  go_wp2
  go_region_o
  all_goals (go_wp2; go_ret; exact ⟨rfl, (Chg.refl _ _).drewN 1⟩)

set_option maxHeartbeats 2000000 in
set_option maxRecDepth 100000 in
theorem builder_String_noroom (L : Lays.n169 P ρ) (X : Builder.Extra P ρ) (b g : Nat) (p : Value) (cur : Array Value) (w : World) (hbk : w.heap[b]? = some (.cells #[p, .slice (some ⟨g, 0, none⟩) 0 0] (ρ.t 72) (0, 0))) (hg : w.heap[g]? = some (.cells cur (ρ.t 5) (0, 0))) :
    Calls P (ρ.f 169) #[.pointer (some ⟨b, 0, none⟩)] w fun e w' => e = .returned (.string ⟨#[]⟩) ∧ Chg [] w w' := by
  have hUS := Any.unsafeString_none L X
  have hlt : b < w.heap.size := by
    rcases Nat.lt_or_ge b w.heap.size with h' | h'
    · exact h'
    · simp [Array.getElem?_eq_none h'] at hbk
  have c1 : w.drew.cell? ⟨b, 1, none⟩ = some (.slice (some ⟨g, 0, none⟩) 0 0) := by
    have : w.drew.heap[b]? = some (.cells #[p, .slice (some ⟨g, 0, none⟩) 0 0] (ρ.t 72) (0, 0)) := hbk
    rw [Lib.cell_of_heap this]; rfl
  have hSD : (Builtin.unsafeSliceData_ #[(ρ.t 37)] (ρ.t 127) #[.slice (some ⟨g, 0, none⟩) 0 0]).run P w.drew = .ok (.pointer (some ⟨w.drew.heap.size, 0, none⟩)) (w.drew.alloc (.view ⟨g, 0, none⟩ (ρ.t 5))) :=
    Lib.run_unsafeSliceData_zero w.drew _ _ (ρ.t 5) L.t127 ⟨g, 0, none⟩ 0 ((ρ.t 5), cur.size) (by have hg' : w.drew.heap[g]? = some (.cells cur (ρ.t 5) (0, 0)) := hg; simp [World.shape?, hg'])
  have c2 : (w.drew.alloc (.view ⟨g, 0, none⟩ (ρ.t 5))).cell? ⟨b, 1, none⟩ = some (.slice (some ⟨g, 0, none⟩) 0 0) := by
    have : (w.drew.alloc (.view ⟨g, 0, none⟩ (ρ.t 5))).heap[b]? = _ := (Lib.alloc_old w.drew _ b hlt).trans hbk
    rw [Lib.cell_of_heap this]; rfl
  have c3 : (w.alloc (.view ⟨g, 0, none⟩ (ρ.t 5))).drew.cell? ⟨b, 1, none⟩ = some (.slice (some ⟨g, 0, none⟩) 0 0) := c2
  have c0 : w.cell? ⟨b, 1, none⟩ = some (.slice (some ⟨g, 0, none⟩) 0 0) := c1
  have mixed := L.mixed
  have t72 := L.t72; have a72 := L.a72; have z72 := L.z72; have v72 := L.v72; have u72 := run_underlying L.t72
  have t70 := L.t70; have a70 := L.a70; have z70 := L.z70; have v70 := L.v70; have u70 := run_underlying L.t70
  have t37 := L.t37; have a37 := L.a37; have z37 := L.z37; have v37 := L.v37; have u37 := run_underlying L.t37
  have t127 := L.t127; have a127 := L.a127; have z127 := L.z127; have v127 := L.v127; have u127 := run_underlying L.t127
  have t3 := L.t3; have a3 := L.a3; have z3 := L.z3; have v3 := L.v3; have u3 := run_underlying L.t3
  have t9 := L.t9; have a9 := L.a9; have z9 := L.z9; have v9 := L.v9; have u9 := run_underlying L.t9
  have t5 := X.t5; have a5 := X.a5; have z5 := X.z5; have v5 := X.v5; have u5 := run_underlying X.t5
  go_enter L.f169, Body.n169_ntmps ρ
  go_wp2
  go_region_o
  all_goals (go_wp2; go_ret; exact ⟨rfl, ((Chg.refl _ _).drewN 1).alloc _⟩)

set_option maxHeartbeats 2000000 in
set_option maxRecDepth 100000 in
theorem builder_String_room (L : Lays.n169 P ρ) (X : Builder.Extra P ρ) (b g cap : Nat) (p : Value) (w : World) (hc0 : cap ≠ 0) (hbk : w.heap[b]? = some (.cells #[p, .slice (some ⟨g, 0, none⟩) 0 cap] (ρ.t 72) (0, 0))) :
    Calls P (ρ.f 169) #[.pointer (some ⟨b, 0, none⟩)] w fun e w' => e = .returned (.string ⟨#[]⟩) ∧ Chg [] w w' := by
  have hUS := Any.unsafeString_none L X
  have c1 : w.drew.cell? ⟨b, 1, none⟩ = some (.slice (some ⟨g, 0, none⟩) 0 cap) := by
    have : w.drew.heap[b]? = some (.cells #[p, .slice (some ⟨g, 0, none⟩) 0 cap] (ρ.t 72) (0, 0)) := hbk
    rw [Lib.cell_of_heap this]; rfl
  have hSD : (Builtin.unsafeSliceData_ #[(ρ.t 37)] (ρ.t 127) #[.slice (some ⟨g, 0, none⟩) 0 cap]).run P w.drew = .ok (.pointer (some ⟨g, 0, none⟩)) w.drew :=
    Lib.run_unsafeSliceData_row _ _ _ _ _ _ hc0
  clear hc0
  have mixed := L.mixed
  have t72 := L.t72; have a72 := L.a72; have z72 := L.z72; have v72 := L.v72; have u72 := run_underlying L.t72
  have t70 := L.t70; have a70 := L.a70; have z70 := L.z70; have v70 := L.v70; have u70 := run_underlying L.t70
  have t37 := L.t37; have a37 := L.a37; have z37 := L.z37; have v37 := L.v37; have u37 := run_underlying L.t37
  have t127 := L.t127; have a127 := L.a127; have z127 := L.z127; have v127 := L.v127; have u127 := run_underlying L.t127
  have t3 := L.t3; have a3 := L.a3; have z3 := L.z3; have v3 := L.v3; have u3 := run_underlying L.t3
  have t9 := L.t9; have a9 := L.a9; have z9 := L.z9; have v9 := L.v9; have u9 := run_underlying L.t9
  have t5 := X.t5; have a5 := X.a5; have z5 := X.z5; have v5 := X.v5; have u5 := run_underlying X.t5
  go_enter L.f169, Body.n169_ntmps ρ
  go_wp2
  go_region_o
  all_goals (go_wp2; go_ret; exact ⟨rfl, (Chg.refl _ _).drewN 1⟩)

/-- (*strings.Builder).String: the builder is given up -/
theorem Bd.string {W w : World} {S R : List Own} {Φ : PW} [Stable Φ] {b : Nat} {l : List UInt8} (L : Lays.n169 P ρ) (X : Builder.Extra P ρ) (h : Bd (ρ.t 72) (ρ.t 5) b l R) (c : Ctx W w (R ++ S) Φ) {K : Ending → World → Prop}
    (hk : ∀ w', Ctx W w' S Φ → K (.returned (.string ⟨l.toArray⟩)) w') : Calls P (ρ.f 169) #[.pointer (some ⟨b, 0, none⟩)] w K := by
  obtain ⟨pa, p, cap, hpa, rfl⟩ := h
  have hbk : w.heap[b]? = some (.cells #[pa, .slice p l.length cap] (ρ.t 72) (0, 0)) := c.blk 0 rfl
  have hown : w.ownsRow 0 (ρ.t 5) 1 (.slice p l.length cap) l.length (Lib.byteCells l) := c.own _ (List.mem_cons_of_mem _ List.mem_cons_self)
  by_cases h0 : l = []
  · subst h0
    rcases hown.2 with ⟨e, _⟩ | ⟨g, cap', cur, e, _, hg, _⟩
    · cases e
      exact (builder_String_nil L X b pa w hbk).mono fun e w' ⟨he, hc⟩ => by subst he; exact hk w' (c.lose (hc.mono (by simp)))
    · cases e
      by_cases hc0 : cap = 0
      · subst hc0
        exact (builder_String_noroom L X b g pa cur w hbk hg).mono fun e w' ⟨he, hc⟩ => by subst he; exact hk w' (c.lose (hc.mono (by simp)))
      · exact (builder_String_room L X b g cap pa w hc0 hbk).mono fun e w' ⟨he, hc⟩ => by subst he; exact hk w' (c.lose (hc.mono (by simp)))
  · have hl0 : l.length ≠ 0 := by simpa using h0
    obtain ⟨g, rfl⟩ : ∃ g, p = some ⟨g, 0, none⟩ := by
      rcases hown.2 with ⟨_, hz⟩ | ⟨g, cap', cur, hv, _⟩
      · exact absurd hz hl0
      · cases hv; exact ⟨g, rfl⟩
    exact (builder_String_some L X b g cap pa l w h0 hbk hown).mono fun e w' ⟨he, hc⟩ => by subst he; exact hk w' (c.lose (hc.mono (by simp [dom, Own.dom])))

end

/-! ### tables -/
/-- a table of the library's, in a block that nobody writes -/
def Tab (P : Program) (name : String) (k : IntKind) (zs : List Int) : PW := fun M w => Lib.TabIs P w name k zs ∧ ∀ g, P.globalNamed name = some g → g ∉ M

instance instStableTab (P : Program) (name : String) (k : IntKind) (zs : List Int) : Stable (Tab P name k zs) := ⟨fun {M M' w w'} hs h => by
  obtain ⟨h1, h2⟩ := h
  unfold Lib.TabIs World.var? at h1
  cases hg : P.globalNamed name with
  | none => simp [hg] at h1
  | some g =>
    simp only [hg, Option.bind_some] at h1
    have hlt : g < w.heap.size := by
      rcases Nat.lt_or_ge g w.heap.size with h' | h'
      · exact h'
      · rw [Array.getElem?_eq_none h'] at h1; simp at h1
    refine ⟨?_, fun g' hg' hm => ?_⟩
    · unfold Lib.TabIs World.var?
      simp only [hg, Option.bind_some]
      rw [hs.chg.block g hlt (h2 g hg)]
      exact h1
    · rw [hg] at hg'
      cases hg'
      rcases hs.sub g hm with h | h
      · exact h2 g hg h
      · omega⟩

theorem Tab.start {P : Program} {name : String} {k : IntKind} {zs : List Int} {w : World} (h : Lib.TabIs P w name k zs) : Tab P name k zs [] w := ⟨h, fun _ _ => by simp⟩

theorem chg_grow {w : World} {k : Nat} {os : Array Obj} : Chg [] w (Sort.grow (w.drewN k) os) :=
  ⟨rfl, rfl, rfl, by show w.heap.size ≤ (w.heap ++ os).size; rw [Array.size_append]; omega, fun j hj _ => by
    show (w.heap ++ os)[j]? = w.heap[j]?
    rw [Array.getElem?_append_left hj]⟩

/-- strconv.Itoa -/
theorem itoa_in {P : Program} {f : FuncId} {Φ : PW} [Stable Φ] {name : String} (hI : ∀ (n : Int), -9223372036854775808 ≤ n → n ≤ 9223372036854775807 → ∀ w, Lib.TabIs P w name .u64 Lib.pow10Tab →
      Calls P f #[.int .i64 n] w fun e w' => e = .returned (.string ⟨(Lib.itoa n).toArray⟩) ∧ ∃ k os, w' = Sort.grow (w.drewN k) os)
    (hΦ : ∀ M w, Φ M w → Tab P name .u64 Lib.pow10Tab M w) (n : Int) (h : I64 n) : GivesIn Φ P f #[.int .i64 n] (.string ⟨(Lib.itoa n).toArray⟩) :=
  ⟨fun W w S c => (hI n (by unfold I64 at h; omega) (by unfold I64 at h; omega) w (hΦ _ _ c.phi).1).mono fun e w' ⟨he, k, os, hw⟩ => ⟨he, by rw [hw]; exact c.call chg_grow⟩⟩

/-! ### rows with laid tables -/
open Go.ChangeShapes Go.WideShapes Go.ChangeAt

/-- the row: true, and what came in reads as it did; tables are laid -/
theorem lawTrueLaid {H : Type} {enc : TypeId × Value → H} {C : Checked} {os : Os} {f : FuncId} {fn : Func} {s : ChangeSpec} {conds : List PathCond} {apart fresh handsOn : Bool} {tb : TypeId} {ld : List (String × DataW Unit)}
    (own : ownKnob C.prog.godebug = none) (started : os.Started) (noInit : C.prog.inits.idxOf? f = none) (hfn : C.prog.funcs[f]? = some fn)
    (laid : laidOutB C.prog = true) (hvars : s.vars = []) (hspec : ∀ ds : List (DataW H), ds.length = fn.params.toList.length → (s.fn H (ds ++ [])).results = [.lit (.bool true)] ∧ (s.fn H (ds ++ [])).args = ds ∧ (s.fn H (ds ++ [])).vars = [])
    (hres : fn.resultTypes = #[tb]) (htb : C.prog.underlying tb = some .bool)
    (types : (fn.params.toList.all fun t => C.prog.readableRec t && decide (t < C.prog.types.size)) = true)
    (witness : ∃ (w : World) (tape : Tape) (i : Input), w.os = os ∧ (w.forCall tape i).Shaped C.prog ∧ i.vars = [] ∧ Input.okWide C.prog (w.forCall tape i) .any w.heap.size f i ∧
      ((s.pre enc C.prog fn conds apart (w.forCall tape i).memory i.args ∧ laidMetH C.prog ld (w.forCall tape i).memory) ∧ sizedMet enc C.prog fn (OpenSpec.ofChange s) apart (w.forCall tape i).memory i.args) ∧ Assume.holds {} C.prog (lone (Frame.enter C.prog f i.args .normal) [] (w.forCall tape i)))
    (contract : ∀ (W : World) (base : Nat) (args : Array Value) (ds : List (DataW H)) (p : List MemPlace),
      (∀ (j : Nat) t v, fn.params[j]? = some t → args[j]? = some v → Value.okWide C.prog W .any base t v) →
      DataW.TrodAll enc C.prog W 0 (fun _ => true) true fn.params.toList args.toList ds p →
      conds.all (PathCond.test C.prog ⟨fn.params.toList, ds, s.plain.varTypes C.prog, []⟩) = true → laidMetH C.prog ld W →
      Calls C.prog f args W fun e W' => ∃ u, e = .returned u ∧ (u = .bool true ∧ Chg [] W W')) :
    ReturnsInHanded {} C os f .any (fun w args => (s.pre enc C.prog fn conds apart w args ∧ laidMetH C.prog ld w) ∧ sizedMet enc C.prog fn (OpenSpec.ofChange s) apart w args) (s.post enc C.prog fn apart fresh handsOn false) := by
  refine returnsInHanded_of_change_and (X := fun w _ => laidMetH C.prog ld w) (fun _ _ _ hh h => h.of_heap hh) own started noInit hfn witness ?_
  intro W base args ds gs before hval hW hcnd _ hL _
  have hW' := hW
  obtain ⟨p, q, hA, hV, rfl, _, _⟩ := hW
  rw [hvars] at hV
  obtain ⟨rfl, rfl⟩ := trodVars_none hV
  simp only [List.append_nil] at hW'
  refine (contract W base args ds p hval hA hcnd hL).mono fun e W' ⟨u, he, hu, hc⟩ => ?_
  subst he; subst hu
  have hb : Below W.heap.size W W' := hc.below (Nat.le_refl _) (by simp)
  obtain ⟨e1, e2, e3⟩ := hspec ds (trodAll_length hA).2
  refine ⟨_, rfl, ds, [], p, [], p, [], hW', ?_, ?_, ?_, hb.frame _, fun h => by cases h⟩
  · rw [e1, hres]
    exact trodAll_mk1 (t := tb) (v := .bool true) ⟨1, by simp [DataW.trod, Value.cells, htb]⟩
  · rw [e2]
    exact trodAll_below laid hb types hA (fun x hx => by simpa using hW'.lt x hx)
  · rw [e3, hvars]
    rfl

end Go.Vc
end

/-
  STEPS of a walk: a call whose contract is known, and what follows it.
-/
section
set_option linter.unusedVariables false
set_option linter.unusedSimpArgs false
namespace Go.Vc

section
variable {P : Program} {W w : World} {R G : List Own} {Φ Ψ : PW} {f : FuncId} {args : Array Value}

/-- what is known holds this, too -/
class Has (Φ Ψ : PW) : Prop where
  go : ∀ M w, Φ M w → Ψ M w
instance (priority := 2000) hasRefl (Φ : PW) : Has Φ Φ := ⟨fun _ _ h => h⟩
instance (priority := 900) hasL (A B Ψ : PW) [h : Has A Ψ] : Has (fun M w => A M w ∧ B M w) Ψ := ⟨fun M w x => h.go M w x.1⟩
instance (priority := 1000) hasR (A B Ψ : PW) [h : Has B Ψ] : Has (fun M w => A M w ∧ B M w) Ψ := ⟨fun M w x => h.go M w x.2⟩
instance hasTrue (Φ : PW) : Has Φ (fun _ _ => True) := ⟨fun _ _ _ => trivial⟩
instance (priority := 800) hasAnd (Φ A B : PW) [h : Has Φ A] [k : Has Φ B] : Has Φ (fun M w => A M w ∧ B M w) := ⟨fun M w x => ⟨h.go M w x, k.go M w x⟩⟩

theorem Ctx.has (c : Ctx W w R Φ) [h : Has Φ Ψ] : Ctx W w R Ψ := c.weak h.go

theorem GivesSl.to [Stable Φ] {α : Type} [Gv α] {l : List α} (h : GivesSl Φ P f args l id) (c : Ctx W w (R ++ G) Φ) {K : Option Addr → Nat → Nat → List Own → PW → Prop}
    (hk : ∀ p cap, l.length ≤ cap → cap ≤ maxLen → Stable (fun M w => Φ M w ∧ Sl M w p l) → K p l.length cap R (fun M w => Φ M w ∧ Sl M w p l)) :
    Calls P f args w fun e w' => ∃ p n c, e = .returned (.slice p n c) ∧ ∃ R' Φ', Stable Φ' ∧ Ctx W w' (R' ++ G) Φ' ∧ K p n c R' Φ' :=
  h.use c fun p cap w' h1 h2 c => ⟨p, _, cap, rfl, R, _, inferInstance, c, hk p cap h1 h2 inferInstance⟩

theorem GivesIn.toB [Stable Φ] {b : Bool} (h : GivesIn Φ P f args (.bool b)) (c : Ctx W w (R ++ G) Φ) {K : Bool → List Own → PW → Prop} (hk : K b R Φ) :
    Calls P f args w fun e w' => ∃ c, e = .returned (.bool c) ∧ ∃ R' Φ', Stable Φ' ∧ Ctx W w' (R' ++ G) Φ' ∧ K c R' Φ' :=
  h.use c fun w' c => ⟨b, rfl, R, Φ, inferInstance, c, hk⟩
theorem GivesIn.toI [Stable Φ] {n : Int} {k : IntKind} (h : GivesIn Φ P f args (.int k n)) (c : Ctx W w (R ++ G) Φ) {K : Int → List Own → PW → Prop} (hk : K n R Φ) :
    Calls P f args w fun e w' => ∃ c, e = .returned (.int k c) ∧ ∃ R' Φ', Stable Φ' ∧ Ctx W w' (R' ++ G) Φ' ∧ K c R' Φ' :=
  h.use c fun w' c => ⟨n, rfl, R, Φ, inferInstance, c, hk⟩
theorem GivesIn.toS [Stable Φ] {s : ByteArray} (h : GivesIn Φ P f args (.string s)) (c : Ctx W w (R ++ G) Φ) {K : ByteArray → List Own → PW → Prop} (hk : K s R Φ) :
    Calls P f args w fun e w' => ∃ c, e = .returned (.string c) ∧ ∃ R' Φ', Stable Φ' ∧ Ctx W w' (R' ++ G) Φ' ∧ K c R' Φ' :=
  h.use c fun w' c => ⟨s, rfl, R, Φ, inferInstance, c, hk⟩

theorem GivesIn.toBW [hs : Stable Ψ] {b : Bool} (h : GivesIn Φ P f args (.bool b)) (c : Ctx W w (R ++ G) Φ) [hw : Has Φ Ψ] {K : Bool → List Own → PW → Prop} (hk : K b R Ψ) :
    Calls P f args w fun e w' => ∃ c, e = .returned (.bool c) ∧ ∃ R' Φ', Stable Φ' ∧ Ctx W w' (R' ++ G) Φ' ∧ K c R' Φ' :=
  h.use c fun w' c => ⟨b, rfl, R, Ψ, inferInstance, c.has, hk⟩

/-- .. with the place of the slice -/
theorem GivesSl.tot [Stable Φ] {α : Type} [Gv α] {l : List α} (h : GivesSl Φ P f args l id) (c : Ctx W w (R ++ G) Φ) {K : Option Addr → Nat → Nat → List Own → PW → Prop}
    (hk : ∀ p cap, l.length ≤ cap → cap ≤ maxLen → There p l.length → Stable (fun M w => Φ M w ∧ Sl M w p l) → K p l.length cap R (fun M w => Φ M w ∧ Sl M w p l)) :
    Calls P f args w fun e w' => ∃ p n c, e = .returned (.slice p n c) ∧ ∃ R' Φ', Stable Φ' ∧ Ctx W w' (R' ++ G) Φ' ∧ K p n c R' Φ' :=
  h.use c fun p cap w' h1 h2 c => ⟨p, _, cap, rfl, R, _, inferInstance, c, hk p cap h1 h2 c.phi.2.there inferInstance⟩
/-- the end -/
theorem fin [Stable Φ] [Stable Ψ] [hw : Has Ψ Φ] {v : Value} (c : Ctx W w (R ++ G) Ψ) : v = v ∧ Ctx W w R Φ := ⟨rfl, (Ctx.has c).left⟩

end
end Go.Vc
end

/-
  Ints: a sort of few, and the other functions on lists of ints, walked.
-/
section
set_option linter.unusedVariables false
set_option linter.unusedSimpArgs false
namespace Go.Proofs.YtbkpfhhhbhaecaaDoor
open Go.Vc


abbrev intv (x : Int) : Value := .int .i64 x
abbrev bufZ (p : Option Addr) (cap : Nat) (zs : List Int) : Own := .buf p zs.length cap (zs.map intv) 3 1
abbrev leZ (c : Int → Int → Int) (x y : Int) : Prop := c x y ≤ 0
def CmpZ (Φ : PW) (f : FuncId) (cp : Array Value) (c : Int → Int → Int) (G : Int → Prop) : Prop := okFun Tryd.prog f = true ∧ ∀ x y : Int, G x → G y → GivesIn Φ Tryd.prog f (Array.mk (intv x :: intv y :: cp.toList)) (.int .i64 (c x y))

section
variable {W w w' : World} {S : List Own} {Φ : PW} {p : Option Addr} {g cap : Nat} {zs : List Int} {i : Nat} {x : Int}
theorem z_ptr (cx : Ctx W w (bufZ p cap zs :: S) Φ) (h : 0 < zs.length) : ∃ g, p = some ⟨g, 0, none⟩ := by
  obtain ⟨g, hg, _⟩ := cx.bufCell 0 rfl (by rw [List.length_map]; exact h)
  exact ⟨g, hg⟩
theorem z_get (cx : Ctx W w (bufZ (some ⟨g, 0, none⟩) cap zs :: S) Φ) (hX : zs[i]? = some x) : w.cell? ⟨g, i, none⟩ = some (.int .i64 x) :=
  cx.bufGet 0 rfl rfl (by rw [List.getElem?_map, hX]; rfl)
theorem z_can (cx : Ctx W w (bufZ (some ⟨g, 0, none⟩) cap zs :: S) Φ) (hi : i < zs.length) : CanWrite w g i 1 :=
  cx.bufCan 0 rfl rfl (by rw [List.length_map]; omega)
theorem z_put [Stable Φ] (cx : Ctx W w (bufZ (some ⟨g, 0, none⟩) cap zs :: S) Φ) (hi : i < zs.length) (e : w' = w.setCell ⟨g, i, none⟩ (intv x)) : Ctx W w' (bufZ (some ⟨g, 0, none⟩) cap (zs.set i x) :: S) Φ := by
  have h := cx.bufPuts 0 rfl rfl (vs := [intv x]) (o := i) (by rw [List.length_map]; omega) (by rw [List.length_map]; simp only [List.length_cons, List.length_nil]; omega) e
  have hs : setL (zs.map intv) i [intv x] = (zs.set i x).map intv := by
    show (zs.map intv).set i (intv x) = _
    rw [List.map_set]
  rw [hs] at h
  have hl : (zs.set i x).length = zs.length := List.length_set
  unfold bufZ
  rw [hl]
  exact h
theorem z_swap [Stable Φ] {es : List Int} {i j : Nat} {X Y : Int} (hX : es[i]? = some X) (hY : es[j]? = some Y) {w1 : World} (cx : Ctx W w (bufZ (some ⟨g, 0, none⟩) cap es :: S) Φ) (e : w1 = w.setCell ⟨g, i, none⟩ (intv Y)) :
    Ctx W w1 (bufZ (some ⟨g, 0, none⟩) cap (es.set i Y) :: S) Φ := z_put cx (List.getElem?_eq_some_iff.1 hX).1 e
theorem z_swap2 {w2 w3 : World} [Stable Φ] {es : List Int} {i j : Nat} {X Y : Int} (hX : es[i]? = some X) (hY : es[j]? = some Y) (cx : Ctx W w2 (bufZ (some ⟨g, 0, none⟩) cap (es.set i Y) :: S) Φ) (e : w3 = w2.setCell ⟨g, j, none⟩ (intv X)) :
    Ctx W w3 (bufZ (some ⟨g, 0, none⟩) cap (swp es i j) :: S) Φ := by
  obtain ⟨hi, rfl⟩ := List.getElem?_eq_some_iff.1 hX
  obtain ⟨hj, rfl⟩ := List.getElem?_eq_some_iff.1 hY
  rw [swp_eq hi hj]
  exact z_put cx (by simpa using hj) e
end

/-! ### insertionSort -/
set_option maxHeartbeats 2000000 in
theorem insertionZ_use {W w : World} {S : List Own} {Φ : PW} [Stable Φ] {p : Option Addr} {cap N : Nat} {f : FuncId} {cp : Array Value} {c : Int → Int → Int} (ord : Ord (leZ c)) (tot : ∀ x y, ¬ c x y < 0 → leZ c y x) {P : Int → Prop} (hf : CmpZ Φ f cp c P) (u x z : List Int) (hP : ∀ e ∈ x, P e) (cx : Ctx W w (bufZ p cap (u ++ x ++ z) :: S) Φ) (hN : N = (u ++ x ++ z).length)
    (hlen : (u ++ x ++ z).length ≤ 100000000) {a b : Int} (ha : a = u.length) (hb : b = u.length + x.length) {K : Ending → World → Prop}
    (hK : ∀ x' w', x'.Perm x → Asc (leZ c) x' → Ctx W w' (bufZ p cap (u ++ x' ++ z) :: S) Φ → K (.returned (.tuple #[])) w') : Calls Tryd.prog F.slices_insertionSortCmpFunc_int #[.slice p N cap, .int .i64 a, .int .i64 b, .func (.func f) #[] cp] w K := by
  subst hN ha hb
  have hl : (u ++ x ++ z).length = u.length + x.length + z.length := by simp; omega
  refine (Bslices_insertionSortCmpFunc_int_run p (u ++ x ++ z).length cap u.length ((u.length : Int) + x.length) f cp (J := fun u w' => K (.returned u) w') cx ?_).mono fun e w' ⟨v, he, hj⟩ => by rw [he]; exact hj
  have hp : 0 < x.length → ∃ g, p = some ⟨g, 0, none⟩ := fun h => z_ptr cx (by omega)
  refine ⟨by unfold I64; omega, ?_⟩
  refine exI_mk (fun i R' Φ' k => ∃ (s r : List Int), i = (u.length : Int) + max s.length 1 ∧ (s ++ r).Perm x ∧ Asc (leZ c) s ∧ (s.length = 0 → r = []) ∧ R' = bufZ p cap (u ++ s ++ r ++ z) :: S ∧ Φ' = Φ ∧ k = r.length)
    ⟨⟨bufZ p cap (u ++ x.take 1 ++ x.drop 1 ++ z) :: S, Φ, (x.drop 1).length, inferInstance, fun w G cx => cx.re (by rw [List.append_assoc u (x.take 1), List.take_append_drop]), x.take 1, x.drop 1, by rw [List.length_take]; omega, by rw [List.take_append_drop], ?_, fun h => ?_, rfl, rfl, rfl⟩, ?_⟩
  · cases x with
    | nil => simp
    | cons e x => simp
  · have : x = [] := by
      cases x with
      | nil => rfl
      | cons e x => simp at h
    rw [this]; rfl
  clear cx
  rintro _ R1 Φ1 k _ ⟨s, r, rfl, hperm, hasc, hnil, rfl, rfl, rfl⟩
  have hlp := hperm.length_eq
  rw [List.length_append] at hlp
  refine Br.intro (fun hlt => ?_) (fun hge => fun w G cx => ?_)
  · have hlt := of_decide_eq_true hlt
    have hs0 : 0 < s.length := by
      rcases Nat.eq_zero_or_pos s.length with h | h
      · have := hnil h; rw [this] at hlp; simp at hlp; omega
      · exact h
    obtain ⟨e, r, rfl⟩ : ∃ e r', r = e :: r' := by
      cases r with
      | nil => simp at hlp; omega
      | cons e r' => exact ⟨e, r', rfl⟩
    simp only [List.length_cons] at hlp
    obtain ⟨g, rfl⟩ := hp (by omega)
    have hPe : P e := hP e (hperm.mem_iff.1 (by simp))
    have hPs : ∀ y ∈ s, P y := fun y hy => hP y (hperm.mem_iff.1 (by simp [hy]))
    -- the element goes down
    refine exI_mk (fun j R' Φ' k => ∃ s1 s2 : List Int, j = (u.length : Int) + s1.length ∧ s = s1 ++ s2 ∧ (∀ y ∈ s2, (leZ c) e y) ∧ R' = bufZ (some ⟨g, 0, none⟩) cap (u ++ s1 ++ e :: s2 ++ r ++ z) :: S ∧ Φ' = Φ1 ∧ k = s1.length)
      ⟨⟨_, Φ1, _, inferInstance, fun w G cx => cx.re (by simp), s, [], by omega, by simp, by simp, rfl, rfl, rfl⟩, ?_⟩
    rintro _ R2 Φ2 k _ ⟨s1, s2, rfl, rfl, hle, rfl, rfl, rfl⟩
    simp only [List.length_append] at hlp hlt hs0
    have hEl : (u ++ s1 ++ e :: s2 ++ r ++ z).length = u.length + s1.length + 1 + s2.length + r.length + z.length := by simp; omega
    have next : Asc (leZ c) (s1 ++ e :: s2) → ((u.length : Int) + max (s1 ++ s2).length 1 + 1 = (u.length : Int) + max (s1 ++ e :: s2).length 1) ∧ ((s1 ++ e :: s2) ++ r).Perm x := fun _ => by
      refine ⟨by simp only [List.length_append, List.length_cons]; omega, ?_⟩
      refine List.Perm.trans ?_ hperm
      simp only [List.append_assoc, List.cons_append]
      refine List.Perm.append_left _ ?_
      exact (List.perm_middle (l₁ := s2)).symm
    refine ⟨bufZ (some ⟨g, 0, none⟩) cap (u ++ s1 ++ e :: s2 ++ r ++ z) :: S, Φ2, inferInstance, fun w G cx => cx, Br.intro (fun hj => ?_) (fun hj => ?_)⟩
    · have hj := of_decide_eq_true hj
      have hs1 : s1 ≠ [] := fun h => by rw [h] at hj; simp at hj
      obtain ⟨t, y, rfl⟩ : ∃ t y, s1 = t ++ [y] := ⟨s1.dropLast, s1.getLast hs1, (List.dropLast_concat_getLast hs1).symm⟩
      simp only [List.length_append, List.length_cons, List.length_nil] at hlp hlt
      clear hEl
      obtain ⟨E, hE⟩ : ∃ E, u ++ (t ++ [y]) ++ e :: s2 ++ r ++ z = E := ⟨_, rfl⟩
      have hE' : E = (u ++ t) ++ y :: e :: (s2 ++ r ++ z) := by rw [← hE]; simp
      have hX : E[u.length + t.length + 1]? = some e := by
        rw [hE', List.getElem?_append_right (by simp)]
        simp
      have hY : E[u.length + t.length]? = some y := by
        rw [hE', List.getElem?_append_right (by simp)]
        simp
      have hsw : swp E (u.length + t.length + 1) (u.length + t.length) = (u ++ t) ++ e :: y :: (s2 ++ r ++ z) := by
        have h1 := swp_next (u ++ t) y e (s2 ++ r ++ z)
        rw [← h1, hE', List.length_append]
        have hi : u.length + t.length < ((u ++ t) ++ y :: e :: (s2 ++ r ++ z)).length := by simp
        have hj' : u.length + t.length + 1 < ((u ++ t) ++ y :: e :: (s2 ++ r ++ z)).length := by simp; omega
        rw [swp_eq hj' hi, swp_eq hi hj', List.set_comm _ _ (by omega)]
      have hEl : E.length = u.length + t.length + 2 + s2.length + r.length + z.length := by rw [hE']; simp; omega
      rw [hE]
      have n1 : ((u.length : Int) + ((t ++ [y]).length : Nat)).toNat = u.length + t.length + 1 := by simp; omega
      have n2 : ((u.length : Int) + ((t ++ [y]).length : Nat) - 1).toNat = u.length + t.length := by simp; omega
      have nl : ((t ++ [y]).length : Int) = t.length + 1 := by simp
      have hcall := hf.2 e y hPe (hPs y (by simp))
      refine ⟨by omega, ptrK_intro g 0 rfl ⟨by unfold I64; omega, e, fun w G cx => ⟨_, by rw [Nat.zero_add, n1]; exact z_get cx hX, rfl⟩, by omega, ptrK_intro g 0 rfl ⟨y, fun w G cx => ⟨_, by rw [Nat.zero_add, n2]; exact z_get cx hY, rfl⟩, fun w G cx => ⟨hf.1, hcall.use cx fun w cx => ⟨_, rfl, bufZ (some ⟨g, 0, none⟩) cap E :: S, Φ2, inferInstance, cx, Br.intro (fun hc => ?_) (fun hc => ?_)⟩⟩⟩⟩⟩
      · have hc := of_decide_eq_true hc
        refine ⟨[], fun _ _ => True, inferInstance, fun w G cx => (cx.weak fun _ _ _ => trivial).right, by unfold I64; omega, by unfold I64; omega, by omega, ptrK_intro g 0 rfl ⟨by omega, ptrK_intro g 0 rfl fun w G cx => ⟨e, by rw [Nat.zero_add, n1]; exact z_get cx hX, fun w G cx => ⟨y, by rw [Nat.zero_add, n2]; exact z_get cx hY, by omega, ptrK_intro g 0 rfl fun w G cx => ⟨by rw [Nat.zero_add, n1]; exact z_can cx (by omega), fun w' hw' => ?_⟩⟩⟩⟩⟩
        rw [Nat.zero_add, n1] at hw'
        refine ⟨bufZ (some ⟨g, 0, none⟩) cap (E.set (u.length + t.length + 1) y) :: S, Φ2, inferInstance, z_swap hX hY cx hw', fun w G cx => (cx.weak fun _ _ _ => trivial).right, by omega, ptrK_intro g 0 rfl fun w G cx => ⟨by rw [Nat.zero_add, n2]; exact z_can cx (by rw [List.length_set]; omega), fun w' hw' => ?_⟩⟩
        rw [Nat.zero_add, n2] at hw'
        have cx2 := z_swap2 hX hY cx hw'
        rw [hsw] at cx2
        refine ⟨bufZ (some ⟨g, 0, none⟩) cap ((u ++ t) ++ e :: y :: (s2 ++ r ++ z)) :: S, Φ2, inferInstance, cx2, fun w G cx => (cx.weak fun _ _ _ => trivial).right, by unfold I64; omega, bufZ (some ⟨g, 0, none⟩) cap (u ++ t ++ e :: (y :: s2) ++ r ++ z) :: S, Φ2, t.length, inferInstance, fun w G cx => cx.re (by simp), ⟨t, y :: s2, by omega, by simp, fun q hq => ?_, rfl, rfl, rfl⟩, by omega⟩
        rcases List.mem_cons.1 hq with rfl | hq
        · exact (show leZ c _ _ by unfold leZ; omega)
        · exact hle q hq
      · have hc := of_decide_eq_false hc
        have hye := tot _ _ hc
        have has : Asc (leZ c) ((t ++ [y]) ++ e :: s2) := by
          refine asc_put hasc (fun q hq => ?_) hle
          have h1 := (List.pairwise_append.1 hasc).1
          rcases List.mem_append.1 hq with hq | hq
          · exact ord.trans _ _ _ ((List.pairwise_append.1 h1).2.2 q hq y (by simp)) hye
          · rw [List.mem_singleton.1 hq]; exact hye
        obtain ⟨q1, q2⟩ := next has
        refine ⟨by unfold I64; simp only [List.length_append, List.length_cons, List.length_nil]; omega, bufZ (some ⟨g, 0, none⟩) cap (u ++ (t ++ [y] ++ e :: s2) ++ r ++ z) :: S, Φ2, r.length, inferInstance, fun w G cx => cx.re (by rw [← hE]; simp), ⟨t ++ [y] ++ e :: s2, r, q1, q2, has, fun h => by simp at h, rfl, rfl, rfl⟩, by simp⟩
    · have hj := of_decide_eq_false hj
      have hs1 : s1 = [] := List.eq_nil_of_length_eq_zero (by omega)
      subst hs1
      have has : Asc (leZ c) ([] ++ e :: s2) := asc_put hasc (by simp) hle
      obtain ⟨q1, q2⟩ := next has
      exact ⟨by unfold I64; simp only [List.length_append]; omega, bufZ (some ⟨g, 0, none⟩) cap (u ++ ([] ++ e :: s2) ++ r ++ z) :: S, Φ2, r.length, inferInstance, fun w G cx => cx.re (by simp), ⟨[] ++ e :: s2, r, q1, q2, has, fun h => by simp at h, rfl, rfl, rfl⟩, by simp⟩
  · have hge := of_decide_eq_false hge
    have hr : r = [] := by
      rcases Nat.eq_zero_or_pos s.length with h | h
      · exact hnil h
      · exact List.eq_nil_of_length_eq_zero (by omega)
    subst hr
    rw [List.append_nil] at hperm
    exact hK s w hperm hasc (cx.left.re (by simp))


/-! ### a stable sort of few -/
theorem SortZ_use {W w : World} {S : List Own} {Φ : PW} [Stable Φ] {p : Option Addr} {cap N : Nat} {f : FuncId} {cp : Array Value} {c : Int → Int → Int} (ord : Ord (leZ c)) (tot : ∀ x y, ¬ c x y < 0 → leZ c y x) {P : Int → Prop} (hf : CmpZ Φ f cp c P) (x : List Int) (hP : ∀ e ∈ x, P e) (cx : Ctx W w (bufZ p cap x :: S) Φ) (hN : N = x.length)
    (hlen : x.length < 20) {K : Ending → World → Prop} (hK : ∀ x' w', x'.Perm x → Asc (leZ c) x' → Ctx W w' (bufZ p cap x' :: S) Φ → K (.returned (.tuple #[])) w') : Calls Tryd.prog F.slices_SortStableFunc_int_int #[.slice p N cap, .func (.func f) #[] cp] w K := by
  subst hN
  refine (Bslices_SortStableFunc_int_int_run p x.length cap f cp (J := fun u w' => K (.returned u) w') (R := bufZ p cap x :: S) cx ?_).mono fun e w' ⟨v, he, hj⟩ => by rw [he]; exact hj
  clear cx
  intro w G cx
  refine (Bslices_stableCmpFunc_int_run p x.length cap (x.length : Int) f cp (J := fun u w' => (Ending.returned u) = .returned (.tuple #[]) ∧ ∃ R' Φ', Stable Φ' ∧ Ctx W w' (R' ++ G) Φ' ∧ ∀ w F1, Ctx W w (R' ++ F1) Φ' → K (.returned (.tuple #[])) w) (R := bufZ p cap x :: (S ++ G)) cx ?_).mono fun e w' ⟨v, he, hj⟩ => by rw [he]; exact hj
  clear cx
  refine exI_mk (fun i j R' Φ' k => i = 0 ∧ j = 20 ∧ R' = bufZ p cap x :: (S ++ G) ∧ Φ' = Φ ∧ k = 0) ⟨⟨_, Φ, _, inferInstance, fun w G cx => cx, rfl, rfl, rfl, rfl, rfl⟩, ?_⟩
  rintro _ _ R1 Φ1 k _ ⟨rfl, rfl, rfl, rfl, rfl⟩
  refine Br.intro (fun h => by have := of_decide_eq_true h; omega) (fun _ => fun w G2 cx => ?_)
  refine insertionZ_use (S := S ++ G ++ G2) ord tot hf [] x [] hP (cx.re (by simp)) (by simp) (by simp; omega) (a := 0) (b := (x.length : Int)) (by simp) (by simp) fun x' w' hp ha cx => ⟨rfl, bufZ p cap x' :: (S ++ G), Φ1, inferInstance, cx.re (by simp), ?_⟩
  refine exI_mk (fun i R' Φ' k => i = 20 ∧ R' = bufZ p cap x' :: (S ++ G) ∧ Φ' = Φ1 ∧ k = 0) ⟨⟨_, Φ1, _, inferInstance, fun w G cx => cx, rfl, rfl, rfl, rfl⟩, ?_⟩
  rintro _ R2 Φ2 k _ ⟨rfl, rfl, rfl, rfl⟩
  exact Br.intro (fun h => by have := of_decide_eq_true h; omega) (fun _ => fun w G3 cx => ⟨rfl, bufZ p cap x' :: S, Φ2, inferInstance, (cx.re (by simp) : Ctx W w ((bufZ p cap x' :: S) ++ G ++ G3) Φ2).left, fun w F1 cx => hK x' w hp ha cx.left⟩)

end Go.Proofs.YtbkpfhhhbhaecaaDoor
end

/-
  Places, in plain Lean.
-/
section
set_option linter.unusedVariables false
set_option linter.unusedSimpArgs false
namespace Go.Proofs.YtbkpfhhhbhaecaaDoor
open Go.Vc


/-! ### counting -/
def shareP (p : List Int) (w : Nat) : Nat := p.count (w : Int)
def sumF (f : Nat → Nat) : Nat → Nat
  | 0 => 0
  | n + 1 => sumF f n + f n
theorem sumF_congr {f g : Nat → Nat} : ∀ {n : Nat}, (∀ i, i < n → f i = g i) → sumF f n = sumF g n
  | 0, _ => rfl
  | n + 1, h => by rw [sumF, sumF, sumF_congr (n := n) fun i hi => h i (by omega), h n (by omega)]
theorem sumF_le {f g : Nat → Nat} : ∀ {n : Nat}, (∀ i, i < n → f i ≤ g i) → sumF f n ≤ sumF g n
  | 0, _ => Nat.le_refl _
  | n + 1, h => Nat.add_le_add (sumF_le (n := n) fun i hi => h i (by omega)) (h n (by omega))
theorem sumF_add (f g : Nat → Nat) : ∀ n : Nat, sumF (fun i => f i + g i) n = sumF f n + sumF g n
  | 0 => rfl
  | n + 1 => by simp only [sumF, sumF_add f g n]; omega
theorem sumF_const (k : Nat) : ∀ n : Nat, sumF (fun _ => k) n = n * k
  | 0 => by simp [sumF]
  | n + 1 => by simp only [sumF, sumF_const k n, Nat.add_mul]; omega
/-- one term changes -/
theorem sumF_set {f g : Nat → Nat} {w : Nat} : ∀ {n : Nat}, w < n → (∀ i, i ≠ w → g i = f i) → sumF g n + f w = sumF f n + g w
  | 0, h, _ => by omega
  | n + 1, h, hg => by
    simp only [sumF]
    by_cases hn : w = n
    · subst hn
      rw [sumF_congr (f := g) (g := f) fun i hi => hg i (by omega)]; omega
    · have := sumF_set (n := n) (by omega) hg
      rw [hg n (by omega)]; omega
theorem sumF_pos {f : Nat → Nat} : ∀ {n : Nat}, 0 < sumF f n → ∃ i, i < n ∧ 0 < f i
  | 0, h => by simp [sumF] at h
  | n + 1, h => by
    simp only [sumF] at h
    by_cases hf : 0 < f n
    · exact ⟨n, by omega, hf⟩
    · obtain ⟨i, hi, h2⟩ := sumF_pos (f := f) (n := n) (by omega)
      exact ⟨i, by omega, h2⟩
/-- values below n: the shares add up to the length -/
theorem count_sum {n : Nat} : ∀ {p : List Int}, (∀ x ∈ p, 0 ≤ x ∧ x < n) → sumF (shareP p) n = p.length
  | [], _ => by
    exact (sumF_congr (g := fun _ => 0) fun i _ => rfl).trans (by rw [sumF_const]; rfl)
  | x :: p, h => by
    obtain ⟨h1, h2⟩ := h x (by simp)
    have ih := count_sum (n := n) (p := p) fun y hy => h y (by simp [hy])
    obtain ⟨m, rfl⟩ : ∃ m : Nat, x = (m : Int) := ⟨x.toNat, by omega⟩
    have h3 := sumF_set (f := shareP p) (g := shareP ((m : Int) :: p)) (w := m) (n := n) (by omega) fun i hi => by
      unfold shareP
      rw [List.count_cons_of_ne (by omega)]
    have h4 : shareP ((m : Int) :: p) m = shareP p m + 1 := by unfold shareP; rw [List.count_cons_self]
    rw [List.length_cons]; omega
/-! ### keeping what there is room for -/
/-- one bucket after the other: kept if its worker is there and has room -/
def keepG (W : Nat) : List Int → (Nat → Nat) → List Bool × (Nat → Nat)
  | [], room => ([], room)
  | x :: p, room =>
    if x < W ∧ 0 < room x.toNat then (true :: (keepG W p (fun i => if i = x.toNat then room i - 1 else room i)).1, (keepG W p (fun i => if i = x.toNat then room i - 1 else room i)).2)
    else (false :: (keepG W p room).1, (keepG W p room).2)
/-- how many are kept at a worker -/
def keptAt : List Int → List Bool → Nat → Nat
  | x :: p, c :: fl, w => (if c = true ∧ x = (w : Int) then 1 else 0) + keptAt p fl w
  | _, _, _ => 0

theorem keepG_len (W : Nat) : ∀ (p : List Int) (room : Nat → Nat), (keepG W p room).1.length = p.length
  | [], _ => rfl
  | x :: p, room => by
    unfold keepG
    split
    · simp only [List.length_cons, keepG_len W p]
    · simp only [List.length_cons, keepG_len W p]
theorem keepG_room (W : Nat) : ∀ (p : List Int) (room : Nat → Nat), (∀ x ∈ p, 0 ≤ x) → ∀ w, w < W → (keepG W p room).2 w = room w - shareP p w
  | [], room, _, w, _ => by simp [keepG, shareP]
  | x :: p, room, h, w, hw => by
    have h0 := h x (by simp)
    have ih := fun r => keepG_room W p r (fun y hy => h y (by simp [hy])) w hw
    have hc : shareP (x :: p) w = shareP p w + if x = (w : Int) then 1 else 0 := by
      unfold shareP
      rw [List.count_cons]
      congr 1
      by_cases hx : x = (w : Int)
      · simp [hx]
      · simp [hx]
    unfold keepG
    split
    · rename_i hk
      simp only
      rw [ih, hc]
      by_cases hx : x = (w : Int)
      · rw [if_pos (by omega), if_pos hx]; omega
      · rw [if_neg (by omega), if_neg hx]; omega
    · rename_i hk
      simp only
      rw [ih, hc]
      by_cases hx : x = (w : Int)
      · rw [if_pos hx]
        have : room w = 0 := by
          subst hx
          rw [Int.toNat_natCast] at hk
          omega
        omega
      · rw [if_neg hx]; omega
theorem keepG_at (W : Nat) : ∀ (p : List Int) (room : Nat → Nat), (∀ x ∈ p, 0 ≤ x) → ∀ w, w < W → keptAt p (keepG W p room).1 w + (keepG W p room).2 w = room w
  | [], room, _, w, _ => by simp [keepG, keptAt]
  | x :: p, room, h, w, hw => by
    have h0 := h x (by simp)
    have ih := fun r => keepG_at W p r (fun y hy => h y (by simp [hy])) w hw
    unfold keepG
    split
    · rename_i hk
      simp only [keptAt]
      have := ih (fun i => if i = x.toNat then room i - 1 else room i)
      by_cases hx : x = (w : Int)
      · rw [if_pos ⟨trivial, hx⟩]
        subst hx
        rw [Int.toNat_natCast] at hk this ⊢
        rw [if_pos rfl] at this
        omega
      · rw [if_neg (fun h => hx h.2)]
        rw [if_neg (by omega)] at this
        omega
    · simp only [keptAt]
      rw [if_neg (fun h => by cases h.1), Nat.zero_add]
      exact ih room
/-- what is not kept has no worker, or one that is full -/
theorem keepG_not (W : Nat) : ∀ (p : List Int) (room : Nat → Nat), (∀ x ∈ p, 0 ≤ x) → ∀ j (hj : j < p.length), (keepG W p room).1[j]? = some false → (W : Int) ≤ p[j] ∨ (keepG W p room).2 p[j].toNat = 0
  | [], _, _, j, hj, _ => by simp at hj
  | x :: p, room, h, j, hj, hf => by
    have h0 := h x (by simp)
    have hp : ∀ y ∈ p, 0 ≤ y := fun y hy => h y (by simp [hy])
    unfold keepG at hf ⊢
    split at hf
    · rename_i hk
      rw [if_pos hk]
      simp only at hf ⊢
      cases j with
      | zero => simp at hf
      | succ j => exact keepG_not W p _ hp j (by simpa using hj) (by simpa using hf)
    · rename_i hk
      rw [if_neg hk]
      simp only at hf ⊢
      cases j with
      | zero =>
        simp only [List.getElem_cons_zero]
        by_cases hx : x < W
        · right
          have hr := keepG_room W p room hp x.toNat (by omega)
          have : room x.toNat = 0 := by omega
          omega
        · left; omega
      | succ j => exact keepG_not W p _ hp j (by simpa using hj) (by simpa using hf)
theorem keepG_yes (W : Nat) : ∀ (p : List Int) (room : Nat → Nat) (j : Nat) (hj : j < p.length), (keepG W p room).1[j]? = some true → p[j] < (W : Int)
  | [], _, j, hj, _ => by simp at hj
  | x :: p, room, j, hj, hf => by
    unfold keepG at hf
    split at hf
    · rename_i hk
      simp only at hf
      cases j with
      | zero => exact hk.1
      | succ j => exact keepG_yes W p _ j (by simpa using hj) (by simpa using hf)
    · simp only at hf
      cases j with
      | zero => simp at hf
      | succ j => exact keepG_yes W p _ j (by simpa using hj) (by simpa using hf)

/-- the first worker with room -/
def firstG (room : Nat → Nat) : Nat → Nat → Nat
  | 0, i => i
  | n + 1, i => if 0 < room i then i else firstG room n (i + 1)
theorem firstG_spec (room : Nat → Nat) : ∀ (n i : Nat), (∃ j, i ≤ j ∧ j < i + n ∧ 0 < room j) → i ≤ firstG room n i ∧ firstG room n i < i + n ∧ 0 < room (firstG room n i)
  | 0, i, h => by obtain ⟨j, h1, h2, _⟩ := h; omega
  | n + 1, i, h => by
    unfold firstG
    split
    · rename_i h0
      exact ⟨Nat.le_refl _, by omega, h0⟩
    · rename_i h0
      obtain ⟨j, h1, h2, h3⟩ := h
      have : i ≠ j := fun e => h0 (by rw [e]; exact h3)
      have := firstG_spec room n (i + 1) ⟨j, by omega, by omega, h3⟩
      omega

/-- the others are given to the first worker with room -/
def fillG (W : Nat) : List Int → List Bool → (Nat → Nat) → List Int
  | x :: p, true :: fl, room => x :: fillG W p fl room
  | _ :: p, false :: fl, room => (firstG room W 0 : Int) :: fillG W p fl (fun i => if i = firstG room W 0 then room i - 1 else room i)
  | _, _, _ => []
def missing (fl : List Bool) : Nat := fl.count false

theorem fillG_len (W : Nat) : ∀ (p : List Int) (fl : List Bool) (room : Nat → Nat), fl.length = p.length → (fillG W p fl room).length = p.length
  | [], [], _, _ => rfl
  | [], _ :: _, _, h => by simp at h
  | _ :: _, [], _, h => by simp at h
  | x :: p, true :: fl, room, h => by simp only [fillG, List.length_cons, fillG_len W p fl room (by simpa using h)]
  | x :: p, false :: fl, room, h => by simp only [fillG, List.length_cons, fillG_len W p fl _ (by simpa using h)]

theorem room_step {W : Nat} {room : Nat → Nat} {m : Nat} (h : sumF room W = m + 1) : firstG room W 0 < W ∧ 0 < room (firstG room W 0) ∧ sumF (fun i => if i = firstG room W 0 then room i - 1 else room i) W = m := by
  obtain ⟨j, h1, h2⟩ := sumF_pos (f := room) (n := W) (by omega)
  obtain ⟨_, g1, g2⟩ := firstG_spec room W 0 ⟨j, by omega, by omega, h2⟩
  have hs := sumF_set (f := room) (g := fun i => if i = firstG room W 0 then room i - 1 else room i) (w := firstG room W 0) (n := W) (by omega) fun i hi => if_neg hi
  simp only [if_true] at hs
  exact ⟨by omega, g2, by omega⟩

theorem fillG_at (W : Nat) : ∀ (p : List Int) (fl : List Bool) (room : Nat → Nat), fl.length = p.length → sumF room W = missing fl → ∀ j (hj : j < p.length), (fl[j]? = some true → (fillG W p fl room)[j]? = some p[j]) ∧ (fl[j]? = some false → ∃ w : Nat, w < W ∧ 0 < room w ∧ (fillG W p fl room)[j]? = some (w : Int))
  | [], _, _, _, _, j, hj => by simp at hj
  | _ :: _, [], _, h, _, _, _ => by simp at h
  | x :: p, true :: fl, room, h, hs, j, hj => by
    have hm : missing (true :: fl) = missing fl := by simp [missing]
    cases j with
    | zero => exact ⟨fun _ => rfl, fun h => by simp at h⟩
    | succ j =>
      have ih := fillG_at W p fl room (by simpa using h) (by rw [hs, hm]) j (by simpa using hj)
      simpa [fillG] using ih
  | x :: p, false :: fl, room, h, hs, j, hj => by
    have hm : missing (false :: fl) = missing fl + 1 := by simp [missing]
    obtain ⟨g1, g2, g3⟩ := room_step (room := room) (W := W) (m := missing fl) (by rw [hs, hm])
    cases j with
    | zero => exact ⟨fun h => by simp at h, fun _ => ⟨firstG room W 0, g1, g2, rfl⟩⟩
    | succ j =>
      have ih := fillG_at W p fl _ (by simpa using h) g3 j (by simpa using hj)
      refine ⟨by simpa [fillG] using ih.1, fun hf => ?_⟩
      obtain ⟨w, h1, h2, h3⟩ := ih.2 (by simpa using hf)
      refine ⟨w, h1, ?_, by simpa [fillG] using h3⟩
      split at h2 <;> omega

end Go.Proofs.YtbkpfhhhbhaecaaDoor
end

/-
  Spreading, in plain Lean.
-/
section
set_option linter.unusedVariables false
set_option linter.unusedSimpArgs false
namespace Go.Proofs.YtbkpfhhhbhaecaaDoor
open Go.Vc


theorem sumF_mem {n : Nat} : ∀ {l : List Nat}, l.Nodup → (∀ x ∈ l, x < n) → sumF (fun w => if w ∈ l then 1 else 0) n = l.length
  | [], _, _ => by
    refine (sumF_congr (g := fun _ => 0) fun i _ => ?_).trans (by rw [sumF_const]; rfl)
    simp
  | x :: l, hd, h => by
    have hx := List.nodup_cons.1 hd
    have ih := sumF_mem (n := n) hx.2 fun y hy => h y (by simp [hy])
    have h2 := sumF_set (f := fun w => if w ∈ l then 1 else 0) (g := fun w => if w ∈ x :: l then 1 else 0) (w := x) (n := n) (h x (by simp)) fun i hi => by simp [hi]
    simp only [List.mem_cons, true_or, if_true] at h2
    rw [if_neg hx.1] at h2
    rw [List.length_cons]
    simp only [List.mem_cons]
    omega

/-- the most often chosen ones get one more -/
def evenRoom (W : Nat) (ord : List Nat) (w : Nat) : Nat := 16 / W + if w ∈ ord.take (16 % W) then 1 else 0
structure OrdOf (p : List Int) (W : Nat) (ord : List Nat) : Prop where
  perm : ord.Perm (List.range W)
  desc : ord.Pairwise fun a b => shareP p b ≤ shareP p a

theorem OrdOf.nodup {p : List Int} {W : Nat} {ord : List Nat} (h : OrdOf p W ord) : ord.Nodup := h.perm.nodup_iff.2 List.nodup_range
theorem OrdOf.mem {p : List Int} {W : Nat} {ord : List Nat} (h : OrdOf p W ord) {w : Nat} : w ∈ ord ↔ w < W := by rw [h.perm.mem_iff, List.mem_range]
theorem OrdOf.len {p : List Int} {W : Nat} {ord : List Nat} (h : OrdOf p W ord) : ord.length = W := by rw [h.perm.length_eq, List.length_range]

theorem extra_sum {p : List Int} {W : Nat} {ord : List Nat} (h : OrdOf p W ord) (hW : 0 < W) : sumF (fun w => if w ∈ ord.take (16 % W) then 1 else 0) W = 16 % W := by
  rw [sumF_mem (h.nodup.sublist (List.take_sublist _ _)) fun x hx => h.mem.1 (List.mem_of_mem_take hx), List.length_take, h.len]
  have := Nat.mod_lt 16 hW
  omega
theorem room_sum {p : List Int} {W : Nat} {ord : List Nat} (h : OrdOf p W ord) (hW : 0 < W) : sumF (evenRoom W ord) W = 16 := by
  have h1 := sumF_add (fun _ => 16 / W) (fun w => if w ∈ ord.take (16 % W) then 1 else 0) W
  rw [sumF_const, extra_sum h hW] at h1
  have := Nat.div_add_mod 16 W
  exact h1.trans this

theorem kept_sum {W : Nat} : ∀ {p : List Int} {fl : List Bool}, fl.length = p.length → (∀ x ∈ p, 0 ≤ x) → (∀ j (hj : j < p.length), fl[j]? = some true → p[j] < (W : Int)) → sumF (keptAt p fl) W = fl.count true
  | [], [], _, _, _ => by
    refine (sumF_congr (g := fun _ => 0) fun i _ => rfl).trans (by rw [sumF_const]; rfl)
  | [], _ :: _, h, _, _ => by simp at h
  | _ :: _, [], h, _, _ => by simp at h
  | x :: p, c :: fl, h, h0, hy => by
    have ih := kept_sum (W := W) (p := p) (fl := fl) (by simpa using h) (fun y hy => h0 y (by simp [hy])) fun j hj hf => by
      have := hy (j + 1) (by simpa using hj) (by simpa using hf)
      simpa using this
    cases c with
    | false =>
      rw [List.count_cons_of_ne (by simp), ← ih]
      exact sumF_congr fun i _ => by simp [keptAt]
    | true =>
      have hx := hy 0 (by simp) rfl
      have hx : x < W := hx
      have hx0 := h0 x (by simp)
      rw [List.count_cons_self, ← ih]
      have h2 := sumF_set (f := keptAt p fl) (g := keptAt (x :: p) (true :: fl)) (w := x.toNat) (n := W) (by omega) fun i hi => by
        simp only [keptAt]
        rw [if_neg (fun h => hi (by have := h.2; omega)), Nat.zero_add]
      have h3 : keptAt (x :: p) (true :: fl) x.toNat = 1 + keptAt p fl x.toNat := by
        simp only [keptAt]
        rw [if_pos ⟨trivial, by omega⟩]
      omega
theorem flags_count : ∀ fl : List Bool, fl.count true + missing fl = fl.length
  | [] => rfl
  | true :: fl => by
    have := flags_count fl
    unfold missing at this ⊢
    rw [List.count_cons_self, List.count_cons_of_ne (by simp), List.length_cons]; omega
  | false :: fl => by
    have := flags_count fl
    unfold missing at this ⊢
    rw [List.count_cons_self, List.count_cons_of_ne (by simp), List.length_cons]; omega

def differ : List Int → List Int → Nat
  | x :: p, y :: q => (if x ≠ y then 1 else 0) + differ p q
  | _, _ => 0
theorem differ_flags : ∀ {p q : List Int} {fl : List Bool}, q.length = p.length → fl.length = p.length → (∀ j (hj : j < p.length), (fl[j]? = some true → q[j]? = some p[j]) ∧ (fl[j]? = some false → q[j]? ≠ some p[j])) → differ p q = missing fl
  | [], [], [], _, _, _ => rfl
  | [], _ :: _, _, h, _, _ => by simp at h
  | _ :: _, [], _, h, _, _ => by simp at h
  | [], [], _ :: _, _, h, _ => by simp at h
  | _ :: _, _ :: _, [], _, h, _ => by simp at h
  | x :: p, y :: q, c :: fl, h1, h2, h => by
    have ih := differ_flags (p := p) (q := q) (fl := fl) (by simpa using h1) (by simpa using h2) fun j hj => by
      have := h (j + 1) (by simpa using hj)
      simpa using this
    have h0 := h 0 (by simp)
    simp only [List.getElem?_cons_zero, List.getElem_cons_zero, Option.some.injEq] at h0
    unfold differ
    rw [ih]
    cases c with
    | true =>
      have := h0.1 rfl
      rw [if_neg (by rw [this]; simp)]
      simp [missing]
    | false =>
      have := h0.2 rfl
      rw [if_pos (fun e => this (by rw [e]))]
      simp [missing]; omega

def spreadG (p : List Int) (W : Nat) (ord : List Nat) : List Int := fillG W p (keepG W p (evenRoom W ord)).1 (keepG W p (evenRoom W ord)).2

structure PlaceOf (p : List Int) : Prop where
  len : p.length = 16
  nn : ∀ x ∈ p, 0 ≤ x

theorem spread_room {p : List Int} {W : Nat} {ord : List Nat} (hp : PlaceOf p) (h : OrdOf p W ord) (hW : 0 < W) : sumF (keepG W p (evenRoom W ord)).2 W = missing (keepG W p (evenRoom W ord)).1 := by
  have h1 := kept_sum (W := W) (keepG_len W p (evenRoom W ord)) hp.nn (keepG_yes W p (evenRoom W ord))
  have h2 := flags_count (keepG W p (evenRoom W ord)).1
  have h3 := sumF_add (keptAt p (keepG W p (evenRoom W ord)).1) (keepG W p (evenRoom W ord)).2 W
  rw [sumF_congr fun w hw => keepG_at W p (evenRoom W ord) hp.nn w hw, room_sum h hW] at h3
  rw [keepG_len, hp.len] at h2
  omega
theorem spread_len {p : List Int} {W : Nat} {ord : List Nat} (hp : PlaceOf p) : (spreadG p W ord).length = 16 := by
  unfold spreadG
  rw [fillG_len _ _ _ _ (keepG_len W p _), hp.len]
theorem spread_bd {p : List Int} {W : Nat} {ord : List Nat} (hp : PlaceOf p) (h : OrdOf p W ord) (hW : 0 < W) : ∀ x ∈ spreadG p W ord, 0 ≤ x ∧ x < W := fun x hx => by
  obtain ⟨j, hj, rfl⟩ := List.getElem_of_mem hx
  have hj2 : j < p.length := by rw [spread_len hp] at hj; rw [hp.len]; exact hj
  obtain ⟨a1, a2⟩ := fillG_at W p _ _ (keepG_len W p (evenRoom W ord)) (spread_room hp h hW) j hj2
  have hfl : j < (keepG W p (evenRoom W ord)).1.length := by rw [keepG_len]; exact hj2
  have he : (spreadG p W ord)[j]? = some (spreadG p W ord)[j] := List.getElem?_eq_getElem hj
  cases hc : (keepG W p (evenRoom W ord)).1[j] with
  | true =>
    have hc2 : (keepG W p (evenRoom W ord)).1[j]? = some true := by rw [List.getElem?_eq_getElem hfl, hc]
    have h1 := a1 hc2
    have h2 := keepG_yes W p _ j hj2 hc2
    unfold spreadG at he
    rw [h1] at he
    have e := Option.some.inj he
    have := hp.nn _ (List.getElem_mem hj2)
    unfold spreadG
    omega
  | false =>
    have hc2 : (keepG W p (evenRoom W ord)).1[j]? = some false := by rw [List.getElem?_eq_getElem hfl, hc]
    obtain ⟨w, w1, _, w3⟩ := a2 hc2
    unfold spreadG at he
    rw [w3] at he
    have e := Option.some.inj he
    unfold spreadG
    omega
/-- it moves what it must -/
theorem spread_moves {p : List Int} {W : Nat} {ord : List Nat} (hp : PlaceOf p) (h : OrdOf p W ord) (hW : 0 < W) : differ p (spreadG p W ord) + sumF (fun w => min (shareP p w) (evenRoom W ord w)) W = 16 := by
  have hd : differ p (spreadG p W ord) = missing (keepG W p (evenRoom W ord)).1 := by
    refine differ_flags (by rw [spread_len hp, hp.len]) (keepG_len W p _) fun j hj => ?_
    obtain ⟨a1, a2⟩ := fillG_at W p _ _ (keepG_len W p (evenRoom W ord)) (spread_room hp h hW) j hj
    refine ⟨a1, fun hf he => ?_⟩
    obtain ⟨w, w1, w2, w3⟩ := a2 hf
    unfold spreadG at he
    rw [w3] at he
    have e := Option.some.inj he
    rcases keepG_not W p _ hp.nn j hj hf with h1 | h1
    · omega
    · rw [← e, Int.toNat_natCast] at h1
      omega
  have h1 := kept_sum (W := W) (keepG_len W p (evenRoom W ord)) hp.nn (keepG_yes W p (evenRoom W ord))
  have h2 := flags_count (keepG W p (evenRoom W ord)).1
  rw [keepG_len, hp.len] at h2
  have h3 : sumF (keptAt p (keepG W p (evenRoom W ord)).1) W = sumF (fun w => min (shareP p w) (evenRoom W ord w)) W := sumF_congr fun w hw => by
    have e1 := keepG_at W p (evenRoom W ord) hp.nn w hw
    have e2 := keepG_room W p (evenRoom W ord) hp.nn w hw
    omega
  omega

/-- how often two places agree at a worker -/
def agreeAt : List Int → List Int → Nat → Nat
  | x :: p, y :: q, w => (if x = (w : Int) ∧ y = (w : Int) then 1 else 0) + agreeAt p q w
  | _, _, _ => 0
/-! ### even shares -/
theorem sumF_lt {f : Nat → Nat} {c n w : Nat} (h : ∀ i, i < n → f i ≤ c) (hw : w < n) (hl : f w < c) : sumF f n < n * c := by
  have h1 := sumF_set (f := f) (g := fun i => if i = w then c else f i) (w := w) hw fun i hi => if_neg hi
  simp only [if_true] at h1
  have h2 := sumF_le (f := fun i => if i = w then c else f i) (g := fun _ => c) (n := n) fun i hi => by
    split
    · exact Nat.le_refl _
    · exact h i hi
  rw [sumF_const] at h2
  omega
theorem sumF_gt {f : Nat → Nat} {c n w : Nat} (h : ∀ i, i < n → c ≤ f i) (hw : w < n) (hl : c < f w) : n * c < sumF f n := by
  have h1 := sumF_set (f := f) (g := fun i => if i = w then c else f i) (w := w) hw fun i hi => if_neg hi
  simp only [if_true] at h1
  have h2 := sumF_le (f := fun _ => c) (g := fun i => if i = w then c else f i) (n := n) fun i hi => by
    split
    · exact Nat.le_refl _
    · exact h i hi
  rw [sumF_const] at h2
  omega
/-- shares that differ by one at most -/
theorem even_bd {t : Nat → Nat} {W : Nat} (hW : 0 < W) (hs : sumF t W = 16) (he : ∀ a b, a < W → b < W → t a ≤ t b + 1) {w : Nat} (hw : w < W) : 16 / W ≤ t w ∧ t w ≤ 16 / W + 1 := by
  have hdm := Nat.div_add_mod 16 W
  have hml := Nat.mod_lt 16 hW
  constructor
  · refine Decidable.byContradiction fun hn => ?_
    have h1 := sumF_lt (f := t) (c := 16 / W) (n := W) (w := w) (fun i hi => by have := he i w hi hw; omega) hw (by omega)
    omega
  · refine Decidable.byContradiction fun hn => ?_
    have h1 := sumF_gt (f := t) (c := 16 / W + 1) (n := W) (w := w) (fun i hi => by have := he w i hw hi; omega) hw (by omega)
    rw [Nat.mul_add] at h1
    omega

/-- the best way to be even -/
theorem best {p : List Int} {W : Nat} {ord : List Nat} (h : OrdOf p W ord) (hW : 0 < W) {t : Nat → Nat} (hs : sumF t W = 16) (he : ∀ a b, a < W → b < W → t a ≤ t b + 1) :
    sumF (fun w => min (shareP p w) (t w)) W ≤ sumF (fun w => min (shareP p w) (evenRoom W ord w)) W := by
  obtain ⟨k, hk⟩ : ∃ k, 16 / W = k := ⟨_, rfl⟩
  obtain ⟨s, hs0⟩ : ∃ s, shareP p = s := ⟨_, rfl⟩
  have hdm := Nat.div_add_mod 16 W
  rw [hk] at hdm
  have hb : ∀ w, w < W → k ≤ t w ∧ t w ≤ k + 1 := fun w hw => by rw [← hk]; exact even_bd hW hs he hw
  have hdesc := h.desc
  rw [hs0] at hdesc ⊢
  -- what is beyond k
  have e1 : sumF (fun w => min (s w) (t w)) W = sumF (fun w => min (s w) k) W + sumF (fun w => if k < s w ∧ k < t w then 1 else 0) W := by
    rw [← sumF_add]
    exact sumF_congr fun w hw => by have := hb w hw; split <;> omega
  have hroom : ∀ w, evenRoom W ord w = k + if w ∈ ord.take (16 % W) then 1 else 0 := fun w => by unfold evenRoom; rw [hk]
  have e2 : sumF (fun w => min (s w) (evenRoom W ord w)) W = sumF (fun w => min (s w) k) W + sumF (fun w => if k < s w ∧ w ∈ ord.take (16 % W) then 1 else 0) W := by
    rw [← sumF_add]
    refine sumF_congr fun w hw => ?_
    rw [hroom]
    by_cases h1 : w ∈ ord.take (16 % W)
    · rw [if_pos h1]
      by_cases h2 : k < s w
      · rw [if_pos ⟨h2, h1⟩]; omega
      · rw [if_neg (fun h => h2 h.1)]; omega
    · rw [if_neg h1, if_neg (fun h => h1 h.2)]
      rfl
  rw [e1, e2]
  refine Nat.add_le_add_left ?_ _
  by_cases hall : ∀ v, v ∈ ord.take (16 % W) → k < s v
  · -- all of the first ones count
    have h1 : sumF (fun w => if k < s w ∧ w ∈ ord.take (16 % W) then 1 else 0) W = 16 % W := by
      refine Eq.trans (sumF_congr fun w _ => ?_) (extra_sum h hW)
      by_cases hm : w ∈ ord.take (16 % W)
      · rw [if_pos ⟨hall w hm, hm⟩, if_pos hm]
      · rw [if_neg (fun h => hm h.2), if_neg hm]
    have h2 : sumF (fun w => if k < s w ∧ k < t w then 1 else 0) W ≤ sumF (fun w => t w - k) W := sumF_le fun w hw => by have := hb w hw; split <;> omega
    have h3 := sumF_add (fun _ => k) (fun w => t w - k) W
    rw [sumF_const, sumF_congr (g := t) fun w hw => by have := hb w hw; omega] at h3
    omega
  · -- one of the first ones has k at most: so have all the others
    obtain ⟨v, hv, hsv⟩ : ∃ v, v ∈ ord.take (16 % W) ∧ ¬ k < s v := by
      refine Classical.byContradiction fun hn => hall fun v hv => Classical.byContradiction fun hl => hn ⟨v, hv, hl⟩
    refine sumF_le fun w hw => ?_
    by_cases h1 : k < s w
    · have hm : w ∈ ord.take (16 % W) := by
        refine Classical.byContradiction fun hn => ?_
        have hmo : w ∈ ord := h.mem.2 hw
        rw [← List.take_append_drop (16 % W) ord] at hmo hdesc
        rcases List.mem_append.1 hmo with hm | hm
        · exact hn hm
        · have := (List.pairwise_append.1 hdesc).2.2 v hv w hm
          omega
      simp only [h1, hm, true_and, if_true]
      split <;> omega
    · rw [if_neg (fun h => h1 h.1)]
      exact Nat.zero_le _

/-- what is even already stays -/
theorem stays {q : List Int} {W : Nat} {ord : List Nat} (hq : PlaceOf q) (hb : ∀ x ∈ q, 0 ≤ x ∧ x < W) (h : OrdOf q W ord) (hW : 0 < W) (he : ∀ a b, a < W → b < W → shareP q a ≤ shareP q b + 1) : spreadG q W ord = q := by
  have hs : sumF (shareP q) W = 16 := by rw [count_sum hb, hq.len]
  have h1 := best h hW hs he
  have h2 := spread_moves hq h hW
  have h3 : sumF (fun w => min (shareP q w) (shareP q w)) W = 16 := by rw [← hs]; exact sumF_congr fun w _ => Nat.min_self _
  have h4 : differ q (spreadG q W ord) = 0 := by omega
  have key : ∀ {a b : List Int}, a.length = b.length → differ a b = 0 → b = a := by
    intro a
    induction a with
    | nil => intro b hl _; cases b with
      | nil => rfl
      | cons => simp at hl
    | cons x a ih => intro b hl hd; cases b with
      | nil => simp at hl
      | cons y b =>
        unfold differ at hd
        by_cases hx : x = y
        · have hi := ih (b := b) (by simpa using hl) (by omega)
          rw [hi, hx]
        · rw [if_pos hx] at hd; omega
  exact key (by rw [spread_len hq, hq.len]) h4

end Go.Proofs.YtbkpfhhhbhaecaaDoor
end

/-
  The walks of Clone; what right rows are.
-/
section
set_option linter.unusedVariables false
set_option linter.unusedSimpArgs false
namespace Go.Proofs.YtbkpfhhhbhaecaaDoor
open Go.Vc


/-! ### right rows -/
def rightV3 (x : ValD) : Bool := if x.kind = 0 then decide (x.text = ByteArray.mk #[]) else if x.kind = 1 then decide (x.num = 0) && decide ((x.text.size : Int) ≤ 200) else decide (x.kind = 2) && (decide (x.num = 0) || decide (x.num = 1)) && decide (x.text = ByteArray.mk #[])

def rightR (l : List ValD) : Bool := decide ((l.length : Int) ≤ 12) && l.all rightV3

end Go.Proofs.YtbkpfhhhbhaecaaDoor
end

/-
  Places: the small functions, walked.
-/
section
set_option linter.unusedVariables false
set_option linter.unusedSimpArgs false
namespace Go.Proofs.YtbkpfhhhbhaecaaDoor
open Go.Vc


/-! ### in plain Lean -/
def minZ : List Int → Int
  | [] => 0
  | x :: r => r.foldl min x
def maxZ : List Int → Int
  | [] => 0
  | x :: r => r.foldl max x
theorem minZ_snoc {l : List Int} (h : l ≠ []) (x : Int) : minZ (l ++ [x]) = min (minZ l) x := by
  cases l with
  | nil => exact absurd rfl h
  | cons y l => simp [minZ]
theorem maxZ_snoc {l : List Int} (h : l ≠ []) (x : Int) : maxZ (l ++ [x]) = max (maxZ l) x := by
  cases l with
  | nil => exact absurd rfl h
  | cons y l => simp [maxZ]
theorem foldl_min (w : Int) : ∀ (l : List Int) (a : Int), w ≤ l.foldl min a ↔ w ≤ a ∧ ∀ x ∈ l, w ≤ x
  | [], a => by simp
  | x :: l, a => by
    rw [List.foldl_cons, foldl_min w l]
    simp only [List.mem_cons, forall_eq_or_imp]
    constructor
    · rintro ⟨h1, h2⟩; exact ⟨by omega, by omega, h2⟩
    · rintro ⟨h1, h2, h3⟩; exact ⟨by omega, h3⟩
theorem foldl_max (w : Int) : ∀ (l : List Int) (a : Int), l.foldl max a < w ↔ a < w ∧ ∀ x ∈ l, x < w
  | [], a => by simp
  | x :: l, a => by
    rw [List.foldl_cons, foldl_max w l]
    simp only [List.mem_cons, forall_eq_or_imp]
    constructor
    · rintro ⟨h1, h2⟩; exact ⟨by omega, by omega, h2⟩
    · rintro ⟨h1, h2, h3⟩; exact ⟨by omega, h3⟩
theorem minZ_le {l : List Int} (h : l ≠ []) (w : Int) : w ≤ minZ l ↔ ∀ x ∈ l, w ≤ x := by
  cases l with
  | nil => exact absurd rfl h
  | cons y l =>
    show w ≤ l.foldl min y ↔ _
    rw [foldl_min]
    simp
theorem maxZ_lt {l : List Int} (h : l ≠ []) (w : Int) : maxZ l < w ↔ ∀ x ∈ l, x < w := by
  cases l with
  | nil => exact absurd rfl h
  | cons y l =>
    show l.foldl max y < w ↔ _
    rw [foldl_max]
    simp
def rightZ (p : List Int) (W : Int) : Bool := decide (1 ≤ W) && (decide (W ≤ 8) && (decide ((p.length : Int) = 16) && (decide (0 ≤ minZ p) && decide (maxZ p < W))))
theorem rightZ_iff {p : List Int} {W : Int} : rightZ p W = true ↔ 1 ≤ W ∧ W ≤ 8 ∧ p.length = 16 ∧ ∀ x ∈ p, 0 ≤ x ∧ x < W := by
  unfold rightZ
  simp only [Bool.and_eq_true, decide_eq_true_eq]
  by_cases hn : p = []
  · subst hn
    simp
  · rw [minZ_le hn, maxZ_lt hn]
    constructor
    · rintro ⟨h1, h2, h3, h4, h5⟩; exact ⟨h1, h2, by omega, fun x hx => ⟨h4 x hx, h5 x hx⟩⟩
    · rintro ⟨h1, h2, h3, h4⟩; exact ⟨h1, h2, by omega, fun x hx => (h4 x hx).1, fun x hx => (h4 x hx).2⟩

/-- indices -/
def idxP (f : Nat → Bool) (n : Nat) : List Int := ((List.range n).filter f).map fun i => ((i : Nat) : Int)
theorem idxP_succ (f : Nat → Bool) (n : Nat) : idxP f (n + 1) = idxP f n ++ if f n = true then [(n : Int)] else [] := by
  unfold idxP
  rw [List.range_succ, List.filter_append, List.map_append]
  congr 1
  by_cases h : f n = true
  · simp [h]
  · simp [h]
theorem idxP_len (f : Nat → Bool) (n : Nat) : (idxP f n).length ≤ n := by
  unfold idxP
  rw [List.length_map]
  have := List.length_filter_le f (List.range n)
  rw [List.length_range] at this
  exact this
def ofP (p : List Int) (w : Int) : List Int := idxP (fun i => decide (p[i]? = some w)) p.length
def movedP (a b : List Int) : List Int := if a.length = 16 ∧ b.length = 16 then idxP (fun i => decide (a[i]? ≠ b[i]?)) 16 else []
def evenAt (W : Int) (b : Nat) : Int := ((b : Int) * W).tdiv 16
def evenP (W : Int) : List Int := if W < 1 ∨ 8 < W then [] else (List.range 16).map (evenAt W)

/-! ### walked -/
theorem int_one (M : List Nat) (w : World) (cs : List Value) (x : Int) (h : Gv.rep M w cs x) : (cs.all fun u => oneC u) = true := by
  obtain ⟨rfl, _⟩ := h
  rfl

section
variable {W w : World} {R G : List Own} {Φ PS : PW} {p q : Option Addr} {cap cap2 : Nat} {l a b : List Int}

/-- append one int -/
theorem pushZ [Stable PS] {op : Option Addr} {oc kb : Nat} {o : List Int} {x : Int} (ho : o.length < 10000000) (cx : Ctx W w (.blk kb [.int .i64 x] 3 :: bufZ op oc o :: R ++ G) PS) :
    ∃ p c w', Sem.run Tryd.prog (builtin Builtin.append #[22, 22] 22 #[false, false] #[.slice op o.length oc, .slice (some ⟨kb, 0, none⟩) 1 1]) w = .ok (.value (.slice p (o ++ [x]).length c)) w' ∧ Ctx W w' (bufZ p c (o ++ [x]) :: R ++ G) PS := by
  obtain ⟨p', cap', w', hrun, _, cx'⟩ := Ctx.app1 (P := Tryd.prog) (ts := 22) (ty := 22) (kb := #[false, false]) (size := 1) (bytes := 8) cx (by kernel_rfl) (by omega) rfl rfl (by omega) (by omega)
  have e : o.length + 1 = (o ++ [x]).length := by simp
  have em : o.map intv ++ [.int .i64 x] = (o ++ [x]).map intv := by rw [List.map_append]; rfl
  rw [e] at hrun cx'
  rw [em] at cx'
  exact ⟨p', cap', w', hrun, cx'⟩

theorem CloneZ_in [Stable Φ] (hΦ : ∀ M w, Φ M w → Sl M w p l) (hlen : l.length < 100000000) : GivesNew Φ Tryd.prog F.slices_Clone_int_int #[.slice p l.length cap] l 3 := by
  refine .there (fun M w h => (hΦ M w h).there) fun hth => ?_
  refine gives_new (Bslices_Clone_int_int_run p l.length cap) fun W R => ?_
  refine Br.intro (fun hn => fun w F c => ?_) (fun hn => ?_)
  · have hl : l = [] := by
      cases l with
      | nil => rfl
      | cons => obtain ⟨b, o, e⟩ := hth (by simp); rw [e] at hn; cases hn
    subst hl
    exact ⟨none, 0, [], rfl, (c.left.buf0 3 1).add Elems.nil⟩
  · intro k w F c
    obtain ⟨p', cap', w', cs, hrun, c'⟩ := Ctx.cloned (P := Tryd.prog) (ts := 22) (ty := 22) (kb := #[false, false]) (bytes := 8) (c2 := cap) c (by kernel_rfl) int_one hΦ hlen (by omega)
    exact ⟨_, _, _, _, hrun, _, _, inferInstance, c', fun w F c => ⟨p', cap', cs, rfl, c.left⟩⟩

theorem Min_in [Stable Φ] [hΦ : Has Φ (fun M w => Sl M w p l)] (h0 : 0 < l.length) (hlen : l.length ≤ 1000000) : GivesIn Φ Tryd.prog F.slices_Min_int_int #[.slice p l.length cap] (.int .i64 (minZ l)) := by
  refine .there (fun M w h => (hΦ.go M w h).there) fun hth => ?_
  obtain ⟨g, o, rfl⟩ := hth h0
  refine gives_in (Bslices_Min_int_int_run _ l.length cap) fun W R => Br.intro (fun h => by have := of_decide_eq_true h; omega) (fun _ => ⟨by omega, ptrK_intro g o rfl fun w G cx => ⟨l[0], sl_int (hΦ.go _ _ cx.phi) h0, ?_⟩⟩)
  clear cx
  refine exI_mk (fun n iI R' Φ' k => ∃ i : Nat, iI = i ∧ 1 ≤ i ∧ i ≤ l.length ∧ n = minZ (l.take i) ∧ R' = R ∧ Φ' = Φ ∧ k = l.length - i) ⟨⟨R, Φ, _, inferInstance, fun w G cx => cx, 1, rfl, by omega, by omega, ?_, rfl, rfl, rfl⟩, ?_⟩
  · cases l with
    | nil => simp at h0
    | cons x l => simp [minZ]
  rintro n iI R1 Φ1 k _ ⟨i, rfl, h1, hi, rfl, rfl, rfl, rfl⟩
  refine Br.intro (fun hlt => ?_) (fun hge => fun w G cx => ⟨?_, cx.left⟩)
  · have hlt : i < l.length := by have := of_decide_eq_true hlt; omega
    refine ⟨by omega, ptrK_intro g o rfl fun w G cx => ⟨l[i], by rw [Int.toNat_natCast]; exact sl_int (hΦ.go _ _ cx.phi) hlt, by unfold I64; omega, R1, Φ1, l.length - (i + 1), inferInstance, fun w G cx => cx, ⟨i + 1, by omega, by omega, hlt, ?_, rfl, rfl, rfl⟩, by omega⟩⟩
    rw [List.take_succ_eq_append_getElem hlt, minZ_snoc (by intro e; have := congrArg List.length e; rw [List.length_take, List.length_nil] at this; omega)]
  · have hge : i = l.length := by have := of_decide_eq_false hge; omega
    rw [hge, List.take_length]
theorem Max_in [Stable Φ] [hΦ : Has Φ (fun M w => Sl M w p l)] (h0 : 0 < l.length) (hlen : l.length ≤ 1000000) : GivesIn Φ Tryd.prog F.slices_Max_int_int #[.slice p l.length cap] (.int .i64 (maxZ l)) := by
  refine .there (fun M w h => (hΦ.go M w h).there) fun hth => ?_
  obtain ⟨g, o, rfl⟩ := hth h0
  refine gives_in (Bslices_Max_int_int_run _ l.length cap) fun W R => Br.intro (fun h => by have := of_decide_eq_true h; omega) (fun _ => ⟨by omega, ptrK_intro g o rfl fun w G cx => ⟨l[0], sl_int (hΦ.go _ _ cx.phi) h0, ?_⟩⟩)
  clear cx
  refine exI_mk (fun n iI R' Φ' k => ∃ i : Nat, iI = i ∧ 1 ≤ i ∧ i ≤ l.length ∧ n = maxZ (l.take i) ∧ R' = R ∧ Φ' = Φ ∧ k = l.length - i) ⟨⟨R, Φ, _, inferInstance, fun w G cx => cx, 1, rfl, by omega, by omega, ?_, rfl, rfl, rfl⟩, ?_⟩
  · cases l with
    | nil => simp at h0
    | cons x l => simp [maxZ]
  rintro n iI R1 Φ1 k _ ⟨i, rfl, h1, hi, rfl, rfl, rfl, rfl⟩
  refine Br.intro (fun hlt => ?_) (fun hge => fun w G cx => ⟨?_, cx.left⟩)
  · have hlt : i < l.length := by have := of_decide_eq_true hlt; omega
    refine ⟨by omega, ptrK_intro g o rfl fun w G cx => ⟨l[i], by rw [Int.toNat_natCast]; exact sl_int (hΦ.go _ _ cx.phi) hlt, by unfold I64; omega, R1, Φ1, l.length - (i + 1), inferInstance, fun w G cx => cx, ⟨i + 1, by omega, by omega, hlt, ?_, rfl, rfl, rfl⟩, by omega⟩⟩
    rw [List.take_succ_eq_append_getElem hlt, maxZ_snoc (by intro e; have := congrArg List.length e; rw [List.length_take, List.length_nil] at this; omega)]
  · have hge : i = l.length := by have := of_decide_eq_false hge; omega
    rw [hge, List.take_length]

theorem RightZ_in [Stable Φ] {n : Int} [hΦ : Has Φ (fun M w => Sl M w p l)] : GivesIn Φ Tryd.prog F.place_Right #[.slice p l.length cap, .int .i64 n] (.bool (rightZ l n)) := by
  refine gives_in (Bplace_Right_run p l.length cap n) fun W R => ?_
  unfold rightZ
  refine Br.intro (fun h1 => Br.intro (fun h2 => Br.intro (fun h3 => ?_) (fun h3 => fun w G cx => ⟨?_, cx.left⟩)) (fun h2 => fun w G cx => ⟨?_, cx.left⟩)) (fun h1 => fun w G cx => ⟨?_, cx.left⟩)
  · rw [h1, h2, h3, Bool.true_and, Bool.true_and, Bool.true_and]
    have hl : l.length = 16 := by have := of_decide_eq_true h3; omega
    refine fun w G cx => (Min_in (by omega) (by omega)).toI cx (Br.intro (fun h4 => ?_) (fun h4 => fun w G cx => ⟨by rw [h4]; rfl, cx.left⟩))
    rw [h4, Bool.true_and]
    exact fun w G cx => (Max_in (by omega) (by omega)).toI cx fun w G cx => ⟨rfl, cx.left⟩
  · rw [h1, h2, h3]; rfl
  · rw [h1, h2]; rfl
  · rw [h1]; rfl

end
end Go.Proofs.YtbkpfhhhbhaecaaDoor
end

/-
  Places: shares, rooms, walked.
-/
section
set_option linter.unusedVariables false
set_option linter.unusedSimpArgs false
namespace Go.Proofs.YtbkpfhhhbhaecaaDoor
open Go.Vc


/-! ### arrays of eight -/
def cells8 (f : Nat → Int) : List Value := (List.range 8).map fun i => intv (f i)
theorem cells8_len (f : Nat → Int) : (cells8 f).length = 8 := rfl
theorem cells8_at (f : Nat → Int) {i : Nat} (h : i < 8) : (cells8 f)[i]? = some (intv (f i)) := by
  unfold cells8
  rw [List.getElem?_map, List.getElem?_range h]
  rfl
theorem cells8_set (f : Nat → Int) {w : Nat} (h : w < 8) (x : Int) : (cells8 f).set w (intv x) = cells8 (fun i => if i = w then x else f i) := by
  refine List.ext_getElem? fun i => ?_
  rw [List.getElem?_set]
  by_cases hi : i < 8
  · rw [cells8_at _ hi, cells8_at _ hi]
    by_cases hw : w = i
    · rw [if_pos hw, if_pos (by rw [cells8_len]; omega), if_pos hw.symm]
    · rw [if_neg hw, if_neg (fun e => hw e.symm)]
  · rw [if_neg (by omega), List.getElem?_eq_none (by rw [cells8_len]; omega), List.getElem?_eq_none (by rw [cells8_len]; omega)]
theorem cells8_congr {f g : Nat → Int} (h : ∀ i, i < 8 → f i = g i) : cells8 f = cells8 g := by
  unfold cells8
  refine List.map_congr_left fun i hi => ?_
  rw [h i (List.mem_range.1 hi)]

/-! ### keeping, step by step -/
theorem keepG_snoc (W : Nat) : ∀ (p : List Int) (room : Nat → Nat) (x : Int), keepG W (p ++ [x]) room = if x < W ∧ 0 < (keepG W p room).2 x.toNat then ((keepG W p room).1 ++ [true], fun i => if i = x.toNat then (keepG W p room).2 i - 1 else (keepG W p room).2 i) else ((keepG W p room).1 ++ [false], (keepG W p room).2)
  | [], room, x => by
    simp only [List.nil_append, keepG]
    rfl
  | y :: p, room, x => by
    rw [List.cons_append]
    by_cases hy : y < W ∧ 0 < room y.toNat
    · have e : ∀ q, keepG W (y :: q) room = (true :: (keepG W q (fun i => if i = y.toNat then room i - 1 else room i)).1, (keepG W q (fun i => if i = y.toNat then room i - 1 else room i)).2) := fun q => by conv => lhs; unfold keepG; rw [if_pos hy]
      rw [e, e, keepG_snoc W p]
      simp only
      split <;> rfl
    · have e : ∀ q, keepG W (y :: q) room = (false :: (keepG W q room).1, (keepG W q room).2) := fun q => by conv => lhs; unfold keepG; rw [if_neg hy]
      rw [e, e, keepG_snoc W p]
      simp only
      split <;> rfl
theorem keepG_pre (W : Nat) (room : Nat → Nat) : ∀ (q p : List Int), (keepG W (p ++ q) room).1.take p.length = (keepG W p room).1
  | [], p => by
    rw [List.append_nil]
    exact List.take_of_length_le (by rw [keepG_len]; exact Nat.le_refl _)
  | x :: q, p => by
    have h := keepG_pre W room q (p ++ [x])
    rw [List.append_assoc, List.singleton_append] at h
    have h2 := congrArg (List.take p.length) h
    rw [List.take_take, List.length_append, List.length_singleton, Nat.min_eq_left (by omega)] at h2
    rw [h2, keepG_snoc]
    split <;> exact List.take_left' (keepG_len W p room)
/-- a flag, at its place -/
theorem keepG_flag (W : Nat) (room : Nat → Nat) {l : List Int} {i : Nat} (h : i < l.length) : (keepG W l room).1[i]? = some (decide (l[i] < W ∧ 0 < (keepG W (l.take i) room).2 l[i].toNat)) := by
  have h1 := keepG_pre W room (l.drop (i + 1)) (l.take (i + 1))
  rw [List.take_append_drop, List.length_take, Nat.min_eq_left (by omega), List.take_succ_eq_append_getElem h, keepG_snoc] at h1
  have h2 : ((keepG W l room).1.take (i + 1))[i]? = (keepG W l room).1[i]? := List.getElem?_take_of_lt (by omega)
  rw [← h2, h1]
  have hl : (keepG W (l.take i) room).1.length = i := by rw [keepG_len, List.length_take]; omega
  split
  · rename_i hc
    rw [decide_eq_true hc, List.getElem?_append_right (by omega), hl, Nat.sub_self]
    rfl
  · rename_i hc
    rw [decide_eq_false hc, List.getElem?_append_right (by omega), hl, Nat.sub_self]
    rfl

section
variable {Φ : PW} {p : Option Addr} {cap : Nat} {l : List Int}

theorem share_take {l : List Int} {i : Nat} (h : i < l.length) (w : Nat) : shareP (l.take (i + 1)) w = shareP (l.take i) w + if l[i] = (w : Int) then 1 else 0 := by
  unfold shareP
  rw [List.take_succ_eq_append_getElem h, List.count_append]
  congr 1
  by_cases hx : l[i] = (w : Int)
  · simp [hx]
  · simp [hx]

theorem Shares_in [Stable Φ] [hΦ : Has Φ (fun M w => Sl M w p l)] (hl : l.length ≤ 1000000) (h8 : ∀ x ∈ l, 0 ≤ x ∧ x < 8) : GivesIn Φ Tryd.prog F.place_shares #[.slice p l.length cap] (.agg (cells8 fun w => (shareP l w : Int)).toArray) := by
  refine .there (fun M w h => (hΦ.go M w h).there) fun hth => ?_
  refine gives_in (Bplace_shares_run p l.length cap) fun W R => ?_
  intro _ k0
  refine exI_mk (fun iI R' Φ' m => ∃ i : Nat, iI = i ∧ i ≤ l.length ∧ R' = .blk k0 (cells8 fun w => (shareP (l.take i) w : Int)) 102 :: R ∧ Φ' = Φ ∧ m = l.length - i) ⟨⟨_, Φ, _, inferInstance, fun w G cx => cx, 0, rfl, Nat.zero_le _, rfl, rfl, rfl⟩, ?_⟩
  rintro iI R1 Φ1 m _ ⟨i, rfl, hi, rfl, rfl, rfl⟩
  refine Br.intro (fun hlt => ?_) (fun hge => fun w G cx => ?_)
  · have hlt : i < l.length := by have := of_decide_eq_true hlt; omega
    obtain ⟨g, o, rfl⟩ := hth (by omega)
    obtain ⟨x0, x8⟩ := h8 _ (List.getElem_mem hlt)
    obtain ⟨x, hx⟩ : ∃ x : Nat, l[i] = (x : Int) := ⟨l[i].toNat, by omega⟩
    have hx8 : x < 8 := by omega
    have hc : shareP (l.take i) x ≤ i := by
      unfold shareP
      have := List.count_le_length (a := (x : Int)) (l := l.take i)
      rw [List.length_take] at this
      omega
    refine ⟨by omega, ptrK_intro g o rfl fun w G cx => ⟨(x : Int), by rw [Int.toNat_natCast, ← hx]; exact sl_int (hΦ.go _ _ cx.phi) hlt, by omega, fun w G cx => ⟨(shareP (l.take i) x : Int), cx.get 0 rfl (by rw [Nat.zero_add, Int.toNat_natCast]; exact cells8_at _ hx8), by unfold I64; omega, by omega, fun w G cx => ⟨cx.can 0 rfl (by rw [cells8_len]; omega), fun w' hw' => ?_⟩⟩⟩⟩
    rw [Nat.zero_add, Int.toNat_natCast] at hw'
    have cx2 := cx.put 0 hw' rfl
    rw [cells8_set _ hx8] at cx2
    have e : (cells8 fun j => if j = x then ((shareP (l.take i) x : Int) + 1) else (shareP (l.take i) j : Int)) = cells8 fun w => (shareP (l.take (i + 1)) w : Int) := cells8_congr fun j hj => by
      rw [share_take hlt, hx]
      by_cases hjx : j = x
      · rw [if_pos hjx, if_pos (by omega), hjx]; rfl
      · rw [if_neg hjx, if_neg (by omega)]; rfl
    have cx3 : Ctx W w' (.blk k0 (cells8 fun w => (shareP (l.take (i + 1)) w : Int)) 102 :: R ++ G) Φ1 := by
      rw [← e]
      exact cx2
    exact ⟨_, Φ1, inferInstance, cx3, by unfold I64; omega, _, Φ1, l.length - (i + 1), inferInstance, fun w G cx => cx, ⟨i + 1, by omega, hlt, rfl, rfl, rfl⟩, by omega⟩
  · have hge : i = l.length := by have := of_decide_eq_false hge; omega
    subst hge
    rw [List.take_length] at cx
    exact ⟨_, _, _, _, _, _, _, _, cx.row0 0 rfl, fun w G cx => ⟨rfl, cx.left.drop1⟩⟩
end
end Go.Proofs.YtbkpfhhhbhaecaaDoor
end

/-
  Spread, walked.
-/
section
set_option linter.unusedVariables false
set_option linter.unusedSimpArgs false
namespace Go.Proofs.YtbkpfhhhbhaecaaDoor
open Go.Vc


theorem firstG_before (room : Nat → Nat) : ∀ (n i j : Nat), i ≤ j → j < firstG room n i → ¬ 0 < room j
  | 0, i, j, h1, h2 => by unfold firstG at h2; omega
  | n + 1, i, j, h1, h2 => by
    unfold firstG at h2
    split at h2
    · omega
    · rename_i h0
      rcases Nat.lt_or_ge i j with h | h
      · exact firstG_before room n (i + 1) j h h2
      · rw [show j = i by omega]; exact h0

/-- an array of rooms: none beyond the workers -/
def arrR (N : Nat) (room : Nat → Nat) : List Value := cells8 fun w => if w < N then (room w : Int) else 0
theorem arrR_at {N : Nat} (room : Nat → Nat) {w : Nat} (h : w < N) (h8 : N ≤ 8) : (arrR N room)[w]? = some (intv (room w)) := by
  unfold arrR
  rw [cells8_at _ (by omega), if_pos h]
theorem arrR_dec {N : Nat} (room : Nat → Nat) {w : Nat} (h : w < N) (h8 : N ≤ 8) (h0 : 0 < room w) : (arrR N room).set w (intv ((room w : Int) - 1)) = arrR N (fun i => if i = w then room i - 1 else room i) := by
  unfold arrR
  rw [cells8_set _ (by omega)]
  refine cells8_congr fun i hi => ?_
  by_cases hw : i = w
  · subst hw
    rw [if_pos rfl, if_pos h]
    simp only [if_true]
    omega
  · rw [if_neg hw]
    simp only [hw, if_false]

section
variable {W w : World} {S : List Own} {Φ : PW} {k : Nat} {f : Nat → Int} {t : TypeId}
theorem IndexR_use [Stable Φ] {m : Nat} (hm : m < 8) (h1 : 0 < f m) (h2 : ∀ i, i < m → ¬ 0 < f i) (c : Ctx W w (.blk k (cells8 f) t :: S) Φ) {K : Ending → World → Prop}
    (hk : ∀ w', Ctx W w' (.blk k (cells8 f) t :: S) Φ → K (.returned (.int .i64 (m : Int))) w') : Calls Tryd.prog F.slices_IndexFunc_int_int #[.slice (some ⟨k, 0, none⟩) 8 8, .func (.func F.place_Spread_2) #[] #[]] w K := by
  refine (Bslices_IndexFunc_int_int_run (some ⟨k, 0, none⟩) 8 8 F.place_Spread_2 #[] (J := fun u w' => K (.returned u) w') (R := .blk k (cells8 f) t :: S) c ?_).mono fun e w' ⟨v, he, hj⟩ => by rw [he]; exact hj
  refine exI_mk (fun iI R' Φ' q => ∃ i : Nat, iI = i ∧ i ≤ m ∧ R' = .blk k (cells8 f) t :: S ∧ Φ' = Φ ∧ q = 8 - i) ⟨⟨_, Φ, _, inferInstance, fun w G cx => cx, 0, rfl, Nat.zero_le _, rfl, rfl, rfl⟩, ?_⟩
  rintro iI R1 Φ1 q _ ⟨i, rfl, hi, rfl, rfl, rfl⟩
  refine Br.intro (fun _ => ?_) (fun h => by have := of_decide_eq_false h; omega)
  refine ⟨by omega, ptrK_intro k 0 rfl fun w G cx => ⟨f i, cx.get 0 rfl (by rw [Nat.zero_add, Int.toNat_natCast]; exact cells8_at f (by omega)), fun w G cx => ⟨by kernel_rfl, ?_⟩⟩⟩
  have hg : Gives Tryd.prog F.place_Spread_2 #[.int .i64 (f i)] (.bool (decide (0 < f i))) := gives_of (Bplace_Spread_2_run (f i)) fun W R Φ _ => fun w G cx => ⟨rfl, cx.left⟩
  refine (hg.in).toB cx (Br.intro (fun hp => fun w G cx => ?_) (fun hp => ⟨by unfold I64; omega, _, Φ1, 8 - (i + 1), inferInstance, fun w G cx => cx, ⟨i + 1, by omega, ?_, rfl, rfl, rfl⟩, by omega⟩))
  · have hp := of_decide_eq_true hp
    have : i = m := by
      rcases Nat.lt_or_ge i m with h | h
      · exact absurd hp (h2 i h)
      · omega
    rw [this]
    exact hk w cx.left
  · have hp := of_decide_eq_false hp
    have : i ≠ m := fun e => hp (by rw [e]; exact h1)
    omega
end

def rangeZ (n : Nat) : List Int := (List.range n).map fun j => ((j : Nat) : Int)
theorem rangeZ_succ (n : Nat) : rangeZ (n + 1) = rangeZ n ++ [(n : Int)] := by
  unfold rangeZ
  rw [List.range_succ, List.map_append]
  rfl
theorem rangeZ_len (n : Nat) : (rangeZ n).length = n := by unfold rangeZ; rw [List.length_map, List.length_range]

/-- the order by shares -/
def cmpS (l : List Int) (x y : Int) : Int := (shareP l y.toNat : Int) - (shareP l x.toNat : Int)
theorem cmpS_ord (l : List Int) : Ord (leZ (cmpS l)) := by
  refine ⟨fun x y => ?_, fun x y z h1 h2 => ?_⟩
  · unfold leZ cmpS; omega
  · unfold leZ cmpS at *; omega

theorem ord_of {l : List Int} {n : Nat} {x : List Int} (hp : x.Perm (rangeZ n)) (ha : Asc (leZ (cmpS l)) x) : OrdOf l n (x.map Int.toNat) ∧ x = (x.map Int.toNat).map fun j => ((j : Nat) : Int) := by
  have h0 : ∀ y ∈ x, 0 ≤ y := fun y hy => by
    obtain ⟨j, _, rfl⟩ := List.mem_map.1 (hp.mem_iff.1 hy)
    omega
  refine ⟨⟨?_, ?_⟩, ?_⟩
  · have h1 := hp.map Int.toNat
    have h2 : (rangeZ n).map Int.toNat = List.range n := by
      unfold rangeZ
      rw [List.map_map]
      refine (List.map_congr_left (g := id) fun j _ => ?_).trans (List.map_id _)
      simp
    rw [h2] at h1
    exact h1
  · rw [List.pairwise_map]
    refine ha.imp fun {a b} h => ?_
    unfold leZ cmpS at h
    omega
  · rw [List.map_map]
    refine ((List.map_congr_left (g := id) fun j hj => ?_).trans (List.map_id _)).symm
    have := h0 j hj
    simp; omega

theorem nodup_take {O : List Nat} (h : O.Nodup) {i r : Nat} (hi : i < O.length) : O[i] ∈ O.take r ↔ i < r := by
  constructor
  · intro hm
    obtain ⟨j, hj, e⟩ := List.getElem_of_mem hm
    rw [List.length_take] at hj
    rw [List.getElem_take] at e
    have := (List.getElem_inj h (h₀ := by omega) (h₁ := hi)).1 e
    omega
  · intro hr
    have : (O.take r)[i]'(by rw [List.length_take]; omega) = O[i] := List.getElem_take
    rw [← this]
    exact List.getElem_mem _

/-! ### filling, step by step -/
def fillRoom (W : Nat) : List Bool → (Nat → Nat) → (Nat → Nat)
  | [], room => room
  | true :: fl, room => fillRoom W fl room
  | false :: fl, room => fillRoom W fl (fun i => if i = firstG room W 0 then room i - 1 else room i)
theorem fillRoom_snoc (W : Nat) : ∀ (fl : List Bool) (room : Nat → Nat) (c : Bool), fillRoom W (fl ++ [c]) room = if c = true then fillRoom W fl room else fun i => if i = firstG (fillRoom W fl room) W 0 then fillRoom W fl room i - 1 else fillRoom W fl room i
  | [], room, c => by cases c <;> rfl
  | true :: fl, room, c => by
    show fillRoom W (fl ++ [c]) room = _
    rw [fillRoom_snoc W fl]; rfl
  | false :: fl, room, c => by
    show fillRoom W (fl ++ [c]) _ = _
    rw [fillRoom_snoc W fl]; rfl
theorem fillG_false (W : Nat) : ∀ (p : List Int) (fl : List Bool) (room : Nat → Nat) (b : Nat), fl.length = p.length → fl[b]? = some false → (fillG W p fl room)[b]? = some ((firstG (fillRoom W (fl.take b) room) W 0 : Nat) : Int)
  | [], [], _, b, _, h => by simp at h
  | [], _ :: _, _, _, h, _ => by simp at h
  | _ :: _, [], _, _, h, _ => by simp at h
  | x :: p, true :: fl, room, b, hl, h => by
    cases b with
    | zero => simp at h
    | succ b =>
      have := fillG_false W p fl room b (by simpa using hl) (by simpa using h)
      simpa [fillG, fillRoom] using this
  | x :: p, false :: fl, room, b, hl, h => by
    cases b with
    | zero => rfl
    | succ b =>
      have := fillG_false W p fl (fun i => if i = firstG room W 0 then room i - 1 else room i) b (by simpa using hl) (by simpa using h)
      simpa [fillG, fillRoom] using this
/-- what is left to give, and where -/
theorem fillRoom_sum {W : Nat} : ∀ (fl : List Bool) (room : Nat → Nat), sumF room W = missing fl → ∀ b, b ≤ fl.length → sumF (fillRoom W (fl.take b) room) W = missing (fl.drop b)
  | [], room, h, b, hb => by
    have : b = 0 := by simpa using hb
    subst this
    exact h
  | c :: fl, room, h, 0, _ => h
  | true :: fl, room, h, b + 1, hb => fillRoom_sum fl room (by rw [h]; simp [missing]) b (by simpa using hb)
  | false :: fl, room, h, b + 1, hb => by
    obtain ⟨_, _, g3⟩ := room_step (room := room) (W := W) (m := missing fl) (by rw [h]; simp [missing])
    exact fillRoom_sum fl _ g3 b (by simpa using hb)

end Go.Proofs.YtbkpfhhhbhaecaaDoor
end

/-
  Spread, walked.
-/
section
set_option linter.unusedVariables false
set_option linter.unusedSimpArgs false
namespace Go.Proofs.YtbkpfhhhbhaecaaDoor
open Go.Vc


theorem tdivN (N : Nat) : (16 : Int).tdiv (N : Int) = ((16 / N : Nat) : Int) := rfl
theorem tmodN (N : Nat) : (16 : Int).tmod (N : Int) = ((16 % N : Nat) : Int) := rfl
def shareL (l : List Int) : List Int := (List.range 8).map fun w => (shareP l w : Int)
theorem shareL_at (l : List Int) {i : Nat} (h : i < (shareL l).length) : (shareL l)[i] = (shareP l i : Int) := by simp [shareL]
theorem share_le (l : List Int) (w : Nat) : shareP l w ≤ l.length := List.count_le_length

/-- the positions of those that are not kept -/
def restP (fl : List Bool) (i : Nat) : List Int := idxP (fun j => decide (fl[j]? = some false)) i

theorem elems_intv {M : List Nat} {w : World} {cs : List Value} {l : List Int} (h : Elems M w cs l) : cs = l.map intv := by
  obtain ⟨h1, h2⟩ := h
  have h1 : cs.length = l.length := by rw [h1]; exact Nat.mul_one _
  refine List.ext_getElem (by rw [List.length_map]; exact h1) fun j hj1 hj2 => ?_
  have hj : j < l.length := by omega
  have h3 := h2 j hj
  rw [rep_int] at h3
  have h4 := congrArg (fun x => x[0]?) h3.1
  simp only [show (Gv.ty Int).size = 1 from rfl, Nat.mul_one] at h4
  rw [List.getElem?_take_of_lt (by omega), List.getElem?_drop, Nat.add_zero, List.getElem?_eq_getElem hj1] at h4
  rw [List.getElem_map]
  exact Option.some.inj h4
theorem idxP_app (f : Nat → Bool) (b : Nat) : ∀ d, ∃ r, idxP f (b + d) = idxP f b ++ r
  | 0 => ⟨[], by rw [List.append_nil]; rfl⟩
  | d + 1 => by
    obtain ⟨r, hr⟩ := idxP_app f b d
    exact ⟨_, by rw [← Nat.add_assoc, idxP_succ, hr, List.append_assoc]⟩
theorem rest_at {fl : List Bool} {b n : Nat} (hb : b < n) (h : fl[b]? = some false) : (restP fl n)[(restP fl b).length]? = some (b : Int) := by
  obtain ⟨r, hr⟩ := idxP_app (fun j => decide (fl[j]? = some false)) (b + 1) (n - (b + 1))
  rw [show b + 1 + (n - (b + 1)) = n by omega, idxP_succ, if_pos (decide_eq_true h), List.append_assoc] at hr
  unfold restP
  rw [hr, List.getElem?_append_right (Nat.le_refl _), Nat.sub_self]
  rfl
theorem rest_false {fl : List Bool} {b : Nat} (h : fl[b]? = some false) : restP fl (b + 1) = restP fl b ++ [(b : Int)] := by
  unfold restP
  rw [idxP_succ, if_pos (decide_eq_true h)]
theorem rest_true {fl : List Bool} {b : Nat} (h : fl[b]? = some true) : restP fl (b + 1) = restP fl b := by
  unfold restP
  rw [idxP_succ, if_neg (by rw [h]; simp), List.append_nil]

/-- half filled -/
def mixP (q l : List Int) (b : Nat) : List Int := q.take b ++ l.drop b
theorem mix_set {q l : List Int} {b : Nat} {x : Int} (hl : b < l.length) (hql : q.length = l.length) (hq : q[b]? = some x) : (mixP q l b).set b x = mixP q l (b + 1) := by
  have hbq : b < q.length := by omega
  unfold mixP
  have ht : (q.take b).length = b := by rw [List.length_take]; omega
  rw [List.set_append_right _ _ (by omega), ht, Nat.sub_self, List.drop_eq_getElem_cons hl, List.set_cons_zero, List.take_succ_eq_append_getElem hbq, List.append_assoc]
  rw [List.getElem?_eq_getElem hbq] at hq
  rw [Option.some.inj hq]
  rfl
theorem mix_same {q l : List Int} {b : Nat} (hl : b < l.length) (hql : q.length = l.length) (hq : q[b]? = some l[b]) : mixP q l (b + 1) = mixP q l b := by
  have hbq : b < q.length := by omega
  unfold mixP
  rw [List.getElem?_eq_getElem hbq] at hq
  rw [List.take_succ_eq_append_getElem hbq, List.append_assoc, Option.some.inj hq, List.singleton_append, ← List.drop_eq_getElem_cons hl]
theorem take_snoc {fl : List Bool} {b : Nat} {c : Bool} (h : fl[b]? = some c) : fl.take (b + 1) = fl.take b ++ [c] := by
  obtain ⟨hb, e⟩ := List.getElem?_eq_some_iff.1 h
  rw [List.take_succ_eq_append_getElem hb, e]
/-- the next one that is not kept -/
theorem adv {W n : Nat} {q l : List Int} {fl : List Bool} {room : Nat → Nat} (hl : l.length = n) (hq : q.length = n) (hf : fl.length = n) (hk : ∀ j (hj : j < l.length), fl[j]? = some true → q[j]? = some l[j]) : ∀ (d b : Nat), b + d = n →
    ∃ b', b' ≤ n ∧ (b' < n → fl[b']? = some false) ∧ restP fl b' = restP fl b ∧ mixP q l b' = mixP q l b ∧ fillRoom W (fl.take b') room = fillRoom W (fl.take b) room ∧ b ≤ b'
  | 0, b, h => ⟨b, by omega, fun h2 => by omega, rfl, rfl, rfl, Nat.le_refl _⟩
  | d + 1, b, h => by
    have hb : b < fl.length := by omega
    cases hc : fl[b] with
    | false => exact ⟨b, by omega, fun _ => by rw [List.getElem?_eq_getElem hb, hc], rfl, rfl, rfl, Nat.le_refl _⟩
    | true =>
      have ht : fl[b]? = some true := by rw [List.getElem?_eq_getElem hb, hc]
      obtain ⟨b', g1, g2, g3, g4, g5, g6⟩ := adv (W := W) (room := room) hl hq hf hk d (b + 1) (by omega)
      refine ⟨b', g1, g2, g3.trans (rest_true ht), g4.trans (mix_same (by omega) (by omega) (hk b (by omega) ht)), g5.trans ?_, by omega⟩
      rw [take_snoc ht, fillRoom_snoc, if_pos rfl]

set_option maxHeartbeats 8000000 in
theorem Spread_use {W w : World} {S : List Own} {Φ : PW} [Stable Φ] {p : Option Addr} {cap : Nat} {l : List Int} (n : Int) [hΦ : Has Φ (fun M w => Sl M w p l)] (c : Ctx W w S Φ) {K : Ending → World → Prop}
    (h0 : ¬ (1 ≤ n ∧ n ≤ 8 ∧ rightZ l 8 = true) → ∀ w', Ctx W w' S Φ → K (.returned (.tuple #[.slice none 0 0, .int .i64 1])) w')
    (h1 : ∀ ord p' c' w', 1 ≤ n → n ≤ 8 → rightZ l 8 = true → OrdOf l n.toNat ord → 16 ≤ c' → c' ≤ maxLen → Ctx W w' S (fun M w => Φ M w ∧ Sl M w p' (spreadG l n.toNat ord)) → K (.returned (.tuple #[.slice p' 16 c', .int .i64 0])) w') :
    Calls Tryd.prog F.place_Spread #[.slice p l.length cap, .int .i64 n] w K := by
  refine (Bplace_Spread_run p l.length cap n (J := fun u w' => K (.returned u) w') (R := S) c ?_).mono fun e w' ⟨v, he, hj⟩ => by rw [he]; exact hj
  clear c
  refine Br.intro (fun hn => fun w G cx => h0 (fun h => by have := of_decide_eq_true hn; omega) w cx.left) (fun hn1 => Br.intro (fun hn => fun w G cx => h0 (fun h => by have := of_decide_eq_true hn; omega) w cx.left) (fun hn2 => ?_))
  have hn1 := of_decide_eq_false hn1
  have hn2 := of_decide_eq_false hn2
  refine fun w G cx => (RightZ_in (l := l) (n := 8)).toB cx (Br.intro (fun hr => fun w G cx => h0 (fun h => by rw [h.2.2] at hr; cases hr) w cx.left) (fun hr => ?_))
  clear cx
  have hr : rightZ l 8 = true := by simpa using hr
  obtain ⟨_, _, hlen, hbd⟩ := rightZ_iff.1 hr
  obtain ⟨N, rfl⟩ : ∃ N : Nat, n = N := ⟨n.toNat, by omega⟩
  have hN1 : 1 ≤ N := by omega
  have hN8 : N ≤ 8 := by omega
  obtain ⟨D, hD⟩ : ∃ D, 16 / N = D := ⟨_, rfl⟩
  have hD16 : D ≤ 16 := by rw [← hD]; exact Nat.div_le_self _ _
  have hP : PlaceOf l := ⟨hlen, fun x hx => (hbd x hx).1⟩
  refine exI_mk (fun op on oc iI R' Φ' m => ∃ i : Nat, iI = i ∧ i ≤ N ∧ on = (rangeZ i).length ∧ R' = bufZ op oc (rangeZ i) :: S ∧ Φ' = Φ ∧ m = N - i) ⟨⟨bufZ none 0 [] :: S, Φ, _, inferInstance, fun w G cx => cx.nobuf 3 1, 0, rfl, Nat.zero_le _, rfl, rfl, rfl, rfl⟩, ?_⟩
  rintro op on oc iI R1 Φ1 m _ ⟨i, rfl, hi, rfl, rfl, rfl, rfl⟩
  refine Br.intro (fun hlt => fun kb w G cx => ?_) (fun hge => fun w G cx => ?_)
  · have hlt : i < N := by have := of_decide_eq_true hlt; omega
    obtain ⟨p', c', w', hrun, cx'⟩ := pushZ (by rw [rangeZ_len]; omega) cx
    rw [← rangeZ_succ] at hrun cx'
    exact ⟨p', _, c', w', hrun, _, Φ1, inferInstance, cx', by unfold I64; omega, _, Φ1, N - (i + 1), inferInstance, fun w G cx => cx, ⟨i + 1, by omega, hlt, rfl, rfl, rfl, rfl⟩, by omega⟩
  have hge : N = i := by have := of_decide_eq_false hge; omega
  subst hge
  refine (Shares_in (Φ := Φ1) (p := p) (cap := cap) (l := l) (by omega) hbd).use cx fun w cx => ⟨(shareP l 0 : Int), (shareP l 1 : Int), (shareP l 2 : Int), (shareP l 3 : Int), (shareP l 4 : Int), (shareP l 5 : Int), (shareP l 6 : Int), (shareP l 7 : Int), rfl, bufZ op oc (rangeZ N) :: S, Φ1, inferInstance, cx, fun k54 w G2 cx => ⟨cx.can 0 rfl (by simp), fun w' hw' => ?_⟩⟩
  have cx3 : Ctx W w' (.blk k54 ((shareL l).map intv) 102 :: (bufZ op oc (rangeZ N) :: S ++ G2)) Φ1 := cx.puts 0 hw' rfl
  obtain ⟨cx4, hs⟩ := cx3.freezeBlk (α := Int) (l := shareL l) (ints_elems _ fun x hx => by
    obtain ⟨j, _, rfl⟩ := List.mem_map.1 hx
    have := share_le l j
    unfold I64; omega)
  have stP : Stable (fun M w => Φ1 M w ∧ Sl M w (some ⟨k54, 0, none⟩) (shareL l)) := inferInstance
  refine ⟨bufZ op oc (rangeZ N) :: S, fun M w => Φ1 M w ∧ Sl M w (some ⟨k54, 0, none⟩) (shareL l), stP, cx4.add hs, ?_⟩
  clear cx cx3 cx4 hs hw'
  have hcmp : CmpZ (fun M w => Φ1 M w ∧ Sl M w (some ⟨k54, 0, none⟩) (shareL l)) F.place_Spread_1 #[.pointer (some ⟨k54, 0, none⟩)] (cmpS l) (fun x => 0 ≤ x ∧ x < 8) := by
    refine ⟨by kernel_rfl, fun x y hx hy => gives_in (Bplace_Spread_1_run x y k54 0) fun W R => fun w G cx => ?_⟩
    have hl8 : (shareL l).length = 8 := rfl
    have s1 := share_le l x.toNat
    have s2 := share_le l y.toNat
    have e1 := sl_int cx.phi.2 (i := y.toNat) (by omega)
    have e2 := sl_int cx.phi.2 (i := x.toNat) (by omega)
    rw [shareL_at] at e1 e2
    exact ⟨by omega, _, e1, by omega, _, e2, by unfold I64; omega, fun w G cx => ⟨rfl, cx.left⟩⟩
  refine fun w G3 cx => SortZ_use (cmpS_ord l) (fun x y h => by unfold leZ cmpS at *; omega) hcmp (rangeZ N) (fun e he => ?_) cx rfl (by rw [rangeZ_len]; omega) fun x' w' hp ha cx => ?_
  · obtain ⟨j, hj, rfl⟩ := List.mem_map.1 he
    have := List.mem_range.1 hj
    omega
  obtain ⟨hord, hxe⟩ := ord_of hp ha
  obtain ⟨O, hO⟩ : ∃ O, x'.map Int.toNat = O := ⟨_, rfl⟩
  rw [hO] at hord hxe
  have hOl := hord.len
  have hxl : x'.length = N := by rw [hxe, List.length_map, hOl]
  obtain ⟨g, rfl⟩ := z_ptr cx (by omega)
  refine ⟨rfl, bufZ (some ⟨g, 0, none⟩) oc x' :: S, _, stP, cx, fun k66 => ?_⟩
  clear cx
  rw [rangeZ_len]
  refine exI_mk (fun iI R' Φ' m => ∃ i : Nat, iI = i ∧ i ≤ N ∧ R' = .blk k66 (cells8 fun w => if w ∈ O.take i then (evenRoom N O w : Int) else 0) 102 :: bufZ (some ⟨g, 0, none⟩) oc x' :: S ∧ Φ' = (fun M w => Φ1 M w ∧ Sl M w (some ⟨k54, 0, none⟩) (shareL l)) ∧ m = N - i) ⟨⟨_, _, _, stP, fun w G cx => cx, 0, rfl, Nat.zero_le _, by rw [List.take_zero]; rfl, rfl, rfl⟩, ?_⟩
  rintro iI R2 Φ2 m _ ⟨i, rfl, hi, rfl, rfl, rfl⟩
  refine Br.intro (fun hlt => ?_) (fun hge => ?_)
  · have hlt : i < N := by have := of_decide_eq_true hlt; omega
    have hiO : i < O.length := by omega
    obtain ⟨v, hv⟩ : ∃ v, O[i] = v := ⟨_, rfl⟩
    have hv8 : v < N := by rw [← hv]; exact hord.mem.1 (List.getElem_mem hiO)
    have hxi : x'[i]? = some (v : Int) := by
      rw [hxe, List.getElem?_map, List.getElem?_eq_getElem hiO, hv]; rfl
    have hnew : ∀ w, w ∈ O.take (i + 1) ↔ w = v ∨ w ∈ O.take i := fun w => by
      rw [List.take_succ_eq_append_getElem hiO, List.mem_append, hv, List.mem_singleton]
      exact Or.comm
    have hev : evenRoom N O v = D + if i < 16 % N then 1 else 0 := by
      unfold evenRoom
      rw [hD]
      have := nodup_take (r := 16 % N) hord.nodup hiO
      rw [hv] at this
      by_cases hc : i < 16 % N
      · rw [if_pos (this.2 hc), if_pos hc]
      · rw [if_neg (fun h => hc (this.1 h)), if_neg hc]
    refine ⟨by omega, ptrK_intro g 0 rfl fun w G cx => ⟨(v : Int), cx.bufGet 1 rfl rfl (by rw [Nat.zero_add, Int.toNat_natCast, List.getElem?_map, hxi]; rfl), by omega, by rw [tdivN, hD]; unfold I64; omega, by omega, fun w G cx => ⟨cx.can 0 rfl (by rw [cells8_len]; omega), fun w' hw' => ?_⟩⟩⟩
    rw [Nat.zero_add, Int.toNat_natCast, tdivN, hD] at hw'
    have cx1 := cx.put 0 hw' rfl
    rw [cells8_set _ (by omega)] at cx1
    have cx1 : Ctx W w' (.blk k66 (cells8 fun j => if j = v then (D : Int) else if j ∈ O.take i then (evenRoom N O j : Int) else 0) 102 :: bufZ (some ⟨g, 0, none⟩) oc x' :: S ++ G) (fun M w => Φ1 M w ∧ Sl M w (some ⟨k54, 0, none⟩) (shareL l)) := cx1
    refine ⟨_, _, stP, cx1, by omega, Br.intro (fun hb => ?_) (fun hb => ?_)⟩
    · have hb : i < 16 % N := by have := of_decide_eq_true hb; rw [tmodN] at this; omega
      clear cx1 cx hw'
      refine ⟨by omega, fun w G cx => ⟨(D : Int), cx.get 0 rfl (by rw [Nat.zero_add, Int.toNat_natCast]; show (cells8 _)[v]? = _; rw [cells8_at _ (by omega), if_pos rfl]), by unfold I64; omega, by omega, fun w G cx => ⟨cx.can 0 rfl (by show 0 + _ + 1 ≤ (cells8 _).length; rw [cells8_len]; omega), fun w' hw' => ?_⟩⟩⟩
      rw [Nat.zero_add, Int.toNat_natCast] at hw'
      have cx2 := cx.put 0 hw' rfl
      rw [cells8_set _ (by omega)] at cx2
      have e : (cells8 fun j => if j = v then ((D : Int) + 1) else if j = v then (D : Int) else if j ∈ O.take i then (evenRoom N O j : Int) else 0) = cells8 fun w => if w ∈ O.take (i + 1) then (evenRoom N O w : Int) else 0 := cells8_congr fun j hj => by
        by_cases hjv : j = v
        · rw [if_pos hjv, if_pos ((hnew j).2 (.inl hjv)), hjv, hev, if_pos hb]; rfl
        · rw [if_neg hjv, if_neg hjv]
          by_cases hm : j ∈ O.take i
          · rw [if_pos hm, if_pos ((hnew j).2 (.inr hm))]
          · rw [if_neg hm, if_neg (fun h => ((hnew j).1 h).elim hjv hm)]
      have cx3 : Ctx W w' (.blk k66 (cells8 fun w => if w ∈ O.take (i + 1) then (evenRoom N O w : Int) else 0) 102 :: bufZ (some ⟨g, 0, none⟩) oc x' :: S ++ G) (fun M w => Φ1 M w ∧ Sl M w (some ⟨k54, 0, none⟩) (shareL l)) := by
        rw [← e]; exact cx2
      exact ⟨_, _, stP, cx3, by unfold I64; omega, _, _, N - (i + 1), stP, fun w G cx => cx, ⟨i + 1, by omega, hlt, rfl, rfl, rfl⟩, by omega⟩
    · have hb : ¬ i < 16 % N := by have := of_decide_eq_false hb; rw [tmodN] at this; omega
      have e : (cells8 fun j => if j = v then (D : Int) else if j ∈ O.take i then (evenRoom N O j : Int) else 0) = cells8 fun w => if w ∈ O.take (i + 1) then (evenRoom N O w : Int) else 0 := cells8_congr fun j hj => by
        by_cases hjv : j = v
        · rw [if_pos hjv, if_pos ((hnew j).2 (.inl hjv)), hjv, hev, if_neg hb]; rfl
        · rw [if_neg hjv]
          by_cases hm : j ∈ O.take i
          · rw [if_pos hm, if_pos ((hnew j).2 (.inr hm))]
          · rw [if_neg hm, if_neg (fun h => ((hnew j).1 h).elim hjv hm)]
      exact ⟨by unfold I64; omega, .blk k66 (cells8 fun w => if w ∈ O.take (i + 1) then (evenRoom N O w : Int) else 0) 102 :: bufZ (some ⟨g, 0, none⟩) oc x' :: S, _, N - (i + 1), stP, fun w G cx => by rw [← e]; exact cx, ⟨i + 1, by omega, hlt, rfl, rfl, rfl⟩, by omega⟩
  have hge : N = i := by have := of_decide_eq_false hge; omega
  subst hge
  have hOt : O.take N = O := List.take_of_length_le (by omega)
  rw [hOt]
  have earr : (cells8 fun w => if w ∈ O then (evenRoom N O w : Int) else 0) = arrR N (evenRoom N O) := cells8_congr fun j hj => by
    by_cases hj2 : j < N
    · rw [if_pos (hord.mem.2 hj2), if_pos hj2]
    · rw [if_neg (fun h => hj2 (hord.mem.1 h)), if_neg hj2]
  rw [earr]
  refine fun w G cx => (CloneZ_in (Φ := fun M w => Φ1 M w ∧ Sl M w (some ⟨k54, 0, none⟩) (shareL l)) (p := p) (cap := cap) (fun M w h => hΦ.go M w h.1) (by omega)).use cx fun p1 cap1 ds w cx => ?_
  have hds := elems_intv cx.phi.2
  subst hds
  have cx5 : Ctx W w (bufZ p1 cap1 l :: .blk k66 (arrR N (evenRoom N O)) 102 :: S ++ G) Φ1 := (cx.sub (List.Sublist.cons_cons _ (List.Sublist.cons_cons _ (List.sublist_cons_self _ _)))).weak fun M w h => h.1.1
  obtain ⟨g1, rfl⟩ := z_ptr cx5 (by omega)
  refine ⟨some ⟨g1, 0, none⟩, _, cap1, rfl, _, Φ1, inferInstance, cx5, ?_⟩
  clear cx cx5
  obtain ⟨fl, hfl⟩ : ∃ fl, (keepG N l (evenRoom N O)).1 = fl := ⟨_, rfl⟩
  have hfll : fl.length = 16 := by rw [← hfl, keepG_len, hlen]
  refine exI_mk (fun op on oc iI R' Φ' m => ∃ i : Nat, iI = i ∧ i ≤ 16 ∧ on = (restP fl i).length ∧ R' = bufZ op oc (restP fl i) :: bufZ (some ⟨g1, 0, none⟩) cap1 l :: .blk k66 (arrR N (keepG N (l.take i) (evenRoom N O)).2) 102 :: S ∧ Φ' = Φ1 ∧ m = 16 - i ∧ (0 < (restP fl i).length → ∃ g2, op = some ⟨g2, 0, none⟩)) ⟨⟨_, Φ1, _, inferInstance, fun w G cx => cx.nobuf 3 1, 0, rfl, Nat.zero_le _, rfl, rfl, rfl, rfl, fun h => absurd h (Nat.lt_irrefl 0)⟩, ?_⟩
  rintro op on oc iI R3 Φ3 m _ ⟨i, rfl, hi, rfl, rfl, rfl, rfl, hpt⟩
  have hrl := idxP_len (fun j => decide (fl[j]? = some false)) i
  have hrl : (restP fl i).length ≤ i := hrl
  refine Br.intro (fun hlt => ?_) (fun hge => ?_)
  · have hlt : i < 16 := by have := of_decide_eq_true hlt; omega
    have hil : i < l.length := by omega
    obtain ⟨x0, x8⟩ := hbd _ (List.getElem_mem hil)
    have hflag := keepG_flag N (evenRoom N O) hil
    rw [hfl] at hflag
    have hsn := keepG_snoc N (l.take i) (evenRoom N O) l[i]
    rw [← List.take_succ_eq_append_getElem hil] at hsn
    obtain ⟨rm, hrm⟩ : ∃ rm, (keepG N (l.take i) (evenRoom N O)).2 = rm := ⟨_, rfl⟩
    rw [hrm] at hsn hflag ⊢
    obtain ⟨x, hx⟩ : ∃ x : Nat, l[i] = (x : Int) := ⟨l[i].toNat, by omega⟩
    refine ⟨by omega, ptrK_intro g1 0 rfl fun w G cx => ⟨(x : Int), cx.bufGet 1 rfl rfl (by rw [Nat.zero_add, Int.toNat_natCast, List.getElem?_map, List.getElem?_eq_getElem hil, hx]; rfl), fun w G cx => ⟨fun _ => by omega, (rm x : Int), fun h => cx.get 2 rfl (by rw [Nat.zero_add, Int.toNat_natCast]; exact arrR_at rm (by have := of_decide_eq_true h; omega) hN8), Br.intro (fun hb => ?_) (fun hb => fun kb w G cx => ?_)⟩⟩⟩
    · clear cx
      rw [Bool.and_eq_true] at hb
      have b1 : x < N := by have := of_decide_eq_true hb.1; omega
      have b2 : 0 < rm x := by have := of_decide_eq_true hb.2; omega
      rw [hx, Int.toNat_natCast, decide_eq_true ⟨by omega, b2⟩] at hflag
      rw [hx, Int.toNat_natCast, if_pos ⟨by omega, b2⟩] at hsn
      have hrs : restP fl (i + 1) = restP fl i := rest_true hflag
      have hrb : rm x ≤ 1000000 := by
        have := keepG_room N (l.take i) (evenRoom N O) (fun y hy => (hbd y (List.mem_of_mem_take hy)).1) x b1
        rw [hrm] at this
        unfold evenRoom at this
        rw [hD] at this
        split at this <;> omega
      refine ⟨by omega, fun w G cx => ⟨(rm x : Int), cx.get 2 rfl (by rw [Nat.zero_add, Int.toNat_natCast]; exact arrR_at rm b1 hN8), by unfold I64; omega, by omega, fun w G cx => ⟨cx.can 2 rfl (by show 0 + _ + 1 ≤ (cells8 _).length; rw [cells8_len]; omega), fun w' hw' => ?_⟩⟩⟩
      rw [Nat.zero_add, Int.toNat_natCast] at hw'
      have cx2 := cx.put 2 hw' rfl
      rw [arrR_dec rm b1 hN8 b2] at cx2
      have cx3 : Ctx W w' (bufZ op oc (restP fl (i + 1)) :: bufZ (some ⟨g1, 0, none⟩) cap1 l :: .blk k66 (arrR N (keepG N (l.take (i + 1)) (evenRoom N O)).2) 102 :: S ++ G) Φ3 := by
        rw [hrs, hsn]
        exact cx2
      exact ⟨_, Φ3, inferInstance, cx3, by unfold I64; omega, _, Φ3, 16 - (i + 1), inferInstance, fun w G cx => cx, ⟨i + 1, by omega, by omega, by rw [hrs], rfl, rfl, rfl, by rw [hrs]; exact hpt⟩, by omega⟩
    · rw [Bool.and_eq_false_iff] at hb
      have hno : ¬ ((x : Int) < N ∧ 0 < rm x) := fun h => by rcases hb with hb | hb <;> have := of_decide_eq_false hb <;> omega
      rw [hx, Int.toNat_natCast, decide_eq_false hno] at hflag
      rw [hx, Int.toNat_natCast, if_neg hno] at hsn
      have hrs : restP fl (i + 1) = restP fl i ++ [(i : Int)] := rest_false hflag
      obtain ⟨p', c', w', hrun, cx'⟩ := pushZ (by omega) cx
      rw [← hrs] at hrun cx'
      have cx3 : Ctx W w' (bufZ p' c' (restP fl (i + 1)) :: bufZ (some ⟨g1, 0, none⟩) cap1 l :: .blk k66 (arrR N (keepG N (l.take (i + 1)) (evenRoom N O)).2) 102 :: S ++ G) Φ3 := by
        rw [hsn]
        exact cx'
      exact ⟨p', _, c', w', hrun, _, Φ3, inferInstance, cx3, by unfold I64; omega, _, Φ3, 16 - (i + 1), inferInstance, fun w G cx => cx, ⟨i + 1, by omega, by omega, rfl, rfl, rfl, rfl, fun h => z_ptr cx3 h⟩, by omega⟩
  have hge : i = 16 := by have := of_decide_eq_false hge; omega
  subst hge
  have htl : l.take 16 = l := List.take_of_length_le (by omega)
  rw [htl]
  have hsum := spread_room hP hord hN1
  have hqe0 : spreadG l N O = fillG N l fl (keepG N l (evenRoom N O)).2 := by unfold spreadG; rw [hfl]
  have hql : (spreadG l N O).length = 16 := spread_len hP
  have hqbd := spread_bd hP hord hN1
  rw [hfl] at hsum
  obtain ⟨rmF, hrmF⟩ : ∃ rmF, (keepG N l (evenRoom N O)).2 = rmF := ⟨_, rfl⟩
  rw [hrmF] at hsum hqe0 ⊢
  have hll : fl.length = l.length := by omega
  have hkq : ∀ j (hj : j < l.length), fl[j]? = some true → (spreadG l N O)[j]? = some l[j] := fun j hj h => by
    rw [hqe0]
    exact (fillG_at N l fl rmF hll hsum j hj).1 h
  obtain ⟨b0, a1, a2, a3, a4, a5, _⟩ := adv (W := N) (room := rmF) hlen hql hfll hkq 16 0 rfl
  refine exI_mk (fun iI R' Φ' m => ∃ b : Nat, iI = ((restP fl b).length : Int) ∧ b ≤ 16 ∧ (b < 16 → fl[b]? = some false) ∧ R' = bufZ op oc (restP fl 16) :: bufZ (some ⟨g1, 0, none⟩) cap1 (mixP (spreadG l N O) l b) :: .blk k66 (arrR N (fillRoom N (fl.take b) rmF)) 102 :: S ∧ Φ' = Φ3 ∧ m = 16 - b)
    ⟨⟨_, Φ3, _, inferInstance, fun w G cx => cx, b0, by rw [a3]; rfl, a1, a2, by rw [a4, a5]; rfl, rfl, rfl⟩, ?_⟩
  rintro iI R4 Φ4 m _ ⟨b, rfl, hb16, hbf, rfl, rfl, rfl⟩
  have hml : (mixP (spreadG l N O) l b).length = 16 := by
    unfold mixP
    rw [List.length_append, List.length_take, List.length_drop]; omega
  refine Br.intro (fun hlt => ?_) (fun hge => fun w G cx => ?_)
  · have hlt := of_decide_eq_true hlt
    have hb : b < 16 := by
      rcases Nat.lt_or_ge b 16 with h | h
      · exact h
      · rw [show b = 16 by omega] at hlt
        omega
    have hf := hbf hb
    have hra := rest_at hb hf
    obtain ⟨rm, hrm⟩ : ∃ rm, fillRoom N (fl.take b) rmF = rm := ⟨_, rfl⟩
    have hrs := fillRoom_sum fl rmF hsum b (by omega)
    rw [hrm] at hrs ⊢
    have hmis : ∃ c, missing (fl.drop b) = c + 1 := by
      have hbl : b < fl.length := by omega
      rw [List.drop_eq_getElem_cons hbl]
      rw [List.getElem?_eq_getElem hbl] at hf
      rw [Option.some.inj hf]
      exact ⟨missing (fl.drop (b + 1)), by simp [missing]⟩
    obtain ⟨c0, hc0⟩ := hmis
    obtain ⟨m1, m2, m3⟩ := room_step (room := rm) (W := N) (m := c0) (by rw [hrs, hc0])
    have hqb : (spreadG l N O)[b]? = some ((firstG rm N 0 : Nat) : Int) := by rw [hqe0, fillG_false N l fl rmF b hll hf, hrm]
    have hbef := firstG_before rm N 0
    obtain ⟨v, hv⟩ : ∃ v, firstG rm N 0 = v := ⟨_, rfl⟩
    rw [hv] at m1 m2 m3 hqb hbef
    have hnext : fillRoom N (fl.take (b + 1)) rmF = fun i => if i = v then rm i - 1 else rm i := by
      rw [take_snoc hf, fillRoom_snoc, hrm, hv]
      rfl
    have hrmb : rm v ≤ 1000000 := by
      have := sumF_set (f := rm) (g := fun i => if i = v then 0 else rm i) (w := v) (n := N) m1 fun i hi => if_neg hi
      simp only [if_true] at this
      have h16 : missing (fl.drop b) ≤ 16 := by
        unfold missing
        have := List.count_le_length (a := false) (l := fl.drop b)
        rw [List.length_drop] at this
        omega
      omega
    obtain ⟨b', d1, d2, d3, d4, d5, d6⟩ := adv (W := N) (room := rmF) hlen hql hfll hkq (16 - (b + 1)) (b + 1) (by omega)
    have hrlen : (restP fl (b + 1)).length = (restP fl b).length + 1 := by rw [rest_false hf, List.length_append]; rfl
    have hpos : 0 < (restP fl 16).length := by omega
    obtain ⟨g2, rfl⟩ := hpt hpos
    refine ⟨by omega, ptrK_intro g2 0 rfl fun w G cx => ⟨(b : Int), cx.bufGet 0 rfl rfl (by rw [Nat.zero_add, Int.toNat_natCast, List.getElem?_map, hra]; rfl), Nat.le_refl _, fun w G cx => ?_⟩⟩
    have cxp : Ctx W w (.blk k66 (cells8 fun w => if w < N then (rm w : Int) else 0) 102 :: (bufZ (some ⟨g2, 0, none⟩) oc (restP fl 16) :: bufZ (some ⟨g1, 0, none⟩) cap1 (mixP (spreadG l N O) l b) :: (S ++ G))) Φ4 := cx.perm (List.perm_middle (l₁ := [bufZ (some ⟨g2, 0, none⟩) oc (restP fl 16), bufZ (some ⟨g1, 0, none⟩) cap1 (mixP (spreadG l N O) l b)]))
    rw [show subPtr (some (Addr.mk k66 0 none)) 1 0 8 = some ⟨k66, 0, none⟩ from rfl]
    refine IndexR_use (m := v) (by omega) (by rw [if_pos m1]; omega) (fun i hi => by
      have := hbef i (Nat.zero_le _) hi
      split <;> omega) cxp fun w cx => ⟨(v : Int), rfl, bufZ (some ⟨g2, 0, none⟩) oc (restP fl 16) :: bufZ (some ⟨g1, 0, none⟩) cap1 (mixP (spreadG l N O) l b) :: .blk k66 (arrR N rm) 102 :: S, Φ4, inferInstance, cx.perm (List.perm_middle (l₁ := [bufZ (some ⟨g2, 0, none⟩) oc (restP fl 16), bufZ (some ⟨g1, 0, none⟩) cap1 (mixP (spreadG l N O) l b)])).symm, by omega, ptrK_intro g1 0 rfl fun w G cx => ⟨by rw [Nat.zero_add, Int.toNat_natCast]; exact z_can cx.swap (by omega), fun w' hw' => ?_⟩⟩
    rw [Nat.zero_add, Int.toNat_natCast] at hw'
    have cx6 := (z_put cx.swap (by omega) hw').swap
    rw [mix_set (by omega) (by omega) hqb] at cx6
    refine ⟨bufZ (some ⟨g2, 0, none⟩) oc (restP fl 16) :: bufZ (some ⟨g1, 0, none⟩) cap1 (mixP (spreadG l N O) l (b + 1)) :: .blk k66 (arrR N rm) 102 :: S, Φ4, inferInstance, cx6, by omega, fun w G cx => ⟨(rm v : Int), cx.get 2 rfl (by rw [Nat.zero_add, Int.toNat_natCast]; exact arrR_at rm m1 hN8), by unfold I64; omega, by omega, fun w G cx => ⟨cx.can 2 rfl (by show 0 + _ + 1 ≤ (cells8 _).length; rw [cells8_len]; omega), fun w2 hw2 => ?_⟩⟩⟩
    rw [Nat.zero_add, Int.toNat_natCast] at hw2
    have cx7 := cx.put 2 hw2 rfl
    rw [arrR_dec rm m1 hN8 m2] at cx7
    have cx8 : Ctx W w2 (bufZ (some ⟨g2, 0, none⟩) oc (restP fl 16) :: bufZ (some ⟨g1, 0, none⟩) cap1 (mixP (spreadG l N O) l b') :: .blk k66 (arrR N (fillRoom N (fl.take b') rmF)) 102 :: S ++ G) Φ4 := by
      rw [d4, d5, hnext]
      exact cx7
    exact ⟨_, Φ4, inferInstance, cx8, by unfold I64; omega, _, Φ4, 16 - b', inferInstance, fun w G cx => cx, ⟨b', by rw [d3, hrlen]; rfl, d1, d2, rfl, rfl, rfl⟩, by omega⟩
  · have hge := of_decide_eq_false hge
    have hb : b = 16 := by
      rcases Nat.lt_or_ge b 16 with h | h
      · have hra := rest_at h (hbf h)
        have := (List.getElem?_eq_some_iff.1 hra).1
        omega
      · omega
    subst hb
    have hmq : mixP (spreadG l N O) l 16 = spreadG l N O := by
      unfold mixP
      rw [List.take_of_length_le (by omega), List.drop_eq_nil_of_le (by omega), List.append_nil]
    rw [hmq] at cx
    have cx2 : Ctx W w (bufZ (some ⟨g1, 0, none⟩) cap1 (spreadG l N O) :: S) Φ4 := (cx.left.drop1).sub (List.Sublist.cons_cons _ (List.sublist_cons_self _ _))
    obtain ⟨_, k1, k2⟩ := cx2.bufLen 0 rfl
    obtain ⟨cx3, hs, _⟩ := Ctx.freeze (α := Int) (l := spreadG l N O) cx2 (ints_elems _ fun x hx => by have := hqbd x hx; unfold I64; omega)
    rw [hlen]
    exact h1 O (some ⟨g1, 0, none⟩) cap1 w (by omega) (by omega) hr (by rw [Int.toNat_natCast]; exact hord) (by omega) k2 (by rw [Int.toNat_natCast]; exact cx3.add hs)

end Go.Proofs.YtbkpfhhhbhaecaaDoor
end

/-
  The law PlaceSpread, walked.
-/
section
set_option linter.unusedVariables false
set_option linter.unusedSimpArgs false
namespace Go.Proofs.YtbkpfhhhbhaecaaDoor
open Go.Vc


section
variable {Φ : PW} {p q : Option Addr} {cap cap2 : Nat} {l a b : List Int} {W w : World} {R G : List Own}

theorem Spread_to [Stable Φ] {n : Int} [hΦ : Has Φ (fun M w => Sl M w p l)] (c : Ctx W w (R ++ G) Φ) {K : Option Addr → Nat → Nat → Int → List Own → PW → Prop}
    (h0 : ¬ (1 ≤ n ∧ n ≤ 8 ∧ rightZ l 8 = true) → K none 0 0 1 R Φ)
    (h1 : ∀ ord p' c', 1 ≤ n → n ≤ 8 → rightZ l 8 = true → OrdOf l n.toNat ord → (spreadG l n.toNat ord).length ≤ c' → c' ≤ maxLen → Stable (fun M w => Φ M w ∧ Sl M w p' (spreadG l n.toNat ord)) → K p' (spreadG l n.toNat ord).length c' 0 R (fun M w => Φ M w ∧ Sl M w p' (spreadG l n.toNat ord))) :
    Calls Tryd.prog F.place_Spread #[.slice p l.length cap, .int .i64 n] w fun e w' => ∃ p' k c' m, e = .returned (.tuple #[.slice p' k c', .int .i64 m]) ∧ ∃ R' Φ', Stable Φ' ∧ Ctx W w' (R' ++ G) Φ' ∧ K p' k c' m R' Φ' := by
  refine Spread_use n c (fun h w' c => ⟨none, 0, 0, 1, rfl, R, Φ, inferInstance, c, h0 h⟩) fun ord p' c' w' g1 g2 g3 g4 g5 g6 c => ?_
  have hl : (spreadG l n.toNat ord).length = 16 := by
    obtain ⟨_, _, hlen, hbd⟩ := rightZ_iff.1 g3
    exact spread_len ⟨hlen, fun x hx => (hbd x hx).1⟩
  rw [← hl]
  exact ⟨p', _, c', 0, rfl, R, _, inferInstance, c, h1 ord p' c' g1 g2 g3 g4 (by omega) g6 inferInstance⟩

end
end Go.Proofs.YtbkpfhhhbhaecaaDoor
end

/-
  Layings of the kit's shelf at this seat's numbers (printed by the kit's own tools).
-/
section
set_option linter.unusedVariables false
namespace Go.Proofs
open Go.Shelf

def Tryd.lays169_ren : Go.Shelf.Ren := ⟨fun | 169 => 92 | n => n, fun | 70 => 136 | 9 => 9 | 0 => 0 | 72 => 138 | 37 => 109 | 127 => 160 | 3 => 3 | 5 => 5 | n => n, fun | n => n⟩
theorem Tryd.lays169 : Go.Proofs.Lays.n169 Tryd.prog Tryd.lays169_ren := {
  mixed := by kernel_rfl
  f169 := Tryd.func92.trans (congrArg some (by kernel_rfl))
  t0 := Tryd.underlying0
  a0 := Tryd.isAgg0
  z0 := Tryd.sizeOf0
  v0 := Tryd.zeroValue0
  t3 := Tryd.underlying3
  a3 := Tryd.isAgg3
  z3 := Tryd.sizeOf3
  v3 := Tryd.zeroValue3
  t9 := Tryd.underlying9
  a9 := Tryd.isAgg9
  z9 := Tryd.sizeOf9
  v9 := Tryd.zeroValue9
  t37 := Tryd.underlying109
  a37 := Tryd.isAgg109
  z37 := Tryd.sizeOf109
  v37 := Tryd.zeroValue109
  t70 := Tryd.underlying136
  a70 := Tryd.isAgg136
  z70 := Tryd.sizeOf136
  v70 := Tryd.zeroValue136
  t72 := Tryd.underlying138
  a72 := Tryd.isAgg138
  z72 := Tryd.sizeOf138
  v72 := Tryd.zeroValue138
  t127 := Tryd.underlying160
  a127 := Tryd.isAgg160
  z127 := Tryd.sizeOf160
  v127 := Tryd.zeroValue160 }
theorem Tryd.Builder_Extra_169 : Builder.Extra Tryd.prog Tryd.lays169_ren := {
  sizeBuilder := by kernel_rfl
  liesBuilder := by kernel_rfl
  t5 := Tryd.underlying5
  a5 := Tryd.isAgg5
  z5 := Tryd.sizeOf5
  v5 := Tryd.zeroValue5
  infoByte := by kernel_rfl
  cellsByte := by kernel_rfl
  sizeByte := by kernel_rfl
  neB5 := by decide }
def Tryd.laysM171_ren : Go.Shelf.Ren := ⟨fun | 171 => 117 | 243 => 137 | 246 => 142 | 283 => 146 | 284 => 147 | 285 => 148 | 286 => 149 | 129 => 153 | 317 => 152 | 318 => 154 | 319 => 155 | 320 => 156 | 337 => 157 | 338 => 158 | n => n, fun | 3 => 3 | 9 => 9 | 2 => 2 | 4 => 4 | 171 => 181 | 0 => 0 | 53 => 182 | 37 => 109 | 5 => 5 | 173 => 185 | 212 => 189 | 51 => 190 | 20 => 20 | 213 => 191 | 46 => 176 | 232 => 194 | 233 => 195 | n => n, fun | 17 => 1 | 18 => 2 | 19 => 3 | n => n⟩
theorem Tryd.laysM171 : Go.Proofs.LaysM.n171 Tryd.prog Tryd.laysM171_ren := {
  mixed := by kernel_rfl
  f129 := Tryd.func153.trans (congrArg some (by kernel_rfl))
  f171 := Tryd.func117.trans (congrArg some (by kernel_rfl))
  f243 := Tryd.func137.trans (congrArg some (by kernel_rfl))
  f246 := Tryd.func142.trans (congrArg some (by kernel_rfl))
  f283 := Tryd.func146.trans (congrArg some (by kernel_rfl))
  f284 := Tryd.func147.trans (congrArg some (by kernel_rfl))
  f285 := Tryd.func148.trans (congrArg some (by kernel_rfl))
  f286 := Tryd.func149.trans (congrArg some (by kernel_rfl))
  f317 := Tryd.func152.trans (congrArg some (by kernel_rfl))
  f318 := Tryd.func154.trans (congrArg some (by kernel_rfl))
  f319 := Tryd.func155.trans (congrArg some (by kernel_rfl))
  f320 := Tryd.func156.trans (congrArg some (by kernel_rfl))
  f337 := Tryd.func157.trans (congrArg some (by kernel_rfl))
  f338 := Tryd.func158.trans (congrArg some (by kernel_rfl))
  t0 := Tryd.underlying0
  a0 := Tryd.isAgg0
  z0 := Tryd.sizeOf0
  v0 := Tryd.zeroValue0
  t2 := Tryd.underlying2
  a2 := Tryd.isAgg2
  z2 := Tryd.sizeOf2
  v2 := Tryd.zeroValue2
  t3 := Tryd.underlying3
  a3 := Tryd.isAgg3
  z3 := Tryd.sizeOf3
  v3 := Tryd.zeroValue3
  t4 := Tryd.underlying4
  a4 := Tryd.isAgg4
  z4 := Tryd.sizeOf4
  v4 := Tryd.zeroValue4
  t5 := Tryd.underlying5
  a5 := Tryd.isAgg5
  z5 := Tryd.sizeOf5
  v5 := Tryd.zeroValue5
  t9 := Tryd.underlying9
  a9 := Tryd.isAgg9
  z9 := Tryd.sizeOf9
  v9 := Tryd.zeroValue9
  t20 := Tryd.underlying20
  a20 := Tryd.isAgg20
  z20 := Tryd.sizeOf20
  v20 := Tryd.zeroValue20
  t37 := Tryd.underlying109
  a37 := Tryd.isAgg109
  z37 := Tryd.sizeOf109
  v37 := Tryd.zeroValue109
  t46 := Tryd.underlying176
  a46 := Tryd.isAgg176
  z46 := Tryd.sizeOf176
  v46 := Tryd.zeroValue176
  t51 := Tryd.underlying190
  a51 := Tryd.isAgg190
  z51 := Tryd.sizeOf190
  v51 := Tryd.zeroValue190
  t53 := Tryd.underlying182
  a53 := Tryd.isAgg182
  z53 := Tryd.sizeOf182
  v53 := Tryd.zeroValue182
  t171 := Tryd.underlying181
  a171 := Tryd.isAgg181
  z171 := Tryd.sizeOf181
  v171 := Tryd.zeroValue181
  t173 := Tryd.underlying185
  a173 := Tryd.isAgg185
  z173 := Tryd.sizeOf185
  v173 := Tryd.zeroValue185
  t212 := Tryd.underlying189
  a212 := Tryd.isAgg189
  z212 := Tryd.sizeOf189
  v212 := Tryd.zeroValue189
  t213 := Tryd.underlying191
  a213 := Tryd.isAgg191
  z213 := Tryd.sizeOf191
  t232 := Tryd.underlying194
  a232 := Tryd.isAgg194
  z232 := Tryd.sizeOf194
  v232 := Tryd.zeroValue194
  t233 := Tryd.underlying195
  a233 := Tryd.isAgg195
  z233 := Tryd.sizeOf195
  v233 := Tryd.zeroValue195
  g17 := by kernel_rfl
  g18 := by kernel_rfl
  g19 := by kernel_rfl
  i0 := by kernel_rfl
  i2 := by kernel_rfl
  i3 := by kernel_rfl
  i4 := by kernel_rfl
  i5 := by kernel_rfl
  i9 := by kernel_rfl
  i20 := by kernel_rfl
  i37 := by kernel_rfl
  i46 := by kernel_rfl
  i51 := by kernel_rfl
  i53 := by kernel_rfl
  i171 := by kernel_rfl
  i173 := by kernel_rfl
  i212 := by kernel_rfl
  i232 := by kernel_rfl
  i233 := by kernel_rfl
  m17 := by kernel_rfl
  m18 := by kernel_rfl
  m19 := by kernel_rfl }
def Tryd.lays171_ren : Go.Shelf.Ren := ⟨fun | 171 => 117 | 243 => 137 | 246 => 142 | 283 => 146 | 284 => 147 | 285 => 148 | 286 => 149 | 129 => 153 | 317 => 152 | 318 => 154 | 319 => 155 | 320 => 156 | 337 => 157 | 338 => 158 | n => n, fun | 3 => 3 | 9 => 9 | 2 => 2 | 4 => 4 | 171 => 181 | 0 => 0 | 53 => 182 | 37 => 109 | 5 => 5 | 173 => 185 | 212 => 189 | 51 => 190 | 20 => 20 | 213 => 191 | 46 => 176 | 232 => 194 | 233 => 195 | n => n, fun | 17 => 1 | 18 => 2 | 19 => 3 | n => n⟩
theorem Tryd.lays171 : Go.Proofs.Lays.n171 Tryd.prog Tryd.lays171_ren := {
  mixed := by kernel_rfl
  f129 := Tryd.func153.trans (congrArg some (by kernel_rfl))
  f171 := Tryd.func117.trans (congrArg some (by kernel_rfl))
  f243 := Tryd.func137.trans (congrArg some (by kernel_rfl))
  f246 := Tryd.func142.trans (congrArg some (by kernel_rfl))
  f283 := Tryd.func146.trans (congrArg some (by kernel_rfl))
  f284 := Tryd.func147.trans (congrArg some (by kernel_rfl))
  f285 := Tryd.func148.trans (congrArg some (by kernel_rfl))
  f286 := Tryd.func149.trans (congrArg some (by kernel_rfl))
  f317 := Tryd.func152.trans (congrArg some (by kernel_rfl))
  f318 := Tryd.func154.trans (congrArg some (by kernel_rfl))
  f319 := Tryd.func155.trans (congrArg some (by kernel_rfl))
  f320 := Tryd.func156.trans (congrArg some (by kernel_rfl))
  f337 := Tryd.func157.trans (congrArg some (by kernel_rfl))
  f338 := Tryd.func158.trans (congrArg some (by kernel_rfl))
  t0 := Tryd.underlying0
  a0 := Tryd.isAgg0
  z0 := Tryd.sizeOf0
  v0 := Tryd.zeroValue0
  t2 := Tryd.underlying2
  a2 := Tryd.isAgg2
  z2 := Tryd.sizeOf2
  v2 := Tryd.zeroValue2
  t3 := Tryd.underlying3
  a3 := Tryd.isAgg3
  z3 := Tryd.sizeOf3
  v3 := Tryd.zeroValue3
  t4 := Tryd.underlying4
  a4 := Tryd.isAgg4
  z4 := Tryd.sizeOf4
  v4 := Tryd.zeroValue4
  t5 := Tryd.underlying5
  a5 := Tryd.isAgg5
  z5 := Tryd.sizeOf5
  v5 := Tryd.zeroValue5
  t9 := Tryd.underlying9
  a9 := Tryd.isAgg9
  z9 := Tryd.sizeOf9
  v9 := Tryd.zeroValue9
  t20 := Tryd.underlying20
  a20 := Tryd.isAgg20
  z20 := Tryd.sizeOf20
  v20 := Tryd.zeroValue20
  t37 := Tryd.underlying109
  a37 := Tryd.isAgg109
  z37 := Tryd.sizeOf109
  v37 := Tryd.zeroValue109
  t46 := Tryd.underlying176
  a46 := Tryd.isAgg176
  z46 := Tryd.sizeOf176
  v46 := Tryd.zeroValue176
  t51 := Tryd.underlying190
  a51 := Tryd.isAgg190
  z51 := Tryd.sizeOf190
  v51 := Tryd.zeroValue190
  t53 := Tryd.underlying182
  a53 := Tryd.isAgg182
  z53 := Tryd.sizeOf182
  v53 := Tryd.zeroValue182
  t171 := Tryd.underlying181
  a171 := Tryd.isAgg181
  z171 := Tryd.sizeOf181
  v171 := Tryd.zeroValue181
  t173 := Tryd.underlying185
  a173 := Tryd.isAgg185
  z173 := Tryd.sizeOf185
  v173 := Tryd.zeroValue185
  t212 := Tryd.underlying189
  a212 := Tryd.isAgg189
  z212 := Tryd.sizeOf189
  v212 := Tryd.zeroValue189
  t213 := Tryd.underlying191
  a213 := Tryd.isAgg191
  z213 := Tryd.sizeOf191
  t232 := Tryd.underlying194
  a232 := Tryd.isAgg194
  z232 := Tryd.sizeOf194
  v232 := Tryd.zeroValue194
  t233 := Tryd.underlying195
  a233 := Tryd.isAgg195
  z233 := Tryd.sizeOf195
  v233 := Tryd.zeroValue195
  g17 := by kernel_rfl
  g18 := by kernel_rfl
  g19 := by kernel_rfl }

end Go.Proofs
end

