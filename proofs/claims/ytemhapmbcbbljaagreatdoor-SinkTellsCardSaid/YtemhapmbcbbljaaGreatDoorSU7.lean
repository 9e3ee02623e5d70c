/-
  Lines, as plain data; writing into lines. (Parts of the texts Dn and Dr of the seats of DifferenceLines.)
-/
import Derived.Test.YtemhapmbcbbljaaGreatDoorSU6
import Derived.Test.YtemhapmbcbbljaaGreatDoorSU5
import Derived.MapKept
import Derived.Shelf.Strings.Builder1
import Derived.Shelf.Small.Strs
import Derived.Shelf.Small.Wraps
import Derived.Shelf.Strings.BuilderF
import Derived.Shelf.Strings.BuilderK
import Derived.Shelf.Strconv.Atoi
import Derived.Shelf.Strconv.Itoa0
import Derived.Shelf.Strconv.Itoa1
import Derived.Shelf.LaysM
import Derived.Shelf.Strconv.Itoa2
import Derived.Shelf.Strconv.Itoa3
import Derived.Shelf.Strconv.AtoiErrFast
import Derived.Shelf.Strconv.ParseIntEmpty
import Derived.Shelf.Strconv.AtoiFail
import Derived.Shelf.Strconv.Clone
import Derived.Shelf.Strconv.SyntaxError
import Derived.Shelf.LaysC
import Derived.Shelf.Strconv.ToError
import Derived.Shelf.Strconv.Lower
import Derived.Shelf.Strconv.ParseUint10
import Derived.Shelf.Strconv.ParseUint10Empty
import Derived.Shelf.Strconv.ParseUint10Any
import Derived.Shelf.Strconv.ParseInt10
import Derived.Shelf.Strconv.AtoiLong
import Derived.Shelf.Strconv.AtoiInnerAll
import Derived.Shelf.Strconv.RangeError
import Derived.Shelf.Strconv.ToErrorRange
import Derived.Shelf.Strconv.AtoiAll
import Derived.Shelf.Strconv.ErrVarAll
import Derived.Shelf.Strings.Search1
import Derived.Shelf.Strings.Prefix
import Derived.Shelf.Strings.BuilderCap
import Derived.Shelf.Slices.Turned
import Derived.Shelf.Slices.Clone
import Derived.Shelf.Slices.SearchI
import Derived.Shelf.Slices.Empties
import Derived.Shelf.SlicesE.Clone
import Derived.Test.YtemhapmbcbbljaaGreatDoorRows
import Derived.Test.YtemhapmbcbbljaaGreatDoorSU4
import Derived.Lib.ItoaNum
import Derived.Lib.ConvBytes
import Derived.Lib.AtoiErrMem
import Derived.Lib.AppendZeros

set_option linter.unusedVariables false
set_option linter.unusedSimpArgs false
section
namespace Go.Proofs.YtemhapmbcbbljaaGreatDoor
open Go.Vc
structure LineD where
  no : Int
  batch : Int
  time : Int
  row : List ValD
  n : Int
  cause : Int
  why : Int
instance : Gv LineD := Gv.via (β := Int × Int × Int × List ValD × Int × Int × Int) (fun x => (x.no, x.batch, x.time, x.row, x.n, x.cause, x.why)) (fun y => ⟨y.1, y.2.1, y.2.2.1, y.2.2.2.1, y.2.2.2.2.1, y.2.2.2.2.2.1, y.2.2.2.2.2.2⟩) (fun _ => rfl)
abbrev LineD.cells (x : LineD) (p : Option Addr) (c : Nat) : List Value := [.int .i64 x.no, .int .i64 x.batch, .int .i64 x.time, .slice p x.row.length c, .int .i64 x.n, .int .i64 x.cause, .int .i64 x.why]
abbrev LineD.v (x : LineD) (p : Option Addr) (c : Nat) : Value := .agg #[.int .i64 x.no, .int .i64 x.batch, .int .i64 x.time, .slice p x.row.length c, .int .i64 x.n, .int .i64 x.cause, .int .i64 x.why]
structure LineD.In (x : LineD) : Prop where
  no : I64 x.no
  batch : I64 x.batch
  time : I64 x.time
  n : I64 x.n
  cause : I64 x.cause
  why : I64 x.why
theorem line_cells {M : List Nat} {w : World} {cs : List Value} {x : LineD} (h : Gv.rep M w cs x) : ∃ p c, cs = x.cells p c ∧ x.row.length ≤ c ∧ c ≤ maxLen ∧ x.In ∧ Sl M w p x.row := by
  obtain ⟨_, _, rfl, ⟨rfl, h1⟩, _, _, rfl, ⟨rfl, h2⟩, _, _, rfl, ⟨rfl, h3⟩, _, _, rfl, ⟨p, c, rfl, g1, g2, g3⟩, _, _, rfl, ⟨rfl, h4⟩, _, _, rfl, ⟨rfl, h5⟩, rfl, h6⟩ := h
  exact ⟨p, c, rfl, g1, g2, ⟨h1, h2, h3, h4, h5, h6⟩, g3⟩
theorem rep_line {M : List Nat} {w : World} {x : LineD} {p : Option Addr} {c : Nat} (h1 : x.row.length ≤ c) (h2 : c ≤ maxLen) (h : x.In) (h5 : Sl M w p x.row) : Gv.rep M w (x.cells p c) x :=
  ⟨[_], [_, _, _, _, _, _], rfl, ⟨rfl, h.no⟩, [_], [_, _, _, _, _], rfl, ⟨rfl, h.batch⟩, [_], [_, _, _, _], rfl, ⟨rfl, h.time⟩, [_], [_, _, _], rfl, ⟨p, c, rfl, h1, h2, h5⟩, [_], [_, _], rfl, ⟨rfl, h.n⟩, [_], [_], rfl, ⟨rfl, h.cause⟩, rfl, h.why⟩
theorem line_row {M : List Nat} {w : World} {x : LineD} {p : Option Addr} {c : Nat} (h : Gv.rep M w (x.cells p c) x) : Sl M w p x.row := by
  obtain ⟨p', c', e, _, _, _, h1⟩ := line_cells h
  simp only [LineD.cells, List.cons.injEq, Value.slice.injEq] at e
  rw [e.2.2.2.1.1]
  exact h1
theorem line_one (M : List Nat) (w : World) (cs : List Value) (x : LineD) (h : Gv.rep M w cs x) : (cs.all fun u => oneC u) = true := by
  obtain ⟨p, c, rfl, _⟩ := line_cells h
  rfl
def LineD.d (x : LineD) : DeltaD := ⟨x.time, x.row, x.n⟩
def netP (l : List LineD) : List DeltaD := consP (l.map LineD.d)
abbrev bufL (p : Option Addr) (n cap : Nat) (cs : List Value) : Own := .buf p n cap cs 51 7
theorem lrow {M : List Nat} {w : World} {cs : List Value} {l : List LineD} (h : Elems M w cs l) {i : Nat} (hi : i < l.length) : ∃ p c, (cs.drop (i * 7)).take 7 = l[i].cells p c ∧ l[i].row.length ≤ c ∧ c ≤ maxLen ∧ l[i].In ∧ Sl M w p l[i].row :=
  line_cells (h.2 i hi)
theorem lcells_len {M : List Nat} {w : World} {cs : List Value} {l : List LineD} (h : Elems M w cs l) : cs.length = l.length * 7 := h.1
theorem l_ptr {W w : World} {S : List Own} {Φ : PW} {p : Option Addr} {n cap : Nat} {cs : List Value} (cx : Ctx W w (bufL p n cap cs :: S) Φ) (h : 0 < cs.length) : ∃ g, p = some ⟨g, 0, none⟩ := by
  obtain ⟨g, hg, _⟩ := cx.bufCell 0 rfl h
  exact ⟨g, hg⟩
theorem l_at {W w : World} {S : List Own} {Φ : PW} {g n cap : Nat} {cs : List Value} (cx : Ctx W w (bufL (some ⟨g, 0, none⟩) n cap cs :: S) Φ) {i : Nat} {x : LineD} {p : Option Addr} {c : Nat} (h : (cs.drop (i * 7)).take 7 = x.cells p c) : RowAt w g (i * 7) (x.cells p c) :=
  cx.bufRow 0 rfl rfl (rows_of h)
theorem l_can {W w : World} {S : List Own} {Φ : PW} {g n cap : Nat} {cs : List Value} (cx : Ctx W w (bufL (some ⟨g, 0, none⟩) n cap cs :: S) Φ) {o m : Nat} (h : o + m ≤ cs.length) : CanWrite w g o m :=
  cx.bufCan 0 rfl rfl h
theorem setL_cell : ∀ (vs : List Value) (k : Nat) (cs : List Value) (o : Nat) (v : Value), k < vs.length → (∀ j, (hj : j < vs.length) → cs[o + j]? = some vs[j]) → setL cs (o + k) [v] = setL cs o (vs.set k v) := by
  intro vs k cs o v hk h
  have hlast : o + (vs.length - 1) < cs.length := (List.getElem?_eq_some_iff.1 (h (vs.length - 1) (by omega))).1
  apply List.ext_getElem?
  intro j
  by_cases h1 : j < o
  · rw [setL_get _ _ _ _ (.inl (by omega)), setL_get _ _ _ _ (.inl h1)]
  · by_cases h2 : o + vs.length ≤ j
    · rw [setL_get _ _ _ _ (.inr (by simp; omega)), setL_get _ _ _ _ (.inr (by rw [List.length_set]; exact h2))]
    · obtain ⟨m, rfl⟩ : ∃ m, j = o + m := ⟨j - o, by omega⟩
      rw [setL_in (vs.set k v) cs o m (by rw [List.length_set]; omega) (by rw [List.length_set]; omega)]
      by_cases h3 : m = k
      · subst h3
        have := setL_in [v] cs (o + m) 0 (by simp) (by simp; omega)
        rw [Nat.add_zero] at this
        rw [this, List.getElem?_set_self hk]
        rfl
      · rw [setL_get _ _ _ _ (by simp; omega), List.getElem?_set_ne (by omega), h m (by omega), List.getElem?_eq_getElem (by omega)]
theorem l_cell {W w w' : World} {S : List Own} {Φ : PW} [Stable Φ] {g n cap : Nat} {cs : List Value} {l : List LineD} (cx : Ctx W w (bufL (some ⟨g, 0, none⟩) n cap cs :: S) (fun M w => Φ M w ∧ Elems M w cs l)) {i : Nat} (hi : i < l.length) (x : LineD) {k : Nat} {v : Value}
    (hk : k < 7) (hr : x.row = l[i].row) (hx : ∀ p c, (l[i].cells p c).set k v = x.cells p c) (hin : l[i].In → x.In) (e : w' = w.setCell ⟨g, i * 7 + k, none⟩ v) :
    ∃ cs', cs'.length = cs.length ∧ Ctx W w' (bufL (some ⟨g, 0, none⟩) n cap cs' :: S) (fun M w => Φ M w ∧ Elems M w cs' (l.set i x)) := by
  have hl := lcells_len cx.phi.2
  obtain ⟨p, c, hp, h1, h2, h3, _⟩ := lrow cx.phi.2 hi
  have h := cx.bufPuts 0 rfl rfl (vs := [v]) (o := i * 7 + k) (by omega) (by simp only [List.length_cons, List.length_nil]; omega) e
  have hrows := rows_of (vs := l[i].cells p c) hp
  rw [setL_cell (l[i].cells p c) k cs (i * 7) v hk hrows, hx p c] at h
  refine ⟨_, setL_len _ _ _, h.weak fun M w h => ⟨h.1, h.2.setAt i hi (rep_line (by rw [hr]; exact h1) h2 (hin h3) ?_)⟩⟩
  obtain ⟨p', c', hp', _, _, _, hs⟩ := lrow h.2 hi
  rw [hp] at hp'
  simp only [LineD.cells, List.cons.injEq, Value.slice.injEq] at hp'
  rw [hr, hp'.2.2.2.1.1]
  exact hs
end Go.Proofs.YtemhapmbcbbljaaGreatDoor
end

section
namespace Go.Vc
structure MEnt where
  key : Int × ByteArray
  val : Int
  born : Nat
abbrev keyV (k : Int × ByteArray) : Value := .agg #[.int .i64 k.1, .string k.2]
def MEnt.m (e : MEnt) : MapEntry := ⟨keyV e.key, .int .i64 e.val, e.born⟩
def getM : List MEnt → Int × ByteArray → Int
  | [], _ => 0
  | e :: es, k => if k = e.key then e.val else getM es k
structure MapOk (es : List MEnt) (clock : Nat) : Prop where
  keys : es.Pairwise fun a b => a.key ≠ b.key
  borns : es.Pairwise fun a b => a.born ≠ b.born
  lt : ∀ e ∈ es, e.born < clock
structure KeyTy (P : Program) (t k e : TypeId) : Prop where
  map : P.underlying t = some (.map k e)
  str : ∃ fs, P.underlying k = some (.struct fs)
  chk : ∀ b x w, (Instr.checkKey b 10000 k (keyV x)).run P w = .ok () w
  eq : ∀ x y w, (Op.equal k (keyV x) (keyV y)).run P w = .ok (decide (x = y)) w
  zero : ∀ w, (zeroValue e).run P w = .ok (.int .i64 0) w
section
variable {P : Program} {t k e : TypeId} (T : KeyTy P t k e)
include T
end
section
variable {P : Program} {W w : World} {Q R G : List Own} {Φ Ψ : PW} {f : FuncId} {args : Array Value}
structure GivesQ (Q : List Own) (Φ : PW) (P : Program) (f : FuncId) (args : Array Value) (v : Value) : Prop where
  go : ∀ (W w : World) (S : List Own), Ctx W w (Q ++ S) Φ → Calls P f args w fun e w' => e = .returned v ∧ Ctx W w' (Q ++ S) Φ
structure GivesQSl (Q : List Own) (Φ : PW) (P : Program) (f : FuncId) (args : Array Value) {α : Type} [Gv α] (l : List α) : Prop where
  go : ∀ (W w : World) (S : List Own), Ctx W w (Q ++ S) Φ → Calls P f args w fun e w' => ∃ p cap, e = .returned (.slice p l.length cap) ∧ l.length ≤ cap ∧ cap ≤ maxLen ∧ Ctx W w' (Q ++ S) (fun M w => Φ M w ∧ Sl M w p l)
theorem gives_q [Stable Φ] {v : Value} {B : World → List Own → PW → (Value → World → Prop) → Prop}
    (run : ∀ {W w : World} {R : List Own} {Φ : PW} [Stable Φ] {J : Value → World → Prop}, Ctx W w R Φ → B W R Φ J → Calls P f args w fun e w' => ∃ v, e = .returned v ∧ J v w')
    (h : ∀ (W : World) (R : List Own), B W (Q ++ R) Φ fun u w' => u = v ∧ Ctx W w' (Q ++ R) Φ) : GivesQ Q Φ P f args v :=
  ⟨fun W w S c => calls_of (run c (h W S)) fun u w' ⟨h1, h2⟩ => ⟨by rw [h1], h2⟩⟩
theorem gives_qsl [Stable Φ] {α : Type} [Gv α] {l : List α} {B : World → List Own → PW → (Value → World → Prop) → Prop}
    (run : ∀ {W w : World} {R : List Own} {Φ : PW} [Stable Φ] {J : Value → World → Prop}, Ctx W w R Φ → B W R Φ J → Calls P f args w fun e w' => ∃ v, e = .returned v ∧ J v w')
    (h : ∀ (W : World) (R : List Own), B W (Q ++ R) Φ fun u w' => ∃ p cap, u = .slice p l.length cap ∧ l.length ≤ cap ∧ cap ≤ maxLen ∧ Ctx W w' (Q ++ R) (fun M w => Φ M w ∧ Sl M w p l)) : GivesQSl Q Φ P f args l :=
  ⟨fun W w S c => calls_of (run c (h W S)) fun u w' ⟨p, cap, h1, h2⟩ => ⟨p, cap, by rw [h1], h2⟩⟩
theorem Ctx.inl (c : Ctx W w ((Q ++ R) ++ G) Φ) : Ctx W w (Q ++ (R ++ G)) Φ := c.re (List.append_assoc _ _ _)
theorem Ctx.outl (c : Ctx W w (Q ++ (R ++ G)) Φ) : Ctx W w ((Q ++ R) ++ G) Φ := c.re (List.append_assoc _ _ _).symm
theorem GivesQ.toB [Stable Φ] {b : Bool} (h : GivesQ Q Φ P f args (.bool b)) (c : Ctx W w ((Q ++ R) ++ G) Φ) {K : Bool → List Own → PW → Prop} (hk : K b (Q ++ R) Φ) :
    Calls P f args w fun e w' => ∃ c, e = .returned (.bool c) ∧ ∃ R' Φ', Stable Φ' ∧ Ctx W w' (R' ++ G) Φ' ∧ K c R' Φ' :=
  (h.go W w (R ++ G) c.inl).mono fun e w' ⟨he, c'⟩ => ⟨b, he, Q ++ R, Φ, inferInstance, c'.outl, hk⟩
theorem GivesQ.toI [Stable Φ] {n : Int} {k : IntKind} (h : GivesQ Q Φ P f args (.int k n)) (c : Ctx W w ((Q ++ R) ++ G) Φ) {K : Int → List Own → PW → Prop} (hk : K n (Q ++ R) Φ) :
    Calls P f args w fun e w' => ∃ n, e = .returned (.int k n) ∧ ∃ R' Φ', Stable Φ' ∧ Ctx W w' (R' ++ G) Φ' ∧ K n R' Φ' :=
  (h.go W w (R ++ G) c.inl).mono fun e w' ⟨he, c'⟩ => ⟨n, he, Q ++ R, Φ, inferInstance, c'.outl, hk⟩
theorem GivesQ.toS [Stable Φ] {s : ByteArray} (h : GivesQ Q Φ P f args (.string s)) (c : Ctx W w ((Q ++ R) ++ G) Φ) {K : ByteArray → List Own → PW → Prop} (hk : K s (Q ++ R) Φ) :
    Calls P f args w fun e w' => ∃ s, e = .returned (.string s) ∧ ∃ R' Φ', Stable Φ' ∧ Ctx W w' (R' ++ G) Φ' ∧ K s R' Φ' :=
  (h.go W w (R ++ G) c.inl).mono fun e w' ⟨he, c'⟩ => ⟨s, he, Q ++ R, Φ, inferInstance, c'.outl, hk⟩
theorem GivesQSl.tot [Stable Φ] {α : Type} [Gv α] {l : List α} (h : GivesQSl Q Φ P f args l) (c : Ctx W w ((Q ++ R) ++ G) Φ) {K : Option Addr → Nat → Nat → List Own → PW → Prop}
    (hk : ∀ p cap, l.length ≤ cap → cap ≤ maxLen → There p l.length → Stable (fun M w => Φ M w ∧ Sl M w p l) → K p l.length cap (Q ++ R) (fun M w => Φ M w ∧ Sl M w p l)) :
    Calls P f args w fun e w' => ∃ p n c, e = .returned (.slice p n c) ∧ ∃ R' Φ', Stable Φ' ∧ Ctx W w' (R' ++ G) Φ' ∧ K p n c R' Φ' :=
  (h.go W w (R ++ G) c.inl).mono fun e w' ⟨p, cap, he, h1, h2, c'⟩ => ⟨p, _, cap, he, Q ++ R, _, inferInstance, c'.outl, hk p cap h1 h2 c'.phi.2.there inferInstance⟩
end
end Go.Vc
end

section
namespace Go.Proofs.YtemhapmbcbbljaaGreatDoor
open Go.Vc
structure SkD where
  kind : Int
  key : List Int
  bats : List Int
  lines : List LineD
  prep : Int
  aside : List LineD
def lastK (s : SkD) : Int := s.bats.getLast?.getD 0
def hasK (s : SkD) (b : Int) : Bool := decide (b ∈ s.bats)
def shortK (key : List Int) (r : List ValD) : Bool := key.any fun k => decide ((r.length : Int) ≤ k)
def badK (key : List Int) (b : Int) (x : LineD) : Bool := decide (x.batch ≠ b) || decide (x.n = 0) || !rightR x.row || shortK key x.row
def numK : Int → List LineD → Bool
  | _, [] => true
  | n, x :: l => decide (x.no = n) && numK (n + 1) l
def lookK (s : SkD) (b : Int) (L : List LineD) : Int :=
  if b < 1 then 25 else if b ≤ lastK s then 25 else if L.any (badK s.key b) = true then 1 else if numK ((s.lines.length : Int) + 1) L = false then 25 else 0
def takeK (s : SkD) (b : Int) (L : List LineD) : SkD := { s with bats := s.bats ++ [b], lines := s.lines ++ L }
def prepK (s : SkD) (b : Int) (L : List LineD) : Int × SkD :=
  if s.kind ≠ 0 then (7, s) else if hasK s b = true then (0, s) else if lookK s b L ≠ 0 then (lookK s b L, s) else (0, { s with prep := b, aside := L })
def commK (s : SkD) (b : Int) : Int × SkD :=
  if s.kind ≠ 0 then (7, s) else if hasK s b = true then (0, s) else if (decide (b < 1) || decide (b ≠ s.prep)) = true then (4, s) else (0, { takeK s b s.aside with prep := 0, aside := [] })
def abortK (s : SkD) (b : Int) : Int × SkD :=
  if s.kind ≠ 0 then (7, s) else if hasK s b = true then (7, s) else if (decide (b < 1) || decide (b ≠ s.prep)) = true then (4, s) else (0, { s with prep := 0, aside := [] })
def delivK (s : SkD) (b : Int) (L : List LineD) : Int × SkD :=
  if s.kind = 0 then (7, s) else if hasK s b = true then (0, s) else if lookK s b L ≠ 0 then (lookK s b L, s) else (0, takeK s b L)
def opK (k : Int) (s : SkD) (b : Int) (L : List LineD) : Int × SkD :=
  if k = 0 then prepK s b L else if k = 1 then prepK s b L else if k = 2 then commK s b else if k = 3 then abortK s b else if k = 6 then (0, s) else if k = 7 then (0, s) else delivK s b L
structure SkI (s : SkD) : Prop where
  asc : s.bats.Pairwise (· < ·)
  pos : ∀ b ∈ s.bats, 1 ≤ b ∧ I64 b
  row : ∀ x ∈ s.lines, rightR x.row = true
  arow : ∀ x ∈ s.aside, rightR x.row = true
structure SkS (s : SkD) (n : Nat) : Prop where
  bats : s.bats.length ≤ 20 * n
  lines : s.lines.length ≤ n
  aside : s.aside.length ≤ n
  key : s.key.length ≤ 20 * n
structure KP where
  sb : Nat
  kp : Option Addr
  kc : Nat
  bp : Option Addr
  bc : Nat
  lp : Option Addr
  lc : Nat
  cs : List Value
  ap : Option Addr
  ac : Nat
abbrev SkB (q : KP) (st : SkD) : List Value := [.int .i64 st.kind, .slice q.kp st.key.length q.kc, .slice q.bp st.bats.length q.bc, .slice q.lp st.lines.length q.lc, .int .i64 st.prep, .slice q.ap st.aside.length q.ac]
abbrev SkO (q : KP) (st : SkD) : List Own := [.blk q.sb (SkB q st) 57, bufZ q.bp q.bc st.bats, bufL q.lp st.lines.length q.lc q.cs]
abbrev SkF (q : KP) (st : SkD) : PW := fun M w => Elems M w q.cs st.lines ∧ (Sl M w q.kp st.key ∧ Sl M w q.ap st.aside)
structure SkQ (q : KP) (st : SkD) : Prop where
  lpt : 0 < st.lines.length → ∃ g, q.lp = some ⟨g, 0, none⟩
  bpt : 0 < st.bats.length → ∃ g, q.bp = some ⟨g, 0, none⟩
  lcap : st.lines.length ≤ q.lc ∧ q.lc ≤ maxLen
  bcap : st.bats.length ≤ q.bc ∧ q.bc ≤ maxLen
  kcap : st.key.length ≤ q.kc ∧ q.kc ≤ maxLen
  acap : st.aside.length ≤ q.ac ∧ q.ac ≤ maxLen
  len : q.cs.length = st.lines.length * 7
abbrev snk (q : KP) : Value := .pointer (some ⟨q.sb, 0, none⟩)
def andZ (a m : Int) : Int := IntKind.i64.wrap (BitVec.ofInt 64 a &&& BitVec.ofInt 64 m).toNat
theorem and_run (a m : Int) (w : World) : Sem.run Tryz.prog (binOp BinOp.and 3 (.int .i64 a) (.int .i64 m)) w = .ok (.int .i64 (andZ a m)) w := rfl
theorem right_len {r : List ValD} (h : rightR r = true) : r.length ≤ 12 := by
  unfold rightR at h
  rw [Bool.and_eq_true] at h
  have := of_decide_eq_true h.1
  omega
theorem lastK_at {s : SkD} (h : s.bats.length ≠ 0) : lastK s = s.bats[s.bats.length - 1]'(by omega) := by
  unfold lastK
  rw [List.getLast?_eq_getElem?, List.getElem?_eq_getElem (by omega)]; rfl
theorem last_ge {s : SkD} (hI : SkI s) {b : Int} (h : b ∈ s.bats) : b ≤ lastK s := by
  obtain ⟨i, hi, rfl⟩ := List.getElem_of_mem h
  rw [lastK_at (by omega)]
  rcases Nat.lt_or_ge i (s.bats.length - 1) with h | h
  · exact Int.le_of_lt (List.pairwise_iff_getElem.1 hI.asc i (s.bats.length - 1) hi (by omega) h)
  · have : i = s.bats.length - 1 := by omega
    subst this; exact Int.le_refl _
theorem look_ok {s : SkD} {b : Int} {L : List LineD} (h : ¬ lookK s b L ≠ 0) : 1 ≤ b ∧ lastK s < b ∧ (∀ x ∈ L, badK s.key b x = false) ∧ numK ((s.lines.length : Int) + 1) L = true := by
  have h : lookK s b L = 0 := Decidable.not_not.1 h
  unfold lookK at h
  split at h
  · exact absurd h (by decide)
  split at h
  · exact absurd h (by decide)
  split at h
  · exact absurd h (by decide)
  split at h
  · exact absurd h (by decide)
  rename_i h1 h2 h3 h4
  exact ⟨by omega, by omega, fun x hx => by simpa using List.any_eq_false.1 (by simpa using h3) x hx, by simpa using h4⟩
theorem bad_right {key : List Int} {b : Int} {x : LineD} (h : badK key b x = false) : x.batch = b ∧ x.n ≠ 0 ∧ rightR x.row = true ∧ shortK key x.row = false := by
  unfold badK at h
  rw [Bool.or_eq_false_iff, Bool.or_eq_false_iff, Bool.or_eq_false_iff] at h
  exact ⟨Decidable.not_not.1 (of_decide_eq_false h.1.1.1), of_decide_eq_false h.1.1.2, by simpa using h.1.2, h.2⟩
theorem take_i {s : SkD} (hI : SkI s) {b : Int} {L : List LineD} (h1 : lastK s < b) (h2 : 1 ≤ b) (h3 : I64 b) (h4 : ∀ x ∈ L, rightR x.row = true) : SkI (takeK s b L) where
  asc := List.pairwise_append.2 ⟨hI.asc, List.pairwise_singleton _ _, fun a ha c hc => by
    rw [List.mem_singleton.1 hc]
    have := last_ge hI ha
    omega⟩
  pos := fun a ha => (List.mem_append.1 ha).elim (hI.pos a) fun h => by rw [List.mem_singleton.1 h]; exact ⟨h2, h3⟩
  row := fun x hx => (List.mem_append.1 hx).elim (hI.row x) (h4 x)
  arow := hI.arow
theorem deliv_i {s : SkD} (hI : SkI s) {b : Int} {L : List LineD} (h : I64 b) : SkI (delivK s b L).2 := by
  unfold delivK
  split
  · exact hI
  split
  · exact hI
  split
  · exact hI
  rename_i h1
  obtain ⟨g1, g2, g3, _⟩ := look_ok h1
  exact take_i hI g2 g1 h fun x hx => (bad_right (g3 x hx)).2.2.1
theorem prep_i {s : SkD} (hI : SkI s) {b : Int} {L : List LineD} : SkI (prepK s b L).2 := by
  unfold prepK
  split
  · exact hI
  split
  · exact hI
  split
  · exact hI
  rename_i h1
  obtain ⟨g1, g2, g3, _⟩ := look_ok h1
  exact ⟨hI.asc, hI.pos, hI.row, fun x hx => (bad_right (g3 x hx)).2.2.1⟩
theorem abort_i {s : SkD} (hI : SkI s) {b : Int} : SkI (abortK s b).2 := by
  unfold abortK
  split
  · exact hI
  split
  · exact hI
  split
  · exact hI
  exact ⟨hI.asc, hI.pos, hI.row, fun x hx => absurd hx (by simp)⟩
def PrepOk (s : SkD) : Prop := s.prep ≠ 0 → lastK s < s.prep
theorem comm_i {s : SkD} (hI : SkI s) (hp : PrepOk s) {b : Int} (h : I64 b) : SkI (commK s b).2 := by
  unfold commK
  split
  · exact hI
  split
  · exact hI
  split
  · exact hI
  rename_i h1 h2 h3
  simp only [Bool.or_eq_true, decide_eq_true_eq, not_or, Int.not_lt, ne_eq, Decidable.not_not] at h3
  obtain ⟨h3, h4⟩ := h3
  have h5 := hp (by omega)
  have := take_i hI (b := b) (L := s.aside) (by omega) h3 h hI.arow
  exact ⟨this.asc, this.pos, this.row, fun x hx => absurd hx (by simp)⟩
section
variable {Φ : PW} {q : KP} {st : SkD} {W w : World} {R S G : List Own} {p : Option Addr} {cap : Nat}
theorem sk_cell (cx : Ctx W w ((SkO q st ++ R) ++ G) Φ) {i : Nat} {v : Value} (h : (SkB q st)[i]? = some v) : w.cell? ⟨q.sb, i, none⟩ = some v := cx.get 0 rfl h
structure SrcZ (S : List Own) (Φ : PW) (p : Option Addr) (l : List Int) : Prop where
  ptr : 0 < l.length → ∃ b o, p = some ⟨b, o, none⟩
  rd : ∀ {W w : World} {G : List Own} {b o : Nat}, p = some ⟨b, o, none⟩ → Ctx W w (S ++ G) Φ → ∀ i (h : i < l.length), w.cell? ⟨b, o + i, none⟩ = some (.int .i64 l[i])
theorem SrcZ.app {l : List Int} (h : SrcZ S Φ p l) : SrcZ (S ++ R) Φ p l := ⟨h.ptr, fun e c => h.rd e (c.re (List.append_assoc _ _ _))⟩
theorem srcz_bats (hq : SkQ q st) : SrcZ (SkO q st) Φ q.bp st.bats where
  ptr := fun h => by obtain ⟨g, hg⟩ := hq.bpt h; exact ⟨g, 0, hg⟩
  rd := fun {W w G b o} e c i h => by
    obtain ⟨g, hg⟩ := hq.bpt (by omega)
    rw [hg] at e
    cases e
    rw [Nat.zero_add]
    exact c.bufGet 1 rfl hg (by rw [List.getElem?_map, List.getElem?_eq_getElem h]; rfl)
theorem srcz_fact {l : List Int} (hth : There p l.length) (hf : ∀ M w, Φ M w → Sl M w p l) : SrcZ [] Φ p l where
  ptr := hth
  rd := fun {W w G b o} e c i h => by
    have := hf _ _ c.phi
    rw [e] at this
    exact sl_int this h
theorem Last_q [Stable Φ] (hq : SkQ q st) : GivesQ (SkO q st) Φ Tryz.prog F.sink_Sink_Last #[snk q] (.int .i64 (lastK st)) := by
  refine gives_q (Bsink_Sink_Last_run q.sb 0) fun W R => fun w G cx => ⟨_, _, _, sk_cell (i := 2) cx rfl, Br.intro (fun h => fun w G cx => ⟨?_, cx.left⟩) (fun h => fun w G cx => ⟨_, _, _, sk_cell (i := 2) cx rfl, _, _, _, sk_cell (i := 2) cx rfl, ?_⟩)⟩
  · have h := of_decide_eq_true h
    have : st.bats = [] := List.eq_nil_of_length_eq_zero (by omega)
    unfold lastK
    rw [this]; rfl
  · have h := of_decide_eq_false h
    have h0 : st.bats.length ≠ 0 := by omega
    have hb := hq.bcap
    unfold maxLen at hb
    obtain ⟨g, hg⟩ := hq.bpt (by omega)
    refine ⟨by unfold I64; omega, by omega, ptrK_intro g 0 hg ⟨lastK st, ?_, fun w G cx => ⟨rfl, cx.left⟩⟩⟩
    have := (srcz_bats (Φ := Φ) hq).rd hg (G := R ++ G) (cx.re (List.append_assoc _ _ _)) (st.bats.length - 1) (by omega)
    rw [lastK_at h0, show ((st.bats.length : Int) - 1).toNat = st.bats.length - 1 by omega]
    exact this
theorem Kind_q [Stable Φ] : GivesQ (SkO q st) Φ Tryz.prog F.sink_Sink_Kind #[snk q] (.int .i64 st.kind) :=
  gives_q (Bsink_Sink_Kind_run q.sb 0) fun W R => fun w G cx => ⟨_, sk_cell (i := 0) cx rfl, fun w G cx => ⟨rfl, cx.left⟩⟩
theorem Prepared_q [Stable Φ] : GivesQ (SkO q st) Φ Tryz.prog F.sink_Sink_Prepared #[snk q] (.int .i64 st.prep) :=
  gives_q (Bsink_Sink_Prepared_run q.sb 0) fun W R => fun w G cx => ⟨_, sk_cell (i := 4) cx rfl, fun w G cx => ⟨rfl, cx.left⟩⟩
theorem LinesN_q [Stable Φ] : GivesQ (SkO q st) Φ Tryz.prog F.sink_Sink_Lines #[snk q] (.int .i64 st.lines.length) :=
  gives_q (Bsink_Sink_Lines_run q.sb 0) fun W R => fun w G cx => ⟨_, _, _, sk_cell (i := 3) cx rfl, fun w G cx => ⟨rfl, cx.left⟩⟩
theorem ptrK_of {g : Bool} {p : Option Addr} {K : Nat → Nat → Prop} (h : g = true → ∃ b o, p = some ⟨b, o, none⟩) (hk : ∀ b o, (g = true → p = some ⟨b, o, none⟩) → K b o) : ptrK (some g) p K := by
  cases hg : g with
  | false => exact ptrK_off rfl fun b o => hk b o fun e => by rw [hg] at e; cases e
  | true =>
    obtain ⟨b, o, hp⟩ := h hg
    exact ptrK_intro b o hp (hk b o fun _ => hp)
theorem sNaN_q (x : Int) : Quiet Tryz.prog F.slices_isNaN_int #[.int .i64 x] (.bool false) := quiet_of (fun w J h => Qslices_isNaN_int_run x w J h) fun w => ⟨by simp, rfl⟩
theorem cNaN_q (x : Int) : Quiet Tryz.prog F.cmp_isNaN_int #[.int .i64 x] (.bool false) := quiet_of (fun w J h => Qcmp_isNaN_int_run x w J h) fun w => ⟨by simp, rfl⟩
theorem less_g (x y : Int) : Gives Tryz.prog F.cmp_Less_int #[.int .i64 x, .int .i64 y] (.bool (decide (x < y))) :=
  gives_of (Bcmp_Less_int_run x y) fun W R Φ _ => fun w G c => ⟨false, fun w3 e => (cNaN_q x).at e, false, fun h => (by cases h), fun w G c => ⟨by simp, c.left⟩⟩
theorem shr_runT (t : TypeId) (k : Nat) (h : k < 9223372036854775808) (w : World) : Sem.run Tryz.prog (binOp BinOp.shr t (.int .u64 (IntKind.u64.wrap (k : Int))) (.int .u64 1)) w = .ok (.int .u64 ((k / 2 : Nat) : Int)) w := by
  have e : IntKind.u64.wrap (k : Int) = k := by simp [IntKind.wrap, IntKind.signed, IntKind.bits]; omega
  rw [e]
  show Sem.run Tryz.prog (Op.shift .shr .u64 (k : Int) .u64 1) w = _
  unfold Op.shift
  simp [Sem.run_pure]
  show (k : Int).fdiv 2 = _
  rw [Int.fdiv_eq_ediv_of_nonneg _ (by decide)]
theorem wrap_n {k : Nat} (h : k ≤ 1000000000) : IntKind.i64.wrap (k : Int) = k := i64_wrap (by unfold I64; omega)
theorem BinS_src [Stable Φ] {l : List Int} (src : SrcZ S Φ p l) (asc : l.Pairwise (· < ·)) (hlen : l.length ≤ 10000000) (t : Int) (c : Ctx W w S Φ) :
    Calls Tryz.prog F.slices_BinarySearch_int_int #[.slice p l.length cap, .int .i64 t] w fun e w' => ∃ n, e = .returned (.tuple #[.int .i64 n, .bool (decide (t ∈ l))]) ∧ Ctx W w' S Φ := by
  refine (Bslices_BinarySearch_int_int_run p l.length cap t (J := fun v w' => ∃ n, v = .tuple #[.int .i64 n, .bool (decide (t ∈ l))] ∧ Ctx W w' S Φ) c ?_).mono fun e w' ⟨v, he, n, hv, cx⟩ => ⟨n, by rw [he, hv], cx⟩
  clear c
  have hs := List.pairwise_iff_getElem.1 asc
  refine exI_mk (fun iI jI R' Φ' k => ∃ i j : Nat, iI = i ∧ jI = j ∧ i ≤ j ∧ j ≤ l.length ∧ (∀ a (h : a < l.length), a < i → l[a] < t) ∧ (∀ a (h : a < l.length), j ≤ a → t ≤ l[a]) ∧ R' = S ∧ Φ' = Φ ∧ k = j - i)
    ⟨⟨S, Φ, _, inferInstance, fun w G c => c, 0, l.length, rfl, rfl, Nat.zero_le _, Nat.le_refl _, fun a h h0 => by omega, fun a h h0 => by omega, rfl, rfl, rfl⟩, ?_⟩
  rintro iI jI R1 Φ1 k _ ⟨i, j, rfl, rfl, hij, hj, hlo, hhi, rfl, rfl, rfl⟩
  refine Br.intro (fun hlt => ?_) (fun hge => fun w G cx => ?_)
  · have hlt : i < j := by have := of_decide_eq_true hlt; omega
    obtain ⟨h, hh⟩ : ∃ h, (i + j) / 2 = h := ⟨_, rfl⟩
    obtain ⟨b, o, hp⟩ := src.ptr (by omega)
    have hhl : h < l.length := by omega
    refine ⟨by unfold I64; omega, ((h : Nat) : Int), fun w => by rw [show ((i : Int) + (j : Int)) = ((i + j : Nat) : Int) by omega, ← hh]; exact shr_runT _ _ (by omega) w, ?_⟩
    rw [wrap_n (by omega)]
    refine ⟨by omega, ptrK_intro b o hp fun w G cx => ⟨l[h], by rw [Int.toNat_natCast]; exact src.rd hp cx h hhl, fun w G cx => (less_g _ _).use cx fun w cx => ⟨_, rfl, R1, Φ1, inferInstance, cx, Br.intro (fun hc => ?_) (fun hc => ?_)⟩⟩⟩
    · have hc := of_decide_eq_true hc
      refine ⟨by unfold I64; omega, R1, Φ1, j - (h + 1), inferInstance, fun w G c => c, ⟨h + 1, j, by omega, rfl, by omega, hj, fun a ha h1 => ?_, hhi, rfl, rfl, rfl⟩, by omega⟩
      rcases Nat.lt_or_ge a h with h2 | h2
      · have := hs a h ha hhl h2
        omega
      · have : a = h := by omega
        subst this; exact hc
    · have hc := of_decide_eq_false hc
      refine ⟨R1, Φ1, h - i, inferInstance, fun w G c => c, ⟨i, h, rfl, rfl, by omega, by omega, hlo, fun a ha h1 => ?_, rfl, rfl, rfl⟩, by omega⟩
      rcases Nat.lt_or_ge h a with h2 | h2
      · have := hs h a hhl ha h2
        omega
      · have : a = h := by omega
        subst this; omega
  · have hge : i = j := by have := of_decide_eq_false hge; omega
    subst hge
    have hmem : (t ∈ l) ↔ ∃ h : i < l.length, l[i] = t := by
      refine ⟨fun hm => ?_, fun ⟨h, e⟩ => e ▸ List.getElem_mem h⟩
      obtain ⟨a, ha, rfl⟩ := List.getElem_of_mem hm
      rcases Nat.lt_trichotomy a i with h1 | h1 | h1
      · exact absurd (hlo a ha h1) (Int.lt_irrefl _)
      · subst h1; exact ⟨ha, rfl⟩
      · have := hs i a (by omega) ha h1
        have := hhi i (by omega) (Nat.le_refl _)
        omega
    have hcell : ∀ {b o : Nat} {c : Bool}, (decide ((i : Int) < (l.length : Int)) && c) = true → ((decide ((i : Int) < (l.length : Int)) && c) = true → p = some ⟨b, o, none⟩) → w.cell? ⟨b, o + ((i : Nat) : Int).toNat, none⟩ = some (.int .i64 ((l[i]?).getD 0)) := fun {b o c} h hb => by
      have hl : i < l.length := by have := of_decide_eq_true (Bool.and_eq_true_iff.1 h).1; omega
      rw [Int.toNat_natCast, List.getElem?_eq_getElem hl]
      exact src.rd (hb h) cx i hl
    have hcell0 : ∀ {b o : Nat}, decide ((i : Int) < (l.length : Int)) = true → (decide ((i : Int) < (l.length : Int)) = true → p = some ⟨b, o, none⟩) → w.cell? ⟨b, o + ((i : Nat) : Int).toNat, none⟩ = some (.int .i64 ((l[i]?).getD 0)) := fun {b o} h hb => hcell (c := true) (by rw [h]; rfl) (fun _ => hb h)
    refine ⟨fun h => by have := of_decide_eq_true h; omega, ptrK_of (fun h => src.ptr (by have := of_decide_eq_true h; omega)) fun b o hb => ⟨(l[i]?).getD 0, fun h => hcell0 h hb, fun h => by have := of_decide_eq_true (Bool.and_eq_true_iff.1 h).1; omega, ptrK_of (fun h => src.ptr (by have := of_decide_eq_true (Bool.and_eq_true_iff.1 h).1; omega)) fun b2 o2 hb2 => ⟨(l[i]?).getD 0, fun h => hcell h hb2, false, fun _ w e => (sNaN_q _).at e, false, fun h => absurd h (by simp), fun w G cx => ⟨((i : Nat) : Int), ?_, cx.left⟩⟩⟩⟩
    have : (decide ((i : Int) < (l.length : Int)) && (decide ((l[i]?).getD 0 = t) || false && false)) = decide (t ∈ l) := by
      rcases Nat.lt_or_ge i l.length with hl | hl
      · rw [List.getElem?_eq_getElem hl, decide_eq_true (p := (i : Int) < (l.length : Int)) (by omega), Bool.and_false, Bool.or_false, Bool.true_and]
        exact decide_eq_decide.2 ⟨fun h => hmem.2 ⟨hl, h⟩, fun h => (hmem.1 h).2⟩
      · rw [decide_eq_false (p := (i : Int) < (l.length : Int)) (by omega), Bool.false_and]
        exact (decide_eq_false fun h => by have := (hmem.1 h).1; omega).symm
    rw [this]
theorem Has_q [Stable Φ] (hq : SkQ q st) (hI : SkI st) {n : Nat} (hs : SkS st n) (hn : n ≤ 400000) {b : Int} : GivesQ (SkO q st) Φ Tryz.prog F.sink_Sink_Has #[snk q, .int .i64 b] (.bool (hasK st b)) :=
  gives_q (Bsink_Sink_Has_run q.sb 0 b) fun W R => fun w G cx => ⟨_, _, _, sk_cell (i := 2) cx rfl, fun w G cx =>
    (BinS_src (S := (SkO q st ++ R) ++ G) (srcz_bats (Φ := Φ) hq).app.app hI.asc (by have := hs.bats; omega) b cx).mono fun e w' ⟨n, he, cx⟩ => ⟨n, _, he, _, _, inferInstance, cx, fun w G cx => ⟨rfl, cx.left⟩⟩⟩
end
end Go.Proofs.YtemhapmbcbbljaaGreatDoor
end

section
namespace Go.Proofs
open Go.Shelf
def Tryz.lays169_ren : Go.Shelf.Ren := ⟨fun | 169 => 74 | n => n, fun | 70 => 90 | 9 => 9 | 0 => 0 | 72 => 93 | 37 => 91 | 127 => 113 | 3 => 3 | 5 => 5 | n => n, fun | n => n⟩
theorem Tryz.lays169 : Go.Proofs.Lays.n169 Tryz.prog Tryz.lays169_ren := {
  mixed := by kernel_rfl
  f169 := Tryz.func74.trans (congrArg some (by kernel_rfl))
  t0 := Tryz.underlying0
  a0 := Tryz.isAgg0
  z0 := Tryz.sizeOf0
  v0 := Tryz.zeroValue0
  t3 := Tryz.underlying3
  a3 := Tryz.isAgg3
  z3 := Tryz.sizeOf3
  v3 := Tryz.zeroValue3
  t9 := Tryz.underlying9
  a9 := Tryz.isAgg9
  z9 := Tryz.sizeOf9
  v9 := Tryz.zeroValue9
  t37 := Tryz.underlying91
  a37 := Tryz.isAgg91
  z37 := Tryz.sizeOf91
  v37 := Tryz.zeroValue91
  t70 := Tryz.underlying90
  a70 := Tryz.isAgg90
  z70 := Tryz.sizeOf90
  v70 := Tryz.zeroValue90
  t72 := Tryz.underlying93
  a72 := Tryz.isAgg93
  z72 := Tryz.sizeOf93
  v72 := Tryz.zeroValue93
  t127 := Tryz.underlying113
  a127 := Tryz.isAgg113
  z127 := Tryz.sizeOf113
  v127 := Tryz.zeroValue113 }
theorem Tryz.Builder_Extra_169 : Builder.Extra Tryz.prog Tryz.lays169_ren := {
  sizeBuilder := by kernel_rfl
  liesBuilder := by kernel_rfl
  t5 := Tryz.underlying5
  a5 := Tryz.isAgg5
  z5 := Tryz.sizeOf5
  v5 := Tryz.zeroValue5
  infoByte := by kernel_rfl
  cellsByte := by kernel_rfl
  sizeByte := by kernel_rfl
  neB5 := by decide }
def Tryz.lays137_ren : Go.Shelf.Ren := ⟨fun | 137 => 108 | 217 => 124 | 266 => 139 | n => n, fun | 9 => 9 | 5 => 5 | 3 => 3 | n => n, fun | n => n⟩
theorem Tryz.lays137 : Go.Proofs.Lays.n137 Tryz.prog Tryz.lays137_ren := {
  mixed := by kernel_rfl
  f137 := Tryz.func108.trans (congrArg some (by kernel_rfl))
  f217 := Tryz.func124.trans (congrArg some (by kernel_rfl))
  f266 := Tryz.func139.trans (congrArg some (by kernel_rfl))
  t3 := Tryz.underlying3
  a3 := Tryz.isAgg3
  z3 := Tryz.sizeOf3
  v3 := Tryz.zeroValue3
  t5 := Tryz.underlying5
  a5 := Tryz.isAgg5
  z5 := Tryz.sizeOf5
  v5 := Tryz.zeroValue5
  t9 := Tryz.underlying9
  a9 := Tryz.isAgg9
  z9 := Tryz.sizeOf9
  v9 := Tryz.zeroValue9 }
def Tryz.lays103_ren : Go.Shelf.Ren := ⟨fun | 103 => 127 | 210 => 145 | 206 => 156 | n => n, fun | 9 => 9 | 4 => 4 | 24 => 131 | 3 => 3 | n => n, fun | n => n⟩
theorem Tryz.lays103 : Go.Proofs.Lays.n103 Tryz.prog Tryz.lays103_ren := {
  mixed := by kernel_rfl
  f103 := Tryz.func127.trans (congrArg some (by kernel_rfl))
  f206 := Tryz.func156.trans (congrArg some (by kernel_rfl))
  f210 := Tryz.func145.trans (congrArg some (by kernel_rfl))
  t3 := Tryz.underlying3
  a3 := Tryz.isAgg3
  z3 := Tryz.sizeOf3
  v3 := Tryz.zeroValue3
  t4 := Tryz.underlying4
  a4 := Tryz.isAgg4
  z4 := Tryz.sizeOf4
  v4 := Tryz.zeroValue4
  t9 := Tryz.underlying9
  a9 := Tryz.isAgg9
  z9 := Tryz.sizeOf9
  v9 := Tryz.zeroValue9
  t24 := Tryz.underlying131
  a24 := Tryz.isAgg131
  z24 := Tryz.sizeOf131
  v24 := Tryz.zeroValue131 }
def Tryz.laysM171_ren : Go.Shelf.Ren := ⟨fun | 171 => 69 | 243 => 98 | 246 => 115 | 283 => 129 | 284 => 130 | 285 => 131 | 286 => 132 | 129 => 147 | 317 => 146 | 318 => 148 | 319 => 149 | 320 => 150 | 337 => 157 | 338 => 158 | n => n, fun | 3 => 3 | 9 => 9 | 2 => 2 | 4 => 4 | 171 => 133 | 0 => 0 | 53 => 134 | 37 => 91 | 5 => 5 | 173 => 137 | 212 => 152 | 51 => 153 | 20 => 20 | 213 => 154 | 46 => 87 | 232 => 168 | 233 => 169 | n => n, fun | 17 => 0 | 18 => 4 | 19 => 5 | n => n⟩
theorem Tryz.laysM171 : Go.Proofs.LaysM.n171 Tryz.prog Tryz.laysM171_ren := {
  mixed := by kernel_rfl
  f129 := Tryz.func147.trans (congrArg some (by kernel_rfl))
  f171 := Tryz.func69.trans (congrArg some (by kernel_rfl))
  f243 := Tryz.func98.trans (congrArg some (by kernel_rfl))
  f246 := Tryz.func115.trans (congrArg some (by kernel_rfl))
  f283 := Tryz.func129.trans (congrArg some (by kernel_rfl))
  f284 := Tryz.func130.trans (congrArg some (by kernel_rfl))
  f285 := Tryz.func131.trans (congrArg some (by kernel_rfl))
  f286 := Tryz.func132.trans (congrArg some (by kernel_rfl))
  f317 := Tryz.func146.trans (congrArg some (by kernel_rfl))
  f318 := Tryz.func148.trans (congrArg some (by kernel_rfl))
  f319 := Tryz.func149.trans (congrArg some (by kernel_rfl))
  f320 := Tryz.func150.trans (congrArg some (by kernel_rfl))
  f337 := Tryz.func157.trans (congrArg some (by kernel_rfl))
  f338 := Tryz.func158.trans (congrArg some (by kernel_rfl))
  t0 := Tryz.underlying0
  a0 := Tryz.isAgg0
  z0 := Tryz.sizeOf0
  v0 := Tryz.zeroValue0
  t2 := Tryz.underlying2
  a2 := Tryz.isAgg2
  z2 := Tryz.sizeOf2
  v2 := Tryz.zeroValue2
  t3 := Tryz.underlying3
  a3 := Tryz.isAgg3
  z3 := Tryz.sizeOf3
  v3 := Tryz.zeroValue3
  t4 := Tryz.underlying4
  a4 := Tryz.isAgg4
  z4 := Tryz.sizeOf4
  v4 := Tryz.zeroValue4
  t5 := Tryz.underlying5
  a5 := Tryz.isAgg5
  z5 := Tryz.sizeOf5
  v5 := Tryz.zeroValue5
  t9 := Tryz.underlying9
  a9 := Tryz.isAgg9
  z9 := Tryz.sizeOf9
  v9 := Tryz.zeroValue9
  t20 := Tryz.underlying20
  a20 := Tryz.isAgg20
  z20 := Tryz.sizeOf20
  v20 := Tryz.zeroValue20
  t37 := Tryz.underlying91
  a37 := Tryz.isAgg91
  z37 := Tryz.sizeOf91
  v37 := Tryz.zeroValue91
  t46 := Tryz.underlying87
  a46 := Tryz.isAgg87
  z46 := Tryz.sizeOf87
  v46 := Tryz.zeroValue87
  t51 := Tryz.underlying153
  a51 := Tryz.isAgg153
  z51 := Tryz.sizeOf153
  v51 := Tryz.zeroValue153
  t53 := Tryz.underlying134
  a53 := Tryz.isAgg134
  z53 := Tryz.sizeOf134
  v53 := Tryz.zeroValue134
  t171 := Tryz.underlying133
  a171 := Tryz.isAgg133
  z171 := Tryz.sizeOf133
  v171 := Tryz.zeroValue133
  t173 := Tryz.underlying137
  a173 := Tryz.isAgg137
  z173 := Tryz.sizeOf137
  v173 := Tryz.zeroValue137
  t212 := Tryz.underlying152
  a212 := Tryz.isAgg152
  z212 := Tryz.sizeOf152
  v212 := Tryz.zeroValue152
  t213 := Tryz.underlying154
  a213 := Tryz.isAgg154
  z213 := Tryz.sizeOf154
  t232 := Tryz.underlying168
  a232 := Tryz.isAgg168
  z232 := Tryz.sizeOf168
  v232 := Tryz.zeroValue168
  t233 := Tryz.underlying169
  a233 := Tryz.isAgg169
  z233 := Tryz.sizeOf169
  v233 := Tryz.zeroValue169
  g17 := by kernel_rfl
  g18 := by kernel_rfl
  g19 := by kernel_rfl
  i0 := by kernel_rfl
  i2 := by kernel_rfl
  i3 := by kernel_rfl
  i4 := by kernel_rfl
  i5 := by kernel_rfl
  i9 := by kernel_rfl
  i20 := by kernel_rfl
  i37 := by kernel_rfl
  i46 := by kernel_rfl
  i51 := by kernel_rfl
  i53 := by kernel_rfl
  i171 := by kernel_rfl
  i173 := by kernel_rfl
  i212 := by kernel_rfl
  i232 := by kernel_rfl
  i233 := by kernel_rfl
  m17 := by kernel_rfl
  m18 := by kernel_rfl
  m19 := by kernel_rfl }
def Tryz.lays171_ren : Go.Shelf.Ren := ⟨fun | 171 => 69 | 243 => 98 | 246 => 115 | 283 => 129 | 284 => 130 | 285 => 131 | 286 => 132 | 129 => 147 | 317 => 146 | 318 => 148 | 319 => 149 | 320 => 150 | 337 => 157 | 338 => 158 | n => n, fun | 3 => 3 | 9 => 9 | 2 => 2 | 4 => 4 | 171 => 133 | 0 => 0 | 53 => 134 | 37 => 91 | 5 => 5 | 173 => 137 | 212 => 152 | 51 => 153 | 20 => 20 | 213 => 154 | 46 => 87 | 232 => 168 | 233 => 169 | n => n, fun | 17 => 0 | 18 => 4 | 19 => 5 | n => n⟩
theorem Tryz.lays171 : Go.Proofs.Lays.n171 Tryz.prog Tryz.lays171_ren := {
  mixed := by kernel_rfl
  f129 := Tryz.func147.trans (congrArg some (by kernel_rfl))
  f171 := Tryz.func69.trans (congrArg some (by kernel_rfl))
  f243 := Tryz.func98.trans (congrArg some (by kernel_rfl))
  f246 := Tryz.func115.trans (congrArg some (by kernel_rfl))
  f283 := Tryz.func129.trans (congrArg some (by kernel_rfl))
  f284 := Tryz.func130.trans (congrArg some (by kernel_rfl))
  f285 := Tryz.func131.trans (congrArg some (by kernel_rfl))
  f286 := Tryz.func132.trans (congrArg some (by kernel_rfl))
  f317 := Tryz.func146.trans (congrArg some (by kernel_rfl))
  f318 := Tryz.func148.trans (congrArg some (by kernel_rfl))
  f319 := Tryz.func149.trans (congrArg some (by kernel_rfl))
  f320 := Tryz.func150.trans (congrArg some (by kernel_rfl))
  f337 := Tryz.func157.trans (congrArg some (by kernel_rfl))
  f338 := Tryz.func158.trans (congrArg some (by kernel_rfl))
  t0 := Tryz.underlying0
  a0 := Tryz.isAgg0
  z0 := Tryz.sizeOf0
  v0 := Tryz.zeroValue0
  t2 := Tryz.underlying2
  a2 := Tryz.isAgg2
  z2 := Tryz.sizeOf2
  v2 := Tryz.zeroValue2
  t3 := Tryz.underlying3
  a3 := Tryz.isAgg3
  z3 := Tryz.sizeOf3
  v3 := Tryz.zeroValue3
  t4 := Tryz.underlying4
  a4 := Tryz.isAgg4
  z4 := Tryz.sizeOf4
  v4 := Tryz.zeroValue4
  t5 := Tryz.underlying5
  a5 := Tryz.isAgg5
  z5 := Tryz.sizeOf5
  v5 := Tryz.zeroValue5
  t9 := Tryz.underlying9
  a9 := Tryz.isAgg9
  z9 := Tryz.sizeOf9
  v9 := Tryz.zeroValue9
  t20 := Tryz.underlying20
  a20 := Tryz.isAgg20
  z20 := Tryz.sizeOf20
  v20 := Tryz.zeroValue20
  t37 := Tryz.underlying91
  a37 := Tryz.isAgg91
  z37 := Tryz.sizeOf91
  v37 := Tryz.zeroValue91
  t46 := Tryz.underlying87
  a46 := Tryz.isAgg87
  z46 := Tryz.sizeOf87
  v46 := Tryz.zeroValue87
  t51 := Tryz.underlying153
  a51 := Tryz.isAgg153
  z51 := Tryz.sizeOf153
  v51 := Tryz.zeroValue153
  t53 := Tryz.underlying134
  a53 := Tryz.isAgg134
  z53 := Tryz.sizeOf134
  v53 := Tryz.zeroValue134
  t171 := Tryz.underlying133
  a171 := Tryz.isAgg133
  z171 := Tryz.sizeOf133
  v171 := Tryz.zeroValue133
  t173 := Tryz.underlying137
  a173 := Tryz.isAgg137
  z173 := Tryz.sizeOf137
  v173 := Tryz.zeroValue137
  t212 := Tryz.underlying152
  a212 := Tryz.isAgg152
  z212 := Tryz.sizeOf152
  v212 := Tryz.zeroValue152
  t213 := Tryz.underlying154
  a213 := Tryz.isAgg154
  z213 := Tryz.sizeOf154
  t232 := Tryz.underlying168
  a232 := Tryz.isAgg168
  z232 := Tryz.sizeOf168
  v232 := Tryz.zeroValue168
  t233 := Tryz.underlying169
  a233 := Tryz.isAgg169
  z233 := Tryz.sizeOf169
  v233 := Tryz.zeroValue169
  g17 := by kernel_rfl
  g18 := by kernel_rfl
  g19 := by kernel_rfl }
def Tryz.laysC172_ren : Go.Shelf.Ren := ⟨fun | 172 => 110 | 244 => 125 | 245 => 126 | 247 => 140 | 279 => 141 | 280 => 142 | 281 => 143 | 282 => 144 | 287 => 153 | 316 => 154 | 171 => 69 | 205 => 155 | 321 => 160 | 322 => 161 | 243 => 98 | 246 => 115 | 283 => 129 | 284 => 130 | 285 => 131 | 286 => 132 | 129 => 147 | 317 => 146 | 318 => 148 | 319 => 149 | 320 => 150 | 337 => 157 | 338 => 158 | n => n, fun | 9 => 9 | 3 => 3 | 75 => 95 | 76 => 96 | 4 => 4 | 5 => 5 | 167 => 144 | 37 => 91 | 0 => 0 | 85 => 145 | 2 => 2 | 168 => 147 | 53 => 134 | 175 => 156 | 46 => 87 | 210 => 159 | 127 => 113 | 145 => 167 | 143 => 165 | 21 => 21 | 171 => 133 | 173 => 137 | 212 => 152 | 51 => 153 | 20 => 20 | 213 => 154 | 232 => 168 | 233 => 169 | 80 => 41 | n => n, fun | 15 => 2 | 16 => 3 | 17 => 0 | 18 => 4 | 19 => 5 | n => n⟩
theorem Tryz.laysC172 : Go.Proofs.LaysC.n172 Tryz.prog Tryz.laysC172_ren := {
  mixed := by kernel_rfl
  f129 := Tryz.func147.trans (congrArg some (by kernel_rfl))
  f171 := Tryz.func69.trans (congrArg some (by kernel_rfl))
  f172 := Tryz.func110.trans (congrArg some (by kernel_rfl))
  f205 := Tryz.func155.trans (congrArg some (by kernel_rfl))
  f243 := Tryz.func98.trans (congrArg some (by kernel_rfl))
  f244 := Tryz.func125.trans (congrArg some (by kernel_rfl))
  f245 := Tryz.func126.trans (congrArg some (by kernel_rfl))
  f246 := Tryz.func115.trans (congrArg some (by kernel_rfl))
  f247 := Tryz.func140.trans (congrArg some (by kernel_rfl))
  f279 := Tryz.func141.trans (congrArg some (by kernel_rfl))
  f280 := Tryz.func142.trans (congrArg some (by kernel_rfl))
  f281 := Tryz.func143.trans (congrArg some (by kernel_rfl))
  f282 := Tryz.func144.trans (congrArg some (by kernel_rfl))
  f283 := Tryz.func129.trans (congrArg some (by kernel_rfl))
  f284 := Tryz.func130.trans (congrArg some (by kernel_rfl))
  f285 := Tryz.func131.trans (congrArg some (by kernel_rfl))
  f286 := Tryz.func132.trans (congrArg some (by kernel_rfl))
  f287 := Tryz.func153.trans (congrArg some (by kernel_rfl))
  f316 := Tryz.func154.trans (congrArg some (by kernel_rfl))
  f317 := Tryz.func146.trans (congrArg some (by kernel_rfl))
  f318 := Tryz.func148.trans (congrArg some (by kernel_rfl))
  f319 := Tryz.func149.trans (congrArg some (by kernel_rfl))
  f320 := Tryz.func150.trans (congrArg some (by kernel_rfl))
  f321 := Tryz.func160.trans (congrArg some (by kernel_rfl))
  f322 := Tryz.func161.trans (congrArg some (by kernel_rfl))
  f337 := Tryz.func157.trans (congrArg some (by kernel_rfl))
  f338 := Tryz.func158.trans (congrArg some (by kernel_rfl))
  t0 := Tryz.underlying0
  a0 := Tryz.isAgg0
  z0 := Tryz.sizeOf0
  v0 := Tryz.zeroValue0
  t2 := Tryz.underlying2
  a2 := Tryz.isAgg2
  z2 := Tryz.sizeOf2
  v2 := Tryz.zeroValue2
  t3 := Tryz.underlying3
  a3 := Tryz.isAgg3
  z3 := Tryz.sizeOf3
  v3 := Tryz.zeroValue3
  t4 := Tryz.underlying4
  a4 := Tryz.isAgg4
  z4 := Tryz.sizeOf4
  v4 := Tryz.zeroValue4
  t5 := Tryz.underlying5
  a5 := Tryz.isAgg5
  z5 := Tryz.sizeOf5
  v5 := Tryz.zeroValue5
  t9 := Tryz.underlying9
  a9 := Tryz.isAgg9
  z9 := Tryz.sizeOf9
  v9 := Tryz.zeroValue9
  t20 := Tryz.underlying20
  a20 := Tryz.isAgg20
  z20 := Tryz.sizeOf20
  v20 := Tryz.zeroValue20
  t21 := Tryz.underlying21
  a21 := Tryz.isAgg21
  z21 := Tryz.sizeOf21
  v21 := Tryz.zeroValue21
  t37 := Tryz.underlying91
  a37 := Tryz.isAgg91
  z37 := Tryz.sizeOf91
  v37 := Tryz.zeroValue91
  t46 := Tryz.underlying87
  a46 := Tryz.isAgg87
  z46 := Tryz.sizeOf87
  v46 := Tryz.zeroValue87
  t51 := Tryz.underlying153
  a51 := Tryz.isAgg153
  z51 := Tryz.sizeOf153
  v51 := Tryz.zeroValue153
  t53 := Tryz.underlying134
  a53 := Tryz.isAgg134
  z53 := Tryz.sizeOf134
  v53 := Tryz.zeroValue134
  t75 := Tryz.underlying95
  a75 := Tryz.isAgg95
  z75 := Tryz.sizeOf95
  v75 := Tryz.zeroValue95
  t76 := Tryz.underlying96
  a76 := Tryz.isAgg96
  z76 := Tryz.sizeOf96
  v76 := Tryz.zeroValue96
  t85 := Tryz.underlying145
  a85 := Tryz.isAgg145
  z85 := Tryz.sizeOf145
  v85 := Tryz.zeroValue145
  t127 := Tryz.underlying113
  a127 := Tryz.isAgg113
  z127 := Tryz.sizeOf113
  v127 := Tryz.zeroValue113
  t143 := Tryz.underlying165
  a143 := Tryz.isAgg165
  z143 := Tryz.sizeOf165
  v143 := Tryz.zeroValue165
  t145 := Tryz.underlying167
  a145 := Tryz.isAgg167
  z145 := Tryz.sizeOf167
  v145 := Tryz.zeroValue167
  t167 := Tryz.underlying144
  a167 := Tryz.isAgg144
  z167 := Tryz.sizeOf144
  v167 := Tryz.zeroValue144
  t168 := Tryz.underlying147
  a168 := Tryz.isAgg147
  z168 := Tryz.sizeOf147
  v168 := Tryz.zeroValue147
  t171 := Tryz.underlying133
  a171 := Tryz.isAgg133
  z171 := Tryz.sizeOf133
  v171 := Tryz.zeroValue133
  t173 := Tryz.underlying137
  a173 := Tryz.isAgg137
  z173 := Tryz.sizeOf137
  v173 := Tryz.zeroValue137
  t175 := Tryz.underlying156
  a175 := Tryz.isAgg156
  z175 := Tryz.sizeOf156
  v175 := Tryz.zeroValue156
  t210 := Tryz.underlying159
  a210 := Tryz.isAgg159
  z210 := Tryz.sizeOf159
  v210 := Tryz.zeroValue159
  t212 := Tryz.underlying152
  a212 := Tryz.isAgg152
  z212 := Tryz.sizeOf152
  v212 := Tryz.zeroValue152
  t213 := Tryz.underlying154
  a213 := Tryz.isAgg154
  z213 := Tryz.sizeOf154
  t232 := Tryz.underlying168
  a232 := Tryz.isAgg168
  z232 := Tryz.sizeOf168
  v232 := Tryz.zeroValue168
  t233 := Tryz.underlying169
  a233 := Tryz.isAgg169
  z233 := Tryz.sizeOf169
  v233 := Tryz.zeroValue169
  g15 := by kernel_rfl
  g16 := by kernel_rfl
  g17 := by kernel_rfl
  g18 := by kernel_rfl
  g19 := by kernel_rfl
  t80 := Tryz.underlying41
  a80 := Tryz.isAgg41
  z80 := Tryz.sizeOf41
  v80 := Tryz.zeroValue41
  i0 := by kernel_rfl
  i2 := by kernel_rfl
  i3 := by kernel_rfl
  i4 := by kernel_rfl
  i5 := by kernel_rfl
  i9 := by kernel_rfl
  i20 := by kernel_rfl
  i21 := by kernel_rfl
  i37 := by kernel_rfl
  i46 := by kernel_rfl
  i51 := by kernel_rfl
  i53 := by kernel_rfl
  i75 := by kernel_rfl
  i76 := by kernel_rfl
  i80 := by kernel_rfl
  i85 := by kernel_rfl
  i127 := by kernel_rfl
  i143 := by kernel_rfl
  i145 := by kernel_rfl
  i167 := by kernel_rfl
  i168 := by kernel_rfl
  i171 := by kernel_rfl
  i173 := by kernel_rfl
  i175 := by kernel_rfl
  i210 := by kernel_rfl
  i212 := by kernel_rfl
  i232 := by kernel_rfl
  i233 := by kernel_rfl
  m15 := by kernel_rfl
  m16 := by kernel_rfl
  m17 := by kernel_rfl
  m18 := by kernel_rfl
  m19 := by kernel_rfl
  c0 := by kernel_rfl
  c2 := by kernel_rfl
  c3 := by kernel_rfl
  c4 := by kernel_rfl
  c5 := by kernel_rfl
  c9 := by kernel_rfl
  c20 := by kernel_rfl
  c21 := by kernel_rfl
  c37 := by kernel_rfl
  c46 := by kernel_rfl
  c51 := by kernel_rfl
  c53 := by kernel_rfl
  c75 := by kernel_rfl
  c76 := by kernel_rfl
  c80 := by kernel_rfl
  c85 := by kernel_rfl
  c127 := by kernel_rfl
  c143 := by kernel_rfl
  c145 := by kernel_rfl
  c167 := by kernel_rfl
  c168 := by kernel_rfl
  c171 := by kernel_rfl
  c173 := by kernel_rfl
  c175 := by kernel_rfl
  c210 := by kernel_rfl
  c212 := by kernel_rfl
  c213 := by kernel_rfl
  c232 := by kernel_rfl
  c233 := by kernel_rfl }
end Go.Proofs
end

section
namespace Go.Proofs.YtemhapmbcbbljaaGreatDoor
open Go.Vc
abbrev BdT (b : Nat) (l : List UInt8) (R : List Own) : Prop := Bd 93 5 b l R
theorem bd_info : ∃ j, Tryz.prog.info? 93 = some j ∧ j.size = 2 := by
  have h : (Tryz.prog.info? 93).map (·.size) = some 2 := by kernel_rfl
  exact Option.map_eq_some_iff.1 h
set_option maxHeartbeats 1000000 in
set_option maxRecDepth 100000 in
theorem copyCheck_used (b : Nat) (w : World) (h0 : w.cell? ⟨b, 0, none⟩ = some (.pointer (some ⟨b, 0, none⟩))) :
    Calls Tryz.prog 99 #[.pointer (some ⟨b, 0, none⟩)] w fun e w' => e = .returned (.tuple #[]) ∧ w' = w := by
  obtain ⟨j, hj, _⟩ := bd_info
  go_enter Tryz.func99, Tryz.ntmps99
  go_wp2
  rw [Lib.run_neq_ptr_same w _ Tryz.underlying90 hj]
  go_wp2
  go_end0
  exact ⟨rfl, rfl⟩
set_option maxHeartbeats 1000000 in
set_option maxRecDepth 100000 in
theorem copyCheck_fresh (b : Nat) (w : World) (h0 : w.cell? ⟨b, 0, none⟩ = some (.pointer none)) (hsh : w.shape? b = some (93, 2)) (hfz : w.frozen? ⟨b, 0, none⟩ = false) :
    Calls Tryz.prog 99 #[.pointer (some ⟨b, 0, none⟩)] w fun e w' => e = .returned (.tuple #[]) ∧ w' = w.setCell ⟨b, 0, none⟩ (.pointer (some ⟨b, 0, none⟩)) := by
  obtain ⟨j, hj, hjs⟩ := bd_info
  go_enter Tryz.func99, Tryz.ntmps99
  go_wp2
  rw [Lib.run_to_unsafe w ⟨b, 0, none⟩ Tryz.underlying90 Tryz.underlying123 hj (by rw [hjs]; decide) hsh (Nat.zero_lt_succ 1)]
  simp only [Result.andThen]
  rw [Oper.upon_value]
  go_wp2
  rw [run_callFunc_extern Tryz.func116 (by kernel_rfl) (by kernel_rfl) (by kernel_rfl) (e := Extern.AbiNoEscape.same) (by kernel_rfl)]
  rw [Lib.run_noEscape]
  simp only [Result.andThen]
  rw [Oper.upon_value]
  go_wp2
  rw [Lib.run_from_unsafe w ⟨b, 0, none⟩ Tryz.underlying123 Tryz.underlying90 hj hsh (by kernel_rfl)]
  simp only [Result.andThen]
  rw [Oper.upon_value]
  go_wp2
  go_end0
  exact ⟨rfl, rfl⟩
theorem copyCheck_use {W w : World} {S : List Own} {Φ : PW} [Stable Φ] {b : Nat} {pa v : Value} (hp : pa = .pointer none ∨ pa = .pointer (some ⟨b, 0, none⟩)) (c : Ctx W w (.blk b [pa, v] 93 :: S) Φ) {K : Ending → World → Prop}
    (hk : ∀ w', Ctx W w' (.blk b [.pointer (some ⟨b, 0, none⟩), v] 93 :: S) Φ → K (.returned (.tuple #[])) w') : Calls Tryz.prog F.strings_Builder_copyCheck #[.pointer (some ⟨b, 0, none⟩)] w K := by
  have hb : w.heap[b]? = some (.cells #[pa, v] 93 (0, 0)) := c.blk 0 rfl
  rcases hp with rfl | rfl
  · exact (copyCheck_fresh b w (c.get 0 rfl rfl) (by simp [World.shape?, hb]) (by simp [World.frozen?, hb])).mono fun e w' ⟨he, hw⟩ => by
      subst he
      exact hk w' (c.put 0 hw rfl)
  · exact (copyCheck_used b w (c.get 0 rfl rfl)).mono fun e w' ⟨he, hw⟩ => by
      subst he; subst hw
      exact hk w' c
theorem byte_info : ∃ i, Tryz.prog.info? 5 = some i ∧ i.zero = some (.int .u8 0) ∧ i.size = 1 ∧ i.bytes = 1 := by
  have h : (Tryz.prog.info? 5).map (fun i => (i.zero, i.size, i.bytes)) = some (some (.int .u8 0), 1, 1) := by kernel_rfl
  obtain ⟨i, hi, he⟩ := Option.map_eq_some_iff.1 h
  simp only [Prod.mk.injEq] at he
  exact ⟨i, hi, he⟩
theorem strCells_bytes (s : ByteArray) : Lib.strCells s = Lib.byteCells s.data.toList := rfl
theorem WriteString_use {W w : World} {S R : List Own} {Φ : PW} [Stable Φ] {b : Nat} {l : List UInt8} (s : ByteArray) (h : BdT b l R) (c : Ctx W w (R ++ S) Φ) (hlen : l.length + s.size ≤ 100000000000) {K : Ending → World → Prop}
    (hk : ∀ R' w', BdT b (l ++ s.data.toList) R' → Ctx W w' (R' ++ S) Φ → K (.returned (.tuple #[.int .i64 s.size, .nilIface])) w') : Calls Tryz.prog F.strings_Builder_WriteString #[.pointer (some ⟨b, 0, none⟩), .string s] w K := by
  obtain ⟨pa, p, cap, hpa, rfl⟩ := h
  obtain ⟨i, hi, hz, hsz, hby⟩ := byte_info
  refine (Bstrings_Builder_WriteString_run b 0 s (J := fun u w' => K (.returned u) w') c ?_).mono fun e w' ⟨v, he, hj⟩ => by rw [he]; exact hj
  refine fun w G c => copyCheck_use hpa c fun w c => ⟨rfl, [.blk b [.pointer (some ⟨b, 0, none⟩), .slice p l.length cap] 93, .buf p l.length cap (Lib.byteCells l) 5 1] ++ S, Φ, inferInstance, c, fun w G c => ⟨p, l.length, cap, c.get 0 rfl rfl, fun w G c => ?_⟩⟩
  obtain ⟨p', cap', w', hrun, c'⟩ := Ctx.appStr (P := Tryz.prog) (t := 91) (u := 9) (ty := 91) (kb := #[false, false]) (c.swap) Tryz.underlying91 Tryz.underlying9 hi hz hsz hby s (by omega) (by unfold maxLen; omega)
  refine ⟨p', _, cap', w', hrun, [.blk b [.pointer (some ⟨b, 0, none⟩), .slice p l.length cap] 93, .buf p' (l.length + s.size) cap' (Lib.byteCells l ++ Lib.strCells s) 5 1] ++ S, Φ, inferInstance, c'.swap, fun w G c => ⟨c.can 0 rfl (by simp), fun w' hw' => ?_⟩⟩
  refine ⟨[.blk b [.pointer (some ⟨b, 0, none⟩), .slice p' (l.length + s.size) cap'] 93, .buf p' (l.length + s.size) cap' (Lib.byteCells l ++ Lib.strCells s) 5 1] ++ S, Φ, inferInstance, c.put 0 hw' rfl, fun w G c => hk [.blk b [.pointer (some ⟨b, 0, none⟩), .slice p' (l.length + s.size) cap'] 93, .buf p' (l.length + s.size) cap' (Lib.byteCells l ++ Lib.strCells s) 5 1] w ⟨_, p', cap', .inr rfl, ?_⟩ c.left⟩
  have hl : (l ++ s.data.toList).length = l.length + s.size := by rw [List.length_append, Array.length_toList]; rfl
  rw [hl, strCells_bytes, Lib.byteCells_append]
theorem String_use {W w : World} {S R : List Own} {Φ : PW} [Stable Φ] {b : Nat} {l : List UInt8} (h : BdT b l R) (c : Ctx W w (R ++ S) Φ) {K : Ending → World → Prop}
    (hk : ∀ w', Ctx W w' S Φ → K (.returned (.string ⟨l.toArray⟩)) w') : Calls Tryz.prog F.strings_Builder_String #[.pointer (some ⟨b, 0, none⟩)] w K :=
  Bd.string Tryz.lays169 Tryz.Builder_Extra_169 h c hk
end Go.Proofs.YtemhapmbcbbljaaGreatDoor
end

section
namespace Go.Vc
theorem GivesIn.know {Φ : PW} {P : Program} {f : FuncId} {args : Array Value} {v : Value} {p : Prop} (hΦ : ∀ M w, Φ M w → p) (h : p → GivesIn Φ P f args v) : GivesIn Φ P f args v :=
  ⟨fun W w S c => (h (hΦ _ _ c.phi)).go W w S c⟩
end Go.Vc
namespace Go.Proofs.YtemhapmbcbbljaaGreatDoor
open Go.Vc
def numB (n : Int) : ByteArray := ⟨(Lib.itoa n).toArray⟩
def intB (n : Int) : ByteArray := numB n ++ ByteArray.mk #[59]
def natB (n : Int) : ByteArray := if n < 0 then ByteArray.mk #[] else intB n
def textB (s : ByteArray) : ByteArray := numB s.size ++ ByteArray.mk #[58] ++ s ++ ByteArray.mk #[44]
def valB (v : ValD) : ByteArray := intB v.kind ++ intB v.num ++ textB v.text
def valsL (r : List ValD) : List UInt8 := r.flatMap fun v => (valB v).data.toList
def rowL (r : List ValD) : List UInt8 := (natB r.length).data.toList ++ valsL r
def rowB (r : List ValD) : ByteArray := ⟨(rowL r).toArray⟩
theorem size_app (a b : ByteArray) : (a ++ b).size = a.size + b.size := ByteArray.size_append
theorem size_list (l : List UInt8) : (ByteArray.mk l.toArray).size = l.length := by simp [ByteArray.size]
theorem list_size (a : ByteArray) : a.data.toList.length = a.size := by rw [Array.length_toList]; rfl
theorem nDigits_le : ∀ (k u : Nat), u < 10 ^ k → 0 < k → Lib.nDigits u ≤ k
  | 0, u, _, h => by omega
  | k + 1, u, h, _ => by
    by_cases h1 : u < 10
    · rw [Lib.nDigits_small h1]; omega
    · rw [Lib.nDigits_big h1]
      have hk : 0 < k := by
        rcases Nat.eq_zero_or_pos k with rfl | h2
        · simp at h; omega
        · exact h2
      have := nDigits_le k (u / 10) (by rw [Nat.pow_succ] at h; omega) hk
      omega
theorem itoa_len {n : Int} (h : I64 n) : 1 ≤ (Lib.itoa n).length ∧ (Lib.itoa n).length ≤ 20 := by
  unfold I64 at h
  unfold Lib.itoa
  split
  · have h1 := nDigits_le 19 n.natAbs (by omega) (by decide)
    have h2 := Lib.nDigits_pos n.natAbs
    rw [List.length_cons, Lib.decDigits_length]; omega
  · have h1 := nDigits_le 19 n.toNat (by omega) (by decide)
    have h2 := Lib.nDigits_pos n.toNat
    rw [Lib.decDigits_length]; omega
theorem numB_size {n : Int} (h : I64 n) : 1 ≤ (numB n).size ∧ (numB n).size ≤ 20 := by
  unfold numB; rw [size_list]; exact itoa_len h
theorem intB_size {n : Int} (h : I64 n) : 2 ≤ (intB n).size ∧ (intB n).size ≤ 21 := by
  have := numB_size h
  have e : (ByteArray.mk #[59]).size = 1 := rfl
  unfold intB; rw [size_app, e]; omega
theorem natB_size {n : Int} (h : I64 n) : (natB n).size ≤ 21 := by
  unfold natB
  split
  · exact Nat.zero_le _
  · exact (intB_size h).2
theorem textB_size {s : ByteArray} (h : s.size ≤ 9223372036854775807) : (textB s).size ≤ s.size + 22 ∧ s.size + 3 ≤ (textB s).size := by
  have := numB_size (n := s.size) (by unfold I64; omega)
  have e : (ByteArray.mk #[58]).size = 1 := rfl
  have e2 : (ByteArray.mk #[44]).size = 1 := rfl
  unfold textB; rw [size_app, size_app, size_app, e, e2]; omega
theorem valB_size {v : ValD} (h1 : I64 v.kind) (h2 : I64 v.num) (h : v.text.size ≤ 9223372036854775807) : (valB v).size ≤ v.text.size + 64 := by
  have a := intB_size h1
  have b := intB_size h2
  have c := textB_size h
  unfold valB; rw [size_app, size_app]; omega
theorem valsL_app (a b : List ValD) : valsL (a ++ b) = valsL a ++ valsL b := by simp [valsL]
theorem valsL_one (v : ValD) : valsL [v] = (valB v).data.toList := by simp [valsL]
theorem valsL_len {m : Nat} : ∀ {r : List ValD}, (∀ v ∈ r, (I64 v.kind ∧ I64 v.num) ∧ v.text.size ≤ m) → m ≤ 9223372036854775807 → (valsL r).length ≤ r.length * (m + 64)
  | [], _, _ => by simp [valsL]
  | v :: r, h, hm => by
    have h1 := valsL_len (r := r) (fun u hu => h u (List.mem_cons_of_mem _ hu)) hm
    obtain ⟨⟨a, b⟩, c⟩ := h v List.mem_cons_self
    have h2 := valB_size a b (by omega)
    have e : valsL (v :: r) = (valB v).data.toList ++ valsL r := by simp [valsL]
    rw [e, List.length_append, list_size, List.length_cons, Nat.add_mul]
    omega
theorem rowL_len {m : Nat} {r : List ValD} (h : ∀ v ∈ r, (I64 v.kind ∧ I64 v.num) ∧ v.text.size ≤ m) (hm : m ≤ 9223372036854775807) (hr : r.length ≤ 1000000) : (rowL r).length ≤ 21 + r.length * (m + 64) := by
  have h1 := valsL_len h hm
  have h2 := natB_size (n := (r.length : Int)) (by unfold I64; omega)
  unfold rowL; rw [List.length_append, list_size]; omega
theorem rep_val {M : List Nat} {w : World} {cs : List Value} {v : ValD} (h : Gv.rep M w cs v) : cs = [.int .i64 v.kind, .int .i64 v.num, .string v.text] ∧ I64 v.kind ∧ I64 v.num ∧ v.text.size ≤ maxLen := by
  obtain ⟨_, _, rfl, ⟨rfl, h1⟩, _, _, rfl, ⟨rfl, h2⟩, rfl, h3⟩ := h
  exact ⟨rfl, h1, h2, h3⟩
theorem sl_i64 {M : List Nat} {w : World} {p : Option Addr} {l : List ValD} (h : Sl M w p l) : ∀ v ∈ l, (I64 v.kind ∧ I64 v.num) ∧ v.text.size ≤ maxLen := by
  intro v hv
  obtain ⟨i, hi, rfl⟩ := List.getElem_of_mem hv
  obtain ⟨_, _, _, _, _, _, hr⟩ := h i hi
  obtain ⟨_, h1, h2, h3⟩ := rep_val hr
  exact ⟨⟨h1, h2⟩, h3⟩
abbrev tabN : String := ((Rows.sinkTellsRow.laid.map Prod.fst).drop 2).headD default
abbrev TabI : PW := Tab Tryz.prog tabN .u64 Lib.pow10Tab
theorem Itoa_in {Φ : PW} [Stable Φ] (hΦ : ∀ M w, Φ M w → TabI M w) (n : Int) (h : I64 n) : GivesIn Φ Tryz.prog F.strconv_Itoa #[.int .i64 n] (.string (numB n)) :=
  itoa_in (name := tabN) (fun n h0 h1 w ht => Any.strconv_Itoa Tryz.laysM171 n h0 h1 w ht) hΦ n h
theorem Itoa_small (i : Nat) (hi : i < 100) : Gives Tryz.prog F.strconv_Itoa #[.int .i64 i] (.string (numB i)) :=
  Quiet.gives ⟨fun w => by
    have h := Any.strconv_Itoa_small { Tryz.lays171 with } i hi w
    rw [← Lib.itoa_nonneg] at h
    exact h⟩
def Dec (Φ : PW) (n : Int) : Prop := (∀ M w, Φ M w → TabI M w) ∧ I64 n ∨ ∃ i : Nat, i < 100 ∧ n = i
theorem Itoa_dec {Φ : PW} [Stable Φ] {n : Int} (h : Dec Φ n) : GivesIn Φ Tryz.prog F.strconv_Itoa #[.int .i64 n] (.string (numB n)) := by
  rcases h with ⟨h1, h2⟩ | ⟨i, hi, rfl⟩
  · exact Itoa_in h1 n h2
  · exact (Itoa_small i hi).in
theorem Dec.i64 {Φ : PW} {n : Int} (h : Dec Φ n) : I64 n := by
  rcases h with ⟨_, h2⟩ | ⟨i, hi, rfl⟩
  · exact h2
  · unfold I64; omega
theorem Int_in {Φ : PW} [Stable Φ] {n : Int} (h : Dec Φ n) : GivesIn Φ Tryz.prog F.wire_Int #[.int .i64 n] (.string (intB n)) := by
  refine gives_in (Bwire_Int_run n) fun W R => ?_
  have := numB_size h.i64
  exact fun w G cx => (Itoa_dec h).use cx fun w cx => ⟨_, rfl, R, Φ, inferInstance, cx, by show (numB n).size + 1 ≤ _; omega, fun w G cx => ⟨rfl, cx.left⟩⟩
theorem Num_in {Φ : PW} [Stable Φ] {n : Int} (h : Dec Φ n) : GivesIn Φ Tryz.prog F.wire_Num #[.int .i64 n] (.string (natB n)) := by
  refine gives_in (Bwire_Num_run n) fun W R => Br.intro (fun hn => fun w G cx => ⟨?_, cx.left⟩) (fun hn => fun w G cx => (Int_in h).use cx fun w cx => ⟨_, rfl, R, Φ, inferInstance, cx, fun w G cx => ⟨?_, cx.left⟩⟩)
  · unfold natB; rw [if_pos (of_decide_eq_true hn)]
  · unfold natB; rw [if_neg (of_decide_eq_false hn)]
theorem Text_in {Φ : PW} [Stable Φ] {s : ByteArray} (h : Dec Φ s.size) (hs : s.size ≤ 1000000000000) : GivesIn Φ Tryz.prog F.wire_Text #[.string s] (.string (textB s)) := by
  refine gives_in (Bwire_Text_run s) fun W R => ?_
  have h1 := numB_size h.i64
  have e : (ByteArray.mk #[58]).size = 1 := rfl
  have e2 : (ByteArray.mk #[44]).size = 1 := rfl
  exact fun w G cx => (Itoa_dec h).use cx fun w cx => ⟨_, rfl, R, Φ, inferInstance, cx, by show (numB s.size).size + 1 ≤ _; omega, by show (numB s.size ++ ByteArray.mk #[58]).size + s.size ≤ _; rw [size_app, e]; omega, by show (numB s.size ++ ByteArray.mk #[58] ++ s).size + 1 ≤ _; rw [size_app, size_app, e]; omega, fun w G cx => ⟨rfl, cx.left⟩⟩
theorem Bytes_in {Φ : PW} [Stable Φ] (v : ValD) (hΦ : ∀ M w, Φ M w → TabI M w) (h1 : I64 v.kind) (h2 : I64 v.num) (hs : v.text.size ≤ 1000000000000) : GivesIn Φ Tryz.prog F.value_Bytes #[v.v] (.string (valB v)) := by
  refine gives_in (Bvalue_Bytes_run v.kind v.num v.text) fun W R => ?_
  have a := intB_size h1
  have b := intB_size h2
  have c := textB_size (s := v.text) (by omega)
  exact fun _ => ⟨R, Φ, inferInstance, fun w G cx => cx, fun w G cx => (Int_in (.inl ⟨hΦ, h1⟩)).use cx fun w cx => ⟨_, rfl, R, Φ, inferInstance, cx, fun w G cx => cx, fun w G cx => (Int_in (.inl ⟨hΦ, h2⟩)).use cx fun w cx => ⟨_, rfl, R, Φ, inferInstance, cx, fun w G cx => cx, by show (intB v.kind).size + (intB v.num).size ≤ _; omega,
    fun w G cx => (Text_in (.inl ⟨hΦ, by unfold I64; omega⟩) hs).use cx fun w cx => ⟨_, rfl, R, Φ, inferInstance, cx, fun w G cx => cx, by show (intB v.kind ++ intB v.num).size + (textB v.text).size ≤ _; rw [size_app]; omega, fun w G cx => ⟨rfl, cx.left⟩⟩⟩⟩⟩
theorem RowBytes_in {Φ : PW} [Stable Φ] (p : Option Addr) (cap : Nat) (r : List ValD) (hT : ∀ M w, Φ M w → TabI M w) (hΦ : ∀ M w, Φ M w → Sl M w p r) (hr : r.length ≤ 1000000) (ht : ∀ v ∈ r, v.text.size ≤ 10000) :
    GivesIn Φ Tryz.prog F.value_RowBytes #[.slice p r.length cap] (.string (rowB r)) := by
  refine .there (fun M w h => (hΦ M w h).there) fun hth => .know (fun M w h => sl_i64 (hΦ M w h)) fun hi => ?_
  have hv : ∀ v ∈ r, (I64 v.kind ∧ I64 v.num) ∧ v.text.size ≤ 10000 := fun v h => ⟨(hi v h).1, ht v h⟩
  have hL := rowL_len hv (by decide) hr
  have hL : (rowL r).length ≤ 20000000000 := by
    have : r.length * (10000 + 64) ≤ 1000000 * 10064 := Nat.mul_le_mul hr (Nat.le_refl _)
    omega
  have hnat : (natB r.length).data.toList.length ≤ 20000000000 := by unfold rowL at hL; rw [List.length_append] at hL; omega
  refine gives_in (Bvalue_RowBytes_run p r.length cap) fun W R => ?_
  refine fun b w G cx => (Num_in (Φ := Φ) (.inl ⟨hT, by unfold I64; omega⟩)).use cx fun w cx => ⟨_, rfl, .blk b [.pointer none, .slice none 0 0] 93 :: R, Φ, inferInstance, cx, fun w G cx => ?_⟩
  refine WriteString_use (natB r.length) Bd.nil (Bd.fresh cx) (by rw [← list_size]; simp only [List.length_nil]; omega) fun R1 w hB cx => ⟨_, _, rfl, R1 ++ R, Φ, inferInstance, by rw [List.append_assoc]; exact cx, ?_⟩
  rw [List.nil_append] at hB
  clear cx
  refine exI_mk (fun iI R' Φ' k => ∃ (i : Nat) (Q : List Own), iI = i ∧ i ≤ r.length ∧ BdT b ((natB r.length).data.toList ++ valsL (r.take i)) Q ∧ R' = Q ++ R ∧ Φ' = Φ ∧ k = r.length - i) ⟨⟨_, Φ, _, inferInstance, fun w G cx => cx, 0, R1, rfl, Nat.zero_le _, by rw [List.take_zero, show valsL [] = [] from rfl, List.append_nil]; exact hB, rfl, rfl, rfl⟩, ?_⟩
  rintro iI R2 Φ2 k _ ⟨i, Q, rfl, hi, hQ, rfl, rfl, rfl⟩
  refine Br.intro (fun hlt => ?_) (fun hge => fun w G cx => ?_)
  · have hlt : i < r.length := by have := of_decide_eq_true hlt; omega
    obtain ⟨g, o, rfl⟩ := hth (by omega)
    obtain ⟨⟨h1, h2⟩, h3⟩ := hv r[i] (List.getElem_mem hlt)
    have hsz := valB_size h1 h2 (by omega)
    have hlen : ((natB r.length).data.toList ++ valsL (r.take (i + 1))).length ≤ 20000000000 := by
      have e : valsL r = valsL (r.take (i + 1)) ++ valsL (r.drop (i + 1)) := by rw [← valsL_app, List.take_append_drop]
      unfold rowL at hL
      rw [e, List.length_append, List.length_append] at hL
      rw [List.length_append]; omega
    have hstep : valsL (r.take (i + 1)) = valsL (r.take i) ++ (valB r[i]).data.toList := by rw [List.take_succ_eq_append_getElem hlt, valsL_app, valsL_one]
    refine ⟨by omega, ptrK_intro g o rfl fun w G cx => ⟨r[i].kind, r[i].num, r[i].text, by rw [Int.toNat_natCast]; exact sl_val (hΦ _ _ cx.phi) hlt, fun _ w G cx => (Bytes_in (Φ := Φ2) r[i] hT h1 h2 (by omega)).use cx fun w cx => ⟨_, rfl, Q ++ R, Φ2, inferInstance, cx, fun w G cx => ?_⟩⟩⟩
    refine WriteString_use (valB r[i]) hQ (cx.re (List.append_assoc _ _ _)) (by rw [hstep, ← List.append_assoc, List.length_append, list_size] at hlen; omega) fun Q' w hQ' cx => ⟨_, _, rfl, Q' ++ R, Φ2, inferInstance, by rw [List.append_assoc]; exact cx, by unfold I64; omega, _, Φ2, r.length - (i + 1), inferInstance, fun w G cx => cx, ⟨i + 1, Q', by omega, hlt, ?_, rfl, rfl, rfl⟩, by omega⟩
    rw [hstep, ← List.append_assoc]; exact hQ'
  · have hge : i = r.length := by have := of_decide_eq_false hge; omega
    subst hge
    rw [List.take_length] at hQ
    exact String_use hQ (cx.re (List.append_assoc _ _ _)) fun w cx => ⟨_, rfl, R, Φ2, inferInstance, cx, fun w G cx => ⟨rfl, cx.left⟩⟩
end Go.Proofs.YtemhapmbcbbljaaGreatDoor
end

section
namespace Go.Vc
def BytesAt (b : Nat) (l : List UInt8) : PW := fun M w => ∀ j, (hj : j < l.length) → b ∉ M ∧ w.cell? ⟨b, j, none⟩ = some (.int .u8 (l[j].toNat : Int))
instance instStableBytesAt (b : Nat) (l : List UInt8) : Stable (BytesAt b l) := ⟨fun {M M' w w'} hs h j hj => by
  obtain ⟨h1, h2⟩ := h j hj
  have hlt : b < w.heap.size := by
    rcases Nat.lt_or_ge b w.heap.size with h' | h'
    · exact h'
    · simp [World.cell?, Array.getElem?_eq_none h'] at h2
  refine ⟨fun hm => ?_, hs.chg.cell h2 h1⟩
  rcases hs.sub b hm with h | h
  · exact h1 h
  · omega⟩
theorem chg_bytes {w : World} {e : TypeId} {s : ByteArray} : Chg [] w (Lib.bytesWorld w e s) :=
  have h := Lib.bytesWorld_below w e s
  ⟨h.os, h.tape, h.output, h.size, fun k hk _ => h.block k hk⟩
theorem Ctx.bytes {W w : World} {S : List Own} {Φ : PW} [Stable Φ] (c : Ctx W w S Φ) (e : TypeId) (s : ByteArray) : Ctx W (Lib.bytesWorld w e s) S (fun M w' => Φ M w' ∧ BytesAt w.heap.size s.data.toList M w') := by
  refine (c.call chg_bytes).add fun j hj => ⟨fun hm => absurd (c.lt hm) (Nat.lt_irrefl _), ?_⟩
  have hj2 : j < s.size := by
    rw [Array.length_toList] at hj
    exact hj
  rw [Lib.bytesWorld_cell w e s j hj2, show s.data.toList.getD j 0 = s.data.toList[j] by rw [List.getD, List.getElem?_eq_getElem hj]; rfl]
end Go.Vc
namespace Go.Proofs.YtemhapmbcbbljaaGreatDoor
open Go.Vc
section
variable {Φ : PW} {p : Option Addr} {cap : Nat} {r : List ValD} {l : List DeltaD}
end
end Go.Proofs.YtemhapmbcbbljaaGreatDoor
end

section
namespace Go.Proofs.YtemhapmbcbbljaaGreatDoor
open Go.Vc
structure BatD where
  no : Int
  mark : Int
  stop : Nat
abbrev BatD.cells (x : BatD) : List Value := [.int .i64 x.no, .int .i64 x.mark, .int .i64 x.stop]
structure LedD where
  lines : List LineD
  bats : List BatD
abbrev LKey : Type := Int × ByteArray
def LineD.at (x : LineD) : LKey := (x.time, rowB x.row)
def cntL : List LineD → LKey → Int
  | [], _ => 0
  | x :: l, k => (if x.at = k then x.n else 0) + cntL l k
structure LP where
  lb : Nat
  lp : Option Addr
  lc : Nat
  cs : List Value
  bp : Option Addr
  bc : Nat
  mb : Nat
  es : List MEnt
  clk : Nat
structure LedQ (q : LP) (st : LedD) : Prop where
  map : MapOk q.es q.clk
  cnt : ∀ k, getM q.es k = cntL st.lines k
  lpt : 0 < st.lines.length → ∃ g, q.lp = some ⟨g, 0, none⟩
  bpt : 0 < st.bats.length → ∃ g, q.bp = some ⟨g, 0, none⟩
  lcap : st.lines.length ≤ q.lc ∧ q.lc ≤ maxLen
  cells : ∀ i (h : i < st.lines.length), ∃ p c, (q.cs.drop (i * 7)).take 7 = st.lines[i].cells p c ∧ st.lines[i].row.length ≤ c ∧ c ≤ maxLen ∧ st.lines[i].In
  len : q.cs.length = st.lines.length * 7
structure LedS (st : LedD) : Prop where
  lines : st.lines.length ≤ 150000
  bats : st.bats.length ≤ 600000
  row : ∀ x ∈ st.lines, x.row.length ≤ 13
  text : ∀ x ∈ st.lines, ∀ v ∈ x.row, v.text.size ≤ 300
  stop : ∀ b ∈ st.bats, b.stop ≤ st.lines.length
theorem LedS.rows {st : LedD} (h : LedS st) : ∀ x ∈ st.lines, x.row.length ≤ 1000000 := fun x hx => by have := h.row x hx; omega
section
variable {Φ : PW} {q : LP} {st : LedD} {W w : World} {R S G : List Own}
end
end Go.Proofs.YtemhapmbcbbljaaGreatDoor
end

section
namespace Go.Proofs.YtemhapmbcbbljaaGreatDoor
open Go.Vc
theorem elems_len7 {M : List Nat} {w : World} {cs : List Value} {l : List LineD} (h : Elems M w cs l) : cs.length = l.length * 7 := h.1
theorem elems_one7 {M : List Nat} {w : World} {cs : List Value} {l : List LineD} (h : Elems M w cs l) : (cs.all fun u => oneC u) = true := by
  have h1 := elems_len7 h
  refine List.all_eq_true.2 fun u hu => ?_
  obtain ⟨j, hj, rfl⟩ := List.getElem_of_mem hu
  have hi : j / 7 < l.length := by omega
  obtain ⟨p, c, e, _⟩ := lrow h hi
  have ha : (((cs.drop (j / 7 * 7)).take 7).all fun u => oneC u) = true := by rw [e]; rfl
  have hm : cs[j] ∈ (cs.drop (j / 7 * 7)).take 7 := by
    refine List.mem_iff_getElem?.2 ⟨j % 7, ?_⟩
    rw [List.getElem?_take_of_lt (by omega), List.getElem?_drop, show j / 7 * 7 + j % 7 = j by omega, List.getElem?_eq_getElem hj]
  exact List.all_eq_true.1 ha _ hm
structure Src (S : List Own) (Φ : PW) (p : Option Addr) (l : List LineD) (cs : List Value) : Prop where
  ptr : 0 < l.length → ∃ b o, p = some ⟨b, o, none⟩
  rd : ∀ {W w : World} {G : List Own} {b o : Nat}, p = some ⟨b, o, none⟩ → Ctx W w (S ++ G) Φ → ∀ j v, cs[j]? = some v → w.cell? ⟨b, o + j, none⟩ = some v
  el : ∀ M w, Φ M w → Elems M w cs l
section
variable {Φ : PW} {q : LP} {st : LedD} {W w : World} {R S G : List Own} {p : Option Addr} {cap : Nat} {l : List LineD} {cs : List Value}
theorem Src.more {Ψ : PW} (h : Src S Φ p l cs) (hi : ∀ M w, Ψ M w → Φ M w) : Src S Ψ p l cs := ⟨h.ptr, fun e c => h.rd e (c.weak hi), fun M w x => h.el M w (hi M w x)⟩
theorem Src.app (h : Src S Φ p l cs) : Src (S ++ R) Φ p l cs := ⟨h.ptr, fun e c => h.rd e (c.re (List.append_assoc _ _ _)), h.el⟩
def SrcF (p : Option Addr) (l : List LineD) (cs : List Value) : PW := fun M w => (∀ b o, p = some ⟨b, o, none⟩ → 0 < l.length → RowIn b o cs M w) ∧ Elems M w cs l
instance instStableSrcF (p : Option Addr) (l : List LineD) (cs : List Value) : Stable (SrcF p l cs) := ⟨fun hs h => ⟨fun b o e h0 => Stable.step (Φ := fun M w => RowIn b o cs M w) hs (h.1 b o e h0), Stable.step (Φ := fun M w => Elems M w cs l) hs h.2⟩⟩
theorem srcOf (c : Ctx W w S Φ) (h : Sl (dom S) w p l) : ∃ cs, Ctx W w S (fun M w => Φ M w ∧ SrcF p l cs M w) := by
  rcases Nat.eq_zero_or_pos l.length with h0 | h0
  · have hl : l = [] := List.eq_nil_of_length_eq_zero h0
    subst hl
    exact ⟨[], c.add ⟨fun _ _ _ h => by simp at h, Elems.nil⟩⟩
  · obtain ⟨b, o, news, hp, g1, g2, g3, g4⟩ := h.cells line_one h0
    obtain ⟨b', o', _, e', hb, hr, _⟩ := h 0 h0
    rw [hp] at e'
    cases e'
    refine ⟨news, c.add ⟨fun b' o' e _ => ?_, g3⟩⟩
    rw [hp] at e
    cases e
    refine ⟨hb, fun j hj => g2 j _ (List.getElem?_eq_getElem hj), ?_⟩
    have hsz : (Gv.ty LineD).size = 7 := rfl
    rw [hsz] at g1
    have := g2 0 _ (List.getElem?_eq_getElem (by omega))
    rcases Nat.lt_or_ge b w.heap.size with h' | h'
    · exact h'
    · simp [World.cell?, Array.getElem?_eq_none h'] at this
theorem src_fact (hth : There p l.length) (hf : ∀ M w, Φ M w → SrcF p l cs M w) : Src [] Φ p l cs where
  ptr := hth
  rd := fun {W w G b o} e c j v hj => by
    have hl := elems_len7 (hf _ _ c.phi).2
    have hjl : j < cs.length := (List.getElem?_eq_some_iff.1 hj).1
    have := ((hf _ _ c.phi).1 b o e (by omega)).2.1 j hjl
    rw [this, ← hj, List.getElem?_eq_getElem hjl]
  el := fun M w h => (hf M w h).2
theorem CloneL_new [Stable Φ] (src : Src S Φ p l cs) (hlen : l.length ≤ 1000000) (c : Ctx W w S Φ) :
    Calls Tryz.prog F.slices_Clone_api_Line_api_Line #[.slice p l.length cap] w fun e w' => ∃ p' c' cs', e = .returned (.slice p' l.length c') ∧ Ctx W w' (bufL p' l.length c' cs' :: S) (fun M w => Φ M w ∧ Elems M w cs' l) := by
  refine (Bslices_Clone_api_Line_api_Line_run p l.length cap (J := fun v w' => ∃ p' c' cs', v = .slice p' l.length c' ∧ Ctx W w' (bufL p' l.length c' cs' :: S) (fun M w => Φ M w ∧ Elems M w cs' l)) c ?_).mono fun e w' ⟨v, he, p', c', cs', hv, rest⟩ => ⟨p', c', cs', by rw [he, hv], rest⟩
  clear c
  refine Br.intro (fun hn => fun w F c => ?_) (fun hn => fun k w F c => ?_)
  · have hl : l = [] := by
      rcases Nat.eq_zero_or_pos l.length with h0 | h0
      · exact List.eq_nil_of_length_eq_zero h0
      · obtain ⟨b, o, e⟩ := src.ptr h0
        rw [e] at hn; cases hn
    subst hl
    exact ⟨none, 0, [], rfl, (c.left.buf0 51 7).add Elems.nil⟩
  · have c' : Ctx W w (bufL (some ⟨k, 0, none⟩) 0 0 [] :: (S ++ F)) Φ := c.toBuf 0 0 7 rfl (by simp) (by simp [maxLen])
    obtain ⟨i, z, e1, e2, e3, e4, e5, e6⟩ := appB_out (P := Tryz.prog) (ts := 33) (t := 51) (size := 7) (bytes := 72) (by kernel_rfl)
    rcases Nat.eq_zero_or_pos l.length with h0 | h0
    · have hl : l = [] := List.eq_nil_of_length_eq_zero h0
      subst hl
      exact ⟨_, _, _, w, run_app (c'.append0 0 rfl e1 e2 p cap), bufL (some ⟨k, 0, none⟩) 0 0 [] :: S, _, instStableAnd Φ (fun M w => Elems M w [] ([] : List LineD)), c'.add Elems.nil, fun w G c => ⟨some ⟨k, 0, none⟩, 0, [], rfl, c.left⟩⟩
    · obtain ⟨b, o, hp⟩ := src.ptr h0
      have hel := src.el _ _ c'.phi
      have hcl := elems_len7 hel
      obtain ⟨p', cap', w', hrun, cx⟩ := c'.append 0 rfl (ty := 33) e1 e2 e3 e4 e5 (a := ⟨b, o, none⟩) (m := l.length) (c2 := cap) (news := cs) h0 hcl (fun j u hj => by rw [addr_add]; exact src.rd hp c'.drop1 j u hj) (fun u hu => List.all_eq_true.1 (elems_one7 hel) u hu) (by rw [e6]; omega) (by omega)
      rw [← hp, Nat.zero_add] at hrun
      rw [Nat.zero_add] at cx
      exact ⟨_, _, _, w', run_app hrun, bufL p' l.length cap' cs :: S, _, instStableAnd Φ (fun M w => Elems M w cs l), cx.weak fun M w h => ⟨h, src.el M w h⟩, fun w G c => ⟨p', cap', cs, rfl, c.left⟩⟩
theorem CloneV_sl [Stable Φ] {r : List ValD} [hΦ : Has Φ (fun M w => Sl M w p r)] (hlen : r.length ≤ 1000000) : GivesSl Φ Tryz.prog F.slices_Clone_api_Value_api_Value #[.slice p r.length cap] r id :=
  ⟨fun W w S c => (CloneV_in (Φ := Φ) p cap r (fun M w h => hΦ.go M w h) (by omega)).use c fun p1 cap1 ds w cx => by
    obtain ⟨c2, hs, _, h2, h3⟩ := Ctx.freeze (α := ValD) cx cx.phi.2
    exact ⟨p1, cap1, rfl, h2, h3, (c2.add hs).weak fun M w h => ⟨h.1.1, h.2⟩⟩⟩
theorem l_row {W w w' : World} {S : List Own} {Φ : PW} [Stable Φ] {g n cap : Nat} {cs : List Value} {l : List LineD} (cx : Ctx W w (bufL (some ⟨g, 0, none⟩) n cap cs :: S) (fun M w => Φ M w ∧ Elems M w cs l)) {i : Nat} (hi : i < l.length) {p : Option Addr} {c : Nat}
    (h1 : l[i].row.length ≤ c) (h2 : c ≤ maxLen) (hs : ∀ M w, Φ M w → Sl M w p l[i].row) (e : w' = w.setCell ⟨g, i * 7 + 3, none⟩ (.slice p l[i].row.length c)) :
    ∃ cs', Ctx W w' (bufL (some ⟨g, 0, none⟩) n cap cs' :: S) (fun M w => Φ M w ∧ Elems M w cs' l) := by
  have hl := lcells_len cx.phi.2
  obtain ⟨p0, c0, hp, _, _, h3, _⟩ := lrow cx.phi.2 hi
  have h := cx.bufPuts 0 rfl rfl (vs := [.slice p l[i].row.length c]) (o := i * 7 + 3) (by omega) (by simp only [List.length_cons, List.length_nil]; omega) e
  have hrows := rows_of (vs := l[i].cells p0 c0) hp
  rw [setL_cell (l[i].cells p0 c0) 3 cs (i * 7) _ (by show 3 < 7; decide) hrows, show (l[i].cells p0 c0).set 3 (.slice p l[i].row.length c) = l[i].cells p c from rfl] at h
  refine ⟨_, h.weak fun M w h => ⟨h.1, ?_⟩⟩
  have := h.2.setAt i hi (rep_line h1 h2 h3 (hs M w h.1))
  rw [List.set_getElem_self] at this
  exact this
end
end Go.Proofs.YtemhapmbcbbljaaGreatDoor
end

section
namespace Go.Proofs.YtemhapmbcbbljaaGreatDoor
open Go.Vc
theorem seg_sum {seg : List DeltaD} {k0 : Key} (h : ∀ x ∈ seg, x.key = k0) (k : Key) (hk : k ≠ k0) : sumK seg k = 0 := sumK_none fun x hx e => hk (by rw [← e, h x hx])
theorem Norm.snoc {c : List DeltaD} {x : DeltaD} (h : Norm c) (h1 : ∀ y ∈ c, cmpK y.key x.key < 0) (h2 : x.n ≠ 0) (h3 : I64 x.n) : Norm (c ++ [x]) := by
  refine ⟨List.pairwise_append.2 ⟨h.asc, List.pairwise_singleton _ _, fun y hy z hz => ?_⟩, fun y hy => ?_, fun y hy => ?_⟩
  · rw [List.mem_singleton.1 hz, cmpD_key]; exact h1 y hy
  · rcases List.mem_append.1 hy with hy | hy
    · exact h.nz y hy
    · rw [List.mem_singleton.1 hy]; exact h2
  · rcases List.mem_append.1 hy with hy | hy
    · exact h.i64 y hy
    · rw [List.mem_singleton.1 hy]; exact h3
theorem find_group {A seg C : List DeltaD} {k0 : Key} {N : Int} (h : ∀ x ∈ seg, x.key = k0) (hN : N = findP seg k0) (k : Key) :
    (findP (A ++ (⟨k0.1, k0.2, N⟩ :: C)) k = findP (A ++ (seg ++ C)) k) ∧ (N = 0 → findP (A ++ C) k = findP (A ++ (seg ++ C)) k) := by
  have key : (((if k0 = k then N else 0) : Int) - sumK seg k) % 18446744073709551616 = 0 := by
    by_cases hk : k0 = k
    · subst hk
      rw [if_pos rfl, hN]
      exact w64_mod _
    · rw [if_neg hk, seg_sum h k (fun e => hk e.symm)]
      rfl
  have e1 : sumK (A ++ (⟨k0.1, k0.2, N⟩ :: C)) k = sumK A k + ((if k0 = k then N else 0) + sumK C k) := by rw [sumK_app]; rfl
  have e2 : sumK (A ++ (seg ++ C)) k = sumK A k + (sumK seg k + sumK C k) := by rw [sumK_app, sumK_app]
  refine ⟨?_, fun h0 => ?_⟩
  · unfold findP
    rw [e1, e2]
    exact w64_cong (by omega)
  · unfold findP
    rw [sumK_app, e2]
    refine w64_cong ?_
    rw [h0] at key
    have : ((if k0 = k then (0 : Int) else 0)) = 0 := by split <;> rfl
    omega
theorem find_snoc {seg : List DeltaD} {y : DeltaD} {k0 : Key} (hy : y.key = k0) : findP (seg ++ [y]) k0 = w64 (findP seg k0 + y.n) := by
  unfold findP
  rw [w64_l, sumK_app]
  simp only [sumK]
  rw [if_pos hy, Int.add_zero]
theorem sub_at {g i k c : Nat} (h : k < c) : subPtr (some ⟨g, i * 3, none⟩) 3 k c = some ⟨g, (i + k) * 3, none⟩ := by
  unfold subPtr
  rw [if_neg (by omega), Option.map_some]
  congr 1
  unfold Addr.add
  split
  · rw [show k = 0 by omega, Nat.add_zero]
  · show Addr.mk g (i * 3 + k * 3) none = _
    rw [Nat.add_mul]
structure COuter (l : List DeltaD) (es outs : List DE) (i : Nat) : Prop where
  le : i ≤ es.length
  norm : Norm (outs.map DE.d)
  lt : ∀ x ∈ outs, ∀ y ∈ es.drop i, cmpK x.d.key y.d.key < 0
  find : ∀ k, findP (outs.map DE.d ++ (es.drop i).map DE.d) k = findP l k
  few : outs.length ≤ i
theorem COuter.step {l : List DeltaD} {es outs : List DE} {i : Nat} (h : COuter l es outs i) {X : DE} (hX : X ∈ es.drop i) {j : Nat} (hij : i + j ≤ es.length) (hj : 1 ≤ j) (hk : ∀ y ∈ (es.drop i).take j, y.d.key = X.d.key) {N : Int} (hN : N = findP (((es.drop i).take j).map DE.d) X.d.key)
    (hgt : ∀ y ∈ es.drop (i + j), cmpK X.d.key y.d.key < 0) : (N = 0 → COuter l es outs (i + j)) ∧ (N ≠ 0 → ∀ (p : Option Addr) (c : Nat), COuter l es (outs ++ [⟨⟨X.d.time, X.d.row, N⟩, p, c⟩]) (i + j)) := by
  have hdr : es.drop i = (es.drop i).take j ++ es.drop (i + j) := by rw [← List.drop_drop, List.take_append_drop]
  have hkm : ∀ x ∈ ((es.drop i).take j).map DE.d, x.key = X.d.key := fun x hx => by
    obtain ⟨y, hy, rfl⟩ := List.mem_map.1 hx
    exact hk y hy
  have hsub : ∀ y ∈ es.drop (i + j), y ∈ es.drop i := fun y hy => by rw [hdr]; exact List.mem_append_right _ hy
  have hf : ∀ k, findP (outs.map DE.d ++ (((es.drop i).take j).map DE.d ++ (es.drop (i + j)).map DE.d)) k = findP l k := fun k => by
    rw [← List.map_append, ← hdr]; exact h.find k
  refine ⟨fun h0 => ⟨hij, h.norm, fun x hx y hy => h.lt x hx y (hsub y hy), fun k => ?_, by have := h.few; omega⟩, fun h0 p c => ⟨hij, ?_, fun x hx y hy => ?_, fun k => ?_, by rw [List.length_append]; have := h.few; simp; omega⟩⟩
  · rw [← hf k]
    exact (find_group (A := outs.map DE.d) (C := (es.drop (i + j)).map DE.d) hkm hN k).2 h0
  · rw [List.map_append]
    refine Norm.snoc h.norm (fun y hy => ?_) h0 (by rw [hN]; exact w64_in _)
    obtain ⟨z, hz, rfl⟩ := List.mem_map.1 hy
    exact h.lt z hz X hX
  · rcases List.mem_append.1 hx with hx | hx
    · exact h.lt x hx y (hsub y hy)
    · rw [List.mem_singleton.1 hx]; exact hgt y hy
  · rw [← hf k, List.map_append, List.append_assoc]
    exact (find_group (A := outs.map DE.d) (C := (es.drop (i + j)).map DE.d) hkm hN k).1
theorem cmpFn_delta {Φ : PW} [Stable Φ] {es : List DE} (hrow : ∀ x ∈ es, x.d.row.length ≤ 1000000) : CmpFn (fun M w => Φ M w ∧ EPhi es M w) F.delta_compare #[] (fun x => x ∈ es) :=
  ⟨by kernel_rfl, fun x y hx hy => compareD_in x.d y.d x.p y.p x.c y.c (fun M w h => delta_row (h.2 x hx)) (fun M w h => delta_row (h.2 y hy)) (by have := hrow x hx; omega)⟩
theorem cell3 {w : World} {g o : Nat} {X : DE} (h : RowAt w g o X.cells) : w.cell? ⟨g, o + 2, none⟩ = some (.int .i64 X.d.n) := by
  have := h 2 (by simp)
  simpa using this
set_option maxHeartbeats 4000000 in
theorem Consolidate_new {Φ : PW} [Stable Φ] (p : Option Addr) (cap : Nat) (l : List DeltaD) (hΦ : ∀ M w, Φ M w → Sl M w p l) (hlen : l.length ≤ 1000000) (hrow : ∀ x ∈ l, x.row.length ≤ 1000000) : GivesNew Φ Tryz.prog F.delta_Consolidate #[.slice p l.length cap] (consP l) 71 := by
  refine gives_new (Bdelta_Consolidate_run p l.length cap) fun W R => ?_
  refine fun w G cx => (CloneD_in p cap l hΦ (by omega)).use cx fun p1 cap1 cs w cx => ?_
  obtain ⟨es0, rfl, hes⟩ := elems_ex cx.phi.2
  have hl : l.length = es0.length := by rw [← hes, List.length_map]
  have cx1 : Ctx W w (bufE p1 cap1 es0 :: (R ++ G)) (fun M w => Φ M w ∧ EPhi es0 M w) := by
    have h1 := cx.weak (Ψ := fun M w => Φ M w ∧ EPhi es0 M w) fun M w h => ⟨h.1, elems_e (by rw [hes]; exact h.2)⟩
    rw [hl] at h1
    exact h1
  have hrow0 : ∀ x ∈ es0, x.d.row.length ≤ 1000000 := fun x hx => hrow x.d (by rw [← hes]; exact List.mem_map_of_mem hx)
  have hf := cmpFn_delta (Φ := Φ) hrow0
  clear cx
  refine ⟨p1, es0.length, cap1, by rw [hl], bufE p1 cap1 es0 :: R, _, inferInstance, cx1, fun w G cx => ?_⟩
  refine SortStable_use (S := R ++ G) hf es0 (fun e h => h) cx (by omega) fun es w hp ha cx => ?_
  have hn : es0.length = es.length := hp.length_eq.symm
  have hi0 : ∀ x ∈ es, EPhi es0 = EPhi es0 := fun _ _ => rfl
  have cx2 : Ctx W w (bufE p1 cap1 es :: (R ++ G)) (fun M w => Φ M w ∧ EPhi es M w) := cx.weak fun M w h => ⟨h.1, fun x hx => h.2 x (hp.mem_iff.1 hx)⟩
  have hfind : ∀ k, findP (es.map DE.d) k = findP l k := fun k => by rw [← hes]; exact findP_perm (hp.map DE.d) k
  have hrowE : ∀ x ∈ es, x.d.row.length ≤ 1000000 := fun x hx => hrow0 x (hp.mem_iff.1 hx)
  have hcmp := (cmpFn_delta (Φ := Φ) hrowE).2
  have hpg : 0 < es.length → ∃ g, p1 = some ⟨g, 0, none⟩ := fun h => e_ptr cx2 h
  have hcap : es.length ≤ cap1 := (cx2.bufLen 0 rfl).2.1
  rw [hn]
  refine ⟨rfl, bufE p1 cap1 es :: R, _, inferInstance, cx2, ?_⟩
  clear hf hrow0 hi0 cx cx1 cx2 hrow hp hes
  refine exI_mk (fun sp sn sc op on oc R' Φ' k => ∃ (i : Nat) (outs : List DE), COuter l es outs i ∧ sn = es.length - i ∧ sn ≤ sc ∧ (∀ g, p1 = some ⟨g, 0, none⟩ → i < es.length → sp = some ⟨g, i * 3, none⟩) ∧ on = outs.length ∧ R' = bufE op oc outs :: bufE p1 cap1 es :: R ∧ Φ' = (fun M w => (Φ M w ∧ EPhi es M w) ∧ EPhi outs M w) ∧ k = es.length - i)
    ⟨⟨bufE none 0 [] :: bufE p1 cap1 es :: R, fun M w => (Φ M w ∧ EPhi es M w) ∧ EPhi ([] : List DE) M w, _, inferInstance, fun w G cx => ((cx.weak fun M w h => ⟨h, fun x hx => by cases hx⟩).nobuf 71 3), 0, [], ⟨Nat.zero_le _, Norm.nil, by simp, fun k => hfind k, Nat.le_refl _⟩, by omega, by omega, fun g hg _ => by rw [hg, Nat.zero_mul], rfl, rfl, rfl, rfl⟩, ?_⟩
  rintro sp sn sc op on oc R1 Φ1 k _ ⟨i, outs, hco, rfl, hsc, hsp, rfl, rfl, rfl, rfl⟩
  have hile := hco.le
  refine Br.intro (fun hlt => ?_) (fun hge => fun w G cx => ?_)
  · have hlt := of_decide_eq_true hlt
    have hlt : i < es.length := by omega
    obtain ⟨g, rfl⟩ := hpg (by omega)
    have hsp := hsp g rfl hlt
    subst hsp
    have hstP : Stable (fun M w => (Φ M w ∧ EPhi es M w) ∧ EPhi outs M w) := inferInstance
    obtain ⟨X, hX⟩ : ∃ X, es[i]? = some X := ⟨_, List.getElem?_eq_getElem hlt⟩
    have hXm : X ∈ es := List.mem_of_getElem? hX
    have hXd : X ∈ es.drop i := by
      rw [List.drop_eq_getElem_cons hlt]
      rw [List.getElem?_eq_getElem hlt] at hX
      rw [Option.some.inj hX]; simp
    have hdX : es.drop i = X :: es.drop (i + 1) := by
      rw [List.drop_eq_getElem_cons hlt]
      rw [List.getElem?_eq_getElem hlt] at hX
      rw [Option.some.inj hX]
    refine ⟨by omega, ptrK_intro g (i * 3) rfl fun w G cx => ⟨X.d.time, X.p, X.d.row.length, X.c, X.d.n, e_row cx.swap hX, fun _ => ?_⟩⟩
    obtain ⟨hIt, hIn⟩ : I64 X.d.time ∧ I64 X.d.n := by
      obtain ⟨_, _, _, _, _, h1, h2, _⟩ := delta_cells (cx.phi.1.2 X hXm)
      exact ⟨h1, h2⟩
    clear cx
    refine exI_mk (fun kI tm rp rn rc nn R' Φ' k => ∃ j : Nat, kI = j ∧ 1 ≤ j ∧ i + j ≤ es.length ∧ tm = X.d.time ∧ rp = X.p ∧ rn = X.d.row.length ∧ rc = X.c ∧ nn = findP (((es.drop i).take j).map DE.d) X.d.key ∧ (∀ y ∈ (es.drop i).take j, y.d.key = X.d.key) ∧ R' = bufE op oc outs :: bufE (some ⟨g, 0, none⟩) cap1 es :: R ∧ Φ' = (fun M w => (Φ M w ∧ EPhi es M w) ∧ EPhi outs M w) ∧ k = es.length - i - j)
      ⟨⟨_, _, _, hstP, fun w G cx => cx, 1, rfl, Nat.le_refl _, hlt, rfl, rfl, rfl, rfl, ?_, ?_, rfl, rfl, rfl⟩, ?_⟩
    · rw [hdX]
      show X.d.n = w64 ((if X.d.key = X.d.key then X.d.n else 0) + 0)
      rw [if_pos rfl, Int.add_zero, w64_id hIn]
    · rw [hdX]
      intro y hy
      simp at hy
      rw [hy]
    rintro kI _ _ _ _ nn R2 Φ2 k _ ⟨j, rfl, hj1, hj2, rfl, rfl, rfl, rfl, hnn, hkeys, rfl, rfl, rfl⟩
    have hXlen : X.d.row.length ≤ 1000000 := hrowE X hXm
    refine ⟨_, _, hstP, fun w G cx => cx, Br.intro (fun hlt2 => ?_) (fun hge2 => ?_)⟩
    case' refine_2 =>
      have hgt : ∀ y ∈ es.drop (i + j), cmpK X.d.key y.d.key < 0 := by
        have hge2 := of_decide_eq_false hge2
        rw [List.drop_eq_nil_of_le (by omega)]
        intro y hy; cases hy
    case' refine_1 =>
      have hlt2 := of_decide_eq_true hlt2
      have hij : i + j < es.length := by omega
      obtain ⟨Y, hY⟩ : ∃ Y, es[i + j]? = some Y := ⟨_, List.getElem?_eq_getElem hij⟩
      have hYm : Y ∈ es := List.mem_of_getElem? hY
      have hcall : GivesIn (fun M w => (Φ M w ∧ EPhi es M w) ∧ EPhi outs M w) Tryz.prog F.delta_compare #[.agg #[.int .i64 X.d.time, .slice X.p X.d.row.length X.c, .int .i64 nn], Y.v] (.int .i64 (cmpD ⟨X.d.time, X.d.row, nn⟩ Y.d)) :=
        compareD_in ⟨X.d.time, X.d.row, nn⟩ Y.d X.p Y.p X.c Y.c (fun M w h => show Sl M w X.p X.d.row from delta_row (h.1.2 X hXm)) (fun M w h => delta_row (h.1.2 Y hYm)) (by show X.d.row.length ≤ _; omega)
      have hYr : ∀ {w : World} {G : List Own}, Ctx W w (bufE op oc outs :: bufE (some ⟨g, 0, none⟩) cap1 es :: R ++ G) (fun M w => (Φ M w ∧ EPhi es M w) ∧ EPhi outs M w) → RowAt w g (i * 3 + (j : Int).toNat * 3) Y.cells := fun cx => by
        rw [Int.toNat_natCast, ← Nat.add_mul]; exact e_row cx.swap hY
      refine ⟨by omega, ptrK_intro g (i * 3) rfl ⟨Y.d.time, Y.p, Y.d.row.length, Y.c, Y.d.n, fun w G cx => ⟨_, Y.p, _, Y.c, _, hYr cx, rfl⟩, fun w G cx => hcall.use cx fun w cx => ⟨_, rfl, bufE op oc outs :: bufE (some ⟨g, 0, none⟩) cap1 es :: R, _, hstP, cx, Br.intro (fun hc => ?_) (fun hc => ?_)⟩⟩⟩
    case' refine_1.refine_1 =>
      have hc := of_decide_eq_true hc
      rw [cmpD_key] at hc
      have hk := (cmpK_cmp.eq _ _).1 hc
      have hk' : Y.d.key = X.d.key := hk.symm
      have htk : (es.drop i).take (j + 1) = (es.drop i).take j ++ [Y] := by
        have hlt3 : j < (es.drop i).length := by rw [List.length_drop]; omega
        rw [List.take_succ_eq_append_getElem hlt3]
        congr 2
        rw [List.getElem_drop]
        rw [List.getElem?_eq_getElem hij] at hY
        exact Option.some.inj hY
      refine ⟨by omega, ptrK_intro g (i * 3) rfl fun w G cx => ⟨Y.d.n, cell3 (hYr cx), by unfold I64; omega, _, _, es.length - i - (j + 1), hstP, fun w G cx => cx, ⟨j + 1, by omega, by omega, by omega, rfl, rfl, rfl, rfl, ?_, ?_, rfl, rfl, rfl⟩, by omega⟩⟩
      · rw [htk, List.map_append, hnn]
        exact (find_snoc hk').symm
      · rw [htk]
        intro y hy
        rcases List.mem_append.1 hy with hy | hy
        · exact hkeys y hy
        · rw [List.mem_singleton.1 hy]; exact hk'
    case' refine_1.refine_2 =>
      have hgt : ∀ y ∈ es.drop (i + j), cmpK X.d.key y.d.key < 0 := by
        have hc := of_decide_eq_false hc
        rw [cmpD_key] at hc
        have hXi : es[i] = X := by rw [List.getElem?_eq_getElem hlt] at hX; exact Option.some.inj hX
        have hYi : es[i + j] = Y := by rw [List.getElem?_eq_getElem hij] at hY; exact Option.some.inj hY
        have h1 : leE es[i] es[i + j] := asc_le ordE ha (by omega) hij
        rw [hXi, hYi] at h1
        have h1 : cmpK X.d.key Y.d.key < 0 := by
          have h2 : cmpK X.d.key Y.d.key ≤ 0 := by rw [← cmpD_key]; exact h1
          have h3 : cmpK X.d.key Y.d.key ≠ 0 := hc
          omega
        intro y hy
        obtain ⟨q, hq, rfl⟩ := List.getElem_of_mem hy
        rw [List.length_drop] at hq
        rw [List.getElem_drop]
        have h2 : leE es[i + j] es[i + j + q] := asc_le ordE ha (by omega) (by omega)
        rw [hYi] at h2
        have h2 : cmpK Y.d.key es[i + j + q].d.key ≤ 0 := by rw [← cmpD_key]; exact h2
        rcases Int.lt_or_eq_of_le h2 with h3 | h3
        · exact cmpK_cmp.trans _ _ _ h1 h3
        · rw [← (cmpK_cmp.eq _ _).1 h3]; exact h1
      clear hc hcall hYr
    all_goals
      obtain ⟨hz, hnz⟩ := hco.step hXd (by omega) hj1 hkeys hnn hgt
      refine Br.intro (fun h0 => fun w G cx => ?_) (fun h0 => ⟨by omega, _, _, es.length - (i + j), hstP, fun w G cx => cx, ⟨i + j, outs, hz (by have := of_decide_eq_false h0; omega), by rw [Int.toNat_natCast]; omega, by rw [Int.toNat_natCast]; omega, fun g' hg' h => by cases hg'; rw [Int.toNat_natCast]; exact sub_at (by omega), rfl, rfl, rfl, rfl⟩, by omega⟩)
      have h0 : nn ≠ 0 := of_decide_eq_true h0
      have hco2 := hnz h0
      have hfew := hco.few
      refine (CloneV_in (Φ := fun M w => (Φ M w ∧ EPhi es M w) ∧ EPhi outs M w) X.p X.c X.d.row (fun M w h => delta_row (h.1.2 X hXm)) (by omega)).use cx fun q qc vc w cx => ?_
      obtain ⟨_, hq1, hq2⟩ := cx.bufLen 0 rfl
      obtain ⟨cx3, hs, _⟩ := Ctx.freeze (α := ValD) cx.fst cx.phi.2
      have hst2 : Stable (fun M w => (fun M w => (Φ M w ∧ EPhi es M w) ∧ EPhi outs M w) M w ∧ Sl M w q X.d.row) := inferInstance
      refine ⟨q, _, qc, rfl, bufE op oc outs :: bufE (some ⟨g, 0, none⟩) cap1 es :: R, _, hst2, cx3.add hs, fun k w G cx => ?_⟩
      obtain ⟨p', cap', w', hrun, _, cx'⟩ := Ctx.app1 (P := Tryz.prog) (ts := 45) (ty := 45) (kb := #[false, false]) (size := 3) (bytes := 40) cx (by kernel_rfl) (by omega) rfl rfl (by omega) (by omega)
      have hcells : cellsE outs ++ [.int .i64 X.d.time, .slice q X.d.row.length qc, .int .i64 nn] = cellsE (outs ++ [⟨⟨X.d.time, X.d.row, nn⟩, q, qc⟩]) := by rw [cellsE_app]; rfl
      have hlen1 : outs.length + 1 = (outs ++ [(⟨⟨X.d.time, X.d.row, nn⟩, q, qc⟩ : DE)]).length := by simp
      have hnI : I64 nn := by rw [hnn]; exact w64_in _
      have hst3 : Stable (fun M w => (Φ M w ∧ EPhi es M w) ∧ EPhi (outs ++ [(⟨⟨X.d.time, X.d.row, nn⟩, q, qc⟩ : DE)]) M w) := inferInstance
      rw [hcells, hlen1] at cx'
      refine ⟨p', _, cap', w', hrun, bufE p' cap' (outs ++ [(⟨⟨X.d.time, X.d.row, nn⟩, q, qc⟩ : DE)]) :: bufE (some ⟨g, 0, none⟩) cap1 es :: R, _, hst3, cx'.weak fun M w h => ⟨h.1.1, fun x hx => ?_⟩, by omega, _, _, es.length - (i + j), hst3, fun w G cx => cx, ⟨i + j, _, hco2 q qc, by rw [Int.toNat_natCast]; omega, by rw [Int.toNat_natCast]; omega, fun g' hg' h => by cases hg'; rw [Int.toNat_natCast]; exact sub_at (by omega), hlen1, rfl, rfl, rfl⟩, by omega⟩
      rcases List.mem_append.1 hx with hx | hx
      · exact h.1.2 x hx
      · rw [List.mem_singleton.1 hx]
        exact rep_delta hq1 hq2 hIt hnI h.2
  · have hge := of_decide_eq_false hge
    have hi : i = es.length := by omega
    have hnorm := hco.norm
    have hfi := hco.find
    rw [hi, List.drop_length] at hfi
    have hc : consP l = outs.map DE.d := consP_is hnorm fun k => by have := hfi k; rw [List.map_nil, List.append_nil] at this; exact this
    have hol : (consP l).length = outs.length := by rw [hc, List.length_map]
    refine ⟨op, oc, cellsE outs, by rw [hol], ?_⟩
    have hstP : Stable (fun M w => (Φ M w ∧ EPhi es M w) ∧ EPhi outs M w) := inferInstance
    have cx3 : Ctx W w (bufE op oc outs :: R) (fun M w => (Φ M w ∧ EPhi es M w) ∧ EPhi outs M w) := (cx.left.swap).drop1
    rw [hol]
    exact cx3.weak fun M w h => ⟨h.1.1, by rw [hc]; exact e_elems h.2⟩
end Go.Proofs.YtemhapmbcbbljaaGreatDoor
end

section
namespace Go.Proofs.YtemhapmbcbbljaaGreatDoor
open Go.Vc
theorem new_sl {Φ : PW} [Stable Φ] {P : Program} {f : FuncId} {args : Array Value} {l : List DeltaD} (h : GivesNew Φ P f args l 71) : GivesSl Φ P f args l id :=
  ⟨fun W w S c => (h.go W w S c).mono fun e w' ⟨p, cap, cs, he, cx⟩ => by
    obtain ⟨_, h1, h2⟩ := cx.bufLen 0 rfl
    obtain ⟨cx3, hs, _⟩ := Ctx.freeze (α := DeltaD) cx.fst cx.phi.2
    exact ⟨p, cap, he, h1, h2, cx3.add hs⟩⟩
theorem Consolidate_sl {Φ : PW} [Stable Φ] (p : Option Addr) (cap : Nat) (l : List DeltaD) (hΦ : ∀ M w, Φ M w → Sl M w p l) (hlen : l.length ≤ 1000000) (hrow : ∀ x ∈ l, x.row.length ≤ 1000000) : GivesSl Φ Tryz.prog F.delta_Consolidate #[.slice p l.length cap] (consP l) id :=
  new_sl (Consolidate_new p cap l hΦ hlen hrow)
theorem insD_row (x : DeltaD) {P : List ValD → Prop} (hx : P x.row) : ∀ {c : List DeltaD}, (∀ y ∈ c, P y.row) → ∀ z ∈ insD x c, P z.row
  | [], _, z, hz => by
    unfold insD at hz
    split at hz
    · cases hz
    · rw [List.mem_singleton.1 hz]; exact hx
  | y :: t, h, z, hz => by
    have hy := h y (by simp)
    have ht : ∀ q ∈ t, P q.row := fun q hq => h q (by simp [hq])
    unfold insD at hz
    split at hz
    · split at hz
      · exact h z hz
      · rcases List.mem_cons.1 hz with rfl | hz
        · exact hx
        · exact h z hz
    · split at hz
      · split at hz
        · exact ht z hz
        · rcases List.mem_cons.1 hz with rfl | hz
          · exact hy
          · exact ht z hz
      · rcases List.mem_cons.1 hz with rfl | hz
        · exact hy
        · exact insD_row x hx ht z hz
theorem consP_row {P : List ValD → Prop} : ∀ {l : List DeltaD}, (∀ x ∈ l, P x.row) → ∀ z ∈ consP l, P z.row
  | [], _, z, hz => by cases hz
  | x :: l, h, z, hz => insD_row x (h x (by simp)) (consP_row fun y hy => h y (by simp [hy])) z hz
def negD (x : DeltaD) : DeltaD := ⟨x.time, x.row, w64 (0 - x.n)⟩
def subP (a b : List DeltaD) : List DeltaD := consP (a ++ b.map negD)
theorem delta_iff {x y : DeltaD} : x = y ↔ (x.time = y.time ∧ (x.row = y.row ∧ x.n = y.n)) := by cases x; cases y; simp
instance : DecidableEq DeltaD := fun _ _ => decidable_of_iff _ delta_iff.symm
end Go.Proofs.YtemhapmbcbbljaaGreatDoor
end

section
namespace Go.Vc
section
variable {W w : World} {S : List Own} {Φ : PW}
theorem Ctx.appAny [Stable Φ] {P : Program} {α : Type} [Gv α] {q : Option Addr} {l : List α} {c2 : Nat} {p : Option Addr} {n cap : Nat} {cs : List Value} {t : TypeId} {bytes : Nat} (c : Ctx W w (.buf p n cap cs t (Gv.ty α).size :: S) Φ)
    {ts ty : TypeId} {kb : Array Bool} (hb : appB P ts t (Gv.ty α).size bytes = true) (h1 : ∀ M w cs (x : α), Gv.rep M w cs x → (cs.all fun u => oneC u) = true) (hsl : ∀ M w, Φ M w → Sl M w q l) (hlen : n + l.length < 100000000) (hbytes : bytes ≤ 1000) :
    ∃ p' cap' w' news, Sem.run P (builtin Builtin.append #[ts, ts] ty kb #[.slice p n cap, .slice q l.length c2]) w = .ok (.value (.slice p' (n + l.length) cap')) w' ∧
      Ctx W w' (.buf p' (n + l.length) cap' (cs ++ news) t (Gv.ty α).size :: S) (fun M w => Φ M w ∧ Elems M w news l) := by
  rcases Nat.eq_zero_or_pos l.length with h0 | h0
  · obtain ⟨i, z, e1, e2, e3, e4, e5, e6⟩ := appB_out hb
    have hl : l = [] := List.eq_nil_of_length_eq_zero h0
    subst hl
    refine ⟨p, cap, w, [], run_app (c.append0 0 rfl e1 e2 q c2), ?_⟩
    rw [List.append_nil]
    exact c.add Elems.nil
  · obtain ⟨p', cap', w', news, h2, _, c3⟩ := c.appSl (ty := ty) (kb := kb) (c2 := c2) hb h1 hsl h0 hlen hbytes
    exact ⟨p', cap', w', news, h2, c3⟩
end
end Go.Vc
namespace Go.Proofs.YtemhapmbcbbljaaGreatDoor
open Go.Vc
end Go.Proofs.YtemhapmbcbbljaaGreatDoor
end

section
namespace Go.Proofs.YtemhapmbcbbljaaGreatDoor
open Go.Vc
def newOk (kind : Int) (key : List Int) : Bool := !decide (kind < 0) && (!decide (3 ≤ kind) && (!decide ((0 : Int) < key.length) || (decide (kind = 1) && !decide (minZ key < 0))))
abbrev newK (kind : Int) (key : List Int) : SkD := ⟨kind, key, [], [], 0, []⟩
theorem skq_of {q : KP} {st : SkD} {W w : World} {S : List Own} {Φ : PW} (c : Ctx W w (SkO q st ++ S) Φ) (hk : st.key.length ≤ q.kc ∧ q.kc ≤ maxLen) (ha : st.aside.length ≤ q.ac ∧ q.ac ≤ maxLen) : SkQ q st where
  lpt := fun h => by
    obtain ⟨g, hg, _⟩ := c.bufCell 2 rfl (by rw [(c.bufLen 2 rfl).1]; omega)
    exact ⟨g, hg⟩
  bpt := fun h => by
    obtain ⟨g, hg, _⟩ := c.bufCell 1 rfl (by rw [(c.bufLen 1 rfl).1]; omega)
    exact ⟨g, hg⟩
  lcap := (c.bufLen 2 rfl).2
  bcap := (c.bufLen 1 rfl).2
  kcap := hk
  acap := ha
  len := (c.bufLen 2 rfl).1
section
variable {Φ : PW} {q : KP} {st : SkD} {W w : World} {R S G : List Own} {p : Option Addr} {cap : Nat} {l : List LineD} {cs : List Value}
set_option maxHeartbeats 1000000 in
theorem CloneK_new [Stable Φ] (src : Src S Φ p l cs) (hlen : l.length ≤ 1000000) (hrow : ∀ x ∈ l, x.row.length ≤ 1000000) (c : Ctx W w S Φ) :
    Calls Tryz.prog F.sink_clone #[.slice p l.length cap] w fun e w' => ∃ p' c' cs', e = .returned (.slice p' l.length c') ∧ Ctx W w' (bufL p' l.length c' cs' :: S) (fun M w => Φ M w ∧ Elems M w cs' l) := by
  refine (Bsink_clone_run p l.length cap (J := fun v w' => ∃ p' c' cs', v = .slice p' l.length c' ∧ Ctx W w' (bufL p' l.length c' cs' :: S) (fun M w => Φ M w ∧ Elems M w cs' l)) c ?_).mono fun e w' ⟨v, he, p', c', cs', hv, rest⟩ => ⟨p', c', cs', by rw [he, hv], rest⟩
  clear c
  refine fun w G c => (CloneL_new (S := S ++ G) src.app hlen c).mono fun e w' ⟨p1, c1, cs1, he, cx⟩ => ⟨p1, l.length, c1, he, bufL p1 l.length c1 cs1 :: S, (fun M w => Φ M w ∧ Elems M w cs1 l), inferInstance, cx, ?_⟩
  clear c
  have hel := cx.phi.2
  have hpt : 0 < l.length → ∃ g, p1 = some ⟨g, 0, none⟩ := fun h0 => l_ptr cx (by rw [elems_len7 hel]; omega)
  clear cx hel
  refine exI_mk (fun iI R' Φ' m => ∃ i cs2, iI = (i : Nat) ∧ i ≤ l.length ∧ R' = bufL p1 l.length c1 cs2 :: S ∧ Φ' = (fun M w => Φ M w ∧ Elems M w cs2 l) ∧ m = l.length - i) ⟨⟨_, _, _, instStableAnd Φ (fun M w => Elems M w cs1 l), fun w G cx => cx, 0, cs1, rfl, Nat.zero_le _, rfl, rfl, rfl⟩, ?_⟩
  rintro iI R1 Φ1 m _ ⟨i, cs2, rfl, hi, rfl, rfl, rfl⟩
  refine Br.intro (fun hlt => ?_) (fun hge => fun w G cx => ⟨p1, c1, cs2, rfl, cx.left⟩)
  have hlt : i < l.length := by have := of_decide_eq_true hlt; omega
  obtain ⟨g, rfl⟩ := hpt (by omega)
  have hst : Stable (fun M w => Φ M w ∧ Elems M w cs2 l) := instStableAnd Φ (fun M w => Elems M w cs2 l)
  refine ⟨by omega, ptrK_intro g 0 rfl fun w G cx => ?_⟩
  obtain ⟨p0, c0, hp, _, _, _, _⟩ := lrow cx.phi.2 hlt
  refine ⟨l[i].no, l[i].batch, l[i].time, p0, l[i].row.length, c0, l[i].n, l[i].cause, l[i].why, ?_, fun _ w G cx => ?_⟩
  · have := l_at (W := W) (w := w) (Φ := fun M w => Φ M w ∧ Elems M w cs2 l) (S := S ++ G) cx hp
    rw [show 0 + (i : Int).toNat * 7 = i * 7 by omega]
    exact this
  have hrd : ∀ M w, (Φ M w ∧ Elems M w cs2 l) → Sl M w p0 l[i].row := fun M w h => by
    have := h.2.2 i hlt
    rw [show (Gv.ty LineD).size = 7 from rfl, hp] at this
    exact line_row this
  have hh : Has (fun M w => Φ M w ∧ Elems M w cs2 l) (fun M w => Sl M w p0 l[i].row) := ⟨hrd⟩
  refine (CloneV_sl (r := l[i].row) (hrow _ (List.getElem_mem _))).to cx fun p3 c3 f1 f2 st3 => ?_
  clear cx
  refine ⟨by omega, ptrK_intro g 0 rfl fun w G cx => ⟨?_, fun w2 hw2 => ?_⟩⟩
  · have hl := elems_len7 cx.phi.1.2
    exact l_can (S := S ++ G) cx (by omega)
  · have cx2 : Ctx W w (bufL (some ⟨g, 0, none⟩) l.length c1 cs2 :: (S ++ G)) (fun M w => (Φ M w ∧ Sl M w p3 l[i].row) ∧ Elems M w cs2 l) := cx.weak fun M w h => ⟨⟨h.1.1, h.2⟩, h.1.2⟩
    have st5 : Stable (fun M w => Sl M w p3 l[i].row) := instStableSl p3 l[i].row
    have st4 : Stable (fun M w => Φ M w ∧ Sl M w p3 l[i].row) := @instStableAnd Φ (fun M w => Sl M w p3 l[i].row) _ st5
    obtain ⟨cs3, cx3⟩ := l_row (w' := w2) (Φ := fun M w => Φ M w ∧ Sl M w p3 l[i].row) cx2 hlt f1 f2 (fun M w h => h.2) (by rw [hw2]; congr 2; omega)
    exact ⟨bufL (some ⟨g, 0, none⟩) l.length c1 cs3 :: S, _, instStableAnd Φ (fun M w => Elems M w cs3 l), cx3.weak fun M w h => ⟨h.1.1, h.2⟩, by unfold I64; omega, _, _, l.length - (i + 1), instStableAnd Φ (fun M w => Elems M w cs3 l), fun w G cx => cx, ⟨i + 1, cs3, rfl, hlt, rfl, rfl, rfl⟩, by omega⟩
theorem CloneK_sl [Stable Φ] [hΦ : Has Φ (fun M w => Sl M w p l)] (hlen : l.length ≤ 1000000) (hrow : ∀ x ∈ l, x.row.length ≤ 1000000) : GivesSl Φ Tryz.prog F.sink_clone #[.slice p l.length cap] l id :=
  .there (fun M w h => (hΦ.go M w h).there) fun hth => ⟨fun W w S c => by
    obtain ⟨cs, c1⟩ := srcOf c (hΦ.go _ _ c.phi)
    refine (CloneK_new (S := S) (Φ := fun M w => Φ M w ∧ SrcF p l cs M w) (src_fact (Φ := fun M w => Φ M w ∧ SrcF p l cs M w) hth (fun M w h => h.2)).app hlen hrow c1).mono fun e w' ⟨p', c', cs', he, cx⟩ => ?_
    obtain ⟨c2, hs, _, h2, h3⟩ := Ctx.freeze (α := LineD) cx cx.phi.2
    exact ⟨p', c', he, h2, h3, (c2.add hs).weak fun M w h => ⟨h.1.1.1, h.2⟩⟩⟩
theorem CloneZ_sl [Stable Φ] {l : List Int} [hΦ : Has Φ (fun M w => Sl M w p l)] (hlen : l.length ≤ 10000000) : GivesSl Φ Tryz.prog F.slices_Clone_int_int #[.slice p l.length cap] l id :=
  ⟨fun W w S c => (CloneZ_in (Φ := Φ) (cap := cap) hΦ.go (by omega)).use c fun p1 cap1 ds w cx => by
    obtain ⟨c2, hs, _, h2, h3⟩ := Ctx.freeze (α := Int) cx cx.phi.2
    exact ⟨p1, cap1, rfl, h2, h3, (c2.add hs).weak fun M w h => ⟨h.1.1, h.2⟩⟩⟩
theorem new_i (kind : Int) (key : List Int) : SkI (newK kind key) := ⟨List.Pairwise.nil, by simp, by simp, by simp⟩
theorem New_to [Stable Φ] {kind : Int} {key : List Int} [hΦ : Has Φ (fun M w => Sl M w p key)] (hlen : key.length ≤ 10000000) (c : Ctx W w (R ++ G) Φ) {K : Option Addr → List Own → PW → Prop}
    (h0 : newOk kind key = false → K none R Φ)
    (h1 : ∀ q : KP, newOk kind key = true → SkQ q (newK kind key) → Stable (fun M w => Φ M w ∧ SkF q (newK kind key) M w) → K (some ⟨q.sb, 0, none⟩) (SkO q (newK kind key) ++ R) (fun M w => Φ M w ∧ SkF q (newK kind key) M w)) :
    Calls Tryz.prog F.sink_New #[.int .i64 kind, .slice p key.length cap] w fun e w' => ∃ p, e = .returned (.pointer p) ∧ ∃ R' Φ', Stable Φ' ∧ Ctx W w' (R' ++ G) Φ' ∧ K p R' Φ' := by
  refine (Bsink_New_run kind p key.length cap (R := R ++ G) (J := fun v w' => ∃ p, v = .pointer p ∧ ∃ R' Φ', Stable Φ' ∧ Ctx W w' (R' ++ G) Φ' ∧ K p R' Φ') c ?_).mono fun e w' ⟨v, he, p, hv, rest⟩ => ⟨p, by rw [he, hv], rest⟩
  clear c
  have bad : newOk kind key = false → ∀ {w : World} {G2 : List Own}, Ctx W w ((R ++ G) ++ G2) Φ → ∃ p, Value.pointer none = .pointer p ∧ ∃ R' Φ', Stable Φ' ∧ Ctx W w (R' ++ G) Φ' ∧ K p R' Φ' := fun h {w G2} cx => ⟨none, rfl, R, Φ, inferInstance, cx.left, h0 h⟩
  have good : newOk kind key = true → ∀ {w : World} {G2 : List Own}, Ctx W w ((R ++ G) ++ G2) Φ → Calls Tryz.prog F.slices_Clone_int_int #[.slice p key.length cap] w fun e17 w18 => ∃ (p19 : Option Addr), ∃ (k20 : Nat), ∃ (k21 : Nat), e17 = .returned (.slice p19 k20 k21) ∧ ∃ (R22 : List Own), ∃ (Φ23 : PW), Stable Φ23 ∧ Ctx W w18 (R22 ++ G2) Φ23 ∧ ∀ (k24 : Nat) (w25 : World) (R26 : List Own), Ctx W w25 (Own.blk k24 [.int .i64 kind, .slice p19 k20 k21, .slice none 0 0, .slice none 0 0, .int .i64 0, .slice none 0 0] 57 :: R22 ++ R26) Φ23 → ∃ p, Value.pointer (some (Addr.mk k24 0 none)) = .pointer p ∧ ∃ R' Φ', Stable Φ' ∧ Ctx W w25 (R' ++ G) Φ' ∧ K p R' Φ' := fun h {w G2} cx => by
    refine (CloneZ_sl (l := key) hlen).to cx fun p1 c1 g1 g2 st1 => ?_
    intro k w3 G3 cx
    have cx := Ctx.left (S := .blk k _ 57 :: (R ++ G)) (F := G3) cx
    have c2 := (cx.nobuf 51 7).nobuf 3 1
    obtain ⟨q, hqe⟩ : ∃ q : KP, q = ⟨k, p1, c1, none, 0, none, 0, [], none, 0⟩ := ⟨_, rfl⟩
    have c3 : Ctx W w3 ((SkO q (newK kind key) ++ R) ++ G) (fun M w => Φ M w ∧ SkF q (newK kind key) M w) := by
      rw [hqe]
      refine Ctx.weak (Φ := fun M w => Φ M w ∧ Sl M w p1 key) (c2.perm ?_) fun M w h => ⟨h.1, Elems.nil, h.2, fun i hi => absurd hi (by simp)⟩
      exact (List.Perm.trans (List.perm_middle (l₁ := [_, _]) (a := _)) (List.Perm.refl _))
    have hq : SkQ q (newK kind key) := skq_of (S := R ++ G) (c3.re (by simp)) (by rw [hqe]; exact ⟨g1, g2⟩) (by rw [hqe]; exact ⟨Nat.le_refl _, Nat.zero_le _⟩)
    have := h1 q h hq inferInstance
    refine ⟨some ⟨k, 0, none⟩, rfl, SkO q (newK kind key) ++ R, _, inferInstance, c3, ?_⟩
    rw [show k = q.sb by rw [hqe]]
    exact this
  unfold newOk at bad good
  refine Br.intro (fun h => fun w G2 cx => bad (by rw [h]; rfl) cx) (fun a1 => ?_)
  rw [a1] at bad good
  refine Br.intro (fun h => fun w G2 cx => bad (by rw [h]; rfl) cx) (fun a2 => ?_)
  rw [a2] at bad good
  refine Br.intro (fun h3 => ?_) (fun h3 => fun w G2 cx => good (by rw [h3]; rfl) cx)
  rw [h3] at bad good
  refine Br.intro (fun h => fun w G2 cx => bad (by rw [decide_eq_false (of_decide_eq_true h)]; rfl) cx) (fun a4 => fun w G2 cx => ?_)
  have h3 := of_decide_eq_true h3
  rw [decide_eq_true (Decidable.not_not.1 (of_decide_eq_false a4))] at bad good
  refine (Min_in (l := key) (by omega) hlen).toI cx ?_
  clear cx
  exact Br.intro (fun h => fun w G2 cx => bad (by rw [h]; rfl) cx) (fun a5 => fun w G2 cx => good (by rw [a5]; rfl) cx)
theorem src_sk (hq : SkQ q st) (hF : ∀ M w, Φ M w → Elems M w q.cs st.lines) : Src (SkO q st) Φ q.lp st.lines q.cs where
  ptr := fun h => by obtain ⟨g, hg⟩ := hq.lpt h; exact ⟨g, 0, hg⟩
  rd := fun {W w G b o} e c j v hj => by
    have hjl : j < q.cs.length := (List.getElem?_eq_some_iff.1 hj).1
    have := hq.len
    obtain ⟨g, hg⟩ := hq.lpt (by omega)
    rw [hg] at e
    cases e
    rw [Nat.zero_add]
    exact c.bufGet 2 rfl hg hj
  el := fun M w h => hF M w h
theorem List_sl [Stable Φ] [hF : Has Φ (SkF q st)] (hq : SkQ q st) (hI : SkI st) {n : Nat} (hs : SkS st n) (hn : n ≤ 400000) : GivesQSl (SkO q st) Φ Tryz.prog F.sink_Sink_List #[snk q] st.lines := by
  have hl := hs.lines
  exact gives_qsl (Bsink_Sink_List_run q.sb 0) fun W R => fun w G cx => ⟨_, _, _, sk_cell (i := 3) cx rfl, fun w G cx =>
    (CloneK_new (S := (SkO q st ++ R) ++ G) (src_sk (Φ := Φ) hq fun M w h => (hF.go M w h).1).app.app (by omega) (fun x hx => by have := right_len (hI.row x hx); omega) cx).mono fun e w' ⟨p', c', cs', he, cx⟩ => by
      obtain ⟨c2, hs, _, h2, h3⟩ := Ctx.freeze (α := LineD) cx cx.phi.2
      exact ⟨p', _, c', he, (SkO q st ++ R), _, inferInstance, (c2.add hs).weak fun M w h => ⟨h.1.1, h.2⟩, fun w G cx => ⟨p', c', rfl, h2, h3, cx.left⟩⟩⟩
end
end Go.Proofs.YtemhapmbcbbljaaGreatDoor
end

