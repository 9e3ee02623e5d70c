/-
  Consolidated lists of deltas (in plain Lean).
-/
import Derived.Test.YtfccagphnfceiaaDoorJLa4
import Derived.Lib.Strings
import Derived.Lib.Walk
import Derived.Lib.ItoaNum
import Derived.Shelf.Strconv.AtoiAll
import Derived.Shelf.Small.Wraps
import Derived.Stop.IfaceNil
import Derived.Lib.AtoiErrMem
import Derived.Lib.AtoiAllCases

section
set_option linter.unusedVariables false
set_option linter.unusedSimpArgs false
namespace Go.Proofs.YtfccagphnfceiaaDoor
open Go.Vc

/-! ### sums that wrap round -/
abbrev w64 (x : Int) : Int := IntKind.i64.wrap x
/-! ### the consolidated form -/
structure Norm (c : List DeltaD) : Prop where
  asc : c.Pairwise fun x y => cmpD x y < 0
  nz : ∀ x ∈ c, x.n ≠ 0
  i64 : ∀ x ∈ c, I64 x.n

theorem Norm.nil : Norm [] := ⟨List.Pairwise.nil, by simp, by simp⟩
theorem Norm.tail {x : DeltaD} {c : List DeltaD} (h : Norm (x :: c)) : Norm c := ⟨(List.pairwise_cons.1 h.asc).2, fun y hy => h.nz y (by simp [hy]), fun y hy => h.i64 y (by simp [hy])⟩
theorem Norm.head {x : DeltaD} {c : List DeltaD} (h : Norm (x :: c)) : ∀ y ∈ c, cmpK x.key y.key < 0 := fun y hy => by
  rw [← cmpD_key]; exact (List.pairwise_cons.1 h.asc).1 y hy
theorem Norm.cons {x : DeltaD} {c : List DeltaD} (h : Norm c) (h1 : ∀ y ∈ c, cmpK x.key y.key < 0) (h2 : x.n ≠ 0) (h3 : I64 x.n) : Norm (x :: c) :=
  ⟨List.pairwise_cons.2 ⟨fun y hy => by rw [cmpD_key]; exact h1 y hy, h.asc⟩, fun y hy => by rcases List.mem_cons.1 hy with rfl | hy; exact h2; exact h.nz y hy, fun y hy => by rcases List.mem_cons.1 hy with rfl | hy; exact h3; exact h.i64 y hy⟩

end Go.Proofs.YtfccagphnfceiaaDoor
end

/-
  Deltas as they lie in memory.
-/
section
set_option linter.unusedVariables false
set_option linter.unusedSimpArgs false
namespace Go.Proofs.YtfccagphnfceiaaDoor
open Go.Vc

abbrev DeltaD.v (x : DeltaD) (p : Option Addr) (c : Nat) : Value := .agg #[.int .i64 x.time, .slice p x.row.length c, .int .i64 x.n]
abbrev DeltaD.cells (x : DeltaD) (p : Option Addr) (c : Nat) : List Value := [.int .i64 x.time, .slice p x.row.length c, .int .i64 x.n]

/-- a delta, and where its row lies -/
structure DE where
  d : DeltaD
  p : Option Addr
  c : Nat
abbrev DE.cells (x : DE) : List Value := x.d.cells x.p x.c
abbrev DE.v (x : DE) : Value := x.d.v x.p x.c

/-- what the elements are -/
def EPhi (es : List DE) : PW := fun M w => ∀ x ∈ es, Gv.rep M w x.cells x.d
instance instStableEPhi (es : List DE) : Stable (EPhi es) := ⟨fun hs h x hx => Gv.stable hs (h x hx)⟩

end Go.Proofs.YtfccagphnfceiaaDoor
end

/-
  The sort's steps over deltas: swapRange, rotate.
-/
section
set_option linter.unusedVariables false
set_option linter.unusedSimpArgs false
namespace Go.Proofs.YtfccagphnfceiaaDoor
open Go.Vc


/-! ### swapRange -/
end Go.Proofs.YtfccagphnfceiaaDoor
end

/-
  The sort's steps over deltas: rotate, insertionSort.
-/
section
set_option linter.unusedVariables false
set_option linter.unusedSimpArgs false
namespace Go.Proofs.YtfccagphnfceiaaDoor
open Go.Vc


/-! ### rotate -/
/-! ### the order -/
/-! ### insertionSort -/
end Go.Proofs.YtfccagphnfceiaaDoor
end

/-
  The sort's steps over deltas: symMerge.
-/
section
set_option linter.unusedVariables false
set_option linter.unusedSimpArgs false
namespace Go.Proofs.YtfccagphnfceiaaDoor
open Go.Vc


/-! ### one element into those behind it -/
/-! ### one element into those ahead of it -/
end Go.Proofs.YtfccagphnfceiaaDoor
end

/-
  The sort's steps over deltas: symMerge, whole.
-/
section
set_option linter.unusedVariables false
set_option linter.unusedSimpArgs false
namespace Go.Proofs.YtfccagphnfceiaaDoor
open Go.Vc


end Go.Proofs.YtfccagphnfceiaaDoor
end

/-
  The stable sort of deltas.
-/
section
set_option linter.unusedVariables false
set_option linter.unusedSimpArgs false
namespace Go.Proofs.YtfccagphnfceiaaDoor
open Go.Vc


end Go.Proofs.YtfccagphnfceiaaDoor
end

/-
  The walks of the comparisons of values, rows and deltas; of Clone.
-/
section
set_option linter.unusedVariables false
set_option linter.unusedSimpArgs false
namespace Go.Proofs.YtfccagphnfceiaaDoor
open Go.Vc


/-! ### deltas -/
end Go.Proofs.YtfccagphnfceiaaDoor
end

/-
  The encodings of ints, texts, values and rows: in plain Lean, and walked.
-/
section
set_option linter.unusedVariables false
set_option linter.unusedSimpArgs false
namespace Go.Vc
end Go.Vc
namespace Go.Proofs.YtfccagphnfceiaaDoor
open Go.Vc

/-! ### in plain Lean -/
def numB (n : Int) : ByteArray := ⟨(Lib.itoa n).toArray⟩
def intB (n : Int) : ByteArray := numB n ++ ByteArray.mk #[59]
def natB (n : Int) : ByteArray := if n < 0 then ByteArray.mk #[] else intB n
def textB (s : ByteArray) : ByteArray := numB s.size ++ ByteArray.mk #[58] ++ s ++ ByteArray.mk #[44]
theorem size_app (a b : ByteArray) : (a ++ b).size = a.size + b.size := ByteArray.size_append
theorem size_list (l : List UInt8) : (ByteArray.mk l.toArray).size = l.length := by simp [ByteArray.size]
theorem list_size (a : ByteArray) : a.data.toList.length = a.size := by rw [Array.length_toList]; rfl

theorem nDigits_le : ∀ (k u : Nat), u < 10 ^ k → 0 < k → Lib.nDigits u ≤ k
  | 0, u, _, h => by omega
  | k + 1, u, h, _ => by
    by_cases h1 : u < 10
    · rw [Lib.nDigits_small h1]; omega
    · rw [Lib.nDigits_big h1]
      have hk : 0 < k := by
        rcases Nat.eq_zero_or_pos k with rfl | h2
        · simp at h; omega
        · exact h2
      have := nDigits_le k (u / 10) (by rw [Nat.pow_succ] at h; omega) hk
      omega

theorem itoa_len {n : Int} (h : I64 n) : 1 ≤ (Lib.itoa n).length ∧ (Lib.itoa n).length ≤ 20 := by
  unfold I64 at h
  unfold Lib.itoa
  split
  · have h1 := nDigits_le 19 n.natAbs (by omega) (by decide)
    have h2 := Lib.nDigits_pos n.natAbs
    rw [List.length_cons, Lib.decDigits_length]; omega
  · have h1 := nDigits_le 19 n.toNat (by omega) (by decide)
    have h2 := Lib.nDigits_pos n.toNat
    rw [Lib.decDigits_length]; omega

theorem numB_size {n : Int} (h : I64 n) : 1 ≤ (numB n).size ∧ (numB n).size ≤ 20 := by
  unfold numB; rw [size_list]; exact itoa_len h
theorem intB_size {n : Int} (h : I64 n) : 2 ≤ (intB n).size ∧ (intB n).size ≤ 21 := by
  have := numB_size h
  have e : (ByteArray.mk #[59]).size = 1 := rfl
  unfold intB; rw [size_app, e]; omega
theorem textB_size {s : ByteArray} (h : s.size ≤ 9223372036854775807) : (textB s).size ≤ s.size + 22 ∧ s.size + 3 ≤ (textB s).size := by
  have := numB_size (n := s.size) (by unfold I64; omega)
  have e : (ByteArray.mk #[58]).size = 1 := rfl
  have e2 : (ByteArray.mk #[44]).size = 1 := rfl
  unfold textB; rw [size_app, size_app, size_app, e, e2]; omega
/-! ### walked -/
abbrev tabN : String := ((Rows.journalReadsRow.laid.map Prod.fst).drop 2).headD default
/-- the table of the powers of ten lies there -/
abbrev TabI : PW := Tab Tryd.prog tabN .u64 Lib.pow10Tab

theorem Itoa_in {Φ : PW} [Stable Φ] (hΦ : ∀ M w, Φ M w → TabI M w) (n : Int) (h : I64 n) : GivesIn Φ Tryd.prog F.strconv_Itoa #[.int .i64 n] (.string (numB n)) :=
  itoa_in (name := tabN) (fun n h0 h1 w ht => Any.strconv_Itoa Tryd.laysM171 n h0 h1 w ht) hΦ n h

theorem Itoa_small (i : Nat) (hi : i < 100) : Gives Tryd.prog F.strconv_Itoa #[.int .i64 i] (.string (numB i)) :=
  Quiet.gives ⟨fun w => by
    have h := Any.strconv_Itoa_small { Tryd.lays171 with } i hi w
    rw [← Lib.itoa_nonneg] at h
    exact h⟩

/-- ints that the library writes: at these places, or small ones -/
def Dec (Φ : PW) (n : Int) : Prop := (∀ M w, Φ M w → TabI M w) ∧ I64 n ∨ ∃ i : Nat, i < 100 ∧ n = i

theorem Itoa_dec {Φ : PW} [Stable Φ] {n : Int} (h : Dec Φ n) : GivesIn Φ Tryd.prog F.strconv_Itoa #[.int .i64 n] (.string (numB n)) := by
  rcases h with ⟨h1, h2⟩ | ⟨i, hi, rfl⟩
  · exact Itoa_in h1 n h2
  · exact (Itoa_small i hi).in
theorem Dec.i64 {Φ : PW} {n : Int} (h : Dec Φ n) : I64 n := by
  rcases h with ⟨_, h2⟩ | ⟨i, hi, rfl⟩
  · exact h2
  · unfold I64; omega

theorem Int_in {Φ : PW} [Stable Φ] {n : Int} (h : Dec Φ n) : GivesIn Φ Tryd.prog F.wire_Int #[.int .i64 n] (.string (intB n)) := by
  refine gives_in (Bwire_Int_run n) fun W R => ?_
  have := numB_size h.i64
  exact fun w G cx => (Itoa_dec h).use cx fun w cx => ⟨_, rfl, R, Φ, inferInstance, cx, by show (numB n).size + 1 ≤ _; omega, fun w G cx => ⟨rfl, cx.left⟩⟩

theorem Text_in {Φ : PW} [Stable Φ] {s : ByteArray} (h : Dec Φ s.size) (hs : s.size ≤ 1000000000000000) : GivesIn Φ Tryd.prog F.wire_Text #[.string s] (.string (textB s)) := by
  refine gives_in (Bwire_Text_run s) fun W R => ?_
  have h1 := numB_size h.i64
  have e : (ByteArray.mk #[58]).size = 1 := rfl
  have e2 : (ByteArray.mk #[44]).size = 1 := rfl
  exact fun w G cx => (Itoa_dec h).use cx fun w cx => ⟨_, rfl, R, Φ, inferInstance, cx, by show (numB s.size).size + 1 ≤ _; omega, by show (numB s.size ++ ByteArray.mk #[58]).size + s.size ≤ _; rw [size_app, e]; omega, by show (numB s.size ++ ByteArray.mk #[58] ++ s).size + 1 ≤ _; rw [size_app, size_app, e]; omega, fun w G cx => ⟨rfl, cx.left⟩⟩

end Go.Proofs.YtfccagphnfceiaaDoor
end

/-
  STEPS of a walk: a call whose contract is known, and what follows it.
-/
section
set_option linter.unusedVariables false
set_option linter.unusedSimpArgs false
namespace Go.Vc

section
variable {P : Program} {W w : World} {R G : List Own} {Φ Ψ : PW} {f : FuncId} {args : Array Value}

/-- what is known holds this, too -/
class Has (Φ Ψ : PW) : Prop where
  go : ∀ M w, Φ M w → Ψ M w
instance (priority := 2000) hasRefl (Φ : PW) : Has Φ Φ := ⟨fun _ _ h => h⟩
instance (priority := 900) hasL (A B Ψ : PW) [h : Has A Ψ] : Has (fun M w => A M w ∧ B M w) Ψ := ⟨fun M w x => h.go M w x.1⟩
instance (priority := 1000) hasR (A B Ψ : PW) [h : Has B Ψ] : Has (fun M w => A M w ∧ B M w) Ψ := ⟨fun M w x => h.go M w x.2⟩
instance hasTrue (Φ : PW) : Has Φ (fun _ _ => True) := ⟨fun _ _ _ => trivial⟩
instance (priority := 800) hasAnd (Φ A B : PW) [h : Has Φ A] [k : Has Φ B] : Has Φ (fun M w => A M w ∧ B M w) := ⟨fun M w x => ⟨h.go M w x, k.go M w x⟩⟩

theorem Ctx.has (c : Ctx W w R Φ) [h : Has Φ Ψ] : Ctx W w R Ψ := c.weak h.go

theorem GivesSl.to [Stable Φ] {α : Type} [Gv α] {l : List α} (h : GivesSl Φ P f args l id) (c : Ctx W w (R ++ G) Φ) {K : Option Addr → Nat → Nat → List Own → PW → Prop}
    (hk : ∀ p cap, l.length ≤ cap → cap ≤ maxLen → Stable (fun M w => Φ M w ∧ Sl M w p l) → K p l.length cap R (fun M w => Φ M w ∧ Sl M w p l)) :
    Calls P f args w fun e w' => ∃ p n c, e = .returned (.slice p n c) ∧ ∃ R' Φ', Stable Φ' ∧ Ctx W w' (R' ++ G) Φ' ∧ K p n c R' Φ' :=
  h.use c fun p cap w' h1 h2 c => ⟨p, _, cap, rfl, R, _, inferInstance, c, hk p cap h1 h2 inferInstance⟩

theorem GivesIn.toI [Stable Φ] {n : Int} {k : IntKind} (h : GivesIn Φ P f args (.int k n)) (c : Ctx W w (R ++ G) Φ) {K : Int → List Own → PW → Prop} (hk : K n R Φ) :
    Calls P f args w fun e w' => ∃ c, e = .returned (.int k c) ∧ ∃ R' Φ', Stable Φ' ∧ Ctx W w' (R' ++ G) Φ' ∧ K c R' Φ' :=
  h.use c fun w' c => ⟨n, rfl, R, Φ, inferInstance, c, hk⟩
theorem GivesIn.toS [Stable Φ] {s : ByteArray} (h : GivesIn Φ P f args (.string s)) (c : Ctx W w (R ++ G) Φ) {K : ByteArray → List Own → PW → Prop} (hk : K s R Φ) :
    Calls P f args w fun e w' => ∃ c, e = .returned (.string c) ∧ ∃ R' Φ', Stable Φ' ∧ Ctx W w' (R' ++ G) Φ' ∧ K c R' Φ' :=
  h.use c fun w' c => ⟨s, rfl, R, Φ, inferInstance, c, hk⟩

/-- the end -/
theorem fin [Stable Φ] [Stable Ψ] [hw : Has Ψ Φ] {v : Value} (c : Ctx W w (R ++ G) Ψ) : v = v ∧ Ctx W w R Φ := ⟨rfl, (Ctx.has c).left⟩

end
end Go.Vc
end

/-
  The reader of encodings: in plain Lean, and walked.
-/
section
set_option linter.unusedVariables false
set_option linter.unusedSimpArgs false
namespace Go.Vc
/-- a variable that holds an error, or none, in a block that nobody writes -/
def ErrAt (g : Nat) : PW := fun M w => g ∉ M ∧ ∃ ev, w.cell? ⟨g, 0, none⟩ = some ev ∧ (ev = .nilIface ∨ ∃ te pe, ev = .iface te pe)
instance instStableErrAt (g : Nat) : Stable (ErrAt g) := ⟨fun {M M' w w'} hs ⟨h1, ev, h2, h3⟩ => by
  have hlt : g < w.heap.size := by
    rcases Nat.lt_or_ge g w.heap.size with h' | h'
    · exact h'
    · simp [World.cell?, Array.getElem?_eq_none h'] at h2
  refine ⟨fun hm => ?_, ev, hs.chg.cell h2 h1, h3⟩
  rcases hs.sub g hm with h | h
  · exact h1 h
  · omega⟩
theorem chg_below {w w' : World} (h : Go.RowKit.Below w.heap.size w w') : Chg [] w w' := ⟨h.os, h.tape, h.output, h.size, fun k hk _ => h.block k hk⟩
theorem eqGuard_iface {P : Program} {op : BinOp} {t : TypeId} {ox oy : Operand} {u : TypeId} {v : Value} (w : World) : (eqGuard op t ox oy (.iface u v) .nilIface).run P w = .ok () w := by
  unfold eqGuard
  cases op <;> rfl
theorem eqGuard_nil {P : Program} {op : BinOp} {t : TypeId} {k : Nat} {v : Value} (w : World) : (eqGuard op t (.tmp k) (.const v) .nilIface .nilIface).run P w = .ok () w := by
  unfold eqGuard
  cases op <;> rfl
theorem neq_nil {P : Program} {op : BinOp} {t t' : TypeId} {k : Nat} {v : Value} (ht : P.isIface t' = true) (w : World) : ((eqGuard op t (.tmp k) (.const v) .nilIface .nilIface) >>= fun _ => binOp .neq t' .nilIface .nilIface).run P w = .ok (.bool false) w := by
  rw [Sem.run_bind, eqGuard_nil]
  exact Go.run_neq_nil_nil_at w t' ht
theorem neq_err {P : Program} {op : BinOp} {t t' : TypeId} {ox oy : Operand} {u : TypeId} {v : Value} (ht : P.isIface t' = true) (w : World) : ((eqGuard op t ox oy (.iface u v) .nilIface) >>= fun _ => binOp .neq t' (.iface u v) .nilIface).run P w = .ok (.bool true) w := by
  rw [Sem.run_bind, eqGuard_iface]
  exact Go.run_neq_iface_nil w t' ht u v
end Go.Vc
namespace Go.Proofs.YtfccagphnfceiaaDoor
open Go.Vc


/-- what the reading of numbers looks at -/
def NumI : PW := fun M w => TabI M w ∧ ErrAt 3 M w ∧ ErrAt 4 M w
instance instStableNumI : Stable NumI := instStableAnd TabI (fun M w => ErrAt 3 M w ∧ ErrAt 4 M w)

/-! ### in plain Lean -/
def bs (l : List UInt8) : ByteArray := ⟨l.toArray⟩
theorem bs_list (l : List UInt8) : (bs l).data.toList = l := rfl
theorem bs_size (l : List UInt8) : (bs l).size = l.length := size_list l
theorem bs_ext (l : List UInt8) (a b : Nat) : (bs l).extract a b = bs ((l.drop a).take (b - a)) := by
  apply ByteArray.ext
  apply Array.toList_inj.1
  rw [ByteArray.data_extract, Array.toList_extract]
  rfl
theorem bs_inj {a b : List UInt8} : bs a = bs b ↔ a = b := ⟨fun h => by have := congrArg (fun x => x.data.toList) h; exact this, fun h => by rw [h]⟩
/-- what is left, and whether it has failed -/
abbrev RdS := List UInt8 × Bool
def numP (e : UInt8) (least : Int) (l : List UInt8) : Option (Int × List UInt8) :=
  let i := Lib.indexByte (l.take 21) e
  if i < 0 then none else match Lib.atoiAll (l.take i.toNat) with
    | .ok n => if Lib.itoa n = l.take i.toNat ∧ least ≤ n then some (n, l.drop (i.toNat + 1)) else none
    | _ => none
def stepN (e : UInt8) (least : Int) (st : RdS) : Int × RdS := match numP e least st.1 with
  | some (n, r) => (n, (r, st.2))
  | none => (0, ([], true))
def stepC (c : UInt8) (st : RdS) : RdS := match st.1 with
  | [] => ([], true)
  | x :: r => if x = c then (r, st.2) else ([], true)
def stepT (st : RdS) : ByteArray × RdS :=
  let a := stepN 58 0 st
  if (a.2.1.length : Int) < a.1 then (ByteArray.mk #[], ([], true)) else
    let c := stepC 44 (a.2.1.drop a.1.toNat, a.2.2)
    (if c.2 then ByteArray.mk #[] else bs (a.2.1.take a.1.toNat), c)

theorem at_of_split {l r : List UInt8} {i : Nat} {e : UInt8} (h : l.take i ++ e :: r = l) (hi : i < l.length) : l[i]? = some e := by
  have hl : (l.take i).length = i := by rw [List.length_take]; omega
  rw [← h, List.getElem?_append_right (by omega), hl, Nat.sub_self]
  rfl
theorem index_neg : ∀ (l : List UInt8) (c : UInt8), -1 ≤ Lib.indexByte l c ∧ (Lib.indexByte l c = -1 ∨ (0 ≤ Lib.indexByte l c ∧ Lib.indexByte l c < l.length ∧ l.take (Lib.indexByte l c).toNat ++ c :: l.drop ((Lib.indexByte l c).toNat + 1) = l ∧ c ∉ l.take (Lib.indexByte l c).toNat))
  | [], c => by simp [Lib.indexByte]
  | b :: l, c => by
    have ih := index_neg l c
    unfold Lib.indexByte
    by_cases hb : (b == c) = true
    · rw [if_pos hb]
      have : b = c := by simpa using hb
      subst this
      refine ⟨by omega, .inr ⟨by omega, by simp, by simp, by simp⟩⟩
    · rw [if_neg hb]
      by_cases h1 : (Lib.indexByte l c == -1) = true
      · rw [if_pos h1]; exact ⟨by omega, .inl rfl⟩
      · rw [if_neg h1]
        have h1 : Lib.indexByte l c ≠ -1 := by simpa using h1
        obtain ⟨h2, h3⟩ := ih
        rcases h3 with h3 | ⟨h3, h4, h5, h6⟩
        · exact absurd h3 h1
        · have e : (Lib.indexByte l c + 1).toNat = (Lib.indexByte l c).toNat + 1 := by omega
          refine ⟨by omega, .inr ⟨by omega, by simp; omega, ?_, ?_⟩⟩
          · rw [e, List.take_succ_cons, List.drop_succ_cons, List.cons_append, h5]
          · rw [e, List.take_succ_cons, List.mem_cons, not_or]
            exact ⟨fun e => hb (by simp [e]), h6⟩

theorem index_least {l : List UInt8} {c : UInt8} {a r : List UInt8} (hl : l = a ++ c :: r) (hc : c ∉ a) : Lib.indexByte l c = a.length := by
  subst hl
  induction a with
  | nil => simp [Lib.indexByte]
  | cons b a ih =>
    have hb : b ≠ c := fun e => hc (by simp [e])
    have ih := ih fun h => hc (by simp [h])
    rw [List.cons_append]
    unfold Lib.indexByte
    rw [if_neg (by simpa using hb), if_neg (by rw [ih]; simp), ih]
    simp

/-- digits and the sign -/
theorem digits_chars : ∀ (u : Nat), ∀ c ∈ Lib.decDigits u, 48 ≤ c.toNat ∧ c.toNat ≤ 57 := by
  intro u
  induction u using Nat.strongRecOn with
  | _ u ih =>
    intro c hc
    rw [Lib.decDigits] at hc
    split at hc
    · rename_i h
      rw [List.mem_singleton] at hc
      subst hc
      have : (UInt8.ofNat (48 + u)).toNat = 48 + u := by simp; omega
      omega
    · rename_i h
      rcases List.mem_append.1 hc with hc | hc
      · exact ih (u / 10) (by omega) c hc
      · rw [List.mem_singleton] at hc
        subst hc
        have : (UInt8.ofNat (48 + u % 10)).toNat = 48 + u % 10 := by simp; omega
        omega
theorem itoa_chars {n : Int} {c : UInt8} (h : c ∈ Lib.itoa n) : c.toNat = 45 ∨ 48 ≤ c.toNat ∧ c.toNat ≤ 57 := by
  unfold Lib.itoa at h
  split at h
  · rcases List.mem_cons.1 h with rfl | h
    · left; rfl
    · right; exact digits_chars _ c h
  · right; exact digits_chars _ c h

/-! ### the decimal form, read back -/
def digV (acc : Nat) (l : List UInt8) : Nat := l.foldl (fun a c => a * 10 + (c.toNat - 48)) acc
theorem digV_snoc (acc : Nat) (l : List UInt8) (c : UInt8) : digV acc (l ++ [c]) = digV acc l * 10 + (c.toNat - 48) := by simp [digV]
theorem digV_dec : ∀ u : Nat, digV 0 (Lib.decDigits u) = u := by
  intro u
  induction u using Nat.strongRecOn with
  | _ u ih =>
    rw [Lib.decDigits]
    split
    · rename_i h
      show 0 * 10 + ((UInt8.ofNat (48 + u)).toNat - 48) = u
      have : (UInt8.ofNat (48 + u)).toNat = 48 + u := by simp; omega
      omega
    · rename_i h
      rw [digV_snoc, ih (u / 10) (by omega)]
      have : (UInt8.ofNat (48 + u % 10)).toNat = 48 + u % 10 := by simp; omega
      omega
theorem digV_mono : ∀ (l : List UInt8) (acc : Nat), acc ≤ digV acc l
  | [], acc => Nat.le_refl _
  | c :: l, acc => by
    have := digV_mono l (acc * 10 + (c.toNat - 48))
    show acc ≤ digV (acc * 10 + (c.toNat - 48)) l
    omega
theorem parse_dig : ∀ (l : List UInt8) (acc : Nat), (∀ c ∈ l, 48 ≤ c.toNat ∧ c.toNat ≤ 57) → digV acc l < 18446744073709551616 → Lib.parseUint10 acc l = .ok (digV acc l)
  | [], acc, _, _ => rfl
  | c :: l, acc, hc, h => by
    have h0 := hc c (by simp)
    have hm := digV_mono l (acc * 10 + (c.toNat - 48))
    have e : digV acc (c :: l) = digV (acc * 10 + (c.toNat - 48)) l := rfl
    rw [e] at h ⊢
    unfold Lib.parseUint10
    rw [if_pos h0, if_neg (by omega), if_neg (by omega)]
    exact parse_dig l _ (fun d hd => hc d (by simp [hd])) h

theorem dec_ne (u : Nat) : Lib.decDigits u ≠ [] := by
  intro e
  have h1 := Lib.decDigits_length u
  have h2 := Lib.nDigits_pos u
  rw [e] at h1
  simp at h1
  omega
theorem mag_dec {u : Nat} (h : u < 18446744073709551616) : Lib.parseMag (Lib.decDigits u) = .ok u := by
  unfold Lib.parseMag
  rw [if_neg (dec_ne u), parse_dig _ 0 (digits_chars u) (by rw [digV_dec]; exact h), digV_dec]

theorem atoi_itoa {n : Int} (h : I64 n) : Lib.atoiAll (Lib.itoa n) = .ok n := by
  unfold I64 at h
  unfold Lib.itoa
  split
  · rename_i hn
    have hm := mag_dec (u := n.natAbs) (by omega)
    unfold Lib.atoiAll
    simp only
    rw [if_pos (.inr rfl), hm]
    simp only
    have e45 : (45 : UInt8).toNat = 45 := rfl
    rw [if_neg (by intro h; exact h.1 e45), if_neg (by intro h; omega), if_pos e45]
    congr 1
    omega
  · rename_i hn
    have hm := mag_dec (u := n.toNat) (by omega)
    obtain ⟨c, r, hcr⟩ : ∃ c r, Lib.decDigits n.toNat = c :: r := by
      cases hd : Lib.decDigits n.toNat with
      | nil => exact absurd hd (dec_ne _)
      | cons c r => exact ⟨c, r, rfl⟩
    have h0 := digits_chars n.toNat c (by rw [hcr]; simp)
    rw [hcr] at hm ⊢
    unfold Lib.atoiAll
    simp only
    rw [if_neg (by omega), hm]
    simp only
    rw [if_neg (by omega), if_neg (by omega), if_neg (by omega)]
    congr 1
    omega

/-- what a number's reading says -/
theorem numP_iff {e : UInt8} (he : e.toNat = 58 ∨ e.toNat = 59 ∨ e.toNat = 91) {least : Int} {l : List UInt8} {n : Int} {r : List UInt8} : numP e least l = some (n, r) ↔ (I64 n ∧ least ≤ n) ∧ l = Lib.itoa n ++ e :: r := by
  have hne : ∀ n : Int, e ∉ Lib.itoa n := fun n h => by have := itoa_chars h; omega
  constructor
  · intro h
    unfold numP at h
    simp only at h
    split at h
    · cases h
    · rename_i hi
      split at h
      · rename_i m hm
        split at h
        · rename_i hc
          cases h
          have hb := Lib.atoiAll_bounds hm
          obtain ⟨_, h3⟩ := index_neg (l.take 21) e
          rcases h3 with h3 | ⟨h3, h4, h5, h6⟩
          · omega
          · refine ⟨⟨by unfold I64; omega, hc.2⟩, ?_⟩
            rw [hc.1]
            have hlt : (Lib.indexByte (l.take 21) e).toNat < (l.take 21).length := by omega
            have hlt2 : (Lib.indexByte (l.take 21) e).toNat < l.length := by rw [List.length_take] at hlt; omega
            have hg : l[(Lib.indexByte (l.take 21) e).toNat] = e := by
              have h7 : (l.take 21)[(Lib.indexByte (l.take 21) e).toNat]? = some e := at_of_split h5 (by omega)
              rw [List.getElem?_take_of_lt (by rw [List.length_take] at hlt; omega), List.getElem?_eq_getElem hlt2] at h7
              exact Option.some.inj h7
            conv => lhs; rw [← List.take_append_drop (Lib.indexByte (l.take 21) e).toNat l, List.drop_eq_getElem_cons hlt2, hg]
        · cases h
      · cases h
  · rintro ⟨⟨h1, h2⟩, rfl⟩
    have hlen := itoa_len h1
    have ht : (Lib.itoa n ++ e :: r).take 21 = Lib.itoa n ++ e :: r.take (20 - (Lib.itoa n).length) := by
      rw [List.take_append, List.take_of_length_le (by omega)]
      congr 1
      rw [show 21 - (Lib.itoa n).length = (20 - (Lib.itoa n).length) + 1 by omega, List.take_succ_cons]
    have hi := index_least ht (hne n)
    unfold numP
    simp only
    rw [hi, if_neg (by omega), Int.toNat_natCast, List.take_left', atoi_itoa h1]
    · simp only
      rw [if_pos ⟨by simp, h2⟩]
      congr 2
      rw [List.drop_append, List.drop_of_length_le (by omega), List.nil_append, show (Lib.itoa n).length + 1 - (Lib.itoa n).length = 1 by omega]
      rfl
    · rfl

/-! ### walked -/
abbrev rd (b : Nat) (st : RdS) : Own := .blk b [.string (bs st.1), .bool st.2] 73

section
variable {W w : World} {R G S : List Own} {Φ : PW} {b : Nat} {st : RdS}

theorem Open_use [Stable Φ] (l : List UInt8) (c : Ctx W w S Φ) {K : Ending → World → Prop} (hk : ∀ b w', Ctx W w' (rd b (l, false) :: S) Φ → K (.returned (.pointer (some ⟨b, 0, none⟩))) w') :
    Calls Tryd.prog F.wire_Open #[.string (bs l)] w K := by
  refine (Bwire_Open_run (bs l) (J := fun u w' => K (.returned u) w') c ?_).mono fun e w' ⟨v, he, hj⟩ => by rw [he]; exact hj
  exact fun b w G cx => hk b w (Ctx.left (S := rd b (l, false) :: S) cx)

theorem fail_use [Stable Φ] (c : Ctx W w (rd b st :: S) Φ) {K : Ending → World → Prop} (hk : ∀ w', Ctx W w' (rd b ([], true) :: S) Φ → K (.returned (.tuple #[])) w') :
    Calls Tryd.prog F.wire_Reader_fail #[.pointer (some ⟨b, 0, none⟩)] w K := by
  refine (Bwire_Reader_fail_run b 0 (J := fun u w' => K (.returned u) w') c ?_).mono fun e w' ⟨v, he, hj⟩ => by rw [he]; exact hj
  refine fun w G cx => ⟨cx.can 0 rfl (by simp), fun w' hw' => ⟨.blk b [.string (bs []), .bool st.2] 73 :: S, Φ, inferInstance, cx.put 0 hw' rfl, fun w G cx => ⟨cx.can 0 rfl (by simp), fun w' hw' => ⟨rd b ([], true) :: S, Φ, inferInstance, cx.put 0 hw' rfl, fun w G cx => hk w cx.left⟩⟩⟩⟩

theorem fail_to [Stable Φ] (c : Ctx W w (rd b st :: S ++ G) Φ) {K : List Own → PW → Prop} (hk : K (rd b ([], true) :: S) Φ) :
    Calls Tryd.prog F.wire_Reader_fail #[.pointer (some ⟨b, 0, none⟩)] w fun e w' => e = .returned (.tuple #[]) ∧ ∃ R' Φ', Stable Φ' ∧ Ctx W w' (R' ++ G) Φ' ∧ K R' Φ' :=
  fail_use (S := S ++ G) c fun w' c => ⟨rfl, rd b ([], true) :: S, Φ, inferInstance, c, hk⟩

theorem index_g (s : ByteArray) (c : Int) : Gives Tryd.prog F.strings_IndexByte #[.string s, .int .u8 c] (.int .i64 (Lib.indexByte s.data.toList c.toNat.toUInt8)) :=
  Quiet.gives ⟨fun w => Any.strings_IndexByte Tryd.lays137 s c w⟩

theorem atoi_to [Stable Φ] (h1 : ∀ M w, Φ M w → ErrAt 3 M w) (h2 : ∀ M w, Φ M w → ErrAt 4 M w) (s : ByteArray) (hs : s.size ≤ 1000000) (c : Ctx W w (R ++ G) Φ) {K1 : Int → List Own → PW → Prop} {K2 : Int → TypeId → Value → List Own → PW → Prop}
    (k1 : ∀ n, Lib.atoiAll s.data.toList = .ok n → K1 n R Φ) (k2 : ∀ n t v, (∀ m, Lib.atoiAll s.data.toList ≠ .ok m) → K2 n t v R Φ) :
    Calls Tryd.prog F.strconv_Atoi #[.string s] w fun e w' => (∃ n : Int, e = .returned (.tuple #[.int .i64 n, .nilIface]) ∧ ∃ R' Φ', Stable Φ' ∧ Ctx W w' (R' ++ G) Φ' ∧ K1 n R' Φ') ∨
      ∃ (n : Int) (t : TypeId) (v : Value), e = .returned (.tuple #[.int .i64 n, .iface t v]) ∧ ∃ R' Φ', Stable Φ' ∧ Ctx W w' (R' ++ G) Φ' ∧ K2 n t v R' Φ' := by
  obtain ⟨_, ev, hv, hev⟩ := h1 _ _ c.phi
  obtain ⟨_, er, hr, her⟩ := h2 _ _ c.phi
  cases h : Lib.atoiAll s.data.toList
  · rename_i n
    refine (Any.strconv_Atoi_ok Tryd.laysC172 s (by omega) n h w).mono fun e w' ⟨he, hw⟩ => .inl ⟨n, he, R, Φ, inferInstance, ?_, k1 n h⟩
    rcases hw with rfl | ⟨t, rfl⟩
    · exact c
    · exact c.call (chg_below (Lib.bytesWorld_below _ _ _))
  · exact (Any.strconv_Atoi_syntax Tryd.laysC172 s (by omega) h ev w hv hev).mono fun e w' ⟨N, he, _, _, hb⟩ => .inr ⟨_, _, _, he, R, Φ, inferInstance, c.call (chg_below hb), k2 _ _ _ fun m hm => by rw [h] at hm; cases hm⟩
  · exact (Any.strconv_Atoi_range Tryd.laysC172 s (by omega) h er w hr her).mono fun e w' ⟨N, he, _, _, hb⟩ => .inr ⟨_, _, _, he, R, Φ, inferInstance, c.call (chg_below hb), k2 _ _ _ fun m hm => by rw [h] at hm; cases hm⟩

theorem stepN_none {e : UInt8} {least : Int} (h : numP e least st.1 = none) : stepN e least st = (0, ([], true)) := by unfold stepN; rw [h]
theorem stepN_some {e : UInt8} {least n : Int} {r : List UInt8} (h : numP e least st.1 = some (n, r)) : stepN e least st = (n, (r, st.2)) := by unfold stepN; rw [h]

set_option maxHeartbeats 2000000 in
theorem number_use [Stable Φ] (hΦ : ∀ M w, Φ M w → NumI M w) (e : Int) (least : Int) (hl : st.1.length ≤ 1000000000000000) (c : Ctx W w (rd b st :: S) Φ) {K : Ending → World → Prop}
    (hk : ∀ w', Ctx W w' (rd b (stepN e.toNat.toUInt8 least st).2 :: S) Φ → K (.returned (.int .i64 (stepN e.toNat.toUInt8 least st).1)) w') :
    Calls Tryd.prog F.wire_Reader_number #[.pointer (some ⟨b, 0, none⟩), .int .u8 e, .int .i64 least] w K := by
  refine (Bwire_Reader_number_run b 0 e least (J := fun u w' => K (.returned u) w') c ?_).mono fun e w' ⟨v, he, hj⟩ => by rw [he]; exact hj
  clear c
  obtain ⟨l, bad⟩ := st
  simp only at hl
  have hsz : (bs l).size = l.length := bs_size l
  have hmin : (min ((bs l).size : Int) 21).toNat = min l.length 21 := by rw [hsz]; omega
  have hhead : (bs l).extract 0 (min ((bs l).size : Int) 21).toNat = bs (l.take 21) := by
    rw [hmin, bs_ext, List.drop_zero, Nat.sub_zero]
    congr 1
    rcases Nat.le_total l.length 21 with h | h
    · rw [Nat.min_eq_left h, List.take_of_length_le (Nat.le_refl _), List.take_of_length_le h]
    · rw [Nat.min_eq_right h]
  refine fun w G cx => ⟨bs l, cx.get 0 rfl rfl, bs l, cx.get 0 rfl rfl, by omega, fun w G cx => ?_⟩
  rw [hhead]
  refine (index_g (bs (l.take 21)) e).in.toI (R := rd b (l, bad) :: S) cx ?_
  rw [bs_list]
  obtain ⟨i, hi⟩ : ∃ i, Lib.indexByte (l.take 21) e.toNat.toUInt8 = i := ⟨_, rfl⟩
  obtain ⟨hge, hidx⟩ := index_neg (l.take 21) e.toNat.toUInt8
  rw [hi] at hge hidx ⊢
  have failK : numP e.toNat.toUInt8 least l = none → ∀ (w : World) (G : List Own), Ctx W w (rd b (l, bad) :: S ++ G) Φ → Calls Tryd.prog F.wire_Reader_fail #[.pointer (some ⟨b, 0, none⟩)] w fun e w' => e = .returned (.tuple #[]) ∧ ∃ R' Φ', Stable Φ' ∧ Ctx W w' (R' ++ G) Φ' ∧ ∀ w F1, Ctx W w (R' ++ F1) Φ' → K (.returned (.int .i64 0)) w := fun hn w G cx => by
    rw [stepN_none (st := (l, bad)) hn] at hk
    exact fail_to (S := S) cx fun w F1 cx => hk w cx.left
  refine Br.intro (fun hneg => fun w G cx => failK ?_ w G cx) (fun hpos => ?_)
  · unfold numP
    simp only [hi]
    rw [if_pos (of_decide_eq_true hneg)]
  have hpos := of_decide_eq_false hpos
  rcases hidx with hidx | ⟨_, hlt, _, _⟩
  · omega
  have hlt2 : i.toNat < (l.take 21).length := by omega
  have hll : (l.take 21).length ≤ l.length := by rw [List.length_take]; omega
  have h21 : (l.take 21).length ≤ 21 := by rw [List.length_take]; omega
  have hhd : (bs (l.take 21)).extract 0 i.toNat = bs (l.take i.toNat) := by
    rw [bs_ext, List.drop_zero, Nat.sub_zero, List.take_take, Nat.min_eq_left (by omega)]
  refine ⟨⟨by omega, by rw [bs_size]; omega⟩, fun w G cx => ?_⟩
  rw [hhd]
  refine atoi_to (R := rd b (l, bad) :: S) (fun M w h => (hΦ M w h).2.1) (fun M w h => (hΦ M w h).2.2) (bs (l.take i.toNat)) (by rw [bs_size, List.length_take]; omega) cx (fun n hn => ?_) (fun n t v hn => ?_)
  · rw [bs_list] at hn
    have hb := Lib.atoiAll_bounds hn
    refine ⟨rd b (l, bad) :: S, Φ, inferInstance, fun w G cx => cx, false, fun w => neq_nil (by decide +kernel) w, Br.intro (fun h => by cases h) (fun _ => ⟨⟨by omega, by rw [bs_size]; omega⟩, fun w G cx => ?_⟩)⟩
    refine (Itoa_in (fun M w h => (hΦ M w h).1) n (by unfold I64; omega)).toS cx ⟨fun w G cx => cx, Br.intro (fun hne => fun w G cx => failK ?_ w G cx) (fun heq => Br.intro (fun hls => fun w G cx => failK ?_ w G cx) (fun hls => fun w G cx => ?_))⟩
    · have hne := of_decide_eq_true hne
      unfold numP
      simp only [hi]
      rw [if_neg (by omega), hn]
      simp only
      rw [if_neg (fun h => hne (by show bs (Lib.itoa n) = _; rw [h.1]))]
    · unfold numP
      simp only [hi]
      rw [if_neg (by omega), hn]
      simp only
      rw [if_neg (fun h => by have := of_decide_eq_true hls; omega)]
    · have heq : Lib.itoa n = l.take i.toNat := bs_inj.1 (Decidable.not_not.1 (of_decide_eq_false heq))
      have hls := of_decide_eq_false hls
      have hnum : numP e.toNat.toUInt8 least l = some (n, l.drop (i.toNat + 1)) := by
        unfold numP
        simp only [hi]
        rw [if_neg (by omega), hn]
        simp only
        rw [if_pos ⟨heq, by omega⟩]
      rw [stepN_some (st := (l, bad)) hnum] at hk
      have hex : (bs l).extract (i + 1).toNat (bs l).size = bs (l.drop (i.toNat + 1)) := by
        rw [bs_ext, hsz, show (i + 1).toNat = i.toNat + 1 by omega]
        congr 1
        exact List.take_of_length_le (by rw [List.length_drop]; omega)
      refine ⟨bs l, cx.get 0 rfl rfl, ?_, ⟨by omega, by omega, Nat.le_refl _⟩, fun w G cx => ⟨cx.can 0 rfl (by simp), fun w' hw' => ?_⟩⟩
      · unfold I64
        omega
      rw [hex] at hw'
      exact ⟨rd b (l.drop (i.toNat + 1), bad) :: S, Φ, inferInstance, cx.put 0 hw' rfl, fun w G cx => hk w cx.left⟩
  · rw [bs_list] at hn
    refine ⟨[], fun _ _ => True, inferInstance, fun w G cx => (cx.weak fun _ _ _ => trivial).right, true, fun w => ?_, Br.intro (fun _ => fun w G cx => failK ?_ w G cx) (fun h => by cases h)⟩
    · exact neq_err (by decide +kernel) w
    · unfold numP
      simp only [hi]
      rw [if_neg (by omega)]

theorem number_to [Stable Φ] (hΦ : ∀ M w, Φ M w → NumI M w) (e : Int) (least : Int) (hl : st.1.length ≤ 1000000000000000) (c : Ctx W w (rd b st :: S ++ G) Φ) {K : Int → List Own → PW → Prop}
    (hk : K (stepN e.toNat.toUInt8 least st).1 (rd b (stepN e.toNat.toUInt8 least st).2 :: S) Φ) :
    Calls Tryd.prog F.wire_Reader_number #[.pointer (some ⟨b, 0, none⟩), .int .u8 e, .int .i64 least] w fun e w' => ∃ n, e = .returned (.int .i64 n) ∧ ∃ R' Φ', Stable Φ' ∧ Ctx W w' (R' ++ G) Φ' ∧ K n R' Φ' :=
  number_use (S := S ++ G) hΦ e least hl c fun w' c => ⟨_, rfl, _, Φ, inferInstance, c, hk⟩

def rdNat (st : RdS) : Int × RdS := stepN 59 0 st

theorem RNum_to [Stable Φ] (hΦ : ∀ M w, Φ M w → NumI M w) (hl : st.1.length ≤ 1000000000000000) (c : Ctx W w (rd b st :: S ++ G) Φ) {K : Int → List Own → PW → Prop}
    (hk : K (rdNat st).1 (rd b (rdNat st).2 :: S) Φ) :
    Calls Tryd.prog F.wire_Reader_Num #[.pointer (some ⟨b, 0, none⟩)] w fun e w' => ∃ n, e = .returned (.int .i64 n) ∧ ∃ R' Φ', Stable Φ' ∧ Ctx W w' (R' ++ G) Φ' ∧ K n R' Φ' := by
  refine (Bwire_Reader_Num_run b 0 (J := fun u w' => ∃ n, (Ending.returned u) = .returned (.int .i64 n) ∧ ∃ R' Φ', Stable Φ' ∧ Ctx W w' (R' ++ G) Φ' ∧ K n R' Φ') (R := rd b st :: (S ++ G)) c ?_).mono fun e w' ⟨v, he, hj⟩ => by rw [he]; exact hj
  exact fun w F1 cx => number_to (S := S ++ G) hΦ 59 _ hl cx fun w F1 cx => ⟨_, rfl, _, Φ, inferInstance, cx.left, hk⟩

theorem Left_to [Stable Φ] (c : Ctx W w (rd b st :: S ++ G) Φ) {K : Int → List Own → PW → Prop} (hk : K st.1.length (rd b st :: S) Φ) :
    Calls Tryd.prog F.wire_Reader_Left #[.pointer (some ⟨b, 0, none⟩)] w fun e w' => ∃ n, e = .returned (.int .i64 n) ∧ ∃ R' Φ', Stable Φ' ∧ Ctx W w' (R' ++ G) Φ' ∧ K n R' Φ' := by
  refine (Bwire_Reader_Left_run b 0 (J := fun u w' => ∃ n, (Ending.returned u) = .returned (.int .i64 n) ∧ ∃ R' Φ', Stable Φ' ∧ Ctx W w' (R' ++ G) Φ' ∧ K n R' Φ') (R := rd b st :: (S ++ G)) c ?_).mono fun e w' ⟨v, he, hj⟩ => by rw [he]; exact hj
  exact fun w F1 cx => ⟨bs st.1, cx.get 0 rfl rfl, fun w F1 cx => ⟨st.1.length, by rw [bs_size], _, Φ, inferInstance, cx.left, hk⟩⟩

def rdDone (st : RdS) : Bool := !st.2 && decide (st.1 = [])
theorem Done_to [Stable Φ] (c : Ctx W w (rd b st :: S ++ G) Φ) {K : Bool → List Own → PW → Prop} (hk : K (rdDone st) (rd b st :: S) Φ) :
    Calls Tryd.prog F.wire_Reader_Done #[.pointer (some ⟨b, 0, none⟩)] w fun e w' => ∃ n, e = .returned (.bool n) ∧ ∃ R' Φ', Stable Φ' ∧ Ctx W w' (R' ++ G) Φ' ∧ K n R' Φ' := by
  refine (Bwire_Reader_Done_run b 0 (J := fun u w' => ∃ n, (Ending.returned u) = .returned (.bool n) ∧ ∃ R' Φ', Stable Φ' ∧ Ctx W w' (R' ++ G) Φ' ∧ K n R' Φ') (R := rd b st :: (S ++ G)) c ?_).mono fun e w' ⟨v, he, hj⟩ => by rw [he]; exact hj
  refine fun w F1 cx => ⟨st.2, cx.get 0 rfl rfl, bs st.1, fun _ => cx.get 0 rfl rfl, fun w F1 cx => ⟨rdDone st, ?_, _, Φ, inferInstance, cx.left, hk⟩⟩
  have e : decide (bs st.1 = ByteArray.mk #[]) = decide (st.1 = []) := by
    rw [show ByteArray.mk #[] = bs [] from rfl]
    exact decide_eq_decide.2 bs_inj
  rw [e]
  rfl

theorem prefix_one (c : UInt8) (l : List UInt8) : Lib.hasPrefix l [c] = (match l with | [] => false | x :: _ => x == c) := by
  cases l with
  | nil => rfl
  | cons x r =>
    unfold Lib.hasPrefix
    rw [List.isPrefixOf_cons_cons]
    simp [Bool.beq_comm]

theorem close_to [Stable Φ] (e : UInt8) (c : Ctx W w (rd b st :: S ++ G) Φ) {K : List Own → PW → Prop} (hk : K (rd b (stepC e st) :: S) Φ) :
    Calls Tryd.prog F.wire_Reader_close #[.pointer (some ⟨b, 0, none⟩), .string (ByteArray.mk #[e])] w fun e w' => e = .returned (.tuple #[]) ∧ ∃ R' Φ', Stable Φ' ∧ Ctx W w' (R' ++ G) Φ' ∧ K R' Φ' := by
  refine (Bwire_Reader_close_run b 0 (ByteArray.mk #[e]) (J := fun u w' => (Ending.returned u) = .returned (.tuple #[]) ∧ ∃ R' Φ', Stable Φ' ∧ Ctx W w' (R' ++ G) Φ' ∧ K R' Φ') (R := rd b st :: (S ++ G)) c ?_).mono fun e w' ⟨v, he, hj⟩ => by rw [he]; exact hj
  clear c
  obtain ⟨l, bad⟩ := st
  refine fun w F1 cx => ⟨bs l, cx.get 0 rfl rfl, fun w F1 cx => ?_⟩
  refine (Any.strings_CutPrefix Tryd.lays103 (bs l) (ByteArray.mk #[e]) w).mono fun e2 w' ⟨he, hw⟩ => ?_
  subst hw
  refine ⟨_, _, he, rd b (l, bad) :: (S ++ G), Φ, inferInstance, cx, ?_⟩
  clear cx
  rw [bs_list, show (ByteArray.mk #[e]).data.toList = [e] from rfl]
  unfold Lib.trimPrefix
  rw [prefix_one]
  unfold stepC at hk
  cases l with
  | nil =>
    refine fun w F1 cx => ⟨cx.can 0 rfl (by simp), fun w' hw' => ⟨rd b ([], bad) :: (S ++ G), Φ, inferInstance, cx.put 0 hw' rfl, Br.intro (fun _ => fun w F1 cx => fail_to (S := S ++ G) cx fun w F1 cx => ⟨by first | trivial | rfl, _, Φ, inferInstance, cx.left, hk⟩) (fun h => by cases h)⟩⟩
  | cons x r =>
    simp only at hk ⊢
    by_cases hx : x = e
    · subst hx
      rw [if_pos rfl] at hk
      rw [if_pos (by simp)]
      refine fun w F1 cx => ⟨cx.can 0 rfl (by simp), fun w' hw' => ⟨rd b (r, bad) :: (S ++ G), Φ, inferInstance, cx.put 0 hw' rfl, Br.intro (fun h => by simp at h) (fun _ => fun w F1 cx => ⟨by first | trivial | rfl, _, Φ, inferInstance, cx.left, hk⟩)⟩⟩
    · rw [if_neg hx] at hk
      rw [if_neg (by simpa using hx)]
      refine fun w F1 cx => ⟨cx.can 0 rfl (by simp), fun w' hw' => ⟨rd b (x :: r, bad) :: (S ++ G), Φ, inferInstance, cx.put 0 hw' rfl, Br.intro (fun _ => fun w F1 cx => fail_to (S := S ++ G) cx fun w F1 cx => ⟨by first | trivial | rfl, _, Φ, inferInstance, cx.left, hk⟩) (fun h => by simp at h; exact absurd h hx)⟩⟩

theorem stepN_nonneg {e : UInt8} (he : e.toNat = 58 ∨ e.toNat = 59 ∨ e.toNat = 91) (st : RdS) : 0 ≤ (stepN e 0 st).1 ∧ (stepN e 0 st).1 ≤ 9223372036854775807 := by
  unfold stepN
  split
  · rename_i n r h
    obtain ⟨⟨h1, h2⟩, _⟩ := (numP_iff he).1 h
    unfold I64 at h1
    simp only; omega
  · simp only; omega
theorem stepN_len (e : UInt8) (least : Int) (st : RdS) : (stepN e least st).2.1.length ≤ st.1.length := by
  unfold stepN
  split
  · rename_i n r h
    unfold numP at h
    simp only at h
    split at h
    · cases h
    · split at h
      · split at h
        · cases h
          simp only [List.length_drop]; omega
        · cases h
      · cases h
  · simp

theorem Text_to [Stable Φ] (hΦ : ∀ M w, Φ M w → NumI M w) (hl : st.1.length ≤ 1000000000000000) (c : Ctx W w (rd b st :: S ++ G) Φ) {K : ByteArray → List Own → PW → Prop}
    (hk : K (stepT st).1 (rd b (stepT st).2 :: S) Φ) :
    Calls Tryd.prog F.wire_Reader_Text #[.pointer (some ⟨b, 0, none⟩)] w fun e w' => ∃ n, e = .returned (.string n) ∧ ∃ R' Φ', Stable Φ' ∧ Ctx W w' (R' ++ G) Φ' ∧ K n R' Φ' := by
  refine (Bwire_Reader_Text_run b 0 (J := fun u w' => ∃ n, (Ending.returned u) = .returned (.string n) ∧ ∃ R' Φ', Stable Φ' ∧ Ctx W w' (R' ++ G) Φ' ∧ K n R' Φ') (R := rd b st :: (S ++ G)) c ?_).mono fun e w' ⟨v, he, hj⟩ => by rw [he]; exact hj
  clear c
  refine fun w F1 cx => number_to (S := S ++ G) hΦ 58 0 hl cx ?_
  rw [show ((58 : Int).toNat.toUInt8) = (58 : UInt8) from rfl]
  unfold stepT at hk
  simp only at hk
  have hn := stepN_nonneg (e := 58) (.inl rfl) st
  obtain ⟨⟨n, l, bad⟩, ha⟩ : ∃ a, stepN 58 0 st = a := ⟨_, rfl⟩
  rw [ha] at hk hn ⊢
  simp only at hk hn ⊢
  refine fun w F1 cx => ⟨bs l, cx.get 0 rfl rfl, Br.intro (fun h => ?_) (fun h => ?_)⟩
  · have h := of_decide_eq_true h
    rw [bs_size] at h
    rw [if_pos h] at hk
    exact fun w F1 cx => fail_to (S := S ++ G) cx fun w F1 cx => ⟨_, rfl, _, Φ, inferInstance, cx.left, hk⟩
  · have h := of_decide_eq_false h
    rw [bs_size] at h
    rw [if_neg h] at hk
    have e1 : (bs l).extract n.toNat (bs l).size = bs (l.drop n.toNat) := by
      rw [bs_ext, bs_size]
      congr 1
      exact List.take_of_length_le (by rw [List.length_drop]; omega)
    have e2 : (bs l).extract 0 n.toNat = bs (l.take n.toNat) := by rw [bs_ext, List.drop_zero, Nat.sub_zero]
    refine fun w F1 cx => ⟨bs l, cx.get 0 rfl rfl, ⟨by omega, by rw [bs_size]; omega⟩, fun w F1 cx => ⟨bs l, cx.get 0 rfl rfl, ⟨by omega, by rw [bs_size]; omega, Nat.le_refl _⟩, fun w F1 cx => ⟨cx.can 0 rfl (by simp), fun w' hw' => ?_⟩⟩⟩
    rw [e1] at hw'
    refine ⟨rd b (l.drop n.toNat, bad) :: (S ++ G), Φ, inferInstance, cx.put 0 hw' rfl, fun w F1 cx => close_to (S := S ++ G) 44 cx fun w F1 cx => ⟨(stepC 44 (l.drop n.toNat, bad)).2, cx.get 0 rfl rfl, Br.intro (fun hb => ?_) (fun hb => ?_)⟩⟩
    · rw [hb] at hk
      exact fun w F1 cx => ⟨_, rfl, _, Φ, inferInstance, cx.left, hk⟩
    · rw [hb] at hk
      rw [e2]
      exact fun w F1 cx => ⟨_, rfl, _, Φ, inferInstance, cx.left, hk⟩

end
end Go.Proofs.YtfccagphnfceiaaDoor
end

/-
  Rows, read: in plain Lean, and walked.
-/
section
set_option linter.unusedVariables false
set_option linter.unusedSimpArgs false
namespace Go.Proofs.YtfccagphnfceiaaDoor
open Go.Vc


/-! ### in plain Lean -/
theorem num_read {e : UInt8} (he : e.toNat = 58 ∨ e.toNat = 59 ∨ e.toNat = 91) {least n : Int} {r : List UInt8} {bad : Bool} (h : I64 n) (h2 : least ≤ n) : stepN e least (Lib.itoa n ++ e :: r, bad) = (n, (r, bad)) :=
  stepN_some (st := (Lib.itoa n ++ e :: r, bad)) ((numP_iff he).2 ⟨⟨h, h2⟩, rfl⟩)
theorem intB_list (n : Int) : (intB n).data.toList = Lib.itoa n ++ [59] := by
  unfold intB numB
  rw [ByteArray.data_append, Array.toList_append]
theorem nat_read {n : Nat} {r : List UInt8} {bad : Bool} (h : (n : Int) ≤ 9223372036854775807) : rdNat ((natB n).data.toList ++ r, bad) = ((n : Int), (r, bad)) := by
  unfold natB
  rw [if_neg (by omega), intB_list, List.append_assoc]
  exact num_read (.inr (.inl rfl)) (by unfold I64; omega) (by omega)
theorem textB_list (s : ByteArray) : (textB s).data.toList = Lib.itoa s.size ++ 58 :: (s.data.toList ++ [44]) := by
  unfold textB numB
  simp [ByteArray.data_append]
theorem text_read {s : ByteArray} {r : List UInt8} (h : s.size ≤ 9223372036854775807) : stepT ((textB s).data.toList ++ r, false) = (s, (r, false)) := by
  have e1 : stepN 58 0 ((textB s).data.toList ++ r, false) = ((s.size : Int), (s.data.toList ++ 44 :: r, false)) := by
    rw [textB_list, List.append_assoc, List.cons_append, List.append_assoc]
    exact num_read (.inl rfl) (by unfold I64; omega) (by omega)
  unfold stepT
  simp only [e1]
  have hl : s.data.toList.length = s.size := list_size s
  rw [if_neg (by rw [List.length_append, List.length_cons, hl]; omega), Int.toNat_natCast, List.drop_left' hl, List.take_left' hl]
  rfl
/-! lengths -/
/-! ### walked -/
section
variable {W w : World} {R G S : List Own} {Φ : PW} {b : Nat} {st : RdS}

end
end Go.Proofs.YtfccagphnfceiaaDoor
end

/-
  What was read stands in the string: the readers' results, read backwards.
-/
section
set_option linter.unusedVariables false
set_option linter.unusedSimpArgs false
namespace Go.Proofs.YtfccagphnfceiaaDoor
open Go.Vc

theorem stepN_is {e : UInt8} (he : e.toNat = 58 ∨ e.toNat = 59 ∨ e.toNat = 91) {least : Int} {st : RdS} (h : (stepN e least st).2.2 = false) :
    st.2 = false ∧ I64 (stepN e least st).1 ∧ least ≤ (stepN e least st).1 ∧ st.1 = Lib.itoa (stepN e least st).1 ++ e :: (stepN e least st).2.1 := by
  unfold stepN at h ⊢
  split at h
  · rename_i n r hn
    obtain ⟨⟨h1, h2⟩, h3⟩ := (numP_iff he).1 hn
    exact ⟨h, h1, h2, h3⟩
  · cases h
theorem stepC_is {c : UInt8} {st : RdS} (h : (stepC c st).2 = false) : st.2 = false ∧ st.1 = c :: (stepC c st).1 := by
  obtain ⟨l, bad⟩ := st
  unfold stepC at h ⊢
  cases l with
  | nil => cases h
  | cons x r =>
    simp only at h ⊢
    by_cases hx : x = c
    · rw [if_pos hx] at h ⊢
      exact ⟨h, by rw [hx]⟩
    · rw [if_neg hx] at h
      cases h
theorem text_is {st : RdS} (h : (stepT st).2.2 = false) : st.2 = false ∧ st.1 = (textB (stepT st).1).data.toList ++ (stepT st).2.1 := by
  unfold stepT at h ⊢
  simp only at h ⊢
  split at h
  · cases h
  rename_i hlt
  rw [if_neg hlt]
  simp only at h ⊢
  rw [if_neg (by rw [h]; simp)]
  obtain ⟨h1, h2⟩ := stepC_is h
  simp only at h1 h2
  obtain ⟨h3, h4, h5, h6⟩ := stepN_is (e := 58) (.inl rfl) h1
  refine ⟨h3, ?_⟩
  have hl : ((stepN 58 0 st).2.1.take (stepN 58 0 st).1.toNat).length = (stepN 58 0 st).1.toNat := by rw [List.length_take]; omega
  rw [textB_list, bs_list, bs_size, hl, show (((stepN 58 0 st).1.toNat : Nat) : Int) = (stepN 58 0 st).1 by omega, List.append_assoc, List.cons_append, List.append_assoc, List.singleton_append, ← h2, List.take_append_drop]
  exact h6
theorem done_is {st : RdS} (h : rdDone st = true) : st = ([], false) := by
  unfold rdDone at h
  rw [Bool.and_eq_true] at h
  obtain ⟨l, bad⟩ := st
  have h1 := of_decide_eq_true h.2
  have h2 := h.1
  simp only at h1 h2
  cases bad with
  | true => cases h2
  | false => rw [h1]
end Go.Proofs.YtfccagphnfceiaaDoor
end

/-
  The disk, the cell and the journal, as plain data: what their calls do.
-/
section
set_option linter.unusedVariables false
set_option linter.unusedSimpArgs false
namespace Go.Proofs.YtfccagphnfceiaaDoor
open Go.Vc

abbrev Bs := List UInt8

/-! ### the disk -/
structure FilD where
  now : Bs
  last : Bs
structure DsS where
  files : Int → FilD
  queue : List (Int × Int)
  lost : Int
  down : Bool
  armed : Int
  keep : List Int
def dsNew : DsS := ⟨fun _ => ⟨[], []⟩, [], 0, false, 0, []⟩
/-- bytes put into bytes -/
def putL (s : Bs) (a : Nat) (t : Bs) : Bs := if t = [] then s else s.take a ++ List.replicate (a - s.length) 0 ++ t ++ s.drop (a + t.length)
def DsS.set (d : DsS) (f : Int) (x : FilD) : DsS := { d with files := fun k => if k = f then x else d.files k }
def mayS (d : DsS) (f : Int) : Int := if d.down = true then 9 else if f < 0 ∨ 16 ≤ f then 1 else 0
/-- the sectors of n bytes from a on -/
def secsL (a n : Nat) : List Int := (List.range ((a + n - 1) / 64 + 1 - a / 64)).map fun i => ((a / 64 + i : Nat) : Int)
def addQ (f : Int) : List Int → List (Int × Int) → List (Int × Int)
  | [], q => q
  | n :: ns, q => addQ f ns (if (f, n) ∈ q then q else q ++ [(f, n)])
def write0 (d : DsS) (f a : Int) (s : Bs) : DsS × Int :=
  if mayS d f ≠ 0 then (d, mayS d f) else if a < 0 then (d, 1) else if 16777216 < a ∨ 16777216 - a < (s.length : Int) then (d, 6) else if s = [] then (d, 0) else
  ({ d.set f ⟨putL (d.files f).now a.toNat s, (d.files f).last⟩ with queue := addQ f (secsL a.toNat s.length) d.queue }, 0)
def endsB (d : DsS) : Bool := !d.down && decide (d.armed = 1)
def tickS (d : DsS) : DsS := if d.down = true ∨ d.armed = 0 then d else { d with armed := d.armed - 1 }
/-- one pending sector, as it survives or not -/
def surv (keep : List Int) (i : Nat) (p : Int × Int) (fs : Int → FilD) : Int → FilD :=
  if keep = [] ∨ keep.getD (i % keep.length) 0 % 2 = 0 ∨ ((fs p.1).now.length : Int) ≤ p.2 * 64 then fs
  else fun k => if k = p.1 then ⟨(fs p.1).now, putL (fs p.1).last (p.2 * 64).toNat (((fs p.1).now.drop (p.2 * 64).toNat).take 64)⟩ else fs k
def survs (keep : List Int) : Nat → List (Int × Int) → (Int → FilD) → Int → FilD
  | _, [], fs => fs
  | i, p :: ps, fs => survs keep (i + 1) ps (surv keep i p fs)
def crashS (d : DsS) (keep : List Int) : DsS :=
  if d.down = true then d else { d with down := true, armed := 0, queue := [], files := fun k => ⟨(survs keep 0 d.queue d.files k).last, (survs keep 0 d.queue d.files k).last⟩ }
def writeS (d : DsS) (f a : Int) (s : Bs) : DsS × Int :=
  if endsB d = true then (crashS (write0 (tickS d) f a s).1 d.keep, 9) else write0 (tickS d) f a s
def settleS (d : DsS) (f : Int) (s : Bs) : DsS := { d.set f ⟨s, s⟩ with queue := d.queue.filter fun p => decide (p.1 ≠ f) }
def fallS (d : DsS) : DsS := if endsB d = true then crashS (tickS d) d.keep else tickS d
def sync0 (d : DsS) (f : Int) : DsS × Int :=
  if mayS d f ≠ 0 then (d, mayS d f) else if 0 < d.lost then ({ d with lost := d.lost - 1 }, 10) else (settleS d f (d.files f).now, 0)
def syncS (d : DsS) (f : Int) : DsS × Int := sync0 (fallS d) f
def readS (d : DsS) (f a n : Int) : Bs × Int :=
  if mayS d f ≠ 0 then ([], mayS d f) else if a < 0 ∨ n < 0 then ([], 1) else (((d.files f).now.drop a.toNat).take n.toNat, 0)
def startS (d : DsS) : DsS := { d with down := false }
def loseS (d : DsS) (n : Int) : DsS := { d with lost := max n 0 }
def armS (d : DsS) (n : Int) (keep : List Int) : DsS := { d with armed := max n 0, keep := keep }

/-! ### the cell -/
structure CelS where
  file : Int
  slot : Nat
  value : Bs
  sure : Bool
def offS (slot : Nat) : Nat := if slot = 1 then 64 else if slot = 2 then 131072 else 0
def hdrL (slot : Nat) (n : Nat) : Bs := [slot.toUInt8, n.toUInt8, (n / 256).toUInt8, (n / 65536).toUInt8, (n / 16777216).toUInt8]
def hdrN (h : Bs) : Nat := (((h.getD 4 0).toNat * 256 + (h.getD 3 0).toNat) * 256 + (h.getD 2 0).toNat) * 256 + (h.getD 1 0).toNat
def openC (d : DsS) (file : Int) : Option CelS × Int :=
  if (readS d file 0 5).2 ≠ 0 then (none, (readS d file 0 5).2) else
  if (readS d file 0 5).1 = [] ∨ (readS d file 0 5).1.getD 0 0 = 0 then (some ⟨file, 0, [], false⟩, 0) else
  if (readS d file 0 5).1.length < 5 ∨ (readS d file 0 5).1.getD 0 0 ≠ 1 ∧ (readS d file 0 5).1.getD 0 0 ≠ 2 then (none, 2) else
  if 65536 < hdrN (readS d file 0 5).1 then (none, 2) else
  if (readS d file (offS ((readS d file 0 5).1.getD 0 0).toNat) (hdrN (readS d file 0 5).1)).2 ≠ 0 then (none, (readS d file (offS ((readS d file 0 5).1.getD 0 0).toNat) (hdrN (readS d file 0 5).1)).2) else
  if (readS d file (offS ((readS d file 0 5).1.getD 0 0).toNat) (hdrN (readS d file 0 5).1)).1.length < hdrN (readS d file 0 5).1 then (none, 2) else
  (some ⟨file, ((readS d file 0 5).1.getD 0 0).toNat, (readS d file (offS ((readS d file 0 5).1.getD 0 0).toNat) (hdrN (readS d file 0 5).1)).1, false⟩, 0)
/-- what is done once the old value is known to be durable -/
def setC2 (d : DsS) (c : CelS) (s : Bs) (slot : Nat) : DsS × CelS × Int :=
  if (writeS d c.file (offS slot) s).2 ≠ 0 then ((writeS d c.file (offS slot) s).1, c, (writeS d c.file (offS slot) s).2) else
  if (syncS (writeS d c.file (offS slot) s).1 c.file).2 ≠ 0 then ((syncS (writeS d c.file (offS slot) s).1 c.file).1, c, (syncS (writeS d c.file (offS slot) s).1 c.file).2) else
  if (writeS (syncS (writeS d c.file (offS slot) s).1 c.file).1 c.file 0 (hdrL slot s.length)).2 ≠ 0 then ((writeS (syncS (writeS d c.file (offS slot) s).1 c.file).1 c.file 0 (hdrL slot s.length)).1, c, (writeS (syncS (writeS d c.file (offS slot) s).1 c.file).1 c.file 0 (hdrL slot s.length)).2) else
  ((syncS (writeS (syncS (writeS d c.file (offS slot) s).1 c.file).1 c.file 0 (hdrL slot s.length)).1 c.file).1, ⟨c.file, slot, s, decide ((syncS (writeS (syncS (writeS d c.file (offS slot) s).1 c.file).1 c.file 0 (hdrL slot s.length)).1 c.file).2 = 0)⟩, (syncS (writeS (syncS (writeS d c.file (offS slot) s).1 c.file).1 c.file 0 (hdrL slot s.length)).1 c.file).2)
def setC (d : DsS) (c : CelS) (s : Bs) : DsS × CelS × Int :=
  if 65536 < s.length then (d, c, 6) else
  if c.sure = false ∧ 0 < c.slot then
    if (syncS d c.file).2 ≠ 0 then ((syncS d c.file).1, c, (syncS d c.file).2) else setC2 (syncS d c.file).1 { c with sure := true } s (if c.slot = 1 then 2 else 1)
  else setC2 d c s (if c.slot = 1 then 2 else 1)
end Go.Proofs.YtfccagphnfceiaaDoor
end

/-
  What a crash leaves of a file, in plain Lean.
-/
section
set_option linter.unusedVariables false
set_option linter.unusedSimpArgs false
namespace Go.Proofs.YtfccagphnfceiaaDoor
open Go.Vc

/-! ### bytes put into bytes -/
theorem putL_nil (s : Bs) (a : Nat) : putL s a [] = s := by unfold putL; rw [if_pos rfl]
theorem putL_ne {s t : Bs} {a : Nat} (h : t ≠ []) : putL s a t = s.take a ++ List.replicate (a - s.length) 0 ++ t ++ s.drop (a + t.length) := by unfold putL; rw [if_neg h]
theorem putL_length {s t : Bs} {a : Nat} (h : t ≠ []) : (putL s a t).length = max s.length (a + t.length) := by
  rw [putL_ne h]
  simp only [List.length_append, List.length_take, List.length_replicate, List.length_drop]
  omega
theorem putL_low {s t : Bs} {a i : Nat} (h : t ≠ []) (hi : i < a) : (putL s a t)[i]? = if i < s.length then s[i]? else some 0 := by
  rw [putL_ne h, List.append_assoc, List.append_assoc]
  by_cases h1 : i < s.length
  · rw [if_pos h1, List.getElem?_append_left (by rw [List.length_take]; omega), List.getElem?_take_of_lt hi]
  · rw [if_neg h1, List.getElem?_append_right (by rw [List.length_take]; omega), List.length_take, List.getElem?_append_left (by rw [List.length_replicate]; omega), List.getElem?_replicate, if_pos (by omega)]
theorem putL_mid {s t : Bs} {a i : Nat} (h : t ≠ []) (h1 : a ≤ i) (h2 : i < a + t.length) : (putL s a t)[i]? = t[i - a]? := by
  rw [putL_ne h, List.append_assoc, List.getElem?_append_right (by simp only [List.length_append, List.length_take, List.length_replicate]; omega), List.getElem?_append_left (by simp only [List.length_append, List.length_take, List.length_replicate]; omega)]
  simp only [List.length_append, List.length_take, List.length_replicate]
  congr 1
  omega
theorem putL_high {s t : Bs} {a i : Nat} (h : t ≠ []) (h1 : a + t.length ≤ i) : (putL s a t)[i]? = s[i]? := by
  rw [putL_ne h, List.getElem?_append_right (by simp only [List.length_append, List.length_take, List.length_replicate]; omega), List.getElem?_drop]
  simp only [List.length_append, List.length_take, List.length_replicate]
  by_cases h2 : a ≤ s.length
  · congr 1
    omega
  · rw [List.getElem?_eq_none (by omega), List.getElem?_eq_none (by omega)]

/-! ### sectors that survive -/
def secT (N : Bs) (n : Nat) : Bs := (N.drop (n * 64)).take 64
def mixF (N : Bs) : List Nat → Bs → Bs
  | [], L => L
  | n :: ns, L => mixF N ns (putL L (n * 64) (secT N n))
theorem secT_ne {N : Bs} {n : Nat} (h : n * 64 < N.length) : secT N n ≠ [] := by
  intro e
  have := congrArg List.length e
  unfold secT at this
  rw [List.length_take, List.length_drop, List.length_nil] at this
  omega
theorem secT_len (N : Bs) (n : Nat) : (secT N n).length = min 64 (N.length - n * 64) := by unfold secT; rw [List.length_take, List.length_drop]
theorem secT_get {N : Bs} {n i : Nat} (h1 : n * 64 ≤ i) (h2 : i < n * 64 + 64) : (secT N n)[i - n * 64]? = N[i]? := by
  unfold secT
  rw [List.getElem?_take_of_lt (by omega), List.getElem?_drop]
  congr 1
  omega
/-- one sector, byte by byte -/
theorem put_sec {N L : Bs} {n i : Nat} (h : n * 64 < N.length) : (putL L (n * 64) (secT N n))[i]? = if n * 64 ≤ i ∧ i < n * 64 + 64 ∧ i < N.length then N[i]? else if i < n * 64 ∧ L.length ≤ i then some 0 else L[i]? := by
  have hne := secT_ne h
  have hl := secT_len N n
  by_cases h1 : i < n * 64
  · rw [putL_low hne h1]
    by_cases h2 : i < L.length
    · rw [if_pos h2, if_neg (by omega), if_neg (by omega)]
    · rw [if_neg h2, if_neg (by omega), if_pos (by omega)]
  · by_cases h2 : i < n * 64 + (secT N n).length
    · rw [putL_mid hne (by omega) h2, secT_get (by omega) (by omega), if_pos (by omega)]
    · rw [putL_high hne (by omega), if_neg (by omega), if_neg (by omega)]
/-- where both agree, the sectors change nothing -/
theorem mix_agree {N : Bs} {i : Nat} {x : UInt8} (hN : N[i]? = some x) : ∀ (ns : List Nat) (L : Bs), (∀ n ∈ ns, n * 64 < N.length) → L[i]? = some x → (mixF N ns L)[i]? = some x
  | [], L, _, h => h
  | n :: ns, L, hs, h => by
    refine mix_agree hN ns _ (fun m hm => hs m (by simp [hm])) ?_
    have hi : i < L.length := (List.getElem?_eq_some_iff.1 h).1
    rw [put_sec (hs n (by simp))]
    split
    · exact hN
    · rw [if_neg (by omega)]; exact h
/-- outside of the sectors nothing changes -/
theorem mix_out {N : Bs} {i : Nat} {x : UInt8} : ∀ (ns : List Nat) (L : Bs), (∀ n ∈ ns, n * 64 < N.length ∧ ¬ (n * 64 ≤ i ∧ i < n * 64 + 64)) → L[i]? = some x → (mixF N ns L)[i]? = some x
  | [], L, _, h => h
  | n :: ns, L, hs, h => by
    refine mix_out ns _ (fun m hm => hs m (by simp [hm])) ?_
    have hi : i < L.length := (List.getElem?_eq_some_iff.1 h).1
    have h1 := hs n (by simp)
    rw [put_sec h1.1, if_neg (by omega), if_neg (by omega)]
    exact h
/-- a byte that is nothing or zero in both stays so -/
theorem mix_zero {N : Bs} {i : Nat} (hN : N.getD i 0 = 0) : ∀ (ns : List Nat) (L : Bs), (∀ n ∈ ns, n * 64 < N.length) → L.getD i 0 = 0 → (mixF N ns L).getD i 0 = 0
  | [], L, _, h => h
  | n :: ns, L, hs, h => by
    refine mix_zero hN ns _ (fun m hm => hs m (by simp [hm])) ?_
    rw [List.getD_eq_getElem?_getD, put_sec (hs n (by simp))]
    split
    · rw [← List.getD_eq_getElem?_getD]; exact hN
    · split
      · rfl
      · rw [← List.getD_eq_getElem?_getD]; exact h
/-- if the sector of a byte survives, the byte is the new one -/
theorem mix_new {N : Bs} {i : Nat} {x : UInt8} (hN : N[i]? = some x) : ∀ (ns : List Nat) (L : Bs), (∀ n ∈ ns, n * 64 < N.length) → i / 64 ∈ ns → (mixF N ns L)[i]? = some x
  | [], L, _, h => by cases h
  | n :: ns, L, hs, h => by
    by_cases e : i / 64 = n
    · refine mix_agree hN ns _ (fun m hm => hs m (by simp [hm])) ?_
      have hi : i < N.length := (List.getElem?_eq_some_iff.1 hN).1
      rw [put_sec (hs n (by simp)), if_pos (by omega)]
      exact hN
    · refine mix_new hN ns _ (fun m hm => hs m (by simp [hm])) ?_
      rcases List.mem_cons.1 h with h | h
      · exact absurd h e
      · exact h

/-! ### a crash -/
/-- the pending sectors of a file -/
def secsOf (F : Int) (q : List (Int × Int)) : List Nat := (q.filter fun p => decide (p.1 = F)).map fun p => p.2.toNat
theorem secsOf_cons (F : Int) (p : Int × Int) (q : List (Int × Int)) : secsOf F (p :: q) = if p.1 = F then p.2.toNat :: secsOf F q else secsOf F q := by
  unfold secsOf
  by_cases h : p.1 = F
  · rw [List.filter_cons_of_pos (by simpa using h), if_pos h, List.map_cons]
  · rw [List.filter_cons_of_neg (by simpa using h), if_neg h]
theorem surv_now (keep : List Int) (i : Nat) (p : Int × Int) (fs : Int → FilD) (F : Int) : (surv keep i p fs F).now = (fs F).now := by
  unfold surv
  split
  · rfl
  · simp only
    split
    · rename_i h; rw [h]
    · rfl
theorem survs_mix (F : Int) : ∀ (q : List (Int × Int)) (keep : List Int) (i : Nat) (fs : Int → FilD), (∀ p ∈ q, 0 ≤ p.2) →
    ∃ ns : List Nat, ns.Sublist (secsOf F q) ∧ (∀ n ∈ ns, n * 64 < (fs F).now.length) ∧ (survs keep i q fs F).now = (fs F).now ∧ (survs keep i q fs F).last = mixF (fs F).now ns (fs F).last
  | [], keep, i, fs, _ => ⟨[], List.Sublist.refl _, by simp, rfl, rfl⟩
  | p :: q, keep, i, fs, hp => by
    obtain ⟨ns, h1, h2, h3, h4⟩ := survs_mix F q keep (i + 1) (surv keep i p fs) (fun x hx => hp x (by simp [hx]))
    have hn := surv_now keep i p fs F
    rw [hn] at h2 h3 h4
    have hp0 := hp p (by simp)
    have e : survs keep i (p :: q) fs = survs keep (i + 1) q (surv keep i p fs) := rfl
    rw [e, secsOf_cons]
    by_cases hF : p.1 = F
    · rw [if_pos hF]
      by_cases hs : keep = [] ∨ keep.getD (i % keep.length) 0 % 2 = 0 ∨ ((fs p.1).now.length : Int) ≤ p.2 * 64
      · have e2 : surv keep i p fs = fs := by unfold surv; rw [if_pos hs]
        rw [e2] at h3 h4
        exact ⟨ns, h1.cons _, h2, by rw [e2]; exact h3, by rw [e2]; exact h4⟩
      · have e2 : (surv keep i p fs F).last = putL (fs F).last (p.2.toNat * 64) (secT (fs F).now p.2.toNat) := by
          unfold surv
          rw [if_neg hs, if_pos hF.symm, hF]
          unfold secT
          rw [show (p.2 * 64).toNat = p.2.toNat * 64 by omega]
        rw [e2] at h4
        refine ⟨p.2.toNat :: ns, h1.cons_cons _, fun n hn' => ?_, h3, h4⟩
        rcases List.mem_cons.1 hn' with rfl | hn'
        · rw [hF] at hs
          have : ¬ ((fs F).now.length : Int) ≤ p.2 * 64 := fun h => hs (.inr (.inr h))
          omega
        · exact h2 n hn'
    · rw [if_neg hF]
      have e2 : (surv keep i p fs F).last = (fs F).last := by
        unfold surv
        split
        · rfl
        · dsimp only
          rw [if_neg fun h => hF h.symm]
      rw [e2] at h4
      exact ⟨ns, h1, h2, h3, h4⟩
/-- what a crash leaves of a file -/
theorem crash_mix {d : DsS} (hd : d.down = false) (keep : List Int) (hq : ∀ p ∈ d.queue, 0 ≤ p.2) (F : Int) :
    ∃ ns : List Nat, ns.Sublist (secsOf F d.queue) ∧ (∀ n ∈ ns, n * 64 < (d.files F).now.length) ∧ (crashS d keep).files F = ⟨mixF (d.files F).now ns (d.files F).last, mixF (d.files F).now ns (d.files F).last⟩ := by
  obtain ⟨ns, h1, h2, _, h4⟩ := survs_mix F d.queue keep 0 d.files hq
  refine ⟨ns, h1, h2, ?_⟩
  unfold crashS
  rw [if_neg (by rw [hd]; simp)]
  show FilD.mk (survs keep 0 d.queue d.files F).last (survs keep 0 d.queue d.files F).last = _
  rw [h4]
theorem crash_queue {d : DsS} (hd : d.down = false) (keep : List Int) : (crashS d keep).queue = [] ∧ (crashS d keep).down = true ∧ (crashS d keep).armed = 0 ∧ (crashS d keep).lost = d.lost := by
  unfold crashS
  rw [if_neg (by rw [hd]; simp)]
  exact ⟨rfl, rfl, rfl, rfl⟩
end Go.Proofs.YtfccagphnfceiaaDoor
end

/-
  The cell and the journal under crashes, in plain Lean.
-/
section
set_option linter.unusedVariables false
set_option linter.unusedSimpArgs false
namespace Go.Proofs.YtfccagphnfceiaaDoor
open Go.Vc

/-! ### what stands in a cell's file -/
def CelAt (N : Bs) (slot : Nat) (v : Bs) : Prop :=
  (slot = 0 ∧ v = [] ∧ N.getD 0 0 = 0) ∨ ((slot = 1 ∨ slot = 2) ∧ v.length ≤ 65536 ∧ (∀ i, i < 5 → N[i]? = (hdrL slot v.length)[i]?) ∧ ∀ i, i < v.length → N[offS slot + i]? = v[i]?)
theorem hdr_len (slot n : Nat) : (hdrL slot n).length = 5 := rfl
theorem hdrN_of {slot n : Nat} (h : n ≤ 65536) : hdrN (hdrL slot n) = n := by
  unfold hdrN hdrL
  simp only [List.getD_cons_succ, List.getD_cons_zero, Nat.toUInt8, UInt8.toNat_ofNat']
  omega
theorem take_ext {N h : Bs} {n : Nat} (hn : h.length = n) (hg : ∀ i, i < n → N[i]? = h[i]?) : N.take n = h := by
  apply List.ext_getElem?
  intro i
  rcases Nat.lt_or_ge i n with hi | hi
  · rw [List.getElem?_take_of_lt hi, hg i hi]
  · rw [List.getElem?_eq_none (by rw [List.length_take]; omega), List.getElem?_eq_none (by omega)]
theorem mid_ext {N v : Bs} {a : Nat} (hg : ∀ i, i < v.length → N[a + i]? = v[i]?) : (N.drop a).take v.length = v := by
  apply List.ext_getElem?
  intro i
  rcases Nat.lt_or_ge i v.length with hi | hi
  · rw [List.getElem?_take_of_lt hi, List.getElem?_drop, hg i hi]
  · rw [List.getElem?_eq_none (by rw [List.length_take]; omega), List.getElem?_eq_none hi]
theorem readS_ok {d : DsS} {F a n : Int} (hd : d.down = false) (hF : 0 ≤ F ∧ F < 16) (ha : 0 ≤ a) (hn : 0 ≤ n) : readS d F a n = (((d.files F).now.drop a.toNat).take n.toNat, 0) := by
  have hm : mayS d F = 0 := by unfold mayS; rw [if_neg (by rw [hd]; simp), if_neg (by omega)]
  unfold readS
  rw [if_neg (by rw [hm]; simp), if_neg (by omega)]
theorem openC_at {d : DsS} {F : Int} {slot : Nat} {v : Bs} (hd : d.down = false) (hF : 0 ≤ F ∧ F < 16) (h : CelAt (d.files F).now slot v) : openC d F = (some ⟨F, slot, v, false⟩, 0) := by
  have hr := readS_ok (d := d) (F := F) (a := 0) (n := 5) hd hF (by omega) (by omega)
  have hr : readS d F 0 5 = ((d.files F).now.take 5, 0) := hr
  obtain ⟨N, hN⟩ : ∃ N, (d.files F).now = N := ⟨_, rfl⟩
  rw [hN] at h hr
  unfold openC
  rw [hr]
  simp only
  rw [if_neg (by simp)]
  rcases h with ⟨rfl, rfl, h0⟩ | ⟨hs, hv, hh, hval⟩
  · have h1 : (N.take 5).getD 0 0 = 0 := by
      cases N with
      | nil => rfl
      | cons x r => exact h0
    rw [if_pos (.inr h1)]
  · have ht : N.take 5 = hdrL slot v.length := take_ext (hdr_len _ _) hh
    have hsn : (slot.toUInt8).toNat = slot := by rcases hs with rfl | rfl <;> rfl
    have h0 : (hdrL slot v.length).getD 0 0 = slot.toUInt8 := rfl
    have hs8 : slot.toUInt8 = 1 ∨ slot.toUInt8 = 2 := by rcases hs with rfl | rfl <;> decide
    have hs80 : slot.toUInt8 ≠ 0 := by rcases hs with rfl | rfl <;> decide
    rw [ht, h0, hsn, hdrN_of hv]
    have hoff : (0 : Int) ≤ (offS slot : Int) := by omega
    rw [readS_ok hd hF hoff (by omega), hN]
    simp only [Int.toNat_natCast]
    rw [mid_ext hval]
    rw [if_neg (by
      intro h
      rcases h with h | h
      · have := congrArg List.length h
        rw [hdr_len] at this
        cases this
      · exact hs80 h), if_neg (by
      intro h
      rcases h with h | h
      · rw [hdr_len] at h; omega
      · rcases hs8 with h8 | h8
        · exact h.1 h8
        · exact h.2 h8), if_neg (by omega), if_neg (by simp), if_neg (by omega)]

/-- what may be read after a crash, or now -/
def Fut (f : FilD) (P : Nat → Bs → Prop) : Prop := (∃ s v, CelAt f.now s v ∧ P s v) ∧ ∀ ns : List Nat, (∀ n ∈ ns, n * 64 < f.now.length) → ∃ s v, CelAt (mixF f.now ns f.last) s v ∧ P s v
theorem mix_cel {N L : Bs} {s : Nat} {v : Bs} (hN : CelAt N s v) (hL : CelAt L s v) {ns : List Nat} (hs : ∀ n ∈ ns, n * 64 < N.length) : CelAt (mixF N ns L) s v := by
  rcases hL with ⟨rfl, rfl, h0⟩ | ⟨h1, h2, h3, h4⟩
  · rcases hN with ⟨_, _, n0⟩ | ⟨h, _⟩
    · exact .inl ⟨rfl, rfl, mix_zero n0 ns L hs h0⟩
    · omega
  · rcases hN with ⟨rfl, _⟩ | ⟨_, _, n3, n4⟩
    · omega
    · refine .inr ⟨h1, h2, fun i hi => ?_, fun i hi => ?_⟩
      · have e : (hdrL s v.length)[i]? = some ((hdrL s v.length)[i]'(by rw [hdr_len]; exact hi)) := List.getElem?_eq_getElem _
        rw [e]
        exact mix_agree (by rw [n3 i hi, e]) ns L hs (by rw [h3 i hi, e])
      · have e : v[i]? = some v[i] := List.getElem?_eq_getElem hi
        rw [e]
        exact mix_agree (by rw [n4 i hi, e]) ns L hs (by rw [h4 i hi, e])
/-- both parts say the same value -/
theorem fut_same {f : FilD} {s : Nat} {v : Bs} {P : Nat → Bs → Prop} (hN : CelAt f.now s v) (hL : CelAt f.last s v) (hP : P s v) : Fut f P := ⟨⟨s, v, hN, hP⟩, fun ns hs => ⟨s, v, mix_cel hN hL hs, hP⟩⟩
theorem mix_out_zero {N : Bs} : ∀ (ns : List Nat) (L : Bs), (∀ n ∈ ns, n * 64 < N.length ∧ n ≠ 0) → L.getD 0 0 = 0 → (mixF N ns L).getD 0 0 = 0
  | [], L, _, h => h
  | n :: ns, L, hs, h => by
    refine mix_out_zero ns _ (fun m hm => hs m (by simp [hm])) ?_
    have h1 := hs n (by simp)
    rw [List.getD_eq_getElem?_getD, put_sec h1.1, if_neg (by omega)]
    split
    · rfl
    · rw [← List.getD_eq_getElem?_getD]; exact h
/-- the header of a new value was written behind the old one -/
theorem fut_header {f : FilD} {s s' : Nat} {v v' : Bs} {P : Nat → Bs → Prop} (hs' : s' = 1 ∨ s' = 2) (hv' : v'.length ≤ 65536) (hL : CelAt f.last s v) (hnew : ∀ i, i < v'.length → f.last[offS s' + i]? = v'[i]?)
    (hnow : f.now = putL f.last 0 (hdrL s' v'.length)) (hP : P s v) (hP' : P s' v') : Fut f P := by
  have hne : hdrL s' v'.length ≠ [] := by intro e; have := congrArg List.length e; cases this
  have hlow : ∀ i, i < 5 → f.now[i]? = (hdrL s' v'.length)[i]? := fun i hi => by
    rw [hnow, putL_mid hne (Nat.zero_le _) (by rw [hdr_len]; omega), Nat.sub_zero]
  have hhigh : ∀ i, 5 ≤ i → f.now[i]? = f.last[i]? := fun i hi => by
    rw [hnow, putL_high hne (by rw [hdr_len]; omega)]
  have hoff : ∀ k, (k = 1 ∨ k = 2) → 5 ≤ offS k := fun k hk => by rcases hk with rfl | rfl <;> decide
  have hN : CelAt f.now s' v' := .inr ⟨hs', hv', hlow, fun i hi => by
    have := hoff s' hs'
    rw [hhigh _ (by omega)]
    exact hnew i hi⟩
  refine ⟨⟨s', v', hN, hP'⟩, fun ns hns => ?_⟩
  by_cases h0 : 0 ∈ ns
  · refine ⟨s', v', .inr ⟨hs', hv', fun i hi => ?_, fun i hi => ?_⟩, hP'⟩
    · have e : (hdrL s' v'.length)[i]? = some ((hdrL s' v'.length)[i]'(by rw [hdr_len]; exact hi)) := List.getElem?_eq_getElem _
      rw [e]
      exact mix_new (by rw [hlow i hi, e]) ns _ hns (by rw [show i / 64 = 0 by omega]; exact h0)
    · have := hoff s' hs'
      have e : v'[i]? = some v'[i] := List.getElem?_eq_getElem hi
      rw [e]
      exact mix_agree (by rw [hhigh _ (by omega), hnew i hi, e]) ns _ hns (by rw [hnew i hi, e])
  · have hns1 : ∀ n ∈ ns, n * 64 < f.now.length ∧ n ≠ 0 := fun n hn => ⟨hns n hn, fun e => h0 (e ▸ hn)⟩
    rcases hL with ⟨rfl, rfl, hz⟩ | ⟨h1, h2, h3, h4⟩
    · exact ⟨0, [], .inl ⟨rfl, rfl, mix_out_zero ns _ hns1 hz⟩, hP⟩
    · refine ⟨s, v, .inr ⟨h1, h2, fun i hi => ?_, fun i hi => ?_⟩, hP⟩
      · have e : (hdrL s v.length)[i]? = some ((hdrL s v.length)[i]'(by rw [hdr_len]; exact hi)) := List.getElem?_eq_getElem _
        rw [e]
        exact mix_out ns _ (fun n hn => ⟨(hns1 n hn).1, by have := (hns1 n hn).2; omega⟩) (by rw [h3 i hi, e])
      · have := hoff s h1
        have e : v[i]? = some v[i] := List.getElem?_eq_getElem hi
        rw [e]
        exact mix_agree (by rw [hhigh _ (by omega), h4 i hi, e]) ns _ hns (by rw [h4 i hi, e])
theorem Fut.mono {f : FilD} {P Q : Nat → Bs → Prop} (h : Fut f P) (hPQ : ∀ s v, P s v → Q s v) : Fut f Q :=
  ⟨by obtain ⟨s, v, h1, h2⟩ := h.1; exact ⟨s, v, h1, hPQ s v h2⟩, fun ns hs => by obtain ⟨s, v, h1, h2⟩ := h.2 ns hs; exact ⟨s, v, h1, hPQ s v h2⟩⟩
/-- a file that survived a crash -/
theorem Fut.crash {f : FilD} {P : Nat → Bs → Prop} (h : Fut f P) {ns : List Nat} (hs : ∀ n ∈ ns, n * 64 < f.now.length) : Fut ⟨mixF f.now ns f.last, mixF f.now ns f.last⟩ P := by
  obtain ⟨s, v, h1, h2⟩ := h.2 ns hs
  exact fut_same h1 h1 h2
theorem Fut.settle {f : FilD} {P : Nat → Bs → Prop} (h : Fut f P) : Fut ⟨f.now, f.now⟩ P := by
  obtain ⟨s, v, h1, h2⟩ := h.1
  exact fut_same h1 h1 h2
end Go.Proofs.YtfccagphnfceiaaDoor
end

/-
  What the calls of the disk do to its files, and Set to a cell, whatever fails; in plain Lean.
-/
section
set_option linter.unusedVariables false
set_option linter.unusedSimpArgs false
namespace Go.Proofs.YtfccagphnfceiaaDoor
open Go.Vc

/-- a file, after crashes -/
inductive Ev : FilD → FilD → Prop
  | refl (f : FilD) : Ev f f
  | step {f g : FilD} {ns : List Nat} : Ev f g → (∀ n ∈ ns, n * 64 < g.now.length) → Ev f ⟨mixF g.now ns g.last, mixF g.now ns g.last⟩
theorem Ev.trans {f g h : FilD} (h1 : Ev f g) (h2 : Ev g h) : Ev f h := by
  induction h2 with
  | refl => exact h1
  | step _ hs ih => exact .step ih hs
theorem Ev.fut {f g : FilD} {P : Nat → Bs → Prop} (h : Ev f g) (hP : Fut f P) : Fut g P := by
  induction h with
  | refl => exact hP
  | step _ hs ih => exact ih.crash hs
/-- both parts begin with these bytes -/
def Pre (B : Bs) (f : FilD) : Prop := ∀ (i : Nat) (x : UInt8), B[i]? = some x → f.now[i]? = some x ∧ f.last[i]? = some x
theorem Ev.pre {B : Bs} {f g : FilD} (h : Ev f g) (hP : Pre B f) : Pre B g := by
  induction h with
  | refl => exact hP
  | step _ hs ih =>
    intro i x hx
    obtain ⟨h1, h2⟩ := ih i x hx
    exact ⟨mix_agree h1 _ _ hs h2, mix_agree h1 _ _ hs h2⟩

/-- the disk's pending sectors have numbers -/
def DsW (d : DsS) : Prop := ∀ p ∈ d.queue, 0 ≤ p.2
/-- nothing fails -/
def DsH (d : DsS) : Prop := d.down = false ∧ d.armed = 0 ∧ d.lost = 0
theorem dsNew_h : DsH dsNew := ⟨rfl, rfl, rfl⟩
theorem crash_w {d : DsS} (hw : DsW d) (keep : List Int) : DsW (crashS d keep) := by
  unfold crashS
  split
  · exact hw
  · exact fun p hp => by cases hp
theorem crash_ev {d : DsS} (hw : DsW d) (keep : List Int) (F : Int) : Ev (d.files F) ((crashS d keep).files F) := by
  cases hd : d.down with
  | true =>
    have : crashS d keep = d := by unfold crashS; rw [if_pos hd]
    rw [this]
    exact .refl _
  | false =>
    obtain ⟨ns, _, h2, h3⟩ := crash_mix hd keep hw F
    rw [h3]
    exact .step (.refl _) h2
theorem tick_eq (d : DsS) : (tickS d).files = d.files ∧ (tickS d).queue = d.queue ∧ (tickS d).down = d.down ∧ (tickS d).lost = d.lost ∧ (tickS d).keep = d.keep := by
  unfold tickS
  split <;> exact ⟨rfl, rfl, rfl, rfl, rfl⟩
theorem tick_h {d : DsS} (h : DsH d) : tickS d = d ∧ endsB d = false := by
  unfold tickS endsB
  rw [if_pos (.inr h.2.1), h.2.1, h.1]
  exact ⟨rfl, rfl⟩
theorem addQ_w (f : Int) : ∀ (ns : List Int) (q : List (Int × Int)), (∀ n ∈ ns, 0 ≤ n) → (∀ p ∈ q, 0 ≤ p.2) → ∀ p ∈ addQ f ns q, 0 ≤ p.2
  | [], q, _, hq => hq
  | n :: ns, q, hn, hq => by
    refine addQ_w f ns _ (fun m hm => hn m (by simp [hm])) fun p hp => ?_
    split at hp
    · exact hq p hp
    · rcases List.mem_append.1 hp with hp | hp
      · exact hq p hp
      · rw [List.mem_singleton.1 hp]; exact hn n (by simp)
theorem secs_pos (a n : Nat) : ∀ m ∈ secsL a n, 0 ≤ m := fun m hm => by
  unfold secsL at hm
  obtain ⟨i, _, rfl⟩ := List.mem_map.1 hm
  omega
/-- a write into a file, by itself -/
theorem write0_out {d : DsS} {F a : Int} {s : Bs} (hF : 0 ≤ F ∧ F < 16) (ha : 0 ≤ a) (hs : a + s.length ≤ 16777216) (hw : DsW d) :
    DsW (write0 d F a s).1 ∧ (∀ G, G ≠ F → (write0 d F a s).1.files G = d.files G) ∧ (write0 d F a s).1.down = d.down ∧ (write0 d F a s).1.armed = d.armed ∧ (write0 d F a s).1.lost = d.lost ∧
    ((d.down = false ∧ (write0 d F a s).2 = 0 ∧ (write0 d F a s).1.files F = ⟨putL (d.files F).now a.toNat s, (d.files F).last⟩) ∨ (d.down = true ∧ (write0 d F a s).2 = 9 ∧ (write0 d F a s).1 = d)) := by
  cases hd : d.down with
  | true =>
    have hm : mayS d F = 9 := by unfold mayS; rw [if_pos hd]
    have e : write0 d F a s = (d, 9) := by unfold write0; rw [hm, if_pos (by decide)]
    rw [e]
    exact ⟨hw, fun _ _ => rfl, hd, rfl, rfl, .inr ⟨rfl, rfl, rfl⟩⟩
  | false =>
    have hm : mayS d F = 0 := by unfold mayS; rw [if_neg (by rw [hd]; simp), if_neg (by omega)]
    by_cases h0 : s = []
    · have e : write0 d F a s = (d, 0) := by unfold write0; rw [hm, if_neg (by decide), if_neg (by omega), if_neg (by omega), if_pos h0]
      rw [e, h0, putL_nil]
      exact ⟨hw, fun _ _ => rfl, hd, rfl, rfl, .inl ⟨rfl, rfl, rfl⟩⟩
    · have e : write0 d F a s = ({ d.set F ⟨putL (d.files F).now a.toNat s, (d.files F).last⟩ with queue := addQ F (secsL a.toNat s.length) d.queue }, 0) := by
        unfold write0; rw [hm, if_neg (by decide), if_neg (by omega), if_neg (by omega), if_neg h0]
      rw [e]
      refine ⟨addQ_w F _ _ (secs_pos _ _) hw, fun G hG => ?_, hd, rfl, rfl, .inl ⟨rfl, rfl, ?_⟩⟩
      · show (if G = F then _ else d.files G) = _
        rw [if_neg hG]
      · show (if F = F then _ else d.files F) = _
        rw [if_pos rfl]
theorem write_out {d : DsS} {F a : Int} {s : Bs} (hF : 0 ≤ F ∧ F < 16) (ha : 0 ≤ a) (hs : a + s.length ≤ 16777216) (hw : DsW d) :
    DsW (writeS d F a s).1 ∧ (∀ G, G ≠ F → Ev (d.files G) ((writeS d F a s).1.files G)) ∧ (DsH d → DsH (writeS d F a s).1 ∧ (writeS d F a s).2 = 0) ∧ ((writeS d F a s).1.lost = d.lost) ∧
    (((writeS d F a s).2 = 0 ∧ (writeS d F a s).1.files F = ⟨putL (d.files F).now a.toNat s, (d.files F).last⟩) ∨ ((writeS d F a s).2 = 9 ∧ (Ev (d.files F) ((writeS d F a s).1.files F) ∨ Ev ⟨putL (d.files F).now a.toNat s, (d.files F).last⟩ ((writeS d F a s).1.files F)))) := by
  obtain ⟨t1, t2, t3, t4, t5⟩ := tick_eq d
  have hwt : DsW (tickS d) := by unfold DsW; rw [t2]; exact hw
  obtain ⟨w1, w2, w3, w4, w5, w6⟩ := write0_out (d := tickS d) (s := s) hF ha hs hwt
  rw [t1] at w2 w6
  rw [t3] at w3 w6
  rw [t4] at w5
  cases he : endsB d with
  | true =>
    have e : writeS d F a s = (crashS (write0 (tickS d) F a s).1 d.keep, 9) := by unfold writeS; rw [if_pos he]
    have hd : d.down = false := by
      unfold endsB at he
      cases h : d.down with
      | true => rw [h] at he; cases he
      | false => rfl
    rw [e]
    refine ⟨crash_w w1 _, fun G hG => ?_, fun h => ?_, ?_, .inr ⟨rfl, .inr ?_⟩⟩
    · rw [← w2 G hG]; exact crash_ev w1 _ G
    · rw [(tick_h h).2] at he; cases he
    · rw [← w5]
      exact (crash_queue (by rw [w3]; exact hd) _).2.2.2
    · rcases w6 with ⟨_, _, w7⟩ | ⟨h, _⟩
      · rw [← w7]; exact crash_ev w1 _ F
      · rw [hd] at h; cases h
  | false =>
    have e : writeS d F a s = write0 (tickS d) F a s := by unfold writeS; rw [if_neg (by rw [he]; simp)]
    rw [e]
    refine ⟨w1, fun G hG => by rw [w2 G hG]; exact .refl _, fun h => ?_, w5, ?_⟩
    · rcases w6 with ⟨_, w7, _⟩ | ⟨h2, _⟩
      · have ht := (tick_h h).1
        rw [ht] at w3 w4 w5 w7 ⊢
        exact ⟨⟨by rw [w3]; exact h.1, by rw [w4]; exact h.2.1, by rw [w5]; exact h.2.2⟩, w7⟩
      · rw [h.1] at h2; cases h2
    · rcases w6 with ⟨_, w7, w8⟩ | ⟨_, w7, w8⟩
      · exact .inl ⟨w7, w8⟩
      · refine .inr ⟨w7, .inl ?_⟩
        rw [w8, t1]
        exact .refl _
theorem fall_out {d : DsS} (hw : DsW d) : DsW (fallS d) ∧ (∀ G, Ev (d.files G) ((fallS d).files G)) ∧ (DsH d → fallS d = d) ∧ (fallS d).lost = d.lost ∧ ((fallS d).down = false → (fallS d).files = d.files) := by
  obtain ⟨t1, t2, t3, t4, t5⟩ := tick_eq d
  have hwt : DsW (tickS d) := by unfold DsW; rw [t2]; exact hw
  unfold fallS
  cases he : endsB d with
  | true =>
    rw [if_pos rfl]
    have hd : d.down = false := by
      unfold endsB at he
      cases h : d.down with
      | true => rw [h] at he; cases he
      | false => rfl
    have hq := crash_queue (d := tickS d) (by rw [t3]; exact hd) d.keep
    refine ⟨crash_w hwt _, fun G => by rw [← t1]; exact crash_ev hwt _ G, fun h => ?_, by rw [hq.2.2.2, t4], fun h => ?_⟩
    · rw [(tick_h h).2] at he; cases he
    · rw [hq.2.1] at h; cases h
  | false =>
    rw [if_neg (by simp)]
    exact ⟨hwt, fun G => by rw [t1]; exact .refl _, fun h => (tick_h h).1, t4, fun _ => t1⟩
theorem sync_out {d : DsS} {F : Int} (hF : 0 ≤ F ∧ F < 16) (hw : DsW d) :
    DsW (syncS d F).1 ∧ (∀ G, G ≠ F → Ev (d.files G) ((syncS d F).1.files G)) ∧ (DsH d → DsH (syncS d F).1 ∧ (syncS d F).2 = 0) ∧
    (((syncS d F).2 = 0 ∧ (syncS d F).1.down = false ∧ (syncS d F).1.files F = ⟨(d.files F).now, (d.files F).now⟩) ∨ (((syncS d F).2 = 9 ∨ (syncS d F).2 = 10) ∧ Ev (d.files F) ((syncS d F).1.files F))) := by
  obtain ⟨f1, f2, f3, f4, f5⟩ := fall_out hw
  unfold syncS sync0
  cases hd : (fallS d).down with
  | true =>
    have hm : mayS (fallS d) F = 9 := by unfold mayS; rw [if_pos hd]
    rw [hm, if_pos (by decide)]
    refine ⟨f1, fun G _ => f2 G, fun h => ?_, .inr ⟨.inl rfl, f2 F⟩⟩
    rw [f3 h, h.1] at hd; cases hd
  | false =>
    have hm : mayS (fallS d) F = 0 := by unfold mayS; rw [if_neg (by rw [hd]; simp), if_neg (by omega)]
    rw [hm, if_neg (by decide)]
    by_cases hl : 0 < (fallS d).lost
    · rw [if_pos hl]
      refine ⟨f1, fun G _ => f2 G, fun h => ?_, .inr ⟨.inr rfl, f2 F⟩⟩
      rw [f4, h.2.2] at hl; omega
    · rw [if_neg hl]
      refine ⟨fun p hp => f1 p (List.mem_filter.1 hp).1, fun G hG => ?_, fun h => ?_, .inl ⟨rfl, hd, ?_⟩⟩
      · show Ev (d.files G) (if G = F then _ else (fallS d).files G)
        rw [if_neg hG]; exact f2 G
      · rw [f3 h]
        exact ⟨h, rfl⟩
      · show (if F = F then _ else (fallS d).files F) = _
        rw [if_pos rfl, f5 hd]

/-! ### Set -/
theorem put_cel {N : Bs} {s s' : Nat} {v v' : Bs} (hv' : v'.length ≤ 65536) (h : CelAt N s v) (hs' : s' = if s = 1 then 2 else 1) : CelAt (putL N (offS s') v') s v ∧ ∀ i, i < v'.length → (putL N (offS s') v')[offS s' + i]? = v'[i]? := by
  by_cases h0 : v' = []
  · rw [h0, putL_nil]
    exact ⟨h, fun i hi => by cases hi⟩
  refine ⟨?_, fun i hi => ?_⟩
  · rcases h with ⟨rfl, rfl, hz⟩ | ⟨h1, h2, h3, h4⟩
    · refine .inl ⟨rfl, rfl, ?_⟩
      rw [if_neg (by decide)] at hs'
      subst hs'
      rw [List.getD_eq_getElem?_getD, putL_low h0 (by decide)]
      split
      · rw [← List.getD_eq_getElem?_getD]; exact hz
      · rfl
    · have hne : ∀ i, i < 5 ∨ (offS s ≤ i ∧ i < offS s + v.length) → N[i]? ≠ none → (putL N (offS s') v')[i]? = N[i]? := by
        intro i hi hx
        have hl : i < N.length := by
          rcases Nat.lt_or_ge i N.length with h | h
          · exact h
          · exact absurd (List.getElem?_eq_none h) hx
        rcases h1 with rfl | rfl
        · rw [if_pos rfl] at hs'
          subst hs'
          rw [putL_low h0 (by
            have e1 : offS 1 = 64 := rfl
            have e2 : offS 2 = 131072 := rfl
            omega), if_pos hl]
        · rw [if_neg (by decide)] at hs'
          subst hs'
          have e1 : offS 1 = 64 := rfl
          have e2 : offS 2 = 131072 := rfl
          rcases Nat.lt_or_ge i 64 with h64 | h64
          · rw [putL_low h0 (by omega), if_pos hl]
          · rw [putL_high h0 (by omega)]
      refine .inr ⟨h1, h2, fun i hi => ?_, fun i hi => ?_⟩
      · have e := h3 i hi
        rw [hne i (.inl hi) (by rw [e, List.getElem?_eq_getElem (by rw [hdr_len]; exact hi)]; simp)]
        exact e
      · have e := h4 i hi
        rw [hne _ (.inr ⟨by omega, by omega⟩) (by rw [e, List.getElem?_eq_getElem hi]; simp)]
        exact e
  · rw [putL_mid h0 (by omega) (by omega), Nat.add_sub_cancel_left]
/-- the values that Set may leave behind if it fails -/
def OneOf (k : Nat) (v : Bs) (k' : Nat) (v' : Bs) : Nat → Bs → Prop := fun s w => (s = k ∧ w = v) ∨ (s = k' ∧ w = v')
structure SetR (d : DsS) (c : CelS) (s : Bs) (slot' : Nat) (r : DsS × CelS × Int) : Prop where
  w : DsW r.1
  other : ∀ G, G ≠ c.file → Ev (d.files G) (r.1.files G)
  fine : DsH d → DsH r.1 ∧ r.2.2 = 0
  file : r.2.1.file = c.file
  ok : r.2.2 = 0 → r.2.1.slot = slot' ∧ r.2.1.value = s ∧ ∃ X, r.1.files c.file = ⟨X, X⟩ ∧ CelAt X slot' s
  bad : r.2.2 ≠ 0 → (r.2.2 = 9 ∨ r.2.2 = 10) ∧ Fut (r.1.files c.file) (OneOf c.slot c.value slot' s)
theorem setC2_out {d : DsS} {c : CelS} {s : Bs} {slot' : Nat} (hF : 0 ≤ c.file ∧ c.file < 16) (hw : DsW d) (hs : s.length ≤ 65536) (hslot : slot' = if c.slot = 1 then 2 else 1)
    (hN : CelAt (d.files c.file).now c.slot c.value) (hL : CelAt (d.files c.file).last c.slot c.value) : SetR d c s slot' (setC2 d c s slot') := by
  have hs12 : slot' = 1 ∨ slot' = 2 := by rw [hslot]; split <;> simp
  have hoff : 0 ≤ (offS slot' : Int) ∧ (offS slot' : Int) + s.length ≤ 16777216 := by rcases hs12 with rfl | rfl <;> exact ⟨by decide, by show (_ : Int) + _ ≤ _; have e1 : offS 1 = 64 := rfl; have e2 : offS 2 = 131072 := rfl; omega⟩
  obtain ⟨p1, p2⟩ := put_cel hs hN hslot
  -- the value is written
  have hA := write_out (d := d) (F := c.file) (a := (offS slot' : Int)) (s := s) hF hoff.1 hoff.2 hw
  unfold setC2
  obtain ⟨⟨d1, e1⟩, h1⟩ : ∃ x, writeS d c.file (offS slot') s = x := ⟨_, rfl⟩
  rw [h1] at hA ⊢
  simp only at hA ⊢
  rw [Int.toNat_natCast] at hA
  obtain ⟨a1, a2, a3, _, a5⟩ := hA
  by_cases he1 : e1 ≠ 0
  · rw [if_pos he1]
    refine ⟨a1, a2, fun h => absurd (a3 h).2 he1, rfl, fun h => absurd h he1, fun _ => ?_⟩
    rcases a5 with ⟨h, _⟩ | ⟨h, h2⟩
    · exact absurd h he1
    · refine ⟨.inl h, ?_⟩
      rcases h2 with h2 | h2
      · exact h2.fut (fut_same hN hL (.inl ⟨rfl, rfl⟩))
      · exact h2.fut (fut_same p1 hL (.inl ⟨rfl, rfl⟩))
  rw [if_neg he1]
  have he1 : e1 = 0 := Decidable.not_not.1 he1
  have b5 : d1.files c.file = ⟨putL (d.files c.file).now (offS slot') s, (d.files c.file).last⟩ := by
    rcases a5 with ⟨_, h⟩ | ⟨h, _⟩
    · exact h
    · rw [he1] at h; cases h
  -- it is made durable
  have hB := sync_out (d := d1) (F := c.file) hF a1
  obtain ⟨⟨d2, e2⟩, h2⟩ : ∃ x, syncS d1 c.file = x := ⟨_, rfl⟩
  rw [h2] at hB ⊢
  simp only at hB ⊢
  rw [b5] at hB
  obtain ⟨c1, c2, c3, c4⟩ := hB
  by_cases he2 : e2 ≠ 0
  · rw [if_pos he2]
    refine ⟨c1, fun G hG => (a2 G hG).trans (c2 G hG), fun h => absurd (c3 (a3 h).1).2 he2, rfl, fun h => absurd h he2, fun _ => ?_⟩
    rcases c4 with ⟨h, _⟩ | ⟨h, h2⟩
    · exact absurd h he2
    · exact ⟨h, h2.fut (fut_same p1 hL (.inl ⟨rfl, rfl⟩))⟩
  rw [if_neg he2]
  have he2 : e2 = 0 := Decidable.not_not.1 he2
  have b6 : d2.files c.file = ⟨putL (d.files c.file).now (offS slot') s, putL (d.files c.file).now (offS slot') s⟩ := by
    rcases c4 with ⟨_, _, h⟩ | ⟨h, _⟩
    · exact h
    · rw [he2] at h; omega
  obtain ⟨X, hX⟩ : ∃ X, putL (d.files c.file).now (offS slot') s = X := ⟨_, rfl⟩
  rw [hX] at p1 p2 b6
  -- the header is written
  have hC := write_out (d := d2) (F := c.file) (a := 0) (s := hdrL slot' s.length) hF (Int.le_refl 0) (by rw [hdr_len]; decide) c1
  obtain ⟨⟨d3, e3⟩, h3⟩ : ∃ x, writeS d2 c.file 0 (hdrL slot' s.length) = x := ⟨_, rfl⟩
  rw [h3] at hC ⊢
  simp only at hC ⊢
  rw [b6] at hC
  obtain ⟨g1, g2, g3, _, g5⟩ := hC
  have hfut : Fut ⟨putL X 0 (hdrL slot' s.length), X⟩ (OneOf c.slot c.value slot' s) := fut_header hs12 hs p1 p2 rfl (.inl ⟨rfl, rfl⟩) (.inr ⟨rfl, rfl⟩)
  by_cases he3 : e3 ≠ 0
  · rw [if_pos he3]
    refine ⟨g1, fun G hG => ((a2 G hG).trans (c2 G hG)).trans (g2 G hG), fun h => absurd (g3 (c3 (a3 h).1).1).2 he3, rfl, fun h => absurd h he3, fun _ => ?_⟩
    rcases g5 with ⟨h, _⟩ | ⟨h, h2⟩
    · exact absurd h he3
    · refine ⟨.inl h, ?_⟩
      rcases h2 with h2 | h2
      · exact h2.fut (fut_same p1 p1 (.inl ⟨rfl, rfl⟩))
      · exact h2.fut hfut
  rw [if_neg he3]
  have he3 : e3 = 0 := Decidable.not_not.1 he3
  have b7 : d3.files c.file = ⟨putL X 0 (hdrL slot' s.length), X⟩ := by
    rcases g5 with ⟨_, h⟩ | ⟨h, _⟩
    · exact h
    · rw [he3] at h; cases h
  -- and made durable
  have hD := sync_out (d := d3) (F := c.file) hF g1
  obtain ⟨⟨d4, e4⟩, h4⟩ : ∃ x, syncS d3 c.file = x := ⟨_, rfl⟩
  rw [h4] at hD ⊢
  simp only at hD ⊢
  rw [b7] at hD
  obtain ⟨k1, k2, k3, k4⟩ := hD
  refine ⟨k1, fun G hG => (((a2 G hG).trans (c2 G hG)).trans (g2 G hG)).trans (k2 G hG), fun h => k3 (g3 (c3 (a3 h).1).1).1, rfl, fun h => ⟨rfl, rfl, putL X 0 (hdrL slot' s.length), ?_, ?_⟩, fun h => ?_⟩
  · rcases k4 with ⟨_, _, h'⟩ | ⟨h', _⟩
    · exact h'
    · simp only at h; rw [h] at h'; omega
  · have hne : hdrL slot' s.length ≠ [] := by intro e; have := congrArg List.length e; cases this
    refine .inr ⟨hs12, hs, fun i hi => ?_, fun i hi => ?_⟩
    · rw [putL_mid hne (Nat.zero_le _) (by rw [hdr_len]; omega), Nat.sub_zero]
    · have hge : 5 ≤ offS slot' := by rcases hs12 with rfl | rfl <;> decide
      rw [putL_high hne (by rw [hdr_len]; omega)]
      exact p2 i hi
  · rcases k4 with ⟨h', _⟩ | ⟨h', h2⟩
    · exact absurd h' h
    · exact ⟨h', h2.fut hfut⟩
theorem setC_out {d : DsS} {c : CelS} {s : Bs} (hF : 0 ≤ c.file ∧ c.file < 16) (hw : DsW d) (hs : s.length ≤ 65536)
    (hN : CelAt (d.files c.file).now c.slot c.value) (hL : CelAt (d.files c.file).last c.slot c.value) : SetR d c s (if c.slot = 1 then 2 else 1) (setC d c s) := by
  obtain ⟨k, hk⟩ : ∃ k : Nat, k = (if c.slot = 1 then 2 else 1) := ⟨_, rfl⟩
  unfold setC
  rw [← hk, if_neg (by omega : ¬ 65536 < s.length)]
  split
  · obtain ⟨a1, a2, a3, a4⟩ := sync_out (d := d) (F := c.file) hF hw
    obtain ⟨⟨d1, e1⟩, h1⟩ : ∃ x, syncS d c.file = x := ⟨_, rfl⟩
    rw [h1] at a1 a2 a3 a4 ⊢
    simp only at a1 a2 a3 a4 ⊢
    by_cases he : e1 ≠ 0
    · rw [if_pos he]
      refine ⟨a1, a2, fun h => absurd (a3 h).2 he, rfl, fun h => absurd h he, fun _ => ?_⟩
      rcases a4 with ⟨h, _⟩ | ⟨h, h2⟩
      · exact absurd h he
      · exact ⟨h, h2.fut (fut_same hN hL (.inl ⟨rfl, rfl⟩))⟩
    · rw [if_neg he]
      have he : e1 = 0 := Decidable.not_not.1 he
      have b : d1.files c.file = ⟨(d.files c.file).now, (d.files c.file).now⟩ := by
        rcases a4 with ⟨_, _, h⟩ | ⟨h, _⟩
        · exact h
        · rw [he] at h; omega
      have h := setC2_out (d := d1) (c := { c with sure := true }) (s := s) (slot' := k) hF a1 hs hk (by show CelAt (d1.files c.file).now c.slot c.value; rw [b]; exact hN) (by show CelAt (d1.files c.file).last c.slot c.value; rw [b]; exact hN)
      exact ⟨h.w, fun G hG => (a2 G hG).trans (h.other G hG), fun hh => h.fine (a3 hh).1, h.file, h.ok, h.bad⟩
  · exact setC2_out hF hw hs hk hN hL
end Go.Proofs.YtfccagphnfceiaaDoor
end

/-
  The journal, as plain data and under crashes, in plain Lean.
-/
section
set_option linter.unusedVariables false
set_option linter.unusedSimpArgs false
namespace Go.Proofs.YtfccagphnfceiaaDoor
open Go.Vc

def formL (l : List ByteArray) : Bs := l.flatMap fun s => (textB s).data.toList
def encB (b n : Nat) : Bs := (intB b).data.toList ++ (intB n).data.toList
def numsJ (c : CelS) : Int × Int × Bool := if c.slot = 0 then (0, 0, true) else ((rdNat (c.value, false)).1, (rdNat (rdNat (c.value, false)).2).1, rdDone (rdNat (rdNat (c.value, false)).2).2)
def loopJ : Nat → RdS → Int → List ByteArray → List ByteArray × RdS
  | 0, st, n, acc => (acc, st)
  | k + 1, st, n, acc => if (acc.length : Int) < n then (if st.1.length ≤ (stepT st).2.1.length ∨ st.1 = [] then (acc, (stepT st).2) else loopJ k (stepT st).2 n (acc ++ [(stepT st).1])) else (acc, st)
def endJ (s : Bs) (n : Int) (x : List ByteArray × RdS) : Option (List ByteArray) := if rdDone x.2 = true ∧ (x.1.length : Int) = n ∧ formL x.1 = s then some x.1 else none
def readJ (s : Bs) (n : Int) : Option (List ByteArray) := endJ s n (loopJ (s.length + 1) (s, false) n [])

structure JouS where
  base : Int
  cell : CelS
  list : List ByteArray
  bytes : Nat
  broken : Bool
def noteS (d : DsS) (j : JouS) (bytes n : Nat) : DsS × JouS × Int := ((setC d j.cell (encB bytes n)).1, { j with cell := (setC d j.cell (encB bytes n)).2.1, broken := decide ((setC d j.cell (encB bytes n)).2.2 ≠ 0) }, (setC d j.cell (encB bytes n)).2.2)
def logS (d : DsS) (j : JouS) (l : List ByteArray) : DsS × Int := if (writeS d j.base j.bytes (formL l)).2 = 0 then syncS (writeS d j.base j.bytes (formL l)).1 j.base else writeS d j.base j.bytes (formL l)
def gotS (j : JouS) (list : List ByteArray) (bytes : Nat) (r : DsS × JouS × Int) : DsS × JouS × Int := if r.2.2 ≠ 0 then r else (r.1, { r.2.1 with list := list, bytes := bytes }, 0)
def appendS (d : DsS) (j : JouS) (l : List ByteArray) : DsS × JouS × Int :=
  if j.broken = true then (d, j, 7) else if l = [] then (d, j, 0) else if 1048576 < j.bytes + (formL l).length then (d, j, 6) else
  if (logS d j l).2 ≠ 0 then ((logS d j l).1, { j with broken := true }, (logS d j l).2) else
  gotS j (j.list ++ l) (j.bytes + (formL l).length) (noteS (logS d j l).1 j (j.bytes + (formL l).length) (j.list.length + l.length))
def cutS (d : DsS) (j : JouS) (n : Int) : DsS × JouS × Int :=
  if j.broken = true then (d, j, 7) else if n < 0 ∨ (j.list.length : Int) < n then (d, j, 1) else if n = (j.list.length : Int) then (d, j, 0) else
  gotS j (j.list.take n.toNat) (formL (j.list.take n.toNat)).length (noteS d j (formL (j.list.take n.toNat)).length n.toNat)
def openJ2 (d : DsS) (base : Int) (c : CelS) : Option JouS × Int :=
  if (numsJ c).2.2 = false then (none, 2) else if (readS d base 0 (numsJ c).1).2 ≠ 0 then (none, (readS d base 0 (numsJ c).1).2) else
  match readJ (readS d base 0 (numsJ c).1).1 (numsJ c).2.1 with
  | none => (none, 2)
  | some l => if ((readS d base 0 (numsJ c).1).1.length : Int) ≠ (numsJ c).1 then (none, 2) else (some ⟨base, c, l, (numsJ c).1.toNat, false⟩, 0)
def openJ1 (d : DsS) (base : Int) : Option JouS × Int := match openC d (base + 1) with
  | (none, e) => (none, e)
  | (some c, _) => openJ2 d base c
def openJ (d : DsS) (base : Int) : DsS × Option JouS × Int :=
  if base < 0 ∨ 14 < base then (d, none, 1) else
  if (syncS d base).2 ≠ 0 then ((syncS d base).1, none, (syncS d base).2) else
  if (syncS (syncS d base).1 (base + 1)).2 ≠ 0 then ((syncS (syncS d base).1 (base + 1)).1, none, (syncS (syncS d base).1 (base + 1)).2) else
  ((syncS (syncS d base).1 (base + 1)).1, openJ1 (syncS (syncS d base).1 (base + 1)).1 base)

/-! ### reading what was written -/
theorem formL_cons (x : ByteArray) (l : List ByteArray) : formL (x :: l) = (textB x).data.toList ++ formL l := by simp [formL]
theorem formL_app (a b : List ByteArray) : formL (a ++ b) = formL a ++ formL b := List.flatMap_append
theorem text_pos {x : ByteArray} (h : x.size ≤ 9223372036854775807) : 2 ≤ (textB x).data.toList.length := by
  rw [textB_list, List.length_append, List.length_cons, List.length_append, List.length_singleton]
  omega
theorem formL_len {l : List ByteArray} (h : ∀ x ∈ l, x.size ≤ 9223372036854775807) : l.length * 2 ≤ (formL l).length := by
  induction l with
  | nil => simp [formL]
  | cons x l ih =>
    have h1 := ih fun y hy => h y (by simp [hy])
    have h2 := text_pos (h x (by simp))
    rw [formL_cons, List.length_append, List.length_cons]
    omega
theorem formL_size {l : List ByteArray} {x : ByteArray} (hx : x ∈ l) : x.size ≤ (formL l).length := by
  induction l with
  | nil => cases hx
  | cons y l ih =>
    rw [formL_cons, List.length_append]
    rcases List.mem_cons.1 hx with rfl | hx
    · have : x.size ≤ (textB x).data.toList.length := by
        rw [textB_list, List.length_append, List.length_cons, List.length_append, list_size]
        omega
      omega
    · have := ih hx
      omega
theorem loop_form : ∀ (k : Nat) (l acc : List ByteArray), (∀ x ∈ l, x.size ≤ 9223372036854775807) → l.length < k → loopJ k (formL l, false) ((acc.length + l.length : Nat) : Int) acc = (acc ++ l, ([], false))
  | 0, l, acc, _, h => by omega
  | k + 1, [], acc, _, _ => by
    unfold loopJ
    rw [if_neg (by rw [List.length_nil]; omega), List.append_nil]
    rfl
  | k + 1, x :: l, acc, hx, h => by
    have h1 := hx x (by simp)
    have h2 := text_pos h1
    have e : stepT (formL (x :: l), false) = (x, (formL l, false)) := by rw [formL_cons]; exact text_read h1
    have ih := loop_form k l (acc ++ [x]) (fun y hy => hx y (by simp [hy])) (by rw [List.length_cons] at h; omega)
    have hl : (formL (x :: l)).length = (textB x).data.toList.length + (formL l).length := by rw [formL_cons, List.length_append]
    unfold loopJ
    rw [e, if_pos (by rw [List.length_cons]; omega), if_neg (by
      simp only
      intro h
      rcases h with h | h
      · omega
      · rw [h, List.length_nil] at hl; omega)]
    simp only
    rw [List.length_append, List.length_singleton] at ih
    rw [show ((acc.length + (x :: l).length : Nat) : Int) = ((acc.length + 1 + l.length : Nat) : Int) by rw [List.length_cons]; omega, ih, List.append_assoc]
    rfl
theorem read_form {l : List ByteArray} (h : (formL l).length ≤ 9223372036854775807) : readJ (formL l) l.length = some l := by
  have hx : ∀ x ∈ l, x.size ≤ 9223372036854775807 := fun x hx => Nat.le_trans (formL_size hx) h
  have hl := formL_len hx
  have h1 := loop_form ((formL l).length + 1) l [] hx (by omega)
  rw [List.length_nil, Nat.zero_add, List.nil_append] at h1
  unfold readJ
  rw [h1]
  exact if_pos ⟨rfl, rfl, rfl⟩
theorem nums_enc {c : CelS} {b n : Nat} (hs : c.slot ≠ 0) (hv : c.value = encB b n) (hb : b ≤ 1099511627776) (hn : n ≤ 1099511627776) : numsJ c = ((b : Int), (n : Int), true) := by
  have e1 : rdNat (encB b n, false) = ((b : Int), ((intB n).data.toList, false)) := nat_read (n := b) (r := (intB n).data.toList) (bad := false) (by omega)
  have e2 : rdNat ((intB n).data.toList, false) = ((n : Int), ([], false)) := by
    have h := nat_read (n := n) (r := []) (bad := false) (by omega)
    rw [List.append_nil] at h
    exact h
  unfold numsJ
  rw [if_neg hs, hv, e1]
  simp only
  rw [e2]
  rfl
theorem encB_len {b n : Nat} (hb : b ≤ 1099511627776) (hn : n ≤ 1099511627776) : (encB b n).length ≤ 100 := by
  have h1 := intB_size (n := (b : Int)) (by unfold I64; omega)
  have h2 := intB_size (n := (n : Int)) (by unfold I64; omega)
  unfold encB
  rw [List.length_append, list_size, list_size]
  omega

/-! ### a journal that can be used -/
def Enc (s : Nat) (v : Bs) (l : List ByteArray) : Prop := (s = 0 ∧ l = []) ∨ (s ≠ 0 ∧ v = encB (formL l).length l.length)
structure Live (d : DsS) (j : JouS) : Prop where
  base : 0 ≤ j.base ∧ j.base ≤ 14
  file : j.cell.file = j.base + 1
  bytes : j.bytes = (formL j.list).length
  most : (formL j.list).length ≤ 1048576
  now : CelAt (d.files (j.base + 1)).now j.cell.slot j.cell.value
  last : CelAt (d.files (j.base + 1)).last j.cell.slot j.cell.value
  enc : Enc j.cell.slot j.cell.value j.list
  log : Pre (formL j.list) (d.files j.base)
/-- the lists that may be found when the journal is opened -/
def JFut (d : DsS) (b : Int) (P : List ByteArray → Prop) : Prop := Fut (d.files (b + 1)) fun s v => ∃ l, Enc s v l ∧ Pre (formL l) (d.files b) ∧ (formL l).length ≤ 1048576 ∧ P l
theorem Live.fut {d : DsS} {j : JouS} (h : Live d j) {P : List ByteArray → Prop} (hP : P j.list) : JFut d j.base P := fut_same h.now h.last ⟨j.list, h.enc, h.log, h.most, hP⟩
theorem JFut.mono {d : DsS} {b : Int} {P Q : List ByteArray → Prop} (h : JFut d b P) (hPQ : ∀ l, P l → Q l) : JFut d b Q := Fut.mono h fun s v ⟨l, h1, h2, h3, h4⟩ => ⟨l, h1, h2, h3, hPQ l h4⟩
theorem JFut.ev {d d' : DsS} {b : Int} {P : List ByteArray → Prop} (h : JFut d b P) (h1 : Ev (d.files (b + 1)) (d'.files (b + 1))) (h2 : Ev (d.files b) (d'.files b)) : JFut d' b P :=
  (h1.fut h).mono fun s v ⟨l, e1, e2, e3, e4⟩ => ⟨l, e1, h2.pre e2, e3, e4⟩
theorem Live.frame {d d' : DsS} {j : JouS} (h : Live d j) (hf : d'.files = d.files) : Live d' j := ⟨h.base, h.file, h.bytes, h.most, by rw [hf]; exact h.now, by rw [hf]; exact h.last, h.enc, by rw [hf]; exact h.log⟩
theorem new_fut (b : Int) : JFut dsNew b fun l => l = [] := fut_same (s := 0) (v := []) (.inl ⟨rfl, rfl, rfl⟩) (.inl ⟨rfl, rfl, rfl⟩) ⟨[], .inl ⟨rfl, rfl⟩, (show Pre (formL []) (dsNew.files b) from fun i x h => by simp [formL] at h), by decide, rfl⟩
theorem pre_take {B : Bs} {f : FilD} (h : Pre B f) : f.now.take B.length = B := take_ext rfl fun i hi => by
  rw [List.getElem?_eq_getElem hi]
  exact (h i _ (List.getElem?_eq_getElem hi)).1

structure OpenR (d : DsS) (b : Int) (P : List ByteArray → Prop) (r : DsS × Option JouS × Int) : Prop where
  w : DsW r.1
  other : ∀ G, Ev (d.files G) (r.1.files G) ∨ (G = b ∨ G = b + 1)
  fine : DsH d → DsH r.1 ∧ r.2.2 = 0
  or : (∃ j, r.2.1 = some j ∧ r.2.2 = 0 ∧ Live r.1 j ∧ P j.list ∧ j.base = b ∧ j.broken = false) ∨ (r.2.1 = none ∧ (r.2.2 = 9 ∨ r.2.2 = 10) ∧ JFut r.1 b P)
theorem openJ_out {d : DsS} {b : Int} {P : List ByteArray → Prop} (hb : 0 ≤ b ∧ b ≤ 14) (hw : DsW d) (h : JFut d b P) : OpenR d b P (openJ d b) := by
  have hb1 : 0 ≤ b ∧ b < 16 := by omega
  have hb2 : 0 ≤ b + 1 ∧ b + 1 < 16 := by omega
  unfold openJ
  rw [if_neg (by omega)]
  obtain ⟨a1, a2, a3, a4⟩ := sync_out (d := d) (F := b) hb1 hw
  obtain ⟨⟨d1, e1⟩, h1⟩ : ∃ x, syncS d b = x := ⟨_, rfl⟩
  rw [h1] at a1 a2 a3 a4 ⊢
  simp only at a1 a2 a3 a4 ⊢
  by_cases he1 : e1 ≠ 0
  · rw [if_pos he1]
    rcases a4 with ⟨h', _⟩ | ⟨h', h2⟩
    · exact absurd h' he1
    · refine ⟨a1, fun G => ?_, fun h => absurd (a3 h).2 he1, .inr ⟨rfl, h', h.ev (a2 _ (by omega)) h2⟩⟩
      by_cases hG : G = b
      · exact .inr (.inl hG)
      · exact .inl (a2 G hG)
  rw [if_neg he1]
  have he1 : e1 = 0 := Decidable.not_not.1 he1
  have f1 : d1.files b = ⟨(d.files b).now, (d.files b).now⟩ := by
    rcases a4 with ⟨_, _, h⟩ | ⟨h, _⟩
    · exact h
    · rw [he1] at h; omega
  have j1 : JFut d1 b P := ((a2 (b + 1) (by omega)).fut h).mono fun s v ⟨l, g1, g2, g3, g4⟩ => ⟨l, g1, fun i x hx => by rw [f1]; exact ⟨(g2 i x hx).1, (g2 i x hx).1⟩, g3, g4⟩
  obtain ⟨c1, c2, c3, c4⟩ := sync_out (d := d1) (F := b + 1) hb2 a1
  obtain ⟨⟨d2, e2⟩, h2⟩ : ∃ x, syncS d1 (b + 1) = x := ⟨_, rfl⟩
  rw [h2] at c1 c2 c3 c4 ⊢
  simp only at c1 c2 c3 c4 ⊢
  have oth : ∀ G, Ev (d.files G) (d2.files G) ∨ (G = b ∨ G = b + 1) := fun G => by
    by_cases hG : G = b
    · exact .inr (.inl hG)
    · by_cases hG2 : G = b + 1
      · exact .inr (.inr hG2)
      · exact .inl ((a2 G hG).trans (c2 G hG2))
  by_cases he2 : e2 ≠ 0
  · rw [if_pos he2]
    rcases c4 with ⟨h', _⟩ | ⟨h', h2⟩
    · exact absurd h' he2
    · exact ⟨c1, oth, fun h => absurd (c3 (a3 h).1).2 he2, .inr ⟨rfl, h', j1.ev h2 (c2 _ (by omega))⟩⟩
  rw [if_neg he2]
  have he2 : e2 = 0 := Decidable.not_not.1 he2
  obtain ⟨hdn, f2⟩ : d2.down = false ∧ d2.files (b + 1) = ⟨(d1.files (b + 1)).now, (d1.files (b + 1)).now⟩ := by
    rcases c4 with ⟨_, h1, h2⟩ | ⟨h, _⟩
    · exact ⟨h1, h2⟩
    · rw [he2] at h; omega
  obtain ⟨⟨s, v, k1, l, k2, k3, k4, k5⟩, _⟩ := j1
  have kb := c2 b (by omega)
  have k3 := kb.pre k3
  have k6 : CelAt (d2.files (b + 1)).now s v := by rw [f2]; exact k1
  have k7 : CelAt (d2.files (b + 1)).last s v := by rw [f2]; exact k1
  have ho := openC_at hdn hb2 k6
  have hl2 : l.length ≤ (formL l).length := by
    have := formL_len (l := l) fun x hx => Nat.le_trans (formL_size hx) (by omega)
    omega
  have hn : numsJ ⟨b + 1, s, v, false⟩ = (((formL l).length : Int), (l.length : Int), true) := by
    rcases k2 with ⟨hs, hl⟩ | ⟨hs, hv⟩
    · subst hl
      unfold numsJ
      rw [if_pos hs]
      rfl
    · exact nums_enc hs hv (by omega) (by omega)
  have hr : readS d2 b 0 ((formL l).length : Nat) = (formL l, 0) := by
    rw [readS_ok hdn hb1 (Int.le_refl 0) (by omega)]
    simp only [Int.toNat_natCast]
    rw [show (0 : Int).toNat = 0 from rfl, List.drop_zero, pre_take k3]
  have hj : openJ1 d2 b = (some ⟨b, ⟨b + 1, s, v, false⟩, l, (formL l).length, false⟩, 0) := by
    unfold openJ1
    rw [ho]
    simp only
    unfold openJ2
    rw [hn]
    simp only
    rw [hr]
    simp only
    rw [if_neg (by simp), if_neg (by simp), read_form (by omega)]
    simp only
    rw [if_neg (by simp)]
    rfl
  rw [hj]
  exact ⟨c1, oth, fun h => ⟨(c3 (a3 h).1).1, rfl⟩, .inl ⟨_, rfl, rfl, ⟨hb, rfl, rfl, k4, k6, k7, k2, k3⟩, k5, rfl, rfl⟩⟩

structure DoneR (d : DsS) (j : JouS) (want : List ByteArray) (r : DsS × JouS × Int) : Prop where
  w : DsW r.1
  other : ∀ G, Ev (d.files G) (r.1.files G) ∨ (G = j.base ∨ G = j.base + 1)
  fine : DsH d → DsH r.1 ∧ r.2.2 = 0
  base : r.2.1.base = j.base
  or : (r.2.2 = 0 ∧ r.2.1.broken = false ∧ r.2.1.list = want ∧ Live r.1 r.2.1) ∨ ((r.2.2 = 9 ∨ r.2.2 = 10) ∧ r.2.1.broken = true ∧ r.2.1.list = j.list ∧ JFut r.1 j.base fun l => l = j.list ∨ l = want)
/-- the length of a list is noted -/
theorem note_out {d : DsS} {j : JouS} {want : List ByteArray} (h : Live d j) (hw : DsW d) (hlog : Pre (formL want) (d.files j.base)) (hmost : (formL want).length ≤ 1048576) :
    DoneR d j want (gotS j want (formL want).length (noteS d j (formL want).length want.length)) := by
  have hbs := h.base
  have hwl : want.length ≤ (formL want).length := by
    have := formL_len (l := want) fun x hx => Nat.le_trans (formL_size hx) (by omega)
    omega
  have hS := setC_out (d := d) (c := j.cell) (s := encB (formL want).length want.length) (by rw [h.file]; omega) hw (by have := encB_len (b := (formL want).length) (n := want.length) (by omega) (by omega); omega) (by rw [h.file]; exact h.now) (by rw [h.file]; exact h.last)
  obtain ⟨⟨d1, c1, e1⟩, hx⟩ : ∃ x, setC d j.cell (encB (formL want).length want.length) = x := ⟨_, rfl⟩
  have hn : noteS d j (formL want).length want.length = (d1, { j with cell := c1, broken := decide (e1 ≠ 0) }, e1) := by unfold noteS; rw [hx]
  rw [hx] at hS
  rw [hn]
  have hfile : c1.file = j.base + 1 := by have := hS.file; rw [h.file] at this; exact this
  have oth : ∀ G, Ev (d.files G) (d1.files G) ∨ (G = j.base ∨ G = j.base + 1) := fun G => by
    by_cases hG : G = j.base + 1
    · exact .inr (.inr hG)
    · exact .inl (hS.other G (by rw [h.file]; exact hG))
  have evb : Ev (d.files j.base) (d1.files j.base) := hS.other _ (by rw [h.file]; omega)
  have hslot : ((if j.cell.slot = 1 then 2 else 1) : Nat) ≠ 0 := by split <;> decide
  unfold gotS
  simp only
  by_cases he : e1 ≠ 0
  · rw [if_pos he]
    obtain ⟨h1, h2⟩ := hS.bad he
    refine ⟨hS.w, oth, fun hh => absurd (hS.fine hh).2 he, rfl, .inr ⟨h1, by simpa using he, rfl, ?_⟩⟩
    rw [h.file] at h2
    refine Fut.mono h2 fun s v hv => ?_
    rcases hv with ⟨rfl, rfl⟩ | ⟨rfl, rfl⟩
    · exact ⟨j.list, h.enc, evb.pre h.log, h.most, .inl rfl⟩
    · exact ⟨want, .inr ⟨hslot, rfl⟩, evb.pre hlog, hmost, .inr rfl⟩
  · rw [if_neg he]
    have he : e1 = 0 := Decidable.not_not.1 he
    obtain ⟨h1, h2, X, h3, h4⟩ := hS.ok he
    have h1 : c1.slot = if j.cell.slot = 1 then 2 else 1 := h1
    have h2 : c1.value = encB (formL want).length want.length := h2
    rw [h.file] at h3
    rw [← h1, ← h2] at h4
    refine ⟨hS.w, oth, fun hh => ⟨(hS.fine hh).1, rfl⟩, rfl, .inl ⟨rfl, by rw [he]; rfl, rfl, ⟨hbs, hfile, rfl, hmost, ?_, ?_, .inr ⟨by rw [h1]; exact hslot, h2⟩, evb.pre hlog⟩⟩⟩
    · show CelAt (d1.files (j.base + 1)).now c1.slot c1.value
      rw [h3]; exact h4
    · show CelAt (d1.files (j.base + 1)).last c1.slot c1.value
      rw [h3]; exact h4
theorem DoneR.from {d d' : DsS} {j : JouS} {want : List ByteArray} {r : DsS × JouS × Int} (h : DoneR d' j want r) (ho : ∀ G, G ≠ j.base → Ev (d.files G) (d'.files G)) (hf : DsH d → DsH d') : DoneR d j want r :=
  ⟨h.w, fun G => by
    by_cases hG : G = j.base
    · exact .inr (.inl hG)
    · rcases h.other G with h1 | h1
      · exact .inl ((ho G hG).trans h1)
      · exact .inr h1, fun hh => h.fine (hf hh), h.base, h.or⟩
theorem append_out {d : DsS} {j : JouS} {l : List ByteArray} (h : Live d j) (hb : j.broken = false) (hw : DsW d) (hl : l ≠ []) (hmost : j.bytes + (formL l).length ≤ 1048576) : DoneR d j (j.list ++ l) (appendS d j l) := by
  have hbs := h.base
  have hby := h.bytes
  have hF : 0 ≤ j.base ∧ j.base < 16 := by omega
  unfold appendS
  rw [if_neg (by rw [hb]; simp), if_neg hl, if_neg (by omega)]
  have hfa : (formL (j.list ++ l)).length = j.bytes + (formL l).length := by rw [formL_app, List.length_append, hby]
  obtain ⟨a1, a2, a3, _, a5⟩ := write_out (d := d) (F := j.base) (a := (j.bytes : Int)) (s := formL l) hF (by omega) (by omega) hw
  rw [Int.toNat_natCast] at a5
  unfold logS
  obtain ⟨⟨d1, e1⟩, h1⟩ : ∃ x, writeS d j.base j.bytes (formL l) = x := ⟨_, rfl⟩
  rw [h1] at a1 a2 a3 a5 ⊢
  simp only at a1 a2 a3 a5 ⊢
  have lowP : ∀ X : Bs, (∀ i x, (formL j.list)[i]? = some x → X[i]? = some x) → ∀ i x, (formL j.list)[i]? = some x → (putL X j.bytes (formL l))[i]? = some x := fun X hX i x hx => by
    have hi : i < j.bytes := by rw [hby]; exact (List.getElem?_eq_some_iff.1 hx).1
    have h2 := hX i x hx
    have h3 : i < X.length := (List.getElem?_eq_some_iff.1 h2).1
    by_cases h0 : formL l = []
    · rw [h0, putL_nil]; exact h2
    · rw [putL_low h0 hi, if_pos h3]; exact h2
  have pw : Pre (formL j.list) ⟨putL (d.files j.base).now j.bytes (formL l), (d.files j.base).last⟩ := fun i x hx => ⟨lowP _ (fun i x hx => (h.log i x hx).1) i x hx, (h.log i x hx).2⟩
  have cellEv : ∀ {d' : DsS}, Ev (d.files (j.base + 1)) (d'.files (j.base + 1)) → Pre (formL j.list) (d'.files j.base) → JFut d' j.base fun x => x = j.list ∨ x = j.list ++ l := fun hev hp =>
    (hev.fut (fut_same h.now h.last (P := fun s v => s = j.cell.slot ∧ v = j.cell.value) ⟨rfl, rfl⟩)).mono fun s v hv => ⟨j.list, by rw [hv.1, hv.2]; exact h.enc, hp, h.most, .inl rfl⟩
  by_cases he1 : e1 = 0
  · rw [if_pos he1]
    have f1 : d1.files j.base = ⟨putL (d.files j.base).now j.bytes (formL l), (d.files j.base).last⟩ := by
      rcases a5 with ⟨_, h⟩ | ⟨h, _⟩
      · exact h
      · rw [he1] at h; cases h
    obtain ⟨c1, c2, c3, c4⟩ := sync_out (d := d1) (F := j.base) hF a1
    obtain ⟨⟨d2, e2⟩, h2⟩ : ∃ x, syncS d1 j.base = x := ⟨_, rfl⟩
    rw [h2] at c1 c2 c3 c4 ⊢
    simp only at c1 c2 c3 c4 ⊢
    rw [f1] at c4
    by_cases he2 : e2 ≠ 0
    · rw [if_pos he2]
      rcases c4 with ⟨h', _⟩ | ⟨h', hev⟩
      · exact absurd h' he2
      · refine ⟨c1, fun G => ?_, fun hh => absurd (c3 (a3 hh).1).2 he2, rfl, .inr ⟨h', rfl, rfl, cellEv ((a2 _ (by omega)).trans (c2 _ (by omega))) (hev.pre pw)⟩⟩
        by_cases hG : G = j.base
        · exact .inr (.inl hG)
        · exact .inl ((a2 G hG).trans (c2 G hG))
    rw [if_neg he2]
    have he2 : e2 = 0 := Decidable.not_not.1 he2
    have f2 : d2.files j.base = ⟨putL (d.files j.base).now j.bytes (formL l), putL (d.files j.base).now j.bytes (formL l)⟩ := by
      rcases c4 with ⟨_, _, h⟩ | ⟨h, _⟩
      · exact h
      · rw [he2] at h; omega
    have evc : Ev (d.files (j.base + 1)) (d2.files (j.base + 1)) := (a2 _ (by omega)).trans (c2 _ (by omega))
    have hnow := h.now
    have both : CelAt (d2.files (j.base + 1)).now j.cell.slot j.cell.value ∧ CelAt (d2.files (j.base + 1)).last j.cell.slot j.cell.value := by
      have : ∀ {f g : FilD}, Ev f g → CelAt f.now j.cell.slot j.cell.value → CelAt f.last j.cell.slot j.cell.value → CelAt g.now j.cell.slot j.cell.value ∧ CelAt g.last j.cell.slot j.cell.value := fun hev h1 h2 => by
        induction hev with
        | refl => exact ⟨h1, h2⟩
        | step _ hs ih => exact ⟨mix_cel ih.1 ih.2 hs, mix_cel ih.1 ih.2 hs⟩
      exact this evc h.now h.last
    have lg : Pre (formL (j.list ++ l)) (d2.files j.base) := fun i x hx => by
      rw [f2]
      have key : (putL (d.files j.base).now j.bytes (formL l))[i]? = some x := by
        rw [formL_app] at hx
        by_cases hi : i < (formL j.list).length
        · rw [List.getElem?_append_left hi] at hx
          exact lowP _ (fun i x hx => (h.log i x hx).1) i x hx
        · rw [List.getElem?_append_right (by omega)] at hx
          have hi2 : i - (formL j.list).length < (formL l).length := (List.getElem?_eq_some_iff.1 hx).1
          have h0 : formL l ≠ [] := fun e => by rw [e] at hi2; cases hi2
          rw [putL_mid h0 (by omega) (by omega), hby]
          exact hx
      exact ⟨key, key⟩
    have live2 : Live d2 j := ⟨h.base, h.file, h.bytes, h.most, both.1, both.2, h.enc, fun i x hx => by
      rw [f2]
      have := lowP _ (fun i x hx => (h.log i x hx).1) i x hx
      exact ⟨this, this⟩⟩
    have hN := note_out live2 c1 lg (by omega)
    rw [hfa, List.length_append] at hN
    exact hN.from (fun G hG => (a2 G hG).trans (c2 G hG)) fun hh => (c3 (a3 hh).1).1
  · rw [if_neg he1]
    simp only
    rw [if_pos he1]
    rcases a5 with ⟨h', _⟩ | ⟨h', hev⟩
    · exact absurd h' he1
    · refine ⟨a1, fun G => ?_, fun hh => absurd (a3 hh).2 he1, rfl, .inr ⟨.inl h', rfl, rfl, cellEv (a2 _ (by omega)) ?_⟩⟩
      · by_cases hG : G = j.base
        · exact .inr (.inl hG)
        · exact .inl (a2 G hG)
      · rcases hev with hev | hev
        · exact hev.pre h.log
        · exact hev.pre pw
theorem pre_low {A B : Bs} {f : FilD} (h : Pre (A ++ B) f) : Pre A f := fun i x hx => h i x (by rw [List.getElem?_append_left (List.getElem?_eq_some_iff.1 hx).1]; exact hx)
theorem cut_out {d : DsS} {j : JouS} {n : Nat} (h : Live d j) (hb : j.broken = false) (hw : DsW d) (hn : n < j.list.length) : DoneR d j (j.list.take n) (cutS d j n) := by
  have e : formL j.list = formL (j.list.take n) ++ formL (j.list.drop n) := by rw [← formL_app, List.take_append_drop]
  have hm := h.most
  rw [e, List.length_append] at hm
  have hp : Pre (formL (j.list.take n)) (d.files j.base) := pre_low (B := formL (j.list.drop n)) (by rw [← e]; exact h.log)
  unfold cutS
  rw [if_neg (by rw [hb]; simp), if_neg (by omega), if_neg (by omega), Int.toNat_natCast]
  have hN := note_out h hw hp (by omega)
  rw [List.length_take, Nat.min_eq_left (by omega)] at hN
  exact hN
end Go.Proofs.YtfccagphnfceiaaDoor
end

/-
  The reference's reader of encodings, walked: it does what the program's reader does.
-/
section
set_option linter.unusedVariables false
set_option linter.unusedSimpArgs false
namespace Go.Proofs.YtfccagphnfceiaaDoor
open Go.Vc


/-! ### plain -/
theorem getI : ∀ (l : List UInt8) (i : Nat), l.get?Internal i = l[i]?
  | [], _ => rfl
  | _ :: _, 0 => rfl
  | x :: l, i + 1 => by
    show l.get?Internal i = (x :: l)[i + 1]?
    rw [getI l i]; rfl
/-- a reader that has failed has nothing left -/
def RdOk (st : RdS) : Prop := st.2 = true → st.1 = []
theorem rdOkF : RdOk ([], true) := fun _ => rfl
theorem numP_nil (e : UInt8) (least : Int) : numP e least [] = none := by
  unfold numP
  simp [Lib.indexByte]
theorem stepN_ok {e : UInt8} {least : Int} {st : RdS} (h : RdOk st) : RdOk (stepN e least st).2 := by
  unfold stepN
  cases hn : numP e least st.1 with
  | none => exact rdOkF
  | some x =>
    obtain ⟨n, r⟩ := x
    intro hb
    have hb : st.2 = true := hb
    rw [h hb, numP_nil] at hn
    cases hn
theorem stepC_ok {c : UInt8} {st : RdS} (h : RdOk st) : RdOk (stepC c st) := by
  obtain ⟨l, b⟩ := st
  cases l with
  | nil => exact rdOkF
  | cons x r =>
    unfold stepC
    simp only
    split
    · intro hb
      have := h hb
      cases this
    · exact rdOkF
theorem stepT_ok {st : RdS} (h : RdOk st) : RdOk (stepT st).2 := by
  unfold stepT
  simp only
  split
  · exact rdOkF
  · refine stepC_ok fun hb => ?_
    have := stepN_ok (e := 58) (least := 0) h hb
    simp only
    rw [this, List.drop_nil]

theorem wrap_i64 (x : Int) : I64 (IntKind.i64.wrap x) := by
  unfold I64
  simp [IntKind.wrap, IntKind.signed, IntKind.bits]
  split <;> omega

section
variable {W w : World} {R G S : List Own} {Φ : PW} {b : Nat} {st : RdS}

end
end Go.Proofs.YtfccagphnfceiaaDoor
end

/-
  The list that stands in a log: the program's reading and the law's; in plain Lean.
-/
section
set_option linter.unusedVariables false
set_option linter.unusedSimpArgs false
namespace Go.Proofs.YtfccagphnfceiaaDoor
open Go.Vc

def loopW : Nat → RdS → Int → List ByteArray → List ByteArray × RdS
  | 0, st, n, acc => (acc, st)
  | k + 1, st, n, acc => if (acc.length : Int) < n ∧ st.1 ≠ [] then loopW k (stepT st).2 n (acc ++ [(stepT st).1]) else (acc, st)
theorem stepT_nil {st : RdS} (h : st.1 = []) : (stepT st).2 = ([], true) := by
  obtain ⟨l, b⟩ := st
  simp only at h
  subst h
  unfold stepT
  rw [stepN_none (numP_nil _ _)]
  rfl
theorem stepT_lt {st : RdS} (hok : RdOk st) (h : st.1 ≠ []) : (stepT st).2.1.length < st.1.length := by
  have hpos : 0 < st.1.length := List.length_pos_iff.2 h
  cases hb : (stepT st).2.2 with
  | true =>
    have := stepT_ok hok hb
    rw [this, List.length_nil]
    exact hpos
  | false =>
    have h1 := (text_is hb).2
    have h2 := congrArg List.length h1
    rw [List.length_append, textB_list, List.length_append, List.length_cons, List.length_append, List.length_singleton] at h2
    omega
theorem loops : ∀ (k : Nat) (st : RdS) (n : Int) (acc : List ByteArray), RdOk st → st.1.length < k →
    (loopJ k st n acc).1 = (loopW k st n acc).1 ∧ (((loopW k st n acc).1.length : Int) = n → loopJ k st n acc = loopW k st n acc) ∧ (((loopW k st n acc).1.length : Int) < n → rdDone (loopJ k st n acc).2 = false)
  | 0, st, n, acc, _, h => by omega
  | k + 1, st, n, acc, hok, h => by
    by_cases hn : (acc.length : Int) < n
    · by_cases h0 : st.1 = []
      · have e1 : loopJ (k + 1) st n acc = (acc, (stepT st).2) := by unfold loopJ; rw [if_pos hn, if_pos (.inr h0)]
        have e2 : loopW (k + 1) st n acc = (acc, st) := by unfold loopW; rw [if_neg fun h => h.2 h0]
        rw [e1, e2, stepT_nil h0]
        exact ⟨rfl, fun h => by simp only at h; omega, fun _ => rfl⟩
      · have hlt := stepT_lt hok h0
        have hno : ¬ (st.1.length ≤ (stepT st).2.1.length ∨ st.1 = []) := fun h => h.elim (fun h => by omega) h0
        have e1 : loopJ (k + 1) st n acc = loopJ k (stepT st).2 n (acc ++ [(stepT st).1]) := by
          conv => lhs; unfold loopJ
          rw [if_pos hn, if_neg hno]
        have e2 : loopW (k + 1) st n acc = loopW k (stepT st).2 n (acc ++ [(stepT st).1]) := by
          conv => lhs; unfold loopW
          rw [if_pos ⟨hn, h0⟩]
        rw [e1, e2]
        exact loops k _ n _ (stepT_ok hok) (by omega)
    · have e1 : loopJ (k + 1) st n acc = (acc, st) := by unfold loopJ; rw [if_neg hn]
      have e2 : loopW (k + 1) st n acc = (acc, st) := by unfold loopW; rw [if_neg fun h => hn h.1]
      rw [e1, e2]
      exact ⟨rfl, fun _ => rfl, fun h => absurd h hn⟩
end Go.Proofs.YtfccagphnfceiaaDoor
end

