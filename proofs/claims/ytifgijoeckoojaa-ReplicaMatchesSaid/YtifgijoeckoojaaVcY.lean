/-
  THE ROW, out of a contract over owned worlds.
-/
import Derived.Test.YtifgijoeckoojaaVcX
import Derived.Test.YtifgijoeckoojaaVcI
set_option linter.unusedVariables false
set_option linter.unusedSimpArgs false
namespace Go.Vc
open Go.ChangeShapes Go.WideShapes Go.RowKit

section
variable {H : Type} {enc : TypeId × Value → H} {P : Program} {W : World}

/-- what came in is plain data -/
theorem open_gv {α : Type} [Gv α] (d : Nat) {t : TypeId} {v : Value} {x : DataW H} {ps : List MemPlace} (hty : Ty.is P d (Gv.ty α) t = true) (h : DataW.Trod enc P W 0 (fun _ => true) true t v x ps) : ∃ y : α, Gv.rep [] W v.cells.toList y := by
  obtain ⟨fuel, h⟩ := h
  exact Gv.opens.ap hty h

theorem open_agg {α : Type} [Gv α] (d : Nat) {t : TypeId} {v : Value} {r : Reach} {base : Nat} {x : DataW H} {ps : List MemPlace} {fs : Array Field} (ht : P.underlying t = some (.struct fs)) (hv : Value.okWide P W r base t v) (hty : Ty.is P d (Gv.ty α) t = true)
    (h : DataW.Trod enc P W 0 (fun _ => true) true t v x ps) : ∃ (cs : List Value) (y : α), v = .agg cs.toArray ∧ Gv.rep [] W cs y := by
  obtain ⟨cs, rfl, _⟩ := okWide_struct ht hv
  obtain ⟨y, hy⟩ := open_gv (α := α) d hty h
  exact ⟨cs.toList, y, by simp, hy⟩

/-- .. a slice -/
theorem open_sl {α : Type} [Gv α] (d : Nat) {t e : TypeId} {v : Value} {r : Reach} {base : Nat} {x : DataW H} {ps : List MemPlace} (ht : P.underlying t = some (.slice e)) (hv : Value.okWide P W r base t v) (hty : Ty.is P d (Gv.ty (List α)) t = true)
    (h : DataW.Trod enc P W 0 (fun _ => true) true t v x ps) : ∃ (p : Option Addr) (cap : Nat) (l : List α), v = .slice p l.length cap ∧ l.length ≤ cap ∧ cap ≤ maxLen ∧ Sl [] W p l := by
  obtain ⟨a, len, cap, rfl⟩ := okWide_slice ht hv
  obtain ⟨l, hl⟩ := open_gv (α := List α) d hty h
  obtain ⟨p, c, e, h1, h2, h3⟩ := rep_list.1 hl
  simp only [Value.cells, List.cons.injEq, Value.slice.injEq, and_true] at e
  obtain ⟨rfl, rfl, rfl⟩ := e
  exact ⟨a, cap, l, rfl, h1, h2, h3⟩

theorem trodAll_five {w : World} {base : Nat} {spare : Nat → Bool} {held : Bool} {t t1 t2 t3 t4 : TypeId} {args : Array Value} {ds : List (DataW H)} {ps : List MemPlace} (h : DataW.TrodAll enc P w base spare held [t, t1, t2, t3, t4] args.toList ds ps) :
    ∃ v v1 v2 v3 v4 d d1 d2 d3 d4 p p1 p2 p3 p4, args = #[v, v1, v2, v3, v4] ∧ ds = [d, d1, d2, d3, d4] ∧ ps = p ++ p1 ++ p2 ++ p3 ++ p4 ∧ DataW.Trod enc P w base spare held t v d p ∧ DataW.Trod enc P w base spare held t1 v1 d1 p1 ∧ DataW.Trod enc P w base spare held t2 v2 d2 p2 ∧
      DataW.Trod enc P w base spare held t3 v3 d3 p3 ∧ DataW.Trod enc P w base spare held t4 v4 d4 p4 := by
  obtain ⟨v, vs, d, ds, p, q, hargs, rfl, rfl, h0, h⟩ := trodAll_cons h
  obtain ⟨v1, vs1, d1, ds1, p1, q1, rfl, rfl, rfl, h1, h⟩ := trodAll_cons h
  obtain ⟨v2, vs2, d2, ds2, p2, q2, rfl, rfl, rfl, h2, h⟩ := trodAll_cons h
  obtain ⟨v3, vs3, d3, ds3, p3, q3, rfl, rfl, rfl, h3, h⟩ := trodAll_cons h
  obtain ⟨v4, vs4, d4, ds4, p4, q4, rfl, rfl, rfl, h4, h⟩ := trodAll_cons h
  obtain ⟨rfl, rfl, rfl⟩ := trodAll_nil h
  exact ⟨v, v1, v2, v3, v4, d, d1, d2, d3, d4, p, p1, p2, p3, p4, by cases args; simp_all, rfl, by simp, h0, h1, h2, h3, h4⟩

/-- from a contract that knows what came in -/
theorem GivesIn.law {Φ : PW} {f : FuncId} {args : Array Value} (h : GivesIn Φ P f args (.bool true)) (h0 : Φ [] W) : Calls P f args W fun e W' => ∃ u, e = .returned u ∧ (u = .bool true ∧ Chg [] W W') :=
  (h.go W W [] (Ctx.start W h0)).mono fun e w' ⟨h1, h2⟩ => ⟨_, h1, rfl, h2.chg⟩

end

end Go.Vc
