/-
  Plans as plain data.
-/
import Derived.Test.YtflanndhfdfemaaWb
import Derived.Test.YtflanndhfdfemaaVcX
set_option linter.unusedVariables false
set_option linter.unusedSimpArgs false
namespace Go.Proofs.Ytflanndhfdfemaa
open Go.Vc

structure ColD where
  name : ByteArray
  type : Int
  unit : ByteArray

instance : Gv ColD := Gv.via (β := ByteArray × Int × ByteArray) (fun x => (x.name, x.type, x.unit)) (fun y => ⟨y.1, y.2.1, y.2.2⟩) (fun _ => rfl)

structure NodeD where
  op : Int
  inp : List Int
  src : ByteArray
  schema : Int
  exprs : Opq
  kind : Int
  size : Int
  step : Int
  key : List Int
  key2 : List Int
  before : Int
  after : Int
  keep : Int
  aggs : Opq
  seq : Opq
  cols : List ColD

instance : Gv NodeD := Gv.via (β := Int × List Int × ByteArray × Int × Opq × Int × Int × Int × List Int × List Int × Int × Int × Int × Opq × Opq × List ColD)
  (fun x => (x.op, x.inp, x.src, x.schema, x.exprs, x.kind, x.size, x.step, x.key, x.key2, x.before, x.after, x.keep, x.aggs, x.seq, x.cols))
  (fun y => ⟨y.1, y.2.1, y.2.2.1, y.2.2.2.1, y.2.2.2.2.1, y.2.2.2.2.2.1, y.2.2.2.2.2.2.1, y.2.2.2.2.2.2.2.1, y.2.2.2.2.2.2.2.2.1, y.2.2.2.2.2.2.2.2.2.1, y.2.2.2.2.2.2.2.2.2.2.1, y.2.2.2.2.2.2.2.2.2.2.2.1, y.2.2.2.2.2.2.2.2.2.2.2.2.1, y.2.2.2.2.2.2.2.2.2.2.2.2.2.1, y.2.2.2.2.2.2.2.2.2.2.2.2.2.2.1, y.2.2.2.2.2.2.2.2.2.2.2.2.2.2.2⟩) (fun _ => rfl)

/-- the cells of a node that stands for plain data -/
theorem node_cells {M : List Nat} {w : World} {cs : List Value} {x : NodeD} (h : Gv.rep M w cs x) : ∃ c : NodeC, cs = c.cells ∧ c.Ok ∧ c.n0 = x.op ∧ c.n1N = x.inp.length ∧ Sl M w c.n1P x.inp ∧ c.n5 = x.kind ∧ c.n6 = x.size ∧ c.n7 = x.step ∧
    c.n10 = x.before ∧ c.n11 = x.after ∧ c.n12 = x.keep ∧ c.n14N = x.seq.len ∧ c.n15N = x.cols.length ∧ Sl M w c.n15P x.cols := by
  obtain ⟨_, _, rfl, ⟨rfl, g0⟩, _, _, rfl, ⟨p1, c1, rfl, _, _, s1⟩, _, _, rfl, ⟨rfl, _⟩, _, _, rfl, ⟨rfl, g3⟩, _, _, rfl, ⟨p4, c4, rfl, _⟩, _, _, rfl, ⟨rfl, g5⟩, _, _, rfl, ⟨rfl, g6⟩, _, _, rfl, ⟨rfl, g7⟩, _, _, rfl, ⟨p8, c8, rfl, _⟩, _, _, rfl, ⟨p9, c9, rfl, _⟩,
    _, _, rfl, ⟨rfl, g10⟩, _, _, rfl, ⟨rfl, g11⟩, _, _, rfl, ⟨rfl, g12⟩, _, _, rfl, ⟨p13, c13, rfl, _⟩, _, _, rfl, ⟨p14, c14, rfl, _⟩, p15, c15, rfl, _, _, s15⟩ := h
  exact ⟨⟨x.op, p1, _, c1, x.src, x.schema, p4, _, c4, x.kind, x.size, x.step, p8, _, c8, p9, _, c9, x.before, x.after, x.keep, p13, _, c13, p14, _, c14, p15, _, c15⟩, rfl, ⟨g5, g6, g7, g10, g11, g12⟩, rfl, rfl, s1, rfl, rfl, rfl, rfl, rfl, rfl, rfl, rfl, s15⟩

theorem sl_int {M : List Nat} {w : World} {b o : Nat} {l : List Int} (h : Sl M w (some ⟨b, o, none⟩) l) {i : Nat} (hi : i < l.length) : w.cell? ⟨b, o + i, none⟩ = some (.int .i64 l[i]) := by
  obtain ⟨b', o', cs, e, _, h3, rfl, _⟩ := h i hi
  cases e
  have := h3 0 (by simp)
  simpa [show (Gv.ty Int).size = 1 from rfl] using this

theorem sl_int64 {M : List Nat} {w : World} {p : Option Addr} {l : List Int} (h : Sl M w p l) {i : Nat} (hi : i < l.length) : I64 l[i] := by
  obtain ⟨b', o', cs, e, _, h3, rfl, h4⟩ := h i hi
  exact h4

end Go.Proofs.Ytflanndhfdfemaa
