/-
  What comes in: plans and configurations.
-/
import Derived.Test.YtflanndhfdfemaaWj
import Derived.Test.YtflanndhfdfemaaVcY
set_option linter.unusedVariables false
set_option linter.unusedSimpArgs false
namespace Go.Proofs.Ytflanndhfdfemaa
open Go.ChangeShapes Go.WideShapes Go.ChangeAt Go.RowKit Go.Vc

theorem bd_own : ownKnob Try.prog.godebug = none := by kernel_rfl
theorem bd_laid : laidOutB Try.prog = true := by kernel_rfl

instance : Gv CfgC := Gv.via (β := Int × Int × Int × Int × Int × Int) (fun x => (x.parts, x.delay, x.late, x.ahead, x.rate, x.span)) (fun y => ⟨y.1, y.2.1, y.2.2.1, y.2.2.2.1, y.2.2.2.2.1, y.2.2.2.2.2⟩) (fun _ => rfl)

theorem cfg_rep {M : List Nat} {w : World} {cs : List Value} {x : CfgC} (h : Gv.rep M w cs x) : Value.agg cs.toArray = x.v ∧ I64 x.parts ∧ I64 x.rate ∧ I64 x.span := by
  obtain ⟨_, _, rfl, ⟨rfl, h1⟩, _, _, rfl, ⟨rfl, _⟩, _, _, rfl, ⟨rfl, _⟩, _, _, rfl, ⟨rfl, _⟩, _, _, rfl, ⟨rfl, h5⟩, rfl, h6⟩ := h
  exact ⟨rfl, h1, h5, h6⟩

section
variable {H : Type} {enc : TypeId × Value → H} {W : World}

theorem open_prog {v : Value} {base : Nat} {x : DataW H} {ps : List MemPlace} (hv : Value.okWide Try.prog W .any base 25 v) (h : DataW.Trod enc Try.prog W 0 (fun _ => true) true 25 v x ps) :
    ∃ p0P p0N p0C p cap, ∃ l : List NodeD, v = .agg #[.slice p0P p0N p0C, .slice p l.length cap] ∧ l.length ≤ cap ∧ cap ≤ maxLen ∧ Sl [] W p l := by
  obtain ⟨cs, y, rfl, hy⟩ := open_agg (α := Opq × List NodeD) 8 Try.underlying25 hv (by kernel_rfl) h
  obtain ⟨_, _, rfl, ⟨p0, c0, rfl, _⟩, p, c, rfl, h1, h2, h3⟩ := hy
  exact ⟨p0, _, c0, p, c, y.2, rfl, h1, h2, h3⟩

theorem open_cfg {v : Value} {base : Nat} {x : DataW H} {ps : List MemPlace} (hv : Value.okWide Try.prog W .any base 27 v) (h : DataW.Trod enc Try.prog W 0 (fun _ => true) true 27 v x ps) :
    ∃ c : CfgC, v = c.v ∧ I64 c.parts ∧ I64 c.rate ∧ I64 c.span := by
  obtain ⟨cs, y, rfl, hy⟩ := open_agg (α := CfgC) 8 Try.underlying27 hv (by kernel_rfl) h
  exact ⟨y, cfg_rep hy⟩

end

end Go.Proofs.Ytflanndhfdfemaa
