/-
  The conditions of the walks of some functions, one formula each; 'B<f>_run' says that they suffice. The formulas are printed by a program; the kernel compares them with the functions' code.
-/
import Derived.Test.YtifgijoeckoojaaBa
namespace Go.Proofs.Ytifgijoeckoojaa
set_option linter.unusedVariables false
set_option linter.unusedSimpArgs false
open Go.Vc

/-- erratalaw08.pick -/
def Qerratalaw08_pick (n : Int) (m : Int) (w : World) (J : Value → World → Prop) : Prop :=
  Br (decide (m < 1)) (J (Value.int IntKind.i64 0) w) ((m = 0 → False) ∧ Br (decide (n.tmod m < 0)) (I64 (n.tmod m + m) ∧ J (Value.int IntKind.i64 (n.tmod m + m)) w) (J (Value.int IntKind.i64
  (n.tmod m)) w))

theorem Qerratalaw08_pick_run (n : Int) (m : Int) (w : World) (J : Value → World → Prop) (h : Qerratalaw08_pick n m w J) : Calls Try.prog F.erratalaw08_pick #[.int .i64 n, .int .i64 m] w fun e w' => ∃ v, e = .returned v ∧ J v w' :=
  vcF_sound (H := { keep := some [0, 1, 4, 6, 11] }) (by rw [show vcF Try.prog { keep := some [0, 1, 4, 6, 11] } F.erratalaw08_pick #[.int .i64 n, .int .i64 m] w J = Qerratalaw08_pick n m w J by kernel_rfl]; exact h)

end Go.Proofs.Ytifgijoeckoojaa
