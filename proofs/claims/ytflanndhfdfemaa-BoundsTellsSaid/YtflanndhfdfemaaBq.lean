/-
  The conditions of the walks of some functions, one formula each; 'B<f>_run' says that they suffice. The formulas are printed by a program; the kernel compares them with the functions' code.
-/
import Derived.Test.YtflanndhfdfemaaBa
set_option linter.unusedVariables false
set_option linter.unusedSimpArgs false
namespace Go.Proofs.Ytflanndhfdfemaa
open Go.Vc

/-- errataref20.Same -/
-- loop at region 4: 5 i
def Qerrataref20_Same (aP : Option Addr) (aN aC : Nat) (bP : Option Addr) (bN bC : Nat) (w : World) (J : Value → World → Prop) : Prop :=
  Br (decide ((↑aN : Int) ≠ (↑bN : Int))) (J (Value.bool false) w) (exI fun (I0 : Int → World → Prop) => exI fun (I1 : Int → World → Nat) => I0 0 w ∧ ∀ (n2 : Int) (w3 : World), I0 n2 w3 → Br
  (decide (n2 < (↑aN : Int))) ((0 ≤ n2 ∧ n2 < (↑aN : Int)) ∧ ptrK none aP fun (k4 k5 : Nat) => ∃ (n6 : Int), ∃ (n7 : Int), ∃ (n8 : Int), ∃ (n9 : Int), RowAt w3 k4 (k5 + n2.toNat * 4)
  [Value.int IntKind.i64 n6, Value.int IntKind.i64 n7, Value.int IntKind.i64 n8, Value.int IntKind.i64 n9] ∧ (0 ≤ n2 ∧ n2 < (↑bN : Int)) ∧ ptrK none bP fun (k10 k11 : Nat) => ∃ (n12 : Int), ∃
  (n13 : Int), ∃ (n14 : Int), ∃ (n15 : Int), RowAt w3 k10 (k11 + n2.toNat * 4) [Value.int IntKind.i64 n12, Value.int IntKind.i64 n13, Value.int IntKind.i64 n14, Value.int IntKind.i64 n15] ∧
  okAgg Try.prog 37 = true ∧ ∀ (k16 : Nat), Br (!(decide (n6 = n12) && (decide (n7 = n13) && (decide (n8 = n14) && (decide (n9 = n15) && true))))) (J (Value.bool false) (w3.drewN k16)) (I64
  (n2 + 1) ∧ I0 (n2 + 1) (w3.drewN k16) ∧ I1 (n2 + 1) (w3.drewN k16) < I1 n2 w3)) (J (Value.bool true) w3))

theorem Qerrataref20_Same_run (aP : Option Addr) (aN aC : Nat) (bP : Option Addr) (bN bC : Nat) (w : World) (J : Value → World → Prop) (h : Qerrataref20_Same aP aN aC bP bN bC w J) : Calls Try.prog F.errataref20_Same #[.slice aP aN aC, .slice bP bN bC] w fun e w' => ∃ v, e = .returned v ∧ J v w' :=
  vcF_sound (H := { keep := some [0, 1, 4, 5, 10, 14, 25], loops := [(4, [(5, .one (.int .i64))])] }) (by rw [show vcF Try.prog { keep := some [0, 1, 4, 5, 10, 14, 25], loops := [(4, [(5, .one (.int .i64))])] } F.errataref20_Same #[.slice aP aN aC, .slice bP bN bC] w J = Qerrataref20_Same aP aN aC bP bN bC w J by kernel_rfl]; exact h)

/-- errataref20.SameRows -/
-- loop at region 9: 6 k
-- loop at region 4: 5 i
def Qerrataref20_SameRows (aP : Option Addr) (aN aC : Nat) (bP : Option Addr) (bN bC : Nat) (w : World) (J : Value → World → Prop) : Prop :=
  Br (decide ((↑aN : Int) ≠ (↑bN : Int))) (J (Value.bool false) w) (exI fun (I0 : Int → World → Prop) => exI fun (I1 : Int → World → Nat) => I0 0 w ∧ ∀ (n2 : Int) (w3 : World), I0 n2 w3 → Br
  (decide (n2 < (↑aN : Int))) ((0 ≤ n2 ∧ n2 < (↑aN : Int)) ∧ ptrK none aP fun (k4 k5 : Nat) => ∃ (n6 : Int), w3.cell? (Addr.mk k4 (k5 + n2.toNat * 3) none) = some (Value.int IntKind.i64 n6) ∧
  (0 ≤ n2 ∧ n2 < (↑bN : Int)) ∧ ptrK none bP fun (k7 k8 : Nat) => ∃ (n9 : Int), w3.cell? (Addr.mk k7 (k8 + n2.toNat * 3) none) = some (Value.int IntKind.i64 n9) ∧ ((!decide (n6 ≠ n9)) = true
  → 0 ≤ n2 ∧ n2 < (↑aN : Int)) ∧ ptrK (some !decide (n6 ≠ n9)) aP fun (k10 k11 : Nat) => ∃ (n12 : Int), ((!decide (n6 ≠ n9)) = true → w3.cell? (Addr.mk k10 (k11 + n2.toNat * 3 + 2) none) =
  some (Value.int IntKind.i64 n12)) ∧ ((!decide (n6 ≠ n9)) = true → 0 ≤ n2 ∧ n2 < (↑bN : Int)) ∧ ptrK (some !decide (n6 ≠ n9)) bP fun (k13 k14 : Nat) => ∃ (n15 : Int), ((!decide (n6 ≠ n9)) =
  true → w3.cell? (Addr.mk k13 (k14 + n2.toNat * 3 + 2) none) = some (Value.int IntKind.i64 n15)) ∧ ((!(decide (n6 ≠ n9) || decide (n12 ≠ n15))) = true → 0 ≤ n2 ∧ n2 < (↑aN : Int)) ∧ ptrK
  (some !(decide (n6 ≠ n9) || decide (n12 ≠ n15))) aP fun (k16 k17 : Nat) => ∃ (p18 : Option Addr), ∃ (k19 : Nat), ∃ (k20 : Nat), ((!(decide (n6 ≠ n9) || decide (n12 ≠ n15))) = true →
  w3.cell? (Addr.mk k16 (k17 + n2.toNat * 3 + 1) none) = some (Value.slice p18 k19 k20)) ∧ ((!(decide (n6 ≠ n9) || decide (n12 ≠ n15))) = true → 0 ≤ n2 ∧ n2 < (↑bN : Int)) ∧ ptrK (some
  !(decide (n6 ≠ n9) || decide (n12 ≠ n15))) bP fun (k21 k22 : Nat) => ∃ (p23 : Option Addr), ∃ (k24 : Nat), ∃ (k25 : Nat), ((!(decide (n6 ≠ n9) || decide (n12 ≠ n15))) = true → w3.cell?
  (Addr.mk k21 (k22 + n2.toNat * 3 + 1) none) = some (Value.slice p23 k24 k25)) ∧ ∀ (k26 : Nat), Br (decide (n6 ≠ n9) || decide (n12 ≠ n15) || decide ((↑k19 : Int) ≠ (↑k24 : Int))) (J
  (Value.bool false) (w3.drewN k26)) (exI fun (I27 : Int → World → Prop) => exI fun (I28 : Int → World → Nat) => I27 0 (w3.drewN k26) ∧ ∀ (n29 : Int) (w30 : World), I27 n29 w30 → (0 ≤ n2 ∧ n2
  < (↑aN : Int)) ∧ ptrK none aP fun (k31 k32 : Nat) => ∃ (p33 : Option Addr), ∃ (k34 : Nat), ∃ (k35 : Nat), w30.cell? (Addr.mk k31 (k32 + n2.toNat * 3 + 1) none) = some (Value.slice p33 k34
  k35) ∧ Br (decide (n29 < (↑k34 : Int))) ((0 ≤ n2 ∧ n2 < (↑aN : Int)) ∧ ptrK none aP fun (k36 k37 : Nat) => ∃ (p38 : Option Addr), ∃ (k39 : Nat), ∃ (k40 : Nat), w30.cell? (Addr.mk k36 (k37 +
  n2.toNat * 3 + 1) none) = some (Value.slice p38 k39 k40) ∧ (0 ≤ n29 ∧ n29 < (↑k39 : Int)) ∧ ptrK none p38 fun (k41 k42 : Nat) => ∃ (n43 : Int), ∃ (n44 : Int), ∃ (s45 : ByteArray), RowAt w30
  k41 (k42 + n29.toNat * 3) [Value.int IntKind.i64 n43, Value.int IntKind.i64 n44, Value.string s45] ∧ (0 ≤ n2 ∧ n2 < (↑bN : Int)) ∧ ptrK none bP fun (k46 k47 : Nat) => ∃ (p48 : Option Addr),
  ∃ (k49 : Nat), ∃ (k50 : Nat), w30.cell? (Addr.mk k46 (k47 + n2.toNat * 3 + 1) none) = some (Value.slice p48 k49 k50) ∧ (0 ≤ n29 ∧ n29 < (↑k49 : Int)) ∧ ptrK none p48 fun (k51 k52 : Nat) =>
  ∃ (n53 : Int), ∃ (n54 : Int), ∃ (s55 : ByteArray), RowAt w30 k51 (k52 + n29.toNat * 3) [Value.int IntKind.i64 n53, Value.int IntKind.i64 n54, Value.string s55] ∧ okAgg Try.prog 70 = true ∧
  ∀ (k56 : Nat), Br (!(decide (n43 = n53) && (decide (n44 = n54) && (decide (s45 = s55) && true)))) (J (Value.bool false) (w30.drewN k56)) (I64 (n29 + 1) ∧ I27 (n29 + 1) (w30.drewN k56) ∧ I28
  (n29 + 1) (w30.drewN k56) < I28 n29 w30)) (I64 (n2 + 1) ∧ I0 (n2 + 1) w30 ∧ I1 (n2 + 1) w30 < I1 n2 w3))) (J (Value.bool true) w3))

theorem Qerrataref20_SameRows_run (aP : Option Addr) (aN aC : Nat) (bP : Option Addr) (bN bC : Nat) (w : World) (J : Value → World → Prop) (h : Qerrataref20_SameRows aP aN aC bP bN bC w J) : Calls Try.prog F.errataref20_SameRows #[.slice aP aN aC, .slice bP bN bC] w fun e w' => ∃ v, e = .returned v ∧ J v w' :=
  vcF_sound (H := { keep := some [0, 1, 4, 5, 6, 11, 15, 56, 64, 83], loops := [(9, [(6, .one (.int .i64))]), (4, [(5, .one (.int .i64))])] }) (by rw [show vcF Try.prog { keep := some [0, 1, 4, 5, 6, 11, 15, 56, 64, 83], loops := [(9, [(6, .one (.int .i64))]), (4, [(5, .one (.int .i64))])] } F.errataref20_SameRows #[.slice aP aN aC, .slice bP bN bC] w J = Qerrataref20_SameRows aP aN aC bP bN bC w J by kernel_rfl]; exact h)

/-- bounds.within -/
def Qbounds_within (n : Int) (fromx : Int) (to : Int) (w : World) (J : Value → World → Prop) : Prop :=
  J (Value.bool (decide (fromx ≤ n) && decide (n ≤ to))) w

theorem Qbounds_within_run (n : Int) (fromx : Int) (to : Int) (w : World) (J : Value → World → Prop) (h : Qbounds_within n fromx to w J) : Calls Try.prog F.bounds_within #[.int .i64 n, .int .i64 fromx, .int .i64 to] w fun e w' => ∃ v, e = .returned v ∧ J v w' :=
  vcF_sound (H := { keep := some [0, 1, 2, 6] }) (by rw [show vcF Try.prog { keep := some [0, 1, 2, 6] } F.bounds_within #[.int .i64 n, .int .i64 fromx, .int .i64 to] w J = Qbounds_within n fromx to w J by kernel_rfl]; exact h)

/-- bounds.plus -/
def Qbounds_plus (a : Int) (b : Int) (w : World) (J : Value → World → Prop) : Prop :=
  I64 (a + b) ∧ J (Value.int IntKind.i64 (min (a + b) 1099511627776)) w

theorem Qbounds_plus_run (a : Int) (b : Int) (w : World) (J : Value → World → Prop) (h : Qbounds_plus a b w J) : Calls Try.prog F.bounds_plus #[.int .i64 a, .int .i64 b] w fun e w' => ∃ v, e = .returned v ∧ J v w' :=
  vcF_sound (H := { keep := some [0, 1, 4] }) (by rw [show vcF Try.prog { keep := some [0, 1, 4] } F.bounds_plus #[.int .i64 a, .int .i64 b] w J = Qbounds_plus a b w J by kernel_rfl]; exact h)

/-- errataref20.inputs -/
def Qerrataref20_inputs (op : Int) (w : World) (J : Value → World → Prop) : Prop :=
  Br (decide (op = 0)) (J (Value.int IntKind.i64 0) w) (Br (decide (op = 3)) (Br (decide (op = 3)) (J (Value.int IntKind.i64 2) w) (J (Value.int IntKind.i64 1) w)) (Br (decide (op = 6)) (Br
  (decide (op = 6)) (J (Value.int IntKind.i64 2) w) (J (Value.int IntKind.i64 1) w)) (Br (decide (op = 7)) (J (Value.int IntKind.i64 2) w) (J (Value.int IntKind.i64 1) w))))

theorem Qerrataref20_inputs_run (op : Int) (w : World) (J : Value → World → Prop) (h : Qerrataref20_inputs op w J) : Calls Try.prog F.errataref20_inputs #[.int .i64 op] w fun e w' => ∃ v, e = .returned v ∧ J v w' :=
  vcF_sound (H := { keep := some [0, 2, 3, 4, 6] }) (by rw [show vcF Try.prog { keep := some [0, 2, 3, 4, 6] } F.errataref20_inputs #[.int .i64 op] w J = Qerrataref20_inputs op w J by kernel_rfl]; exact h)

/-- errataref20.within -/
def Qerrataref20_within (n : Int) (fromx : Int) (to : Int) (w : World) (J : Value → World → Prop) : Prop :=
  J (Value.bool (decide (fromx ≤ n) && decide (n ≤ to))) w

theorem Qerrataref20_within_run (n : Int) (fromx : Int) (to : Int) (w : World) (J : Value → World → Prop) (h : Qerrataref20_within n fromx to w J) : Calls Try.prog F.errataref20_within #[.int .i64 n, .int .i64 fromx, .int .i64 to] w fun e w' => ∃ v, e = .returned v ∧ J v w' :=
  vcF_sound (H := { keep := some [0, 1, 2, 6] }) (by rw [show vcF Try.prog { keep := some [0, 1, 2, 6] } F.errataref20_within #[.int .i64 n, .int .i64 fromx, .int .i64 to] w J = Qerrataref20_within n fromx to w J by kernel_rfl]; exact h)

/-- bounds.times -/
def Qbounds_times (a : Int) (b : Int) (w : World) (J : Value → World → Prop) : Prop :=
  (decide (a ≠ 0) = true → a ≠ 0) ∧ (decide (a ≠ 0) = true → I64 (Int.tdiv 1099511627776 a)) ∧ Br (decide (a ≠ 0) && decide (Int.tdiv 1099511627776 a < b)) (J (Value.int IntKind.i64
  1099511627776) w) (I64 (a * b) ∧ J (Value.int IntKind.i64 (a * b)) w)

theorem Qbounds_times_run (a : Int) (b : Int) (w : World) (J : Value → World → Prop) (h : Qbounds_times a b w J) : Calls Try.prog F.bounds_times #[.int .i64 a, .int .i64 b] w fun e w' => ∃ v, e = .returned v ∧ J v w' :=
  vcF_sound (H := { keep := some [0, 1, 4, 12] }) (by rw [show vcF Try.prog { keep := some [0, 1, 4, 12] } F.bounds_times #[.int .i64 a, .int .i64 b] w J = Qbounds_times a b w J by kernel_rfl]; exact h)

/-- errataref20.times -/
def Qerrataref20_times (a : Int) (b : Int) (w : World) (J : Value → World → Prop) : Prop :=
  Br (decide (a = 0) || decide (b = 0)) (J (Value.int IntKind.i64 0) w) ((b = 0 → False) ∧ I64 (Int.tdiv 1099511627776 b) ∧ Br (decide (Int.tdiv 1099511627776 b < a)) (J (Value.int
  IntKind.i64 1099511627776) w) (I64 (a * b) ∧ J (Value.int IntKind.i64 (min (a * b) 1099511627776)) w))

theorem Qerrataref20_times_run (a : Int) (b : Int) (w : World) (J : Value → World → Prop) (h : Qerrataref20_times a b w J) : Calls Try.prog F.errataref20_times #[.int .i64 a, .int .i64 b] w fun e w' => ∃ v, e = .returned v ∧ J v w' :=
  vcF_sound (H := { keep := some [0, 1, 4, 10, 14] }) (by rw [show vcF Try.prog { keep := some [0, 1, 4, 10, 14] } F.errataref20_times #[.int .i64 a, .int .i64 b] w J = Qerrataref20_times a b w J by kernel_rfl]; exact h)

end Go.Proofs.Ytflanndhfdfemaa
