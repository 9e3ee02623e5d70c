/-
  The conditions of the walks of some functions, one formula each; 'B<f>_run' says that they suffice. The formulas are printed by a program; the kernel compares them with the functions' code.
-/
import Derived.Test.YtifgijoeckoojaaBa
namespace Go.Proofs.Ytifgijoeckoojaa
set_option linter.unusedVariables false
set_option linter.unusedSimpArgs false
open Go.Vc

/-- (*replica.Replica).Role -/
def Qreplica_Replica_Role (rB rO : Nat) (w : World) (J : Value → World → Prop) : Prop :=
  ∃ (n0 : Int), w.cell? (Addr.mk rB (rO + 4) none) = some (Value.int IntKind.i64 n0) ∧ J (Value.int IntKind.i64 n0) w

theorem Qreplica_Replica_Role_run (rB rO : Nat) (w : World) (J : Value → World → Prop) (h : Qreplica_Replica_Role rB rO w J) : Calls Try.prog F.replica_Replica_Role #[.pointer (some ⟨rB, rO, none⟩)] w fun e w' => ∃ v, e = .returned v ∧ J v w' :=
  vcF_sound (H := { keep := some [0, 2] }) (by rw [show vcF Try.prog { keep := some [0, 2] } F.replica_Replica_Role #[.pointer (some ⟨rB, rO, none⟩)] w J = Qreplica_Replica_Role rB rO w J by kernel_rfl]; exact h)

/-- (*replica.Replica).Commit -/
def Qreplica_Replica_Commit (rB rO : Nat) (w : World) (J : Value → World → Prop) : Prop :=
  ∃ (n0 : Int), w.cell? (Addr.mk rB (rO + 5) none) = some (Value.int IntKind.i64 n0) ∧ J (Value.int IntKind.i64 n0) w

theorem Qreplica_Replica_Commit_run (rB rO : Nat) (w : World) (J : Value → World → Prop) (h : Qreplica_Replica_Commit rB rO w J) : Calls Try.prog F.replica_Replica_Commit #[.pointer (some ⟨rB, rO, none⟩)] w fun e w' => ∃ v, e = .returned v ∧ J v w' :=
  vcF_sound (H := { keep := some [0, 2] }) (by rw [show vcF Try.prog { keep := some [0, 2] } F.replica_Replica_Commit #[.pointer (some ⟨rB, rO, none⟩)] w J = Qreplica_Replica_Commit rB rO w J by kernel_rfl]; exact h)

/-- (*replica.Replica).term -/
def Qreplica_Replica_term (rB rO : Nat) (n : Int) (w : World) (J : Value → World → Prop) : Prop :=
  Br (decide (n = 0)) (J (Value.int IntKind.i64 0) w) (∃ (p0 : Option Addr), ∃ (k1 : Nat), ∃ (k2 : Nat), w.cell? (Addr.mk rB (rO + 3) none) = some (Value.slice p0 k1 k2) ∧ I64 (n - 1) ∧ (0 ≤
  n - 1 ∧ n - 1 < (↑k1 : Int)) ∧ ptrK none p0 fun (k3 k4 : Nat) => ∃ (n5 : Int), w.cell? (Addr.mk k3 (k4 + (n - 1).toNat * 2) none) = some (Value.int IntKind.i64 n5) ∧ J (Value.int
  IntKind.i64 n5) w)

theorem Qreplica_Replica_term_run (rB rO : Nat) (n : Int) (w : World) (J : Value → World → Prop) (h : Qreplica_Replica_term rB rO n w J) : Calls Try.prog F.replica_Replica_term #[.pointer (some ⟨rB, rO, none⟩), .int .i64 n] w fun e w' => ∃ v, e = .returned v ∧ J v w' :=
  vcF_sound (H := { keep := some [0, 1, 4, 6] }) (by rw [show vcF Try.prog { keep := some [0, 1, 4, 6] } F.replica_Replica_term #[.pointer (some ⟨rB, rO, none⟩), .int .i64 n] w J = Qreplica_Replica_term rB rO n w J by kernel_rfl]; exact h)

/-- replica.between -/
def Qreplica_between (n : Int) (a : Int) (b : Int) (w : World) (J : Value → World → Prop) : Prop :=
  J (Value.bool (decide (a ≤ n) && decide (n ≤ b))) w

theorem Qreplica_between_run (n : Int) (a : Int) (b : Int) (w : World) (J : Value → World → Prop) (h : Qreplica_between n a b w J) : Calls Try.prog F.replica_between #[.int .i64 n, .int .i64 a, .int .i64 b] w fun e w' => ∃ v, e = .returned v ∧ J v w' :=
  vcF_sound (H := { keep := some [0, 1, 2, 6] }) (by rw [show vcF Try.prog { keep := some [0, 1, 2, 6] } F.replica_between #[.int .i64 n, .int .i64 a, .int .i64 b] w J = Qreplica_between n a b w J by kernel_rfl]; exact h)

end Go.Proofs.Ytifgijoeckoojaa
