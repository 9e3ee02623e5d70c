/-
  The conditions of the walks of some functions, one formula each; 'B<f>_run' says that they suffice. The formulas are printed by a program; the kernel compares them with the functions' code.
-/
import Derived.Test.YticgmbmghnikeaaBa
namespace Go.Proofs.Yticgmbmghnikeaa
set_option linter.unusedVariables false
set_option linter.unusedSimpArgs false
open Go.Vc

/-- (*channel.Channel).Len -/
def Qchannel_Channel_Len (cB cO : Nat) (w : World) (J : Value → World → Prop) : Prop :=
  ∃ (n0 : Int), w.cell? (Addr.mk cB (cO + 25) none) = some (Value.int IntKind.i64 n0) ∧ J (Value.int IntKind.i64 n0) w

theorem Qchannel_Channel_Len_run (cB cO : Nat) (w : World) (J : Value → World → Prop) (h : Qchannel_Channel_Len cB cO w J) : Calls Try.prog F.channel_Channel_Len #[.pointer (some ⟨cB, cO, none⟩)] w fun e w' => ∃ v, e = .returned v ∧ J v w' :=
  vcF_sound (H := { keep := some [0, 2] }) (by rw [show vcF Try.prog { keep := some [0, 2] } F.channel_Channel_Len #[.pointer (some ⟨cB, cO, none⟩)] w J = Qchannel_Channel_Len cB cO w J by kernel_rfl]; exact h)

/-- (*channel.Channel).Free -/
def Qchannel_Channel_Free (cB cO : Nat) (w : World) (J : Value → World → Prop) : Prop :=
  ∃ (n0 : Int), w.cell? (Addr.mk cB (cO + 25) none) = some (Value.int IntKind.i64 n0) ∧ I64 (4 - n0) ∧ J (Value.int IntKind.i64 (4 - n0)) w

theorem Qchannel_Channel_Free_run (cB cO : Nat) (w : World) (J : Value → World → Prop) (h : Qchannel_Channel_Free cB cO w J) : Calls Try.prog F.channel_Channel_Free #[.pointer (some ⟨cB, cO, none⟩)] w fun e w' => ∃ v, e = .returned v ∧ J v w' :=
  vcF_sound (H := { keep := some [0, 2] }) (by rw [show vcF Try.prog { keep := some [0, 2] } F.channel_Channel_Free #[.pointer (some ⟨cB, cO, none⟩)] w J = Qchannel_Channel_Free cB cO w J by kernel_rfl]; exact h)

/-- (*channel.Channel).Sent -/
def Qchannel_Channel_Sent (cB cO : Nat) (w : World) (J : Value → World → Prop) : Prop :=
  ∃ (n0 : Int), w.cell? (Addr.mk cB (cO + 26) none) = some (Value.int IntKind.i64 n0) ∧ J (Value.int IntKind.i64 n0) w

theorem Qchannel_Channel_Sent_run (cB cO : Nat) (w : World) (J : Value → World → Prop) (h : Qchannel_Channel_Sent cB cO w J) : Calls Try.prog F.channel_Channel_Sent #[.pointer (some ⟨cB, cO, none⟩)] w fun e w' => ∃ v, e = .returned v ∧ J v w' :=
  vcF_sound (H := { keep := some [0, 2] }) (by rw [show vcF Try.prog { keep := some [0, 2] } F.channel_Channel_Sent #[.pointer (some ⟨cB, cO, none⟩)] w J = Qchannel_Channel_Sent cB cO w J by kernel_rfl]; exact h)

end Go.Proofs.Yticgmbmghnikeaa
