/-
  For every input erratalaw39.CheckpointGate returns true, does not panic, comes to an end, and leaves what came in as it was.
  Conditions: none beyond the given statement's own (CheckpointGateSaid).
-/
import Derived.Test.YtahibihckcpmmaaGateW
namespace Go.Proofs.Ytahibihckcpmmaa
open Go.ChangeShapes Go.WideShapes Go.ChangeAt Go.RowKit Go.Vc

theorem gate_own : ownKnob Try.prog.godebug = none := by kernel_rfl
theorem gate_laid : laidOutB Try.prog = true := by kernel_rfl
theorem act_flat : flat Try.prog 5 38 = some actKs := by kernel_rfl

set_option maxRecDepth 100000 in
theorem gate_lifted (os : Os) (started : os.Started) (H : Type) (enc : TypeId × Value → H) :
    ReturnsInHanded {} Try.checked os 4 .any (Rows.checkpointGateSpec.pre6 enc Try.prog Try.f4 Rows.checkpointGateRow.domain false) (Rows.checkpointGateSpec.post enc Try.prog Try.f4 false true false false) := by
  refine lawTrue (C := Try.checked) (tb := 4) gate_own started (by kernel_rfl) Try.func4 gate_laid rfl ?_ rfl Try.underlying4 (by kernel_rfl)
    (ChangeSpec.witness6 (enc := enc) (C := Try.checked) false ⟨#[], #[.int .i64 0, .slice none 0 0], []⟩ 8 (by kernel_rfl) (by kernel_rfl) (by kernel_rfl) (by kernel_rfl)) ?_
  · intro ds hd
    match ds, hd with
    | [_, _], _ => exact ⟨rfl, rfl, rfl⟩
  · intro W base args ds p hval0 hA0 _
    have hval : ∀ (j : Nat) t v, Try.f4.params[j]? = some t → args[j]? = some v → Value.okWide Try.prog W .any base t v := hval0
    have hA : DataW.TrodAll enc Try.prog W 0 (fun _ => true) true Try.f4.params.toList args.toList ds p := hA0
    rw [Try.params4] at hA hval
    obtain ⟨v0, v1, d0, d1, p0, p1, rfl, rfl, rfl, h0, h1⟩ := trodAll_two hA
    obtain ⟨a, rfl, rfl, rfl, wa⟩ := open_int Try.underlying3 (hval 0 3 v0 rfl rfl) h0
    obtain ⟨a1, len1, cap1, rfl⟩ := okWide_slice Try.underlying34 (hval 1 34 v1 rfl rfl)
    exact gate_any a a1 len1 cap1 W (rows_in Try.underlying34 act_flat (by kernel_rfl) (by decide) h1)

theorem gate_holds : Rows.CheckpointGateSaid :=
  OpenClaim.holds_of_wide 4 Try.f4 rfl rfl rfl rfl rfl rfl rfl ⟨rfl, rfl, rfl, rfl, rfl⟩ rfl rfl rfl rfl rfl (by kernel_rfl) Try.func4 (by kernel_rfl)
    (of_decide_eq_true (by kernel_rfl)) (by unfold Func.isWrapper; first | (rw [if_pos (by decide +kernel)]; kernel_rfl) | (rw [if_neg (by decide +kernel)]; exact ⟨rfl, rfl⟩))
    (fun os started H enc _ => gate_lifted os started H enc)

end Go.Proofs.Ytahibihckcpmmaa
