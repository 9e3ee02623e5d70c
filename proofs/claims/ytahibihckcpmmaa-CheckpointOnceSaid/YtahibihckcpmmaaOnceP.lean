/-
  For every input erratalaw39.CheckpointOnce returns true, does not panic, comes to an end, and leaves what came in as it was.
  Conditions: none beyond the given statement's own (CheckpointOnceSaid).
-/
import Derived.Test.YtahibihckcpmmaaOnceW
import Derived.Test.YtahibihckcpmmaaVcI
namespace Go.Proofs.Ytahibihckcpmmaa
open Go.ChangeShapes Go.WideShapes Go.ChangeAt Go.RowKit Go.Vc

theorem Try.own : ownKnob Try.prog.godebug = none := by kernel_rfl
theorem Try.laidOut : laidOutB Try.prog = true := by kernel_rfl

theorem IntsAt.of {w : World} {p : Option Addr} {n : Nat} (h : IntsIn .i64 w p n) : IntsAt w p n := fun j hj =>
  let ⟨b, o, x, h1, h2, _⟩ := h j hj
  ⟨b, o, x, h1, h2⟩

set_option maxRecDepth 100000 in
theorem once_lifted (os : Os) (started : os.Started) (H : Type) (enc : TypeId × Value → H) :
    ReturnsInHanded {} Try.checked os 3 .any (Rows.checkpointOnceSpec.pre6 enc Try.prog Try.f3 Rows.checkpointOnceRow.domain false) (Rows.checkpointOnceSpec.post enc Try.prog Try.f3 false true false false) := by
  refine lawTrue (C := Try.checked) (tb := 4) Try.own started (by kernel_rfl) Try.func3 Try.laidOut rfl ?_ rfl Try.underlying4 (by kernel_rfl)
    (ChangeSpec.witness6 (enc := enc) (C := Try.checked) false ⟨#[], #[.int .i64 0, .int .i64 0, .slice none 0 0, .slice none 0 0], []⟩ 8 (by kernel_rfl) (by kernel_rfl) (by kernel_rfl) (by kernel_rfl)) ?_
  · intro ds hd
    match ds, hd with
    | [_, _, _, _], _ => exact ⟨rfl, rfl, rfl⟩
  · intro W base args ds p hval0 hA0 _
    have hval : ∀ (j : Nat) t v, Try.f3.params[j]? = some t → args[j]? = some v → Value.okWide Try.prog W .any base t v := hval0
    have hA : DataW.TrodAll enc Try.prog W 0 (fun _ => true) true Try.f3.params.toList args.toList ds p := hA0
    rw [Try.params3] at hA hval
    obtain ⟨v0, v1, v2, v3, d0, d1, d2, d3, p0, p1, p2, p3, rfl, rfl, rfl, h0, h1, h2, h3⟩ := trodAll_four hA
    obtain ⟨a, rfl, rfl, rfl, wa⟩ := open_int Try.underlying3 (hval 0 3 v0 rfl rfl) h0
    obtain ⟨b, rfl, rfl, rfl, wb⟩ := open_int Try.underlying3 (hval 1 3 v1 rfl rfl) h1
    obtain ⟨a2, len2, cap2, rfl⟩ := okWide_slice Try.underlying22 (hval 2 22 v2 rfl rfl)
    obtain ⟨a3, len3, cap3, rfl⟩ := okWide_slice Try.underlying22 (hval 3 22 v3 rfl rfl)
    exact once_any a b a2 len2 cap2 a3 len3 cap3 W (.of (ints_in Try.underlying22 Try.underlying3 (by kernel_rfl) h2)) (.of (ints_in Try.underlying22 Try.underlying3 (by kernel_rfl) h3))

theorem once_holds : Rows.CheckpointOnceSaid :=
  OpenClaim.holds_of_wide 3 Try.f3 rfl rfl rfl rfl rfl rfl rfl ⟨rfl, rfl, rfl, rfl, rfl⟩ rfl rfl rfl rfl rfl (by kernel_rfl) Try.func3 (by kernel_rfl)
    (of_decide_eq_true (by kernel_rfl)) (by unfold Func.isWrapper; first | (rw [if_pos (by decide +kernel)]; kernel_rfl) | (rw [if_neg (by decide +kernel)]; exact ⟨rfl, rfl⟩))
    (fun os started H enc _ => once_lifted os started H enc)

end Go.Proofs.Ytahibihckcpmmaa
