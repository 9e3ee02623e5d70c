/-
  For every input erratalaw20.BoundsRefuse returns true, does not panic, comes to an end, and leaves what came in as it was.
  Conditions: none beyond the given statement's own (BoundsRefuseSaid).
-/
import Derived.Test.YtflanndhfdfemaaWp
import Derived.Test.YtflanndhfdfemaaRows
set_option linter.unusedVariables false
set_option linter.unusedSimpArgs false
namespace Go.Proofs.Ytflanndhfdfemaa
open Go.ChangeShapes Go.WideShapes Go.ChangeAt Go.RowKit Go.Vc

set_option maxRecDepth 100000 in
theorem refuse_lifted (os : Os) (started : os.Started) (H : Type) (enc : TypeId × Value → H) :
    ReturnsInHanded {} Try.checked os 5 .any (Rows.boundsRefuseSpec.pre6 enc Try.prog Try.f5 Rows.boundsRefuseRow.domain false) (Rows.boundsRefuseSpec.post enc Try.prog Try.f5 false true false false) := by
  refine lawTrue (C := Try.checked) (tb := 4) bd_own started (by kernel_rfl) Try.func5 bd_laid rfl ?_ rfl Try.underlying4 (by kernel_rfl)
    (ChangeSpec.witness6 (enc := enc) (C := Try.checked) false ⟨#[], #[.agg #[.slice none 0 0, .slice none 0 0], .agg #[.int .i64 0, .int .i64 0, .int .i64 0, .int .i64 0, .int .i64 0, .int .i64 0], .int .i64 0, .int .i64 0], []⟩ 8 (by kernel_rfl) (by kernel_rfl) (by kernel_rfl) (by kernel_rfl)) ?_
  · intro ds hd
    match ds, hd with
    | [_, _, _, _], _ => exact ⟨rfl, rfl, rfl⟩
  · intro W base args ds p hval0 hA0 _
    have hval : ∀ (j : Nat) t v, Try.f5.params[j]? = some t → args[j]? = some v → Value.okWide Try.prog W .any base t v := hval0
    have hA : DataW.TrodAll enc Try.prog W 0 (fun _ => true) true Try.f5.params.toList args.toList ds p := hA0
    rw [Try.params5] at hA hval
    obtain ⟨v0, v1, v2, v3, d0, d1, d2, d3, p0, p1, p2, p3, rfl, rfl, rfl, h0, h1, h2, h3⟩ := trodAll_four hA
    obtain ⟨p0P, p0N, p0C, q, cap, l, rfl, hl, hm, hs⟩ := open_prog (hval 0 25 v0 rfl rfl) h0
    obtain ⟨c, rfl, _⟩ := open_cfg (hval 1 27 v1 rfl rfl) h1
    obtain ⟨n2, rfl, _⟩ := open_int Try.underlying3 (hval 2 3 v2 rfl rfl) h2
    obtain ⟨n3, rfl, _⟩ := open_int Try.underlying3 (hval 3 3 v3 rfl rfl) h3
    have hb : maxLen ≤ 9223372036854775807 := by decide
    exact (Refuse_in (Φ := fun M w => Sl M w q l) p0P p0N p0C q cap l c n2 n3 (fun _ _ h => h) (by omega)).law hs

theorem refuse_holds : Rows.BoundsRefuseSaid :=
  OpenClaim.holds_of_wide 5 Try.f5 rfl rfl rfl rfl rfl rfl rfl ⟨rfl, rfl, rfl, rfl, rfl⟩ rfl rfl rfl rfl rfl (by kernel_rfl) Try.func5 (by kernel_rfl)
    (of_decide_eq_true (by kernel_rfl)) (by unfold Func.isWrapper; first | (rw [if_pos (by decide +kernel)]; kernel_rfl) | (rw [if_neg (by decide +kernel)]; exact ⟨rfl, rfl⟩))
    (fun os started H enc _ => refuse_lifted os started H enc)

end Go.Proofs.Ytflanndhfdfemaa
