/-
  For every input erratalaw20.BoundsTells returns true, does not panic, comes to an end, and leaves what came in as it was.
  Conditions: none beyond the given statement's own (BoundsTellsSaid).
-/
import Derived.Test.YtflanndhfdfemaaWv
import Derived.Test.YtflanndhfdfemaaRows
set_option linter.unusedVariables false
set_option linter.unusedSimpArgs false
namespace Go.Proofs.Ytflanndhfdfemaa
open Go.ChangeShapes Go.WideShapes Go.ChangeAt Go.RowKit Go.Vc

set_option maxRecDepth 100000 in
theorem tells_lifted (os : Os) (started : os.Started) (H : Type) (enc : TypeId × Value → H) :
    ReturnsInHanded {} Try.checked os 6 .any (Rows.boundsTellsSpec.pre6 enc Try.prog Try.f6 Rows.boundsTellsRow.domain false) (Rows.boundsTellsSpec.post enc Try.prog Try.f6 false true false false) := by
  refine lawTrue (C := Try.checked) (tb := 4) bd_own started (by kernel_rfl) Try.func6 bd_laid rfl ?_ rfl Try.underlying4 (by kernel_rfl)
    (ChangeSpec.witness6 (enc := enc) (C := Try.checked) false ⟨#[], #[.agg #[.slice none 0 0, .slice none 0 0], .agg #[.int .i64 0, .int .i64 0, .int .i64 0, .int .i64 0, .int .i64 0, .int .i64 0], .agg #[.int .i64 0, .slice none 0 0, .string (ByteArray.mk #[]), .int .i64 0, .slice none 0 0, .int .i64 0, .int .i64 0, .int .i64 0, .slice none 0 0, .slice none 0 0, .int .i64 0, .int .i64 0, .int .i64 0, .slice none 0 0, .slice none 0 0, .slice none 0 0], .int .i64 0, .int .i64 0], []⟩ 8 (by kernel_rfl) (by kernel_rfl) (by kernel_rfl) (by kernel_rfl)) ?_
  · intro ds hd
    match ds, hd with
    | [_, _, _, _, _], _ => exact ⟨rfl, rfl, rfl⟩
  · intro W base args ds p hval0 hA0 _
    have hval : ∀ (j : Nat) t v, Try.f6.params[j]? = some t → args[j]? = some v → Value.okWide Try.prog W .any base t v := hval0
    have hA : DataW.TrodAll enc Try.prog W 0 (fun _ => true) true Try.f6.params.toList args.toList ds p := hA0
    rw [Try.params6] at hA hval
    obtain ⟨v0, v1, v2, v3, v4, d0, d1, d2, d3, d4, p0, p1, p2, p3, p4, rfl, rfl, rfl, h0, h1, h2, h3, h4⟩ := trodAll_five hA
    obtain ⟨p0P, p0N, p0C, q, cap, l, rfl, hl, hm, hs⟩ := open_prog (hval 0 25 v0 rfl rfl) h0
    obtain ⟨c, rfl, _⟩ := open_cfg (hval 1 27 v1 rfl rfl) h1
    obtain ⟨ns, d, rfl, hd⟩ := open_agg (α := NodeD) 8 Try.underlying44 (hval 2 44 v2 rfl rfl) (by kernel_rfl) h2
    obtain ⟨x, rfl, _⟩ := node_cells hd
    obtain ⟨n3, rfl, _⟩ := open_int Try.underlying3 (hval 3 3 v3 rfl rfl) h3
    obtain ⟨n4, rfl, _⟩ := open_int Try.underlying3 (hval 4 3 v4 rfl rfl) h4
    have hb : maxLen ≤ 9223372036854775807 := by decide
    exact (Tells_in (Φ := fun M w => Sl M w q l) p0P p0N p0C q cap l c x n3 n4 (fun _ _ h => h) (by omega)).law hs

theorem tells_holds : Rows.BoundsTellsSaid :=
  OpenClaim.holds_of_wide 6 Try.f6 rfl rfl rfl rfl rfl rfl rfl ⟨rfl, rfl, rfl, rfl, rfl⟩ rfl rfl rfl rfl rfl (by kernel_rfl) Try.func6 (by kernel_rfl)
    (of_decide_eq_true (by kernel_rfl)) (by unfold Func.isWrapper; first | (rw [if_pos (by decide +kernel)]; kernel_rfl) | (rw [if_neg (by decide +kernel)]; exact ⟨rfl, rfl⟩))
    (fun os started H enc _ => tells_lifted os started H enc)

end Go.Proofs.Ytflanndhfdfemaa
