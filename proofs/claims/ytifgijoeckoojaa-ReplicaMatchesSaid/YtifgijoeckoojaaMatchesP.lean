/-
  For every input erratalaw08.ReplicaMatches returns true, does not panic, comes to an end, and leaves what came in as it was.
  Conditions: none beyond the given statement's own (ReplicaMatchesSaid).
-/
import Derived.Test.YtifgijoeckoojaaMe
import Derived.Test.YtifgijoeckoojaaRows
set_option linter.unusedVariables false
set_option linter.unusedSimpArgs false
namespace Go.Proofs.Ytifgijoeckoojaa
open Go.ChangeShapes Go.WideShapes Go.ChangeAt Go.RowKit Go.Vc

theorem rp_own : ownKnob Try.prog.godebug = none := by kernel_rfl
theorem rp_laid : laidOutB Try.prog = true := by kernel_rfl
theorem len_max {n c : Nat} (h1 : n ≤ c) (h2 : c ≤ maxLen) : n ≤ 9223372036854775807 := Nat.le_trans h1 (Nat.le_trans h2 (by decide))

set_option maxRecDepth 100000 in
theorem matches_lifted (os : Os) (started : os.Started) (H : Type) (enc : TypeId × Value → H) :
    ReturnsInHanded {} Try.checked os 7 .any (Rows.replicaMatchesSpec.pre6 enc Try.prog Try.f7 Rows.replicaMatchesRow.domain false) (Rows.replicaMatchesSpec.post enc Try.prog Try.f7 false true false false) := by
  refine lawTrue (C := Try.checked) (tb := 4) rp_own started (by kernel_rfl) Try.func7 rp_laid rfl ?_ rfl Try.underlying4 (by kernel_rfl)
    (ChangeSpec.witness6 (enc := enc) (C := Try.checked) false ⟨#[], #[.slice none 0 0], []⟩ 8 (by kernel_rfl) (by kernel_rfl) (by kernel_rfl) (by kernel_rfl)) ?_
  · intro ds hd
    match ds, hd with
    | [_], _ => exact ⟨rfl, rfl, rfl⟩
  · intro W base args ds p hval0 hA0 _
    have hval : ∀ (j : Nat) t v, Try.f7.params[j]? = some t → args[j]? = some v → Value.okWide Try.prog W .any base t v := hval0
    have hA : DataW.TrodAll enc Try.prog W 0 (fun _ => true) true Try.f7.params.toList args.toList ds p := hA0
    rw [Try.params7] at hA hval
    obtain ⟨v0, d0, rfl, rfl, h0⟩ := trodAll_one hA
    obtain ⟨lp, lcap, l, rfl, hl1, hl2, hs⟩ := open_sl (α := OpR) 12 Try.underlying22 (hval 0 22 v0 rfl rfl) (by kernel_rfl) h0
    exact (Matches_in (Φ := fun M w => Sl M w lp l) lp lcap l (fun _ _ h => h) (len_max hl1 hl2)).law hs

theorem matches_holds : Rows.ReplicaMatchesSaid :=
  OpenClaim.holds_of_wide 7 Try.f7 rfl rfl rfl rfl rfl rfl rfl ⟨rfl, rfl, rfl, rfl, rfl⟩ rfl rfl rfl rfl rfl (by kernel_rfl) Try.func7 (by kernel_rfl)
    (of_decide_eq_true (by kernel_rfl)) (by unfold Func.isWrapper; first | (rw [if_pos (by decide +kernel)]; kernel_rfl) | (rw [if_neg (by decide +kernel)]; exact ⟨rfl, rfl⟩))
    (fun os started H enc _ => matches_lifted os started H enc)

end Go.Proofs.Ytifgijoeckoojaa
