/-
  For every input erratalaw36.ChannelOrder returns true, does not panic, comes to an end, and leaves what came in as it was.
  Conditions: none beyond the given statement's own (ChannelOrderSaid).
-/
import Derived.Test.YticgmbmghnikeaaOd
import Derived.Test.YticgmbmghnikeaaRows
set_option linter.unusedVariables false
set_option linter.unusedSimpArgs false
namespace Go.Proofs.Yticgmbmghnikeaa
open Go.ChangeShapes Go.WideShapes Go.ChangeAt Go.RowKit Go.Vc

theorem ch_own : ownKnob Try.prog.godebug = none := by kernel_rfl
theorem ch_laid : laidOutB Try.prog = true := by kernel_rfl

theorem Order_in {Φ : PW} [Stable Φ] (lp : Option Addr) (lcap : Nat) (l : List OpD) (hsl : ∀ M w, Φ M w → Sl M w lp l) (hlen : l.length ≤ 9223372036854775807) :
    GivesIn Φ Try.prog F.erratalaw36_ChannelOrder #[.slice lp l.length lcap] (.bool true) :=
  .pinned hsl fun b o cs hp => Order_pin (Φ := fun M w => Φ M w ∧ Pin b o cs l M w) lp lcap l b o cs hp (fun _ _ h => h.2) hlen

set_option maxRecDepth 100000 in
theorem order_lifted (os : Os) (started : os.Started) (H : Type) (enc : TypeId × Value → H) :
    ReturnsInHanded {} Try.checked os 4 .any (Rows.channelOrderSpec.pre6 enc Try.prog Try.f4 Rows.channelOrderRow.domain false) (Rows.channelOrderSpec.post enc Try.prog Try.f4 false true false false) := by
  refine lawTrue (C := Try.checked) (tb := 4) ch_own started (by kernel_rfl) Try.func4 ch_laid rfl ?_ rfl Try.underlying4 (by kernel_rfl)
    (ChangeSpec.witness6 (enc := enc) (C := Try.checked) false ⟨#[], #[.slice none 0 0], []⟩ 8 (by kernel_rfl) (by kernel_rfl) (by kernel_rfl) (by kernel_rfl)) ?_
  · intro ds hd
    match ds, hd with
    | [_], _ => exact ⟨rfl, rfl, rfl⟩
  · intro W base args ds p hval0 hA0 _
    have hval : ∀ (j : Nat) t v, Try.f4.params[j]? = some t → args[j]? = some v → Value.okWide Try.prog W .any base t v := hval0
    have hA : DataW.TrodAll enc Try.prog W 0 (fun _ => true) true Try.f4.params.toList args.toList ds p := hA0
    rw [Try.params4] at hA hval
    obtain ⟨v0, d0, rfl, rfl, h0⟩ := trodAll_one hA
    obtain ⟨lp, lcap, l, rfl, hl1, hl2, hs⟩ := open_sl (α := OpD) 12 Try.underlying39 (hval 0 39 v0 rfl rfl) (by kernel_rfl) h0
    exact (Order_in (Φ := fun M w => Sl M w lp l) lp lcap l (fun _ _ h => h) (len_max hl1 hl2)).law hs

theorem order_holds : Rows.ChannelOrderSaid :=
  OpenClaim.holds_of_wide 4 Try.f4 rfl rfl rfl rfl rfl rfl rfl ⟨rfl, rfl, rfl, rfl, rfl⟩ rfl rfl rfl rfl rfl (by kernel_rfl) Try.func4 (by kernel_rfl)
    (of_decide_eq_true (by kernel_rfl)) (by unfold Func.isWrapper; first | (rw [if_pos (by decide +kernel)]; kernel_rfl) | (rw [if_neg (by decide +kernel)]; exact ⟨rfl, rfl⟩))
    (fun os started H enc _ => order_lifted os started H enc)

end Go.Proofs.Yticgmbmghnikeaa
