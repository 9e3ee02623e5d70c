/-
  For every input erratalaw36.ChannelLine returns true, does not panic, comes to an end, and leaves what came in as it was.
  Conditions: none beyond the given statement's own (ChannelLineSaid).
-/
import Derived.Test.YticgmbmghnikeaaVj
import Derived.Test.YticgmbmghnikeaaRows
set_option linter.unusedVariables false
set_option linter.unusedSimpArgs false
namespace Go.Proofs.Yticgmbmghnikeaa
open Go.ChangeShapes Go.WideShapes Go.ChangeAt Go.RowKit Go.Vc

theorem ch_own : ownKnob Try.prog.godebug = none := by kernel_rfl
theorem ch_laid : laidOutB Try.prog = true := by kernel_rfl

theorem Line_in {Φ : PW} [Stable Φ] (n : Int) (lp : Option Addr) (lcap : Nat) (l : List MsgD) (pp : Option Addr) (pcap : Nat) (picks : List Int) (hsl : ∀ M w, Φ M w → Sl M w lp l) (hpk : ∀ M w, Φ M w → Sl M w pp picks) :
    GivesIn Φ Try.prog F.erratalaw36_ChannelLine #[.int .i64 n, .slice lp l.length lcap, .slice pp picks.length pcap] (.bool true) :=
  .pinned hsl fun b o cs hp => Line_pin (Φ := fun M w => Φ M w ∧ Pin b o cs l M w) n lp lcap l pp pcap picks b o cs hp (fun _ _ h => h.2) (fun M w h => hsl M w h.1) (fun M w h => hpk M w h.1)

set_option maxRecDepth 100000 in
theorem line_lifted (os : Os) (started : os.Started) (H : Type) (enc : TypeId × Value → H) :
    ReturnsInHanded {} Try.checked os 3 .any (Rows.channelLineSpec.pre6 enc Try.prog Try.f3 Rows.channelLineRow.domain false) (Rows.channelLineSpec.post enc Try.prog Try.f3 false true false false) := by
  refine lawTrue (C := Try.checked) (tb := 4) ch_own started (by kernel_rfl) Try.func3 ch_laid rfl ?_ rfl Try.underlying4 (by kernel_rfl)
    (ChangeSpec.witness6 (enc := enc) (C := Try.checked) false ⟨#[], #[.int .i64 0, .slice none 0 0, .slice none 0 0], []⟩ 8 (by kernel_rfl) (by kernel_rfl) (by kernel_rfl) (by kernel_rfl)) ?_
  · intro ds hd
    match ds, hd with
    | [_, _, _], _ => exact ⟨rfl, rfl, rfl⟩
  · intro W base args ds p hval0 hA0 _
    have hval : ∀ (j : Nat) t v, Try.f3.params[j]? = some t → args[j]? = some v → Value.okWide Try.prog W .any base t v := hval0
    have hA : DataW.TrodAll enc Try.prog W 0 (fun _ => true) true Try.f3.params.toList args.toList ds p := hA0
    rw [Try.params3] at hA hval
    obtain ⟨v0, v1, v2, d0, d1, d2, p0, p1, p2, rfl, rfl, rfl, h0, h1, h2⟩ := trodAll_three hA
    obtain ⟨a, rfl, rfl, rfl, wa⟩ := open_int Try.underlying3 (hval 0 3 v0 rfl rfl) h0
    obtain ⟨lp, lcap, l, rfl, _, _, hs⟩ := open_sl (α := MsgD) 12 Try.underlying22 (hval 1 22 v1 rfl rfl) (by kernel_rfl) h1
    obtain ⟨pp, pcap, picks, rfl, _, _, hs2⟩ := open_sl (α := Int) 12 Try.underlying23 (hval 2 23 v2 rfl rfl) (by kernel_rfl) h2
    have h3 := instStableSl lp l
    have h4 := instStableSl pp picks
    have hst : Stable (fun M w => Sl M w lp l ∧ Sl M w pp picks) := instStableAnd (fun M w => Sl M w lp l) (fun M w => Sl M w pp picks)
    exact (Line_in (Φ := fun M w => Sl M w lp l ∧ Sl M w pp picks) a lp lcap l pp pcap picks (fun _ _ h => h.1) (fun _ _ h => h.2)).law ⟨hs, hs2⟩

theorem line_holds : Rows.ChannelLineSaid :=
  OpenClaim.holds_of_wide 3 Try.f3 rfl rfl rfl rfl rfl rfl rfl ⟨rfl, rfl, rfl, rfl, rfl⟩ rfl rfl rfl rfl rfl (by kernel_rfl) Try.func3 (by kernel_rfl)
    (of_decide_eq_true (by kernel_rfl)) (by unfold Func.isWrapper; first | (rw [if_pos (by decide +kernel)]; kernel_rfl) | (rw [if_neg (by decide +kernel)]; exact ⟨rfl, rfl⟩))
    (fun os started H enc _ => line_lifted os started H enc)

end Go.Proofs.Yticgmbmghnikeaa
