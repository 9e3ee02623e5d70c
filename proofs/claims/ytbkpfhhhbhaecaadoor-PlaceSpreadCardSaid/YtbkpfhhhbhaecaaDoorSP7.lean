/-
  For every input erratalaw37.PlaceSpread returns true, does not panic, comes to an end, and leaves what came in as it was; the variables that its row lists are as the program's text lays them.
  Conditions: none beyond the given statement's own (PlaceSpreadCardSaid).
-/
import Derived.Test.YtbkpfhhhbhaecaaDoorSP6
import Derived.Test.YtbkpfhhhbhaecaaDoorCards
import Derived.MakeChecks
import Derived.Stop.LaidErr
import Derived.Lib.LaidTab
import Derived.Test.YtbkpfhhhbhaecaaDoorTie
import Derived.SevenTiedAt
import Derived.LaidMore
import Derived.ChangeMaps5
import Derived.Test.YtbkpfhhhbhaecaaDoorRows

/-
  From what a row lists as laid to the table of the powers of ten.
-/
section
set_option linter.unusedVariables false
set_option linter.unusedSimpArgs false
namespace Go.Proofs.YtbkpfhhhbhaecaaDoor
open Go.Vc Go.RowKit

theorem tab_drop {P : Program} {w : World} : ∀ (n : Nat) {l : List (String × DataW Unit)}, laidMet P l w → laidMet P (l.drop n) w
  | 0, l, h => by rw [List.drop_zero]; exact h
  | n + 1, [], h => h
  | n + 1, x :: l, h => by rw [List.drop_succ_cons]; exact tab_drop n h.tail
/-- the table, out of a list that has it at the n-th place -/
theorem la_tab {W : World} {l : List (String × DataW Unit)} (n : Nat) (h : laidMetH Tryd.prog l W) (hp : (l.all fun x => x.2.handleName?.isNone) = true) (hd : ∃ r, l.drop n = ("internal/strconv.uint64pow10", Lib.tabData .u64 Lib.pow10Tab) :: r) : TabI [] W := by
  rw [MakeChecks.laidMetH_plain Tryd.prog l W hp] at h
  obtain ⟨r, hr⟩ := hd
  have h2 := tab_drop n h
  rw [hr] at h2
  exact Tab.start (Lib.tabIs_of_head (k := .u64) (zs := Lib.pow10Tab) (g := 1) (t := 189) (e := 182) (n := 20) (by kernel_rfl) (by kernel_rfl) (by kernel_rfl) (by kernel_rfl) (by kernel_rfl) (by kernel_rfl) h2)

end Go.Proofs.YtbkpfhhhbhaecaaDoor
end

section
set_option linter.unusedVariables false
set_option linter.unusedSimpArgs false
namespace Go.Proofs.YtbkpfhhhbhaecaaDoor
open Go.ChangeShapes Go.WideShapes Go.ChangeAt Go.RowKit Go.Vc


theorem df_own : ownKnob Tryd.prog.godebug = none := by kernel_rfl
theorem df_laid : laidOutB Tryd.prog = true := by kernel_rfl

theorem trodAll_n {H : Type} {enc : TypeId × Value → H} {P : Program} {w : World} {base : Nat} {spare : Nat → Bool} {held : Bool} {t0 t1 t2 : TypeId} {args : Array Value} {ds : List (DataW H)} {ps : List MemPlace} (h : DataW.TrodAll enc P w base spare held [t0, t1, t2] args.toList ds ps) :
    ∃ v0 v1 v2 d0 d1 d2 p0 p1 p2, args = #[v0, v1, v2] ∧ ds = [d0, d1, d2] ∧ ps = p0 ++ p1 ++ p2 ∧ DataW.Trod enc P w base spare held t0 v0 d0 p0 ∧ DataW.Trod enc P w base spare held t1 v1 d1 p1 ∧ DataW.Trod enc P w base spare held t2 v2 d2 p2 := by
  obtain ⟨v0, vs0, d0, ds0, p0, q0, hargs, rfl, rfl, h0, h⟩ := trodAll_cons h
  obtain ⟨v1, vs1, d1, ds1, p1, q1, rfl, rfl, rfl, h1, h⟩ := trodAll_cons h
  obtain ⟨v2, vs2, d2, ds2, p2, q2, rfl, rfl, rfl, h2, h⟩ := trodAll_cons h
  obtain ⟨rfl, rfl, rfl⟩ := trodAll_nil h
  exact ⟨v0, v1, v2, d0, d1, d2, p0, p1, p2, by cases args; simp_all, rfl, by simp, h0, h1, h2⟩

theorem door_met (os : Os) (args : Array Value) : laidMetH Tryd.prog Rows.placeSpreadRow.laid ((World.doorLaid Tryd.prog 400 os).forCall (fun _ _ => 0) ⟨#[], args, []⟩).memory :=
  laidMetH_of_parts3 (fuel := 8) (laidMet_of_run' 8 (by kernel_rfl) (by kernel_rfl)) (by kernel_rfl) (by kernel_rfl)

set_option maxRecDepth 100000 in
theorem law_lifted (os : Os) (started : os.Started) (H : Type) (enc : TypeId × Value → H) :
    ReturnsInHanded {} Tryd.checked os 3 .any (fun w args => (Rows.placeSpreadSpec.pre enc Tryd.prog Tryd.f3 Rows.placeSpreadRow.domain false w args ∧ laidMetH Tryd.prog Rows.placeSpreadRow.laid w) ∧ sizedMet enc Tryd.prog Tryd.f3 (OpenSpec.ofChange Rows.placeSpreadSpec) false w args) (Rows.placeSpreadSpec.post enc Tryd.prog Tryd.f3 false true false false) := by
  refine lawTrueLaid (C := Tryd.checked) (tb := 4) df_own started (by kernel_rfl) Tryd.func3 df_laid rfl ?_ rfl Tryd.underlying4 (by kernel_rfl)
    (ChangeSpec.witness_shaped (enc := enc) (C := Tryd.checked) (os := os) (X := fun w _ => laidMetH Tryd.prog Rows.placeSpreadRow.laid w) false (World.doorLaid Tryd.prog 400 os) #[.slice none 0 0, .int .i64 0, .slice none 0 0] 8 rfl (World.shaped_of_RefB (by kernel_rfl) (by kernel_rfl)) (by kernel_rfl) (by kernel_rfl) (by kernel_rfl) (door_met os _)) ?_
  · intro ds hd
    match ds, hd with
    | [_, _, _], _ => exact ⟨rfl, rfl, rfl⟩
  · intro W base args ds p hval0 hA0 _ hL
    have hval : ∀ (j : Nat) t v, Tryd.f3.params[j]? = some t → args[j]? = some v → Value.okWide Tryd.prog W .any base t v := hval0
    have hA : DataW.TrodAll enc Tryd.prog W 0 (fun _ => true) true Tryd.f3.params.toList args.toList ds p := hA0
    rw [Tryd.params3] at hA hval
    obtain ⟨v0, v1, v2, d0, d1, d2, p0, p1, p2, rfl, rfl, rfl, h0, h1, h2⟩ := trodAll_n hA
    obtain ⟨pp, pc, p, rfl, pa, pb, s0⟩ := open_sl (α := Int) 12 Tryd.underlying22 (hval 0 22 v0 rfl rfl) (by kernel_rfl) h0
    obtain ⟨workers, rfl, rfl, rfl, workersw⟩ := open_int Tryd.underlying3 (hval 1 3 v1 rfl rfl) h1
    obtain ⟨otherp, otherc, other, rfl, othera, otherb, s2⟩ := open_sl (α := Int) 12 Tryd.underlying22 (hval 2 22 v2 rfl rfl) (by kernel_rfl) h2
    have st0 : Stable (fun M w => Sl M w otherp other) := inferInstance
    have st1 : Stable (fun M w => Sl M w pp p ∧ Sl M w otherp other) := instStableAnd (fun M w => Sl M w pp p) (fun M w => Sl M w otherp other)
    have st2 : Stable (fun M w => TabI M w ∧ Sl M w pp p ∧ Sl M w otherp other) := instStableAnd (fun M w => TabI M w) (fun M w => Sl M w pp p ∧ Sl M w otherp other)
    have fin : GivesIn (fun M w => TabI M w ∧ Sl M w pp p ∧ Sl M w otherp other) Tryd.prog 3 _ (.bool true) := PlaceSpread_in (Φ := (fun M w => TabI M w ∧ Sl M w pp p ∧ Sl M w otherp other)) (p := pp) (cap := pc) (a := p) (q := otherp) (cap2 := otherc) (b := other) (n := workers) (hA := ⟨fun _ _ h => h.2.1⟩) (hB := ⟨fun _ _ h => h.2.2⟩) (small37_in (hT := ⟨fun _ _ h => h.1⟩))
    exact fin.law ⟨la_tab 2 hL (by kernel_rfl) ⟨_, rfl⟩, s0, s2⟩

theorem row_holds : Rows.PlaceSpreadSaid :=
  OpenClaim.holds_of_wide 3 Tryd.f3 rfl rfl rfl rfl rfl rfl rfl ⟨rfl, rfl, rfl, rfl, rfl⟩ rfl rfl rfl rfl rfl (by kernel_rfl) Tryd.func3 (by kernel_rfl)
    (of_decide_eq_true (by kernel_rfl)) (by unfold Func.isWrapper; first | (rw [if_pos (by decide +kernel)]; kernel_rfl) | (rw [if_neg (by decide +kernel)]; exact ⟨rfl, rfl⟩))
    (fun os started H enc _ => law_lifted os started H enc)

theorem spread_holds : Rows.PlaceSpreadCardSaid :=
  Claim7.holds_tied_plain_at .later [] [.data, .data, .data] true Rows.placeSpreadCard.stood.harness true
    row_holds (fun _ h => by cases h) (by kernel_rfl) (fun _ h => by cases h) placeSpread_row_tie rfl ⟨rfl, rfl⟩ (by kernel_rfl) rfl
    (fun f fn hf hfn => by
      obtain rfl : f = 3 := Option.some.inj ((show Tryd.prog.funcNamed Rows.placeSpreadRow.func = some 3 by kernel_rfl).symm.trans hf) |>.symm
      obtain rfl : fn = Tryd.f3 := (Option.some.inj (Tryd.func3.symm.trans hfn)).symm
      exact ⟨by kernel_rfl, fun j t ht => by
        rw [Tryd.params3] at ht
        have hm := Array.mem_of_getElem? ht
        have hall : ((Tryd.f3.params.toList).all fun u => !Tryd.prog.wantsStandIn u) = true := by kernel_rfl
        rw [Tryd.params3] at hall
        exact (show Tryd.prog.wantsStandIn t = false by simpa using List.all_eq_true.1 hall t (by simpa using hm))⟩)
    (by kernel_rfl)

end Go.Proofs.YtbkpfhhhbhaecaaDoor
end

