/-
  For every input erratalaw42.DifferenceTells returns true, does not panic, comes to an end, and leaves what came in as it was; the variables that its row lists are as the program's text lays them.
  Conditions: none beyond the given statement's own (DifferenceTellsCardSaid).
-/
import Derived.Test.YtnapfhbibikbiaaDoorDd88
import Derived.Laws.Bits128
import Derived.Test.YtnapfhbibikbiaaDoorCards
import Derived.MakeChecks
import Derived.Stop.LaidErr
import Derived.Lib.LaidTab
import Derived.Test.YtnapfhbibikbiaaDoorTie
import Derived.SevenTiedAt
import Derived.LaidMore
import Derived.ChangeMaps5
import Derived.Test.YtnapfhbibikbiaaDoorRows

/-
  The reference's lines, walked.
-/
section
set_option linter.unusedVariables false
set_option linter.unusedSimpArgs false
namespace Go.Proofs.YtnapfhbibikbiaaDoor
open Go.Vc


/-! ### in plain Lean -/
theorem cause_iff {x y : LineD} : causeP x y = true ↔ x.cause = y.cause ∨ (x.cause = 1 ∧ y.cause = 0 ∧ x.time < y.time) := by
  unfold causeP
  rw [Bool.or_eq_true, Bool.and_eq_true, Bool.and_eq_true]
  simp only [decide_eq_true_eq, and_assoc]
theorem follows_iff {x y : LineD} : followsP x y = true ↔ y.no = w64 (x.no + 1) ∧ y.batch = x.batch ∧ y.why = x.why ∧ ¬ y.time < x.time ∧ (y.time = x.time → cmpR x.row y.row < 0) ∧ causeP x y = true := by
  unfold followsP
  split
  · rename_i h; exact ⟨fun e => (by cases e), fun e => absurd e.1 h⟩
  split
  · rename_i _ h; exact ⟨fun e => (by cases e), fun e => absurd e.2.1 h⟩
  split
  · rename_i _ _ h; exact ⟨fun e => (by cases e), fun e => absurd e.2.2.1 h⟩
  split
  · rename_i _ _ _ h; exact ⟨fun e => (by cases e), fun e => absurd h e.2.2.2.1⟩
  rename_i h1 h2 h3 h4
  split
  · rename_i h5
    split
    · rename_i h6
      exact ⟨fun e => (by cases e), fun e => (by have := e.2.2.2.2.1 h5; omega)⟩
    · rename_i h6
      exact ⟨fun e => ⟨Decidable.not_not.1 h1, Decidable.not_not.1 h2, Decidable.not_not.1 h3, h4, fun _ => (by omega), e⟩, fun e => e.2.2.2.2.2⟩
  · rename_i h5
    exact ⟨fun e => ⟨Decidable.not_not.1 h1, Decidable.not_not.1 h2, Decidable.not_not.1 h3, h4, fun h => absurd h h5, e⟩, fun e => e.2.2.2.2.2⟩
theorem okL_iff {x : LineD} : okL x = true ↔ x.n ≠ 0 ∧ (x.cause = 2 ∧ 0 < x.why ∨ (x.cause = 0 ∨ x.cause = 1) ∧ x.why = 0) := by
  unfold okL
  rw [Bool.and_eq_true, Bool.or_eq_true, Bool.and_eq_true, Bool.and_eq_true, Bool.or_eq_true]
  simp

section
variable {Φ : PW} {p q : Option Addr} {cap cap2 : Nat} {l : List LineD}

theorem Ctx.cellsL {W w : World} {S : List Own} {Φ : PW} {g o : Nat} {cs : List (List Value)} {l : List LineD} (c : Ctx W w S Φ) (h : ∀ M w, Φ M w → Pin g o cs l M w) :
    ∀ j, (hj : j < l.length) → ∃ p c, cs.getD j [] = l[j].cells p c ∧ l[j].row.length ≤ c ∧ c ≤ maxLen ∧ l[j].In := fun j hj => pin_line (h _ _ c.phi) hj

theorem RightL_in [Stable Φ] [hΦ : Has Φ (fun M w => Sl M w p l)] {most : Int} (hlen : l.length ≤ 9223372036854775807) :
    GivesIn Φ Tryd.prog F.errataref42_RightLines #[.slice p l.length cap, .int .i64 most] (.bool (decide ((l.length : Int) ≤ most) && l.all fun x => rightR x.row)) := by
  refine .pinned hΦ.go fun b o cs hp => ?_
  refine in_linesV (Φ := fun M w => Φ M w ∧ Pin b o cs l M w) (fun M w h => h.2) fun hcs => ?_
  refine gives_in (Berrataref42_RightLines_run p l.length cap most) fun W R => ?_
  have hst : Stable (fun M w => Φ M w ∧ Pin b o cs l M w) := inferInstance
  refine exI_mk (fun n R' Φ' k => ∃ i : Nat, n = i ∧ i ≤ l.length ∧ R' = R ∧ Φ' = (fun M w => Φ M w ∧ Pin b o cs l M w) ∧ k = l.length - i ∧ (l.all fun x => rightR x.row) = (l.drop i).all fun x => rightR x.row) ⟨⟨R, _, _, hst, fun w F c => c, 0, rfl, Nat.zero_le _, rfl, rfl, rfl, rfl⟩, ?_⟩
  rintro n R1 Φ1 k _ ⟨i, rfl, hi, rfl, rfl, rfl, hs⟩
  refine fun w F cx => Br.intro (fun hlt => ?_) (fun hge => fun w F cx => ⟨?_, cx.left⟩)
  · simp only [Bool.and_eq_true, decide_eq_true_eq] at hlt
    have hlt : i < l.length := by omega
    obtain ⟨r, qc, he, g1, g2, _⟩ := hcs i hlt
    rw [List.drop_eq_getElem_cons hlt, List.all_cons] at hs
    refine ⟨by omega, ptrK_intro b o (hp (by omega)) fun w F cx => ⟨r, l[i].row.length, qc, ?_, fun w F cx => (RightRow3_in (Φ := fun M w => Φ M w ∧ Pin b o cs l M w) r qc l[i].row (fun M w h => pinl_row h.2 hlt he) (len_max g1 g2)).use cx fun w cx => ⟨_, rfl, R1, _, hst, cx, Br.intro (fun h => fun w F cx => ⟨?_, cx.left⟩) (fun h => ⟨by unfold I64; omega, R1, _, l.length - (i + 1), hst, fun w F c => c, ⟨i + 1, rfl, hlt, rfl, rfl, rfl, ?_⟩, by omega⟩)⟩⟩⟩
    · rw [Int.toNat_natCast]
      have := pinl_rowAt cx.phi.2 hlt he 3 (by simp)
      simpa using this
    · rw [hs, show rightR l[i].row = false by simpa using h, Bool.false_and, Bool.and_false]
    · rw [hs, show rightR l[i].row = true by simpa using h, Bool.true_and]
  · simp only [Bool.and_eq_false_iff, decide_eq_false_iff_not] at hge
    by_cases hl : (l.length : Int) ≤ most
    · have hi : i = l.length := by omega
      rw [hs, hi, List.drop_length, decide_eq_true hl]
      rfl
    · rw [decide_eq_false hl, Bool.false_and]

theorem SameR_in [Stable Φ] {r : List ValD} [hΦ : Has Φ (fun M w => Sl M w p r)] [hΨ : Has Φ (fun M w => Sl M w q r)] (hlen : r.length ≤ 9223372036854775807) : GivesIn Φ Tryd.prog F.errataref03_Same #[.slice p r.length cap, .slice q r.length cap2] (.bool true) := by
  refine gives_in (Berrataref03_Same_run p r.length cap q r.length cap2) fun W R => ?_
  refine fun w G cx => (rCompareRows_in p q cap cap2 r r hΦ.go hΨ.go hlen).toI cx fun w G cx => ⟨?_, cx.left⟩
  rw [cmpR_cmp.refl]
  rfl

set_option maxHeartbeats 1000000 in
theorem SameL_in [Stable Φ] [hΦ : Has Φ (fun M w => Sl M w p l)] [hΨ : Has Φ (fun M w => Sl M w q l)] (hlen : l.length ≤ 1000000) : GivesIn Φ Tryd.prog F.errataref42_Same #[.slice p l.length cap, .slice q l.length cap2] (.bool true) := by
  refine .pinned hΦ.go fun b o cs hp => .pinned (fun M w h => hΨ.go M w h.1) fun b2 o2 cs2 hq => ?_
  have hst : Stable (fun M w => (Φ M w ∧ Pin b o cs l M w) ∧ Pin b2 o2 cs2 l M w) := inferInstance
  refine in_linesV (Φ := fun M w => (Φ M w ∧ Pin b o cs l M w) ∧ Pin b2 o2 cs2 l M w) (fun M w h => h.1.2) fun hcs => in_linesV (Φ := fun M w => (Φ M w ∧ Pin b o cs l M w) ∧ Pin b2 o2 cs2 l M w) (fun M w h => h.2) fun hcs2 => ?_
  refine gives_in (Berrataref42_Same_run p l.length cap q l.length cap2) fun W R => Br.intro (fun h => absurd rfl (of_decide_eq_true h)) (fun _ => ?_)
  refine exI_mk (fun n R' Φ' k => ∃ i : Nat, n = i ∧ i ≤ l.length ∧ R' = R ∧ Φ' = (fun M w => (Φ M w ∧ Pin b o cs l M w) ∧ Pin b2 o2 cs2 l M w) ∧ k = l.length - i) ⟨⟨R, _, _, hst, fun w F c => c, 0, rfl, Nat.zero_le _, rfl, rfl, rfl⟩, ?_⟩
  rintro n R1 Φ1 k _ ⟨i, rfl, hi, rfl, rfl, rfl⟩
  refine Br.intro (fun hlt => ?_) (fun hge => fun w F cx => ⟨rfl, cx.left⟩)
  have hlt : i < l.length := by have := of_decide_eq_true hlt; omega
  obtain ⟨r, qc, he, g1, g2, _⟩ := hcs i hlt
  obtain ⟨r2, qc2, he2, _⟩ := hcs2 i hlt
  refine ⟨by omega, ptrK_intro b o (hp (by omega)) fun w F cx => ⟨_, _, _, _, _, _, _, _, _, by rw [Int.toNat_natCast]; exact pinl_rowAt cx.phi.1.2 hlt he, fun _ => ⟨by omega, ptrK_intro b2 o2 (hq (by omega)) fun w F cx => ⟨_, _, _, _, _, _, _, _, _, by rw [Int.toNat_natCast]; exact pinl_rowAt cx.phi.2 hlt he2, fun _ => ?_⟩⟩⟩⟩
  refine Br.intro (fun h => absurd rfl (of_decide_eq_true h)) fun _ => Br.intro (fun h => absurd rfl (of_decide_eq_true h)) fun _ => Br.intro (fun h => absurd rfl (of_decide_eq_true h)) fun _ => Br.intro (fun h => absurd rfl (of_decide_eq_true h)) fun _ => Br.intro (fun h => absurd rfl (of_decide_eq_true h)) fun _ => Br.intro (fun h => absurd rfl (of_decide_eq_true h)) fun _ => ?_
  exact fun w G cx => (SameR_in (Φ := fun M w => (Φ M w ∧ Pin b o cs l M w) ∧ Pin b2 o2 cs2 l M w) (hΦ := ⟨fun M w h => pinl_row h.1.2 hlt he⟩) (hΨ := ⟨fun M w h => pinl_row h.2 hlt he2⟩) (len_max g1 g2)).toB cx (Br.intro (fun h => by cases h) (fun _ => ⟨by unfold I64; omega, R1, _, l.length - (i + 1), hst, fun w F c => c, ⟨i + 1, rfl, hlt, rfl, rfl, rfl⟩, by omega⟩))

set_option maxHeartbeats 1000000 in
theorem Net42_sl [Stable Φ] [hΦ : Has Φ (fun M w => Sl M w q l)] (hlen : l.length ≤ 400000) (hrow : ∀ x ∈ l, x.row.length ≤ 1000000) : GivesSl Φ Tryd.prog F.errataref42_Net #[.slice q l.length cap] (netP l) id := by
  refine ⟨fun W0 w0 S0 c0 => ?_⟩
  obtain ⟨g, o, cs, hp, c1⟩ := c0.pin (hΦ.go _ _ c0.phi)
  have hcs := Ctx.cellsL c1 (fun M w h => h.2)
  refine (GivesSl.go (gives_sl (Φ := fun M w => Φ M w ∧ Pin g o cs l M w) (l := netP l) (mk := id) (Berrataref42_Net_run q l.length cap) fun W R => ?_) W0 w0 S0 c1).mono fun e w' ⟨p, c, h1, h2, h3, h4⟩ => ⟨p, c, h1, h2, h3, h4.weak fun M w h => ⟨h.1.1, h.2⟩⟩
  clear c0 c1
  have stP : Stable (fun M w => Φ M w ∧ Pin g o cs l M w) := inferInstance
  refine exI_mk (fun op on oc iI R' Φ' m => ∃ (i : Nat) (ds : List Value), iI = i ∧ i ≤ l.length ∧ on = ((l.take i).map LineD.d).length ∧ R' = .buf op on oc ds 39 3 :: R ∧ Φ' = (fun M w => (Φ M w ∧ Pin g o cs l M w) ∧ Elems M w ds ((l.take i).map LineD.d)) ∧ m = l.length - i)
    ⟨⟨.buf none 0 0 [] 39 3 :: R, fun M w => (Φ M w ∧ Pin g o cs l M w) ∧ Elems M w [] ([] : List DeltaD), _, inferInstance, fun w G cx => (cx.nobuf 39 3).weak fun M w h => ⟨h, Elems.nil⟩, 0, [], rfl, Nat.zero_le _, rfl, rfl, rfl, rfl⟩, ?_⟩
  rintro op on oc iI R1 Φ1 m hst ⟨i, ds, rfl, hi, rfl, rfl, rfl, rfl⟩
  have hln : ((l.take i).map LineD.d).length = i := by rw [List.length_map, List.length_take]; omega
  refine Br.intro (fun hlt => ?_) (fun hge => fun w G cx => ?_)
  · have hlt : i < l.length := by have := of_decide_eq_true hlt; omega
    obtain ⟨q2, qc, he, f1, f2, f3⟩ := hcs i hlt
    obtain ⟨X, hX⟩ : ∃ X, l[i] = X := ⟨_, rfl⟩
    have slX : ∀ M w, (Φ M w ∧ Pin g o cs l M w) → Sl M w q2 X.row := fun M w h => by rw [← hX]; exact pinl_row h.2 hlt he
    have row : ∀ {w : World} {S : List Own}, Ctx W w S (fun M w => Φ M w ∧ Pin g o cs l M w) → RowAt w g (o + (i : Int).toNat * 7) (X.cells q2 qc) := fun cx => by rw [Int.toNat_natCast, ← hX]; exact pinl_rowAt cx.phi.2 hlt he
    rw [hX] at f1 f3
    refine ⟨R, _, stP, fun w G cx => cx.drop1.fst, by omega, ptrK_intro g o (hp (by omega)) ⟨by omega, ptrK_intro g o (hp (by omega)) ⟨by omega, ptrK_intro g o (hp (by omega)) ⟨X.time, fun w G cx => ⟨X.time, by have := row cx 2 (by simp); simpa using this, rfl⟩, q2, X.row.length, qc, fun w G cx => ⟨q2, _, qc, by have := row cx 3 (by simp); simpa using this, rfl⟩, X.n, fun w G cx => ⟨X.n, by have := row cx 4 (by simp); simpa using this, rfl⟩, fun kb => ⟨fun w G cx => cx.drop1.drop1.fst, fun w G cx => ?_⟩⟩⟩⟩⟩
    have e : (l.take (i + 1)).map LineD.d = (l.take i).map LineD.d ++ [X.d] := by rw [List.take_succ_eq_append_getElem hlt, List.map_append, hX]; rfl
    obtain ⟨p', c', w', hrun, cx'⟩ := push1 (x := X.d) (q := q2) (qc := qc) (PS := fun M w => Φ M w ∧ Pin g o cs l M w) (fun M w h => rep_delta (x := X.d) f1 f2 f3.time f3.n (slX M w h)) (by omega) cx
    rw [← e] at hrun cx'
    exact ⟨p', _, c', w', hrun, _, _, inferInstance, cx', by unfold I64; omega, _, _, l.length - (i + 1), inferInstance, fun w G cx => cx, ⟨i + 1, _, by omega, hlt, rfl, rfl, rfl, rfl⟩, by omega⟩
  · have hge : i = l.length := by have := of_decide_eq_false hge; omega
    subst hge
    rw [List.take_length] at cx hln ⊢
    obtain ⟨cx3, hs, _, g5, g6⟩ := Ctx.freeze (α := DeltaD) cx.fst cx.phi.2
    refine (Cons28_sl (Φ := fun M w => (Φ M w ∧ Pin g o cs l M w) ∧ Sl M w op (l.map LineD.d)) op oc (l.map LineD.d) (fun M w h => h.2) g5 g6 (by omega) (fun x hx => ?_)).to (cx3.add hs) fun p2 c2 e1 e2 st => fun w G cx => ⟨p2, c2, rfl, e1, e2, cx.left.weak fun M w h => ⟨h.1.1, h.2⟩⟩
    obtain ⟨y, hy, rfl⟩ := List.mem_map.1 hx
    exact hrow y hy

/-- the flag of the reference: the line before was live -/
def liveAt (l : List LineD) : Nat → Bool
  | 0 => false
  | j + 1 => match l[j]? with
    | none => false
    | some x => decide (x.cause = 0)
theorem liveAt_succ {j : Nat} (h : j < l.length) : liveAt l (j + 1) = decide (l[j].cause = 0) := by
  unfold liveAt
  simp only [List.getElem?_eq_getElem h]

set_option maxHeartbeats 2000000 in
theorem Least42_in [Stable Φ] [hΦ : Has Φ (fun M w => Sl M w q l)] (hlen : l.length ≤ 1000000) : GivesIn Φ Tryd.prog F.errataref42_Least #[.slice q l.length cap] (.bool (leastP l)) := by
  refine .pinned hΦ.go fun g o cs hq => ?_
  have hst : Stable (fun M w => Φ M w ∧ Pin g o cs l M w) := inferInstance
  refine in_linesV (Φ := fun M w => Φ M w ∧ Pin g o cs l M w) (fun M w h => h.2) fun hcs => ?_
  refine gives_in (Berrataref42_Least_run q l.length cap) fun W R => ?_
  refine exI_mk (fun live iI R' Φ' k => ∃ i : Nat, iI = i ∧ i ≤ l.length ∧ live = liveAt l i ∧ R' = R ∧ Φ' = (fun M w => Φ M w ∧ Pin g o cs l M w) ∧ k = l.length - i ∧ (List.range i).all (okAt l) = true)
    ⟨⟨R, _, _, hst, fun w G cx => cx, 0, rfl, Nat.zero_le _, rfl, rfl, rfl, rfl, rfl⟩, ?_⟩
  rintro live iI R1 Φ1 k _ ⟨i, rfl, hi, rfl, rfl, rfl, rfl, hs⟩
  refine Br.intro (fun hlt => ?_) (fun hge => fun w G cx => ⟨?_, cx.left⟩)
  · have hlt : i < l.length := by have := of_decide_eq_true hlt; omega
    obtain ⟨r, rc, he, h1, h2, h3⟩ := hcs i hlt
    obtain ⟨X, hX⟩ : ∃ X, l[i] = X := ⟨_, rfl⟩
    have hXr : X.row.length ≤ 9223372036854775807 := by rw [← hX]; exact len_max h1 h2
    refine ⟨by omega, ptrK_intro g o (hq (by omega)) fun w G cx => ⟨X.no, X.batch, X.time, r, X.row.length, rc, X.n, X.cause, X.why, by rw [Int.toNat_natCast, ← hX]; exact pinl_rowAt cx.phi.2 hlt he, fun _ w G cx w G cx => ?_⟩⟩
    clear cx
    -- the chain up to here
    have hprev : ∀ j, (hj : j < i) → okL (l[j]'(by omega)) = true := fun j hj => by
      have := List.all_eq_true.1 hs j (List.mem_range.2 hj)
      cases j with
      | zero => rwa [okAt_zero (by omega)] at this
      | succ m => rw [okAt_succ (by omega), Bool.and_eq_true] at this; exact this.1
    have back : okAt l i = true → ∀ {fl : Bool}, fl = (liveAt l i || decide (X.cause = 0)) → I64 ((i : Int) + 1) ∧ ∃ R0 Φ0 m0, Stable Φ0 ∧ (∀ w G, Ctx W w (R1 ++ G) (fun M w => Φ M w ∧ Pin g o cs l M w) → Ctx W w (R0 ++ G) Φ0) ∧
        (∃ i' : Nat, (i : Int) + 1 = i' ∧ i' ≤ l.length ∧ fl = liveAt l i' ∧ R0 = R1 ∧ Φ0 = (fun M w => Φ M w ∧ Pin g o cs l M w) ∧ m0 = l.length - i' ∧ (List.range i').all (okAt l) = true) ∧ m0 < l.length - i := fun hok fl hfl => by
      refine ⟨by unfold I64; omega, R1, _, l.length - (i + 1), hst, fun w G cx => cx, ⟨i + 1, by omega, hlt, ?_, rfl, rfl, rfl, range_all hs hok⟩, by omega⟩
      rw [hfl, liveAt_succ hlt, hX]
      cases i with
      | zero => rfl
      | succ j =>
        rw [liveAt_succ (by omega)]
        by_cases hc : l[j].cause = 0
        · rw [decide_eq_true hc, Bool.true_or]
          rw [okAt_succ hlt, Bool.and_eq_true, hX] at hok
          have := (follows_iff.1 hok.2).2.2.2.2.2
          rw [cause_iff] at this
          refine (decide_eq_true ?_).symm
          omega
        · rw [decide_eq_false hc, Bool.false_or]
    have bad : (¬ okAt l i = true) → Value.bool false = Value.bool (leastP l) := fun h => by
      rw [least_bad hlt (Bool.eq_false_iff.2 h)]
    have okX : okAt l i = true → okL X = true := fun h => by
      cases i with
      | zero => rw [okAt_zero hlt] at h; rwa [← hX]
      | succ j => rw [okAt_succ hlt, Bool.and_eq_true] at h; rw [← hX]; exact h.1
    refine Br.intro (fun hb => fun w G cx => ⟨bad fun hok => ?_, cx.left⟩) (fun hg => fun w G cx => ?_)
    · have hx := okL_iff.1 (okX hok)
      simp only [Bool.or_eq_true, Bool.and_eq_true, Bool.not_eq_true', Bool.or_eq_false_iff, Bool.and_eq_false_iff, decide_eq_true_eq, decide_eq_false_iff_not] at hb
      rcases hb with (hb | hb) | ⟨hb, hl⟩
      · omega
      · omega
      · cases i with
        | zero => cases hl
        | succ j =>
          rw [liveAt_succ (by omega)] at hl
          have hl := of_decide_eq_true hl
          rw [okAt_succ hlt, Bool.and_eq_true, hX] at hok
          have := (follows_iff.1 hok.2).2.2.2.2.2
          rw [cause_iff] at this
          omega
    clear cx
    simp only [Bool.or_eq_false_iff, Bool.and_eq_false_iff, Bool.not_eq_false', Bool.or_eq_true, Bool.and_eq_true, decide_eq_true_eq, decide_eq_false_iff_not] at hg
    obtain ⟨⟨hg1, hg2⟩, hg3⟩ := hg
    have hokX : okL X = true := okL_iff.2 ⟨hg2, hg1⟩
    refine Br.intro (fun h0 => ?_) (fun h0 => ?_)
    · have h0 : i = 0 := by have := of_decide_eq_true h0; omega
      subst h0
      exact back (by rw [okAt_zero hlt, hX]; exact hokX) rfl
    have h0 : i ≠ 0 := fun e => of_decide_eq_false h0 (by rw [e]; rfl)
    obtain ⟨j, rfl⟩ : ∃ j, i = j + 1 := ⟨i - 1, by omega⟩
    have hj : j < l.length := by omega
    have hmx : (max (((j + 1 : Nat) : Int) - 1) 0).toNat = j := by omega
    obtain ⟨r2, rc2, he2, f1, f2, f3⟩ := hcs j hj
    obtain ⟨Y, hY⟩ : ∃ Y, l[j] = Y := ⟨_, rfl⟩
    have hokY := hprev j (by omega)
    rw [hY] at hokY
    have hokY := okL_iff.1 hokY
    have hoks : okAt l (j + 1) = true ↔ followsP Y X = true := by
      rw [okAt_succ hlt, Bool.and_eq_true, hX, hY]
      exact ⟨fun h => h.2, fun h => ⟨hokX, h⟩⟩
    rw [liveAt_succ hj, hY] at hg3
    have hg3 : X.cause = 1 → Y.cause ≠ 0 := fun h1 h2 => by
      rcases hg3 with h | h
      · exact h h1
      · exact of_decide_eq_false h h2
    have hYr : Y.row.length ≤ 9223372036854775807 := by rw [← hY]; exact len_max f1 f2
    refine ⟨by unfold I64; omega, by omega, ptrK_intro g o (hq (by omega)) fun w G cx => ⟨Y.no, Y.batch, Y.time, r2, Y.row.length, rc2, Y.n, Y.cause, Y.why, by rw [hmx, ← hY]; exact pinl_rowAt cx.phi.2 hj he2, fun _ w G cx => ?_⟩⟩
    clear cx
    refine Br.intro (fun hb => fun w G cx => ⟨bad fun hok => ?_, cx.left⟩) (fun hc => ?_)
    · obtain ⟨k1, k2, k3, k4, k5, k6⟩ := follows_iff.1 (hoks.1 hok)
      rw [cause_iff] at k6
      simp only [Bool.or_eq_true, decide_eq_true_eq] at hb
      rcases hb with ((hb | hb) | hb) | hb
      · exact hb k1
      · exact hb k2
      · exact hb k3
      · rcases k6 with k6 | k6
        · rw [k6] at hb; simp at hb
        · rw [k6.1, k6.2.1] at hb; simp at hb
    simp only [Bool.or_eq_false_iff, decide_eq_false_iff_not] at hc
    obtain ⟨⟨⟨k1, k2⟩, k3⟩, k4⟩ := hc
    have k1 := Decidable.not_not.1 k1
    have k2 := Decidable.not_not.1 k2
    have k3 := Decidable.not_not.1 k3
    have k4 : X.cause = 2 ↔ Y.cause = 2 := by
      have := bne_eq_false_iff_eq.1 k4
      exact decide_eq_decide.1 this
    refine Br.intro (fun hb => fun w G cx => ⟨bad fun hok => absurd (of_decide_eq_true hb) (follows_iff.1 (hoks.1 hok)).2.2.2.1, cx.left⟩) (fun k5 => ?_)
    have k5 := of_decide_eq_false k5
    refine Br.intro (fun k6 => ?_) (fun k6 => ?_)
    · have k6 := of_decide_eq_true k6
      refine fun w G cx => (rCompareRows_in (Φ := fun M w => Φ M w ∧ Pin g o cs l M w) r2 r rc2 rc Y.row X.row (fun M w h => by rw [← hY]; exact pinl_row h.2 hj he2) (fun M w h => by rw [← hX]; exact pinl_row h.2 hlt he) hYr).toI cx ?_
      refine Br.intro (fun hb => fun w G cx => ⟨bad fun hok => ?_, cx.left⟩) (fun k7 => ?_)
      · have := (follows_iff.1 (hoks.1 hok)).2.2.2.2.1 k6
        have hb := of_decide_eq_true hb
        omega
      have k7 := of_decide_eq_false k7
      refine Br.intro (fun _ => ?_) (fun h => absurd k6 (of_decide_eq_false h))
      refine Br.intro (fun hb => fun w G cx => ⟨bad fun hok => ?_, cx.left⟩) (fun k8 => back (hoks.2 (follows_iff.2 ⟨k1, k2, k3, k5, fun _ => by omega, cause_iff.2 (.inl (Decidable.not_not.1 (of_decide_eq_false k8)).symm)⟩)) rfl)
      have k9 := (follows_iff.1 (hoks.1 hok)).2.2.2.2.2
      rw [cause_iff] at k9
      have hb := of_decide_eq_true hb
      omega
    · have k6 := of_decide_eq_false k6
      refine Br.intro (fun h => absurd (of_decide_eq_true h) k6) (fun _ => back (hoks.2 (follows_iff.2 ⟨k1, k2, k3, k5, fun h => absurd h k6, cause_iff.2 ?_⟩)) rfl)
      obtain ⟨_, hy⟩ := hokY
      omega
  · have hge : i = l.length := by have := of_decide_eq_false hge; omega
    rw [hge] at hs
    exact congrArg Value.bool hs.symm
end

section
variable {Φ : PW} {p : Option Addr} {cap : Nat} {d : List DeltaD}

/-- append one line whose row was read -/
theorem pushL {W w : World} {R G : List Own} {PS : PW} [Stable PS] {op : Option Addr} {oc : Nat} {ds : List Value} {o : List LineD} {x : LineD} {q : Option Addr} {qc kb : Nat} (hx : ∀ M w, PS M w → Gv.rep M w (x.cells q qc) x) (ho : o.length < 10000000)
    (cx : Ctx W w (.blk kb (x.cells q qc) 56 :: .buf op o.length oc ds 56 7 :: R ++ G) (fun M w => PS M w ∧ Elems M w ds o)) :
    ∃ p c w', Sem.run Tryd.prog (builtin Builtin.append #[23, 23] 23 #[false, false] #[.slice op o.length oc, .slice (some ⟨kb, 0, none⟩) 1 1]) w = .ok (.value (.slice p (o ++ [x]).length c)) w' ∧ Ctx W w' (.buf p (o ++ [x]).length c (ds ++ x.cells q qc) 56 7 :: R ++ G) (fun M w => PS M w ∧ Elems M w (ds ++ x.cells q qc) (o ++ [x])) := by
  obtain ⟨p', cap', w', hrun, _, cx'⟩ := Ctx.app1 (P := Tryd.prog) (ts := 23) (ty := 23) (kb := #[false, false]) (size := 7) (bytes := 72) cx (by kernel_rfl) (by omega) rfl rfl (by omega) (by omega)
  have e : o.length + 1 = (o ++ [x]).length := by simp
  rw [e] at hrun cx'
  exact ⟨p', cap', w', hrun, cx'.weak fun M w h => ⟨h.1, h.2.snoc (hx M w h.1)⟩⟩

set_option maxHeartbeats 2000000 in
theorem Lines42_sl [Stable Φ] {no batch mark replace : Int} [hΦ : Has Φ (fun M w => Sl M w p d)] (hc1 : d.length ≤ cap) (hc2 : cap ≤ maxLen) (hb : I64 batch) (hr : I64 replace) (hlen : d.length ≤ 1000000) (hrow : Rows1 d) :
    GivesSl Φ Tryd.prog F.errataref42_Lines #[.slice p d.length cap, .int .i64 no, .int .i64 batch, .int .i64 mark, .int .i64 replace] (linesP no batch mark replace d) id := by
  refine gives_sl (Berrataref42_Lines_run p d.length cap no batch mark replace) fun W R => ?_
  refine fun w G cx => (Cons28H hc1 hc2 hlen hrow).use cx fun p1 c1 w h1 h2 cx => ?_
  have hcl : (consP d).length ≤ 1000000 := Nat.le_trans (consP_len d) hlen
  unfold linesP
  generalize consP d = c at h1 cx hcl ⊢
  obtain ⟨g, o, cs, hp, cx⟩ := cx.pin cx.phi.2
  have hcs := Ctx.cells cx (fun M w h => h.2)
  have stP : Stable (fun M w => (Φ M w ∧ Sl M w p1 c) ∧ Pin g o cs c M w) := inferInstance
  refine ⟨p1, _, c1, rfl, R, fun M w => (Φ M w ∧ Sl M w p1 c) ∧ Pin g o cs c M w, stP, cx, ?_⟩
  clear cx
  refine exI_mk (fun op on oc iI R' Φ' m => ∃ (i : Nat) (ds : List Value), iI = i ∧ i ≤ c.length ∧ on = ((linesC no batch mark replace c).take i).length ∧ R' = .buf op on oc ds 56 7 :: R ∧ Φ' = (fun M w => ((Φ M w ∧ Sl M w p1 c) ∧ Pin g o cs c M w) ∧ Elems M w ds ((linesC no batch mark replace c).take i)) ∧ m = c.length - i)
    ⟨⟨.buf none 0 0 [] 56 7 :: R, fun M w => ((Φ M w ∧ Sl M w p1 c) ∧ Pin g o cs c M w) ∧ Elems M w [] ([] : List LineD), _, inferInstance, fun w G cx => (cx.nobuf 56 7).weak fun M w h => ⟨h, Elems.nil⟩, 0, [], rfl, Nat.zero_le _, rfl, rfl, rfl, rfl⟩, ?_⟩
  rintro op on oc iI R1 Φ1 m hst ⟨i, ds, rfl, hi, rfl, rfl, rfl, rfl⟩
  have hln : ((linesC no batch mark replace c).take i).length = i := by rw [List.length_take, linesC_len]; omega
  refine Br.intro (fun hlt => ?_) (fun hge => fun w G cx => ?_)
  · have hlt : i < c.length := by have := of_decide_eq_true hlt; omega
    obtain ⟨q2, qc, he, f1, f2, f3, f4⟩ := hcs i hlt
    obtain ⟨X, hX⟩ : ∃ X, c[i] = X := ⟨_, rfl⟩
    have slX : ∀ M w, ((Φ M w ∧ Sl M w p1 c) ∧ Pin g o cs c M w) → Sl M w q2 X.row := fun M w h => by rw [← hX]; exact pin_row h.2 hlt he
    have row : ∀ {w : World} {S : List Own}, Ctx W w S (fun M w => (Φ M w ∧ Sl M w p1 c) ∧ Pin g o cs c M w) → RowAt w g (o + (i : Int).toNat * 3) (X.cells q2 qc) := fun cx => by rw [Int.toNat_natCast, ← hX]; exact pin_rowAt cx.phi.2 hlt he
    rw [hX] at f1 f3 f4
    refine ⟨R, _, stP, fun w G cx => cx.drop1.fst, by omega, ptrK_intro g o (hp (by omega)) ⟨by omega, ptrK_intro g o (hp (by omega)) ⟨by omega, ptrK_intro g o (hp (by omega)) ⟨X.time, fun w G cx => ⟨X.time, by have := row cx 0 (by simp); simpa using this, rfl⟩, q2, X.row.length, qc, fun w G cx => ⟨q2, _, qc, by have := row cx 1 (by simp); simpa using this, rfl⟩, X.n, fun w G cx => ⟨X.n, by have := row cx 2 (by simp); simpa using this, rfl⟩, fun _ => ⟨fun w G cx => cx.drop1.fst, fun w G cx => cx.drop1.fst, ?_⟩⟩⟩⟩⟩
    have take : ∀ y, lineP no batch mark replace i X = y → (linesC no batch mark replace c).take (i + 1) = (linesC no batch mark replace c).take i ++ [y] := fun y hy => by rw [linesC_take no batch mark replace c hlt, hX, hy]
    refine Br.intro (fun hm => Br.intro (fun hp => ?_) (fun hp => ?_)) (fun hm => Br.intro (fun hp => ?_) (fun hp => ?_))
    case' refine_1.refine_1 => obtain ⟨x, hx, hxc⟩ : ∃ x : LineD, lineP no batch mark replace i X = x ∧ x = ⟨w64 (no + i), batch, X.time, X.row, X.n, 2, replace⟩ := ⟨_, rfl, by unfold lineP; rw [if_pos (of_decide_eq_true hp), if_pos (of_decide_eq_true hp)]⟩
    case' refine_1.refine_2 => obtain ⟨x, hx, hxc⟩ : ∃ x : LineD, lineP no batch mark replace i X = x ∧ x = ⟨w64 (no + i), batch, X.time, X.row, X.n, 1, 0⟩ := ⟨_, rfl, by unfold lineP; rw [if_neg (of_decide_eq_false hp), if_neg (of_decide_eq_false hp), if_neg (by have := of_decide_eq_true hm; omega)]⟩
    case' refine_1.refine_3 => obtain ⟨x, hx, hxc⟩ : ∃ x : LineD, lineP no batch mark replace i X = x ∧ x = ⟨w64 (no + i), batch, X.time, X.row, X.n, 2, replace⟩ := ⟨_, rfl, by unfold lineP; rw [if_pos (of_decide_eq_true hp), if_pos (of_decide_eq_true hp)]⟩
    case' refine_1.refine_4 => obtain ⟨x, hx, hxc⟩ : ∃ x : LineD, lineP no batch mark replace i X = x ∧ x = ⟨w64 (no + i), batch, X.time, X.row, X.n, 0, 0⟩ := ⟨_, rfl, by unfold lineP; rw [if_neg (of_decide_eq_false hp), if_neg (of_decide_eq_false hp), if_pos (by have := of_decide_eq_false hm; omega)]⟩
    all_goals
      intro kb w G cx
      have hin : x.In := by subst hxc; exact ⟨w64_in _, hb, f3, f4, by unfold I64; dsimp only; omega, by first | exact hr | (unfold I64; dsimp only; omega)⟩
      have hxr : x.row = X.row := by rw [hxc]
      have e := take x hx
      have hcx : Ctx W w (.blk kb (x.cells q2 qc) 56 :: .buf op ((linesC no batch mark replace c).take i).length oc ds 56 7 :: R ++ G) (fun M w => ((Φ M w ∧ Sl M w p1 c) ∧ Pin g o cs c M w) ∧ Elems M w ds ((linesC no batch mark replace c).take i)) := by
        rw [hxc]
        exact cx
      obtain ⟨p', c', w', hrun, cx'⟩ := pushL (x := x) (q := q2) (qc := qc) (PS := fun M w => (Φ M w ∧ Sl M w p1 c) ∧ Pin g o cs c M w) (fun M w h => rep_line (by rw [hxr]; exact f1) f2 hin (by rw [hxr]; exact slX M w h)) (by omega) hcx
      rw [← e] at hrun cx'
      exact ⟨p', _, c', w', hrun, _, _, inferInstance, cx', by unfold I64; omega, _, _, c.length - (i + 1), inferInstance, fun w G cx => cx, ⟨i + 1, _, by omega, hlt, rfl, rfl, rfl, rfl⟩, by omega⟩
  · have hge : i = c.length := by have := of_decide_eq_false hge; omega
    subst hge
    have hall : (linesC no batch mark replace c).take c.length = linesC no batch mark replace c := List.take_of_length_le (by rw [linesC_len]; exact Nat.le_refl _)
    rw [hall] at cx ⊢
    have cx := cx.left
    obtain ⟨cx3, hs, _, g5, g6⟩ := Ctx.freeze (α := LineD) cx.fst cx.phi.2
    exact ⟨op, oc, rfl, g5, g6, (cx3.add hs).weak fun M w h => ⟨h.1.1.1, h.2⟩⟩

set_option maxHeartbeats 2000000 in
theorem Part42_sl [Stable Φ] {k : Int} [hΦ : Has Φ (fun M w => Sl M w p d)] (hc1 : d.length ≤ cap) (hc2 : cap ≤ maxLen) (hlen : d.length ≤ 1000000) (hfit : ∀ x ∈ d, Fit x) : GivesSl Φ Tryd.prog F.errataref42_Part #[.slice p d.length cap, .int .i64 k] (partP d k) id := by
  have hrow : Rows1 d := fun x hx => Nat.le_trans (hfit x hx).1 (by decide)
  refine gives_sl (Berrataref42_Part_run p d.length cap k) fun W R => ?_
  refine fun w G cx => (Cons28H hc1 hc2 hlen hrow).use cx fun p1 c1 w h1 h2 cx => ?_
  have hcl : (consP d).length ≤ 1000000 := Nat.le_trans (consP_len d) hlen
  have hcfit : ∀ x ∈ consP d, x.row.length ≤ 10000 ∧ ∀ v ∈ x.row, v.text.size ≤ 10000 := consP_row (P := fun r => r.length ≤ 10000 ∧ ∀ v ∈ r, v.text.size ≤ 10000) hfit
  unfold partP
  obtain ⟨f, hf⟩ : ∃ f : DeltaD → Bool, f = fun x : DeltaD => decide (bucketP x.row = k) := ⟨_, rfl⟩
  rw [← hf]
  generalize consP d = c at h1 cx hcl hcfit ⊢
  obtain ⟨g, o, cs, hp, cx⟩ := cx.pin cx.phi.2
  have hcs := Ctx.cells cx (fun M w h => h.2)
  have stP : Stable (fun M w => (Φ M w ∧ Sl M w p1 c) ∧ Pin g o cs c M w) := inferInstance
  refine ⟨p1, _, c1, rfl, R, fun M w => (Φ M w ∧ Sl M w p1 c) ∧ Pin g o cs c M w, stP, cx, ?_⟩
  clear cx
  refine exI_mk (fun op on oc iI R' Φ' m => ∃ (i : Nat) (ds : List Value), iI = i ∧ i ≤ c.length ∧ on = ((c.take i).filter f).length ∧ R' = .buf op on oc ds 39 3 :: R ∧ Φ' = (fun M w => ((Φ M w ∧ Sl M w p1 c) ∧ Pin g o cs c M w) ∧ Elems M w ds ((c.take i).filter f)) ∧ m = c.length - i)
    ⟨⟨.buf none 0 0 [] 39 3 :: R, fun M w => ((Φ M w ∧ Sl M w p1 c) ∧ Pin g o cs c M w) ∧ Elems M w [] ([] : List DeltaD), _, inferInstance, fun w G cx => (cx.nobuf 39 3).weak fun M w h => ⟨h, Elems.nil⟩, 0, [], rfl, Nat.zero_le _, rfl, rfl, rfl, rfl⟩, ?_⟩
  rintro op on oc iI R1 Φ1 m hst ⟨i, ds, rfl, hi, rfl, rfl, rfl, rfl⟩
  refine Br.intro (fun hlt => ?_) (fun hge => fun w G cx => ?_)
  · have hlt : i < c.length := by have := of_decide_eq_true hlt; omega
    obtain ⟨q2, qc, he, f1, f2, f3, f4⟩ := hcs i hlt
    have hfl := filter_take (l := c) (q := f) (i := i)
    have hfX := hcfit c[i] (List.getElem_mem hlt)
    have row : ∀ {w : World} {S : List Own}, Ctx W w S (fun M w => ((Φ M w ∧ Sl M w p1 c) ∧ Pin g o cs c M w) ∧ Elems M w ds ((c.take i).filter f)) → RowAt w g (o + (i : Int).toNat * 3) (c[i].cells q2 qc) := fun cx => by rw [Int.toNat_natCast]; exact pin_rowAt cx.phi.1.2 hlt he
    refine ⟨by omega, ptrK_intro g o (hp (by omega)) fun w G cx => ⟨q2, c[i].row.length, qc, by have := row cx 1 (by simp); simpa using this, fun w G cx => (RBucket_in (r := c[i].row) (hΦ := ⟨fun M w h => pin_row h.1.2 hlt he⟩) hfX.1 hfX.2).toI cx (Br.intro (fun h => ⟨by omega, ptrK_intro g o (hp (by omega)) fun w G cx => ⟨_, _, _, _, _, row cx, fun kb w G cx => ?_⟩⟩) (fun h => ⟨by unfold I64; omega, _, _, c.length - (i + 1), hst, fun w G cx => cx, ⟨i + 1, ds, rfl, hlt, ?_, rfl, ?_, rfl⟩, by omega⟩))⟩⟩
    · have e : (c.take (i + 1)).filter f = (c.take i).filter f ++ [c[i]] := by rw [filter_step hlt, if_pos (by rw [hf]; exact h)]
      obtain ⟨p', c', w', hrun, cx'⟩ := push1 (x := c[i]) (q := q2) (qc := qc) (PS := fun M w => (Φ M w ∧ Sl M w p1 c) ∧ Pin g o cs c M w) (fun M w h => rep_delta f1 f2 f3 f4 (pin_row h.2 hlt he)) (by omega) cx
      rw [← e] at hrun cx'
      exact ⟨p', _, c', w', hrun, _, _, inferInstance, cx', by unfold I64; omega, _, _, c.length - (i + 1), inferInstance, fun w G cx => cx, ⟨i + 1, _, rfl, hlt, rfl, rfl, rfl, rfl⟩, by omega⟩
    all_goals
      have e : (c.take (i + 1)).filter f = (c.take i).filter f := by rw [filter_step hlt, if_neg (by rw [hf]; simpa using h), List.append_nil]
      rw [e]
  · have hge : i = c.length := by have := of_decide_eq_false hge; omega
    subst hge
    rw [List.take_length] at cx ⊢
    have cx := cx.left
    obtain ⟨cx3, hs, _, g5, g6⟩ := Ctx.freeze (α := DeltaD) cx.fst cx.phi.2
    exact ⟨op, oc, rfl, g5, g6, (cx3.add hs).weak fun M w h => ⟨h.1.1.1, h.2⟩⟩
end
end Go.Proofs.YtnapfhbibikbiaaDoor
end

/-
  small, walked; the law of lines in plain Lean.
-/
section
set_option linter.unusedVariables false
set_option linter.unusedSimpArgs false
namespace Go.Proofs.YtnapfhbibikbiaaDoor
open Go.Vc


theorem line_iff {x y : LineD} : x = y ↔ (x.no = y.no ∧ (x.batch = y.batch ∧ (x.time = y.time ∧ (x.row = y.row ∧ (x.n = y.n ∧ (x.cause = y.cause ∧ x.why = y.why)))))) := by cases x; cases y; simp
instance : DecidableEq LineD := fun _ _ => decidable_of_iff _ line_iff.symm

theorem cellL {M : List Nat} {w : World} {g o : Nat} {cs : List (List Value)} {l : List LineD} (h : Pin g o cs l M w) (j k : Nat) (hj : j < l.length) {v : Value} {e : Nat} (he : e = o + j * 7 + k) (hv : ∀ p c, (l[j].cells p c)[k]? = some v) : w.cell? ⟨g, e, none⟩ = some v := by
  obtain ⟨p, c, e1, _⟩ := pin_line h hj
  obtain ⟨hk, hv⟩ := List.getElem?_eq_some_iff.1 (hv p c)
  rw [he, ← hv]
  exact pinl_rowAt h hj e1 k hk
theorem cellD {M : List Nat} {w : World} {g o : Nat} {cs : List (List Value)} {l : List DeltaD} (h : Pin g o cs l M w) (j k : Nat) (hj : j < l.length) {v : Value} {e : Nat} (he : e = o + j * 3 + k) (hv : ∀ p c, (l[j].cells p c)[k]? = some v) : w.cell? ⟨g, e, none⟩ = some v := by
  obtain ⟨p, c, e1, _⟩ := pin_delta h hj
  obtain ⟨hk, hv⟩ := List.getElem?_eq_some_iff.1 (hv p c)
  rw [he, ← hv]
  exact pin_rowAt h hj e1 k hk

abbrev dS : List DeltaD := [⟨5, [valI 1], -1⟩, ⟨5, [valI 2], 1⟩]
abbrev aS : List LineD := [⟨7, 3, 5, [valI 1], -1, 0, 0⟩, ⟨8, 3, 5, [valI 2], 1, 0, 0⟩]
abbrev bS : List LineD := [⟨7, 3, 5, [valI 1], -1, 1, 0⟩, ⟨8, 3, 5, [valI 2], 1, 1, 0⟩]
abbrev cS : List LineD := [⟨7, 3, 5, [valI 1], -1, 2, 2⟩, ⟨8, 3, 5, [valI 2], 1, 2, 2⟩]
theorem dS_is : subP [atP 5 2] [atP 5 1] = dS := by decide
theorem aS_is : linesP 7 3 4 0 dS = aS := by decide
theorem bS_is : linesP 7 3 5 0 dS = bS := by decide
theorem cS_is : linesP 7 3 5 2 dS = cS := by decide
theorem aS_least : leastP aS = true := by decide

theorem at_rep {M : List Nat} {w : World} {k : Nat} {t n : Int} (ht : I64 t) (h : Sl M w (some ⟨k, 0, none⟩) [valI n]) : Gv.rep M w [.int .i64 t, .slice (some ⟨k, 0, none⟩) 1 1, .int .i64 1] (atP t n) :=
  rep_delta (x := atP t n) (Nat.le_refl 1) (by decide) ht (by unfold I64; dsimp only; omega) h

theorem atP_row {t n : Int} : ∀ x ∈ [atP t n], x.row.length ≤ 1000000 := by
  intro x hx; rw [List.mem_singleton.1 hx]; show 1 ≤ 1000000; decide
theorem dS_row : ∀ x ∈ dS, x.row.length ≤ 1000000 := by decide

set_option maxHeartbeats 2000000 in
theorem small_g : Gives Tryd.prog F.erratalaw42_small #[] (.bool true) := by
  refine gives_of (Berratalaw42_small_run) fun W R Φ hs => ?_
  refine fun w G cx => at_use 5 1 (by unfold I64; omega) cx fun k1 w cx => ⟨5, _, 1, 1, 1, rfl, R, fun M w => Φ M w ∧ Sl M w (some ⟨k1, 0, none⟩) [valI 1], inferInstance, cx, fun k2 w G cx => ?_⟩
  obtain ⟨cx, h1⟩ := cx.freezeBlk (α := DeltaD) (l := [atP 5 1]) (Elems.one (at_rep (by unfold I64; omega) (cx.phi.2)))
  refine at_use 5 2 (by unfold I64; omega) ((cx.add h1).weak fun M w h => (⟨h.1.1, h.2⟩ : Φ M w ∧ Sl M w (some ⟨k2, 0, none⟩) [atP 5 1])) fun k3 w cx => ⟨5, _, 1, 1, 1, rfl, R, fun M w => (Φ M w ∧ Sl M w (some ⟨k2, 0, none⟩) [atP 5 1]) ∧ Sl M w (some ⟨k3, 0, none⟩) [valI 2], inferInstance, cx, fun k4 w G cx => ?_⟩
  obtain ⟨cx, h2⟩ := cx.freezeBlk (α := DeltaD) (l := [atP 5 2]) (Elems.one (at_rep (by unfold I64; omega) (cx.phi.2)))
  refine (Diff_sl (Φ := fun M w => (Φ M w ∧ Sl M w (some ⟨k2, 0, none⟩) [atP 5 1]) ∧ Sl M w (some ⟨k4, 0, none⟩) [atP 5 2]) _ 1 [atP 5 1] _ 1 [atP 5 2] (fun M w h => h.1.2) (fun M w h => h.2) (by decide) (by decide) atP_row atP_row).use ((cx.add h2).weak fun M w h => ⟨h.1.1, h.2⟩) fun p0 c0 w g1 g2 cx => ?_
  clear h1 h2
  rw [dS_is] at cx g1 ⊢
  refine ⟨p0, 2, c0, rfl, R, fun M w => Φ M w ∧ Sl M w p0 dS, inferInstance, cx.weak fun M w h => ⟨h.1.1.1, h.2⟩, fun w G cx => ?_⟩
  refine (Lines_sl (Φ := fun M w => Φ M w ∧ Sl M w p0 dS) p0 c0 dS 7 3 4 0 (fun M w h => h.2) (by unfold I64; omega) (by unfold I64; omega) (by decide) dS_row).use cx fun p1 c1 w f1 f2 cx => ?_
  rw [aS_is] at cx f1 ⊢
  refine ⟨p1, 2, c1, rfl, R, fun M w => (Φ M w ∧ Sl M w p0 dS) ∧ Sl M w p1 aS, inferInstance, cx, fun w G cx => ?_⟩
  refine (Lines_sl (Φ := fun M w => (Φ M w ∧ Sl M w p0 dS) ∧ Sl M w p1 aS) p0 c0 dS 7 3 5 0 (fun M w h => h.1.2) (by unfold I64; omega) (by unfold I64; omega) (by decide) dS_row).use cx fun p2 c2 w f3 f4 cx => ?_
  rw [bS_is] at cx f3 ⊢
  refine ⟨p2, 2, c2, rfl, R, fun M w => ((Φ M w ∧ Sl M w p0 dS) ∧ Sl M w p1 aS) ∧ Sl M w p2 bS, inferInstance, cx, fun w G cx => ?_⟩
  refine (Lines_sl (Φ := fun M w => ((Φ M w ∧ Sl M w p0 dS) ∧ Sl M w p1 aS) ∧ Sl M w p2 bS) p0 c0 dS 7 3 5 2 (fun M w h => h.1.1.2) (by unfold I64; omega) (by unfold I64; omega) (by decide) dS_row).use cx fun p3 c3 w f5 f6 cx => ?_
  rw [cS_is] at cx f5 ⊢
  obtain ⟨gd, od, csd, hpd, cx⟩ := cx.pin cx.phi.1.1.1.2
  have hd := hpd (by decide)
  obtain ⟨ga, oa, csa, hpa, cx⟩ := cx.pin cx.phi.1.1.1.2
  have ha := hpa (by decide)
  obtain ⟨gb, ob, csb, hpb, cx⟩ := cx.pin cx.phi.1.1.1.2
  have hb := hpb (by decide)
  obtain ⟨gc, oc, csc, hpc, cx⟩ := cx.pin cx.phi.1.1.1.2
  have hc := hpc (by decide)
  refine ⟨p3, 2, c3, rfl, R, fun M w => ((((Φ M w ∧ Sl M w p1 aS) ∧ Pin gd od csd dS M w) ∧ Pin ga oa csa aS M w) ∧ Pin gb ob csb bS M w) ∧ Pin gc oc csc cS M w, inferInstance, cx.weak fun M w h => ⟨⟨⟨⟨⟨h.1.1.1.1.1.1.1.1, h.1.1.1.1.1.1.2⟩, h.1.1.1.2⟩, h.1.1.2⟩, h.1.2⟩, h.2⟩, ?_⟩
  clear hpa hpb hpc hpd cx
  refine fun w G cx => Br.intro (fun h => by exfalso; revert h; decide) (fun _ => fun w G cx => ⟨by omega, ptrK_intro gd od hd ⟨-1, cellD cx.phi.1.1.1.2 0 2 (by decide) (by omega) (fun _ _ => rfl), fun _ => by omega, ptrK_intro gd od hd ⟨1, fun _ => cellD cx.phi.1.1.1.2 1 2 (by decide) (by omega) (fun _ _ => rfl), fun _ => by omega, ptrK_intro ga oa ha ⟨7, fun _ => cellL cx.phi.1.1.2 0 0 (by decide) (by omega) (fun _ _ => rfl), fun _ => by omega, ptrK_intro ga oa ha ⟨8, fun _ => cellL cx.phi.1.1.2 1 0 (by decide) (by omega) (fun _ _ => rfl), fun _ => by omega, ptrK_intro ga oa ha ⟨0, fun _ => cellL cx.phi.1.1.2 0 5 (by decide) (by omega) (fun _ _ => rfl), fun _ => by omega, ptrK_intro ga oa ha ⟨3, fun _ => cellL cx.phi.1.1.2 0 1 (by decide) (by omega) (fun _ _ => rfl), Br.intro (fun _ => ?_) (fun h => by exfalso; revert h; decide)⟩⟩⟩⟩⟩⟩⟩)
  refine ⟨by omega, ptrK_intro gb ob hb fun w G cx => ⟨1, cellL cx.phi.1.2 0 5 (by decide) (by omega) (fun _ _ => rfl), Br.intro (fun _ => ?_) (fun h => by exfalso; revert h; decide)⟩⟩
  refine ⟨by omega, ptrK_intro gc oc hc fun w G cx => ⟨2, cellL cx.phi.2 1 5 (by decide) (by omega) (fun _ _ => rfl), Br.intro (fun _ => ?_) (fun h => by exfalso; revert h; decide)⟩⟩
  refine ⟨by omega, ptrK_intro gc oc hc fun w G cx => ⟨2, cellL cx.phi.2 1 6 (by decide) (by omega) (fun _ _ => rfl), Br.intro (fun _ => ?_) (fun h => by exfalso; revert h; decide)⟩⟩
  have hcall := Least_in (Φ := fun M w => ((((Φ M w ∧ Sl M w p1 aS) ∧ Pin gd od csd dS M w) ∧ Pin ga oa csa aS M w) ∧ Pin gb ob csb bS M w) ∧ Pin gc oc csc cS M w) p1 c1 aS (fun M w h => h.1.1.1.1.2) (by decide)
  rw [aS_least] at hcall
  exact fun w G cx => hcall.use cx fun w cx => ⟨true, rfl, R, Φ, inferInstance, cx.weak fun M w h => h.1.1.1.1.1, fun w G cx => ⟨rfl, cx.left⟩⟩

end Go.Proofs.YtnapfhbibikbiaaDoor
end

/-
  The law DifferenceParts, in plain Lean and walked.
-/
section
set_option linter.unusedVariables false
set_option linter.unusedSimpArgs false
namespace Go.Proofs.YtnapfhbibikbiaaDoor
open Go.Vc


/-! ### in plain Lean -/
theorem sumK_filter {f : DeltaD → Bool} {k : Key} {g : Bool} : ∀ {l : List DeltaD}, (∀ x ∈ l, x.key = k → f x = g) → sumK (l.filter f) k = if g then sumK l k else 0
  | [], _ => by cases g <;> rfl
  | x :: l, h => by
    have ih := sumK_filter (f := f) (k := k) (g := g) (l := l) fun y hy => h y (by simp [hy])
    by_cases hk : x.key = k
    · have hx := h x (by simp) hk
      cases g
      · rw [List.filter_cons_of_neg (by rw [hx]; simp), ih]; rfl
      · rw [List.filter_cons_of_pos hx]
        simp only [sumK]
        rw [ih]; rfl
    · by_cases hf : f x = true
      · rw [List.filter_cons_of_pos hf]
        simp only [sumK]
        rw [if_neg hk, ih]
        cases g
        · simp
        · simp
      · rw [List.filter_cons_of_neg hf, ih]
        simp only [sumK]
        rw [if_neg hk]
        cases g
        · simp
        · simp
theorem find_part (l : List DeltaD) (m : Int) (k : Key) : findP (partP l m) k = if bucketP k.2 = m then findP l k else 0 := by
  have h := sumK_filter (f := fun x : DeltaD => decide (bucketP x.row = m)) (k := k) (g := decide (bucketP k.2 = m)) (l := consP l) fun x _ hx => by rw [← hx]
  have h2 := (consP_norm l).2 k
  unfold partP
  unfold findP at h2 ⊢
  rw [h]
  by_cases hb : bucketP k.2 = m
  · rw [if_pos (decide_eq_true hb), if_pos hb]; exact h2
  · rw [if_neg (by simpa using hb), if_neg hb]; rfl
theorem part_len (l : List DeltaD) (m : Int) : (partP l m).length ≤ l.length := Nat.le_trans (List.length_filter_le _ _) (consP_len l)
theorem part_fit {l : List DeltaD} (m : Int) (h : ∀ x ∈ l, Fit x) : ∀ x ∈ partP l m, Fit x := fun x hx => consP_row (P := fun r => r.length ≤ 10000 ∧ ∀ v ∈ r, v.text.size ≤ 10000) h x (List.mem_filter.1 hx).1
theorem fit_rows {l : List DeltaD} (h : ∀ x ∈ l, Fit x) : Rows1 l := fun x hx => Nat.le_trans (h x hx).1 (by decide)
theorem add_fit {a b : List DeltaD} (ha : ∀ x ∈ a, Fit x) (hb : ∀ x ∈ b, Fit x) : ∀ x ∈ addP a b, Fit x := consP_row (P := fun r => r.length ≤ 10000 ∧ ∀ v ∈ r, v.text.size ≤ 10000) fun x hx => by
  rcases List.mem_append.1 hx with hx | hx
  · exact ha x hx
  · exact hb x hx
theorem sub_fit {a b : List DeltaD} (ha : ∀ x ∈ a, Fit x) (hb : ∀ x ∈ b, Fit x) : ∀ x ∈ subP a b, Fit x := consP_row (P := fun r => r.length ≤ 10000 ∧ ∀ v ∈ r, v.text.size ≤ 10000) fun x hx => by
  rcases List.mem_append.1 hx with hx | hx
  · exact ha x hx
  · obtain ⟨y, hy, rfl⟩ := List.mem_map.1 hx
    exact hb y hy
theorem cons_fit {a : List DeltaD} (ha : ∀ x ∈ a, Fit x) : ∀ x ∈ consP a, Fit x := consP_row (P := fun r => r.length ≤ 10000 ∧ ∀ v ∈ r, v.text.size ≤ 10000) ha

/-- has the row's bucket been done? -/
def donP (done : List Bool) (r : List ValD) : Bool := (done[(bucketP r).toNat]?).getD false
theorem donP_at {done : List Bool} {r : List ValD} {j : Nat} (h : j < done.length) (hr : bucketP r = (j : Int)) : donP done r = done[j] := by
  unfold donP
  rw [hr, Int.toNat_natCast, List.getElem?_eq_getElem h]
  rfl
theorem donP_set {done : List Bool} {r : List ValD} {j : Nat} (h : j < done.length) : donP (done.set j true) r = (decide (bucketP r = (j : Int)) || donP done r) := by
  obtain ⟨b1, b2⟩ := bucket_bd r
  unfold donP
  by_cases hr : bucketP r = (j : Int)
  · rw [decide_eq_true hr, Bool.true_or, hr, Int.toNat_natCast, List.getElem?_set_self (by exact h)]
    rfl
  · rw [decide_eq_false hr, Bool.false_or, List.getElem?_set_ne (by omega)]

theorem len_filter_or {f g : DeltaD → Bool} : ∀ {l : List DeltaD}, (∀ x ∈ l, f x = true → g x = false) → ((l.filter fun x => f x || g x).length : Int) = (l.filter g).length + (l.filter f).length
  | [], _ => rfl
  | x :: l, h => by
    have ih := len_filter_or (f := f) (g := g) (l := l) fun y hy => h y (by simp [hy])
    by_cases hf : f x = true
    · have hg := h x (by simp) hf
      rw [List.filter_cons_of_pos (by rw [hf]; rfl), List.filter_cons_of_neg (by rw [hg]; simp), List.filter_cons_of_pos hf, List.length_cons, List.length_cons]
      omega
    · by_cases hg : g x = true
      · rw [List.filter_cons_of_pos (by rw [hg]; simp), List.filter_cons_of_pos hg, List.filter_cons_of_neg hf, List.length_cons, List.length_cons]
        omega
      · rw [List.filter_cons_of_neg (by simp [hf, hg]), List.filter_cons_of_neg hg, List.filter_cons_of_neg hf]
        exact ih

structure PInv (a b : List DeltaD) (done : List Bool) (N : List DeltaD) (t : Int) : Prop where
  len : done.length = 16
  find : ∀ k, findP N k = if donP done k.2 then findP b k else findP a k
  tot : t = (((subP b a).filter fun x => donP done x.row).length : Int)
  fit : ∀ x ∈ N, Fit x
  few : (N.length : Int) ≤ a.length + t

theorem PInv.start {a b : List DeltaD} (ha : ∀ x ∈ a, Fit x) : PInv a b (List.replicate 16 false) (consP a) 0 := by
  have hd : ∀ r, donP (List.replicate 16 false) r = false := fun r => by
    unfold donP
    rw [List.getElem?_replicate]
    split <;> rfl
  refine ⟨rfl, fun k => ?_, ?_, cons_fit ha, by have := consP_len a; omega⟩
  · rw [hd]
    exact (consP_norm a).2 k
  · have : ((subP b a).filter fun x => donP (List.replicate 16 false) x.row) = [] := List.filter_eq_nil_iff.2 fun x _ => by rw [hd]; simp
    rw [this]
    rfl
theorem PInv.step {a b : List DeltaD} {done : List Bool} {N : List DeltaD} {t : Int} (h : PInv a b done N t) (ha : ∀ x ∈ a, Fit x) (hb : ∀ x ∈ b, Fit x) {j : Nat} (hj : j < done.length) (hd : done[j] = false) :
    PInv a b (done.set j true) (addP N (partP (subP b a) (j : Int))) (t + ((partP (subP b a) (j : Int)).length : Int)) := by
  refine ⟨by rw [List.length_set]; exact h.len, fun k => ?_, ?_, add_fit h.fit (part_fit _ (sub_fit hb ha)), ?_⟩
  · rw [find_add, find_part, donP_set hj, h.find k, find_sub]
    by_cases hk : bucketP k.2 = (j : Int)
    · rw [if_pos hk, decide_eq_true hk, Bool.true_or, donP_at hj hk, hd, w64_r]
      simp only [if_true, Bool.false_eq_true, if_false]
      rw [show findP a k + (findP b k - findP a k) = findP b k by omega, find_w]
    · rw [if_neg hk, decide_eq_false hk, Bool.false_or, Int.add_zero]
      split
      · exact find_w b k
      · exact find_w a k
  · have e1 : (fun x : DeltaD => donP (done.set j true) x.row) = fun x => decide (bucketP x.row = (j : Int)) || donP done x.row := funext fun x => donP_set hj
    have e2 : partP (subP b a) (j : Int) = (subP b a).filter fun x => decide (bucketP x.row = (j : Int)) := by
      unfold partP subP
      rw [consP_cons]
    rw [e1, e2, len_filter_or (f := fun x : DeltaD => decide (bucketP x.row = (j : Int))) (g := fun x => donP done x.row) (fun x _ hx => by rw [donP_at hj (of_decide_eq_true hx), hd]), ← h.tot]
  · have h1 := addP_len N (partP (subP b a) (j : Int))
    have h2 := h.few
    omega
theorem PInv.part {a b : List DeltaD} {done : List Bool} {N : List DeltaD} {t : Int} (h : PInv a b done N t) {m : Nat} (hm : m < done.length) : consP (partP N (m : Int)) = consP (partP (if done[m] then b else a) (m : Int)) := by
  refine consP_eq fun k => ?_
  rw [find_part, find_part]
  split
  · rename_i hk
    rw [h.find k, donP_at hm hk]
    cases done[m] <;> rfl
  · rfl
theorem PInv.done {a b : List DeltaD} {done : List Bool} {N : List DeltaD} {t : Int} (h : PInv a b done N t) (hall : ∀ j, (hj : j < done.length) → done[j] = true) : consP N = consP b ∧ t = ((subP b a).length : Int) := by
  have hd : ∀ r, donP done r = true := fun r => by
    obtain ⟨b1, b2⟩ := bucket_bd r
    have hl := h.len
    have hj : (bucketP r).toNat < done.length := by omega
    rw [donP_at hj (by omega)]
    exact hall _ hj
  refine ⟨consP_eq fun k => by rw [h.find k, hd]; rfl, ?_⟩
  rw [h.tot]
  congr 2
  exact List.filter_eq_self.2 fun x _ => hd x.row
/-- right rows are short -/
theorem right_fit {l : List DeltaD} {most : Int} (h : (decide ((l.length : Int) ≤ most) && l.all fun x => rightR x.row) = true) : (l.length : Int) ≤ most ∧ ∀ x ∈ l, Fit x := by
  rw [Bool.and_eq_true, decide_eq_true_eq, List.all_eq_true] at h
  refine ⟨h.1, fun x hx => ?_⟩
  have h2 := h.2 x hx
  unfold rightR at h2
  rw [Bool.and_eq_true, decide_eq_true_eq, List.all_eq_true] at h2
  refine ⟨by omega, fun v hv => ?_⟩
  have h3 := h2.2 v hv
  unfold rightV3 at h3
  split at h3
  · have h4 := of_decide_eq_true h3
    rw [h4]
    exact Nat.zero_le _
  · split at h3
    · rw [Bool.and_eq_true, decide_eq_true_eq, decide_eq_true_eq] at h3
      omega
    · rw [Bool.and_eq_true, Bool.and_eq_true] at h3
      have h4 := of_decide_eq_true h3.2
      rw [h4]
      exact Nat.zero_le _

/-! ### walked -/
section
variable {Φ : PW} {p q : Option Addr} {cap cap2 : Nat} {a b : List DeltaD}
theorem Diff2H [Stable Φ] [hΦ : Has Φ (fun M w => Sl M w p a)] [hΨ : Has Φ (fun M w => Sl M w q b)]
    (ha : a.length ≤ 400000) (hb : b.length ≤ 400000) (hra : Rows1 a) (hrb : Rows1 b) : GivesSl Φ Tryd.prog F.difference_Diff #[.slice p a.length cap, .slice q b.length cap2] (subP b a) id := Diff_sl p cap a q cap2 b hΦ.go hΨ.go ha hb hra hrb
end

end Go.Proofs.YtnapfhbibikbiaaDoor
end

/-
  The law DifferenceTells, walked.
-/
section
set_option linter.unusedVariables false
set_option linter.unusedSimpArgs false
namespace Go.Proofs.YtnapfhbibikbiaaDoor
open Go.Vc


section
variable {Φ : PW} {p q : Option Addr} {cap cap2 : Nat} {d : List DeltaD} {l : List LineD}
theorem LinesH [Stable Φ] {no batch mark replace : Int} [hΦ : Has Φ (fun M w => Sl M w p d)] (hb : I64 batch) (hr : I64 replace) (hlen : d.length ≤ 1000000) (hrow : Rows1 d) :
    GivesSl Φ Tryd.prog F.difference_Lines #[.slice p d.length cap, .int .i64 no, .int .i64 batch, .int .i64 mark, .int .i64 replace] (linesP no batch mark replace d) id := Lines_sl p cap d no batch mark replace hΦ.go hb hr hlen hrow
theorem NetH [Stable Φ] [hΦ : Has Φ (fun M w => Sl M w q l)] (hlen : l.length ≤ 400000) (hrow : ∀ x ∈ l, x.row.length ≤ 1000000) : GivesSl Φ Tryd.prog F.difference_Net #[.slice q l.length cap] (netP l) id := Net_sl q cap l hΦ.go hlen hrow
theorem LeastH [Stable Φ] [hΦ : Has Φ (fun M w => Sl M w q l)] (hlen : l.length ≤ 1000000) : GivesIn Φ Tryd.prog F.difference_Least #[.slice q l.length cap] (.bool (leastP l)) := Least_in q cap l hΦ.go hlen
end

theorem rightL_rows {l : List LineD} {most : Int} (h : (decide ((l.length : Int) ≤ most) && l.all fun x => rightR x.row) = true) : (l.length : Int) ≤ most ∧ ∀ x ∈ l, x.row.length ≤ 1000000 := by
  rw [Bool.and_eq_true, decide_eq_true_eq, List.all_eq_true] at h
  refine ⟨h.1, fun x hx => ?_⟩
  have := h.2 x hx
  unfold rightR at this
  rw [Bool.and_eq_true, decide_eq_true_eq] at this
  omega

set_option maxHeartbeats 4000000 in
theorem Tells42_in {Φ : PW} [Stable Φ] (p : Option Addr) (cap : Nat) (a : List DeltaD) (q : Option Addr) (cap2 : Nat) (b : List DeltaD) (no batch mark replace : Int) (r : Option Addr) (rc : Nat) (l : List LineD) (bucket : Int)
    [hA : Has Φ (fun M w => Sl M w p a)] [hB : Has Φ (fun M w => Sl M w q b)] [hL : Has Φ (fun M w => Sl M w r l)] [hT : Has Φ TabI] (ha1 : a.length ≤ cap) (ha2 : cap ≤ maxLen) (hb1 : b.length ≤ cap2) (hb2 : cap2 ≤ maxLen) (hl1 : l.length ≤ rc) (hl2 : rc ≤ maxLen) (hba : I64 batch) (hre : I64 replace) :
    GivesIn Φ Tryd.prog F.erratalaw42_DifferenceTells #[.slice p a.length cap, .slice q b.length cap2, .int .i64 no, .int .i64 batch, .int .i64 mark, .int .i64 replace, .slice r l.length rc, .int .i64 bucket] (.bool true) := by
  refine gives_in (Berratalaw42_DifferenceTells_run p a.length cap q b.length cap2 no batch mark replace r l.length rc bucket) fun W R => ?_
  refine fun w G cx => (small_g.in).toB cx fun w G cx => (Right42_in p cap a 50 hA.go (len_max ha1 ha2)).toB cx (Br.intro (fun _ => fun w G cx => ⟨rfl, cx.left⟩) fun hf1 => ?_)
  clear cx
  refine fun w G cx => (Right42_in q cap2 b 50 hB.go (len_max hb1 hb2)).toB cx (Br.intro (fun _ => fun w G cx => ⟨rfl, cx.left⟩) fun hf2 => ?_)
  clear cx
  refine fun w G cx => (RightL_in (l := l) (most := 50) (len_max hl1 hl2)).toB cx (Br.intro (fun _ => fun w G cx => ⟨rfl, cx.left⟩) fun hf3 => ?_)
  clear cx
  obtain ⟨al, af⟩ := right_fit (by simpa only [Bool.not_eq_false'] using hf1)
  obtain ⟨bl, bf⟩ := right_fit (by simpa only [Bool.not_eq_false'] using hf2)
  obtain ⟨ll, lr⟩ := rightL_rows (by simpa only [Bool.not_eq_false'] using hf3)
  clear hf1 hf2 hf3
  have ar := fit_rows af
  have br := fit_rows bf
  have e1 := subP_len b a
  have e2 : (netP l).length ≤ 50 := by have := consP_len (l.map LineD.d); rw [List.length_map] at this; unfold netP; omega
  have e3 : (linesP no batch mark replace a).length ≤ 50 := by have := consP_len a; unfold linesP; rw [linesC_len]; omega
  refine fun w G cx => (Diff2H (a := a) (b := b) (by omega) (by omega) ar br).to cx fun p1 c1 _ _ _ => fun w G cx => (Sub28H (a := b) (b := a) (by omega) (by omega) br ar).to cx fun p2 c2 _ _ _ => fun w G cx => (EqualV_in (a := subP b a) (b := subP b a) rfl (by omega)).toBW (Ψ := Φ) cx (Br.intro (fun h => by cases h) (fun _ => ?_))
  clear cx
  refine fun w G cx => (LinesH (d := a) hba hre (by omega) ar).to cx fun p1 c1 _ _ _ => fun w G cx => (Lines42_sl (d := a) ha1 ha2 hba hre (by omega) ar).to cx fun p2 c2 _ _ _ => fun w G cx => (SameL_in (l := linesP no batch mark replace a) (by omega)).toBW (Ψ := Φ) cx (Br.intro (fun h => by cases h) (fun _ => ?_))
  clear cx
  refine fun w G cx => (NetH (l := l) (by omega) lr).to cx fun p1 c1 _ _ _ => fun w G cx => (Net42_sl (l := l) (by omega) lr).to cx fun p2 c2 _ _ _ => fun w G cx => (EqualV_in (a := netP l) (b := netP l) rfl (by omega)).toBW (Ψ := Φ) cx (Br.intro (fun h => by cases h) (fun _ => ?_))
  clear cx
  refine fun w G cx => (LeastH (l := l) (by omega)).toB cx fun w G cx => (Least42_in (l := l) (by omega)).toB cx (Br.intro (fun h => by exfalso; simp at h) (fun _ => ?_))
  clear cx
  refine fun w G cx => (Split_sl (l := a) (by omega) af).use cx fun p1 c1 w h1 h2 cx => ?_
  have hS := splitP_len a
  have hSi := splitP_get a
  obtain ⟨S, hSe⟩ : ∃ S, splitP a = S := ⟨_, rfl⟩
  rw [hSe] at cx h1 hS hSi ⊢
  obtain ⟨g, o, cs, hp, cx⟩ := cx.pin cx.phi.2
  have hll : ∀ j, (hj : j < S.length) → ∃ p c, cs.getD j [] = [.slice p S[j].length c] ∧ S[j].length ≤ c ∧ c ≤ maxLen := fun j hj => pin_ll cx.phi.2 hj
  have st1 : Stable (fun M w => (Φ M w ∧ Sl M w p1 S) ∧ Pin g o cs S M w) := inferInstance
  refine ⟨p1, _, c1, rfl, R, _, st1, cx, ?_⟩
  clear cx hSe
  refine Br.intro (fun h => absurd (by rw [hS]; rfl) (of_decide_eq_true h)) (fun _ => ?_)
  refine exI_mk (fun iI R' Φ' m => ∃ i : Nat, iI = i ∧ i ≤ 16 ∧ R' = R ∧ Φ' = (fun M w => (Φ M w ∧ Sl M w p1 S) ∧ Pin g o cs S M w) ∧ m = 16 - i) ⟨⟨R, _, _, st1, fun w G cx => cx, 0, rfl, by omega, rfl, rfl, rfl⟩, ?_⟩
  rintro iI R1 Φ1 m _ ⟨i, rfl, hi, rfl, rfl, rfl⟩
  have q1 := part_len a bucket
  refine Br.intro (fun hlt => ?_) (fun hge => ?_)
  · have hlt : i < 16 := by have := of_decide_eq_true hlt; omega
    have hiS : i < S.length := by omega
    obtain ⟨p3, c3, e4, g1, g2⟩ := hll i hiS
    have hSiv := hSi i hiS
    have q2 := part_len a (i : Int)
    rw [hSiv] at e4 g1
    refine ⟨R1, _, st1, fun w G cx => cx, by omega, ptrK_intro g o (hp (by omega)) ⟨p3, (partP a (i : Int)).length, c3, fun w G cx => ⟨p3, _, c3, ?_, rfl⟩, fun w G cx => (Part42_sl (d := a) (k := (i : Int)) ha1 ha2 (by omega) af).use cx fun p5 c5 w h3 h4 cx => ⟨p5, _, c5, rfl, R1, _, inferInstance, cx, fun w G cx => cx.fst, fun w G cx => ?_⟩⟩⟩
    · rw [Int.toNat_natCast, ← hSiv]
      exact pin_llAt cx.phi.2 hiS (by rw [hSiv]; exact e4)
    · refine (EqualV_in (Φ := fun M w => ((Φ M w ∧ Sl M w p1 S) ∧ Pin g o cs S M w) ∧ Sl M w p5 (partP a (i : Int))) (a := partP a (i : Int)) (b := partP a (i : Int)) rfl (hΦ := ⟨fun M w h => ?_⟩) (by omega)).toBW (Ψ := fun M w => (Φ M w ∧ Sl M w p1 S) ∧ Pin g o cs S M w) cx (Br.intro (fun h => by cases h) (fun _ => ⟨by unfold I64; omega, R1, _, 16 - (i + 1), st1, fun w G cx => cx, ⟨i + 1, by omega, hlt, rfl, rfl, rfl⟩, by omega⟩))
      rw [← hSiv]
      exact pin_llSl h.1.2 hiS (by rw [hSiv]; exact e4)
  · refine fun w G cx => (Part_sl (l := a) (k := bucket) (by omega) af).to cx fun p3 c3 _ _ st3 => fun w G cx => Br.intro (fun ho => fun w G cx => fun w G cx => ⟨?_, cx.left.weak fun M w h => h.1.1.1⟩) (fun ho => Br.intro (fun _ => ?_) (fun h => by cases h))
    · have hnil : partP a bucket = [] := by
        unfold partP
        rw [List.filter_eq_nil_iff]
        intro x _ h
        obtain ⟨b1, b2⟩ := bucket_bd x.row
        have h := of_decide_eq_true h
        rw [Bool.or_eq_true] at ho
        rcases ho with ho | ho <;> have ho := of_decide_eq_true ho <;> omega
      rw [hnil]
      rfl
    · exact fun w G cx => (Part42_sl (d := a) (k := bucket) ha1 ha2 (by omega) af).to cx fun p5 c5 _ _ _ => fun w G cx => (EqualV_in (a := partP a bucket) (b := partP a bucket) rfl (by omega)).toBW (Ψ := Φ) cx fun w G cx => ⟨rfl, cx.left⟩

end Go.Proofs.YtnapfhbibikbiaaDoor
end

/-
  From what a row lists as laid to the table of the powers of ten.
-/
section
set_option linter.unusedVariables false
set_option linter.unusedSimpArgs false
namespace Go.Proofs.YtnapfhbibikbiaaDoor
open Go.Vc Go.RowKit

theorem tab_drop {P : Program} {w : World} : ∀ (n : Nat) {l : List (String × DataW Unit)}, laidMet P l w → laidMet P (l.drop n) w
  | 0, l, h => by rw [List.drop_zero]; exact h
  | n + 1, [], h => h
  | n + 1, x :: l, h => by rw [List.drop_succ_cons]; exact tab_drop n h.tail
/-- the table, out of a list that has it at the n-th place -/
theorem la_tab {W : World} {l : List (String × DataW Unit)} (n : Nat) (h : laidMetH Tryd.prog l W) (hp : (l.all fun x => x.2.handleName?.isNone) = true) (hd : ∃ r, l.drop n = ("internal/strconv.uint64pow10", Lib.tabData .u64 Lib.pow10Tab) :: r) : TabI [] W := by
  rw [MakeChecks.laidMetH_plain Tryd.prog l W hp] at h
  obtain ⟨r, hr⟩ := hd
  have h2 := tab_drop n h
  rw [hr] at h2
  exact Tab.start (Lib.tabIs_of_head (k := .u64) (zs := Lib.pow10Tab) (g := 1) (t := 112) (e := 105) (n := 20) (by kernel_rfl) (by kernel_rfl) (by kernel_rfl) (by kernel_rfl) (by kernel_rfl) (by kernel_rfl) h2)

end Go.Proofs.YtnapfhbibikbiaaDoor
end

section
set_option linter.unusedVariables false
set_option linter.unusedSimpArgs false
namespace Go.Proofs.YtnapfhbibikbiaaDoor
open Go.ChangeShapes Go.WideShapes Go.ChangeAt Go.RowKit Go.Vc


theorem df_own : ownKnob Tryd.prog.godebug = none := by kernel_rfl
theorem df_laid : laidOutB Tryd.prog = true := by kernel_rfl

theorem wf_I64 {x : Int} (h : (Lit.int .i64 x).wf = true) : I64 x := by
  simp [Lit.wf, IntKind.min, IntKind.max, IntKind.signed, IntKind.bits] at h
  exact h

theorem trodAll_n {H : Type} {enc : TypeId × Value → H} {P : Program} {w : World} {base : Nat} {spare : Nat → Bool} {held : Bool} {t0 t1 t2 t3 t4 t5 t6 t7 : TypeId} {args : Array Value} {ds : List (DataW H)} {ps : List MemPlace} (h : DataW.TrodAll enc P w base spare held [t0, t1, t2, t3, t4, t5, t6, t7] args.toList ds ps) :
    ∃ v0 v1 v2 v3 v4 v5 v6 v7 d0 d1 d2 d3 d4 d5 d6 d7 p0 p1 p2 p3 p4 p5 p6 p7, args = #[v0, v1, v2, v3, v4, v5, v6, v7] ∧ ds = [d0, d1, d2, d3, d4, d5, d6, d7] ∧ ps = p0 ++ p1 ++ p2 ++ p3 ++ p4 ++ p5 ++ p6 ++ p7 ∧ DataW.Trod enc P w base spare held t0 v0 d0 p0 ∧ DataW.Trod enc P w base spare held t1 v1 d1 p1 ∧ DataW.Trod enc P w base spare held t2 v2 d2 p2 ∧ DataW.Trod enc P w base spare held t3 v3 d3 p3 ∧ DataW.Trod enc P w base spare held t4 v4 d4 p4 ∧ DataW.Trod enc P w base spare held t5 v5 d5 p5 ∧ DataW.Trod enc P w base spare held t6 v6 d6 p6 ∧ DataW.Trod enc P w base spare held t7 v7 d7 p7 := by
  obtain ⟨v0, vs0, d0, ds0, p0, q0, hargs, rfl, rfl, h0, h⟩ := trodAll_cons h
  obtain ⟨v1, vs1, d1, ds1, p1, q1, rfl, rfl, rfl, h1, h⟩ := trodAll_cons h
  obtain ⟨v2, vs2, d2, ds2, p2, q2, rfl, rfl, rfl, h2, h⟩ := trodAll_cons h
  obtain ⟨v3, vs3, d3, ds3, p3, q3, rfl, rfl, rfl, h3, h⟩ := trodAll_cons h
  obtain ⟨v4, vs4, d4, ds4, p4, q4, rfl, rfl, rfl, h4, h⟩ := trodAll_cons h
  obtain ⟨v5, vs5, d5, ds5, p5, q5, rfl, rfl, rfl, h5, h⟩ := trodAll_cons h
  obtain ⟨v6, vs6, d6, ds6, p6, q6, rfl, rfl, rfl, h6, h⟩ := trodAll_cons h
  obtain ⟨v7, vs7, d7, ds7, p7, q7, rfl, rfl, rfl, h7, h⟩ := trodAll_cons h
  obtain ⟨rfl, rfl, rfl⟩ := trodAll_nil h
  exact ⟨v0, v1, v2, v3, v4, v5, v6, v7, d0, d1, d2, d3, d4, d5, d6, d7, p0, p1, p2, p3, p4, p5, p6, p7, by cases args; simp_all, rfl, by simp, h0, h1, h2, h3, h4, h5, h6, h7⟩

theorem door_met (os : Os) (args : Array Value) : laidMetH Tryd.prog Rows.differenceTellsRow.laid ((World.doorLaid Tryd.prog 400 os).forCall (fun _ _ => 0) ⟨#[], args, []⟩).memory :=
  laidMetH_of_parts3 (fuel := 8) (laidMet_of_run' 8 (by kernel_rfl) (by kernel_rfl)) (by kernel_rfl) (by kernel_rfl)

set_option maxRecDepth 100000 in
theorem law_lifted (os : Os) (started : os.Started) (H : Type) (enc : TypeId × Value → H) :
    ReturnsInHanded {} Tryd.checked os 3 .any (fun w args => (Rows.differenceTellsSpec.pre enc Tryd.prog Tryd.f3 Rows.differenceTellsRow.domain false w args ∧ laidMetH Tryd.prog Rows.differenceTellsRow.laid w) ∧ sizedMet enc Tryd.prog Tryd.f3 (OpenSpec.ofChange Rows.differenceTellsSpec) false w args) (Rows.differenceTellsSpec.post enc Tryd.prog Tryd.f3 false true false false) := by
  refine lawTrueLaid (C := Tryd.checked) (tb := 4) df_own started (by kernel_rfl) Tryd.func3 df_laid rfl ?_ rfl Tryd.underlying4 (by kernel_rfl)
    (ChangeSpec.witness_shaped (enc := enc) (C := Tryd.checked) (os := os) (X := fun w _ => laidMetH Tryd.prog Rows.differenceTellsRow.laid w) false (World.doorLaid Tryd.prog 400 os) #[.slice none 0 0, .slice none 0 0, .int .i64 0, .int .i64 0, .int .i64 0, .int .i64 0, .slice none 0 0, .int .i64 0] 8 rfl (World.shaped_of_RefB (by kernel_rfl) (by kernel_rfl)) (by kernel_rfl) (by kernel_rfl) (by kernel_rfl) (door_met os _)) ?_
  · intro ds hd
    match ds, hd with
    | [_, _, _, _, _, _, _, _], _ => exact ⟨rfl, rfl, rfl⟩
  · intro W base args ds p hval0 hA0 _ hL
    have hval : ∀ (j : Nat) t v, Tryd.f3.params[j]? = some t → args[j]? = some v → Value.okWide Tryd.prog W .any base t v := hval0
    have hA : DataW.TrodAll enc Tryd.prog W 0 (fun _ => true) true Tryd.f3.params.toList args.toList ds p := hA0
    rw [Tryd.params3] at hA hval
    obtain ⟨v0, v1, v2, v3, v4, v5, v6, v7, d0, d1, d2, d3, d4, d5, d6, d7, p0, p1, p2, p3, p4, p5, p6, p7, rfl, rfl, rfl, h0, h1, h2, h3, h4, h5, h6, h7⟩ := trodAll_n hA
    obtain ⟨ap, ac, a, rfl, aa, ab, s0⟩ := open_sl (α := DeltaD) 12 Tryd.underlying22 (hval 0 22 v0 rfl rfl) (by kernel_rfl) h0
    obtain ⟨bp, bc, b, rfl, ba, bb, s1⟩ := open_sl (α := DeltaD) 12 Tryd.underlying22 (hval 1 22 v1 rfl rfl) (by kernel_rfl) h1
    obtain ⟨no, rfl, rfl, rfl, now⟩ := open_int Tryd.underlying3 (hval 2 3 v2 rfl rfl) h2
    obtain ⟨batch, rfl, rfl, rfl, batchw⟩ := open_int Tryd.underlying3 (hval 3 3 v3 rfl rfl) h3
    obtain ⟨mark, rfl, rfl, rfl, markw⟩ := open_int Tryd.underlying3 (hval 4 3 v4 rfl rfl) h4
    obtain ⟨replace, rfl, rfl, rfl, replacew⟩ := open_int Tryd.underlying3 (hval 5 3 v5 rfl rfl) h5
    obtain ⟨lp, lc, l, rfl, la, lb, s6⟩ := open_sl (α := LineD) 12 Tryd.underlying23 (hval 6 23 v6 rfl rfl) (by kernel_rfl) h6
    obtain ⟨bucket, rfl, rfl, rfl, bucketw⟩ := open_int Tryd.underlying3 (hval 7 3 v7 rfl rfl) h7
    have st0 : Stable (fun M w => Sl M w lp l) := inferInstance
    have st1 : Stable (fun M w => Sl M w bp b ∧ Sl M w lp l) := instStableAnd (fun M w => Sl M w bp b) (fun M w => Sl M w lp l)
    have st2 : Stable (fun M w => Sl M w ap a ∧ Sl M w bp b ∧ Sl M w lp l) := instStableAnd (fun M w => Sl M w ap a) (fun M w => Sl M w bp b ∧ Sl M w lp l)
    have st3 : Stable (fun M w => TabI M w ∧ Sl M w ap a ∧ Sl M w bp b ∧ Sl M w lp l) := instStableAnd (fun M w => TabI M w) (fun M w => Sl M w ap a ∧ Sl M w bp b ∧ Sl M w lp l)
    have fin : GivesIn (fun M w => TabI M w ∧ Sl M w ap a ∧ Sl M w bp b ∧ Sl M w lp l) Tryd.prog 3 _ (.bool true) := Tells42_in (Φ := (fun M w => TabI M w ∧ Sl M w ap a ∧ Sl M w bp b ∧ Sl M w lp l)) ap ac a bp bc b no batch mark replace lp lc l bucket (hA := ⟨fun _ _ h => h.2.1⟩) (hB := ⟨fun _ _ h => h.2.2.1⟩) (hL := ⟨fun _ _ h => h.2.2.2⟩) (hT := ⟨fun _ _ h => h.1⟩) aa ab ba bb la lb (wf_I64 batchw) (wf_I64 replacew)
    exact fin.law ⟨la_tab 2 hL (by kernel_rfl) ⟨_, rfl⟩, s0, s1, s6⟩

theorem row_holds : Rows.DifferenceTellsSaid :=
  OpenClaim.holds_of_wide 3 Tryd.f3 rfl rfl rfl rfl rfl rfl rfl ⟨rfl, rfl, rfl, rfl, rfl⟩ rfl rfl rfl rfl rfl (by kernel_rfl) Tryd.func3 (by kernel_rfl)
    (of_decide_eq_true (by kernel_rfl)) (by unfold Func.isWrapper; first | (rw [if_pos (by decide +kernel)]; kernel_rfl) | (rw [if_neg (by decide +kernel)]; exact ⟨rfl, rfl⟩))
    (fun os started H enc _ => law_lifted os started H enc)

theorem tells42_holds : Rows.DifferenceTellsCardSaid :=
  Claim7.holds_tied_plain_at .later [] [.data, .data, .data] true Rows.differenceTellsCard.stood.harness false
    row_holds (fun _ h => by cases h) (by kernel_rfl) (fun _ h => by cases h) differenceTells_row_tie rfl ⟨rfl, rfl⟩ (by kernel_rfl) rfl
    (fun f fn hf hfn => by
      obtain rfl : f = 3 := Option.some.inj ((show Tryd.prog.funcNamed Rows.differenceTellsRow.func = some 3 by kernel_rfl).symm.trans hf) |>.symm
      obtain rfl : fn = Tryd.f3 := (Option.some.inj (Tryd.func3.symm.trans hfn)).symm
      exact ⟨by kernel_rfl, fun j t ht => by
        rw [Tryd.params3] at ht
        have hm := Array.mem_of_getElem? ht
        have hall : ((Tryd.f3.params.toList).all fun u => !Tryd.prog.wantsStandIn u) = true := by kernel_rfl
        rw [Tryd.params3] at hall
        exact (show Tryd.prog.wantsStandIn t = false by simpa using List.all_eq_true.1 hall t (by simpa using hm))⟩)
    (by kernel_rfl)

end Go.Proofs.YtnapfhbibikbiaaDoor
end

