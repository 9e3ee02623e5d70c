/-
  For every input erratalaw28.DeltaSplits returns true, does not panic, comes to an end, and leaves what came in as it was; the variables that its row lists are as the program's text lays them.
  Conditions: none beyond the given statement's own (DeltaSplitsCardSaid).
-/
import Derived.Test.YtnapfhbibikbiaaDoorSp7
import Derived.Test.YtnapfhbibikbiaaDoorTie
import Derived.Test.YtnapfhbibikbiaaDoorCards
import Derived.SevenTiedAt
import Derived.LaidMore
import Derived.Test.YtnapfhbibikbiaaDoorRows

/-
  The law DeltaSplits, in plain Lean and walked.
-/
section
set_option linter.unusedVariables false
set_option linter.unusedSimpArgs false
namespace Go.Proofs.YtnapfhbibikbiaaDoor
open Go.Vc


theorem sumK_low (t : Int) (k : Key) : ∀ l : List DeltaD, sumK (lowP l t) k = if k.1 ≤ t then sumK l k else 0
  | [] => by simp [sumK]
  | x :: l => by
    have ih := sumK_low t k l
    unfold lowP at ih ⊢
    by_cases hx : x.time ≤ t
    · rw [List.filter_cons_of_pos (by simpa using hx)]
      simp only [sumK]
      rw [ih]
      by_cases hk : x.key = k
      · have : k.1 ≤ t := by rw [← hk]; exact hx
        rw [if_pos hk, if_pos this, if_pos this]
      · rw [if_neg hk, Int.zero_add, Int.zero_add]
    · rw [List.filter_cons_of_neg (by simpa using hx)]
      simp only [sumK]
      rw [ih]
      by_cases hk : x.key = k
      · have : ¬ k.1 ≤ t := by rw [← hk]; exact hx
        rw [if_neg this, if_neg this]
      · rw [if_neg hk, Int.zero_add]
theorem sumK_high (t : Int) (k : Key) : ∀ l : List DeltaD, sumK (highP l t) k = if t < k.1 then sumK l k else 0
  | [] => by simp [sumK]
  | x :: l => by
    have ih := sumK_high t k l
    unfold highP at ih ⊢
    by_cases hx : t < x.time
    · rw [List.filter_cons_of_pos (by simpa using hx)]
      simp only [sumK]
      rw [ih]
      by_cases hk : x.key = k
      · have : t < k.1 := by rw [← hk]; exact hx
        rw [if_pos hk, if_pos this, if_pos this]
      · rw [if_neg hk, Int.zero_add, Int.zero_add]
    · rw [List.filter_cons_of_neg (by simpa using hx)]
      simp only [sumK]
      rw [ih]
      by_cases hk : x.key = k
      · have : ¬ t < k.1 := by rw [← hk]; exact hx
        rw [if_neg this, if_neg this]
      · rw [if_neg hk, Int.zero_add]

theorem find_upto (l : List DeltaD) (t : Int) (k : Key) : findP (uptoP l t) k = if k.1 ≤ t then findP l k else 0 := by
  unfold uptoP
  rw [find_cons]
  unfold findP
  rw [sumK_low]
  split <;> rfl
theorem find_after (l : List DeltaD) (t : Int) (k : Key) : findP (afterP l t) k = if t < k.1 then findP l k else 0 := by
  unfold afterP
  rw [find_cons]
  unfold findP
  rw [sumK_high]
  split <;> rfl

theorem upto_norm (l : List DeltaD) (t : Int) : Norm (uptoP l t) := (consP_norm _).1
theorem after_norm (l : List DeltaD) (t : Int) : Norm (afterP l t) := (consP_norm _).1

theorem split_sum (a : List DeltaD) (t : Int) : addP (uptoP a t) (afterP a t) = consP a := consP_eq fun k => by
  rw [findP_app, find_upto, find_after]
  by_cases h : k.1 ≤ t
  · rw [if_pos h, if_neg (by omega), Int.add_zero, find_w]
  · rw [if_neg h, if_pos (by omega), Int.zero_add, find_w]
theorem split_add (a b : List DeltaD) (t : Int) : uptoP (addP a b) t = addP (uptoP a t) (uptoP b t) := norm_unique (upto_norm _ _) (consP_norm _).1 fun k => by
  rw [find_upto, find_add, find_add, find_upto, find_upto]
  by_cases h : k.1 ≤ t
  · rw [if_pos h, if_pos h, if_pos h]
  · rw [if_neg h, if_neg h, if_neg h]; rfl
theorem split_sub (a b : List DeltaD) (t : Int) : afterP (subP a b) t = subP (afterP a t) (afterP b t) := norm_unique (after_norm _ _) (consP_norm _).1 fun k => by
  rw [find_after, find_sub, find_sub, find_after, find_after]
  by_cases h : t < k.1
  · rw [if_pos h, if_pos h, if_pos h]
  · rw [if_neg h, if_neg h, if_neg h]; rfl
theorem split_min (a : List DeltaD) (t u : Int) : uptoP (uptoP a t) u = uptoP a (min t u) := norm_unique (upto_norm _ _) (upto_norm _ _) fun k => by
  rw [find_upto, find_upto, find_upto]
  by_cases h : k.1 ≤ u
  · rw [if_pos h]
    by_cases h2 : k.1 ≤ t
    · rw [if_pos h2, if_pos (by omega)]
    · rw [if_neg h2, if_neg (by omega)]
  · rw [if_neg h, if_neg (by omega)]

theorem consP_key : ∀ {l : List DeltaD}, ∀ z ∈ consP l, ∃ y ∈ l, y.key = z.key
  | [], z, hz => by cases hz
  | x :: l, z, hz => by
    rcases insD_key x (consP l) z hz with h | ⟨y, hy, h⟩
    · exact ⟨x, by simp, h.symm⟩
    · obtain ⟨u, hu, h2⟩ := consP_key y hy
      exact ⟨u, by simp [hu], h2.trans h⟩
theorem upto_time (l : List DeltaD) (t : Int) : ∀ x ∈ uptoP l t, x.time ≤ t := fun x hx => by
  obtain ⟨y, hy, h⟩ := consP_key x hx
  have h2 : y.time = x.time := congrArg Prod.fst h
  have := (List.mem_filter.1 hy).2
  rw [← h2]; simpa using this
theorem after_time (l : List DeltaD) (t : Int) : ∀ x ∈ afterP l t, t < x.time := fun x hx => by
  obtain ⟨y, hy, h⟩ := consP_key x hx
  have h2 : y.time = x.time := congrArg Prod.fst h
  have := (List.mem_filter.1 hy).2
  rw [← h2]; simpa using this

theorem upto_len (l : List DeltaD) (t : Int) : (uptoP l t).length ≤ l.length := Nat.le_trans (consP_len _) (List.length_filter_le _ _)
theorem after_len (l : List DeltaD) (t : Int) : (afterP l t).length ≤ l.length := Nat.le_trans (consP_len _) (List.length_filter_le _ _)
theorem upto_row {l : List DeltaD} {t : Int} (h : Rows1 l) : Rows1 (uptoP l t) := consP_rows fun x hx => h x (List.mem_filter.1 hx).1
theorem after_row {l : List DeltaD} {t : Int} (h : Rows1 l) : Rows1 (afterP l t) := consP_rows fun x hx => h x (List.mem_filter.1 hx).1

theorem sl_time {M : List Nat} {w : World} {b o : Nat} {l : List DeltaD} (h : Sl M w (some ⟨b, o, none⟩) l) {i : Nat} (hi : i < l.length) : w.cell? ⟨b, o + i * 3, none⟩ = some (.int .i64 l[i].time) := by
  obtain ⟨b', o', cs, e, _, h3, h4⟩ := h i hi
  cases e
  obtain ⟨p, c, rfl, _⟩ := delta_cells h4
  have := h3 0 (by simp)
  simpa [show (Gv.ty DeltaD).size = 3 from rfl] using this

set_option maxHeartbeats 4000000 in
theorem Splits_in {Φ : PW} [Stable Φ] (p : Option Addr) (cap : Nat) (a : List DeltaD) (q : Option Addr) (cap2 : Nat) (b : List DeltaD) (t u : Int)
    [hA : Has Φ (fun M w => Sl M w p a)] [hB : Has Φ (fun M w => Sl M w q b)] (ha1 : a.length ≤ cap) (ha2 : cap ≤ maxLen) (hb1 : b.length ≤ cap2) (hb2 : cap2 ≤ maxLen) :
    GivesIn Φ Tryd.prog F.erratalaw28_DeltaSplits #[.slice p a.length cap, .slice q b.length cap2, .int .i64 t, .int .i64 u] (.bool true) := by
  refine gives_in (Berratalaw28_DeltaSplits_run p a.length cap q b.length cap2 t u) fun W R => ?_
  refine fun w G cx => (small28_g.in).toB cx fun w G cx => (Few_in p cap a 100 hA.go (len_max ha1 ha2)).toB cx (Br.intro (fun _ => fun w G cx => ⟨rfl, cx.left⟩) fun hr => ?_)
  obtain ⟨al, ar, _⟩ := few_rows (by simpa only [Bool.not_eq_false'] using hr)
  clear cx hr
  refine fun w G cx => (Few_in q cap2 b 100 hB.go (len_max hb1 hb2)).toB cx (Br.intro (fun _ => fun w G cx => ⟨rfl, cx.left⟩) fun hr => ?_)
  obtain ⟨bl, br, _⟩ := few_rows (by simpa only [Bool.not_eq_false'] using hr)
  clear cx hr
  have el := upto_len a t
  have fl := after_len a t
  have er : Rows1 (uptoP a t) := upto_row ar
  have fr : Rows1 (afterP a t) := after_row ar
  refine fun w G cx => (UptoH (by omega) ar).tot cx fun p1 c1 e1 e2 th1 hs1 => ?_
  clear cx
  refine fun w G cx => (AfterH (by omega) ar).tot cx fun p2 c2 f1 f2 th2 hs2 => ?_
  clear cx
  refine exI_mk (fun iI R' Φ' k => ∃ i : Nat, iI = i ∧ i ≤ (uptoP a t).length ∧ R' = R ∧ Φ' = (fun M w => (Φ M w ∧ Sl M w p1 (uptoP a t)) ∧ Sl M w p2 (afterP a t)) ∧ k = (uptoP a t).length - i) ⟨⟨R, _, _, hs2, fun w G cx => cx, 0, rfl, Nat.zero_le _, rfl, rfl, rfl⟩, ?_⟩
  rintro iI R1 Φ1 k _ ⟨i, rfl, hi, rfl, rfl, rfl⟩
  refine Br.intro (fun hlt => ?_) (fun _ => ?_)
  · have hlt : i < (uptoP a t).length := by have := of_decide_eq_true hlt; omega
    obtain ⟨g, o, rfl⟩ := th1 (by omega)
    refine ⟨by omega, ptrK_intro g o rfl fun w G cx => ⟨(uptoP a t)[i].time, by rw [Int.toNat_natCast]; exact sl_time cx.phi.1.2 hlt, Br.intro (fun h => ?_) (fun _ => ⟨by unfold I64; omega, R1, _, (uptoP a t).length - (i + 1), hs2, fun w G cx => cx, ⟨i + 1, rfl, hlt, rfl, rfl, rfl⟩, by omega⟩)⟩⟩
    have := upto_time a t _ (List.getElem_mem hlt)
    have := of_decide_eq_true h
    omega
  clear hi
  refine exI_mk (fun iI R' Φ' k => ∃ i : Nat, iI = i ∧ i ≤ (afterP a t).length ∧ R' = R1 ∧ Φ' = (fun M w => (Φ M w ∧ Sl M w p1 (uptoP a t)) ∧ Sl M w p2 (afterP a t)) ∧ k = (afterP a t).length - i) ⟨⟨R1, _, _, hs2, fun w G cx => cx, 0, rfl, Nat.zero_le _, rfl, rfl, rfl⟩, ?_⟩
  rintro iI R2 Φ2 k _ ⟨i, rfl, hi, rfl, rfl, rfl⟩
  refine Br.intro (fun hlt => ?_) (fun _ => ?_)
  · have hlt : i < (afterP a t).length := by have := of_decide_eq_true hlt; omega
    obtain ⟨g, o, rfl⟩ := th2 (by omega)
    refine ⟨by omega, ptrK_intro g o rfl fun w G cx => ⟨(afterP a t)[i].time, by rw [Int.toNat_natCast]; exact sl_time cx.phi.2 hlt, Br.intro (fun h => ?_) (fun _ => ⟨by unfold I64; omega, R2, _, (afterP a t).length - (i + 1), hs2, fun w G cx => cx, ⟨i + 1, rfl, hlt, rfl, rfl, rfl⟩, by omega⟩)⟩⟩
    have := after_time a t _ (List.getElem_mem hlt)
    have := of_decide_eq_true h
    omega
  clear hi
  refine fun w G cx => (ConsV_in (upto_norm a t) (by omega)).toB cx (Br.intro (fun _ => ?_) (fun h => by cases h))
  refine fun w G cx => (ConsV_in (after_norm a t) (by omega)).toB cx (Br.intro (fun _ => ?_) (fun h => by cases h))
  have sl1 := addP_len (uptoP a t) (afterP a t)
  refine fun w G cx => (AddH e1 e2 f1 f2 (by omega) (by omega) er fr).to cx fun p3 c3 _ _ hs3 => ?_
  refine fun w G cx => (ConH (by omega) ar).to cx fun p4 c4 _ _ hs4 => ?_
  refine fun w G cx => (EqualV_in (split_sum a t) (by omega)).toBW (Ψ := fun M w => (Φ M w ∧ Sl M w p1 (uptoP a t)) ∧ Sl M w p2 (afterP a t)) cx ?_
  have sl2 := addP_len a b
  refine fun w G cx => (AddH ha1 ha2 hb1 hb2 (by omega) (by omega) ar br).to cx fun p5 c5 _ _ hs5 => ?_
  refine fun w G cx => (UptoH (by omega) (addP_row ar br)).to cx fun p6 c6 _ _ hs6 => ?_
  refine fun w G cx => (UptoH (by omega) br).to cx fun p7 c7 g1 g2 hs7 => ?_
  have sl3 := upto_len b t
  have sl4 := upto_len (addP a b) t
  refine fun w G cx => (AddH e1 e2 g1 g2 (by omega) (by omega) er (upto_row br)).to cx fun p8 c8 _ _ hs8 => ?_
  refine fun w G cx => (EqualV_in (split_add a b t) (by omega)).toBW (Ψ := fun M w => (Φ M w ∧ Sl M w p1 (uptoP a t)) ∧ Sl M w p2 (afterP a t)) cx (Br.intro (fun _ => ?_) (fun h => by cases h))
  have sl5 := subP_len a b
  refine fun w G cx => (SubH (by omega) (by omega) ar br).to cx fun p9 c9 _ _ hs9 => ?_
  refine fun w G cx => (AfterH (by omega) (subP_row ar br)).to cx fun p10 c10 _ _ hs10 => ?_
  refine fun w G cx => (AfterH (by omega) br).to cx fun p11 c11 _ _ hs11 => ?_
  have sl6 := after_len b t
  have sl7 := after_len (subP a b) t
  refine fun w G cx => (SubH (by omega) (by omega) fr (after_row br)).to cx fun p12 c12 _ _ hs12 => ?_
  refine fun w G cx => (EqualV_in (split_sub a b t) (by omega)).toBW (Ψ := fun M w => Φ M w ∧ Sl M w p1 (uptoP a t)) cx (Br.intro (fun _ => Br.intro (fun _ => Br.intro (fun _ => ?_) (fun h => by cases h)) (fun h => by cases h)) (fun h => by cases h))
  refine fun w G cx => (UptoH (by omega) er).to cx fun p13 c13 _ _ hs13 => ?_
  refine fun w G cx => (UptoH (by omega) ar).to cx fun p14 c14 _ _ hs14 => ?_
  have sl8 := upto_len (uptoP a t) u
  exact fun w G cx => (EqualV_in (split_min a t u) (by omega)).toBW (Ψ := Φ) cx fun w G cx => ⟨rfl, cx.left⟩

end Go.Proofs.YtnapfhbibikbiaaDoor
end

section
set_option linter.unusedVariables false
set_option linter.unusedSimpArgs false
namespace Go.Proofs.YtnapfhbibikbiaaDoor
open Go.ChangeShapes Go.WideShapes Go.ChangeAt Go.RowKit Go.Vc


theorem df_own : ownKnob Tryd.prog.godebug = none := by kernel_rfl
theorem df_laid : laidOutB Tryd.prog = true := by kernel_rfl

theorem trodAll_n {H : Type} {enc : TypeId × Value → H} {P : Program} {w : World} {base : Nat} {spare : Nat → Bool} {held : Bool} {t0 t1 t2 t3 : TypeId} {args : Array Value} {ds : List (DataW H)} {ps : List MemPlace} (h : DataW.TrodAll enc P w base spare held [t0, t1, t2, t3] args.toList ds ps) :
    ∃ v0 v1 v2 v3 d0 d1 d2 d3 p0 p1 p2 p3, args = #[v0, v1, v2, v3] ∧ ds = [d0, d1, d2, d3] ∧ ps = p0 ++ p1 ++ p2 ++ p3 ∧ DataW.Trod enc P w base spare held t0 v0 d0 p0 ∧ DataW.Trod enc P w base spare held t1 v1 d1 p1 ∧ DataW.Trod enc P w base spare held t2 v2 d2 p2 ∧ DataW.Trod enc P w base spare held t3 v3 d3 p3 := by
  obtain ⟨v0, vs0, d0, ds0, p0, q0, hargs, rfl, rfl, h0, h⟩ := trodAll_cons h
  obtain ⟨v1, vs1, d1, ds1, p1, q1, rfl, rfl, rfl, h1, h⟩ := trodAll_cons h
  obtain ⟨v2, vs2, d2, ds2, p2, q2, rfl, rfl, rfl, h2, h⟩ := trodAll_cons h
  obtain ⟨v3, vs3, d3, ds3, p3, q3, rfl, rfl, rfl, h3, h⟩ := trodAll_cons h
  obtain ⟨rfl, rfl, rfl⟩ := trodAll_nil h
  exact ⟨v0, v1, v2, v3, d0, d1, d2, d3, p0, p1, p2, p3, by cases args; simp_all, rfl, by simp, h0, h1, h2, h3⟩

theorem door_met (os : Os) (args : Array Value) : laidMetH Tryd.prog Rows.deltaSplitsRow.laid ((World.doorLaid Tryd.prog 400 os).forCall (fun _ _ => 0) ⟨#[], args, []⟩).memory :=
  laidMetH_of_parts3 (fuel := 8) (laidMet_of_run' 8 (by kernel_rfl) (by kernel_rfl)) (by kernel_rfl) (by kernel_rfl)

set_option maxRecDepth 100000 in
theorem law_lifted (os : Os) (started : os.Started) (H : Type) (enc : TypeId × Value → H) :
    ReturnsInHanded {} Tryd.checked os 4 .any (fun w args => (Rows.deltaSplitsSpec.pre enc Tryd.prog Tryd.f4 Rows.deltaSplitsRow.domain false w args ∧ laidMetH Tryd.prog Rows.deltaSplitsRow.laid w) ∧ sizedMet enc Tryd.prog Tryd.f4 (OpenSpec.ofChange Rows.deltaSplitsSpec) false w args) (Rows.deltaSplitsSpec.post enc Tryd.prog Tryd.f4 false true false false) := by
  refine lawTrueLaid (C := Tryd.checked) (tb := 4) df_own started (by kernel_rfl) Tryd.func4 df_laid rfl ?_ rfl Tryd.underlying4 (by kernel_rfl)
    (ChangeSpec.witness_shaped (enc := enc) (C := Tryd.checked) (os := os) (X := fun w _ => laidMetH Tryd.prog Rows.deltaSplitsRow.laid w) false (World.doorLaid Tryd.prog 400 os) #[.slice none 0 0, .slice none 0 0, .int .i64 0, .int .i64 0] 8 rfl (World.shaped_of_RefB (by kernel_rfl) (by kernel_rfl)) (by kernel_rfl) (by kernel_rfl) (by kernel_rfl) (door_met os _)) ?_
  · intro ds hd
    match ds, hd with
    | [_, _, _, _], _ => exact ⟨rfl, rfl, rfl⟩
  · intro W base args ds p hval0 hA0 _ hL
    have hval : ∀ (j : Nat) t v, Tryd.f4.params[j]? = some t → args[j]? = some v → Value.okWide Tryd.prog W .any base t v := hval0
    have hA : DataW.TrodAll enc Tryd.prog W 0 (fun _ => true) true Tryd.f4.params.toList args.toList ds p := hA0
    rw [Tryd.params4] at hA hval
    obtain ⟨v0, v1, v2, v3, d0, d1, d2, d3, p0, p1, p2, p3, rfl, rfl, rfl, h0, h1, h2, h3⟩ := trodAll_n hA
    obtain ⟨ap, ac, a, rfl, aa, ab, s0⟩ := open_sl (α := DeltaD) 12 Tryd.underlying22 (hval 0 22 v0 rfl rfl) (by kernel_rfl) h0
    obtain ⟨bp, bc, b, rfl, ba, bb, s1⟩ := open_sl (α := DeltaD) 12 Tryd.underlying22 (hval 1 22 v1 rfl rfl) (by kernel_rfl) h1
    obtain ⟨t, rfl, rfl, rfl, tw⟩ := open_int Tryd.underlying3 (hval 2 3 v2 rfl rfl) h2
    obtain ⟨u, rfl, rfl, rfl, uw⟩ := open_int Tryd.underlying3 (hval 3 3 v3 rfl rfl) h3
    have st0 : Stable (fun M w => Sl M w bp b) := inferInstance
    have st1 : Stable (fun M w => Sl M w ap a ∧ Sl M w bp b) := instStableAnd (fun M w => Sl M w ap a) (fun M w => Sl M w bp b)
    have fin : GivesIn (fun M w => Sl M w ap a ∧ Sl M w bp b) Tryd.prog 4 _ (.bool true) := Splits_in (Φ := (fun M w => Sl M w ap a ∧ Sl M w bp b)) ap ac a bp bc b t u (hA := ⟨fun _ _ h => h.1⟩) (hB := ⟨fun _ _ h => h.2⟩) aa ab ba bb
    exact fin.law ⟨s0, s1⟩

theorem row_holds : Rows.DeltaSplitsSaid :=
  OpenClaim.holds_of_wide 4 Tryd.f4 rfl rfl rfl rfl rfl rfl rfl ⟨rfl, rfl, rfl, rfl, rfl⟩ rfl rfl rfl rfl rfl (by kernel_rfl) Tryd.func4 (by kernel_rfl)
    (of_decide_eq_true (by kernel_rfl)) (by unfold Func.isWrapper; first | (rw [if_pos (by decide +kernel)]; kernel_rfl) | (rw [if_neg (by decide +kernel)]; exact ⟨rfl, rfl⟩))
    (fun os started H enc _ => law_lifted os started H enc)

theorem splits_holds : Rows.DeltaSplitsCardSaid :=
  Claim7.holds_tied_plain_at .later [] [.data, .data, .data] true Rows.deltaSplitsCard.stood.harness false
    row_holds (fun _ h => by cases h) (by kernel_rfl) (fun _ h => by cases h) deltaSplits_row_tie rfl ⟨rfl, rfl⟩ (by kernel_rfl) rfl
    (fun f fn hf hfn => by
      obtain rfl : f = 4 := Option.some.inj ((show Tryd.prog.funcNamed Rows.deltaSplitsRow.func = some 4 by kernel_rfl).symm.trans hf) |>.symm
      obtain rfl : fn = Tryd.f4 := (Option.some.inj (Tryd.func4.symm.trans hfn)).symm
      exact ⟨by kernel_rfl, fun j t ht => by
        rw [Tryd.params4] at ht
        have hm := Array.mem_of_getElem? ht
        have hall : ((Tryd.f4.params.toList).all fun u => !Tryd.prog.wantsStandIn u) = true := by kernel_rfl
        rw [Tryd.params4] at hall
        exact (show Tryd.prog.wantsStandIn t = false by simpa using List.all_eq_true.1 hall t (by simpa using hm))⟩)
    (by kernel_rfl)

end Go.Proofs.YtnapfhbibikbiaaDoor
end

