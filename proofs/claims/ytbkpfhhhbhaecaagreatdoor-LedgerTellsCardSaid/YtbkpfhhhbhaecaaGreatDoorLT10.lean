/-
  For every input erratalaw41.LedgerTells returns true, does not panic, comes to an end, and leaves what came in as it was; the variables that its row lists are as the program's text lays them.
  Conditions: none beyond the given statement's own (LedgerTellsCardSaid).
-/
import Derived.Test.YtbkpfhhhbhaecaaGreatDoorLT9
import Derived.Test.YtbkpfhhhbhaecaaGreatDoorLT7
import Derived.Test.YtbkpfhhhbhaecaaGreatDoorLT5
import Derived.Laws.IdiomStrings
import Derived.Test.YtbkpfhhhbhaecaaGreatDoorLT8
import Derived.Test.YtbkpfhhhbhaecaaGreatDoorCards
import Derived.MakeChecks
import Derived.Stop.LaidErr
import Derived.Lib.LaidTab
import Derived.Test.YtbkpfhhhbhaecaaGreatDoorTie
import Derived.SevenTiedAt
import Derived.LaidMore
import Derived.ChangeMaps5
import Derived.Test.YtbkpfhhhbhaecaaGreatDoorRows

section
set_option linter.unusedVariables false
set_option linter.unusedSimpArgs false
namespace Go.Proofs.YtbkpfhhhbhaecaaGreatDoor
open Go.Vc


theorem refq_of {M : List Nat} {w : World} {q : RP} {bs : List RBat} (h : Elems M w q.cs bs) (hp : 0 < bs.length → ∃ g, q.p = some ⟨g, 0, none⟩) (h1 : bs.length ≤ 100000) (h2 : (bs.flatMap RBat.l).length ≤ 150000) : RefQ q bs where
  ptr := hp
  cells := fun i hi => by
    obtain ⟨p, c, e, g1, g2, g3, g4, _⟩ := rb_cells (h.2 i hi)
    exact ⟨p, c, e, g1, g2, g3, g4⟩
  there := fun i hi p c e => (ref_sl h hi e).there
  n := h1
  lines := h2

section
variable {Φ : PW} {q : RP} {bs : List RBat} {W w : World} {R S G : List Own} {p : Option Addr} {cap : Nat} {L : List LineD}

set_option maxHeartbeats 4000000 in
theorem RAppend_to [Stable Φ] {no mark : Int} [hF : Has Φ (RF q bs)] [hL : Has Φ (fun M w => Sl M w p L)] (hq : RefQ q bs) (hi : RefI bs) (h64 : I64 no) (hlen : L.length ≤ 150000) (hrow : ∀ x ∈ L, x.row.length ≤ 1000000) (hbn : bs.length + 1 ≤ 100000) (hln : (bs.flatMap RBat.l).length + L.length ≤ 150000) (hc1 : L.length ≤ cap) (hc2 : cap ≤ maxLen)
    (c : Ctx W w ((RefO q bs ++ R) ++ G) Φ) {K : Int → List Own → PW → Prop}
    (h0 : checkP (ledOf bs) no mark L ≠ 0 → K (checkP (ledOf bs) no mark L) (RefO q bs ++ R) Φ)
    (h1 : ∀ q', checkP (ledOf bs) no mark L = 0 → q'.rb = q.rb → RefQ q' (bs ++ [⟨no, mark, L⟩]) → Stable (fun M w => Φ M w ∧ RF q' (bs ++ [⟨no, mark, L⟩]) M w) → K 0 (RefO q' (bs ++ [⟨no, mark, L⟩]) ++ R) (fun M w => Φ M w ∧ RF q' (bs ++ [⟨no, mark, L⟩]) M w)) :
    Calls Tryz.prog F.errataref41_Ledger_Append #[rled q, .int .i64 no, .int .i64 mark, .slice p L.length cap] w fun e w' => ∃ n, e = .returned (.int .i64 n) ∧ ∃ R' Φ', Stable Φ' ∧ Ctx W w' (R' ++ G) Φ' ∧ K n R' Φ' := by
  have hth := (hL.go _ _ c.phi).there
  have hsl0 := hL.go _ _ c.phi
  obtain ⟨cs, c1⟩ := srcOf c hsl0
  have src : Src [] (fun M w => Φ M w ∧ SrcF p L cs M w) p L cs := src_fact hth fun M w h => h.2
  have hc : Rows7 cs L := rows7 (src.el _ _ c1.phi)
  have hfit : RowsFit L := fun x hx v hv => by
    obtain ⟨i, hi, rfl⟩ := List.getElem_of_mem hx
    obtain ⟨r, rc, he, _⟩ := hc i hi
    obtain ⟨g1, g2⟩ := sl_i64 (src_sl src hi he c1.phi) v hv
    exact ⟨g1, Nat.le_trans g2 (by decide)⟩
  have hst : Stable (fun M w => Φ M w ∧ SrcF p L cs M w) := inferInstance
  refine (Berrataref41_Ledger_Append_run q.rb 0 no mark p L.length cap (R := (RefO q bs ++ R) ++ G) (J := fun v w' => ∃ n, v = .int .i64 n ∧ ∃ R' Φ', Stable Φ' ∧ Ctx W w' (R' ++ G) Φ' ∧ K n R' Φ') c1 ?_).mono fun e w' ⟨v, he, n, hv, rest⟩ => ⟨n, by rw [he, hv], rest⟩
  clear c c1 hsl0
  have hF2 : Has (fun M w => Φ M w ∧ SrcF p L cs M w) (RF q bs) := ⟨fun M w h => hF.go M w h.1⟩
  have hlb := hq.lines
  have eL := ledOf_lines bs
  obtain ⟨st, hst0⟩ : ∃ st, ledOf bs = st := ⟨_, rfl⟩
  have hs := hi.s
  have hv := hi.v
  rw [hst0] at hs hv eL h0 h1
  have hsl := hs.lines
  obtain ⟨cm, hcm⟩ : ∃ cm, checkP st no mark L = cm := ⟨_, rfl⟩
  have back : ∀ {w : World} {G2 : List Own}, cm ≠ 0 → Ctx W w ((RefO q bs ++ (R ++ G)) ++ G2) (fun M w => Φ M w ∧ SrcF p L cs M w) → ∃ n, (Value.int .i64 cm) = .int .i64 n ∧ ∃ R' Φ', Stable Φ' ∧ Ctx W w (R' ++ G) Φ' ∧ K n R' Φ' := fun {w G2} hne cx => ⟨_, rfl, RefO q bs ++ R, Φ, inferInstance, ((cx.left.re (by simp)).weak fun M w h => h.1), by rw [hcm] at h0; exact h0 hne⟩
  have hcm0 := hcm
  unfold checkP at hcm
  refine fun w G2 cx => (RLast_q hq).toI (R := R ++ G) (cx.re (by simp)) ?_
  clear cx
  rw [hst0]
  refine Br.intro (fun h => fun w G2 cx => ?_) (fun h => ?_)
  · rw [if_pos (of_decide_eq_true h)] at hcm; subst hcm; exact back (by decide) cx
  rw [if_neg (of_decide_eq_false h)] at hcm
  clear h
  refine fun w G2 cx => (RMark_q hq).toI (R := R ++ G) cx ?_
  clear cx
  rw [hst0]
  refine Br.intro (fun h => fun w G2 cx => ?_) (fun h => ?_)
  · rw [if_pos (of_decide_eq_true h)] at hcm; subst hcm; exact back (by decide) cx
  rw [if_neg (of_decide_eq_false h)] at hcm
  clear h
  refine Br.intro (fun h => fun w G2 cx => ?_) (fun h => ?_)
  · rw [if_pos (of_decide_eq_true h)] at hcm; subst hcm; exact back (by decide) cx
  rw [if_neg (of_decide_eq_false h)] at hcm
  have hm3 := of_decide_eq_false h
  clear h
  refine fun w G2 cx => (RLines_q hq).tol (R := R ++ G) cx fun ap ac => ?_
  clear cx
  rw [← eL]
  obtain ⟨lm, hlm⟩ : ∃ lm, (lastP st).mark = lm := ⟨_, rfl⟩
  rw [hlm] at hcm
  have rd : ∀ {w : World} {G2 : List Own} {b o i : Nat} {x : LineD} {r : Option Addr} {rc : Nat}, p = some ⟨b, o, none⟩ → (cs.drop (i * 7)).take 7 = x.cells r rc → Ctx W w ((RefO q bs ++ (R ++ G)) ++ G2) (fun M w => Φ M w ∧ SrcF p L cs M w) → RowAt w b (o + i * 7) (x.cells r rc) := fun {w G2 b o i x r rc} hp he cx => src_at (S := []) (G := (RefO q bs ++ (R ++ G)) ++ G2) src hp cx he
  have hsrcR : ∀ {i : Nat} (hi : i < L.length) {r : Option Addr} {rc : Nat}, (cs.drop (i * 7)).take 7 = L[i].cells r rc → Has (fun M w => Φ M w ∧ SrcF p L cs M w) (fun M w => Sl M w r L[i].row) := fun {i} hi {r rc} he => ⟨fun M w h => src_sl src hi he h⟩
  refine exI_mk (fun iI R' Φ' k => ∃ i : Nat, iI = i ∧ i ≤ L.length ∧ R' = RefO q bs ++ (R ++ G) ∧ Φ' = (fun M w => Φ M w ∧ SrcF p L cs M w) ∧ k = L.length - i ∧ okFrom no mark lm (st.lines.length + 1) none L = okFrom no mark lm (((st.lines.length : Int) + 1) + i) (prevAt L i) (L.drop i)) ⟨⟨_, _, _, hst, fun w G cx => cx, 0, rfl, Nat.zero_le _, rfl, rfl, rfl, ?_⟩, ?_⟩
  · rw [Int.natCast_zero, Int.add_zero]; rfl
  rintro iI R1 Φ1 k _ ⟨i, rfl, hi2, rfl, rfl, rfl, hor⟩
  refine Br.intro (fun hlt => ?_) (fun hge => ?_)
  · have hlt : i < L.length := by have := of_decide_eq_true hlt; omega
    obtain ⟨b, o, hp⟩ := src.ptr (by omega)
    obtain ⟨r, rc, he, e1, e2, e3⟩ := hc i hlt
    have hhi := hsrcR hlt he
    rw [okFrom_drop hlt] at hor
    have stop : (okLine (((st.lines.length : Int) + 1) + i) no mark lm L[i] && ascO (prevAt L i) L[i]) = false → ∀ {w : World} {G2 : List Own}, Ctx W w ((RefO q bs ++ (R ++ G)) ++ G2) (fun M w => Φ M w ∧ SrcF p L cs M w) → ∃ n, (Value.int .i64 1) = .int .i64 n ∧ ∃ R' Φ', Stable Φ' ∧ Ctx W w (R' ++ G) Φ' ∧ K n R' Φ' := fun h {w G2} cx => by
      rw [h, Bool.false_and] at hor
      rw [if_pos hor] at hcm
      rw [hcm]
      exact back (by rw [← hcm]; decide) cx
    refine ⟨by omega, ptrK_intro b o hp fun w G2 cx => ⟨L[i].no, L[i].batch, L[i].time, r, L[i].row.length, rc, L[i].n, L[i].cause, L[i].why, by rw [Int.toNat_natCast]; exact rd hp he cx, fun _ => ⟨RefO q bs ++ (R ++ G), _, hst, fun w G2 cx => cx, by unfold I64; omega, by unfold I64; omega, ?_⟩⟩⟩
    clear cx
    refine Br.intro (fun h => fun w G2 cx => stop ?_ cx) (fun g1 => ?_)
    · unfold okLine; rw [decide_eq_false (of_decide_eq_true h)]; rfl
    refine Br.intro (fun h => fun w G2 cx => stop ?_ cx) (fun g2 => ?_)
    · unfold okLine; rw [decide_eq_false (of_decide_eq_true h)]; simp
    refine Br.intro (fun h => fun w G2 cx => stop ?_ cx) (fun g3 => ?_)
    · unfold okLine; rw [decide_eq_false (p := 0 ≤ L[i].time) (by have := of_decide_eq_true h; omega)]; simp
    refine Br.intro (fun h => fun w G2 cx => stop ?_ cx) (fun g4 => ?_)
    · unfold okLine; rw [decide_eq_false (p := L[i].time ≤ mark) (by have := of_decide_eq_true h; omega)]; simp
    refine Br.intro (fun h => fun w G2 cx => stop ?_ cx) (fun g5 => ?_)
    · unfold okLine; rw [decide_eq_false (p := L[i].n ≠ 0) (fun e => e (of_decide_eq_true h))]; simp
    have hokl : okLine (((st.lines.length : Int) + 1) + i) no mark lm L[i] = causedP L[i] lm := by
      unfold okLine
      rw [decide_eq_true (Decidable.not_not.1 (of_decide_eq_false g1)), decide_eq_true (Decidable.not_not.1 (of_decide_eq_false g2)), decide_eq_true (p := 0 ≤ L[i].time) (by have := of_decide_eq_false g3; omega), decide_eq_true (p := L[i].time ≤ mark) (by have := of_decide_eq_false g4; omega), decide_eq_true (p := L[i].n ≠ 0) (of_decide_eq_false g5)]
      rfl
    refine fun w G2 cx => (RMark_q hq).toI (R := R ++ G) cx ?_
    clear cx
    rw [hst0, hlm]
    refine ⟨fun w G2 cx => cx, fun w G2 cx => (rcaused_in L[i] r rc lm).toB cx ?_⟩
    clear cx
    refine Br.intro (fun h => fun w G2 cx => stop ?_ cx) (fun g6 => ?_)
    · rw [hokl, show causedP L[i] lm = false by simpa using h]; rfl
    have g6 : causedP L[i] lm = true := by simpa using g6
    have next : ascO (prevAt L i) L[i] = true → I64 ((i : Int) + 1) ∧ ∃ (R2 : List Own) (Φ2 : PW), ∃ k2 : Nat, Stable Φ2 ∧ (∀ (w : World) (F1 : List Own), Ctx W w ((RefO q bs ++ (R ++ G)) ++ F1) (fun M w => Φ M w ∧ SrcF p L cs M w) → Ctx W w (R2 ++ F1) Φ2) ∧ (∃ j : Nat, (i : Int) + 1 = j ∧ j ≤ L.length ∧ R2 = RefO q bs ++ (R ++ G) ∧ Φ2 = (fun M w => Φ M w ∧ SrcF p L cs M w) ∧ k2 = L.length - j ∧ okFrom no mark lm (st.lines.length + 1) none L = okFrom no mark lm (((st.lines.length : Int) + 1) + j) (prevAt L j) (L.drop j)) ∧ k2 < L.length - i := fun ha => by
      refine ⟨by unfold I64; omega, _, _, L.length - (i + 1), hst, fun w G cx => cx, ⟨i + 1, rfl, hlt, rfl, rfl, rfl, ?_⟩, by omega⟩
      rw [hor, hokl, g6, ha]
      rfl
    refine Br.intro (fun g7 => ?_) (fun g7 => ?_)
    · have g7 : 0 < i := by have := of_decide_eq_true g7; omega
      have hi0 : i - 1 < L.length := by omega
      obtain ⟨r0, rc0, he0, k1, k2, k3⟩ := hc (i - 1) (by omega)
      have hh0 := hsrcR (i := i - 1) (by omega) he0
      have hpv : prevAt L i = some (L[i - 1]'hi0) := by unfold prevAt; rw [if_neg (by omega), List.getElem?_eq_getElem (by omega)]
      have hasc : ascO (prevAt L i) L[i] = ascP (L[i - 1]'hi0) L[i] := by rw [hpv]; rfl
      refine ⟨by unfold I64; omega, by omega, ptrK_intro b o hp fun w G2 cx => ⟨_, _, _, _, _, _, _, _, _, by rw [show ((i : Int) - 1).toNat = i - 1 by omega]; exact rd hp he0 cx, fun _ => ?_⟩⟩
      clear cx
      refine Br.intro (fun h => fun w G2 cx => stop ?_ cx) (fun g8 => ?_)
      · rw [hasc]
        unfold ascP
        rw [decide_eq_false (p := (L[i - 1]'hi0).time < L[i].time) (by have := of_decide_eq_true h; omega), decide_eq_false (p := (L[i - 1]'hi0).time = L[i].time) (by have := of_decide_eq_true h; omega)]; simp
      refine Br.intro (fun h => fun w G2 cx => ?_) (fun g9 => next ?_)
      · refine (rCompareRows_in r0 r rc0 rc (L[i - 1]'hi0).row L[i].row hh0.go hhi.go (by have := hrow _ (List.getElem_mem hi0); omega)).toI cx ?_
        clear cx
        refine Br.intro (fun h5 => fun w G2 cx => stop ?_ cx) (fun h5 => next ?_)
        · rw [hasc]
          unfold ascP
          rw [decide_eq_false (p := (L[i - 1]'hi0).time < L[i].time) (by have := of_decide_eq_true h; omega), decide_eq_false (p := cmpR (L[i - 1]'hi0).row L[i].row < 0) (by have := of_decide_eq_true h5; omega)]; simp
        · rw [hasc]
          unfold ascP
          rw [h, decide_eq_true (p := cmpR (L[i - 1]'hi0).row L[i].row < 0) (by have := of_decide_eq_false h5; omega)]; simp
      · rw [hasc]
        unfold ascP
        rw [decide_eq_true (p := (L[i - 1]'hi0).time < L[i].time) (by have := of_decide_eq_false g8; have := of_decide_eq_false g9; omega)]; rfl
    · have g7 : i = 0 := by have := of_decide_eq_false g7; omega
      refine next ?_
      subst g7
      rfl
  have hge : i = L.length := by have := of_decide_eq_false hge; omega
  subst hge
  rw [List.drop_length] at hor
  have hor : okFrom no mark lm (st.lines.length + 1) none L = true := hor
  rw [if_neg (by rw [hor]; simp)] at hcm
  refine exI_mk (fun iI R' Φ' k => ∃ i : Nat, iI = i ∧ i ≤ L.length ∧ R' = RefO q bs ++ (R ++ G) ∧ Φ' = (fun M w => Φ M w ∧ SrcF p L cs M w) ∧ k = L.length - i ∧ ∀ x ∈ L.take i, rightR x.row = true) ⟨⟨_, _, _, hst, fun w G cx => cx, 0, rfl, Nat.zero_le _, rfl, rfl, rfl, by simp⟩, ?_⟩
  rintro iI R1 Φ1 k _ ⟨i, rfl, hi2, rfl, rfl, rfl, hri⟩
  refine Br.intro (fun hlt => ?_) (fun hge => ?_)
  · have hlt : i < L.length := by have := of_decide_eq_true hlt; omega
    obtain ⟨b, o, hp⟩ := src.ptr (by omega)
    obtain ⟨r, rc, he, e1, e2, e3⟩ := hc i hlt
    have hhi := hsrcR hlt he
    refine ⟨by omega, ptrK_intro b o hp fun w G2 cx => ⟨r, L[i].row.length, rc, by rw [Int.toNat_natCast]; exact rd hp he cx 3 (by simp), fun w G2 cx => ?_⟩⟩
    refine (RightRow3_in (Φ := fun M w => Φ M w ∧ SrcF p L cs M w) r rc L[i].row hhi.go (by have := hrow _ (List.getElem_mem hlt); omega)).toB cx ?_
    clear cx
    refine Br.intro (fun h => fun w G2 cx => ?_) (fun h => ⟨by unfold I64; omega, _, _, L.length - (i + 1), hst, fun w G cx => cx, ⟨i + 1, rfl, hlt, rfl, rfl, rfl, fun x hx => ?_⟩, by omega⟩)
    · have hany : (L.any fun x => !rightR x.row) = true := List.any_eq_true.2 ⟨L[i], List.getElem_mem hlt, h⟩
      rw [if_pos hany] at hcm
      rw [hcm]
      exact back (by rw [← hcm]; decide) cx
    · rw [List.take_succ_eq_append_getElem hlt] at hx
      rcases List.mem_append.1 hx with hx | hx
      · exact hri x hx
      · rw [List.mem_singleton.1 hx]; simpa using h
  have hge : i = L.length := by have := of_decide_eq_false hge; omega
  subst hge
  rw [List.take_length] at hri
  have hany : (L.any fun x => !rightR x.row) = false := List.any_eq_false.2 fun x hx => by rw [hri x hx]; simp
  rw [if_neg (by rw [hany]; simp)] at hcm
  refine exI_mk (fun iI R' Φ' k => ∃ i : Nat, iI = i ∧ i ≤ L.length ∧ R' = RefO q bs ++ (R ++ G) ∧ Φ' = (fun M w => Φ M w ∧ SrcF p L cs M w) ∧ k = L.length - i ∧ L.any (overP st) = (L.drop i).any (overP st)) ⟨⟨_, _, _, hst, fun w G cx => cx, 0, rfl, Nat.zero_le _, rfl, rfl, rfl, rfl⟩, ?_⟩
  rintro iI R1 Φ1 k _ ⟨i, rfl, hi2, rfl, rfl, rfl, hov⟩
  refine Br.intro (fun hlt => ?_) (fun hge => ?_)
  · have hlt : i < L.length := by have := of_decide_eq_true hlt; omega
    obtain ⟨b, o, hp⟩ := src.ptr (by omega)
    obtain ⟨r, rc, he, e1, e2, e3⟩ := hc i hlt
    have hhi := hsrcR hlt he
    rw [List.drop_eq_getElem_cons hlt, List.any_cons] at hov
    obtain ⟨c1, c2⟩ := hv.cnt L[i].at
    refine ⟨RefO q bs ++ (R ++ G), _, hst, fun w G2 cx => cx, by omega, ptrK_intro b o hp ⟨by omega, ptrK_intro b o hp ⟨L[i].time, fun w G2 cx => ⟨L[i].time, by rw [Int.toNat_natCast]; exact rd hp he cx 2 (by simp), rfl⟩, r, L[i].row.length, rc, fun w G2 cx => ⟨_, _, _, by rw [Int.toNat_natCast]; exact rd hp he cx 3 (by simp), rfl⟩, fun w G2 cx => ?_⟩⟩⟩
    refine (RCount_q (r := r) (cap := rc) (t := L[i].time) (rw := L[i].row) hq hi (hfit _ (List.getElem_mem hlt)) (hrow _ (List.getElem_mem hlt))).toI (R := R ++ G) cx ?_
    clear cx
    rw [hst0]
    have eat : (L[i].time, rowB L[i].row) = L[i].at := rfl
    rw [eat]
    obtain ⟨n, hn⟩ : ∃ n, cntL st.lines L[i].at = n := ⟨_, rfl⟩
    have hop : overP st L[i] = (decide (L[i].n < 0 - n) || decide (1152921504606846976 - n < L[i].n)) := by unfold overP; rw [hn]
    rw [hn] at c1 c2 ⊢
    refine fun w G2 cx => ⟨by omega, ptrK_intro b o hp ⟨L[i].n, by rw [Int.toNat_natCast]; exact rd hp he cx 4 (by simp), by unfold I64; omega, fun _ => by omega, ptrK_intro b o hp ⟨L[i].n, fun _ => by rw [Int.toNat_natCast]; exact rd hp he cx 4 (by simp), fun _ => by unfold I64; omega, ?_⟩⟩⟩
    clear cx
    rw [← hop]
    refine Br.intro (fun h => fun w G2 cx => ?_) (fun h => ⟨by unfold I64; omega, _, _, L.length - (i + 1), hst, fun w G cx => cx, ⟨i + 1, rfl, hlt, rfl, rfl, rfl, by rw [hov, h, Bool.false_or]⟩, by omega⟩)
    rw [h, Bool.true_or] at hov
    rw [if_pos hov] at hcm
    rw [hcm]
    exact back (by rw [← hcm]; decide) cx
  have hge : i = L.length := by have := of_decide_eq_false hge; omega
  subst hge
  rw [List.drop_length] at hov
  rw [hov, if_neg (by simp)] at hcm
  have hz : checkP st no mark L = 0 := hcm0.trans hcm.symm
  have ac := check_ok hz
  have hm64 : I64 mark := by have := hv.mark; have := ac.gmark; have := ac.most; unfold I64; omega
  have only : ∀ {w : World} {G2 T : List Own} {Ψ : PW} {a : Option Addr} {n m : Nat}, Stable Ψ → Ctx W w ((.blk q.rb [.slice a n m] 59 :: T) ++ G2) Ψ → Ctx W w ([.blk q.rb [.slice a n m] 59] ++ G2) (fun _ _ => True) := fun {w G2 T Ψ a n m} hΨ cx => (cx.sub (List.Sublist.append (List.Sublist.cons_cons _ (List.nil_sublist T)) (List.Sublist.refl G2))).weak fun _ _ _ => trivial
  refine ⟨[.blk q.rb [.slice q.p bs.length q.c] 59], (fun _ _ => True), inferInstance, fun w G2 cx => only inferInstance cx, q.p, bs.length, q.c, fun w G2 cx => ⟨_, _, _, cx.get 0 rfl rfl, rfl⟩, fun kb => ⟨fun w G2 cx => only inferInstance (Ctx.drop1 cx), fun w G2 cx => ?_⟩⟩
  have cx1 : Ctx W w (bufL (some ⟨kb, 0, none⟩) 0 0 [] :: ((RefO q bs ++ (R ++ G)) ++ G2)) (fun M w => Φ M w ∧ SrcF p L cs M w) := cx.toBuf 0 0 7 rfl (by simp) (by simp [maxLen])
  obtain ⟨p1, c1, w1, news, hrun, cx2⟩ := Ctx.appAny (P := Tryz.prog) (ts := 31) (ty := 31) (kb := #[false, false]) (bytes := 72) (c2 := cap) (l := L) (q := p) cx1 (by kernel_rfl) line_one (fun M w h => hL.go M w h.1) (by omega) (by omega)
  rw [Nat.zero_add] at hrun cx2
  rw [List.nil_append] at cx2
  obtain ⟨cx3, hs3, _, g1, g2⟩ := Ctx.freeze (α := LineD) cx2 cx2.phi.2
  refine ⟨p1, L.length, c1, w1, hrun, RefO q bs ++ (R ++ G), (fun M w => Φ M w ∧ Sl M w p1 L), inferInstance, (cx3.add hs3).weak fun M w h => ⟨h.1.1.1, h.2⟩, fun w G2 cx => only inferInstance cx, fun kb2 => ⟨fun w G2 cx => only inferInstance (Ctx.drop1 cx), fun w G2 cx => ?_⟩⟩
  clear cx1 cx2 cx3 hs3
  have cy : Ctx W w (.blk kb2 [.int .i64 no, .int .i64 mark, .slice p1 L.length c1] 61 :: .buf q.p bs.length q.c q.cs 61 3 :: .blk q.rb [.slice q.p bs.length q.c] 59 :: ((R ++ G) ++ G2)) (fun M w => Φ M w ∧ Sl M w p1 L) := cx.perm ((List.Perm.swap _ _ _).cons _)
  clear cx
  obtain ⟨p4, c4, w5, hrun5, _, cz⟩ := Ctx.app1 (P := Tryz.prog) (ts := 57) (ty := 57) (kb := #[false, false]) (size := 3) (bytes := 40) cy (by kernel_rfl) (by omega) rfl rfl (by omega) (by omega)
  have hbl : bs.length + 1 = (bs ++ [(⟨no, mark, L⟩ : RBat)]).length := by simp
  rw [hbl] at hrun5 cz
  obtain ⟨q2, hq2⟩ : ∃ q2 : RP, q2 = ⟨q.rb, p4, c4, q.cs ++ [.int .i64 no, .int .i64 mark, .slice p1 L.length c1]⟩ := ⟨_, rfl⟩
  have stE : Stable (fun M w => Φ M w ∧ RF q2 (bs ++ [⟨no, mark, L⟩]) M w) := instStableAnd Φ (fun M w => RF q2 (bs ++ [⟨no, mark, L⟩]) M w)
  have cz2 : Ctx W w5 ((.blk q.rb [.slice q.p bs.length q.c] 59 :: .buf p4 (bs ++ [(⟨no, mark, L⟩ : RBat)]).length c4 (q.cs ++ [.int .i64 no, .int .i64 mark, .slice p1 L.length c1]) 61 3 :: (R ++ G)) ++ G2) (fun M w => Φ M w ∧ RF q2 (bs ++ [⟨no, mark, L⟩]) M w) := by
    refine Ctx.weak (cz.swap.re (by simp)) fun M w h => ⟨h.1, ?_⟩
    rw [hq2]
    exact (hF.go M w h.1).snoc (rep_rb (x := ⟨no, mark, L⟩) g1 g2 h64 hm64 h.2)
  refine ⟨p4, (bs ++ [(⟨no, mark, L⟩ : RBat)]).length, c4, w5, hrun5, .blk q.rb [.slice q.p bs.length q.c] 59 :: .buf p4 (bs ++ [(⟨no, mark, L⟩ : RBat)]).length c4 (q.cs ++ [.int .i64 no, .int .i64 mark, .slice p1 L.length c1]) 61 3 :: (R ++ G), (fun M w => Φ M w ∧ RF q2 (bs ++ [⟨no, mark, L⟩]) M w), stE, cz2, fun w G2 cx => only stE cx, fun w G2 cx => ⟨cx.can 0 rfl (by show 0 + 1 ≤ 1; decide), fun w6 hw6 => ?_⟩⟩
  have cw := cx.put 0 hw6 rfl
  have cw2 : Ctx W w6 ((RefO q2 (bs ++ [⟨no, mark, L⟩]) ++ R) ++ (G ++ G2)) (fun M w => Φ M w ∧ RF q2 (bs ++ [⟨no, mark, L⟩]) M w) := by
    have e : RefO q2 (bs ++ [⟨no, mark, L⟩]) = [.blk q.rb [.slice p4 (bs ++ [(⟨no, mark, L⟩ : RBat)]).length c4] 59, .buf p4 (bs ++ [(⟨no, mark, L⟩ : RBat)]).length c4 (q.cs ++ [.int .i64 no, .int .i64 mark, .slice p1 L.length c1]) 61 3] := by rw [hq2]
    rw [e]
    exact cw.re (by simp)
  have hel := cw2.phi.2
  have hrq : RefQ q2 (bs ++ [⟨no, mark, L⟩]) := refq_of hel (fun h => by
    obtain ⟨g, hg, _⟩ := cw2.bufCell 1 rfl (by
      have := hel.1
      rw [this, List.length_append, List.length_singleton]
      show 0 < _ * 3
      omega)
    exact ⟨g, hg⟩) (by rw [← hbl]; omega) (by rw [List.flatMap_append, List.length_append, show ([(⟨no, mark, L⟩ : RBat)]).flatMap RBat.l = L from List.append_nil L]; omega)
  refine ⟨RefO q2 (bs ++ [⟨no, mark, L⟩]) ++ (R ++ G), _, stE, cw2.re (by simp), fun w G3 cx => ⟨0, rfl, RefO q2 (bs ++ [⟨no, mark, L⟩]) ++ R, _, stE, (cx.left).re (by simp), h1 q2 hz (by rw [hq2]) hrq stE⟩⟩
end
end Go.Proofs.YtbkpfhhhbhaecaaGreatDoor
end

section
set_option linter.unusedVariables false
set_option linter.unusedSimpArgs false
namespace Go.Proofs.YtbkpfhhhbhaecaaGreatDoor
open Go.Vc


theorem neg_tmod10 (n : Nat) : (-(n : Int)).tmod 10 = -((n % 10 : Nat) : Int) := by
  rw [Int.neg_tmod]; rfl
theorem neg_tdiv10 (n : Nat) : (-(n : Int)).tdiv 10 = -((n / 10 : Nat) : Int) := by
  rw [Int.neg_tdiv]; rfl
theorem wrap_dig (d : Nat) (h : d < 10) : IntKind.u8.wrap (48 - -(d : Int)) = ((UInt8.ofNat (48 + d)).toNat : Int) := by
  have : ∀ d : Fin 10, IntKind.u8.wrap (48 - -((d.val : Nat) : Int)) = ((UInt8.ofNat (48 + d.val)).toNat : Int) := by decide
  exact this ⟨d, h⟩
theorem mk_app (l : List UInt8) (b : ByteArray) : (⟨l.toArray⟩ : ByteArray) ++ b = ⟨(l ++ b.data.toList).toArray⟩ := by
  apply ByteArray.ext
  rw [ByteArray.data_append]
  apply Array.toList_inj.1
  simp

theorem digits_g : ∀ (n : Nat), n ≤ 9223372036854775808 → Gives Tryz.prog F.errataref01_digits #[.int .i64 (-(n : Int))] (.string ⟨(Lib.decDigits n).toArray⟩) := by
  intro n
  induction n using Nat.strongRecOn with
  | _ n ih =>
    intro hn
    refine gives_of (Berrataref01_digits_run (-(n : Int))) fun W R Φ hs => ?_
    have e0 : (48 : Int) - (-(n : Int)).tmod 10 = 48 - -((n % 10 : Nat) : Int) := by rw [neg_tmod10]
    refine ⟨by omega, by rw [e0]; unfold I64; omega, fun k w G cx => ?_⟩
    rw [e0, wrap_dig _ (by omega)] at cx
    have hcell : ∀ j, (hj : j < [UInt8.ofNat (48 + n % 10)].length) → w.cell? ((⟨k, 0, none⟩ : Addr).add j) = some (.int .u8 ([UInt8.ofNat (48 + n % 10)][j].toNat : Int)) := fun j hj => by
      obtain rfl : j = 0 := by simpa using hj
      exact cx.get 0 rfl rfl
    refine ⟨_, _, run_convert_bytes_back w 91 9 5 ⟨k, 0, none⟩ 1 [UInt8.ofNat (48 + n % 10)] (by kernel_rfl) (by kernel_rfl) (by kernel_rfl) hcell, R, Φ, hs, cx.drop1, ?_⟩
    clear cx
    refine Br.intro (fun h => fun w G cx => ⟨?_, cx.left⟩) (fun h => ?_)
    · have h := of_decide_eq_true h
      rw [Lib.decDigits, dif_pos (by omega), show n % 10 = n by omega]
    · have h := of_decide_eq_false h
      have e1 := neg_tdiv10 n
      refine ⟨by omega, by rw [e1]; unfold I64; omega, fun w G cx => ?_⟩
      rw [e1]
      have hl := nDigits_le 19 (n / 10) (by omega) (by decide)
      have hd := Lib.decDigits_length (n / 10)
      refine ((ih (n / 10) (by omega) (by omega)).in).toS cx ⟨?_, fun w G cx => ⟨?_, cx.left⟩⟩
      · show (ByteArray.mk (Lib.decDigits (n / 10)).toArray).size + 1 ≤ _
        rw [size_list, hd]; omega
      · conv => rhs; rw [Lib.decDigits, dif_neg (by omega)]
        rw [mk_app]

theorem Int01_g (n : Int) (h : I64 n) : Gives Tryz.prog F.errataref01_Int #[.int .i64 n] (.string (intB n)) := by
  have hs := intB_size h
  unfold intB numB at hs
  rw [size_app, size_list, show (ByteArray.mk #[59]).size = 1 from rfl] at hs
  unfold I64 at h
  refine gives_of (Berrataref01_Int_run n) fun W R Φ _ => Br.intro (fun hn => ?_) (fun hn => ?_)
  · have hn := of_decide_eq_true hn
    have e : n = -((n.natAbs : Nat) : Int) := by omega
    have hi : Lib.itoa n = 45 :: Lib.decDigits n.natAbs := by unfold Lib.itoa; rw [if_pos hn]
    have hg := digits_g n.natAbs (by omega)
    rw [← e] at hg
    rw [hi, List.length_cons] at hs
    have e45 : (ByteArray.mk #[45]) ++ ByteArray.mk (Lib.decDigits n.natAbs).toArray = numB n := by
      unfold numB
      rw [show (ByteArray.mk #[45]) = ⟨[(45 : UInt8)].toArray⟩ from rfl, mk_app, hi]
      rfl
    refine fun w G cx => (hg.in).toS cx ⟨?_, ?_, fun w G cx => ⟨?_, cx.left⟩⟩
    · show 1 + (ByteArray.mk (Lib.decDigits n.natAbs).toArray).size ≤ _
      rw [size_list]; omega
    · show ((ByteArray.mk #[45]) ++ ByteArray.mk (Lib.decDigits n.natAbs).toArray).size + 1 ≤ _
      have e1 : (ByteArray.mk #[45]).size = 1 := rfl
      rw [size_app, size_list (Lib.decDigits n.natAbs), e1]
      omega
    · unfold intB
      rw [← e45]
  · have hn := of_decide_eq_false hn
    have e : 0 - n = -((n.toNat : Nat) : Int) := by omega
    have hi : Lib.itoa n = Lib.decDigits n.toNat := by unfold Lib.itoa; rw [if_neg hn]
    have hg := digits_g n.toNat (by omega)
    rw [← e, ← hi] at hg
    refine ⟨by unfold I64; omega, fun w G cx => (hg.in).toS cx ⟨?_, fun w G cx => ⟨rfl, cx.left⟩⟩⟩
    show (ByteArray.mk (Lib.itoa n).toArray).size + 1 ≤ _
    rw [size_list]; omega

theorem Num01_g (n : Int) (h : I64 n) : Gives Tryz.prog F.errataref01_Num #[.int .i64 n] (.string (natB n)) := by
  refine gives_of (Berrataref01_Num_run n) fun W R Φ _ => Br.intro (fun hn => fun w G cx => ⟨?_, cx.left⟩) (fun hn => fun w G cx => ((Int01_g n h).in).toS cx fun w G cx => ⟨?_, cx.left⟩)
  · unfold natB; rw [if_pos (of_decide_eq_true hn)]
  · unfold natB; rw [if_neg (of_decide_eq_false hn)]

theorem Text01_g (s : ByteArray) (hs : s.size ≤ 1000000000000) : Gives Tryz.prog F.errataref01_Text #[.string s] (.string (textB s)) := by
  have h1 := numB_size (n := (s.size : Int)) (by unfold I64; omega)
  have e : (0 : Int) - s.size = -((s.size : Nat) : Int) := by omega
  have hg := digits_g s.size (by omega)
  have hi : Lib.itoa (s.size : Int) = Lib.decDigits s.size := by unfold Lib.itoa; rw [if_neg (by omega)]; rfl
  rw [← e, ← hi] at hg
  have e1 : (ByteArray.mk #[58]).size = 1 := rfl
  refine gives_of (Berrataref01_Text_run s) fun W R Φ _ => ⟨by unfold I64; omega, fun w G cx => (hg.in).toS cx ⟨?_, ?_, ?_, fun w G cx => ⟨rfl, cx.left⟩⟩⟩
  · show (numB s.size).size + 1 ≤ _; omega
  · show (numB s.size ++ ByteArray.mk #[58]).size + s.size ≤ _; rw [size_app, e1]; omega
  · show (numB s.size ++ ByteArray.mk #[58] ++ s).size + 1 ≤ _; rw [size_app, size_app, e1]; omega

theorem Bytes03_g (v : ValD) (h1 : I64 v.kind) (h2 : I64 v.num) (hs : v.text.size ≤ 1000000000000) : Gives Tryz.prog F.errataref03_Bytes #[v.v] (.string (valB v)) := by
  have a := intB_size h1
  have b := intB_size h2
  have c := textB_size (s := v.text) (by omega)
  refine gives_of (Berrataref03_Bytes_run v.kind v.num v.text) fun W R Φ _ => ?_
  exact fun _ => ⟨R, Φ, inferInstance, fun w G cx => cx, fun w G cx => ((Int01_g v.kind h1).in).toS cx ⟨fun w G cx => cx, fun w G cx => ((Int01_g v.num h2).in).toS cx ⟨fun w G cx => cx, by show (intB v.kind).size + (intB v.num).size ≤ _; omega,
    fun w G cx => ((Text01_g v.text hs).in).toS cx ⟨fun w G cx => cx, by show (intB v.kind ++ intB v.num).size + (textB v.text).size ≤ _; rw [size_app]; omega, fun w G cx => ⟨rfl, cx.left⟩⟩⟩⟩⟩

theorem RowBytes03_in {Φ : PW} [Stable Φ] (p : Option Addr) (cap : Nat) (r : List ValD) (hΦ : ∀ M w, Φ M w → Sl M w p r) (hr : r.length ≤ 1000000) (ht : ∀ v ∈ r, v.text.size ≤ 10000) :
    GivesIn Φ Tryz.prog F.errataref03_RowBytes #[.slice p r.length cap] (.string (rowB r)) := by
  refine .there (fun M w h => (hΦ M w h).there) fun hth => .know (fun M w h => sl_i64 (hΦ M w h)) fun hi => ?_
  have hv : ∀ v ∈ r, (I64 v.kind ∧ I64 v.num) ∧ v.text.size ≤ 10000 := fun v h => ⟨(hi v h).1, ht v h⟩
  have hL := rowL_len hv (by decide) hr
  have hL : (rowL r).length ≤ 20000000000 := by
    have : r.length * (10000 + 64) ≤ 1000000 * 10064 := Nat.mul_le_mul hr (Nat.le_refl _)
    omega
  refine gives_in (Berrataref03_RowBytes_run p r.length cap) fun W R => ?_
  refine fun w G cx => ((Num01_g (r.length : Int) (by unfold I64; omega)).in).toS cx ?_
  clear cx
  refine exI_mk (fun s iI R' Φ' k => ∃ i : Nat, iI = i ∧ i ≤ r.length ∧ s = ⟨((natB r.length).data.toList ++ valsL (r.take i)).toArray⟩ ∧ R' = R ∧ Φ' = Φ ∧ k = r.length - i) ⟨⟨R, Φ, _, inferInstance, fun w G cx => cx, 0, rfl, Nat.zero_le _, by rw [List.take_zero, show valsL [] = [] from rfl, List.append_nil], rfl, rfl, rfl⟩, ?_⟩
  rintro s iI R2 Φ2 k _ ⟨i, rfl, hi, rfl, rfl, rfl, rfl⟩
  refine Br.intro (fun hlt => ?_) (fun hge => fun w G cx => ⟨?_, cx.left⟩)
  · have hlt : i < r.length := by have := of_decide_eq_true hlt; omega
    obtain ⟨g, o, rfl⟩ := hth (by omega)
    obtain ⟨⟨h1, h2⟩, h3⟩ := hv r[i] (List.getElem_mem hlt)
    have hsz := valB_size h1 h2 (by omega)
    have hlen : ((natB r.length).data.toList ++ valsL (r.take (i + 1))).length ≤ 20000000000 := by
      have e : valsL r = valsL (r.take (i + 1)) ++ valsL (r.drop (i + 1)) := by rw [← valsL_app, List.take_append_drop]
      unfold rowL at hL
      rw [e, List.length_append, List.length_append] at hL
      rw [List.length_append]; omega
    have hstep : valsL (r.take (i + 1)) = valsL (r.take i) ++ (valB r[i]).data.toList := by rw [List.take_succ_eq_append_getElem hlt, valsL_app, valsL_one]
    refine ⟨by omega, ptrK_intro g o rfl fun w G cx => ⟨r[i].kind, r[i].num, r[i].text, by rw [Int.toNat_natCast]; exact sl_val (hΦ _ _ cx.phi) hlt, fun w G cx => ((Bytes03_g r[i] h1 h2 (by omega)).in).toS cx ⟨?_, by unfold I64; omega, R2, Φ2, r.length - (i + 1), inferInstance, fun w G cx => cx, ⟨i + 1, by omega, hlt, ?_, rfl, rfl, rfl⟩, by omega⟩⟩⟩
    · show (ByteArray.mk ((natB r.length).data.toList ++ valsL (r.take i)).toArray).size + (valB r[i]).size ≤ _
      rw [hstep, ← List.append_assoc, List.length_append, list_size] at hlen
      rw [size_list]; omega
    · rw [mk_app, List.append_assoc, hstep]
  · have hge : i = r.length := by have := of_decide_eq_false hge; omega
    subst hge
    rw [List.take_length]
    rfl
end Go.Proofs.YtbkpfhhhbhaecaaGreatDoor
end

section
set_option linter.unusedVariables false
set_option linter.unusedSimpArgs false
namespace Go.Proofs.YtbkpfhhhbhaecaaGreatDoor
open Go.Vc


section
variable {Φ : PW} {p q : Option Addr} {cap cap2 : Nat} {a b l : List DeltaD} {t : Int}

theorem filter_step {q : DeltaD → Bool} {i : Nat} (h : i < l.length) : (l.take (i + 1)).filter q = (l.take i).filter q ++ (if q l[i] = true then [l[i]] else []) := by
  rw [List.take_succ_eq_append_getElem h, List.filter_append]
  congr 1
  by_cases hq : q l[i] = true
  · simp [hq]
  · simp [hq]
theorem filter_take {q : DeltaD → Bool} {i : Nat} : ((l.take i).filter q).length ≤ i := by
  have := List.length_filter_le q (l.take i)
  rw [List.length_take] at this
  omega

theorem Upto28H [Stable Φ] [hΦ : Has Φ (fun M w => Sl M w p l)] (hlen : l.length ≤ 1000000) (hrow : Rows1 l) : GivesSl Φ Tryz.prog F.errataref28_Upto #[.slice p l.length cap, .int .i64 t] (uptoP l t) id := by
  refine ⟨fun W0 w0 S0 c0 => ?_⟩
  obtain ⟨g, o, cs, hp, c1⟩ := c0.pin (hΦ.go _ _ c0.phi)
  have hcs := Ctx.cells c1 (fun M w h => h.2)
  refine (GivesSl.go (gives_sl (Φ := fun M w => Φ M w ∧ Pin g o cs l M w) (l := uptoP l t) (mk := id) (Berrataref28_Upto_run p l.length cap t) fun W R => ?_) W0 w0 S0 c1).mono fun e w' ⟨p, c, h1, h2, h3, h4⟩ => ⟨p, c, h1, h2, h3, h4.weak fun M w h => ⟨h.1.1, h.2⟩⟩
  clear c0 c1
  obtain ⟨f, hf⟩ : ∃ f : DeltaD → Bool, f = fun x : DeltaD => decide (x.time ≤ t) := ⟨_, rfl⟩
  have hu : uptoP l t = consP (l.filter f) := by rw [hf]; rfl
  rw [hu]
  refine exI_mk (fun op on oc iI R' Φ' m => ∃ (i : Nat) (ds : List Value), iI = i ∧ i ≤ l.length ∧ on = ((l.take i).filter f).length ∧ R' = .buf op on oc ds 73 3 :: R ∧ Φ' = (fun M w => (Φ M w ∧ Pin g o cs l M w) ∧ Elems M w ds ((l.take i).filter f)) ∧ m = l.length - i)
    ⟨⟨.buf none 0 0 [] 73 3 :: R, fun M w => (Φ M w ∧ Pin g o cs l M w) ∧ Elems M w [] ([] : List DeltaD), _, inferInstance, fun w G cx => (cx.nobuf 73 3).weak fun M w h => ⟨h, Elems.nil⟩, 0, [], rfl, Nat.zero_le _, rfl, rfl, rfl, rfl⟩, ?_⟩
  rintro op on oc iI R1 Φ1 m hst ⟨i, ds, rfl, hi, rfl, rfl, rfl, rfl⟩
  refine Br.intro (fun hlt => ?_) (fun hge => fun w G cx => ?_)
  · have hlt : i < l.length := by have := of_decide_eq_true hlt; omega
    obtain ⟨q2, qc, he, f1, f2, f3, f4⟩ := hcs i hlt
    have hfl := filter_take (l := l) (q := f) (i := i)
    have row : ∀ {w : World} {S : List Own}, Ctx W w S (fun M w => (Φ M w ∧ Pin g o cs l M w) ∧ Elems M w ds ((l.take i).filter f)) → RowAt w g (o + (i : Int).toNat * 3) (l[i].cells q2 qc) := fun cx => by rw [Int.toNat_natCast]; exact pin_rowAt cx.phi.1.2 hlt he
    refine ⟨by omega, ptrK_intro g o (hp (by omega)) fun w G cx => ⟨l[i].time, by have := row cx 0 (by simp); simpa using this, Br.intro (fun h => ⟨by omega, ptrK_intro g o (hp (by omega)) fun w G cx => ⟨_, _, _, _, _, row cx, fun kb w G cx => ?_⟩⟩) (fun h => ⟨by unfold I64; omega, _, _, l.length - (i + 1), hst, fun w G cx => cx, ⟨i + 1, ds, rfl, hlt, ?_, rfl, ?_, rfl⟩, by omega⟩)⟩⟩
    · have e : (l.take (i + 1)).filter f = (l.take i).filter f ++ [l[i]] := by rw [filter_step hlt, if_pos (by rw [hf]; exact h)]
      obtain ⟨p', c', w', hrun, cx'⟩ := push1 (x := l[i]) (q := q2) (qc := qc) (PS := fun M w => Φ M w ∧ Pin g o cs l M w) (fun M w h => rep_delta f1 f2 f3 f4 (pin_row h.2 hlt he)) (by omega) cx
      rw [← e] at hrun cx'
      exact ⟨p', _, c', w', hrun, _, _, inferInstance, cx', by unfold I64; omega, _, _, l.length - (i + 1), inferInstance, fun w G cx => cx, ⟨i + 1, _, rfl, hlt, rfl, rfl, rfl, rfl⟩, by omega⟩
    all_goals
      have e : (l.take (i + 1)).filter f = (l.take i).filter f := by rw [filter_step hlt, if_neg (by rw [hf]; simpa using h), List.append_nil]
      rw [e]
  · have hge : i = l.length := by have := of_decide_eq_false hge; omega
    subst hge
    rw [List.take_length] at cx ⊢
    obtain ⟨cx3, hs, _, g5, g6⟩ := Ctx.freeze (α := DeltaD) cx.fst cx.phi.2
    have hfl := List.length_filter_le f l
    refine (Cons28_sl (Φ := fun M w => (Φ M w ∧ Pin g o cs l M w) ∧ Sl M w op (l.filter f)) op oc (l.filter f) (fun M w h => h.2) g5 g6 (by omega) (fun x hx => hrow x (List.mem_filter.1 hx).1)).to (cx3.add hs) fun p2 c2 e1 e2 st => fun w G cx => ⟨p2, c2, rfl, e1, e2, cx.left.weak fun M w h => ⟨h.1.1, h.2⟩⟩

end
end Go.Proofs.YtbkpfhhhbhaecaaGreatDoor
end

section
set_option linter.unusedVariables false
set_option linter.unusedSimpArgs false
namespace Go.Proofs.YtbkpfhhhbhaecaaGreatDoor
open Go.Vc


theorem ledOf_nos : ∀ bs : List RBat, (ledOf bs).bats.map BatD.no = bs.map RBat.no := by
  refine rsnoc rfl fun bs b ih => ?_
  rw [ledOf_app]
  show ((ledOf bs).bats ++ [_]).map BatD.no = _
  rw [List.map_append, List.map_append, ih]; rfl
theorem endP_snoc (l : List BatD) (x : BatD) (no : Int) : endP (l ++ [x]) no 0 = if x.no ≤ no then x.stop else endP l no 0 := by
  have h := endP_take (l := l ++ [x]) (no := no) (i := l.length) (by simp) 0
  rw [List.take_of_length_le (by simp), List.take_left, List.getElem_append_right (Nat.le_refl _)] at h
  simpa using h
theorem at_filter (no : Int) : ∀ bs : List RBat, (bs.map RBat.no).Pairwise (· < ·) → (bs.filter fun b => decide (b.no ≤ no)).flatMap RBat.l = (ledOf bs).lines.take (endP (ledOf bs).bats no 0) ∧ endP (ledOf bs).bats no 0 ≤ (ledOf bs).lines.length := by
  refine rsnoc (fun _ => ⟨rfl, Nat.le_refl _⟩) fun bs b ih hp => ?_
  rw [List.map_append] at hp
  obtain ⟨hp1, _, hp2⟩ := List.pairwise_append.1 hp
  obtain ⟨ih1, ih2⟩ := ih hp1
  rw [ledOf_app, List.filter_append]
  show _ = ((ledOf bs).lines ++ b.l).take (endP ((ledOf bs).bats ++ [_]) no 0) ∧ endP ((ledOf bs).bats ++ [_]) no 0 ≤ ((ledOf bs).lines ++ b.l).length
  rw [endP_snoc]
  by_cases h : b.no ≤ no
  · rw [if_pos h, List.filter_cons_of_pos (by simpa using h)]
    have hall : (bs.filter fun b => decide (b.no ≤ no)) = bs := List.filter_eq_self.2 fun x hx => by
      have := hp2 x.no (List.mem_map.2 ⟨x, hx, rfl⟩) b.no (by simp)
      exact decide_eq_true (by omega)
    rw [hall]
    show (bs ++ [b]).flatMap RBat.l = ((ledOf bs).lines ++ b.l).take ((ledOf bs).lines ++ b.l).length ∧ ((ledOf bs).lines ++ b.l).length ≤ _
    rw [List.take_length, ledOf_lines, List.flatMap_append]
    exact ⟨by simp, Nat.le_refl _⟩
  · rw [if_neg h, List.filter_cons_of_neg (by simpa using h)]
    refine ⟨?_, by rw [List.length_append]; omega⟩
    rw [List.filter_nil, List.append_nil, ih1, List.take_append_of_le_length ih2]

def rsegL (b : RBat) : List UInt8 := (intB b.no).data.toList ++ ((intB b.mark).data.toList ++ ((natB (b.l.length : Int)).data.toList ++ linesL b.l))
theorem rsegs : ∀ bs : List RBat, (∀ i, i ≤ bs.length → Made (ledOf (bs.take i))) → ∀ i, i ≤ bs.length → segsL (ledOf bs) i = (bs.take i).flatMap rsegL := by
  refine rsnoc (fun _ i hi => ?_) fun bs b ih hm i hi => ?_
  · have : i = 0 := by simpa using hi
    subst this; rfl
  · have ih := ih fun j hj => by
      have := hm j (by simp; omega)
      rwa [List.take_append_of_le_length hj] at this
    have hmb : Made (ledOf bs) := by
      have := hm bs.length (by simp)
      rwa [List.take_left] at this
    have hbl := ledOf_blen bs
    rw [ledOf_app]
    rw [List.length_append, List.length_singleton] at hi
    by_cases hlt : i ≤ bs.length
    · rw [segsL_app hmb (by omega), List.take_append_of_le_length hlt]
      exact ih i hlt
    · have : i = bs.length + 1 := by omega
      subst this
      have e := segL_last hmb (no := b.no) (mark := b.mark) (L := b.l)
      have h0 := ih bs.length (Nat.le_refl _)
      rw [hbl] at e
      rw [List.take_length] at h0
      rw [segsL_step, segsL_app hmb (by omega), h0, e, List.take_of_length_le (l := bs ++ [b]) (by simp), List.flatMap_append]
      simp [rsegL]
theorem rsegs_step {bs : List RBat} {i : Nat} (h : i < bs.length) : (bs.take (i + 1)).flatMap rsegL = (bs.take i).flatMap rsegL ++ rsegL bs[i] := by
  rw [List.take_succ_eq_append_getElem h, List.flatMap_append]; simp

section
variable {Φ : PW} {q : RP} {bs : List RBat} {W w : World} {R S G : List Own} {p : Option Addr} {cap : Nat} {L : List LineD}

set_option maxHeartbeats 1000000 in
theorem RAt_q [Stable Φ] {no : Int} (hq : RefQ q bs) (hrows : ∀ x ∈ bs.flatMap RBat.l, x.row.length ≤ 1000000) [hF : Has Φ (RF q bs)] : GivesQSl (RefO q bs) Φ Tryz.prog F.errataref41_Ledger_At #[rled q, .int .i64 no] (netP ((bs.filter fun b => decide (b.no ≤ no)).flatMap RBat.l)) := by
  have hn := hq.n
  have hl := hq.lines
  obtain ⟨fl, hfl⟩ : ∃ fl : List RBat → List LineD, fl = fun l => (l.filter fun b => decide (b.no ≤ no)).flatMap RBat.l := ⟨_, rfl⟩
  have hstep : ∀ i (h : i < bs.length), fl (bs.take (i + 1)) = fl (bs.take i) ++ if bs[i].no ≤ no then bs[i].l else [] := fun i h => by
    rw [hfl]
    simp only
    rw [List.take_succ_eq_append_getElem h, List.filter_append, List.flatMap_append]
    congr 1
    by_cases h2 : bs[i].no ≤ no
    · rw [if_pos h2, List.filter_cons_of_pos (by simpa using h2)]; simp
    · rw [if_neg h2, List.filter_cons_of_neg (by simpa using h2)]; rfl
  have hle : ∀ l : List RBat, (fl l).length ≤ (l.flatMap RBat.l).length := fun l => by
    rw [hfl]
    simp only
    induction l with
    | nil => exact Nat.le_refl _
    | cons b l ih =>
      by_cases h : b.no ≤ no
      · rw [List.filter_cons_of_pos (by simpa using h), List.flatMap_cons, List.flatMap_cons, List.length_append, List.length_append]; omega
      · rw [List.filter_cons_of_neg (by simpa using h), List.flatMap_cons, List.length_append]; omega
  have hmem : ∀ x ∈ fl bs, x.row.length ≤ 1000000 := fun x hx => by
    rw [hfl] at hx
    obtain ⟨b, hb, hxb⟩ := List.mem_flatMap.1 hx
    exact hrows x (List.mem_flatMap.2 ⟨b, (List.mem_filter.1 hb).1, hxb⟩)
  have hgoal : (bs.filter fun b => decide (b.no ≤ no)).flatMap RBat.l = fl bs := by rw [hfl]
  rw [hgoal]
  have hnil : fl (bs.take 0) = [] := by rw [hfl]; rfl
  clear hfl hgoal
  refine gives_qsl (Berrataref41_Ledger_At_run q.rb 0 no) fun W R => ?_
  refine exI_mk (fun op on oc iI R' Φ' m => ∃ i ds, iI = (i : Nat) ∧ i ≤ bs.length ∧ on = (fl (bs.take i)).length ∧ R' = .buf op on oc ds 51 7 :: (RefO q bs ++ R) ∧ Φ' = (fun M w => Φ M w ∧ Elems M w ds (fl (bs.take i))) ∧ m = bs.length - i) ⟨⟨.buf none 0 0 [] 51 7 :: (RefO q bs ++ R), (fun M w => Φ M w ∧ Elems M w [] (fl (bs.take 0))), _, inferInstance, fun w G cx => ((cx.nobuf 51 7).weak fun M w h => ⟨h, by rw [hnil]; exact Elems.nil⟩), 0, [], rfl, Nat.zero_le _, by rw [hnil]; rfl, rfl, rfl, rfl⟩, ?_⟩
  rintro op on oc iI R1 Φ1 m _ ⟨i, ds, rfl, hi, rfl, rfl, rfl, rfl⟩
  have hst0 : Stable (fun M w => Φ M w ∧ Elems M w ds (fl (bs.take i))) := inferInstance
  have cell : ∀ {w : World} {G : List Own} {Ψ : PW}, Ctx W w (.buf op (fl (bs.take i)).length oc ds 51 7 :: (RefO q bs ++ R) ++ G) Ψ → w.cell? ⟨q.rb, 0, none⟩ = some (.slice q.p bs.length q.c) := fun cx => cx.get 1 rfl rfl
  refine fun w G cx => ⟨_, _, _, cell cx, Br.intro (fun hlt => ?_) (fun hge => fun w G cx => ?_)⟩
  · have hlt : i < bs.length := by have := of_decide_eq_true hlt; omega
    obtain ⟨g, hg⟩ := hq.ptr (by omega)
    obtain ⟨p, c, he, e1, e2, _⟩ := hq.cells i hlt
    have hs := hstep i hlt
    have hl1 := hle (bs.take (i + 1))
    have hl2 := rflat_le bs (i + 1)
    refine fun w G cx => ⟨_, _, _, cell cx, by omega, ptrK_intro g 0 hg fun w G cx => ⟨bs[i].no, ?_, Br.intro (fun h => ?_) (fun h => ?_)⟩⟩
    · rw [Int.toNat_natCast, Nat.zero_add]
      exact cx.bufRow 2 rfl hg (rows_of (vs := bs[i].cells p c) he) 0 (by simp)
    · have h := of_decide_eq_true h
      rw [if_pos h] at hs
      refine fun w G cx => ⟨_, _, _, cell cx, by omega, ptrK_intro g 0 hg fun w G cx => ⟨p, bs[i].l.length, c, ?_, fun w G cx => ?_⟩⟩
      · rw [Int.toNat_natCast, Nat.zero_add]
        exact cx.bufRow 2 rfl hg (rows_of (vs := bs[i].cells p c) he) 2 (by simp)
      · rw [hs, List.length_append] at hl1
        obtain ⟨p', c', w', news, hrun, cx'⟩ := Ctx.appAny (P := Tryz.prog) (ts := 31) (ty := 31) (kb := #[false, false]) (bytes := 72) (c2 := c) (l := bs[i].l) (q := p) cx (by kernel_rfl) line_one (fun M w h => ref_sl (hF.go M w h.1) hlt he) (by omega) (by omega)
        rw [← List.length_append, ← hs] at hrun cx'
        have hst : Stable (fun M w => Φ M w ∧ Elems M w (ds ++ news) (fl (bs.take (i + 1)))) := inferInstance
        exact ⟨p', _, c', w', hrun, .buf p' (fl (bs.take (i + 1))).length c' (ds ++ news) 51 7 :: (RefO q bs ++ R), _, hst, cx'.weak fun M w h => ⟨h.1.1, by rw [hs]; exact h.1.2.append h.2⟩, by unfold I64; omega, _, _, bs.length - (i + 1), hst, fun w G cx => cx, ⟨i + 1, _, by omega, hlt, rfl, rfl, rfl, rfl⟩, by omega⟩
    · have h := of_decide_eq_false h
      rw [if_neg h, List.append_nil] at hs
      exact ⟨by unfold I64; omega, _, _, bs.length - (i + 1), hst0, fun w G cx => cx, ⟨i + 1, ds, by omega, hlt, by rw [hs], rfl, by rw [hs], rfl⟩, by omega⟩
  · have hge : i = bs.length := by have := of_decide_eq_false hge; omega
    subst hge
    rw [List.take_length] at cx ⊢
    have hl1 := hle bs
    obtain ⟨cx3, hs, _, k1, k2⟩ := Ctx.freeze (α := LineD) cx cx.phi.2
    exact (Net41_sl (Φ := fun M w => Φ M w ∧ Sl M w op (fl bs)) (by omega) hmem).to ((cx3.add hs).weak fun M w h => (⟨h.1.1, h.2⟩ : Φ M w ∧ Sl M w op (fl bs))) fun p' c' k1 k2 _ => fun w G cx => ⟨p', c', rfl, k1, k2, cx.left.weak fun M w h => ⟨h.1.1, h.2⟩⟩
end
end Go.Proofs.YtbkpfhhhbhaecaaGreatDoor
end

section
set_option linter.unusedVariables false
set_option linter.unusedSimpArgs false
namespace Go.Proofs.YtbkpfhhhbhaecaaGreatDoor
open Go.Vc


def ptO (q : RP) (i : Nat) : Option Addr := match (q.cs.drop (i * 3)).take 3 with
  | [_, _, .slice p _ _] => p
  | _ => none
def PinB (cf : Nat → List Value) (q : RP) (l : List RBat) : PW := fun M w => ∀ i (h : i < l.length), SrcF (ptO q i) l[i].l (cf i) M w
instance instStablePinB (cf : Nat → List Value) (q : RP) (l : List RBat) : Stable (PinB cf q l) := ⟨fun hs h i hi => (instStableSrcF (ptO q i) l[i].l (cf i)).step hs (h i hi)⟩

section
variable {Φ : PW} {q : RP} {bl : List RBat} {W w : World} {R S G : List Own}

theorem ptO_at (hq : RefQ q bl) {i : Nat} (h : i < bl.length) : ∃ c, (q.cs.drop (i * 3)).take 3 = bl[i].cells (ptO q i) c ∧ I64 bl[i].no ∧ I64 bl[i].mark := by
  obtain ⟨p, c, e, _, _, h1, h2⟩ := hq.cells i h
  have : ptO q i = p := by unfold ptO; rw [e]
  rw [this]
  exact ⟨c, e, h1, h2⟩
theorem pin_b [Stable Φ] (hq : RefQ q bl) (c : Ctx W w S Φ) (hF : Elems (dom S) w q.cs bl) : ∃ cf, Ctx W w S (fun M w => Φ M w ∧ PinB cf q bl M w) := by
  have each : ∀ i, ∃ cs, ∀ h : i < bl.length, SrcF (ptO q i) bl[i].l cs (dom S) w := fun i => by
    by_cases h : i < bl.length
    · obtain ⟨c2, e, _⟩ := ptO_at hq h
      obtain ⟨cs, cx⟩ := srcOf c (ref_sl hF h e)
      exact ⟨cs, fun _ => cx.phi.2⟩
    · exact ⟨[], fun h' => absurd h' h⟩
  exact ⟨fun i => Classical.choose (each i), c.add (Ψ := PinB (fun i => Classical.choose (each i)) q bl) fun i hi => Classical.choose_spec (each i) hi⟩

theorem linesL_take {l : List LineD} {j : Nat} : (linesL (l.take j)).length ≤ (linesL l).length := by
  conv => rhs; rw [← List.take_append_drop j l, linesL_app, List.length_append]
  omega

set_option maxHeartbeats 4000000 in
theorem RBytes_pin [Stable Φ] {cf : Nat → List Value} (hq : RefQ q bl) (hi : RefI bl) (hP : ∀ M w, Φ M w → PinB cf q bl M w) (hr : ∀ i (h : i < bl.length), Rows7 (cf i) bl[i].l) (hw : ∀ x ∈ bl.flatMap RBat.l, LineW x) :
    GivesQ (RefO q bl) Φ Tryz.prog F.errataref41_Ledger_Bytes #[rled q] (.string ⟨(ledL (ledOf bl)).toArray⟩) := by
  have hn := hq.n
  have hll := hq.lines
  have hbl := ledOf_blen bl
  have hsg := rsegs bl hi.m
  have hlen : ∀ i, i ≤ bl.length → ((bl.take i).flatMap rsegL).length ≤ 900000000 := fun i h => by
    rw [← hsg i h]
    have h1 := segs_len (st := ledOf bl) (by rw [ledOf_lines]; exact hw) hi.v.bats hi.s i (by omega)
    have h2 := begP_le hi.made (i := i) (by omega)
    have h3 := hi.s.lines
    have h4 : i * 63 + begP (ledOf bl).bats i * 5000 ≤ 100000 * 63 + 150000 * 5000 := Nat.add_le_add (Nat.mul_le_mul_right _ (by omega)) (Nat.mul_le_mul_right _ (by omega))
    omega
  have hfin : ledL (ledOf bl) = (natB (bl.length : Int)).data.toList ++ (bl.take bl.length).flatMap rsegL := by
    unfold ledL
    rw [hbl, hsg bl.length (Nat.le_refl _)]
  rw [hfin]
  have hnat := natB_size (n := (bl.length : Int)) (by unfold I64; omega)
  obtain ⟨pre0, hpre0⟩ : ∃ p, (natB (bl.length : Int)).data.toList = p := ⟨_, rfl⟩
  have hp0 : pre0.length ≤ 21 := by rw [← hpre0, list_size]; exact hnat
  have hst0 : natB (bl.length : Int) = ⟨(pre0 ++ (bl.take 0).flatMap rsegL).toArray⟩ := by
    rw [List.take_zero, show ([] : List RBat).flatMap rsegL = [] from rfl, List.append_nil, ← hpre0]
  rw [hpre0]
  refine gives_q (Berrataref41_Ledger_Bytes_run q.rb 0) fun W R => fun w G cx => ⟨_, _, _, ref_cell cx, fun w G cx => ((Num01_g (bl.length : Int) (by unfold I64; omega)).in).toS cx ?_⟩
  clear cx
  refine exI_mk (fun s iI R' Φ' k => ∃ i : Nat, iI = i ∧ i ≤ bl.length ∧ s = ⟨(pre0 ++ (bl.take i).flatMap rsegL).toArray⟩ ∧ R' = RefO q bl ++ R ∧ Φ' = Φ ∧ k = bl.length - i) ⟨⟨_, _, _, inferInstance, fun w G cx => cx, 0, rfl, Nat.zero_le _, hst0, rfl, rfl, rfl⟩, ?_⟩
  rintro s iI R1 Φ1 k _ ⟨i, rfl, hil, rfl, rfl, rfl, rfl⟩
  refine fun w G cx => ⟨_, _, _, ref_cell cx, Br.intro (fun hlt => ?_) (fun hge => fun w G cx => ⟨?_, cx.left⟩)⟩
  · clear cx
    have hlt : i < bl.length := by have := of_decide_eq_true hlt; omega
    obtain ⟨g, hg⟩ := hq.ptr (by omega)
    obtain ⟨c, he, hno, hmk⟩ := ptO_at hq hlt
    have src : Src [] Φ1 (ptO q i) bl[i].l (cf i) := src_fact (hq.there i hlt _ c he) fun M w h => hP M w h i hlt
    have hr7 := hr i hlt
    have hlw : ∀ x ∈ bl[i].l, LineW x := fun x hx => hw x (List.mem_flatMap.2 ⟨_, List.getElem_mem hlt, hx⟩)
    have hone := rflat_one hlt
    have htot := hlen (i + 1) hlt
    rw [rsegs_step hlt, List.length_append] at htot
    have hrs : (rsegL bl[i]).length = (intB bl[i].no).size + (intB bl[i].mark).size + (natB (bl[i].l.length : Int)).size + (linesL bl[i].l).length := by
      unfold rsegL
      rw [List.length_append, List.length_append, List.length_append, list_size, list_size, list_size]; omega
    have hstp := rsegs_step hlt
    obtain ⟨pre, hpre⟩ : ∃ p, pre0 ++ (bl.take i).flatMap rsegL = p := ⟨_, rfl⟩
    have hprel : pre.length + (rsegL bl[i]).length ≤ 900000021 := by rw [← hpre, List.length_append]; omega
    have hsegB : rsegL bl[i] = (intB bl[i].no).data.toList ++ ((intB bl[i].mark).data.toList ++ ((natB (bl[i].l.length : Int)).data.toList ++ linesL bl[i].l)) := rfl
    rw [hpre]
    obtain ⟨B, hB⟩ : ∃ B : RBat, bl[i] = B := ⟨_, rfl⟩
    rw [hB] at he hno hmk src hr7 hlw hone hprel hrs hsegB hstp
    obtain ⟨P, hP2⟩ : ∃ P : ByteArray, (⟨pre.toArray⟩ : ByteArray) = P := ⟨_, rfl⟩
    have hPs : P.size = pre.length := by rw [← hP2]; exact size_list _
    rw [hP2]
    refine fun w G cx => ⟨_, _, _, ref_cell cx, by omega, ptrK_intro g 0 hg fun w G cx => ⟨B.no, B.mark, ptO q i, B.l.length, c, by rw [Int.toNat_natCast]; exact ref_row cx hg he, fun _ => ⟨RefO q bl ++ R, Φ1, inferInstance, fun w G cx => cx, fun w G cx => ((Int01_g B.no hno).in).toS cx ⟨fun w G cx => cx, by show P.size + (intB B.no).size ≤ _; omega, fun w G cx => ((Int01_g B.mark hmk).in).toS cx ⟨fun w G cx => cx, by show (P ++ intB B.no).size + (intB B.mark).size ≤ _; rw [size_app]; omega, fun w G cx => ((Num01_g (B.l.length : Int) (by unfold I64; omega)).in).toS cx ⟨fun w G cx => cx, by show (P ++ intB B.no ++ intB B.mark).size + (natB (B.l.length : Int)).size ≤ _; rw [size_app, size_app]; omega, ?_⟩⟩⟩⟩⟩⟩
    clear cx
    have hps : P ++ intB B.no ++ intB B.mark ++ natB (B.l.length : Int) = ⟨(pre ++ ((intB B.no).data.toList ++ ((intB B.mark).data.toList ++ (natB (B.l.length : Int)).data.toList))).toArray⟩ := by
      rw [← hP2, mk_app, mk_app, mk_app, List.append_assoc, List.append_assoc]
    rw [hps]
    obtain ⟨pre1, hpre1⟩ : ∃ p, pre ++ ((intB B.no).data.toList ++ ((intB B.mark).data.toList ++ (natB (B.l.length : Int)).data.toList)) = p := ⟨_, rfl⟩
    have hp1 : pre1.length + (linesL B.l).length ≤ 900000021 := by
      rw [← hpre1, List.length_append, List.length_append, List.length_append, list_size, list_size, list_size]; omega
    rw [hpre1]
    refine exI_mk (fun s jI R' Φ' k => ∃ j : Nat, jI = j ∧ j ≤ B.l.length ∧ s = ⟨(pre1 ++ linesL (B.l.take j)).toArray⟩ ∧ R' = RefO q bl ++ R ∧ Φ' = Φ1 ∧ k = B.l.length - j) ⟨⟨_, _, _, inferInstance, fun w G cx => cx, 0, rfl, Nat.zero_le _, by rw [List.take_zero, show linesL [] = [] from rfl, List.append_nil], rfl, rfl, rfl⟩, ?_⟩
    rintro s jI R3 Φ3 k3 _ ⟨j, rfl, hj, rfl, rfl, rfl, rfl⟩
    refine Br.intro (fun hlt2 => ?_) (fun hge2 => ⟨by unfold I64; omega, _, Φ3, bl.length - (i + 1), inferInstance, fun w G cx => cx, ⟨i + 1, by omega, hlt, ?_, rfl, rfl, rfl⟩, by omega⟩)
    · have hlt2 : j < B.l.length := by have := of_decide_eq_true hlt2; omega
      obtain ⟨b, o, hp⟩ := src.ptr (by omega)
      obtain ⟨r, rc, e, k1, k2, k3⟩ := hr7 j hlt2
      have hx := hlw B.l[j] (List.getElem_mem hlt2)
      have hrs2 := rowB_small hx.row hx.val
      have hrow := hx.row
      have hh : ∀ M w, Φ3 M w → Sl M w r B.l[j].row := fun M w h => src_sl src hlt2 e h
      have hst1 : linesL (B.l.take (j + 1)) = linesL (B.l.take j) ++ (lineB B.l[j]).data.toList := by rw [List.take_succ_eq_append_getElem hlt2, linesL_app, linesL_one]
      have ht1 := linesL_take (l := B.l) (j := j + 1)
      rw [hst1, List.length_append, list_size] at ht1
      have hval : ∀ v ∈ B.l[j].row, v.text.size ≤ 10000 := fun v hv => by have := (hx.val v hv).2; omega
      obtain ⟨x, hxx⟩ : ∃ x, B.l[j] = x := ⟨_, rfl⟩
      rw [hxx] at e hx hrs2 hrow hh hst1 ht1 hval
      have hlb : (lineB x).size = (intB x.time).size + (textB (rowB x.row)).size + (intB x.n).size + (intB x.cause).size + (intB x.why).size := by unfold lineB; rw [size_app, size_app, size_app, size_app]
      obtain ⟨Q, hQ⟩ : ∃ Q : ByteArray, (⟨(pre1 ++ linesL (B.l.take j)).toArray⟩ : ByteArray) = Q := ⟨_, rfl⟩
      have hQs : Q.size = pre1.length + (linesL (B.l.take j)).length := by rw [← hQ, ← List.length_append]; exact size_list _
      rw [hQ]
      refine ⟨by omega, ptrK_intro b o hp fun w G cx => ⟨x.no, x.batch, x.time, r, x.row.length, rc, x.n, x.cause, x.why, by rw [Int.toNat_natCast]; exact src_at (S := []) (G := (RefO q bl ++ R) ++ G) src hp cx e, fun _ => ⟨RefO q bl ++ R, Φ3, inferInstance, fun w G cx => cx, fun w G cx => ((Int01_g x.time hx.inn.time).in).toS cx ⟨fun w G cx => cx, by show Q.size + (intB x.time).size ≤ _; omega, fun w G cx => (RowBytes03_in r rc x.row hh (by omega) hval).toS cx ⟨fun w G cx => cx, fun w G cx => ((Text01_g (rowB x.row) (by omega)).in).toS cx ⟨fun w G cx => cx, by show (Q ++ intB x.time).size + (textB (rowB x.row)).size ≤ _; rw [size_app]; omega, fun w G cx => ((Int01_g x.n hx.inn.n).in).toS cx ⟨fun w G cx => cx, by show (Q ++ intB x.time ++ textB (rowB x.row)).size + (intB x.n).size ≤ _; rw [size_app, size_app]; omega, fun w G cx => ((Int01_g x.cause hx.inn.cause).in).toS cx ⟨fun w G cx => cx, by show (Q ++ intB x.time ++ textB (rowB x.row) ++ intB x.n).size + (intB x.cause).size ≤ _; rw [size_app, size_app, size_app]; omega, fun w G cx => ((Int01_g x.why hx.inn.why).in).toS cx ⟨fun w G cx => cx, by show (Q ++ intB x.time ++ textB (rowB x.row) ++ intB x.n ++ intB x.cause).size + (intB x.why).size ≤ _; rw [size_app, size_app, size_app, size_app]; omega, by unfold I64; omega, _, _, B.l.length - (j + 1), inferInstance, fun w G cx => cx, ⟨j + 1, by omega, hlt2, ?_, rfl, rfl, rfl⟩, by omega⟩⟩⟩⟩⟩⟩⟩⟩⟩
      have hl1 : Q ++ intB x.time ++ textB (rowB x.row) ++ intB x.n ++ intB x.cause ++ intB x.why = Q ++ lineB x := by
        unfold lineB
        simp only [ByteArray.append_assoc]
      rw [hl1, ← hQ, mk_app, hst1, List.append_assoc]
    · have hge2 : j = B.l.length := by have := of_decide_eq_false hge2; omega
      subst hge2
      rw [List.take_length, hstp, ← List.append_assoc, hpre, ← hpre1, hsegB]
      simp only [List.append_assoc]
  · have hge : i = bl.length := by have := of_decide_eq_false hge; omega
    subst hge
    rfl

theorem RBytes_q [Stable Φ] (hq : RefQ q bl) (hi : RefI bl) [hF : Has Φ (RF q bl)] : GivesQ (RefO q bl) Φ Tryz.prog F.errataref41_Ledger_Bytes #[rled q] (.string ⟨(ledL (ledOf bl)).toArray⟩) := by
  refine ⟨fun W w S c => ?_⟩
  obtain ⟨cf, c1⟩ := pin_b hq c (hF.go _ _ c.phi)
  have hpin := c1.phi.2
  have hr : ∀ i (h : i < bl.length), Rows7 (cf i) bl[i].l := fun i h => rows7 (hpin i h).2
  have hw : ∀ x ∈ bl.flatMap RBat.l, LineW x := fun x hx => by
    obtain ⟨b, hb, hxb⟩ := List.mem_flatMap.1 hx
    obtain ⟨i, hil, rfl⟩ := List.getElem_of_mem hb
    obtain ⟨j, hj, rfl⟩ := List.getElem_of_mem hxb
    have hmem : bl[i].l[j] ∈ (ledOf bl).lines := by rw [ledOf_lines]; exact hx
    obtain ⟨p, c', e, _, _, h3, hsl⟩ := lrow (hpin i hil).2 hj
    exact ⟨h3, fun v hv => ⟨(sl_i64 hsl v hv).1, hi.s.text _ hmem v hv⟩, hi.s.row _ hmem⟩
  exact ((RBytes_pin (Φ := fun M w => Φ M w ∧ PinB cf q bl M w) hq hi (fun M w h => h.2) hr hw).go W w S c1).mono fun e w' ⟨he, c2⟩ => ⟨he, c2.weak fun M w h => h.1⟩
end
end Go.Proofs.YtbkpfhhhbhaecaaGreatDoor
end

section
set_option linter.unusedVariables false
set_option linter.unusedSimpArgs false
namespace Go.Proofs.YtbkpfhhhbhaecaaGreatDoor
open Go.Vc

def FitTree2 (lP : Option Addr) (lN : Nat) (n47 : Int) (p36 : Option Addr) (W : World) (R48 : List Own) (I49 : PW) (I51 : Nat → Nat → List Own → PW → Prop) : Prop :=
  ∃ (R52 : List Own), ∃ (Φ53 : PW), Stable Φ53 ∧ (∀ (w54 : World) (R55 : List Own), Ctx W w54 (R48 ++ R55) I49 → Ctx W w54 (R52 ++ R55) Φ53) ∧ (0 ≤ n47 ∧
  n47 < (↑lN : Int)) ∧ ptrK none lP fun (k56 k57 : Nat) => ∃ (n58 : Int), ∃ (n59 : Int), ∃ (p60 : Option Addr), ∃ (k61 : Nat), ∃ (k62 : Nat), ∃ (c63 : Bool),
  (∀ (w64 : World) (R65 : List Own), Ctx W w64 (R52 ++ R65) Φ53 → ∃ (n66 : Int), ∃ (n67 : Int), ∃ (p68 : Option Addr), ∃ (k69 : Nat), ∃ (k70 : Nat), ∃ (c71
  : Bool), RowAt w64 k56 (k57 + n47.toNat * 4) [Value.int IntKind.i64 n66, Value.int IntKind.i64 n67, Value.slice p68 k69 k70, Value.bool c71] ∧ Value.agg
  #[Value.int IntKind.i64 n66, Value.int IntKind.i64 n67, Value.slice p68 k69 k70, Value.bool c71] = Value.agg #[Value.int IntKind.i64 n58, Value.int IntKind.i64
  n59, Value.slice p60 k61 k62, Value.bool c63]) ∧ (∀ (w72 : World) (R73 : List Own), Ctx W w72 (R48 ++ R73) I49 → Calls Tryz.prog F.errataref41_Ledger_Last
  #[Value.pointer p36] w72 fun (e74 : Ending) (w75 : World) => ∃ (n76 : Int), e74 = Ending.returned (Value.int IntKind.i64 n76) ∧ ∃ (R77 : List Own), ∃ (Φ78
  : PW), Stable Φ78 ∧ Ctx W w75 (R77 ++ R73) Φ78 ∧ (∀ (w79 : World) (R80 : List Own), Ctx W w79 (R77 ++ R80) Φ78 → Ctx W w79 (R52 ++ R80) Φ53) ∧ (∀ (w81
  : World) (R82 : List Own), Ctx W w81 (R77 ++ R82) Φ78 → Calls Tryz.prog F.errataref41_Ledger_Mark #[Value.pointer p36] w81 fun (e83 : Ending) (w84 : World)
  => ∃ (n85 : Int), e83 = Ending.returned (Value.int IntKind.i64 n85) ∧ ∃ (R86 : List Own), ∃ (Φ87 : PW), Stable Φ87 ∧ Ctx W w84 (R86 ++ R82) Φ87 ∧ (∀ (w88
  : World) (R89 : List Own), Ctx W w88 (R86 ++ R89) Φ87 → Ctx W w88 (R52 ++ R89) Φ53) ∧ (∀ (w90 : World) (R91 : List Own), Ctx W w90 (R86 ++ R91) Φ87 → Calls
  Tryz.prog F.errataref41_Ledger_Lines #[Value.pointer p36] w90 fun (e92 : Ending) (w93 : World) => ∃ (p94 : Option Addr), ∃ (k95 : Nat), ∃ (k96 : Nat),
  e92 = Ending.returned (Value.slice p94 k95 k96) ∧ ∃ (R97 : List Own), ∃ (Φ98 : PW), Stable Φ98 ∧ Ctx W w93 (R97 ++ R91) Φ98 ∧ (∀ (w99 : World) (R100 :
  List Own), Ctx W w99 (R97 ++ R100) Φ98 → Ctx W w99 (R52 ++ R100) Φ53) ∧ I64 ((↑k95 : Int) + 1) ∧ (∀ (w101 : World) (R102 : List Own), Ctx W w101 (R97 ++
  R102) Φ98 → Calls Tryz.prog F.erratalaw41_fitted #[Value.agg #[Value.int IntKind.i64 n58, Value.int IntKind.i64 n59, Value.slice p60 k61 k62, Value.bool
  c63], Value.int IntKind.i64 n76, Value.int IntKind.i64 n85, Value.int IntKind.i64 ((↑k95 : Int) + 1)] w101 fun (e103 : Ending) (w104 : World) => ∃ (n105
  : Int), ∃ (n106 : Int), ∃ (p107 : Option Addr), ∃ (k108 : Nat), ∃ (k109 : Nat), ∃ (c110 : Bool), e103 = Ending.returned (Value.agg #[Value.int IntKind.i64
  n105, Value.int IntKind.i64 n106, Value.slice p107 k108 k109, Value.bool c110]) ∧ ∃ (R111 : List Own), ∃ (Φ112 : PW), Stable Φ112 ∧ Ctx W w104 (R111 ++
  R102) Φ112 ∧ (∀ (w113 : World) (R114 : List Own), Ctx W w113 (R111 ++ R114) Φ112 → Ctx W w113 (R52 ++ R114) Φ53) ∧ (∀ (k115 : Nat), (∀ (w116 : World) (R117
  : List Own), Ctx W w116 (Own.blk k115 [Value.int IntKind.i64 0, Value.int IntKind.i64 0, Value.slice none 0 0, Value.bool false] 33 :: R111 ++ R117) Φ112
  → Ctx W w116 (R52 ++ R117) Φ53) ∧ ∀ (w118 : World) (R119 : List Own), Ctx W w118 (Own.blk k115 [Value.int IntKind.i64 0, Value.int IntKind.i64 0, Value.slice
  none 0 0, Value.bool false] 33 :: R111 ++ R119) Φ112 → CanWrite w118 k115 0 4 ∧ ∀ (w120 : World), w120 = w118.setCells k115 0 [Value.int IntKind.i64 n105,
  Value.int IntKind.i64 n106, Value.slice p107 k108 k109, Value.bool c110] → ∃ (R121 : List Own), ∃ (Φ122 : PW), Stable Φ122 ∧ Ctx W w120 (R121 ++ R119)
  Φ122 ∧ ∃ (R123 : List Own), ∃ (Φ124 : PW), Stable Φ124 ∧ (∀ (w125 : World) (R126 : List Own), Ctx W w125 (R121 ++ R126) Φ122 → Ctx W w125 (R123 ++ R126)
  Φ124) ∧ I51 k115 0 R123 Φ124) ∧ True) ∧ (∀ (k127 : Nat), (∀ (w128 : World) (R129 : List Own), Ctx W w128 (Own.blk k127 [Value.int IntKind.i64 0, Value.int
  IntKind.i64 0, Value.slice none 0 0, Value.bool false] 33 :: R97 ++ R129) Φ98 → Ctx W w128 (R52 ++ R129) Φ53) ∧ (∀ (w130 : World) (R131 : List Own), Ctx
  W w130 (Own.blk k127 [Value.int IntKind.i64 0, Value.int IntKind.i64 0, Value.slice none 0 0, Value.bool false] 33 :: R97 ++ R131) Φ98 → Calls Tryz.prog
  F.erratalaw41_fitted #[Value.agg #[Value.int IntKind.i64 n58, Value.int IntKind.i64 n59, Value.slice p60 k61 k62, Value.bool c63], Value.int IntKind.i64
  n76, Value.int IntKind.i64 n85, Value.int IntKind.i64 ((↑k95 : Int) + 1)] w130 fun (e132 : Ending) (w133 : World) => ∃ (n134 : Int), ∃ (n135 : Int), ∃
  (p136 : Option Addr), ∃ (k137 : Nat), ∃ (k138 : Nat), ∃ (c139 : Bool), e132 = Ending.returned (Value.agg #[Value.int IntKind.i64 n134, Value.int IntKind.i64
  n135, Value.slice p136 k137 k138, Value.bool c139]) ∧ ∃ (R140 : List Own), ∃ (Φ141 : PW), Stable Φ141 ∧ Ctx W w133 (R140 ++ R131) Φ141 ∧ (∀ (w142 : World)
  (R143 : List Own), Ctx W w142 (R140 ++ R143) Φ141 → Ctx W w142 (R52 ++ R143) Φ53) ∧ ∀ (w144 : World) (R145 : List Own), Ctx W w144 (R140 ++ R145) Φ141
  → CanWrite w144 k127 0 4 ∧ ∀ (w146 : World), w146 = w144.setCells k127 0 [Value.int IntKind.i64 n134, Value.int IntKind.i64 n135, Value.slice p136 k137
  k138, Value.bool c139] → ∃ (R147 : List Own), ∃ (Φ148 : PW), Stable Φ148 ∧ Ctx W w146 (R147 ++ R145) Φ148 ∧ ∃ (R149 : List Own), ∃ (Φ150 : PW), Stable
  Φ150 ∧ (∀ (w151 : World) (R152 : List Own), Ctx W w151 (R147 ++ R152) Φ148 → Ctx W w151 (R149 ++ R152) Φ150) ∧ I51 k127 0 R149 Φ150) ∧ True) ∧ True) ∧
  (∀ (k153 : Nat), (∀ (w154 : World) (R155 : List Own), Ctx W w154 (Own.blk k153 [Value.int IntKind.i64 0, Value.int IntKind.i64 0, Value.slice none 0 0,
  Value.bool false] 33 :: R86 ++ R155) Φ87 → Ctx W w154 (R52 ++ R155) Φ53) ∧ (∀ (w156 : World) (R157 : List Own), Ctx W w156 (Own.blk k153 [Value.int IntKind.i64
  0, Value.int IntKind.i64 0, Value.slice none 0 0, Value.bool false] 33 :: R86 ++ R157) Φ87 → Calls Tryz.prog F.errataref41_Ledger_Lines #[Value.pointer
  p36] w156 fun (e158 : Ending) (w159 : World) => ∃ (p160 : Option Addr), ∃ (k161 : Nat), ∃ (k162 : Nat), e158 = Ending.returned (Value.slice p160 k161 k162)
  ∧ ∃ (R163 : List Own), ∃ (Φ164 : PW), Stable Φ164 ∧ Ctx W w159 (R163 ++ R157) Φ164 ∧ (∀ (w165 : World) (R166 : List Own), Ctx W w165 (R163 ++ R166) Φ164
  → Ctx W w165 (R52 ++ R166) Φ53) ∧ I64 ((↑k161 : Int) + 1) ∧ (∀ (w167 : World) (R168 : List Own), Ctx W w167 (R163 ++ R168) Φ164 → Calls Tryz.prog F.erratalaw41_fitted
  #[Value.agg #[Value.int IntKind.i64 n58, Value.int IntKind.i64 n59, Value.slice p60 k61 k62, Value.bool c63], Value.int IntKind.i64 n76, Value.int IntKind.i64
  n85, Value.int IntKind.i64 ((↑k161 : Int) + 1)] w167 fun (e169 : Ending) (w170 : World) => ∃ (n171 : Int), ∃ (n172 : Int), ∃ (p173 : Option Addr), ∃ (k174
  : Nat), ∃ (k175 : Nat), ∃ (c176 : Bool), e169 = Ending.returned (Value.agg #[Value.int IntKind.i64 n171, Value.int IntKind.i64 n172, Value.slice p173 k174
  k175, Value.bool c176]) ∧ ∃ (R177 : List Own), ∃ (Φ178 : PW), Stable Φ178 ∧ Ctx W w170 (R177 ++ R168) Φ178 ∧ (∀ (w179 : World) (R180 : List Own), Ctx W
  w179 (R177 ++ R180) Φ178 → Ctx W w179 (R52 ++ R180) Φ53) ∧ ∀ (w181 : World) (R182 : List Own), Ctx W w181 (R177 ++ R182) Φ178 → CanWrite w181 k153 0 4
  ∧ ∀ (w183 : World), w183 = w181.setCells k153 0 [Value.int IntKind.i64 n171, Value.int IntKind.i64 n172, Value.slice p173 k174 k175, Value.bool c176] →
  ∃ (R184 : List Own), ∃ (Φ185 : PW), Stable Φ185 ∧ Ctx W w183 (R184 ++ R182) Φ185 ∧ ∃ (R186 : List Own), ∃ (Φ187 : PW), Stable Φ187 ∧ (∀ (w188 : World)
  (R189 : List Own), Ctx W w188 (R184 ++ R189) Φ185 → Ctx W w188 (R186 ++ R189) Φ187) ∧ I51 k153 0 R186 Φ187) ∧ True) ∧ True) ∧ True) ∧ (∀ (k190 : Nat),
  (∀ (w191 : World) (R192 : List Own), Ctx W w191 (Own.blk k190 [Value.int IntKind.i64 0, Value.int IntKind.i64 0, Value.slice none 0 0, Value.bool false]
  33 :: R77 ++ R192) Φ78 → Ctx W w191 (R52 ++ R192) Φ53) ∧ (∀ (w193 : World) (R194 : List Own), Ctx W w193 (Own.blk k190 [Value.int IntKind.i64 0, Value.int
  IntKind.i64 0, Value.slice none 0 0, Value.bool false] 33 :: R77 ++ R194) Φ78 → Calls Tryz.prog F.errataref41_Ledger_Mark #[Value.pointer p36] w193 fun
  (e195 : Ending) (w196 : World) => ∃ (n197 : Int), e195 = Ending.returned (Value.int IntKind.i64 n197) ∧ ∃ (R198 : List Own), ∃ (Φ199 : PW), Stable Φ199
  ∧ Ctx W w196 (R198 ++ R194) Φ199 ∧ (∀ (w200 : World) (R201 : List Own), Ctx W w200 (R198 ++ R201) Φ199 → Ctx W w200 (R52 ++ R201) Φ53) ∧ (∀ (w202 : World)
  (R203 : List Own), Ctx W w202 (R198 ++ R203) Φ199 → Calls Tryz.prog F.errataref41_Ledger_Lines #[Value.pointer p36] w202 fun (e204 : Ending) (w205 : World)
  => ∃ (p206 : Option Addr), ∃ (k207 : Nat), ∃ (k208 : Nat), e204 = Ending.returned (Value.slice p206 k207 k208) ∧ ∃ (R209 : List Own), ∃ (Φ210 : PW), Stable
  Φ210 ∧ Ctx W w205 (R209 ++ R203) Φ210 ∧ (∀ (w211 : World) (R212 : List Own), Ctx W w211 (R209 ++ R212) Φ210 → Ctx W w211 (R52 ++ R212) Φ53) ∧ I64 ((↑k207
  : Int) + 1) ∧ (∀ (w213 : World) (R214 : List Own), Ctx W w213 (R209 ++ R214) Φ210 → Calls Tryz.prog F.erratalaw41_fitted #[Value.agg #[Value.int IntKind.i64
  n58, Value.int IntKind.i64 n59, Value.slice p60 k61 k62, Value.bool c63], Value.int IntKind.i64 n76, Value.int IntKind.i64 n197, Value.int IntKind.i64
  ((↑k207 : Int) + 1)] w213 fun (e215 : Ending) (w216 : World) => ∃ (n217 : Int), ∃ (n218 : Int), ∃ (p219 : Option Addr), ∃ (k220 : Nat), ∃ (k221 : Nat),
  ∃ (c222 : Bool), e215 = Ending.returned (Value.agg #[Value.int IntKind.i64 n217, Value.int IntKind.i64 n218, Value.slice p219 k220 k221, Value.bool c222])
  ∧ ∃ (R223 : List Own), ∃ (Φ224 : PW), Stable Φ224 ∧ Ctx W w216 (R223 ++ R214) Φ224 ∧ (∀ (w225 : World) (R226 : List Own), Ctx W w225 (R223 ++ R226) Φ224
  → Ctx W w225 (R52 ++ R226) Φ53) ∧ ∀ (w227 : World) (R228 : List Own), Ctx W w227 (R223 ++ R228) Φ224 → CanWrite w227 k190 0 4 ∧ ∀ (w229 : World), w229
  = w227.setCells k190 0 [Value.int IntKind.i64 n217, Value.int IntKind.i64 n218, Value.slice p219 k220 k221, Value.bool c222] → ∃ (R230 : List Own), ∃ (Φ231
  : PW), Stable Φ231 ∧ Ctx W w229 (R230 ++ R228) Φ231 ∧ ∃ (R232 : List Own), ∃ (Φ233 : PW), Stable Φ233 ∧ (∀ (w234 : World) (R235 : List Own), Ctx W w234
  (R230 ++ R235) Φ231 → Ctx W w234 (R232 ++ R235) Φ233) ∧ I51 k190 0 R232 Φ233) ∧ True) ∧ True) ∧ True) ∧ True) ∧ (∀ (k236 : Nat), (∀ (w237 : World) (R238
  : List Own), Ctx W w237 (Own.blk k236 [Value.int IntKind.i64 0, Value.int IntKind.i64 0, Value.slice none 0 0, Value.bool false] 33 :: R48 ++ R238) I49
  → Ctx W w237 (R52 ++ R238) Φ53) ∧ (∀ (w239 : World) (R240 : List Own), Ctx W w239 (Own.blk k236 [Value.int IntKind.i64 0, Value.int IntKind.i64 0, Value.slice
  none 0 0, Value.bool false] 33 :: R48 ++ R240) I49 → Calls Tryz.prog F.errataref41_Ledger_Last #[Value.pointer p36] w239 fun (e241 : Ending) (w242 : World)
  => ∃ (n243 : Int), e241 = Ending.returned (Value.int IntKind.i64 n243) ∧ ∃ (R244 : List Own), ∃ (Φ245 : PW), Stable Φ245 ∧ Ctx W w242 (R244 ++ R240) Φ245
  ∧ (∀ (w246 : World) (R247 : List Own), Ctx W w246 (R244 ++ R247) Φ245 → Ctx W w246 (R52 ++ R247) Φ53) ∧ (∀ (w248 : World) (R249 : List Own), Ctx W w248
  (R244 ++ R249) Φ245 → Calls Tryz.prog F.errataref41_Ledger_Mark #[Value.pointer p36] w248 fun (e250 : Ending) (w251 : World) => ∃ (n252 : Int), e250 =
  Ending.returned (Value.int IntKind.i64 n252) ∧ ∃ (R253 : List Own), ∃ (Φ254 : PW), Stable Φ254 ∧ Ctx W w251 (R253 ++ R249) Φ254 ∧ (∀ (w255 : World) (R256
  : List Own), Ctx W w255 (R253 ++ R256) Φ254 → Ctx W w255 (R52 ++ R256) Φ53) ∧ (∀ (w257 : World) (R258 : List Own), Ctx W w257 (R253 ++ R258) Φ254 → Calls
  Tryz.prog F.errataref41_Ledger_Lines #[Value.pointer p36] w257 fun (e259 : Ending) (w260 : World) => ∃ (p261 : Option Addr), ∃ (k262 : Nat), ∃ (k263 :
  Nat), e259 = Ending.returned (Value.slice p261 k262 k263) ∧ ∃ (R264 : List Own), ∃ (Φ265 : PW), Stable Φ265 ∧ Ctx W w260 (R264 ++ R258) Φ265 ∧ (∀ (w266
  : World) (R267 : List Own), Ctx W w266 (R264 ++ R267) Φ265 → Ctx W w266 (R52 ++ R267) Φ53) ∧ I64 ((↑k262 : Int) + 1) ∧ (∀ (w268 : World) (R269 : List Own),
  Ctx W w268 (R264 ++ R269) Φ265 → Calls Tryz.prog F.erratalaw41_fitted #[Value.agg #[Value.int IntKind.i64 n58, Value.int IntKind.i64 n59, Value.slice p60
  k61 k62, Value.bool c63], Value.int IntKind.i64 n243, Value.int IntKind.i64 n252, Value.int IntKind.i64 ((↑k262 : Int) + 1)] w268 fun (e270 : Ending) (w271
  : World) => ∃ (n272 : Int), ∃ (n273 : Int), ∃ (p274 : Option Addr), ∃ (k275 : Nat), ∃ (k276 : Nat), ∃ (c277 : Bool), e270 = Ending.returned (Value.agg
  #[Value.int IntKind.i64 n272, Value.int IntKind.i64 n273, Value.slice p274 k275 k276, Value.bool c277]) ∧ ∃ (R278 : List Own), ∃ (Φ279 : PW), Stable Φ279
  ∧ Ctx W w271 (R278 ++ R269) Φ279 ∧ (∀ (w280 : World) (R281 : List Own), Ctx W w280 (R278 ++ R281) Φ279 → Ctx W w280 (R52 ++ R281) Φ53) ∧ ∀ (w282 : World)
  (R283 : List Own), Ctx W w282 (R278 ++ R283) Φ279 → CanWrite w282 k236 0 4 ∧ ∀ (w284 : World), w284 = w282.setCells k236 0 [Value.int IntKind.i64 n272,
  Value.int IntKind.i64 n273, Value.slice p274 k275 k276, Value.bool c277] → ∃ (R285 : List Own), ∃ (Φ286 : PW), Stable Φ286 ∧ Ctx W w284 (R285 ++ R283)
  Φ286 ∧ ∃ (R287 : List Own), ∃ (Φ288 : PW), Stable Φ288 ∧ (∀ (w289 : World) (R290 : List Own), Ctx W w289 (R285 ++ R290) Φ286 → Ctx W w289 (R287 ++ R290)
  Φ288) ∧ I51 k236 0 R287 Φ288) ∧ True) ∧ True) ∧ True) ∧ True) ∧ True
end Go.Proofs.YtbkpfhhhbhaecaaGreatDoor
end

section
set_option linter.unusedVariables false
set_option linter.unusedSimpArgs false
namespace Go.Proofs.YtbkpfhhhbhaecaaGreatDoor
open Go.Vc


def stepR (bs : List RBat) (x : PushD) : List RBat := if checkP (ledOf bs) (fitOf (ledOf bs) x).batch (fitOf (ledOf bs) x).mark (fitOf (ledOf bs) x).l = 0 then bs ++ [⟨(fitOf (ledOf bs) x).batch, (fitOf (ledOf bs) x).mark, (fitOf (ledOf bs) x).l⟩] else bs
theorem ledOf_step (bs : List RBat) (x : PushD) : stepP (ledOf bs) x = ledOf (stepR bs x) := by
  unfold stepP stepR
  split
  · rw [ledOf_app]
  · rfl
theorem made_take {bs : List RBat} (h : ∀ j, j ≤ bs.length → Made (ledOf (bs.take j))) (x : PushD) : ∀ j, j ≤ (stepR bs x).length → Made (ledOf ((stepR bs x).take j)) := by
  unfold stepR
  split
  · rename_i hz
    intro j hj
    rw [List.length_append, List.length_singleton] at hj
    by_cases hlt : j ≤ bs.length
    · rw [List.take_append_of_le_length hlt]
      exact h j hlt
    · have : j = bs.length + 1 := by omega
      subst this
      rw [List.take_of_length_le (by simp), ledOf_app]
      have hm := h bs.length (Nat.le_refl _)
      rw [List.take_length] at hm
      exact .app hm hz
  · exact h
theorem seg_r {bs : List RBat} (hm : ∀ j, j ≤ bs.length → Made (ledOf (bs.take j))) {i : Nat} (h : i < bs.length) (h2 : i < (ledOf bs).bats.length) : ((ledOf bs).lines.drop (begP (ledOf bs).bats i)).take ((ledOf bs).bats[i].stop - begP (ledOf bs).bats i) = bs[i].l := by
  have hb := ledOf_bat bs i h h2
  have e1 : (ledOf bs).bats[i].stop = ((bs.take (i + 1)).flatMap RBat.l).length := by rw [hb.2.2, ledOf_lines]
  have e2 : begP (ledOf bs).bats i = ((bs.take i).flatMap RBat.l).length := by
    by_cases h0 : i = 0
    · subst h0; rfl
    · obtain ⟨k, rfl⟩ : ∃ k, i = k + 1 := ⟨i - 1, by omega⟩
      rw [begP_succ (by omega), (ledOf_bat bs k (by omega) (by omega)).2.2, ledOf_lines]
  rw [e1, e2, ledOf_lines, rflat_take h, List.length_append]
  have e3 : bs.flatMap RBat.l = (bs.take i).flatMap RBat.l ++ (bs[i].l ++ (bs.drop (i + 1)).flatMap RBat.l) := by
    conv => lhs; rw [← List.take_append_drop i bs, List.flatMap_append, List.drop_eq_getElem_cons h, List.flatMap_cons]
  rw [e3, List.drop_left, Nat.add_sub_cancel_left, List.take_left]
theorem bat_one {st : LedD} (hw : Inv2 st) {i j : Nat} (hi : i < st.bats.length) (hj : j < st.bats.length) (h : st.bats[i].no = st.bats[j].no) : i = j := by
  have hp := List.pairwise_iff_getElem.1 hw.asc
  rcases Nat.lt_trichotomy i j with h1 | h1 | h1
  · have := hp i j hi hj h1; omega
  · exact h1
  · have := hp j i hj hi h1; omega

section
variable {Φ : PW} {q : RP} {bs : List RBat} {qa : LP} {st : LedD} {W w : World} {Q R S G : List Own}

theorem RLinesL_q [Stable Φ] (hq : RefQ q bs) [hF : Has Φ (RF q bs)] : GivesQSl (RefO q bs) Φ Tryz.prog F.errataref41_Ledger_Lines #[rled q] (ledOf bs).lines := by
  rw [ledOf_lines]
  exact RLines_q hq

set_option maxHeartbeats 4000000 in
theorem fit_tree2 [Stable Φ] {l : List PushD} {i : Nat} (hlt : i < l.length) {lP : Option Addr} {g o : Nat} {cs : List (List Value)} (hp : lP = some ⟨g, o, none⟩) (hPin : ∀ M w, Φ M w → Pin g o cs l M w) {r : Option Addr} {rc : Nat} (he : cs.getD i [] = l[i].cells r rc)
    (h1 : l[i].l.length ≤ rc) (h2 : rc ≤ maxLen) (hl : l[i].l.length ≤ 100000) (hq : RefQ q bs) [hF : Has Φ (RF q bs)] (hm : -1 ≤ (lastP (ledOf bs)).mark ∧ (lastP (ledOf bs)).mark ≤ 1099511627776) {K : Nat → Nat → List Own → PW → Prop}
    (hK : ∀ kb p' c', (fitOf (ledOf bs) l[i]).l.length ≤ c' → c' ≤ maxLen → There p' (fitOf (ledOf bs) l[i]).l.length → Stable (fun M w => Φ M w ∧ Sl M w p' (fitOf (ledOf bs) l[i]).l) → K kb 0 (RefO q bs ++ (.blk kb ((fitOf (ledOf bs) l[i]).cells p' c') 33 :: R)) (fun M w => Φ M w ∧ Sl M w p' (fitOf (ledOf bs) l[i]).l)) :
    FitTree2 lP l.length (i : Int) (some ⟨q.rb, 0, none⟩) W (RefO q bs ++ R) Φ K := by
  have hll := hq.lines
  have hll : (ledOf bs).lines.length ≤ 150000 := by rw [ledOf_lines]; exact hll
  obtain ⟨st, hst⟩ : ∃ st, ledOf bs = st := ⟨_, rfl⟩
  have L1 : GivesQ (RefO q bs) Φ Tryz.prog F.errataref41_Ledger_Last #[rled q] (.int .i64 (lastP st).no) := by rw [← hst]; exact RLast_q hq
  have L2 : GivesQ (RefO q bs) Φ Tryz.prog F.errataref41_Ledger_Mark #[rled q] (.int .i64 (lastP st).mark) := by rw [← hst]; exact RMark_q hq
  have L3 : GivesQSl (RefO q bs) Φ Tryz.prog F.errataref41_Ledger_Lines #[rled q] st.lines := by rw [← hst]; exact RLinesL_q hq
  rw [hst] at hm hK hll
  have hh : Has Φ (fun M w => Sl M w r l[i].l) := ⟨fun M w h => pinp_sl (hPin M w h) hlt he⟩
  have i64 : I64 ((st.lines.length : Int) + 1) := by unfold I64; omega
  have fin1 : ∀ {kb : Nat} {p' : Option Addr} {c' : Nat}, (fitOf st l[i]).l.length ≤ c' → c' ≤ maxLen → There p' (fitOf st l[i]).l.length → Stable (fun M w => Φ M w ∧ Sl M w p' (fitOf st l[i]).l) → ∀ {w : World} {G : List Own}, Ctx W w ((.blk kb zPush 33 :: (RefO q bs ++ R)) ++ G) (fun M w => Φ M w ∧ Sl M w p' (fitOf st l[i]).l) →
      CanWrite w kb 0 4 ∧ ∀ w2, w2 = w.setCells kb 0 ((fitOf st l[i]).cells p' c') → ∃ R1 Φ1, Stable Φ1 ∧ Ctx W w2 (R1 ++ G) Φ1 ∧ ∃ R2 Φ2, Stable Φ2 ∧ (∀ w F, Ctx W w (R1 ++ F) Φ1 → Ctx W w (R2 ++ F) Φ2) ∧ K kb 0 R2 Φ2 := fun {kb p' c'} k1 k2 k3 k4 {w G} cx =>
    ⟨cx.can 0 rfl (by show 0 + 4 ≤ 4; decide), fun w2 e => ⟨.blk kb ((fitOf st l[i]).cells p' c') 33 :: (RefO q bs ++ R), _, k4, cx.puts 0 e rfl, RefO q bs ++ (.blk kb ((fitOf st l[i]).cells p' c') 33 :: R), _, k4, fun w F c => Ctx.outl (Q := RefO q bs) (R := .blk kb ((fitOf st l[i]).cells p' c') 33 :: R) (G := F) (Ctx.perm c perm_in), hK kb p' c' k1 k2 k3 k4⟩⟩
  have fitA : ∀ {R0 G : List Own} {w : World} {K : Int → Int → Option Addr → Nat → Nat → Bool → List Own → PW → Prop}, Ctx W w (R0 ++ G) Φ → (∀ p' c', (fitOf st l[i]).l.length ≤ c' → c' ≤ maxLen → There p' (fitOf st l[i]).l.length → Stable (fun M w => Φ M w ∧ Sl M w p' (fitOf st l[i]).l) → K (fitOf st l[i]).batch (fitOf st l[i]).mark p' (fitOf st l[i]).l.length c' (fitOf st l[i]).fit R0 (fun M w => Φ M w ∧ Sl M w p' (fitOf st l[i]).l)) →
      Calls Tryz.prog F.erratalaw41_fitted #[l[i].v r rc, .int .i64 (lastP st).no, .int .i64 (lastP st).mark, .int .i64 ((st.lines.length : Int) + 1)] w fun e w' => ∃ a b p' k c' f, e = .returned (.agg #[.int .i64 a, .int .i64 b, .slice p' k c', .bool f]) ∧ ∃ R' Φ', Stable Φ' ∧ Ctx W w' (R' ++ G) Φ' ∧ K a b p' k c' f R' Φ' := fun {R0 G w K} cx h =>
    fitted_to (x := l[i]) (R := R0) h1 h2 hl hm (by omega) cx h
  unfold FitTree2
  refine ⟨RefO q bs ++ R, Φ, inferInstance, fun w G c => c, by omega, ptrK_intro g o hp ⟨l[i].batch, l[i].mark, r, l[i].l.length, rc, l[i].fit, fun w G cx => ⟨_, _, _, _, _, _, by rw [Int.toNat_natCast]; exact pinp_rowAt (hPin _ _ cx.phi) hlt he, rfl⟩, ?_⟩⟩
  refine ⟨fun w G cx => L1.toI cx ⟨fun w G c => c, ⟨fun w G cx => L2.toI cx ⟨fun w G c => c, ⟨fun w G cx => L3.tol cx fun _ _ => ⟨fun w G c => c, i64, ?A, ?B⟩, ?C⟩⟩, ?D⟩⟩, ?E⟩
  case A => exact fun w G cx => fitA cx fun p' c' k1 k2 k3 k4 => ⟨fun w G c => c.fst, fun kb => ⟨fun w G c => Ctx.drop1 c.fst, fun w G cx => fin1 k1 k2 k3 k4 cx⟩, trivial⟩
  case B => exact ⟨fun kb => ⟨fun w G c => Ctx.drop1 c, fun w G cx => fitA cx fun p' c' k1 k2 k3 k4 => ⟨fun w G c => Ctx.drop1 c.fst, fun w G cx => fin1 k1 k2 k3 k4 cx⟩, trivial⟩, trivial⟩
  case C => exact ⟨fun kb => ⟨fun w G c => Ctx.drop1 c, fun w G cx => L3.tol1 cx fun _ _ => ⟨fun w G c => Ctx.drop1 c, i64, fun w G cx => fitA cx fun p' c' k1 k2 k3 k4 => ⟨fun w G c => Ctx.drop1 c.fst, fun w G cx => fin1 k1 k2 k3 k4 cx⟩, trivial⟩, trivial⟩, trivial⟩
  case D => exact ⟨fun kb => ⟨fun w G c => Ctx.drop1 c, fun w G cx => L2.toI1 cx ⟨fun w G c => Ctx.drop1 c, fun w G cx => L3.tol1 cx fun _ _ => ⟨fun w G c => Ctx.drop1 c, i64, fun w G cx => fitA cx fun p' c' k1 k2 k3 k4 => ⟨fun w G c => Ctx.drop1 c.fst, fun w G cx => fin1 k1 k2 k3 k4 cx⟩, trivial⟩, trivial⟩, trivial⟩, trivial⟩
  case E => exact ⟨fun kb => ⟨fun w G c => Ctx.drop1 c, fun w G cx => L1.toI1 cx ⟨fun w G c => Ctx.drop1 c, fun w G cx => L2.toI1 cx ⟨fun w G c => Ctx.drop1 c, fun w G cx => L3.tol1 cx fun _ _ => ⟨fun w G c => Ctx.drop1 c, i64, fun w G cx => fitA cx fun p' c' k1 k2 k3 k4 => ⟨fun w G c => Ctx.drop1 c.fst, fun w G cx => fin1 k1 k2 k3 k4 cx⟩, trivial⟩, trivial⟩, trivial⟩, trivial⟩, trivial⟩

theorem Append_any [Stable Φ] [hT : Has Φ TabI] {i : Nat} (hq : LedQ qa st) (hi : LedI i st) (hi2 : i ≤ 1000) {x : PushD} (hx : okPush x) (h64 : I64 x.batch) {px : Option Addr} {cx0 : Nat} [hL : Has Φ (fun M w => Sl M w px (fitOf st x).l)] [hF : Has Φ (LF qa st)]
    (c : Ctx W w ((LedO qa st ++ R) ++ G) Φ) {K : Int → List Own → PW → Prop}
    (h : ∀ q', q'.lb = qa.lb → LedQ q' (stepP st x) → LedI (i + 1) (stepP st x) → Stable (fun M w => Φ M w ∧ LF q' (stepP st x) M w) → K (checkP st (fitOf st x).batch (fitOf st x).mark (fitOf st x).l) (LedO q' (stepP st x) ++ R) (fun M w => Φ M w ∧ LF q' (stepP st x) M w)) :
    Calls Tryz.prog F.ledger_Ledger_Append #[led qa, .int .i64 (fitOf st x).batch, .int .i64 (fitOf st x).mark, .slice px (fitOf st x).l.length cx0] w fun e w' => ∃ n, e = .returned (.int .i64 n) ∧ ∃ R' Φ', Stable Φ' ∧ Ctx W w' (R' ++ G) Φ' ∧ K n R' Φ' := by
  have hX := fit_ok (st := st) hx
  have h641 := fit_i64 (st := st) h64
  unfold stepP at h
  refine (Append_to (L := (fitOf st x).l) (no := (fitOf st x).batch) (mark := (fitOf st x).mark) hq hi.s hi.v.cnt (by have := hX.1; omega) (fun y hy => by have := (hX.2 y hy).1; omega) c (K := fun n R' Φ' => ∃ Φ2, Stable Φ2 ∧ (∀ M w, Φ' M w → Φ2 M w) ∧ K n R' Φ2) (fun hz => ?_) fun q' hz hf hlb hq' st3 => ?_).mono fun e w' ⟨n, he, R', Φ', hst, cx, Φ2, hst2, hw, hK⟩ => ⟨n, he, R', Φ2, hst2, cx.weak hw, hK⟩
  · have h := h qa rfl
    rw [if_neg hz] at h
    exact ⟨_, instStableAnd Φ (fun M w => LF qa st M w), fun M w hh => ⟨hh, hF.go M w hh⟩, h hq hi.more (instStableAnd Φ (fun M w => LF qa st M w))⟩
  · have h := h q' hlb
    rw [if_pos hz, hz] at h
    exact ⟨_, st3, fun M w hh => hh, h hq' (hi.app hi2 hX h641 hz hf) st3⟩
theorem RAppend_any [Stable Φ] (hq : RefQ q bs) (hi : RefI bs) {x : PushD} (hx : okPush x) (h64 : I64 x.batch) {px : Option Addr} {cx0 : Nat} [hL : Has Φ (fun M w => Sl M w px (fitOf (ledOf bs) x).l)] [hF : Has Φ (RF q bs)] (hbn : bs.length + 1 ≤ 100000) (hln : (ledOf bs).lines.length + 12 ≤ 150000) (hc1 : (fitOf (ledOf bs) x).l.length ≤ cx0) (hc2 : cx0 ≤ maxLen)
    (c : Ctx W w ((RefO q bs ++ R) ++ G) Φ) {K : Int → List Own → PW → Prop}
    (h : ∀ q', q'.rb = q.rb → RefQ q' (stepR bs x) → Stable (fun M w => Φ M w ∧ RF q' (stepR bs x) M w) → K (checkP (ledOf bs) (fitOf (ledOf bs) x).batch (fitOf (ledOf bs) x).mark (fitOf (ledOf bs) x).l) (RefO q' (stepR bs x) ++ R) (fun M w => Φ M w ∧ RF q' (stepR bs x) M w)) :
    Calls Tryz.prog F.errataref41_Ledger_Append #[rled q, .int .i64 (fitOf (ledOf bs) x).batch, .int .i64 (fitOf (ledOf bs) x).mark, .slice px (fitOf (ledOf bs) x).l.length cx0] w fun e w' => ∃ n, e = .returned (.int .i64 n) ∧ ∃ R' Φ', Stable Φ' ∧ Ctx W w' (R' ++ G) Φ' ∧ K n R' Φ' := by
  have hX := fit_ok (st := ledOf bs) hx
  have h641 := fit_i64 (st := ledOf bs) h64
  have eL := ledOf_lines bs
  have hX1 := hX.1
  unfold stepR at h
  refine (RAppend_to (L := (fitOf (ledOf bs) x).l) (no := (fitOf (ledOf bs) x).batch) (mark := (fitOf (ledOf bs) x).mark) hq hi h641 (by omega) (fun y hy => by have := (hX.2 y hy).1; omega) hbn (by rw [← eL]; omega) hc1 hc2 c (K := fun n R' Φ' => ∃ Φ2, Stable Φ2 ∧ (∀ M w, Φ' M w → Φ2 M w) ∧ K n R' Φ2) (fun hz => ?_) fun q' hz hrb hq' st3 => ?_).mono fun e w' ⟨n, he, R', Φ', hst, cx, Φ2, hst2, hw, hK⟩ => ⟨n, he, R', Φ2, hst2, cx.weak hw, hK⟩
  · have h := h q rfl
    rw [if_neg hz] at h
    exact ⟨_, instStableAnd Φ (fun M w => RF q bs M w), fun M w hh => ⟨hh, hF.go M w hh⟩, h hq (instStableAnd Φ (fun M w => RF q bs M w))⟩
  · have h := h q' hrb
    rw [if_pos hz, hz] at h
    exact ⟨_, st3, fun M w hh => hh, h hq' st3⟩

abbrev zLine : LineD := ⟨0, 0, 0, [], 0, 0, 0⟩
theorem Line_any [Stable Φ] {no : Int} (hq : LedQ qa st) (hs : LedS st) [hF : Has Φ (LF qa st)] (cx : Ctx W w ((LedO qa st ++ R) ++ G) Φ) {K : Int → Int → Int → Option Addr → Nat → Nat → Int → Int → Int → Bool → List Own → PW → Prop}
    (h : ∀ (x : LineD) a ac (k : Bool), k = (decide (1 ≤ no) && decide (no ≤ st.lines.length)) → (k = true → ∃ (j : Nat) (hj : j < st.lines.length), no = j + 1 ∧ x = st.lines[j]) → x.row.length ≤ 13 → Stable (fun M w => Φ M w ∧ Sl M w a x.row) → K x.no x.batch x.time a x.row.length ac x.n x.cause x.why k (LedO qa st ++ R) (fun M w => Φ M w ∧ Sl M w a x.row)) :
    Calls Tryz.prog F.ledger_Ledger_Line #[led qa, .int .i64 no] w fun e w' => ∃ a b c d f g h i j k, e = .returned (.tuple #[.agg #[.int .i64 a, .int .i64 b, .int .i64 c, .slice d f g, .int .i64 h, .int .i64 i, .int .i64 j], .bool k]) ∧ ∃ R' Φ', Stable Φ' ∧ Ctx W w' (R' ++ G) Φ' ∧ K a b c d f g h i j k R' Φ' := by
  refine (Line_to hq hs cx (K := fun a b c d f g h i j k R' Φ' => ∃ Φ2, Stable Φ2 ∧ (∀ M w, Φ' M w → Φ2 M w) ∧ K a b c d f g h i j k R' Φ2) (fun hz => ?_) fun j hj a ac e _ _ st3 => ?_).mono fun e w' ⟨a, b, c, d, f, g, h, i, j, k, he, R', Φ', hst, cx, Φ2, hst2, hw, hK⟩ => ⟨a, b, c, d, f, g, h, i, j, k, he, R', Φ2, hst2, cx.weak hw, hK⟩
  · refine ⟨_, (inferInstance : Stable (fun M w => Φ M w ∧ Sl M w none (zLine.row))), fun M w hh => ⟨hh, Sl.nil⟩, h zLine none 0 false ?_ (fun e => by cases e) (by decide) inferInstance⟩
    by_cases h1 : 1 ≤ no
    · rw [decide_eq_true h1, decide_eq_false (p := no ≤ st.lines.length) (fun e => hz ⟨h1, e⟩)]; rfl
    · rw [decide_eq_false h1]; rfl
  · refine ⟨_, st3, fun M w hh => hh, h st.lines[j] a ac true ?_ (fun _ => ⟨j, hj, e, rfl⟩) (hs.row _ (List.getElem_mem hj)) st3⟩
    rw [decide_eq_true (p := 1 ≤ no) (by omega), decide_eq_true (p := no ≤ st.lines.length) (by omega)]; rfl
theorem Batch_any [Stable Φ] {no : Int} (hq : LedQ qa st) (hs : LedS st) (hb : BatsOk st) [hF : Has Φ (LF qa st)] (cx : Ctx W w ((LedO qa st ++ R) ++ G) Φ) {K : Option Addr → Nat → Nat → Int → Bool → List Own → PW → Prop}
    (h : ∀ (L : List LineD) p c cs mk (f : Bool), (f = true → ∃ (j : Nat) (hj : j < st.bats.length), st.bats[j].no = no ∧ mk = st.bats[j].mark ∧ L = (st.lines.drop (begP st.bats j)).take (st.bats[j].stop - begP st.bats j)) → (f = false → ∀ b ∈ st.bats, b.no ≠ no) → There p L.length → Rows7 cs L → L.length ≤ 150000 → Stable (fun M w => Φ M w ∧ SrcF p L cs M w) → K p L.length c mk f (LedO qa st ++ R) (fun M w => Φ M w ∧ SrcF p L cs M w)) :
    Calls Tryz.prog F.ledger_Ledger_Batch #[led qa, .int .i64 no] w fun e w' => ∃ a b c d f, e = .returned (.tuple #[.slice a b c, .int .i64 d, .bool f]) ∧ ∃ R' Φ', Stable Φ' ∧ Ctx W w' (R' ++ G) Φ' ∧ K a b c d f R' Φ' := by
  have hsl := hs.lines
  refine (Batch_to hq hs hb cx (K := fun a b c d f R' Φ' => ∃ Φ2, Stable Φ2 ∧ (∀ M w, Φ' M w → Φ2 M w) ∧ K a b c d f R' Φ2) (fun hz => ?_) fun j hj L p c cs e1 _ e3 _ _ hth hr st3 => ?_).mono fun e w' ⟨a, b, c, d, f, he, R', Φ', hst, cx, Φ2, hst2, hw, hK⟩ => ⟨a, b, c, d, f, he, R', Φ2, hst2, cx.weak hw, hK⟩
  · have hst : Stable (fun M w => Φ M w ∧ SrcF none ([] : List LineD) [] M w) := instStableAnd Φ (fun M w => SrcF none ([] : List LineD) [] M w)
    exact ⟨_, hst, fun M w hh => ⟨hh, (⟨fun b o e _ => (by cases e), Elems.nil⟩ : SrcF none ([] : List LineD) [] M w)⟩, h [] none 0 [] 0 false (fun e => by cases e) (fun _ => hz) (fun e => by simp at e) (fun i hi => by simp at hi) (by simp) hst⟩
  · exact ⟨_, st3, fun M w hh => hh, h L p c cs st.bats[j].mark true (fun _ => ⟨j, hj, e1, rfl, e3⟩) (fun e => by cases e) hth hr (by rw [e3, List.length_take, List.length_drop]; omega) st3⟩
end
end Go.Proofs.YtbkpfhhhbhaecaaGreatDoor
end

section
set_option linter.unusedVariables false
set_option linter.unusedSimpArgs false
namespace Go.Proofs.YtbkpfhhhbhaecaaGreatDoor
open Go.Vc


section
variable {Φ : PW} {q : LP} {st : LedD} {W w : World} {R S G : List Own} {p r : Option Addr} {cap cap2 : Nat}

theorem SameLines_in [Stable Φ] {a b : List LineD} {csa csb : List Value} (srcA : Src [] Φ p a csa) (srcB : Src [] Φ r b csb) (hca : Rows7 csa a) (hcb : Rows7 csb b) (hlen : a.length ≤ 1000000) (hrow : ∀ x ∈ a, x.row.length ≤ 1000000) :
    GivesIn Φ Tryz.prog F.errataref41_SameLines #[.slice p a.length cap, .slice r b.length cap2] (.bool (sameLs a b)) := by
  refine gives_in (Berrataref41_SameLines_run p a.length cap r b.length cap2) fun W R => Br.intro (fun hn => fun w G cx => ⟨?_, cx.left⟩) (fun hn => ?_)
  · have hn := of_decide_eq_true hn
    unfold sameLs
    rw [decide_eq_false fun e => hn (by rw [e])]; rfl
  have hn : b.length = a.length := by have := Decidable.not_not.1 (of_decide_eq_false hn); omega
  have he : sameLs a b = (a.zip b).all fun x => sameL x.1 x.2 := by unfold sameLs; rw [decide_eq_true hn.symm, Bool.true_and]
  rw [he]
  have hz : (a.zip b).length = a.length := by rw [List.length_zip, hn, Nat.min_self]
  refine exI_mk (fun n R' Φ' k => ∃ i : Nat, n = i ∧ i ≤ a.length ∧ R' = R ∧ Φ' = Φ ∧ k = a.length - i ∧ ((a.zip b).take i).all (fun x => sameL x.1 x.2) = true) ⟨⟨R, Φ, _, inferInstance, fun w F c => c, 0, rfl, Nat.zero_le _, rfl, rfl, rfl, rfl⟩, ?_⟩
  rintro n R1 Φ1 k _ ⟨i, rfl, hi, rfl, rfl, rfl, hs⟩
  refine Br.intro (fun hlt => ?_) (fun hge => fun w G cx => ⟨?_, cx.left⟩)
  · have hlt : i < a.length := by have := of_decide_eq_true hlt; omega
    have hlb : i < b.length := by omega
    obtain ⟨g1, o1, e1⟩ := srcA.ptr (by omega)
    obtain ⟨g2, o2, e2⟩ := srcB.ptr (by omega)
    obtain ⟨x1, y1, h1, _⟩ := hca i hlt
    obtain ⟨x2, y2, h2, _⟩ := hcb i hlb
    have hA : Has Φ1 (fun M w => Sl M w x1 a[i].row) := ⟨fun M w h => src_sl srcA hlt h1 h⟩
    have hB : Has Φ1 (fun M w => Sl M w x2 b[i].row) := ⟨fun M w h => src_sl srcB hlb h2 h⟩
    have hat : (a.zip b)[i]'(by omega) = (a[i], b[i]) := List.getElem_zip ..
    refine ⟨R1, Φ1, inferInstance, fun w G cx => cx, by omega, ptrK_intro g1 o1 e1 ⟨by omega, ptrK_intro g2 o2 e2 ⟨a[i].no, a[i].batch, a[i].time, x1, a[i].row.length, y1, a[i].n, a[i].cause, a[i].why, fun w G cx => ⟨_, _, _, _, _, _, _, _, _, by rw [Int.toNat_natCast]; exact src_at (S := []) (G := R1 ++ G) srcA e1 cx h1, rfl⟩, b[i].no, b[i].batch, b[i].time, x2, b[i].row.length, y2, b[i].n, b[i].cause, b[i].why, fun w G cx => ⟨_, _, _, _, _, _, _, _, _, by rw [Int.toNat_natCast]; exact src_at (S := []) (G := R1 ++ G) srcB e2 cx h2, rfl⟩, fun w G cx => ?_⟩⟩⟩
    refine (SameLine_in (hA := hA) (hB := hB) (cap := y1) (cap2 := y2) a[i] b[i] (hrow _ (List.getElem_mem _))).toB cx ?_
    clear cx
    refine Br.intro (fun h => fun w G cx => ⟨?_, cx.left⟩) (fun h => ⟨by unfold I64; omega, R1, Φ1, a.length - (i + 1), inferInstance, fun w G cx => cx, ⟨i + 1, rfl, hlt, rfl, rfl, rfl, ?_⟩, by omega⟩)
    · have h : sameL a[i] b[i] = false := by simpa using h
      rw [List.all_eq_false.2 ⟨(a.zip b)[i]'(by omega), List.getElem_mem _, by rw [hat, h]; simp⟩]
    · have h : sameL a[i] b[i] = true := by simpa using h
      rw [List.take_succ_eq_append_getElem (by omega), List.all_append, hs, hat]
      simp [h]
  · have hge : i = a.length := by have := of_decide_eq_false hge; omega
    subst hge
    rw [← hz, List.take_length] at hs
    rw [hs]
end
end Go.Proofs.YtbkpfhhhbhaecaaGreatDoor
end

section
set_option linter.unusedVariables false
set_option linter.unusedSimpArgs false
namespace Go.Proofs.YtbkpfhhhbhaecaaGreatDoor
open Go.Vc


section
variable {Φ : PW} {W w : World} {R S G : List Own} {p r : Option Addr} {cap cap2 : Nat}

theorem blk_only [Stable Φ] {A C : List Own} {B : Own} (c : Ctx W w ((A ++ (B :: C)) ++ G) Φ) : Ctx W w ([B] ++ G) (fun _ _ => True) :=
  (c.sub (List.Sublist.append ((List.Sublist.cons_cons B (List.nil_sublist C)).trans (List.sublist_append_right A (B :: C))) (List.Sublist.refl G))).weak fun _ _ _ => trivial
theorem drop3 [Stable Φ] {A C : List Own} {B : Own} (c : Ctx W w ((A ++ (C ++ (B :: R))) ++ G) Φ) : Ctx W w ((A ++ (C ++ R)) ++ G) Φ :=
  c.sub (List.Sublist.append (List.Sublist.append (List.Sublist.refl A) (List.Sublist.append (List.Sublist.refl C) (List.sublist_cons_self B R))) (List.Sublist.refl G))
theorem p3 [Stable Φ] {A B : List Own} (c : Ctx W w ((A ++ (B ++ R)) ++ G) Φ) : Ctx W w ((B ++ (A ++ R)) ++ G) Φ := c.perm (List.Perm.append_right G (by
  rw [← List.append_assoc, ← List.append_assoc]
  exact List.Perm.append_right R List.perm_append_comm))

set_option maxHeartbeats 16000000 in
theorem Tells_pin [Stable Φ] [hT : Has Φ TabI] {l : List PushD} {g o : Nat} {cs : List (List Value)} (hp : 0 < l.length → p = some ⟨g, o, none⟩) (hP : ∀ M w, Φ M w → Pin g o cs l M w) (hlen : l.length ≤ maxLen)
    {row : List ValD} [hR : Has Φ (fun M w => Sl M w r row)] (hrl : row.length ≤ maxLen) (time no : Int) :
    GivesIn Φ Tryz.prog F.erratalaw41_LedgerTells #[.slice p l.length cap, .int .i64 time, .slice r row.length cap2, .int .i64 no] (.bool true) := by
  refine ⟨fun W0 w0 S0 c0 => GivesIn.go (gives_in (Cerratalaw41_LedgerTells_run p l.length cap time r row.length cap2 no) fun W R => ?_) W0 w0 S0 c0⟩
  have hpc : ∀ j (hj : j < l.length), ∃ p c, cs.getD j [] = l[j].cells p c ∧ l[j].l.length ≤ c ∧ c ≤ maxLen ∧ I64 l[j].batch ∧ I64 l[j].mark := fun j hj => pin_push (hP _ _ c0.phi) hj
  have hrv : ∀ v ∈ row, (I64 v.kind ∧ I64 v.num) ∧ v.text.size ≤ maxLen := sl_i64 (hR.go _ _ c0.phi)
  clear c0
  refine fun w G cx => small41_in.toB cx fun w G cx => (Few41_in hp hP hlen).toB cx ?_
  clear cx
  refine Br.intro (fun _ => fun w G cx => ⟨rfl, cx.left⟩) (fun hfew => ?_)
  obtain ⟨hl25, hpu⟩ := few_out (l := l) (n := 25) (by simpa using hfew)
  refine fun w G cx => (Short_in (r := row) (n := 13) hrl).toB cx ?_
  clear cx
  refine Br.intro (fun _ => fun w G cx => ⟨rfl, cx.left⟩) (fun hsh => ?_)
  obtain ⟨hrt, hrn⟩ := short_out (r := row) (n := 13) (by simpa using hsh)
  have hfit : ∀ v ∈ row, FitV v := fun v hv => ⟨(hrv v hv).1, by have := hrt v hv; omega⟩
  refine fun w G cx => New_to cx fun qa0 hqa0 sta0 => ?_
  clear cx
  refine fun w G cx => RNew_to cx fun qb0 hqb0 stb0 => ?_
  clear cx
  obtain ⟨la, hla⟩ : ∃ x, qa0.lb = x := ⟨_, rfl⟩
  obtain ⟨lb, hlb⟩ : ∃ x, qb0.rb = x := ⟨_, rfl⟩
  refine Br.intro (fun h => by cases h) (fun _ => ?_)
  obtain ⟨INV, hI⟩ : ∃ I : Int → List Own → PW → Nat → Prop, ∀ iI R' Φ' k, I iI R' Φ' k ↔ ∃ (i : Nat) (bs : List RBat) (qa : LP) (qb : RP), iI = i ∧ i ≤ l.length ∧ qa.lb = la ∧ qb.rb = lb ∧ LedQ qa (ledOf bs) ∧ LedI i (ledOf bs) ∧ RefQ qb bs ∧ (∀ j, j ≤ bs.length → Made (ledOf (bs.take j))) ∧ R' = RefO qb bs ++ (LedO qa (ledOf bs) ++ R) ∧ Φ' = (fun M w => (Φ M w ∧ LF qa (ledOf bs) M w) ∧ RF qb bs M w) ∧ k = l.length - i := ⟨_, fun _ _ _ _ => Iff.rfl⟩
  refine exI_mk INV ⟨⟨_, _, _, stb0, fun w G cx => cx, (hI _ _ _ _).2 ⟨0, [], qa0, qb0, rfl, Nat.zero_le _, hla, hlb, hqa0, LedI.start, hqb0, fun j hj => by
    have : j = 0 := by simpa using hj
    subst this; exact .none, rfl, rfl, rfl⟩⟩, ?_⟩
  clear sta0 stb0 hqa0 hqb0
  rw [hla, hlb]
  intro iI R1 Φ1 k _ hinv
  obtain ⟨i, bs, qa, qb, rfl, hi, hla2, hlb2, hqa, hLI, hqb, hmk, rfl, rfl, rfl⟩ := (hI _ _ _ _).1 hinv
  clear hinv
  have hbl := ledOf_blen bs
  have hn1 := hLI.n1
  have hn2 := hLI.n2
  have hRI : RefI bs := ⟨hLI.s, hLI.v, hmk⟩
  have st1 : Stable (fun M w => (Φ M w ∧ LF qa (ledOf bs) M w) ∧ RF qb bs M w) := @instStableAnd _ (fun M w => RF qb bs M w) (instStableAnd Φ (fun M w => LF qa (ledOf bs) M w)) _
  subst hla2 hlb2
  have hF1 : Has (fun M w => (Φ M w ∧ LF qa (ledOf bs) M w) ∧ RF qb bs M w) (RF qb bs) := ⟨fun M w h => h.2⟩
  have hA1 : Has (fun M w => (Φ M w ∧ LF qa (ledOf bs) M w) ∧ RF qb bs M w) (LF qa (ledOf bs)) := ⟨fun M w h => h.1.2⟩
  have hT1 : Has (fun M w => (Φ M w ∧ LF qa (ledOf bs) M w) ∧ RF qb bs M w) TabI := ⟨fun M w h => hT.go M w h.1.1⟩
  refine Br.intro (fun hlt => ?_) (fun hge => ?_)
  · have hlt : i < l.length := by have := of_decide_eq_true hlt; omega
    obtain ⟨x0, xc, he, k1, k2, k3, k4⟩ := hpc i hlt
    have hx : okPush l[i] := hpu l[i] (List.getElem_mem _)
    have tree : FitTree2 p l.length (i : Int) (some ⟨qb.rb, 0, none⟩) W (RefO qb bs ++ (LedO qa (ledOf bs) ++ R)) (fun M w => (Φ M w ∧ LF qa (ledOf bs) M w) ∧ RF qb bs M w) (fun kx z R' Φ' => ∃ p' c', z = 0 ∧ (fitOf (ledOf bs) l[i]).l.length ≤ c' ∧ c' ≤ maxLen ∧ R' = RefO qb bs ++ (.blk kx ((fitOf (ledOf bs) l[i]).cells p' c') 33 :: (LedO qa (ledOf bs) ++ R)) ∧ Φ' = (fun M w => ((Φ M w ∧ LF qa (ledOf bs) M w) ∧ RF qb bs M w) ∧ Sl M w p' (fitOf (ledOf bs) l[i]).l)) :=
      fit_tree2 hlt (hp (by omega)) (fun M w h => hP M w h.1.1) he k1 k2 (by have := hx.1; omega) hqb hLI.v.mark fun kb p' c' m1 m2 m3 m4 => ⟨p', c', rfl, m1, m2, rfl, rfl⟩
    refine exI_mk (fun kx z R' Φ' => ∃ p' c', z = 0 ∧ (fitOf (ledOf bs) l[i]).l.length ≤ c' ∧ c' ≤ maxLen ∧ R' = RefO qb bs ++ (.blk kx ((fitOf (ledOf bs) l[i]).cells p' c') 33 :: (LedO qa (ledOf bs) ++ R)) ∧ Φ' = (fun M w => ((Φ M w ∧ LF qa (ledOf bs) M w) ∧ RF qb bs M w) ∧ Sl M w p' (fitOf (ledOf bs) l[i]).l)) ⟨tree, ?_⟩
    clear tree
    rintro kx z R2 Φ2 st3 ⟨p2, c2, rfl, m1, m2, rfl, rfl⟩
    obtain ⟨B, hB⟩ : ∃ B : Own, .blk kx ((fitOf (ledOf bs) l[i]).cells p2 c2) 33 = B := ⟨_, rfl⟩
    have cb : ∀ {Ψ : PW} {w : World} {G3 : List Own} {j : Nat} {v : Value}, ((fitOf (ledOf bs) l[i]).cells p2 c2)[j]? = some v → Ctx W w ([B] ++ G3) Ψ → w.cell? ⟨kx, 0 + j, none⟩ = some v := fun hv cx => by
      rw [Nat.zero_add]
      rw [← hB] at cx
      exact cx.get 0 rfl hv
    rw [hB]
    refine ⟨[B], (fun _ _ => True), inferInstance, fun w G cx => blk_only (A := RefO qb bs) cx, _, fun w G cx => ⟨_, cb (j := 0) rfl cx, rfl⟩, _, fun w G cx => ⟨_, cb (j := 1) rfl cx, rfl⟩, _, _, _, fun w G cx => ⟨_, _, _, cb (j := 2) rfl cx, rfl⟩, _, fun w G cx => ⟨_, cb (j := 0) rfl cx, rfl⟩, _, fun w G cx => ⟨_, cb (j := 1) rfl cx, rfl⟩, _, _, _, fun w G cx => ⟨_, _, _, cb (j := 2) rfl cx, rfl⟩, fun w G cx => ?_⟩
    have hL3 : Has (fun M w => ((Φ M w ∧ LF qa (ledOf bs) M w) ∧ RF qb bs M w) ∧ Sl M w p2 (fitOf (ledOf bs) l[i]).l) (fun M w => Sl M w p2 (fitOf (ledOf bs) l[i]).l) := ⟨fun M w h => h.2⟩
    have hF3 : Has (fun M w => ((Φ M w ∧ LF qa (ledOf bs) M w) ∧ RF qb bs M w) ∧ Sl M w p2 (fitOf (ledOf bs) l[i]).l) (LF qa (ledOf bs)) := ⟨fun M w h => h.1.1.2⟩
    have hT3 : Has (fun M w => ((Φ M w ∧ LF qa (ledOf bs) M w) ∧ RF qb bs M w) ∧ Sl M w p2 (fitOf (ledOf bs) l[i]).l) TabI := ⟨fun M w h => hT.go M w h.1.1.1⟩
    have cx1 : Ctx W w ((LedO qa (ledOf bs) ++ (RefO qb bs ++ (B :: R))) ++ G) (fun M w => ((Φ M w ∧ LF qa (ledOf bs) M w) ∧ RF qb bs M w) ∧ Sl M w p2 (fitOf (ledOf bs) l[i]).l) := by
      have h := p3 (A := RefO qb bs ++ [B]) (B := LedO qa (ledOf bs)) (R := R) (G := G) (cx.re (by simp))
      exact h.re (by simp)
    refine Append_any (R := RefO qb bs ++ (B :: R)) (x := l[i]) (i := i) hqa hLI (by omega) hx k3 cx1 fun qa2 hlb3 hqa2 hLI2 st4 => ⟨fun w G cx => blk_only (A := LedO qa2 (stepP (ledOf bs) l[i]) ++ RefO qb bs) (C := R) (cx.re (by simp)), ?_⟩
    clear cx cx1
    have hFb : Has (fun M w => (((Φ M w ∧ LF qa (ledOf bs) M w) ∧ RF qb bs M w) ∧ Sl M w p2 (fitOf (ledOf bs) l[i]).l) ∧ LF qa2 (stepP (ledOf bs) l[i]) M w) (RF qb bs) := ⟨fun M w h => h.1.1.2⟩
    have hLb : Has (fun M w => (((Φ M w ∧ LF qa (ledOf bs) M w) ∧ RF qb bs M w) ∧ Sl M w p2 (fitOf (ledOf bs) l[i]).l) ∧ LF qa2 (stepP (ledOf bs) l[i]) M w) (fun M w => Sl M w p2 (fitOf (ledOf bs) l[i]).l) := ⟨fun M w h => h.1.2⟩
    refine fun w G cx => ?_
    have cx1 : Ctx W w ((RefO qb bs ++ (LedO qa2 (stepP (ledOf bs) l[i]) ++ (B :: R))) ++ G) (fun M w => (((Φ M w ∧ LF qa (ledOf bs) M w) ∧ RF qb bs M w) ∧ Sl M w p2 (fitOf (ledOf bs) l[i]).l) ∧ LF qa2 (stepP (ledOf bs) l[i]) M w) := p3 (A := LedO qa2 (stepP (ledOf bs) l[i])) (B := RefO qb bs) cx
    refine RAppend_any (R := LedO qa2 (stepP (ledOf bs) l[i]) ++ (B :: R)) (x := l[i]) hqb hRI hx k3 (by omega) (by omega) m1 m2 cx1 fun qb2 hlb4 hqb2 st5 => ?_
    clear cx cx1
    have hmk2 := made_take hmk l[i]
    have est := ledOf_step bs l[i]
    obtain ⟨bs2, hbs2⟩ : ∃ b, stepR bs l[i] = b := ⟨_, rfl⟩
    rw [hbs2] at hqb2 st5 hmk2 est ⊢
    rw [est] at hqa2 hLI2 st4 st5 ⊢
    have hn3 := hLI2.n1
    obtain ⟨Ψ, hΨ⟩ : ∃ Ψ : PW, (fun M w => ((((Φ M w ∧ LF qa (ledOf bs) M w) ∧ RF qb bs M w) ∧ Sl M w p2 (fitOf (ledOf bs) l[i]).l) ∧ LF qa2 (ledOf bs2) M w) ∧ RF qb2 bs2 M w) = Ψ := ⟨_, rfl⟩
    have hP1 : ∀ M w, Ψ M w → Φ M w := fun M w h => by rw [← hΨ] at h; exact h.1.1.1.1.1
    have hP2 : ∀ M w, Ψ M w → LF qa2 (ledOf bs2) M w := fun M w h => by rw [← hΨ] at h; exact h.1.2
    have hP3 : ∀ M w, Ψ M w → RF qb2 bs2 M w := fun M w h => by rw [← hΨ] at h; exact h.2
    rw [hΨ] at st5 ⊢
    have hA2 : Has Ψ (LF qa2 (ledOf bs2)) := ⟨hP2⟩
    have hF2 : Has Ψ (RF qb2 bs2) := ⟨hP3⟩
    have toA : ∀ {w : World} {G : List Own}, Ctx W w ((RefO qb2 bs2 ++ (LedO qa2 (ledOf bs2) ++ (B :: R))) ++ G) Ψ → Ctx W w ((LedO qa2 (ledOf bs2) ++ (RefO qb2 bs2 ++ (B :: R))) ++ G) Ψ := fun cx => p3 (A := RefO qb2 bs2) (B := LedO qa2 (ledOf bs2)) (R := B :: R) cx
    have toB : ∀ {w : World} {G : List Own}, Ctx W w ((LedO qa2 (ledOf bs2) ++ (RefO qb2 bs2 ++ (B :: R))) ++ G) Ψ → Ctx W w ((RefO qb2 bs2 ++ (LedO qa2 (ledOf bs2) ++ (B :: R))) ++ G) Ψ := fun cx => p3 (A := LedO qa2 (ledOf bs2)) (B := RefO qb2 bs2) (R := B :: R) cx
    have hs2 := hLI2.s
    rw [← hlb3, ← hlb4]
    refine ⟨_, _, st5, fun w G c => c, ?_⟩
    refine Br.intro (fun h => absurd rfl (of_decide_eq_true h)) (fun _ => ?_)
    refine fun w G cx => (Last_q hqa2 hs2).toI (R := RefO qb2 bs2 ++ (B :: R)) (toA cx) ?_
    clear cx
    refine ⟨fun w G c => toB c, ?_⟩
    refine fun w G cx => (RLast_q hqb2).toI (R := LedO qa2 (ledOf bs2) ++ (B :: R)) (toB cx) ?_
    clear cx
    refine ⟨_, _, st5, fun w G c => c, ?_⟩
    refine Br.intro (fun h => absurd rfl (of_decide_eq_true h)) (fun _ => ?_)
    refine fun w G cx => (Mark_q hqa2 hs2).toI (R := RefO qb2 bs2 ++ (B :: R)) (toA cx) ?_
    clear cx
    refine ⟨fun w G c => toB c, ?_⟩
    refine fun w G cx => (RMark_q hqb2).toI (R := LedO qa2 (ledOf bs2) ++ (B :: R)) (toB cx) ?_
    clear cx
    refine ⟨_, _, st5, fun w G c => c, ?_⟩
    refine Br.intro (fun h => absurd rfl (of_decide_eq_true h)) (fun _ => ?_)
    refine fun w G cx => (Next_q (q := qa2) hs2).toI (R := RefO qb2 bs2 ++ (B :: R)) (toA cx) ?_
    clear cx
    refine ⟨fun w G c => toB c, ?_⟩
    refine fun w G cx => (RLinesL_q hqb2).tol (R := LedO qa2 (ledOf bs2) ++ (B :: R)) (toB cx) fun _ _ => ?_
    clear cx
    have st6 : Stable (fun M w => (Φ M w ∧ LF qa2 (ledOf bs2) M w) ∧ RF qb2 bs2 M w) := @instStableAnd _ (fun M w => RF qb2 bs2 M w) (instStableAnd Φ (fun M w => LF qa2 (ledOf bs2) M w)) _
    exact ⟨by unfold I64; omega, Br.intro (fun h => absurd rfl (of_decide_eq_true h)) (fun _ => ⟨by unfold I64; omega, _, _, l.length - (i + 1), st6, fun w G cx => (drop3 (A := RefO qb2 bs2) (C := LedO qa2 (ledOf bs2)) (B := B) (R := R) cx).weak fun M w h => ⟨⟨hP1 M w h, hP2 M w h⟩, hP3 M w h⟩, (hI _ _ _ _).2 ⟨i + 1, bs2, qa2, qb2, by omega, hlt, hlb3, hlb4, hqa2, hLI2, hqb2, hmk2, rfl, rfl, rfl⟩, by omega⟩)⟩
  -- both are there
  clear hge
  have hs := hLI.s
  have hsl := hs.lines
  have hnl := net_len (ledOf bs).lines
  have toA : ∀ {w : World} {G : List Own} {Ψ : PW}, Stable Ψ → Ctx W w ((RefO qb bs ++ (LedO qa (ledOf bs) ++ R)) ++ G) Ψ → Ctx W w ((LedO qa (ledOf bs) ++ (RefO qb bs ++ R)) ++ G) Ψ := fun hst cx => p3 (A := RefO qb bs) (B := LedO qa (ledOf bs)) (R := R) cx
  have toB : ∀ {w : World} {G : List Own} {Ψ : PW}, Stable Ψ → Ctx W w ((LedO qa (ledOf bs) ++ (RefO qb bs ++ R)) ++ G) Ψ → Ctx W w ((RefO qb bs ++ (LedO qa (ledOf bs) ++ R)) ++ G) Ψ := fun hst cx => p3 (A := LedO qa (ledOf bs)) (B := RefO qb bs) (R := R) cx
  obtain ⟨Φ0, hΦ0⟩ : ∃ Ψ : PW, (fun M w => (Φ M w ∧ LF qa (ledOf bs) M w) ∧ RF qb bs M w) = Ψ := ⟨_, rfl⟩
  have g1 : ∀ M w, Φ0 M w → Φ M w := fun M w h => by rw [← hΦ0] at h; exact h.1.1
  rw [hΦ0] at st1 hF1 hA1 hT1 ⊢
  have hR1 : Has Φ0 (fun M w => Sl M w r row) := ⟨fun M w h => hR.go M w (g1 M w h)⟩
  refine fun w G cx => Causes_to (R := RefO qb bs ++ R) (toA st1 cx) fun w G cx => (RCaused_q (k := 0) hqb).toI (R := LedO qa (ledOf bs) ++ R) (toB st1 cx) ?_
  clear cx
  refine Br.intro (fun h => absurd rfl (of_decide_eq_true h)) (fun _ => fun w G cx => (RCaused_q (k := 1) hqb).toI (R := LedO qa (ledOf bs) ++ R) cx ?_)
  clear cx
  refine Br.intro (fun h => absurd rfl (of_decide_eq_true h)) (fun _ => fun w G cx => (RCaused_q (k := 2) hqb).toI (R := LedO qa (ledOf bs) ++ R) cx ?_)
  clear cx
  refine Br.intro (fun h => absurd rfl (of_decide_eq_true h)) (fun _ => fun w G cx => (Lines_q hqa hs).src (R := RefO qb bs ++ R) (toA st1 cx) fun pa ca csA ea1 ea2 hta hca stA => ?_)
  clear cx
  have hF2 : Has (fun M w => Φ0 M w ∧ SrcF pa (ledOf bs).lines csA M w) (RF qb bs) := ⟨fun M w h => hF1.go M w h.1⟩
  refine fun w G cx => (RLinesL_q hqb).src (R := LedO qa (ledOf bs) ++ R) (toB stA cx) fun pb cb csB eb1 eb2 htb hcb stB => ?_
  clear cx
  have hsame := SameLines_in (Φ := fun M w => (Φ0 M w ∧ SrcF pa (ledOf bs).lines csA M w) ∧ SrcF pb (ledOf bs).lines csB M w) (cap := ca) (cap2 := cb) (src_fact hta fun M w h => h.1.2) (src_fact htb fun M w h => h.2) hca hcb (by omega) hs.rows
  rw [sameLs_refl] at hsame
  refine fun w G cx => hsame.toB cx ?_
  clear cx hsame
  refine Br.intro (fun h => by cases h) (fun _ => fun w G cx => (Bytes_q hqa hs hLI.v.bats).toS (Φ := Φ0) (R := RefO qb bs ++ R) (toA st1 (cx.weak fun M w h => h.1.1)) ?_)
  clear cx
  refine fun w G cx => (RBytes_q hqb hRI).toS (R := LedO qa (ledOf bs) ++ R) (toB st1 cx) ?_
  clear cx
  refine Br.intro (fun h => absurd rfl (of_decide_eq_true h)) (fun _ => fun w G cx => (RLinesL_q hqb).tot (R := LedO qa (ledOf bs) ++ R) cx fun p1 c1 _ _ _ st2 => ?_)
  clear cx
  refine fun w G cx => (Net41_sl (l := (ledOf bs).lines) (by omega) hs.rows).tot cx fun p2 c2 _ _ _ st3 => ?_
  clear cx
  have hA3 : Has (fun M w => (Φ0 M w ∧ Sl M w p1 (ledOf bs).lines) ∧ Sl M w p2 (netP (ledOf bs).lines)) (LF qa (ledOf bs)) := ⟨fun M w h => hA1.go M w h.1.1⟩
  refine fun w G cx => (Net_q hqa hs).tot (R := RefO qb bs ++ R) (toA st3 cx) fun p3 c3 _ _ _ st4 => ?_
  clear cx
  refine fun w G cx => (EqualH (a := netP (ledOf bs).lines) (b := netP (ledOf bs).lines) (p := p3) (cap := c3) (r := p2) (cap2 := c2) (by omega)).toB cx ?_
  clear cx
  rw [decide_eq_true rfl]
  refine Br.intro (fun h => by cases h) (fun _ => ?_)
  refine fun w G cx => (Upto_q (t := time) hqa hs).tot (R := RefO qb bs ++ R) cx fun p4 c4 _ _ _ st5 => ?_
  clear cx
  refine fun w G cx => (Upto28H (l := netP (ledOf bs).lines) (p := p2) (cap := c2) (t := time) (by omega) (net_rows hs.rows)).tot cx fun p5 c5 _ _ _ st6 => ?_
  clear cx
  have hul : (uptoP (netP (ledOf bs).lines) time).length ≤ 1000000 := Nat.le_trans (Nat.le_trans (consP_len _) (List.length_filter_le _ _)) (by omega)
  refine fun w G cx => (EqualH (a := uptoP (netP (ledOf bs).lines) time) (b := uptoP (netP (ledOf bs).lines) time) (p := p4) (cap := c4) (r := p5) (cap2 := c5) hul).toB cx ?_
  clear cx
  rw [decide_eq_true rfl]
  refine Br.intro (fun h => by cases h) (fun _ => ?_)
  refine fun w G cx => (At_q (no := no) hqa hs).tot (R := RefO qb bs ++ R) cx fun p6 c6 _ _ _ st7 => ?_
  clear cx
  have hasc : (bs.map RBat.no).Pairwise (· < ·) := by
    rw [← ledOf_nos]
    exact List.pairwise_map.2 hLI.w.asc
  have hat := (at_filter no bs hasc).1
  have hrows : ∀ x ∈ bs.flatMap RBat.l, x.row.length ≤ 1000000 := by rw [← ledOf_lines]; exact hs.rows
  have hAt := fun (Ψ : PW) (s : Stable Ψ) (x : Has Ψ (RF qb bs)) => RAt_q (Φ := Ψ) (no := no) hqb hrows
  rw [hat] at hAt
  refine fun w G cx => (hAt _ inferInstance inferInstance).tot (R := LedO qa (ledOf bs) ++ R) (toB inferInstance cx) fun p7 c7 _ _ _ st8 => ?_
  clear cx hAt
  have hal : (netP ((ledOf bs).lines.take (endP (ledOf bs).bats no 0))).length ≤ 1000000 := Nat.le_trans (net_len _) (by rw [List.length_take]; omega)
  refine fun w G cx => (EqualH (a := netP ((ledOf bs).lines.take (endP (ledOf bs).bats no 0))) (b := netP ((ledOf bs).lines.take (endP (ledOf bs).bats no 0))) (p := p6) (cap := c6) (r := p7) (cap2 := c7) hal).toB cx ?_
  clear cx
  rw [decide_eq_true rfl]
  refine Br.intro (fun h => by cases h) (fun _ => ?_)
  refine fun w G cx => Line_any (Φ := Φ0) (no := no) (R := RefO qb bs ++ R) hqa hs (toA st1 (cx.weak fun M w h => h.1.1.1.1.1.1.1)) fun x a ac kf hkf hkx hxr stL => ?_
  clear cx
  have hFL : Has (fun M w => Φ0 M w ∧ Sl M w a x.row) (RF qb bs) := ⟨fun M w h => hF1.go M w h.1⟩
  refine fun _ w G cx => (RLinesL_q hqb).src (R := LedO qa (ledOf bs) ++ R) (toB stL cx) fun pc cc csC ec1 ec2 htc hcc stC => ?_
  clear cx
  refine fun w G cx => ?_
  clear cx
  refine Br.intro (fun h => by rw [← hkf] at h; simp at h) (fun _ => ?_)
  refine exI_mk (fun R' Φ' => R' = RefO qb bs ++ (LedO qa (ledOf bs) ++ R) ∧ Φ' = Φ0) ⟨⟨_, _, stC, fun w G c => c, Br.intro (fun hk1 => ?_) (fun _ => ⟨_, _, st1, fun w G cx => cx.weak fun M w h => h.1.1, rfl, rfl⟩)⟩, ?_⟩
  · obtain ⟨j, hj, e1, e2⟩ := hkx hk1
    have src : Src [] (fun M w => (Φ0 M w ∧ Sl M w a x.row) ∧ SrcF pc (ledOf bs).lines csC M w) pc (ledOf bs).lines csC := src_fact htc fun M w h => h.2
    obtain ⟨b, o, hpp⟩ := src.ptr (by omega)
    obtain ⟨r2, rc2, he, q1, q2, q3⟩ := hcc j hj
    have hmx : (max (no - 1) 0).toNat = j := by omega
    have hrB : Has (fun M w => (Φ0 M w ∧ Sl M w a x.row) ∧ SrcF pc (ledOf bs).lines csC M w) (fun M w => Sl M w r2 (ledOf bs).lines[j].row) := ⟨fun M w h => src_sl src hj he h⟩
    have hrA : Has (fun M w => (Φ0 M w ∧ Sl M w a x.row) ∧ SrcF pc (ledOf bs).lines csC M w) (fun M w => Sl M w a x.row) := ⟨fun M w h => h.1.2⟩
    refine ⟨by unfold I64; omega, by omega, ptrK_intro b o hpp ⟨_, _, _, _, _, _, _, _, _, fun w G cx => ⟨_, _, _, _, _, _, _, _, _, by rw [hmx]; exact src_at (S := []) (G := (RefO qb bs ++ (LedO qa (ledOf bs) ++ R)) ++ G) src hpp cx he, rfl⟩, fun w G cx => ?_⟩⟩
    refine (SameLine_in (Φ := fun M w => (Φ0 M w ∧ Sl M w a x.row) ∧ SrcF pc (ledOf bs).lines csC M w) x (ledOf bs).lines[j] (by omega)).toB cx ?_
    clear cx
    rw [← e2, sameL_refl]
    exact Br.intro (fun h => by cases h) (fun _ => ⟨_, _, st1, fun w G cx => cx.weak fun M w h => h.1.1, rfl, rfl⟩)
  clear hcc htc stC stL hFL hkx hkf
  intro R3 Φ3 hst3 hR3
  obtain ⟨rfl, rfl⟩ := hR3
  have out : ∀ {w : World} {G : List Own} {Ψ : PW}, Stable Ψ → (∀ M w, Ψ M w → Φ M w) → Ctx W w ((RefO qb bs ++ (LedO qa (ledOf bs) ++ R)) ++ G) Ψ → Ctx W w R Φ := fun {w G Ψ} hst hw cx => ((Ctx.dropF (Q := LedO qa (ledOf bs)) (T := R) (G := G) (Ctx.dropF (Q := RefO qb bs) (T := LedO qa (ledOf bs) ++ R) (G := G) cx)).left).weak hw
  refine fun w G cx => Batch_any (no := no) (R := RefO qb bs ++ R) hqa hs hLI.v.bats (toA hst3 cx) fun L pL cL csL mkL f hf hnf hth hr7 hLl stD => ?_
  clear cx
  refine exI_mk (fun cf iI R' Φ' k => ∃ j : Nat, iI = j ∧ j ≤ bs.length ∧ cf = ((bs.take j).any fun b => decide (b.no = no)) ∧ R' = RefO qb bs ++ (LedO qa (ledOf bs) ++ R) ∧ Φ' = (fun M w => Φ3 M w ∧ SrcF pL L csL M w) ∧ k = bs.length - j) ⟨⟨_, _, _, stD, fun w G cx => toB stD cx, 0, rfl, Nat.zero_le _, rfl, rfl, rfl, rfl⟩, ?_⟩
  rintro cf iI R4 Φ4 k4 _ ⟨j, rfl, hj, rfl, rfl, rfl, rfl⟩
  refine ptrK_intro qb.rb 0 rfl fun w G cx => ⟨_, _, _, ref_cell cx, Br.intro (fun hlt => ?_) (fun hge => ?_)⟩
  · clear cx
    have hlt : j < bs.length := by have := of_decide_eq_true hlt; omega
    obtain ⟨gg, hg⟩ := hqb.ptr (by omega)
    obtain ⟨pj, cj, he, e1, e2, _⟩ := hqb.cells j hlt
    have hany : ((bs.take (j + 1)).any fun b => decide (b.no = no)) = (((bs.take j).any fun b => decide (b.no = no)) || decide (bs[j].no = no)) := by
      rw [List.take_succ_eq_append_getElem hlt, List.any_append]; simp
    refine ptrK_intro qb.rb 0 rfl fun w G cx => ⟨_, _, _, ref_cell cx, by omega, ptrK_intro gg 0 hg fun w G cx => ⟨bs[j].no, by rw [Int.toNat_natCast]; exact ref_row cx hg he 0 (by simp), Br.intro (fun h => ?_) (fun h => ?_)⟩⟩
    · clear cx
      have h := of_decide_eq_true h
      have hft : f = true := by
        cases f with
        | true => rfl
        | false =>
          have hb := ledOf_bat bs j hlt (by omega)
          exact absurd (hb.1.trans h) (hnf rfl _ (List.getElem_mem _))
      obtain ⟨j2, hj2, h2, hmk2, hL⟩ := hf hft
      have hb := ledOf_bat bs j hlt (by omega)
      have hjj : j2 = j := bat_one hLI.w hj2 (by omega) (by rw [h2, hb.1, h])
      subst hjj
      rw [seg_r hmk hlt hj2] at hL
      subst hL
      rw [hb.2.1] at hmk2
      refine ptrK_intro qb.rb 0 rfl fun w G cx => ⟨_, _, _, ref_cell cx, by omega, ptrK_intro gg 0 hg fun w G cx => ⟨pj, bs[j2].l.length, cj, by rw [Int.toNat_natCast]; exact ref_row cx hg he 2 (by simp), fun w G cx => ?_⟩⟩
      have hslj := ref_sl (hF1.go _ _ cx.phi.1) hlt he
      obtain ⟨cs2, cx2⟩ := srcOf cx hslj
      have hr2 := rows7 (cx2.phi.2).2
      have stj : Stable (fun M w => (Φ3 M w ∧ SrcF pL bs[j2].l csL M w) ∧ SrcF pj bs[j2].l cs2 M w) := @instStableAnd _ (fun M w => SrcF pj bs[j2].l cs2 M w) stD (instStableSrcF pj bs[j2].l cs2)
      refine (SameLines_in (Φ := fun M w => (Φ3 M w ∧ SrcF pL bs[j2].l csL M w) ∧ SrcF pj bs[j2].l cs2 M w) (cap := cL) (cap2 := cj) (src_fact hth fun M w h => h.1.2) (src_fact hslj.there fun M w h => h.2) hr7 hr2 (by omega) fun x hx => hrows x (List.mem_flatMap.2 ⟨_, List.getElem_mem hlt, hx⟩)).toB cx2 ?_
      clear cx cx2
      rw [sameLs_refl]
      refine Br.intro (fun h => by cases h) (fun _ => ?_)
      refine ptrK_intro qb.rb 0 rfl fun w G cx => ⟨_, _, _, ref_cell cx, by omega, ptrK_intro gg 0 hg fun w G cx => ⟨bs[j2].mark, by rw [Int.toNat_natCast]; exact ref_row cx hg he 1 (by simp), ?_⟩⟩
      clear cx
      exact Br.intro (fun h => absurd hmk2 (of_decide_eq_true h)) (fun _ => ⟨by unfold I64; omega, _, _, bs.length - (j2 + 1), stD, fun w G cx => cx.weak fun M w h => h.1, ⟨j2 + 1, by omega, hlt, by rw [hany, decide_eq_true h, Bool.or_true], rfl, rfl, rfl⟩, by omega⟩)
    · have h := of_decide_eq_false h
      exact ⟨by unfold I64; omega, _, _, bs.length - (j + 1), stD, fun w G cx => cx, ⟨j + 1, by omega, hlt, by rw [hany, decide_eq_false h, Bool.or_false], rfl, rfl, rfl⟩, by omega⟩
  clear cx
  have hge : j = bs.length := by have := of_decide_eq_false hge; omega
  subst hge
  rw [List.take_length]
  have hcf : (bs.any fun b => decide (b.no = no)) = f := by
    cases hfc : f with
    | true =>
      obtain ⟨j2, hj2, h2, _⟩ := hf hfc
      have hb := ledOf_bat bs j2 (by omega) hj2
      exact List.any_eq_true.2 ⟨bs[j2]'(by omega), List.getElem_mem _, decide_eq_true (hb.1.symm.trans h2)⟩
    | false =>
      refine List.any_eq_false.2 fun b hb => ?_
      obtain ⟨j2, hj2, rfl⟩ := List.getElem_of_mem hb
      have hb2 := ledOf_bat bs j2 hj2 (by omega)
      have := hnf hfc _ (List.getElem_mem (l := (ledOf bs).bats) (n := j2) (by omega))
      rw [hb2.1] at this
      simpa using this
  rw [hcf]
  refine Br.intro (fun h => by simp at h) (fun _ => ?_)
  have hRD : Has (fun M w => Φ3 M w ∧ SrcF pL L csL M w) (fun M w => Sl M w r row) := ⟨fun M w h => hR1.go M w h.1⟩
  refine fun w G cx => (RightRow3_in (Φ := fun M w => Φ3 M w ∧ SrcF pL L csL M w) r cap2 row hRD.go (by unfold maxLen at hrl; omega)).toB cx ?_
  clear cx
  refine Br.intro (fun _ => fun w G cx => ⟨rfl, out stD (fun M w h => g1 M w h.1) cx⟩) (fun _ => Br.intro (fun _ => ?_) (fun h => by cases h))
  refine fun w G cx => (Count_q (Φ := Φ3) (t := time) (p := r) (cap := cap2) hqa (by omega) fun v hv => by have := hrt v hv; omega).toI (R := RefO qb bs ++ R) (toA hst3 (cx.weak fun M w h => h.1)) ?_
  clear cx
  refine fun w G cx => (RCount_q (Φ := Φ3) (t := time) (r := r) (cap := cap2) hqb hRI hfit (by omega)).toI (R := LedO qa (ledOf bs) ++ R) (toB hst3 cx) ?_
  clear cx
  refine Br.intro (fun _ => ?_) (fun h => absurd rfl (of_decide_eq_false h))
  refine fun w G cx => (History_q (Φ := Φ3) (t := time) (r := r) (cap := cap2) hqa hs).src (R := RefO qb bs ++ R) (toA hst3 cx) fun ph ch csh eh1 eh2 hth2 hch stE => ?_
  clear cx
  have hFE : Has (fun M w => Φ3 M w ∧ SrcF ph (histP (ledOf bs).lines time row) csh M w) (RF qb bs) := ⟨fun M w h => hF1.go M w h.1⟩
  have hRE : Has (fun M w => Φ3 M w ∧ SrcF ph (histP (ledOf bs).lines time row) csh M w) (fun M w => Sl M w r row) := ⟨fun M w h => hR1.go M w h.1⟩
  refine fun w G cx => (RHistory_q (t := time) (r := r) (cap := cap2) hqb hrows).src (R := LedO qa (ledOf bs) ++ R) (toB stE cx) fun pi ci csi ei1 ei2 hti hci stF => ?_
  clear cx
  have hhl : (histP (ledOf bs).lines time row).length ≤ 150000 := Nat.le_trans (List.length_filter_le _ _) hsl
  have hsame := SameLines_in (Φ := fun M w => (Φ3 M w ∧ SrcF ph (histP (ledOf bs).lines time row) csh M w) ∧ SrcF pi (histP (ledOf bs).lines time row) csi M w) (cap := ch) (cap2 := ci) (src_fact hth2 fun M w h => h.1.2) (src_fact hti fun M w h => h.2) hch hci (by omega) fun x hx => hs.rows x (List.mem_filter.1 hx).1
  rw [sameLs_refl] at hsame
  exact fun w G cx => hsame.toB cx fun w G cx => ⟨rfl, out stF (fun M w h => g1 M w h.1.1) cx⟩

theorem Tells_in [Stable Φ] [hT : Has Φ TabI] {l : List PushD} [hL : Has Φ (fun M w => Sl M w p l)] (hlen : l.length ≤ maxLen) {row : List ValD} [hR : Has Φ (fun M w => Sl M w r row)] (hrl : row.length ≤ maxLen) (time no : Int) :
    GivesIn Φ Tryz.prog F.erratalaw41_LedgerTells #[.slice p l.length cap, .int .i64 time, .slice r row.length cap2, .int .i64 no] (.bool true) :=
  .pinned hL.go fun g o cs hp => Tells_pin (Φ := fun M w => Φ M w ∧ Pin g o cs l M w) hp (fun M w h => h.2) hlen hrl time no
end
end Go.Proofs.YtbkpfhhhbhaecaaGreatDoor
end

section
set_option linter.unusedVariables false
set_option linter.unusedSimpArgs false
namespace Go.Proofs.YtbkpfhhhbhaecaaGreatDoor
open Go.Vc Go.RowKit

theorem tab_drop {P : Program} {w : World} : ∀ (n : Nat) {l : List (String × DataW Unit)}, laidMet P l w → laidMet P (l.drop n) w
  | 0, l, h => by rw [List.drop_zero]; exact h
  | n + 1, [], h => h
  | n + 1, x :: l, h => by rw [List.drop_succ_cons]; exact tab_drop n h.tail
theorem la_tab {W : World} {l : List (String × DataW Unit)} (n : Nat) (h : laidMetH Tryz.prog l W) (hp : (l.all fun x => x.2.handleName?.isNone) = true) (hd : ∃ r, l.drop n = ("internal/strconv.uint64pow10", Lib.tabData .u64 Lib.pow10Tab) :: r) : TabI [] W := by
  rw [MakeChecks.laidMetH_plain Tryz.prog l W hp] at h
  obtain ⟨r, hr⟩ := hd
  have h2 := tab_drop n h
  rw [hr] at h2
  exact Tab.start (Lib.tabIs_of_head (k := .u64) (zs := Lib.pow10Tab) (g := 0) (t := 160) (e := 143) (n := 20) (by kernel_rfl) (by kernel_rfl) (by kernel_rfl) (by kernel_rfl) (by kernel_rfl) (by kernel_rfl) h2)

end Go.Proofs.YtbkpfhhhbhaecaaGreatDoor
end

section
set_option linter.unusedVariables false
set_option linter.unusedSimpArgs false
namespace Go.Proofs.YtbkpfhhhbhaecaaGreatDoor
open Go.ChangeShapes Go.WideShapes Go.ChangeAt Go.RowKit Go.Vc


theorem df_own : ownKnob Tryz.prog.godebug = none := by kernel_rfl
theorem df_laid : laidOutB Tryz.prog = true := by kernel_rfl

theorem trodAll_n {H : Type} {enc : TypeId × Value → H} {P : Program} {w : World} {base : Nat} {spare : Nat → Bool} {held : Bool} {t0 t1 t2 t3 : TypeId} {args : Array Value} {ds : List (DataW H)} {ps : List MemPlace} (h : DataW.TrodAll enc P w base spare held [t0, t1, t2, t3] args.toList ds ps) :
    ∃ v0 v1 v2 v3 d0 d1 d2 d3 p0 p1 p2 p3, args = #[v0, v1, v2, v3] ∧ ds = [d0, d1, d2, d3] ∧ ps = p0 ++ p1 ++ p2 ++ p3 ∧ DataW.Trod enc P w base spare held t0 v0 d0 p0 ∧ DataW.Trod enc P w base spare held t1 v1 d1 p1 ∧ DataW.Trod enc P w base spare held t2 v2 d2 p2 ∧ DataW.Trod enc P w base spare held t3 v3 d3 p3 := by
  obtain ⟨v0, vs0, d0, ds0, p0, q0, hargs, rfl, rfl, h0, h⟩ := trodAll_cons h
  obtain ⟨v1, vs1, d1, ds1, p1, q1, rfl, rfl, rfl, h1, h⟩ := trodAll_cons h
  obtain ⟨v2, vs2, d2, ds2, p2, q2, rfl, rfl, rfl, h2, h⟩ := trodAll_cons h
  obtain ⟨v3, vs3, d3, ds3, p3, q3, rfl, rfl, rfl, h3, h⟩ := trodAll_cons h
  obtain ⟨rfl, rfl, rfl⟩ := trodAll_nil h
  exact ⟨v0, v1, v2, v3, d0, d1, d2, d3, p0, p1, p2, p3, by cases args; simp_all, rfl, by simp, h0, h1, h2, h3⟩

theorem door_met (os : Os) (args : Array Value) : laidMetH Tryz.prog Rows.ledgerTellsRow.laid ((World.doorLaid Tryz.prog 400 os).forCall (fun _ _ => 0) ⟨#[], args, []⟩).memory :=
  laidMetH_of_parts3 (fuel := 8) (laidMet_of_run' 8 (by kernel_rfl) (by kernel_rfl)) (by kernel_rfl) (by kernel_rfl)

set_option maxRecDepth 100000 in
theorem law_lifted (os : Os) (started : os.Started) (H : Type) (enc : TypeId × Value → H) :
    ReturnsInHanded {} Tryz.checked os 3 .any (fun w args => (Rows.ledgerTellsSpec.pre enc Tryz.prog Tryz.f3 Rows.ledgerTellsRow.domain false w args ∧ laidMetH Tryz.prog Rows.ledgerTellsRow.laid w) ∧ sizedMet enc Tryz.prog Tryz.f3 (OpenSpec.ofChange Rows.ledgerTellsSpec) false w args) (Rows.ledgerTellsSpec.post enc Tryz.prog Tryz.f3 false true false false) := by
  refine lawTrueLaid (C := Tryz.checked) (tb := 4) df_own started (by kernel_rfl) Tryz.func3 df_laid rfl ?_ rfl Tryz.underlying4 (by kernel_rfl)
    (ChangeSpec.witness_shaped (enc := enc) (C := Tryz.checked) (os := os) (X := fun w _ => laidMetH Tryz.prog Rows.ledgerTellsRow.laid w) false (World.doorLaid Tryz.prog 400 os) #[.slice none 0 0, .int .i64 0, .slice none 0 0, .int .i64 0] 8 rfl (World.shaped_of_RefB (by kernel_rfl) (by kernel_rfl)) (by kernel_rfl) (by kernel_rfl) (by kernel_rfl) (door_met os _)) ?_
  · intro ds hd
    match ds, hd with
    | [_, _, _, _], _ => exact ⟨rfl, rfl, rfl⟩
  · intro W base args ds p hval0 hA0 _ hL
    have hval : ∀ (j : Nat) t v, Tryz.f3.params[j]? = some t → args[j]? = some v → Value.okWide Tryz.prog W .any base t v := hval0
    have hA : DataW.TrodAll enc Tryz.prog W 0 (fun _ => true) true Tryz.f3.params.toList args.toList ds p := hA0
    rw [Tryz.params3] at hA hval
    obtain ⟨v0, v1, v2, v3, d0, d1, d2, d3, p0, p1, p2, p3, rfl, rfl, rfl, h0, h1, h2, h3⟩ := trodAll_n hA
    obtain ⟨lp, lc, l, rfl, la, lb, s0⟩ := open_sl (α := PushD) 12 Tryz.underlying22 (hval 0 22 v0 rfl rfl) (by kernel_rfl) h0
    obtain ⟨time, rfl, rfl, rfl, timew⟩ := open_int Tryz.underlying3 (hval 1 3 v1 rfl rfl) h1
    obtain ⟨rowp, rowc, row, rfl, rowa, rowb, s2⟩ := open_sl (α := ValD) 12 Tryz.underlying23 (hval 2 23 v2 rfl rfl) (by kernel_rfl) h2
    obtain ⟨no, rfl, rfl, rfl, now⟩ := open_int Tryz.underlying3 (hval 3 3 v3 rfl rfl) h3
    have st0 : Stable (fun M w => Sl M w rowp row) := inferInstance
    have st1 : Stable (fun M w => Sl M w lp l ∧ Sl M w rowp row) := instStableAnd (fun M w => Sl M w lp l) (fun M w => Sl M w rowp row)
    have st2 : Stable (fun M w => TabI M w ∧ Sl M w lp l ∧ Sl M w rowp row) := instStableAnd (fun M w => TabI M w) (fun M w => Sl M w lp l ∧ Sl M w rowp row)
    have fin : GivesIn (fun M w => TabI M w ∧ Sl M w lp l ∧ Sl M w rowp row) Tryz.prog 3 _ (.bool true) := Tells_in (Φ := (fun M w => TabI M w ∧ Sl M w lp l ∧ Sl M w rowp row)) (p := lp) (cap := lc) (l := l) (r := rowp) (cap2 := rowc) (row := row) (hT := ⟨fun _ _ h => h.1⟩) (hL := ⟨fun _ _ h => h.2.1⟩) (by omega) (hR := ⟨fun _ _ h => h.2.2⟩) (by omega) time no
    exact fin.law ⟨la_tab 2 hL (by kernel_rfl) ⟨_, rfl⟩, s0, s2⟩

theorem row_holds : Rows.LedgerTellsSaid :=
  OpenClaim.holds_of_wide 3 Tryz.f3 rfl rfl rfl rfl rfl rfl rfl ⟨rfl, rfl, rfl, rfl, rfl⟩ rfl rfl rfl rfl rfl (by kernel_rfl) Tryz.func3 (by kernel_rfl)
    (of_decide_eq_true (by kernel_rfl)) (by unfold Func.isWrapper; first | (rw [if_pos (by decide +kernel)]; kernel_rfl) | (rw [if_neg (by decide +kernel)]; exact ⟨rfl, rfl⟩))
    (fun os started H enc _ => law_lifted os started H enc)

theorem tells_holds : Rows.LedgerTellsCardSaid :=
  Claim7.holds_tied_plain_at .later [] [.data, .data, .data] true Rows.ledgerTellsCard.stood.harness true
    row_holds (fun _ h => by cases h) (by kernel_rfl) (fun _ h => by cases h) ledgerTells_row_tie rfl ⟨rfl, rfl⟩ (by kernel_rfl) rfl
    (fun f fn hf hfn => by
      obtain rfl : f = 3 := Option.some.inj ((show Tryz.prog.funcNamed Rows.ledgerTellsRow.func = some 3 by kernel_rfl).symm.trans hf) |>.symm
      obtain rfl : fn = Tryz.f3 := (Option.some.inj (Tryz.func3.symm.trans hfn)).symm
      exact ⟨by kernel_rfl, fun j t ht => by
        rw [Tryz.params3] at ht
        have hm := Array.mem_of_getElem? ht
        have hall : ((Tryz.f3.params.toList).all fun u => !Tryz.prog.wantsStandIn u) = true := by kernel_rfl
        rw [Tryz.params3] at hall
        exact (show Tryz.prog.wantsStandIn t = false by simpa using List.all_eq_true.1 hall t (by simpa using hm))⟩)
    (by kernel_rfl)

end Go.Proofs.YtbkpfhhhbhaecaaGreatDoor
end

