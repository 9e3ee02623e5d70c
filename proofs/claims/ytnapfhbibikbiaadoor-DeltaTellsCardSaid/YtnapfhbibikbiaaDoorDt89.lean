/-
  For every input erratalaw28.DeltaTells returns true, does not panic, comes to an end, and leaves what came in as it was; the variables that its row lists are as the program's text lays them.
  Conditions: none beyond the given statement's own (DeltaTellsCardSaid).
-/
import Derived.Test.YtnapfhbibikbiaaDoorDt88
import Derived.Test.YtnapfhbibikbiaaDoorDt86
import Derived.Test.YtnapfhbibikbiaaDoorCards
import Derived.MakeChecks
import Derived.Stop.LaidErr
import Derived.Lib.LaidTab
import Derived.Test.YtnapfhbibikbiaaDoorTie
import Derived.SevenTiedAt
import Derived.LaidMore
import Derived.ChangeMaps5
import Derived.Test.YtnapfhbibikbiaaDoorRows

/-
  The reference's other functions on lists of deltas, walked.
-/
section
set_option linter.unusedVariables false
set_option linter.unusedSimpArgs false
namespace Go.Proofs.YtnapfhbibikbiaaDoor
open Go.Vc


theorem Con28_pin {Φ : PW} [Stable Φ] (p : Option Addr) (cap : Nat) (l : List DeltaD) (b o : Nat) (cs : List (List Value)) (hp : 0 < l.length → p = some ⟨b, o, none⟩) (hΦ : ∀ M w, Φ M w → Pin b o cs l M w) (hlen : l.length ≤ 9223372036854775807) :
    GivesIn Φ Tryd.prog F.errataref28_Consolidated #[.slice p l.length cap] (.bool (consolidated l)) := by
  refine in_cells hΦ fun hcs => ?_
  refine gives_in (Berrataref28_Consolidated_run p l.length cap) fun W R => ?_
  refine exI_mk (fun n R' Φ' k => ∃ i : Nat, n = i ∧ i ≤ l.length ∧ R' = R ∧ Φ' = Φ ∧ k = l.length - i ∧ ∀ j, j < i → consAt l j = true) ⟨⟨R, Φ, _, inferInstance, fun w F c => c, 0, rfl, Nat.zero_le _, rfl, rfl, rfl, fun j hj => by omega⟩, ?_⟩
  rintro n R1 Φ1 k _ ⟨i, rfl, hi, rfl, rfl, rfl, hok⟩
  refine Br.intro (fun hlt => ?_) (fun hge => fun w F cx => ⟨?_, cx.left⟩)
  · have hlt : i < l.length := by simpa using hlt
    have hp := hp (by omega)
    obtain ⟨q, qc, he, hq1, hq2, _, _⟩ := hcs i hlt
    have row : ∀ {w : World} {S : List Own}, Ctx W w S Φ1 → RowAt w b (o + (i : Int).toNat * 3) (l[i].cells q qc) := fun cx => by rw [Int.toNat_natCast]; exact pin_rowAt (hΦ _ _ cx.phi) hlt he
    refine ⟨R1, Φ1, inferInstance, fun w G cx => cx, by omega, ptrK_intro b o hp ⟨l[i].n, fun w G cx => ⟨l[i].n, ?_, rfl⟩, Br.intro (fun h0 => fun w F cx => ⟨?_, cx.left⟩) (fun h0 => Br.intro (fun h1 => ?_) (fun h1 => ?_))⟩⟩
    · have := row cx 2 (by simp)
      simpa using this
    · have h0 : l[i].n = 0 := by simpa using h0
      rw [consolidated_false hlt]
      unfold consAt
      rw [List.getElem?_eq_getElem hlt]
      simp [h0]
    · have h0 : ¬ l[i].n = 0 := by simpa using h0
      have h1 : 0 < i := by simpa using h1
      obtain ⟨j, rfl⟩ : ∃ j, i = j + 1 := ⟨i - 1, by omega⟩
      obtain ⟨q', qc', he', hq1', hq2', _, _⟩ := hcs j (by omega)
      have hc : consAt l (j + 1) = decide (cmpD l[j] l[j + 1] < 0) := by
        unfold consAt
        simp only
        rw [List.getElem?_eq_getElem hlt, List.getElem?_eq_getElem (show j < l.length by omega)]
        simp [h0]
      refine ⟨by unfold I64; omega, by omega, ptrK_intro b o hp ⟨_, _, _, _, _, fun w G cx => ⟨_, _, _, _, _, row cx, rfl⟩, by omega, ptrK_intro b o hp ⟨l[j].time, q', l[j].row.length, qc', l[j].n, fun w G cx => ⟨_, _, _, _, _, ?_, rfl⟩, fun w G cx => (rCompareD_in l[j] l[j + 1] q' q qc' qc (fun M w h => pin_row (hΦ M w h) _ he') (fun M w h => pin_row (hΦ M w h) _ he) (len_max hq1' hq2')).toI cx ?_⟩⟩⟩
      · have := pin_rowAt (hΦ _ _ cx.phi) (show j < l.length by omega) he'
        rw [show (max (((j + 1 : Nat) : Int) - 1) 0).toNat = j by omega]
        exact this
      · refine Br.intro (fun h2 => fun w F cx => ⟨?_, cx.left⟩) (fun h2 => ⟨by unfold I64; omega, R1, Φ1, l.length - (j + 1 + 1), inferInstance, fun w F c => c, ⟨j + 1 + 1, rfl, hlt, rfl, rfl, rfl, fun i hi => ?_⟩, by omega⟩)
        · have h2 : 0 ≤ cmpD l[j] l[j + 1] := by simpa using h2
          rw [consolidated_false hlt]
          rw [hc, decide_eq_false (by omega)]
        · have h2 : ¬ 0 ≤ cmpD l[j] l[j + 1] := by simpa using h2
          rcases Nat.lt_or_ge i (j + 1) with h | h
          · exact hok i h
          · rw [show i = j + 1 by omega, hc, decide_eq_true (by omega)]
    · have h0 : ¬ l[i].n = 0 := by simpa using h0
      have h1 : i = 0 := by simpa using h1
      subst h1
      refine ⟨by unfold I64; omega, R1, Φ1, l.length - 1, inferInstance, fun w F c => c, ⟨1, rfl, hlt, rfl, rfl, rfl, fun i hi => ?_⟩, by omega⟩
      rw [show i = 0 by omega]
      unfold consAt
      simp only
      rw [List.getElem?_eq_getElem hlt]
      simp [h0]
  · have hge : i = l.length := Nat.le_antisymm hi (by simpa using hge)
    rw [consolidated_true (hge ▸ hok)]

section
variable {Φ : PW} {p q : Option Addr} {cap cap2 : Nat} {a b l : List DeltaD} {t : Int}

theorem Con28H [Stable Φ] [hΦ : Has Φ (fun M w => Sl M w p l)] (hlen : l.length ≤ 1000000) : GivesIn Φ Tryd.prog F.errataref28_Consolidated #[.slice p l.length cap] (.bool (consolidated l)) :=
  .pinned hΦ.go fun b o cs hp => Con28_pin (Φ := fun M w => Φ M w ∧ Pin b o cs l M w) p cap l b o cs hp (fun _ _ h => h.2) (by omega)
theorem Cons28H [Stable Φ] [hΦ : Has Φ (fun M w => Sl M w p l)] (hc1 : l.length ≤ cap) (hc2 : cap ≤ maxLen) (hlen : l.length ≤ 1000000) (hrow : Rows1 l) : GivesSl Φ Tryd.prog F.errataref28_Consolidate #[.slice p l.length cap] (consP l) id :=
  Cons28_sl p cap l hΦ.go hc1 hc2 hlen hrow

theorem Same28H [Stable Φ] [hΦ : Has Φ (fun M w => Sl M w p a)] [hΨ : Has Φ (fun M w => Sl M w q b)] (h1 : a.length ≤ cap) (h2 : cap ≤ maxLen) (h3 : b.length ≤ cap2) (h4 : cap2 ≤ maxLen) (ha : a.length ≤ 1000000) (hb : b.length ≤ 1000000) (hra : Rows1 a) (hrb : Rows1 b) :
    GivesIn Φ Tryd.prog F.errataref28_Same #[.slice p a.length cap, .slice q b.length cap2] (.bool (decide (consP a = consP b))) := by
  refine gives_in (Berrataref28_Same_run p a.length cap q b.length cap2) fun W R => ?_
  have hl := consP_len a
  refine fun w G cx => (Cons28H h1 h2 ha hra).to cx fun p1 c1 e1 e2 st1 => fun w G cx => (Cons28H (l := b) (p := q) h3 h4 hb hrb).to cx fun p2 c2 e3 e4 st2 => fun w G cx => ?_
  exact (Equal_in p1 c1 (consP a) p2 c2 (consP b) (fun M w h => h.1.2) (fun M w h => h.2) (by omega)).toB cx fun w G cx => ⟨rfl, cx.left.weak fun M w h => h.1.1⟩

theorem Mul28H [Stable Φ] [hΦ : Has Φ (fun M w => Sl M w p l)] (hc1 : l.length ≤ cap) (hc2 : cap ≤ maxLen) (hlen : l.length ≤ 1000000) (hrow : Rows1 l) : GivesIn Φ Tryd.prog F.errataref28_Multiset #[.slice p l.length cap] (.bool (multiP l)) := by
  refine gives_in (Berrataref28_Multiset_run p l.length cap) fun W R => ?_
  refine fun w G cx => (Cons28H hc1 hc2 hlen hrow).use cx fun p1 c1 w e1 e2 cx => ?_
  have hl := consP_len l
  unfold multiP
  obtain ⟨c, hc⟩ : ∃ c, consP l = c := ⟨_, rfl⟩
  rw [hc] at cx e1 hl ⊢
  obtain ⟨g, o, cs, hp, cx⟩ := cx.pin cx.phi.2
  have hcs := Ctx.cells cx (fun M w h => h.2)
  refine ⟨p1, _, c1, rfl, R, fun M w => (Φ M w ∧ Sl M w p1 c) ∧ Pin g o cs c M w, inferInstance, cx, ?_⟩
  clear cx
  refine exI_mk (fun n R' Φ' k => ∃ i : Nat, n = i ∧ i ≤ c.length ∧ R' = R ∧ Φ' = (fun M w => (Φ M w ∧ Sl M w p1 c) ∧ Pin g o cs c M w) ∧ k = c.length - i ∧ (c.any fun x => decide (x.n < 0)) = (c.drop i).any fun x => decide (x.n < 0)) ⟨⟨R, _, _, inferInstance, fun w F c => c, 0, rfl, Nat.zero_le _, rfl, rfl, rfl, rfl⟩, ?_⟩
  rintro n R1 Φ1 k hst ⟨i, rfl, hi, rfl, rfl, rfl, hs⟩
  refine Br.intro (fun hlt => ?_) (fun hge => fun w G cx => ⟨?_, cx.left.weak fun M w h => h.1.1⟩)
  · have hlt : i < c.length := by have := of_decide_eq_true hlt; omega
    obtain ⟨r, rc, he, _⟩ := hcs i hlt
    rw [List.drop_eq_getElem_cons hlt, List.any_cons] at hs
    refine ⟨by omega, ptrK_intro g o (hp (by omega)) fun w G cx => ⟨c[i].n, ?_, Br.intro (fun h => fun w G cx => ⟨?_, cx.left.weak fun M w h => h.1.1⟩) (fun h => ⟨by unfold I64; omega, R1, _, c.length - (i + 1), hst, fun w G cx => cx, ⟨i + 1, rfl, hlt, rfl, rfl, rfl, ?_⟩, by omega⟩)⟩⟩
    · have := pin_rowAt cx.phi.2 hlt he 2 (by simp)
      rw [Int.toNat_natCast]; simpa using this
    · rw [hs, h]; rfl
    · rw [hs, h]; rfl
  · have hge : i = c.length := by have := of_decide_eq_false hge; omega
    rw [hs, hge, List.drop_length]
    rfl

theorem Cnt28H [Stable Φ] [hΦ : Has Φ (fun M w => Sl M w p l)] (hlen : l.length ≤ 1000000) : GivesIn Φ Tryd.prog F.errataref28_Count #[.slice p l.length cap] (.int .i64 (countP l)) := by
  refine .pinned hΦ.go fun g o cs hp => ?_
  refine in_cells (Φ := fun M w => Φ M w ∧ Pin g o cs l M w) (fun M w h => h.2) fun hcs => ?_
  refine gives_in (Berrataref28_Count_run p l.length cap) fun W R => ?_
  refine exI_mk (fun n iI R' Φ' k => ∃ i : Nat, iI = i ∧ i ≤ l.length ∧ n = countP (l.take i) ∧ R' = R ∧ Φ' = (fun M w => Φ M w ∧ Pin g o cs l M w) ∧ k = l.length - i) ⟨⟨R, _, _, inferInstance, fun w F c => c, 0, rfl, Nat.zero_le _, rfl, rfl, rfl, rfl⟩, ?_⟩
  rintro n iI R1 Φ1 k hst ⟨i, rfl, hi, rfl, rfl, rfl, rfl⟩
  refine Br.intro (fun hlt => ?_) (fun hge => fun w F cx => ⟨?_, cx.left⟩)
  · have hlt : i < l.length := by have := of_decide_eq_true hlt; omega
    obtain ⟨r, rc, he, _⟩ := hcs i hlt
    refine ⟨by omega, ptrK_intro g o (hp (by omega)) fun w G cx => ⟨l[i].n, ?_, by unfold I64; omega, R1, _, l.length - (i + 1), hst, fun w F c => c, ⟨i + 1, rfl, hlt, ?_, rfl, rfl, rfl⟩, by omega⟩⟩
    · have := pin_rowAt cx.phi.2 hlt he 2 (by simp)
      rw [Int.toNat_natCast]; simpa using this
    · unfold countP
      rw [List.take_succ_eq_append_getElem hlt, sumN_app]
      simp only [sumN, Int.add_zero]
      exact w64_l _ _
  · have hge : i = l.length := by have := of_decide_eq_false hge; omega
    rw [hge, List.take_length]

theorem Find28H [Stable Φ] {row : List ValD} {r : Option Addr} {rc : Nat} [hΦ : Has Φ (fun M w => Sl M w p l)] [hΨ : Has Φ (fun M w => Sl M w r row)] (hlen : l.length ≤ 1000000) : GivesIn Φ Tryd.prog F.errataref28_Find #[.slice p l.length cap, .int .i64 t, .slice r row.length rc] (.int .i64 (findP l (t, row))) := by
  refine .pinned hΦ.go fun g o cs hp => ?_
  refine in_cells (Φ := fun M w => Φ M w ∧ Pin g o cs l M w) (fun M w h => h.2) fun hcs => ?_
  refine gives_in (Berrataref28_Find_run p l.length cap t r row.length rc) fun W R => ?_
  refine exI_mk (fun n iI R' Φ' k => ∃ i : Nat, iI = i ∧ i ≤ l.length ∧ n = findP (l.take i) (t, row) ∧ R' = R ∧ Φ' = (fun M w => Φ M w ∧ Pin g o cs l M w) ∧ k = l.length - i) ⟨⟨R, _, _, inferInstance, fun w F c => c, 0, rfl, Nat.zero_le _, rfl, rfl, rfl, rfl⟩, ?_⟩
  rintro n iI R1 Φ1 k hst ⟨i, rfl, hi, rfl, rfl, rfl, rfl⟩
  refine Br.intro (fun hlt => ?_) (fun hge => fun w F cx => ⟨?_, cx.left⟩)
  · have hlt : i < l.length := by have := of_decide_eq_true hlt; omega
    obtain ⟨q2, qc, he, f1, f2, _, _⟩ := hcs i hlt
    have hcall := rCompareD_in (Φ := fun M w => Φ M w ∧ Pin g o cs l M w) l[i] ⟨t, row, 0⟩ q2 r qc rc (fun M w h => pin_row h.2 hlt he) (fun M w h => hΨ.go M w h.1) (len_max f1 f2)
    refine ⟨by omega, ptrK_intro g o (hp (by omega)) fun w G cx => ⟨_, _, _, _, _, by rw [Int.toNat_natCast]; exact pin_rowAt cx.phi.2 hlt he, fun w G cx => hcall.toI cx (Br.intro (fun h => ⟨by omega, ptrK_intro g o (hp (by omega)) fun w G cx => ⟨l[i].n, ?_, by unfold I64; omega, R1, _, l.length - (i + 1), hst, fun w F c => c, ⟨i + 1, rfl, hlt, ?_, rfl, rfl, rfl⟩, by omega⟩⟩) (fun h => ⟨by unfold I64; omega, R1, _, l.length - (i + 1), hst, fun w F c => c, ⟨i + 1, rfl, hlt, ?_, rfl, rfl, rfl⟩, by omega⟩))⟩⟩
    · have := pin_rowAt cx.phi.2 hlt he 2 (by simp)
      rw [Int.toNat_natCast]; simpa using this
    · have h := of_decide_eq_true h
      rw [cmpD_key] at h
      have hk : l[i].key = (t, row) := (cmpK_cmp.eq _ _).1 h
      unfold findP
      rw [sumK_step hlt, if_pos hk]
      exact w64_l _ _
    · have h := of_decide_eq_false h
      rw [cmpD_key] at h
      have hk : ¬ l[i].key = (t, row) := fun e => h ((cmpK_cmp.eq _ _).2 e)
      unfold findP
      rw [sumK_step hlt, if_neg hk, Int.add_zero]
  · have hge : i = l.length := by have := of_decide_eq_false hge; omega
    rw [hge, List.take_length]

theorem filter_step {q : DeltaD → Bool} {i : Nat} (h : i < l.length) : (l.take (i + 1)).filter q = (l.take i).filter q ++ (if q l[i] = true then [l[i]] else []) := by
  rw [List.take_succ_eq_append_getElem h, List.filter_append]
  congr 1
  by_cases hq : q l[i] = true
  · simp [hq]
  · simp [hq]
theorem filter_take {q : DeltaD → Bool} {i : Nat} : ((l.take i).filter q).length ≤ i := by
  have := List.length_filter_le q (l.take i)
  rw [List.length_take] at this
  omega

theorem Upto28H [Stable Φ] [hΦ : Has Φ (fun M w => Sl M w p l)] (hlen : l.length ≤ 1000000) (hrow : Rows1 l) : GivesSl Φ Tryd.prog F.errataref28_Upto #[.slice p l.length cap, .int .i64 t] (uptoP l t) id := by
  refine ⟨fun W0 w0 S0 c0 => ?_⟩
  obtain ⟨g, o, cs, hp, c1⟩ := c0.pin (hΦ.go _ _ c0.phi)
  have hcs := Ctx.cells c1 (fun M w h => h.2)
  refine (GivesSl.go (gives_sl (Φ := fun M w => Φ M w ∧ Pin g o cs l M w) (l := uptoP l t) (mk := id) (Berrataref28_Upto_run p l.length cap t) fun W R => ?_) W0 w0 S0 c1).mono fun e w' ⟨p, c, h1, h2, h3, h4⟩ => ⟨p, c, h1, h2, h3, h4.weak fun M w h => ⟨h.1.1, h.2⟩⟩
  clear c0 c1
  obtain ⟨f, hf⟩ : ∃ f : DeltaD → Bool, f = fun x : DeltaD => decide (x.time ≤ t) := ⟨_, rfl⟩
  have hu : uptoP l t = consP (l.filter f) := by rw [hf]; rfl
  rw [hu]
  refine exI_mk (fun op on oc iI R' Φ' m => ∃ (i : Nat) (ds : List Value), iI = i ∧ i ≤ l.length ∧ on = ((l.take i).filter f).length ∧ R' = .buf op on oc ds 39 3 :: R ∧ Φ' = (fun M w => (Φ M w ∧ Pin g o cs l M w) ∧ Elems M w ds ((l.take i).filter f)) ∧ m = l.length - i)
    ⟨⟨.buf none 0 0 [] 39 3 :: R, fun M w => (Φ M w ∧ Pin g o cs l M w) ∧ Elems M w [] ([] : List DeltaD), _, inferInstance, fun w G cx => (cx.nobuf 39 3).weak fun M w h => ⟨h, Elems.nil⟩, 0, [], rfl, Nat.zero_le _, rfl, rfl, rfl, rfl⟩, ?_⟩
  rintro op on oc iI R1 Φ1 m hst ⟨i, ds, rfl, hi, rfl, rfl, rfl, rfl⟩
  refine Br.intro (fun hlt => ?_) (fun hge => fun w G cx => ?_)
  · have hlt : i < l.length := by have := of_decide_eq_true hlt; omega
    obtain ⟨q2, qc, he, f1, f2, f3, f4⟩ := hcs i hlt
    have hfl := filter_take (l := l) (q := f) (i := i)
    have row : ∀ {w : World} {S : List Own}, Ctx W w S (fun M w => (Φ M w ∧ Pin g o cs l M w) ∧ Elems M w ds ((l.take i).filter f)) → RowAt w g (o + (i : Int).toNat * 3) (l[i].cells q2 qc) := fun cx => by rw [Int.toNat_natCast]; exact pin_rowAt cx.phi.1.2 hlt he
    refine ⟨by omega, ptrK_intro g o (hp (by omega)) fun w G cx => ⟨l[i].time, by have := row cx 0 (by simp); simpa using this, Br.intro (fun h => ⟨by omega, ptrK_intro g o (hp (by omega)) fun w G cx => ⟨_, _, _, _, _, row cx, fun kb w G cx => ?_⟩⟩) (fun h => ⟨by unfold I64; omega, _, _, l.length - (i + 1), hst, fun w G cx => cx, ⟨i + 1, ds, rfl, hlt, ?_, rfl, ?_, rfl⟩, by omega⟩)⟩⟩
    · have e : (l.take (i + 1)).filter f = (l.take i).filter f ++ [l[i]] := by rw [filter_step hlt, if_pos (by rw [hf]; exact h)]
      obtain ⟨p', c', w', hrun, cx'⟩ := push1 (x := l[i]) (q := q2) (qc := qc) (PS := fun M w => Φ M w ∧ Pin g o cs l M w) (fun M w h => rep_delta f1 f2 f3 f4 (pin_row h.2 hlt he)) (by omega) cx
      rw [← e] at hrun cx'
      exact ⟨p', _, c', w', hrun, _, _, inferInstance, cx', by unfold I64; omega, _, _, l.length - (i + 1), inferInstance, fun w G cx => cx, ⟨i + 1, _, rfl, hlt, rfl, rfl, rfl, rfl⟩, by omega⟩
    all_goals
      have e : (l.take (i + 1)).filter f = (l.take i).filter f := by rw [filter_step hlt, if_neg (by rw [hf]; simpa using h), List.append_nil]
      rw [e]
  · have hge : i = l.length := by have := of_decide_eq_false hge; omega
    subst hge
    rw [List.take_length] at cx ⊢
    obtain ⟨cx3, hs, _, g5, g6⟩ := Ctx.freeze (α := DeltaD) cx.fst cx.phi.2
    have hfl := List.length_filter_le f l
    refine (Cons28_sl (Φ := fun M w => (Φ M w ∧ Pin g o cs l M w) ∧ Sl M w op (l.filter f)) op oc (l.filter f) (fun M w h => h.2) g5 g6 (by omega) (fun x hx => hrow x (List.mem_filter.1 hx).1)).to (cx3.add hs) fun p2 c2 e1 e2 st => fun w G cx => ⟨p2, c2, rfl, e1, e2, cx.left.weak fun M w h => ⟨h.1.1, h.2⟩⟩

theorem After28H [Stable Φ] [hΦ : Has Φ (fun M w => Sl M w p l)] (hlen : l.length ≤ 1000000) (hrow : Rows1 l) : GivesSl Φ Tryd.prog F.errataref28_After #[.slice p l.length cap, .int .i64 t] (afterP l t) id := by
  refine ⟨fun W0 w0 S0 c0 => ?_⟩
  obtain ⟨g, o, cs, hp, c1⟩ := c0.pin (hΦ.go _ _ c0.phi)
  have hcs := Ctx.cells c1 (fun M w h => h.2)
  refine (GivesSl.go (gives_sl (Φ := fun M w => Φ M w ∧ Pin g o cs l M w) (l := afterP l t) (mk := id) (Berrataref28_After_run p l.length cap t) fun W R => ?_) W0 w0 S0 c1).mono fun e w' ⟨p, c, h1, h2, h3, h4⟩ => ⟨p, c, h1, h2, h3, h4.weak fun M w h => ⟨h.1.1, h.2⟩⟩
  clear c0 c1
  obtain ⟨f, hf⟩ : ∃ f : DeltaD → Bool, f = fun x : DeltaD => decide (t < x.time) := ⟨_, rfl⟩
  have hu : afterP l t = consP (l.filter f) := by rw [hf]; rfl
  rw [hu]
  refine exI_mk (fun op on oc iI R' Φ' m => ∃ (i : Nat) (ds : List Value), iI = i ∧ i ≤ l.length ∧ on = ((l.take i).filter f).length ∧ R' = .buf op on oc ds 39 3 :: R ∧ Φ' = (fun M w => (Φ M w ∧ Pin g o cs l M w) ∧ Elems M w ds ((l.take i).filter f)) ∧ m = l.length - i)
    ⟨⟨.buf none 0 0 [] 39 3 :: R, fun M w => (Φ M w ∧ Pin g o cs l M w) ∧ Elems M w [] ([] : List DeltaD), _, inferInstance, fun w G cx => (cx.nobuf 39 3).weak fun M w h => ⟨h, Elems.nil⟩, 0, [], rfl, Nat.zero_le _, rfl, rfl, rfl, rfl⟩, ?_⟩
  rintro op on oc iI R1 Φ1 m hst ⟨i, ds, rfl, hi, rfl, rfl, rfl, rfl⟩
  refine Br.intro (fun hlt => ?_) (fun hge => fun w G cx => ?_)
  · have hlt : i < l.length := by have := of_decide_eq_true hlt; omega
    obtain ⟨q2, qc, he, f1, f2, f3, f4⟩ := hcs i hlt
    have hfl := filter_take (l := l) (q := f) (i := i)
    have row : ∀ {w : World} {S : List Own}, Ctx W w S (fun M w => (Φ M w ∧ Pin g o cs l M w) ∧ Elems M w ds ((l.take i).filter f)) → RowAt w g (o + (i : Int).toNat * 3) (l[i].cells q2 qc) := fun cx => by rw [Int.toNat_natCast]; exact pin_rowAt cx.phi.1.2 hlt he
    refine ⟨by omega, ptrK_intro g o (hp (by omega)) fun w G cx => ⟨l[i].time, by have := row cx 0 (by simp); simpa using this, Br.intro (fun h => ⟨by omega, ptrK_intro g o (hp (by omega)) fun w G cx => ⟨_, _, _, _, _, row cx, fun kb w G cx => ?_⟩⟩) (fun h => ⟨by unfold I64; omega, _, _, l.length - (i + 1), hst, fun w G cx => cx, ⟨i + 1, ds, rfl, hlt, ?_, rfl, ?_, rfl⟩, by omega⟩)⟩⟩
    · have e : (l.take (i + 1)).filter f = (l.take i).filter f ++ [l[i]] := by rw [filter_step hlt, if_pos (by rw [hf]; exact h)]
      obtain ⟨p', c', w', hrun, cx'⟩ := push1 (x := l[i]) (q := q2) (qc := qc) (PS := fun M w => Φ M w ∧ Pin g o cs l M w) (fun M w h => rep_delta f1 f2 f3 f4 (pin_row h.2 hlt he)) (by omega) cx
      rw [← e] at hrun cx'
      exact ⟨p', _, c', w', hrun, _, _, inferInstance, cx', by unfold I64; omega, _, _, l.length - (i + 1), inferInstance, fun w G cx => cx, ⟨i + 1, _, rfl, hlt, rfl, rfl, rfl, rfl⟩, by omega⟩
    all_goals
      have e : (l.take (i + 1)).filter f = (l.take i).filter f := by rw [filter_step hlt, if_neg (by rw [hf]; simpa using h), List.append_nil]
      rw [e]
  · have hge : i = l.length := by have := of_decide_eq_false hge; omega
    subst hge
    rw [List.take_length] at cx ⊢
    obtain ⟨cx3, hs, _, g5, g6⟩ := Ctx.freeze (α := DeltaD) cx.fst cx.phi.2
    have hfl := List.length_filter_le f l
    refine (Cons28_sl (Φ := fun M w => (Φ M w ∧ Pin g o cs l M w) ∧ Sl M w op (l.filter f)) op oc (l.filter f) (fun M w h => h.2) g5 g6 (by omega) (fun x hx => hrow x (List.mem_filter.1 hx).1)).to (cx3.add hs) fun p2 c2 e1 e2 st => fun w G cx => ⟨p2, c2, rfl, e1, e2, cx.left.weak fun M w h => ⟨h.1.1, h.2⟩⟩

theorem Add28H [Stable Φ] [hΦ : Has Φ (fun M w => Sl M w p a)] [hΨ : Has Φ (fun M w => Sl M w q b)] (ha : a.length ≤ 400000) (hb : b.length ≤ 400000) (hra : Rows1 a) (hrb : Rows1 b) : GivesSl Φ Tryd.prog F.errataref28_Add #[.slice p a.length cap, .slice q b.length cap2] (addP a b) id := by
  refine gives_sl (Berrataref28_Add_run p a.length cap q b.length cap2) fun W R => ?_
  intro k w G cx
  obtain ⟨p', cap', w', cs, hrun, c'⟩ := Ctx.cloned (P := Tryd.prog) (ts := 22) (ty := 22) (kb := #[false, false]) (bytes := 40) (c2 := cap) cx (by kernel_rfl) delta_one hΦ.go (by omega) (by omega)
  refine ⟨_, _, _, _, hrun, .buf p' a.length cap' cs 39 3 :: R, _, inferInstance, c', fun w G cx => ?_⟩
  obtain ⟨p2, cap3, w2, news, hrun2, c2⟩ := Ctx.appAny (P := Tryd.prog) (ts := 22) (ty := 22) (kb := #[false, false]) (bytes := 40) (c2 := cap2) (l := b) (q := q) cx (by kernel_rfl) delta_one (fun M w h => hΨ.go M w h.1) (by omega) (by omega)
  have e : a.length + b.length = (a ++ b).length := by rw [List.length_append]
  rw [e] at hrun2 c2
  have c3 : Ctx W w2 (.buf p2 (a ++ b).length cap3 (cs ++ news) 39 3 :: (R ++ G)) (fun M w => Φ M w ∧ Elems M w (cs ++ news) (a ++ b)) := c2.weak fun M w h => ⟨h.1.1, h.1.2.append h.2⟩
  obtain ⟨cx3, hs, _, g5, g6⟩ := Ctx.freeze (α := DeltaD) c3.fst c3.phi.2
  refine ⟨_, _, _, _, hrun2, R, fun M w => Φ M w ∧ Sl M w p2 (a ++ b), inferInstance, cx3.add hs, fun w G cx => (Cons28H (l := a ++ b) g5 g6 (by rw [← e]; omega) (fun x hx => ?_)).to cx fun p4 c4 e1 e2 st => fun w G cx => ⟨p4, c4, rfl, e1, e2, cx.left.weak fun M w h => ⟨h.1.1, h.2⟩⟩⟩
  rcases List.mem_append.1 hx with hx | hx
  · exact hra x hx
  · exact hrb x hx

theorem Sub28H [Stable Φ] [hΦ : Has Φ (fun M w => Sl M w p a)] [hΨ : Has Φ (fun M w => Sl M w q b)] (ha : a.length ≤ 400000) (hb : b.length ≤ 400000) (hra : Rows1 a) (hrb : Rows1 b) : GivesSl Φ Tryd.prog F.errataref28_Sub #[.slice p a.length cap, .slice q b.length cap2] (subP a b) id := by
  refine ⟨fun W0 w0 S0 c0 => ?_⟩
  obtain ⟨g, o, cb, hp, c1⟩ := c0.pin (hΨ.go _ _ c0.phi)
  have hcs := Ctx.cells c1 (fun M w h => h.2)
  refine (GivesSl.go (gives_sl (Φ := fun M w => Φ M w ∧ Pin g o cb b M w) (l := subP a b) (mk := id) (Berrataref28_Sub_run p a.length cap q b.length cap2) fun W R => ?_) W0 w0 S0 c1).mono fun e w' ⟨p, c, h1, h2, h3, h4⟩ => ⟨p, c, h1, h2, h3, h4.weak fun M w h => ⟨h.1.1, h.2⟩⟩
  clear c0 c1
  intro k w G cx
  obtain ⟨p', cap', w', cs, hrun, c'⟩ := Ctx.cloned (P := Tryd.prog) (ts := 22) (ty := 22) (kb := #[false, false]) (bytes := 40) (c2 := cap) cx (by kernel_rfl) delta_one (fun M w h => hΦ.go M w h.1) (by omega) (by omega)
  refine ⟨_, _, _, _, hrun, .buf p' a.length cap' cs 39 3 :: R, _, inferInstance, c', ?_⟩
  clear cx c' hrun
  have stP : Stable (fun M w => Φ M w ∧ Pin g o cb b M w) := inferInstance
  refine exI_mk (fun op on oc iI R' Φ' m => ∃ (i : Nat) (ds : List Value), iI = i ∧ i ≤ b.length ∧ on = (a ++ (b.take i).map negD).length ∧ R' = .buf op on oc ds 39 3 :: R ∧ Φ' = (fun M w => (Φ M w ∧ Pin g o cb b M w) ∧ Elems M w ds (a ++ (b.take i).map negD)) ∧ m = b.length - i)
    ⟨⟨_, fun M w => (Φ M w ∧ Pin g o cb b M w) ∧ Elems M w cs (a ++ (b.take 0).map negD), _, inferInstance, fun w G cx => cx.weak fun M w h => ⟨h.1, by simpa using h.2⟩, 0, cs, rfl, Nat.zero_le _, by simp, rfl, rfl, rfl⟩, ?_⟩
  rintro op on oc iI R1 Φ1 m hst ⟨i, ds, rfl, hi, rfl, rfl, rfl, rfl⟩
  have hln : (a ++ (b.take i).map negD).length = a.length + i := by rw [List.length_append, List.length_map, List.length_take]; omega
  refine Br.intro (fun hlt => ?_) (fun hge => fun w G cx => ?_)
  · have hlt : i < b.length := by have := of_decide_eq_true hlt; omega
    obtain ⟨q2, qc, he, f1, f2, f3, f4⟩ := hcs i hlt
    obtain ⟨X, hX⟩ : ∃ X, b[i] = X := ⟨_, rfl⟩
    have hXr : X.row.length ≤ 1000000 := by rw [← hX]; exact hrb _ (List.getElem_mem hlt)
    have slX : ∀ M w, (Φ M w ∧ Pin g o cb b M w) → Sl M w q2 X.row := fun M w h => by rw [← hX]; exact pin_row h.2 hlt he
    have row : ∀ {w : World} {S : List Own}, Ctx W w S (fun M w => Φ M w ∧ Pin g o cb b M w) → RowAt w g (o + (i : Int).toNat * 3) (X.cells q2 qc) := fun cx => by rw [Int.toNat_natCast, ← hX]; exact pin_rowAt cx.phi.2 hlt he
    rw [hX] at f1 f3 f4
    refine ⟨R, _, stP, fun w G cx => cx.drop1.fst, by omega, ptrK_intro g o (hp (by omega)) ⟨by omega, ptrK_intro g o (hp (by omega)) ⟨_, _, _, _, _, fun w G cx => ⟨_, _, _, _, _, row cx, rfl⟩, X.n, fun w G cx => ⟨X.n, by have := row cx 2 (by simp); simpa using this, rfl⟩, fun w G cx => ?_⟩⟩⟩
    refine (Clone28_sl (Φ := fun M w => (Φ M w ∧ Pin g o cb b M w) ∧ Elems M w ds (a ++ (b.take i).map negD)) X q2 qc (negD X).n (fun M w h => slX M w h.1) hXr).use cx fun p2 c2 w g3 g4 cx => ⟨X.time, p2, X.row.length, c2, (negD X).n, rfl, .buf op (a ++ (b.take i).map negD).length oc ds 39 3 :: R, _, inferInstance, cx, fun w G cx => cx.drop1.weak fun M w h => h.1.1, fun kb => ⟨fun w G cx => cx.drop1.drop1.weak fun M w h => h.1.1, fun w G cx => ?_⟩⟩
    have e : a ++ (b.take (i + 1)).map negD = (a ++ (b.take i).map negD) ++ [negD X] := by rw [List.take_succ_eq_append_getElem hlt, List.map_append, ← List.append_assoc, hX]; rfl
    obtain ⟨p', c', w', hrun, cx'⟩ := push2 (x := negD X) (q := p2) (qc := c2) (PS := fun M w => Φ M w ∧ Pin g o cb b M w) (Ψ := fun M w => Sl M w p2 X.row) (fun M w _ h => rep_delta (x := negD X) g3 g4 f3 (w64_in _) h) (by omega) cx
    rw [← e] at hrun cx'
    exact ⟨p', _, c', w', hrun, _, _, inferInstance, cx', by unfold I64; omega, _, _, b.length - (i + 1), inferInstance, fun w G cx => cx, ⟨i + 1, _, by omega, hlt, rfl, rfl, rfl, rfl⟩, by omega⟩
  · have hge : i = b.length := by have := of_decide_eq_false hge; omega
    subst hge
    rw [List.take_length] at cx hln ⊢
    obtain ⟨cx3, hs, _, g5, g6⟩ := Ctx.freeze (α := DeltaD) cx.fst cx.phi.2
    refine (Cons28_sl (Φ := fun M w => (Φ M w ∧ Pin g o cb b M w) ∧ Sl M w op (a ++ b.map negD)) op oc (a ++ b.map negD) (fun M w h => h.2) g5 g6 (by omega) (fun x hx => ?_)).to (cx3.add hs) fun p2 c2 e1 e2 st => fun w G cx => ⟨p2, c2, rfl, e1, e2, cx.left.weak fun M w h => ⟨h.1.1, h.2⟩⟩
    rcases List.mem_append.1 hx with hx | hx
    · exact hra x hx
    · obtain ⟨y, hy, rfl⟩ := List.mem_map.1 hx
      exact hrb y hy
end
end Go.Proofs.YtnapfhbibikbiaaDoor
end

/-
  Times, ints, and the reference's encoding of deltas, walked.
-/
section
set_option linter.unusedVariables false
set_option linter.unusedSimpArgs false
namespace Go.Proofs.YtnapfhbibikbiaaDoor
open Go.Vc


section
variable {Φ : PW} {p q : Option Addr} {cap cap2 : Nat} {l : List DeltaD}

theorem tm_at2 {c : List DeltaD} {i : Nat} (h : i < c.length) : (c.map DeltaD.time).toArray[i]! = c[i].time := by
  rw [getElem!_pos _ i (by simpa using h)]
  simp
theorem cu_len (d : Array Int) (n : Nat) : (Lib.compactUpTo d n).length ≤ n := by
  unfold Lib.compactUpTo
  have := List.length_filter_le (Lib.keeps d) (List.range n)
  rw [List.length_map]
  rw [List.length_range] at this
  omega

set_option maxHeartbeats 1000000 in
theorem Times28H [Stable Φ] [hΦ : Has Φ (fun M w => Sl M w p l)] (hc1 : l.length ≤ cap) (hc2 : cap ≤ maxLen) (hlen : l.length ≤ 1000000) (hrow : Rows1 l) : GivesSl Φ Tryd.prog F.errataref28_Times #[.slice p l.length cap] (timesP l) id := by
  refine gives_sl (Berrataref28_Times_run p l.length cap) fun W R => ?_
  refine fun w G cx => (Cons28H hc1 hc2 hlen hrow).use cx fun p1 c1 w e1 e2 cx => ?_
  have hl := consP_len l
  unfold timesP Lib.compact
  obtain ⟨c, hc⟩ : ∃ c, consP l = c := ⟨_, rfl⟩
  rw [hc] at cx e1 hl ⊢
  rw [List.length_map]
  obtain ⟨g, o, cs, hp, cx⟩ := cx.pin cx.phi.2
  have hcs := Ctx.cells cx (fun M w h => h.2)
  refine ⟨p1, _, c1, rfl, R, fun M w => (Φ M w ∧ Sl M w p1 c) ∧ Pin g o cs c M w, inferInstance, cx, ?_⟩
  clear cx
  obtain ⟨d, hd⟩ : ∃ d, (c.map DeltaD.time).toArray = d := ⟨_, rfl⟩
  have htm : ∀ i, (h : i < c.length) → d[i]! = c[i].time := fun i h => by rw [← hd]; exact tm_at2 h
  rw [hd]
  have hst : Stable (fun M w => (Φ M w ∧ Sl M w p1 c) ∧ Pin g o cs c M w) := inferInstance
  refine exI_mk (fun op on oc iI R' Φ' m => ∃ i : Nat, iI = i ∧ i ≤ c.length ∧ on = (Lib.compactUpTo d i).length ∧ R' = .buf op on oc ((Lib.compactUpTo d i).map intv) 3 1 :: R ∧ Φ' = (fun M w => (Φ M w ∧ Sl M w p1 c) ∧ Pin g o cs c M w) ∧ m = c.length - i ∧ ∀ x ∈ Lib.compactUpTo d i, I64 x)
    ⟨⟨.buf none 0 0 [] 3 1 :: R, _, _, hst, fun w G cx => cx.nobuf 3 1, 0, rfl, Nat.zero_le _, rfl, rfl, rfl, rfl, fun x hx => by simp [Lib.compactUpTo] at hx⟩, ?_⟩
  rintro op on oc iI R1 Φ1 m _ ⟨i, rfl, hi, rfl, rfl, rfl, rfl, hI⟩
  have hcl := cu_len d i
  refine Br.intro (fun hlt => ?_) (fun hge => fun w G cx => ?_)
  · have hlt : i < c.length := by have := of_decide_eq_true hlt; omega
    obtain ⟨q2, qc, he, f1, f2, f3, f4⟩ := hcs i hlt
    have row : ∀ {w : World} {S : List Own}, Ctx W w S (fun M w => (Φ M w ∧ Sl M w p1 c) ∧ Pin g o cs c M w) → w.cell? ⟨g, o + (i : Int).toNat * 3, none⟩ = some (.int .i64 c[i].time) := fun cx => by
      have := pin_rowAt cx.phi.2 hlt he 0 (by simp)
      rw [Int.toNat_natCast]; simpa using this
    refine fun w G cx => ⟨fun h => by unfold I64; omega, fun h => by omega, ptrK_intro g o (hp (by omega)) ⟨d[i - 1]!, fun h => ?_, fun h => by omega, ptrK_intro g o (hp (by omega)) ⟨c[i].time, fun h => row cx, ?_⟩⟩⟩
    · have h : i ≠ 0 := by
        intro e; subst e; simp at h
      have e : (max ((i : Int) - 1) 0).toNat = i - 1 := by omega
      obtain ⟨q3, qc3, he3, _⟩ := hcs (i - 1) (by omega)
      have := pin_rowAt cx.phi.2 (show i - 1 < c.length by omega) he3 0 (by simp)
      rw [e, htm (i - 1) (by omega)]; simpa using this
    clear cx
    refine Br.intro (fun h => ⟨by omega, ptrK_intro g o (hp (by omega)) fun w G cx => ⟨_, row cx, fun kb w G cx => ?_⟩⟩) (fun h => ⟨by unfold I64; omega, _, _, c.length - (i + 1), hst, fun w G cx => cx, ⟨i + 1, rfl, hlt, ?_, ?_, rfl, rfl, ?_⟩, by omega⟩)
    · have hk : Lib.keeps d i = true := by
        unfold Lib.keeps
        refine decide_eq_true ?_
        rw [Bool.or_eq_true] at h
        rcases h with h | h
        · left; have := of_decide_eq_true h; omega
        · right; rw [htm i hlt]; exact fun e => of_decide_eq_true h e.symm
      have e : Lib.compactUpTo d (i + 1) = Lib.compactUpTo d i ++ [c[i].time] := by rw [Lib.compactUpTo_succ, if_pos hk, htm i hlt]
      obtain ⟨p', cap', w', hrun, _, cx'⟩ := Ctx.app1 (P := Tryd.prog) (ts := 43) (ty := 43) (kb := #[false, false]) (size := 1) (bytes := 8) cx (by kernel_rfl) (by omega) rfl rfl (by omega) (by omega)
      have el : (Lib.compactUpTo d i).length + 1 = (Lib.compactUpTo d (i + 1)).length := by rw [e]; simp
      have em : (Lib.compactUpTo d i).map intv ++ [.int .i64 c[i].time] = (Lib.compactUpTo d (i + 1)).map intv := by rw [e, List.map_append]; rfl
      rw [el, em] at cx'
      rw [el] at hrun
      refine ⟨p', _, cap', w', hrun, _, _, hst, cx', by unfold I64; omega, _, _, c.length - (i + 1), hst, fun w G cx => cx, ⟨i + 1, rfl, hlt, rfl, rfl, rfl, rfl, fun x hx => ?_⟩, by omega⟩
      rw [e] at hx
      rcases List.mem_append.1 hx with hx | hx
      · exact hI x hx
      · rw [List.mem_singleton.1 hx]; exact f3
    all_goals
      have e : Lib.compactUpTo d (i + 1) = Lib.compactUpTo d i := by
        rw [Bool.or_eq_false_iff] at h
        have h1 : i ≠ 0 := fun e => of_decide_eq_false h.1 (by rw [e]; rfl)
        have h2 : d[i - 1]! = c[i].time := Decidable.not_not.1 (of_decide_eq_false h.2)
        rw [Lib.compactUpTo_succ, Lib.keeps_neg (by omega) (by rw [htm i hlt]; exact h2.symm)]
        simp
    · rw [e]
    · rw [e]
    · rw [e]; exact hI
  · have hge : i = c.length := by have := of_decide_eq_false hge; omega
    subst hge
    have cx := cx.left
    obtain ⟨_, k1, k2⟩ := cx.bufLen 0 rfl
    obtain ⟨cx3, hs, _⟩ := Ctx.freeze (α := Int) (l := Lib.compactUpTo d c.length) cx (intv_elems _ hI)
    exact ⟨op, oc, rfl, k1, k2, (cx3.add hs).weak fun M w h => ⟨h.1.1.1, h.2⟩⟩

theorem ints_in [Stable Φ] {a b : List Int} [hΦ : Has Φ (fun M w => Sl M w p a)] [hΨ : Has Φ (fun M w => Sl M w q b)] (ha : a.length ≤ 1000000) : GivesIn Φ Tryd.prog F.erratalaw28_ints #[.slice p a.length cap, .slice q b.length cap2] (.bool (decide (a = b))) := by
  refine .there (fun M w h => (hΦ.go M w h).there) fun hta => .there (fun M w h => (hΨ.go M w h).there) fun htb => ?_
  refine gives_in (Berratalaw28_ints_run p a.length cap q b.length cap2) fun W R => Br.intro (fun hn => fun w G cx => ⟨?_, cx.left⟩) (fun hn => ?_)
  · have hn := of_decide_eq_true hn
    rw [decide_eq_false fun e => hn (by rw [e])]
  have hn : b.length = a.length := by have := Decidable.not_not.1 (of_decide_eq_false hn); omega
  refine exI_mk (fun n R' Φ' k => ∃ i : Nat, n = i ∧ i ≤ a.length ∧ R' = R ∧ Φ' = Φ ∧ k = a.length - i ∧ a.take i = b.take i) ⟨⟨R, Φ, _, inferInstance, fun w F c => c, 0, rfl, Nat.zero_le _, rfl, rfl, rfl, rfl⟩, ?_⟩
  rintro n R1 Φ1 k _ ⟨i, rfl, hi, rfl, rfl, rfl, hs⟩
  refine Br.intro (fun hlt => ?_) (fun hge => fun w G cx => ⟨?_, cx.left⟩)
  · have hlt : i < a.length := by have := of_decide_eq_true hlt; omega
    obtain ⟨g1, o1, rfl⟩ := hta (by omega)
    obtain ⟨g2, o2, rfl⟩ := htb (by omega)
    have hlt2 : i < b.length := by omega
    refine fun w G cx => ⟨by omega, ptrK_intro g1 o1 rfl ⟨a[i], by rw [Int.toNat_natCast]; exact sl_int (hΦ.go _ _ cx.phi) hlt, by omega, ptrK_intro g2 o2 rfl ⟨b[i], by rw [Int.toNat_natCast]; exact sl_int (hΨ.go _ _ cx.phi) hlt2, Br.intro (fun h => fun w G cx => ⟨?_, cx.left⟩) (fun h => ⟨by unfold I64; omega, R1, Φ1, a.length - (i + 1), inferInstance, fun w G cx => cx, ⟨i + 1, rfl, hlt, rfl, rfl, rfl, ?_⟩, by omega⟩)⟩⟩⟩
    · have h := of_decide_eq_true h
      rw [decide_eq_false fun e => h (by subst e; rfl)]
    · have h : a[i] = b[i] := Decidable.not_not.1 (of_decide_eq_false h)
      rw [List.take_succ_eq_append_getElem hlt, List.take_succ_eq_append_getElem hlt2, hs, h]
  · have hge : i = a.length := by have := of_decide_eq_false hge; omega
    subst hge
    rw [List.take_length, ← hn, List.take_length] at hs
    rw [decide_eq_true hs]

set_option maxHeartbeats 1000000 in
theorem RBytes28H [Stable Φ] [hΦ : Has Φ (fun M w => Sl M w p l)] (hc1 : l.length ≤ cap) (hc2 : cap ≤ maxLen) (hlen : l.length ≤ 400) (hfit : ∀ x ∈ l, Fit x) : GivesIn Φ Tryd.prog F.errataref28_Bytes #[.slice p l.length cap] (.string ⟨(bytesL l).toArray⟩) := by
  have hrow : ∀ x ∈ l, x.row.length ≤ 1000000 := fun x hx => Nat.le_trans (hfit x hx).1 (by decide)
  refine gives_in (Berrataref28_Bytes_run p l.length cap) fun W R => ?_
  refine fun w G cx => (Cons28H hc1 hc2 (by omega) hrow).use cx fun p1 c1 w h1 h2 cx => ?_
  have hcfit : ∀ x ∈ consP l, x.row.length ≤ 10000 ∧ ∀ v ∈ x.row, v.text.size ≤ 10000 := consP_row (P := fun r => r.length ≤ 10000 ∧ ∀ v ∈ r, v.text.size ≤ 10000) hfit
  have hcl := consP_len l
  unfold bytesL
  obtain ⟨c, hc⟩ : ∃ c, consP l = c := ⟨_, rfl⟩
  rw [hc] at cx h1 hcl hcfit ⊢
  obtain ⟨g, o, cs, hp, cx⟩ := cx.pin cx.phi.2
  have hcs := Ctx.cells cx (fun M w h => h.2)
  have hI : ∀ j, (hj : j < c.length) → ∀ v ∈ c[j].row, (I64 v.kind ∧ I64 v.num) ∧ v.text.size ≤ maxLen := fun j hj => by
    obtain ⟨q, qc, he, _⟩ := hcs j hj
    exact sl_i64 (pin_row cx.phi.2 hj he)
  have hlenL : ∀ i, i ≤ c.length → (deltasL (c.take i)).length ≤ i * 200000100 := by
    intro i
    induction i with
    | zero => intro _; simp [deltasL]
    | succ i ih =>
      intro hi
      have ih := ih (by omega)
      obtain ⟨_, _, _, _, _, ht, hn⟩ := hcs i (by omega)
      have := deltaB_size ht hn (hI i (by omega)) (hcfit c[i] (List.getElem_mem _))
      rw [List.take_succ_eq_append_getElem (by omega), deltasL_app, deltasL_one, List.length_append, list_size, Nat.add_mul]
      omega
  have hst : Stable (fun M w => (Φ M w ∧ Sl M w p1 c) ∧ Pin g o cs c M w) := inferInstance
  refine ⟨p1, _, c1, rfl, R, fun M w => (Φ M w ∧ Sl M w p1 c) ∧ Pin g o cs c M w, hst, cx, ?_⟩
  clear cx
  have hnat := natB_size (n := (c.length : Int)) (by unfold I64; omega)
  refine fun w G cx => ((Num01_g (c.length : Int) (by unfold I64; omega)).in).toS cx ?_
  clear cx
  refine exI_mk (fun s iI R' Φ' k => ∃ i : Nat, iI = i ∧ i ≤ c.length ∧ s = ⟨((natB c.length).data.toList ++ deltasL (c.take i)).toArray⟩ ∧ R' = R ∧ Φ' = (fun M w => (Φ M w ∧ Sl M w p1 c) ∧ Pin g o cs c M w) ∧ k = c.length - i) ⟨⟨_, _, _, hst, fun w G cx => cx, 0, rfl, Nat.zero_le _, by rw [List.take_zero, show deltasL [] = [] from rfl, List.append_nil], rfl, rfl, rfl⟩, ?_⟩
  rintro s iI R2 Φ2 k _ ⟨i, rfl, hi, rfl, rfl, rfl, rfl⟩
  refine Br.intro (fun hlt => ?_) (fun hge => fun w G cx => ⟨?_, cx.left.weak fun M w h => h.1.1⟩)
  · have hlt : i < c.length := by have := of_decide_eq_true hlt; omega
    obtain ⟨q, qc, he, g1, g2, ht, hn⟩ := hcs i hlt
    have hf := hcfit c[i] (List.getElem_mem hlt)
    have hrs := rowB_size (hI i hlt) hf.1 hf.2
    have s1 := intB_size ht
    have s2 := intB_size hn
    have s3 := textB_size (s := rowB c[i].row) (by omega)
    have hsz := deltaB_size ht hn (hI i hlt) hf
    have hLi := hlenL i hi
    have hb : i * 200000100 ≤ 400 * 200000100 := Nat.mul_le_mul_right _ (by omega)
    have hstep : deltasL (c.take (i + 1)) = deltasL (c.take i) ++ (deltaB c[i]).data.toList := by rw [List.take_succ_eq_append_getElem hlt, deltasL_app, deltasL_one]
    have hS : (ByteArray.mk ((natB c.length).data.toList ++ deltasL (c.take i)).toArray).size ≤ 100000000000 := by
      rw [size_list, List.length_append, list_size]; omega
    have row : ∀ {w : World} {S : List Own}, Ctx W w S (fun M w => (Φ M w ∧ Sl M w p1 c) ∧ Pin g o cs c M w) → RowAt w g (o + (i : Int).toNat * 3) (c[i].cells q qc) := fun cx => by rw [Int.toNat_natCast]; exact pin_rowAt cx.phi.2 hlt he
    obtain ⟨S, hSe⟩ : ∃ S, ByteArray.mk ((natB c.length).data.toList ++ deltasL (c.take i)).toArray = S := ⟨_, rfl⟩
    have hfin : S ++ intB c[i].time ++ textB (rowB c[i].row) ++ intB c[i].n = ⟨((natB c.length).data.toList ++ deltasL (c.take (i + 1))).toArray⟩ := by
      rw [← hSe, ByteArray.append_assoc, ByteArray.append_assoc, app_list, hstep, List.append_assoc, ← ByteArray.append_assoc]
      rfl
    rw [hSe] at hS ⊢
    refine ⟨R2, _, hst, fun w G cx => cx, by omega, ptrK_intro g o (hp (by omega)) ⟨by omega, ptrK_intro g o (hp (by omega)) ⟨by omega, ptrK_intro g o (hp (by omega)) ⟨c[i].time, fun w G cx => ⟨c[i].time, by have := row cx 0 (by simp); simpa using this, rfl⟩, q, c[i].row.length, qc, fun w G cx => ⟨q, _, qc, by have := row cx 1 (by simp); simpa using this, rfl⟩, c[i].n, fun w G cx => ⟨c[i].n, by have := row cx 2 (by simp); simpa using this, rfl⟩, fun w G cx => ?_⟩⟩⟩⟩
    refine ((Int01_g c[i].time ht).in).toS cx ⟨fun w G cx => cx, by show S.size + (intB c[i].time).size ≤ _; omega, fun w G cx => (RowBytes03_in (Φ := fun M w => (Φ M w ∧ Sl M w p1 c) ∧ Pin g o cs c M w) q qc c[i].row (fun M w h => pin_row h.2 hlt he) (by omega) hf.2).toS cx ⟨fun w G cx => cx, fun w G cx => ((Text01_g (rowB c[i].row) (by omega)).in).toS cx ⟨fun w G cx => cx, by show (S ++ intB c[i].time).size + (textB (rowB c[i].row)).size ≤ _; rw [size_app]; omega,
      fun w G cx => ((Int01_g c[i].n hn).in).toS cx ⟨fun w G cx => cx, by show (S ++ intB c[i].time ++ textB (rowB c[i].row)).size + (intB c[i].n).size ≤ _; rw [size_app, size_app]; omega, by unfold I64; omega, _, _, c.length - (i + 1), hst, fun w G cx => cx, ⟨i + 1, by omega, hlt, hfin, rfl, rfl, rfl⟩, by omega⟩⟩⟩⟩
  · have hge : i = c.length := by have := of_decide_eq_false hge; omega
    subst hge
    rw [List.take_length]
end
end Go.Proofs.YtnapfhbibikbiaaDoor
end

/-
  Sub, Diff, walked.
-/
section
set_option linter.unusedVariables false
set_option linter.unusedSimpArgs false
namespace Go.Proofs.YtnapfhbibikbiaaDoor
open Go.Vc


set_option maxHeartbeats 1000000 in
theorem Sub_pin {Φ : PW} [Stable Φ] (p : Option Addr) (cap : Nat) (a : List DeltaD) (q : Option Addr) (cap2 : Nat) (b : List DeltaD) (g o : Nat) (cs : List (List Value)) (hq : 0 < b.length → q = some ⟨g, o, none⟩) (hΦ : ∀ M w, Φ M w → Sl M w p a) (hΨ : ∀ M w, Φ M w → Pin g o cs b M w)
    (ha : a.length ≤ 400000) (hb : b.length ≤ 400000) (hra : ∀ x ∈ a, x.row.length ≤ 1000000) (hrb : ∀ x ∈ b, x.row.length ≤ 1000000) : GivesSl Φ Tryd.prog F.delta_Sub #[.slice p a.length cap, .slice q b.length cap2] (subP a b) id := by
  refine ⟨fun W0 w0 S0 c0 => ?_⟩
  have hcs : ∀ j, (hj : j < b.length) → ∃ p c, cs.getD j [] = b[j].cells p c ∧ b[j].row.length ≤ c ∧ c ≤ maxLen ∧ I64 b[j].time ∧ I64 b[j].n := fun j hj => by
    obtain ⟨p, c, h1, h2, h3, h4, h5, _⟩ := pin_delta (hΨ _ _ c0.phi) hj
    exact ⟨p, c, h1, h2, h3, h4, h5⟩
  refine GivesSl.go (gives_sl (Bdelta_Sub_run p a.length cap q b.length cap2) fun W R => ?_) W0 w0 S0 c0
  clear c0
  refine fun w G cx => (CloneD_in p cap a hΦ (by omega)).use cx fun p1 cap1 ds w cx => ⟨p1, _, cap1, rfl, .buf p1 a.length cap1 ds 39 3 :: R, _, inferInstance, cx, ?_⟩
  refine exI_mk (fun sp sn sc iI R' Φ' k => ∃ (i : Nat) (ds : List Value), iI = i ∧ i ≤ b.length ∧ sn = (a ++ (b.take i).map negD).length ∧ R' = .buf sp sn sc ds 39 3 :: R ∧ Φ' = (fun M w => Φ M w ∧ Elems M w ds (a ++ (b.take i).map negD)) ∧ k = b.length - i)
    ⟨⟨.buf p1 a.length cap1 ds 39 3 :: R, fun M w => Φ M w ∧ Elems M w ds (a ++ (b.take 0).map negD), _, inferInstance, fun w G cx => cx.weak fun M w h => ⟨h.1, by simpa using h.2⟩, 0, ds, rfl, Nat.zero_le _, by simp, rfl, rfl, rfl⟩, ?_⟩
  clear cx
  rintro sp _ sc iI R1 Φ1 k _ ⟨i, ds, rfl, hi, rfl, rfl, rfl, rfl⟩
  have hln : (a ++ (b.take i).map negD).length = a.length + i := by simp; omega
  have hst : Stable (fun M w => Φ M w ∧ Elems M w ds (a ++ (b.take i).map negD)) := inferInstance
  refine Br.intro (fun hlt => ?_) (fun hge => fun w G cx => ?_)
  · have hlt := of_decide_eq_true hlt
    have hlt : i < b.length := by omega
    obtain ⟨r, rc, he, h1, h2, h3, h4⟩ := hcs i hlt
    refine ⟨by omega, ptrK_intro g o (hq (by omega)) fun w G cx => ⟨b[i].time, r, b[i].row.length, rc, b[i].n, by rw [Int.toNat_natCast]; exact pin_rowAt (hΨ _ _ cx.phi.1) hlt he, fun _ k w G cx => ?_⟩⟩
    obtain ⟨p', cap', w', hrun, _, cx'⟩ := Ctx.app1 (P := Tryd.prog) (ts := 22) (ty := 22) (kb := #[false, false]) (size := 3) (bytes := 40) cx (by kernel_rfl) (by omega) rfl rfl (by omega) (by omega)
    have htk : a ++ (b.take (i + 1)).map negD = (a ++ (b.take i).map negD) ++ [negD b[i]] := by rw [List.take_succ_eq_append_getElem hlt, List.map_append, ← List.append_assoc]; rfl
    have hln2 : (a ++ (b.take i).map negD).length + 1 = (a ++ (b.take (i + 1)).map negD).length := by rw [htk, List.length_append (bs := [negD b[i]])]; rfl
    rw [hln2] at cx' hrun
    have hst3 : Stable (fun M w => Φ M w ∧ Elems M w (ds ++ (negD b[i]).cells r rc) (a ++ (b.take (i + 1)).map negD)) := inferInstance
    refine ⟨p', _, cap', w', hrun, .buf p' (a ++ (b.take (i + 1)).map negD).length cap' (ds ++ (negD b[i]).cells r rc) 39 3 :: R, _, hst3, cx'.weak fun M w h => ⟨h.1, ?_⟩, by unfold I64; omega, _, _, b.length - (i + 1), hst3, fun w G cx => cx, ⟨i + 1, _, by omega, hlt, rfl, rfl, rfl, rfl⟩, by omega⟩
    rw [htk]
    exact h.2.snoc (rep_delta (x := negD b[i]) h1 h2 h3 (w64_in _) (show Sl M w r b[i].row from pin_row (hΨ M w h.1) hlt he))
  · have hge := of_decide_eq_false hge
    have hi : i = b.length := by omega
    subst hi
    have hall : a ++ (b.take b.length).map negD = a ++ b.map negD := by rw [List.take_length]
    rw [hall] at cx ⊢
    obtain ⟨cx3, hs, _⟩ := Ctx.freeze (α := DeltaD) cx.fst cx.phi.2
    have hst4 : Stable (fun M w => Φ M w ∧ Sl M w sp (a ++ b.map negD)) := inferInstance
    refine (Consolidate_sl (Φ := fun M w => Φ M w ∧ Sl M w sp (a ++ b.map negD)) sp sc (a ++ b.map negD) (fun M w h => h.2) (by simp; omega) (fun x hx => ?_)).use (cx3.add hs) fun p3 c3 w h1 h2 cx => ⟨p3, _, c3, rfl, R, fun M w => Φ M w ∧ Sl M w p3 (subP a b), inferInstance, cx.weak fun M w h => ⟨h.1.1, h.2⟩, fun w G cx => ⟨p3, c3, rfl, h1, h2, cx.left⟩⟩
    rcases List.mem_append.1 hx with hx | hx
    · exact hra x hx
    · obtain ⟨y, hy, rfl⟩ := List.mem_map.1 hx
      exact hrb y hy

theorem Sub_sl {Φ : PW} [Stable Φ] (p : Option Addr) (cap : Nat) (a : List DeltaD) (q : Option Addr) (cap2 : Nat) (b : List DeltaD) (hΦ : ∀ M w, Φ M w → Sl M w p a) (hΨ : ∀ M w, Φ M w → Sl M w q b)
    (ha : a.length ≤ 400000) (hb : b.length ≤ 400000) (hra : ∀ x ∈ a, x.row.length ≤ 1000000) (hrb : ∀ x ∈ b, x.row.length ≤ 1000000) : GivesSl Φ Tryd.prog F.delta_Sub #[.slice p a.length cap, .slice q b.length cap2] (subP a b) id :=
  .pinned hΨ fun g o cs hq => Sub_pin (Φ := fun M w => Φ M w ∧ Pin g o cs b M w) p cap a q cap2 b g o cs hq (fun M w h => hΦ M w h.1) (fun M w h => h.2) ha hb hra hrb

end Go.Proofs.YtnapfhbibikbiaaDoor
end

/-
  The law DeltaTells, walked.
-/
section
set_option linter.unusedVariables false
set_option linter.unusedSimpArgs false
namespace Go.Proofs.YtnapfhbibikbiaaDoor
open Go.Vc


section
variable {Φ : PW} {p q : Option Addr} {cap cap2 : Nat} {a b : List DeltaD}
theorem Sub2H [Stable Φ] [hΦ : Has Φ (fun M w => Sl M w p a)] [hΨ : Has Φ (fun M w => Sl M w q b)]
    (ha : a.length ≤ 400000) (hb : b.length ≤ 400000) (hra : Rows1 a) (hrb : Rows1 b) : GivesSl Φ Tryd.prog F.delta_Sub #[.slice p a.length cap, .slice q b.length cap2] (subP a b) id := Sub_sl p cap a q cap2 b hΦ.go hΨ.go ha hb hra hrb
theorem Cond2H [Stable Φ] [hΦ : Has Φ (fun M w => Sl M w p a)] (ha : a.length ≤ 400000) : GivesIn Φ Tryd.prog F.delta_Consolidated #[.slice p a.length cap] (.bool (consolidated a)) := Consolidated_in p cap a hΦ.go (by omega)
theorem MultH [Stable Φ] [hΦ : Has Φ (fun M w => Sl M w p a)] (ha : a.length ≤ 400000) (hra : Rows1 a) : GivesIn Φ Tryd.prog F.delta_Multiset #[.slice p a.length cap] (.bool (multiP a)) := Multiset_in p cap a hΦ.go (by omega) hra
theorem CntH [Stable Φ] [hΦ : Has Φ (fun M w => Sl M w p a)] (ha : a.length ≤ 400000) : GivesIn Φ Tryd.prog F.delta_Count #[.slice p a.length cap] (.int .i64 (countP a)) := Count_in p cap a hΦ.go (by omega)
theorem TimesH [Stable Φ] [hΦ : Has Φ (fun M w => Sl M w p a)] (ha : a.length ≤ 400000) (hra : Rows1 a) : GivesSl Φ Tryd.prog F.delta_Times #[.slice p a.length cap] (timesP a) id := Times_sl p cap a hΦ.go (by omega) hra
theorem Same2H [Stable Φ] [hΦ : Has Φ (fun M w => Sl M w p a)] [hΨ : Has Φ (fun M w => Sl M w q b)] (ha : a.length ≤ 400000) (hb : b.length ≤ 400000) (hra : Rows1 a) (hrb : Rows1 b) :
    GivesIn Φ Tryd.prog F.delta_Same #[.slice p a.length cap, .slice q b.length cap2] (.bool (decide (consP a = consP b))) := Same_in p cap a q cap2 b hΦ.go hΨ.go ha hb hra hrb
theorem Bytes2H [Stable Φ] [hΦ : Has Φ (fun M w => Sl M w p a)] [hT : Has Φ TabI] (ha : a.length ≤ 400) (hf : ∀ x ∈ a, Fit x) : GivesIn Φ Tryd.prog F.delta_Bytes #[.slice p a.length cap] (.string ⟨(bytesL a).toArray⟩) :=
  Bytes28_in p cap a (fun _ M w h => hT.go M w h) hΦ.go ha hf
theorem intsV [Stable Φ] {a b : List Int} (v : a = b) [hΦ : Has Φ (fun M w => Sl M w p a)] [hΨ : Has Φ (fun M w => Sl M w q b)] (ha : a.length ≤ 1000000) : GivesIn Φ Tryd.prog F.erratalaw28_ints #[.slice p a.length cap, .slice q b.length cap2] (.bool true) := by
  have h := ints_in (Φ := Φ) (p := p) (q := q) (cap := cap) (cap2 := cap2) (a := a) (b := b) ha
  rwa [decide_eq_true v] at h
end

theorem filter_cons_len (a : List DeltaD) (f : DeltaD → Bool) : (consP (a.filter f)).length ≤ a.length := Nat.le_trans (consP_len _) (List.length_filter_le f a)
theorem upto_len (a : List DeltaD) (t : Int) : (uptoP a t).length ≤ a.length := filter_cons_len a _
theorem after_len (a : List DeltaD) (t : Int) : (afterP a t).length ≤ a.length := filter_cons_len a _
theorem times_len (a : List DeltaD) : (timesP a).length ≤ a.length := by
  have h1 := compact_len ((consP a).map DeltaD.time)
  have h2 := consP_len a
  rw [List.length_map] at h1
  unfold timesP
  omega

set_option maxHeartbeats 4000000 in
theorem Tells28_in {Φ : PW} [Stable Φ] (p : Option Addr) (cap : Nat) (a : List DeltaD) (q : Option Addr) (cap2 : Nat) (b : List DeltaD) (t : Int) (r : Option Addr) (rc : Nat) (row : List ValD)
    [hA : Has Φ (fun M w => Sl M w p a)] [hB : Has Φ (fun M w => Sl M w q b)] [hR : Has Φ (fun M w => Sl M w r row)] [hT : Has Φ TabI] (ha1 : a.length ≤ cap) (ha2 : cap ≤ maxLen) (hb1 : b.length ≤ cap2) (hb2 : cap2 ≤ maxLen) (hr1 : row.length ≤ rc) (hr2 : rc ≤ maxLen) :
    GivesIn Φ Tryd.prog F.erratalaw28_DeltaTells #[.slice p a.length cap, .slice q b.length cap2, .int .i64 t, .slice r row.length rc] (.bool true) := by
  refine gives_in (Berratalaw28_DeltaTells_run p a.length cap q b.length cap2 t r row.length rc) fun W R => ?_
  refine fun w G cx => (small28_g.in).toB cx fun w G cx => (Few_in p cap a 200 hA.go (len_max ha1 ha2)).toB cx (Br.intro (fun _ => fun w G cx => ⟨rfl, cx.left⟩) fun hf1 => ?_)
  clear cx
  refine fun w G cx => (Few_in q cap2 b 200 hB.go (len_max hb1 hb2)).toB cx (Br.intro (fun _ => fun w G cx => ⟨rfl, cx.left⟩) fun hf2 => ?_)
  clear cx
  intro kb w G cx
  obtain ⟨cx1, hs⟩ := cx.freezeBlk (α := DeltaD) (l := [⟨0, row, 0⟩]) (Elems.one (rep_delta (x := ⟨0, row, 0⟩) hr1 hr2 (by unfold I64; simp) (by unfold I64; simp) (hR.go _ _ cx.phi)))
  have cx2 : Ctx W w (R ++ G) (fun M w => Φ M w ∧ Sl M w (some ⟨kb, 0, none⟩) [(⟨0, row, 0⟩ : DeltaD)]) := cx1.add hs
  refine (Few_in (Φ := fun M w => Φ M w ∧ Sl M w (some ⟨kb, 0, none⟩) [(⟨0, row, 0⟩ : DeltaD)]) (some ⟨kb, 0, none⟩) 1 [⟨0, row, 0⟩] 1 (fun M w h => h.2) (show 1 ≤ 9223372036854775807 by decide)).toBW (Ψ := Φ) cx2 (Br.intro (fun _ => fun w G cx => ⟨rfl, cx.left⟩) fun _ => ?_)
  clear cx cx1 cx2 hs
  obtain ⟨al, ar, af⟩ := few_rows (by simpa only [Bool.not_eq_false'] using hf1)
  obtain ⟨bl, br, bf⟩ := few_rows (by simpa only [Bool.not_eq_false'] using hf2)
  clear hf1 hf2
  have fa : ∀ x ∈ a, Fit x := fun x hx => ⟨Nat.le_trans (af x hx).1 (by decide), fun v hv => Nat.le_trans ((af x hx).2 v hv) (by decide)⟩
  have l1 := consP_len a
  have l2 : (addP a b).length ≤ 1000 := by have := consP_len (a ++ b); rw [List.length_append] at this; unfold addP; omega
  have l3 : (subP a b).length ≤ 1000 := by have := consP_len (a ++ b.map negD); rw [List.length_append, List.length_map] at this; unfold subP; omega
  have l4 := upto_len a t
  have l5 := after_len a t
  have l6 := times_len a
  refine fun w G cx => (ConH (a := a) (by omega) ar).to cx fun p1 c1 _ _ _ => fun w G cx => (Cons28H (l := a) ha1 ha2 (by omega) ar).to cx fun p2 c2 _ _ _ => fun w G cx => (EqualV_in (a := consP a) (b := consP a) rfl (by omega)).toBW (Ψ := Φ) cx (Br.intro (fun _ => ?_) (fun h => by cases h))
  clear cx
  refine fun w G cx => (AddH (a := a) (b := b) ha1 ha2 hb1 hb2 (by omega) (by omega) ar br).to cx fun p1 c1 _ _ _ => fun w G cx => (Add28H (a := a) (b := b) (by omega) (by omega) ar br).to cx fun p2 c2 _ _ _ => fun w G cx => (EqualV_in (a := addP a b) (b := addP a b) rfl (by omega)).toBW (Ψ := Φ) cx (Br.intro (fun _ => ?_) (fun h => by cases h))
  clear cx
  refine fun w G cx => (Sub2H (a := a) (b := b) (by omega) (by omega) ar br).to cx fun p1 c1 _ _ _ => fun w G cx => (Sub28H (a := a) (b := b) (by omega) (by omega) ar br).to cx fun p2 c2 _ _ _ => fun w G cx => (EqualV_in (a := subP a b) (b := subP a b) rfl (by omega)).toBW (Ψ := Φ) cx (Br.intro (fun _ => ?_) (fun h => by cases h))
  clear cx
  refine fun w G cx => (UptoH (a := a) (by omega) ar).to cx fun p1 c1 _ _ _ => fun w G cx => (Upto28H (l := a) (by omega) ar).to cx fun p2 c2 _ _ _ => fun w G cx => (EqualV_in (a := uptoP a t) (b := uptoP a t) rfl (by omega)).toBW (Ψ := Φ) cx (Br.intro (fun _ => ?_) (fun h => by cases h))
  clear cx
  refine fun w G cx => (AfterH (a := a) (by omega) ar).to cx fun p1 c1 _ _ _ => fun w G cx => (After28H (l := a) (by omega) ar).to cx fun p2 c2 _ _ _ => fun w G cx => (EqualV_in (a := afterP a t) (b := afterP a t) rfl (by omega)).toBW (Ψ := Φ) cx ?_
  clear cx
  refine fun w G cx => (Cond2H (a := a) (by omega)).toB cx fun w G cx => (Con28H (l := a) (by omega)).toB cx (Br.intro (fun _ => ?_) (fun h => by exfalso; simp at h))
  clear cx
  refine fun w G cx => (FindH (a := a) (by omega)).toI cx fun w G cx => (Find28H (l := a) (by omega)).toI cx (Br.intro (fun _ => ?_) (fun h => absurd rfl (of_decide_eq_false h)))
  clear cx
  refine fun w G cx => (MultH (a := a) (by omega) ar).toB cx fun w G cx => (Mul28H (l := a) ha1 ha2 (by omega) ar).toB cx (Br.intro (fun _ => ?_) (fun h => by exfalso; simp at h))
  clear cx
  refine fun w G cx => (CntH (a := a) (by omega)).toI cx fun w G cx => (Cnt28H (l := a) (by omega)).toI cx (Br.intro (fun _ => ?_) (fun h => absurd rfl (of_decide_eq_false h)))
  clear cx
  refine fun w G cx => (TimesH (a := a) (by omega) ar).to cx fun p1 c1 _ _ _ => fun w G cx => (Times28H (l := a) ha1 ha2 (by omega) ar).to cx fun p2 c2 _ _ _ => fun w G cx => (intsV (a := timesP a) (b := timesP a) rfl (by omega)).toBW (Ψ := Φ) cx (Br.intro (fun _ => Br.intro (fun _ => Br.intro (fun _ => ?_) (fun h => by cases h)) (fun h => by cases h)) (fun h => by cases h))
  clear cx
  refine fun w G cx => (Same2H (a := a) (b := b) (by omega) (by omega) ar br).toB cx fun w G cx => (Same28H (a := a) (b := b) ha1 ha2 hb1 hb2 (by omega) (by omega) ar br).toB cx (Br.intro (fun _ => ?_) (fun h => by exfalso; simp at h))
  clear cx
  refine fun w G cx => (Bytes2H (a := a) (by omega) fa).toS cx fun w G cx => (RBytes28H (l := a) ha1 ha2 (by omega) fa).toS cx fun w G cx => ⟨?_, cx.left⟩
  rw [decide_eq_true rfl]

end Go.Proofs.YtnapfhbibikbiaaDoor
end

/-
  From what a row lists as laid to the table of the powers of ten.
-/
section
set_option linter.unusedVariables false
set_option linter.unusedSimpArgs false
namespace Go.Proofs.YtnapfhbibikbiaaDoor
open Go.Vc Go.RowKit

theorem tab_drop {P : Program} {w : World} : ∀ (n : Nat) {l : List (String × DataW Unit)}, laidMet P l w → laidMet P (l.drop n) w
  | 0, l, h => by rw [List.drop_zero]; exact h
  | n + 1, [], h => h
  | n + 1, x :: l, h => by rw [List.drop_succ_cons]; exact tab_drop n h.tail
/-- the table, out of a list that has it at the n-th place -/
theorem la_tab {W : World} {l : List (String × DataW Unit)} (n : Nat) (h : laidMetH Tryd.prog l W) (hp : (l.all fun x => x.2.handleName?.isNone) = true) (hd : ∃ r, l.drop n = ("internal/strconv.uint64pow10", Lib.tabData .u64 Lib.pow10Tab) :: r) : TabI [] W := by
  rw [MakeChecks.laidMetH_plain Tryd.prog l W hp] at h
  obtain ⟨r, hr⟩ := hd
  have h2 := tab_drop n h
  rw [hr] at h2
  exact Tab.start (Lib.tabIs_of_head (k := .u64) (zs := Lib.pow10Tab) (g := 1) (t := 112) (e := 105) (n := 20) (by kernel_rfl) (by kernel_rfl) (by kernel_rfl) (by kernel_rfl) (by kernel_rfl) (by kernel_rfl) h2)

end Go.Proofs.YtnapfhbibikbiaaDoor
end

section
set_option linter.unusedVariables false
set_option linter.unusedSimpArgs false
namespace Go.Proofs.YtnapfhbibikbiaaDoor
open Go.ChangeShapes Go.WideShapes Go.ChangeAt Go.RowKit Go.Vc


theorem df_own : ownKnob Tryd.prog.godebug = none := by kernel_rfl
theorem df_laid : laidOutB Tryd.prog = true := by kernel_rfl

theorem trodAll_n {H : Type} {enc : TypeId × Value → H} {P : Program} {w : World} {base : Nat} {spare : Nat → Bool} {held : Bool} {t0 t1 t2 t3 : TypeId} {args : Array Value} {ds : List (DataW H)} {ps : List MemPlace} (h : DataW.TrodAll enc P w base spare held [t0, t1, t2, t3] args.toList ds ps) :
    ∃ v0 v1 v2 v3 d0 d1 d2 d3 p0 p1 p2 p3, args = #[v0, v1, v2, v3] ∧ ds = [d0, d1, d2, d3] ∧ ps = p0 ++ p1 ++ p2 ++ p3 ∧ DataW.Trod enc P w base spare held t0 v0 d0 p0 ∧ DataW.Trod enc P w base spare held t1 v1 d1 p1 ∧ DataW.Trod enc P w base spare held t2 v2 d2 p2 ∧ DataW.Trod enc P w base spare held t3 v3 d3 p3 := by
  obtain ⟨v0, vs0, d0, ds0, p0, q0, hargs, rfl, rfl, h0, h⟩ := trodAll_cons h
  obtain ⟨v1, vs1, d1, ds1, p1, q1, rfl, rfl, rfl, h1, h⟩ := trodAll_cons h
  obtain ⟨v2, vs2, d2, ds2, p2, q2, rfl, rfl, rfl, h2, h⟩ := trodAll_cons h
  obtain ⟨v3, vs3, d3, ds3, p3, q3, rfl, rfl, rfl, h3, h⟩ := trodAll_cons h
  obtain ⟨rfl, rfl, rfl⟩ := trodAll_nil h
  exact ⟨v0, v1, v2, v3, d0, d1, d2, d3, p0, p1, p2, p3, by cases args; simp_all, rfl, by simp, h0, h1, h2, h3⟩

theorem door_met (os : Os) (args : Array Value) : laidMetH Tryd.prog Rows.deltaTellsRow.laid ((World.doorLaid Tryd.prog 400 os).forCall (fun _ _ => 0) ⟨#[], args, []⟩).memory :=
  laidMetH_of_parts3 (fuel := 8) (laidMet_of_run' 8 (by kernel_rfl) (by kernel_rfl)) (by kernel_rfl) (by kernel_rfl)

set_option maxRecDepth 100000 in
theorem law_lifted (os : Os) (started : os.Started) (H : Type) (enc : TypeId × Value → H) :
    ReturnsInHanded {} Tryd.checked os 8 .any (fun w args => (Rows.deltaTellsSpec.pre enc Tryd.prog Tryd.f8 Rows.deltaTellsRow.domain false w args ∧ laidMetH Tryd.prog Rows.deltaTellsRow.laid w) ∧ sizedMet enc Tryd.prog Tryd.f8 (OpenSpec.ofChange Rows.deltaTellsSpec) false w args) (Rows.deltaTellsSpec.post enc Tryd.prog Tryd.f8 false true false false) := by
  refine lawTrueLaid (C := Tryd.checked) (tb := 4) df_own started (by kernel_rfl) Tryd.func8 df_laid rfl ?_ rfl Tryd.underlying4 (by kernel_rfl)
    (ChangeSpec.witness_shaped (enc := enc) (C := Tryd.checked) (os := os) (X := fun w _ => laidMetH Tryd.prog Rows.deltaTellsRow.laid w) false (World.doorLaid Tryd.prog 400 os) #[.slice none 0 0, .slice none 0 0, .int .i64 0, .slice none 0 0] 8 rfl (World.shaped_of_RefB (by kernel_rfl) (by kernel_rfl)) (by kernel_rfl) (by kernel_rfl) (by kernel_rfl) (door_met os _)) ?_
  · intro ds hd
    match ds, hd with
    | [_, _, _, _], _ => exact ⟨rfl, rfl, rfl⟩
  · intro W base args ds p hval0 hA0 _ hL
    have hval : ∀ (j : Nat) t v, Tryd.f8.params[j]? = some t → args[j]? = some v → Value.okWide Tryd.prog W .any base t v := hval0
    have hA : DataW.TrodAll enc Tryd.prog W 0 (fun _ => true) true Tryd.f8.params.toList args.toList ds p := hA0
    rw [Tryd.params8] at hA hval
    obtain ⟨v0, v1, v2, v3, d0, d1, d2, d3, p0, p1, p2, p3, rfl, rfl, rfl, h0, h1, h2, h3⟩ := trodAll_n hA
    obtain ⟨ap, ac, a, rfl, aa, ab, s0⟩ := open_sl (α := DeltaD) 12 Tryd.underlying22 (hval 0 22 v0 rfl rfl) (by kernel_rfl) h0
    obtain ⟨bp, bc, b, rfl, ba, bb, s1⟩ := open_sl (α := DeltaD) 12 Tryd.underlying22 (hval 1 22 v1 rfl rfl) (by kernel_rfl) h1
    obtain ⟨t, rfl, rfl, rfl, tw⟩ := open_int Tryd.underlying3 (hval 2 3 v2 rfl rfl) h2
    obtain ⟨rowp, rowc, row, rfl, rowa, rowb, s3⟩ := open_sl (α := ValD) 12 Tryd.underlying37 (hval 3 37 v3 rfl rfl) (by kernel_rfl) h3
    have st0 : Stable (fun M w => Sl M w rowp row) := inferInstance
    have st1 : Stable (fun M w => Sl M w bp b ∧ Sl M w rowp row) := instStableAnd (fun M w => Sl M w bp b) (fun M w => Sl M w rowp row)
    have st2 : Stable (fun M w => Sl M w ap a ∧ Sl M w bp b ∧ Sl M w rowp row) := instStableAnd (fun M w => Sl M w ap a) (fun M w => Sl M w bp b ∧ Sl M w rowp row)
    have st3 : Stable (fun M w => TabI M w ∧ Sl M w ap a ∧ Sl M w bp b ∧ Sl M w rowp row) := instStableAnd (fun M w => TabI M w) (fun M w => Sl M w ap a ∧ Sl M w bp b ∧ Sl M w rowp row)
    have fin : GivesIn (fun M w => TabI M w ∧ Sl M w ap a ∧ Sl M w bp b ∧ Sl M w rowp row) Tryd.prog 8 _ (.bool true) := Tells28_in (Φ := (fun M w => TabI M w ∧ Sl M w ap a ∧ Sl M w bp b ∧ Sl M w rowp row)) ap ac a bp bc b t rowp rowc row (hA := ⟨fun _ _ h => h.2.1⟩) (hB := ⟨fun _ _ h => h.2.2.1⟩) (hR := ⟨fun _ _ h => h.2.2.2⟩) (hT := ⟨fun _ _ h => h.1⟩) aa ab ba bb rowa rowb
    exact fin.law ⟨la_tab 2 hL (by kernel_rfl) ⟨_, rfl⟩, s0, s1, s3⟩

theorem row_holds : Rows.DeltaTellsSaid :=
  OpenClaim.holds_of_wide 8 Tryd.f8 rfl rfl rfl rfl rfl rfl rfl ⟨rfl, rfl, rfl, rfl, rfl⟩ rfl rfl rfl rfl rfl (by kernel_rfl) Tryd.func8 (by kernel_rfl)
    (of_decide_eq_true (by kernel_rfl)) (by unfold Func.isWrapper; first | (rw [if_pos (by decide +kernel)]; kernel_rfl) | (rw [if_neg (by decide +kernel)]; exact ⟨rfl, rfl⟩))
    (fun os started H enc _ => law_lifted os started H enc)

theorem tells_holds : Rows.DeltaTellsCardSaid :=
  Claim7.holds_tied_plain_at .later [] [.data, .data, .data] true Rows.deltaTellsCard.stood.harness false
    row_holds (fun _ h => by cases h) (by kernel_rfl) (fun _ h => by cases h) deltaTells_row_tie rfl ⟨rfl, rfl⟩ (by kernel_rfl) rfl
    (fun f fn hf hfn => by
      obtain rfl : f = 8 := Option.some.inj ((show Tryd.prog.funcNamed Rows.deltaTellsRow.func = some 8 by kernel_rfl).symm.trans hf) |>.symm
      obtain rfl : fn = Tryd.f8 := (Option.some.inj (Tryd.func8.symm.trans hfn)).symm
      exact ⟨by kernel_rfl, fun j t ht => by
        rw [Tryd.params8] at ht
        have hm := Array.mem_of_getElem? ht
        have hall : ((Tryd.f8.params.toList).all fun u => !Tryd.prog.wantsStandIn u) = true := by kernel_rfl
        rw [Tryd.params8] at hall
        exact (show Tryd.prog.wantsStandIn t = false by simpa using List.all_eq_true.1 hall t (by simpa using hm))⟩)
    (by kernel_rfl)

end Go.Proofs.YtnapfhbibikbiaaDoor
end

