/-
  For every input erratalaw29.StoreRestores returns true, does not panic, comes to an end, and leaves what came in as it was; the variables that its row lists are as the program's text lays them.
  Conditions: none beyond the given statement's own (StoreRestoresCardSaid).
-/
import Derived.Test.YtebnciehcnedjaaGreatDoorSRs9
import Derived.Test.YtebnciehcnedjaaGreatDoorSRs8
import Derived.Test.YtebnciehcnedjaaGreatDoorCards
import Derived.MakeChecks
import Derived.Stop.LaidErr
import Derived.Lib.LaidTab
import Derived.Test.YtebnciehcnedjaaGreatDoorTie
import Derived.SevenTiedAt
import Derived.LaidMore
import Derived.ChangeMaps5
import Derived.Test.YtebnciehcnedjaaGreatDoorRows

/-
  The reference's reader of encodings: numbers and strings, walked.
-/
section
set_option linter.unusedVariables false
set_option linter.unusedSimpArgs false
namespace Go.Proofs.YtebnciehcnedjaaGreatDoor
open Go.Vc


/-! ### plain -/
def minZ64 : Int := -9223372036854775808
theorem e_chars {e : UInt8} (he : e.toNat = 58 ∨ e.toNat = 59 ∨ e.toNat = 91) {n : Int} : e ∉ Lib.itoa n := fun h => by have := itoa_chars h; omega
theorem ahead_none {e : UInt8} (he : e.toNat = 58 ∨ e.toNat = 59 ∨ e.toNat = 91) {l : List UInt8} {j : Nat} (h1 : e ∉ l.take j) (h2 : l.length ≤ j ∨ 21 ≤ j) : numP e minZ64 l = none := by
  cases hn : numP e minZ64 l with
  | none => rfl
  | some x =>
    obtain ⟨n, r⟩ := x
    obtain ⟨⟨g1, _⟩, g2⟩ := (numP_iff he).1 hn
    have hl := (itoa_len g1).2
    refine absurd ?_ h1
    rw [g2]
    refine List.mem_of_getElem? (i := (Lib.itoa n).length) ?_
    have hlt : (Lib.itoa n).length < j := by
      rcases h2 with h2 | h2
      · rw [g2, List.length_append, List.length_cons] at h2; omega
      · omega
    rw [List.getElem?_take_of_lt hlt, List.getElem?_append_right (Nat.le_refl _), Nat.sub_self]
    rfl
theorem ahead_some {e : UInt8} (he : e.toNat = 58 ∨ e.toNat = 59 ∨ e.toNat = 91) {l : List UInt8} {j : Nat} (hj : l[j]? = some e) {n : Int} (hn : I64 n) (h : l.take j = Lib.itoa n) : numP e minZ64 l = some (n, l.drop (j + 1)) := by
  refine (numP_iff he).2 ⟨⟨hn, hn.1⟩, ?_⟩
  obtain ⟨hl, he2⟩ := List.getElem?_eq_some_iff.1 hj
  rw [← h, ← he2, ← List.drop_eq_getElem_cons hl, List.take_append_drop]
theorem ahead_bad {e : UInt8} (he : e.toNat = 58 ∨ e.toNat = 59 ∨ e.toNat = 91) {l : List UInt8} {j : Nat} (h1 : e ∉ l.take j) (hj : l[j]? = some e) (h : ∀ n, I64 n → l.take j ≠ Lib.itoa n) : numP e minZ64 l = none := by
  cases hn : numP e minZ64 l with
  | none => rfl
  | some x =>
    obtain ⟨n, r⟩ := x
    obtain ⟨⟨g1, _⟩, g2⟩ := (numP_iff he).1 hn
    refine absurd ?_ (h n g1)
    have hjl := (List.getElem?_eq_some_iff.1 hj).1
    rcases Nat.lt_trichotomy j (Lib.itoa n).length with hlt | heq | hgt
    · rw [g2, List.getElem?_append_left hlt] at hj
      exact absurd (List.mem_of_getElem? hj) (e_chars he)
    · rw [g2, heq, List.take_left]
    · refine absurd ?_ h1
      rw [g2]
      refine List.mem_of_getElem? (i := (Lib.itoa n).length) ?_
      rw [List.getElem?_take_of_lt hgt, List.getElem?_append_right (Nat.le_refl _), Nat.sub_self]
      rfl
theorem numP_zero {e : UInt8} (he : e.toNat = 58 ∨ e.toNat = 59 ∨ e.toNat = 91) (l : List UInt8) : numP e 0 l = (numP e minZ64 l).bind fun x => if x.1 < 0 then none else some x := by
  cases hn : numP e minZ64 l with
  | none =>
    cases h0 : numP e 0 l with
    | none => rfl
    | some x =>
      obtain ⟨n, r⟩ := x
      obtain ⟨⟨g1, g2⟩, g3⟩ := (numP_iff he).1 h0
      have := (numP_iff he (least := minZ64)).2 ⟨⟨g1, g1.1⟩, g3⟩
      rw [hn] at this
      cases this
  | some x =>
    obtain ⟨n, r⟩ := x
    obtain ⟨⟨g1, _⟩, g3⟩ := (numP_iff he).1 hn
    simp only [Option.bind_some]
    split
    · rename_i hneg
      cases h0 : numP e 0 l with
      | none => rfl
      | some y =>
        obtain ⟨m, q⟩ := y
        obtain ⟨⟨k1, k2⟩, k3⟩ := (numP_iff he).1 h0
        have := (numP_iff he (least := minZ64)).2 ⟨⟨k1, k1.1⟩, k3⟩
        rw [hn] at this
        cases this
        omega
    · exact (numP_iff he).2 ⟨⟨g1, by omega⟩, g3⟩
theorem stepN_zero {e : UInt8} (he : e.toNat = 58 ∨ e.toNat = 59 ∨ e.toNat = 91) (st : RdS) : stepN e 0 st = if (stepN e minZ64 st).1 < 0 then (0, ([], true)) else stepN e minZ64 st := by
  unfold stepN
  rw [numP_zero he]
  cases hn : numP e minZ64 st.1 with
  | none => simp
  | some x =>
    obtain ⟨n, r⟩ := x
    simp only [Option.bind_some]
    by_cases h : n < 0
    · rw [if_pos h, if_pos h]
    · rw [if_neg h, if_neg h]
section
variable {W w : World} {R G S : List Own} {Φ : PW} {b : Nat} {st : RdS}

/-! ### walked -/
abbrev rq (b : Nat) (st : RdS) : Own := .blk b [.string (bs st.1), .bool st.2] 112

theorem Open01_to [Stable Φ] (l : List UInt8) (c : Ctx W w (S ++ G) Φ) {K : Option Addr → List Own → PW → Prop} (hk : ∀ b, K (some ⟨b, 0, none⟩) (rq b (l, false) :: S) Φ) :
    Calls Tryz.prog F.errataref01_Open #[.string (bs l)] w fun e w' => ∃ p, e = .returned (.pointer p) ∧ ∃ R' Φ', Stable Φ' ∧ Ctx W w' (R' ++ G) Φ' ∧ K p R' Φ' := by
  refine (Berrataref01_Open_run (bs l) (J := fun u w' => ∃ p, (Ending.returned u) = .returned (.pointer p) ∧ ∃ R' Φ', Stable Φ' ∧ Ctx W w' (R' ++ G) Φ' ∧ K p R' Φ') c ?_).mono fun e w' ⟨v, he, hj⟩ => by rw [he]; exact hj
  exact fun b w G2 cx => ⟨_, rfl, rq b (l, false) :: S, Φ, inferInstance, Ctx.left (S := rq b (l, false) :: (S ++ G)) cx, hk b⟩
theorem fail01_to [Stable Φ] (c : Ctx W w (rq b st :: S ++ G) Φ) {K : Int → List Own → PW → Prop} (hk : K 0 (rq b ([], true) :: S) Φ) :
    Calls Tryz.prog F.errataref01_Reader_fail #[.pointer (some ⟨b, 0, none⟩)] w fun e w' => ∃ n, e = .returned (.int .i64 n) ∧ ∃ R' Φ', Stable Φ' ∧ Ctx W w' (R' ++ G) Φ' ∧ K n R' Φ' := by
  refine (Berrataref01_Reader_fail_run b 0 (J := fun u w' => ∃ n, (Ending.returned u) = .returned (.int .i64 n) ∧ ∃ R' Φ', Stable Φ' ∧ Ctx W w' (R' ++ G) Φ' ∧ K n R' Φ') (R := rq b st :: (S ++ G)) c ?_).mono fun e w' ⟨v, he, hj⟩ => by rw [he]; exact hj
  refine fun w G2 cx => ⟨cx.can 0 rfl (by simp), fun w' hw' => ⟨.blk b [.string (bs []), .bool st.2] 112 :: (S ++ G), Φ, inferInstance, cx.put 0 hw' rfl, fun w G2 cx => ⟨cx.can 0 rfl (by simp), fun w' hw' => ⟨rq b ([], true) :: (S ++ G), Φ, inferInstance, cx.put 0 hw' rfl, fun w G2 cx => ⟨0, rfl, rq b ([], true) :: S, Φ, inferInstance, cx.left, hk⟩⟩⟩⟩⟩

set_option maxHeartbeats 1000000 in
theorem ahead_to [Stable Φ] {e : Int} (he : e = 58 ∨ e = 59 ∨ e = 91) (hl : st.1.length ≤ 1000000000) (c : Ctx W w (rq b st :: S ++ G) Φ) {K : Int → List Own → PW → Prop}
    (hk : K (stepN e.toNat.toUInt8 minZ64 st).1 (rq b (stepN e.toNat.toUInt8 minZ64 st).2 :: S) Φ) :
    Calls Tryz.prog F.errataref01_Reader_ahead #[.pointer (some ⟨b, 0, none⟩), .int .u8 e] w fun e w' => ∃ n, e = .returned (.int .i64 n) ∧ ∃ R' Φ', Stable Φ' ∧ Ctx W w' (R' ++ G) Φ' ∧ K n R' Φ' := by
  refine (Berrataref01_Reader_ahead_run b 0 e (J := fun u w' => ∃ n, (Ending.returned u) = .returned (.int .i64 n) ∧ ∃ R' Φ', Stable Φ' ∧ Ctx W w' (R' ++ G) Φ' ∧ K n R' Φ') (R := rq b st :: (S ++ G)) c ?_).mono fun e w' ⟨v, he, hj⟩ => by rw [he]; exact hj
  clear c
  obtain ⟨l, bad⟩ := st
  have hl : l.length ≤ 1000000000 := hl
  obtain ⟨c, hc⟩ : ∃ c : UInt8, e.toNat.toUInt8 = c := ⟨_, rfl⟩
  have hce : (c.toNat : Int) = e ∧ (c.toNat = 58 ∨ c.toNat = 59 ∨ c.toNat = 91) := by
    rcases he with rfl | rfl | rfl <;> subst hc <;> decide
  obtain ⟨hce, hc3⟩ := hce
  rw [hc] at hk
  have hsz : (bs l).size = l.length := bs_size l
  have none_ : numP c minZ64 l = none → ∀ {w : World} {G2 : List Own}, Ctx W w (rq b (l, bad) :: (S ++ G) ++ G2) Φ → Calls Tryz.prog F.errataref01_Reader_fail #[.pointer (some ⟨b, 0, none⟩)] w fun e25 w26 => ∃ n27, e25 = .returned (.int .i64 n27) ∧ ∃ R28 Φ29, Stable Φ29 ∧ Ctx W w26 (R28 ++ G2) Φ29 ∧ ∀ (w30 : World) (R31 : List Own), Ctx W w30 (R28 ++ R31) Φ29 → ∃ n, (Ending.returned (Value.int .i64 n27)) = .returned (.int .i64 n) ∧ ∃ R' Φ', Stable Φ' ∧ Ctx W w30 (R' ++ G) Φ' ∧ K n R' Φ' := fun h {w G2} cx => by
    rw [stepN_none h] at hk
    exact fail01_to (S := S ++ G) (G := G2) cx fun w G3 cx => ⟨0, rfl, rq b ([], true) :: S, Φ, inferInstance, Ctx.left (S := rq b ([], true) :: (S ++ G)) cx, hk⟩
  refine exI_mk (fun jI R' Φ' k => ∃ j : Nat, jI = j ∧ j ≤ l.length ∧ j ≤ 21 ∧ c ∉ l.take j ∧ R' = rq b (l, bad) :: (S ++ G) ∧ Φ' = Φ ∧ k = l.length - j) ⟨⟨_, _, _, inferInstance, fun w G cx => cx, 0, rfl, Nat.zero_le _, by omega, by simp, rfl, rfl, rfl⟩, ?_⟩
  rintro jI R1 Φ1 k _ ⟨j, rfl, hj, hj21, hn, rfl, rfl, rfl⟩
  have cell : ∀ {w : World} {G2 : List Own}, Ctx W w (rq b (l, bad) :: (S ++ G) ++ G2) Φ1 → w.cell? ⟨b, 0, none⟩ = some (.string (bs l)) := fun cx => cx.get 0 rfl rfl
  have hbyte : ∀ {i : Nat}, i < l.length → (bs l).data.toList.get?Internal ((i : Int)).toNat = some (l[i]?.getD 0) ∧ l[i]? = some (l[i]?.getD 0) := fun {i} hi => by
    rw [bs_list, getI, Int.toNat_natCast, List.getElem?_eq_getElem hi]
    exact ⟨rfl, rfl⟩
  refine fun w G2 cx => ⟨bs l, cell cx, bs l, fun _ => cell cx, l[j]?.getD 0, fun h => ?_, ?_⟩
  · rw [Bool.and_eq_true, hsz] at h
    have h := of_decide_eq_true h.1
    exact ⟨by omega, (hbyte (by omega)).1⟩
  clear cx
  rw [hsz]
  refine Br.intro (fun h => ?_) (fun h => fun w G2 cx => ⟨bs l, cell cx, ?_⟩)
  · rw [Bool.and_eq_true, Bool.and_eq_true] at h
    have h1 := of_decide_eq_true h.1.1
    have h2 := of_decide_eq_true h.1.2
    have h3 := of_decide_eq_true h.2
    have hjl : j < l.length := by omega
    refine ⟨by unfold I64; omega, _, _, l.length - (j + 1), inferInstance, fun w G cx => cx, ⟨j + 1, by omega, hjl, by omega, fun hm => ?_, rfl, rfl, rfl⟩, by omega⟩
    rw [List.take_succ_eq_append_getElem hjl] at hm
    rcases List.mem_append.1 hm with hm | hm
    · exact hn hm
    · rw [List.getElem?_eq_getElem hjl] at h3
      rw [← List.mem_singleton.1 hm] at h3
      exact h3 (by simpa using hce)
  · clear cx
    rw [hsz]
    refine Br.intro (fun h1 => fun w G2 cx => none_ (ahead_none hc3 hn (.inl (by have := of_decide_eq_true h1; omega))) cx) (fun h1 => fun w G2 cx => ⟨bs l, cell cx, ?_⟩)
    clear cx
    have hjl : j < l.length := by have := of_decide_eq_false h1; omega
    obtain ⟨hb1, hb2⟩ := hbyte hjl
    refine ⟨_, ⟨by omega, hb1⟩, Br.intro (fun h2 => fun w G2 cx => none_ (ahead_none hc3 hn (.inr ?_)) cx) (fun h2 => fun w G2 cx => ⟨bs l, cell cx, ⟨by omega, by rw [hsz]; omega⟩, fun w G2 cx => ?_⟩)⟩
    · rw [Bool.and_eq_false_iff, Bool.and_eq_false_iff] at h
      rcases h with (h | h) | h
      · have := of_decide_eq_false h; omega
      · have := of_decide_eq_false h; omega
      · exact absurd (of_decide_eq_true h2) (of_decide_eq_false h)
    · have h2 : ((l[j]?.getD 0).toNat : Int) = e := Decidable.not_not.1 (of_decide_eq_false h2)
      have hje : l[j]? = some c := by
        rw [hb2]
        congr 1
        apply UInt8.toNat_inj.1
        omega
      rw [bs_ext, Int.toNat_natCast, List.drop_zero, Nat.sub_zero]
      refine Back_to (R := rq b (l, bad) :: (S ++ G)) (l.take j) (by rw [List.length_take]; omega) cx (fun n hnI hnE => ?_) (fun hbad m => ?_)
      · refine Br.intro (fun h => by cases h) (fun _ => fun w G2 cx => ⟨bs l, cell cx, by unfold I64; omega, ⟨by omega, by rw [hsz]; omega, Nat.le_refl _⟩, fun w G2 cx => ⟨cx.can 0 rfl (by simp), fun w' hw' => ?_⟩⟩)
        rw [stepN_some (ahead_some hc3 hje hnI hnE)] at hk
        have c2 := cx.put 0 hw' rfl
        have e1 : (bs l).extract ((j : Int) + 1).toNat (bs l).size = bs (l.drop (j + 1)) := by
          rw [bs_ext, hsz, show ((j : Int) + 1).toNat = j + 1 by omega, List.take_of_length_le (by rw [List.length_drop]; omega)]
        rw [e1] at c2
        exact ⟨rq b (l.drop (j + 1), bad) :: (S ++ G), Φ1, inferInstance, c2, fun w G2 cx => ⟨n, rfl, rq b (l.drop (j + 1), bad) :: S, Φ1, inferInstance, Ctx.left (S := rq b (l.drop (j + 1), bad) :: (S ++ G)) cx, hk⟩⟩
      · exact Br.intro (fun _ => fun w G2 cx => none_ (ahead_bad hc3 hn hje hbad) cx) (fun h => by cases h)

theorem number01_to [Stable Φ] {e : Int} (he : e = 58 ∨ e = 59 ∨ e = 91) (hl : st.1.length ≤ 1000000000) (c : Ctx W w (rq b st :: S ++ G) Φ) {K : Int → List Own → PW → Prop}
    (hk : K (stepN e.toNat.toUInt8 0 st).1 (rq b (stepN e.toNat.toUInt8 0 st).2 :: S) Φ) :
    Calls Tryz.prog F.errataref01_Reader_number #[.pointer (some ⟨b, 0, none⟩), .int .u8 e] w fun e w' => ∃ n, e = .returned (.int .i64 n) ∧ ∃ R' Φ', Stable Φ' ∧ Ctx W w' (R' ++ G) Φ' ∧ K n R' Φ' := by
  refine (Berrataref01_Reader_number_run b 0 e (J := fun u w' => ∃ n, (Ending.returned u) = .returned (.int .i64 n) ∧ ∃ R' Φ', Stable Φ' ∧ Ctx W w' (R' ++ G) Φ' ∧ K n R' Φ') (R := rq b st :: (S ++ G)) c ?_).mono fun e w' ⟨v, he, hj⟩ => by rw [he]; exact hj
  clear c
  have hc3 : (e.toNat.toUInt8).toNat = 58 ∨ (e.toNat.toUInt8).toNat = 59 ∨ (e.toNat.toUInt8).toNat = 91 := by rcases he with rfl | rfl | rfl <;> decide
  rw [stepN_zero hc3] at hk
  refine fun w G2 cx => ahead_to (S := S ++ G) he hl cx ?_
  clear cx
  refine Br.intro (fun h => fun w G2 cx => ?_) (fun h => fun w G2 cx => ?_)
  · rw [if_pos (of_decide_eq_true h)] at hk
    exact fail01_to (S := S ++ G) cx fun w G2 cx => ⟨0, rfl, rq b ([], true) :: S, Φ, inferInstance, Ctx.left (S := rq b ([], true) :: (S ++ G)) cx, hk⟩
  · rw [if_neg (of_decide_eq_false h)] at hk
    exact ⟨_, rfl, rq b (stepN e.toNat.toUInt8 minZ64 st).2 :: S, Φ, inferInstance, Ctx.left (S := rq b (stepN e.toNat.toUInt8 minZ64 st).2 :: (S ++ G)) cx, hk⟩
theorem Int01r_to [Stable Φ] (hl : st.1.length ≤ 1000000000) (c : Ctx W w (rq b st :: S ++ G) Φ) {K : Int → List Own → PW → Prop} (hk : K (rdInt st).1 (rq b (rdInt st).2 :: S) Φ) :
    Calls Tryz.prog F.errataref01_Reader_Int #[.pointer (some ⟨b, 0, none⟩)] w fun e w' => ∃ n, e = .returned (.int .i64 n) ∧ ∃ R' Φ', Stable Φ' ∧ Ctx W w' (R' ++ G) Φ' ∧ K n R' Φ' := by
  refine (Berrataref01_Reader_Int_run b 0 (J := fun u w' => ∃ n, (Ending.returned u) = .returned (.int .i64 n) ∧ ∃ R' Φ', Stable Φ' ∧ Ctx W w' (R' ++ G) Φ' ∧ K n R' Φ') (R := rq b st :: (S ++ G)) c ?_).mono fun e w' ⟨v, he, hj⟩ => by rw [he]; exact hj
  exact fun w G2 cx => ahead_to (S := S ++ G) (.inr (.inl rfl)) hl cx fun w G2 cx => ⟨_, rfl, rq b (rdInt st).2 :: S, Φ, inferInstance, Ctx.left (S := rq b (rdInt st).2 :: (S ++ G)) cx, hk⟩
theorem Num01r_to [Stable Φ] (hl : st.1.length ≤ 1000000000) (c : Ctx W w (rq b st :: S ++ G) Φ) {K : Int → List Own → PW → Prop} (hk : K (rdNat st).1 (rq b (rdNat st).2 :: S) Φ) :
    Calls Tryz.prog F.errataref01_Reader_Num #[.pointer (some ⟨b, 0, none⟩)] w fun e w' => ∃ n, e = .returned (.int .i64 n) ∧ ∃ R' Φ', Stable Φ' ∧ Ctx W w' (R' ++ G) Φ' ∧ K n R' Φ' := by
  refine (Berrataref01_Reader_Num_run b 0 (J := fun u w' => ∃ n, (Ending.returned u) = .returned (.int .i64 n) ∧ ∃ R' Φ', Stable Φ' ∧ Ctx W w' (R' ++ G) Φ' ∧ K n R' Φ') (R := rq b st :: (S ++ G)) c ?_).mono fun e w' ⟨v, he, hj⟩ => by rw [he]; exact hj
  exact fun w G2 cx => number01_to (S := S ++ G) (.inr (.inl rfl)) hl cx fun w G2 cx => ⟨_, rfl, rq b (rdNat st).2 :: S, Φ, inferInstance, Ctx.left (S := rq b (rdNat st).2 :: (S ++ G)) cx, hk⟩
theorem Left01_to [Stable Φ] (c : Ctx W w (rq b st :: S ++ G) Φ) {K : Int → List Own → PW → Prop} (hk : K st.1.length (rq b st :: S) Φ) :
    Calls Tryz.prog F.errataref01_Reader_Left #[.pointer (some ⟨b, 0, none⟩)] w fun e w' => ∃ n, e = .returned (.int .i64 n) ∧ ∃ R' Φ', Stable Φ' ∧ Ctx W w' (R' ++ G) Φ' ∧ K n R' Φ' := by
  refine (Berrataref01_Reader_Left_run b 0 (J := fun u w' => ∃ n, (Ending.returned u) = .returned (.int .i64 n) ∧ ∃ R' Φ', Stable Φ' ∧ Ctx W w' (R' ++ G) Φ' ∧ K n R' Φ') (R := rq b st :: (S ++ G)) c ?_).mono fun e w' ⟨v, he, hj⟩ => by rw [he]; exact hj
  exact fun w F1 cx => ⟨bs st.1, cx.get 0 rfl rfl, fun w F1 cx => ⟨st.1.length, by rw [bs_size], rq b st :: S, Φ, inferInstance, cx.left, hk⟩⟩
theorem bs_nil {l : List UInt8} : (bs l = ByteArray.mk #[]) ↔ l = [] := by
  constructor
  · intro h
    have := congrArg (fun x => x.data.toList) h
    exact this
  · intro h; rw [h]; rfl
theorem Done01_to [Stable Φ] (c : Ctx W w (rq b st :: S ++ G) Φ) {K : Bool → List Own → PW → Prop} (hk : K (rdDone st) (rq b st :: S) Φ) :
    Calls Tryz.prog F.errataref01_Reader_Done #[.pointer (some ⟨b, 0, none⟩)] w fun e w' => ∃ c, e = .returned (.bool c) ∧ ∃ R' Φ', Stable Φ' ∧ Ctx W w' (R' ++ G) Φ' ∧ K c R' Φ' := by
  refine (Berrataref01_Reader_Done_run b 0 (J := fun u w' => ∃ c, (Ending.returned u) = .returned (.bool c) ∧ ∃ R' Φ', Stable Φ' ∧ Ctx W w' (R' ++ G) Φ' ∧ K c R' Φ') (R := rq b st :: (S ++ G)) c ?_).mono fun e w' ⟨v, he, hj⟩ => by rw [he]; exact hj
  refine fun w F1 cx => ⟨st.2, cx.get 0 rfl rfl, bs st.1, fun _ => cx.get 0 rfl rfl, fun w F1 cx => ⟨rdDone st, ?_, rq b st :: S, Φ, inferInstance, cx.left, hk⟩⟩
  unfold rdDone
  rw [decide_eq_decide.2 (bs_nil (l := st.1))]
theorem close01_to [Stable Φ] {e : Int} (he : 0 ≤ e ∧ e ≤ 255) (hok : RdOk st) (c : Ctx W w (rq b st :: S ++ G) Φ) {K : Bool → List Own → PW → Prop}
    (hk : K (!(stepC e.toNat.toUInt8 st).2) (rq b (stepC e.toNat.toUInt8 st) :: S) Φ) :
    Calls Tryz.prog F.errataref01_Reader_close #[.pointer (some ⟨b, 0, none⟩), .int .u8 e] w fun e w' => ∃ c, e = .returned (.bool c) ∧ ∃ R' Φ', Stable Φ' ∧ Ctx W w' (R' ++ G) Φ' ∧ K c R' Φ' := by
  refine (Berrataref01_Reader_close_run b 0 e (J := fun u w' => ∃ c, (Ending.returned u) = .returned (.bool c) ∧ ∃ R' Φ', Stable Φ' ∧ Ctx W w' (R' ++ G) Φ' ∧ K c R' Φ') (R := rq b st :: (S ++ G)) c ?_).mono fun e w' ⟨v, he, hj⟩ => by rw [he]; exact hj
  clear c
  obtain ⟨l, bad⟩ := st
  obtain ⟨c, hc⟩ : ∃ c : UInt8, e.toNat.toUInt8 = c := ⟨_, rfl⟩
  have hce : (c.toNat : Int) = e := by
    subst hc
    have : e.toNat.toUInt8.toNat = e.toNat % 256 := by simp [Nat.toUInt8]
    omega
  rw [hc] at hk
  have hsz : (bs l).size = l.length := bs_size l
  have cell : ∀ {w : World} {G2 : List Own}, Ctx W w (rq b (l, bad) :: (S ++ G) ++ G2) Φ → w.cell? ⟨b, 0, none⟩ = some (.string (bs l)) := fun cx => cx.get 0 rfl rfl
  have none_ : stepC c (l, bad) = ([], true) → ∀ {w : World} {G2 : List Own}, Ctx W w (rq b (l, bad) :: (S ++ G) ++ G2) Φ → Calls Tryz.prog F.errataref01_Reader_fail #[.pointer (some ⟨b, 0, none⟩)] w fun e25 w26 => ∃ n27, e25 = .returned (.int .i64 n27) ∧ ∃ R28 Φ29, Stable Φ29 ∧ Ctx W w26 (R28 ++ G2) Φ29 ∧ ∀ (w30 : World) (R31 : List Own), Ctx W w30 (R28 ++ R31) Φ29 → ∃ c, (Ending.returned (Value.bool false)) = .returned (.bool c) ∧ ∃ R' Φ', Stable Φ' ∧ Ctx W w30 (R' ++ G) Φ' ∧ K c R' Φ' := fun h {w G2} cx => by
    rw [h] at hk
    exact fail01_to (S := S ++ G) (G := G2) cx fun w G3 cx => ⟨false, rfl, rq b ([], true) :: S, Φ, inferInstance, Ctx.left (S := rq b ([], true) :: (S ++ G)) cx, hk⟩
  refine fun w G2 cx => ⟨bs l, cell cx, ?_⟩
  clear cx
  rw [hsz]
  cases l with
  | nil => exact Br.intro (fun _ => fun w G2 cx => none_ rfl cx) (fun h => absurd rfl (of_decide_eq_false h))
  | cons x r =>
    refine Br.intro (fun h => by have := of_decide_eq_true h; rw [List.length_cons] at this; omega) (fun _ => fun w G2 cx => ⟨_, cell cx, x, ⟨by decide, rfl⟩, ?_⟩)
    clear cx
    refine Br.intro (fun h => fun w G2 cx => none_ (by unfold stepC; simp only; rw [if_neg fun e => of_decide_eq_true h (by rw [e]; exact hce)]) cx) (fun h => fun w G2 cx => ⟨_, cell cx, ⟨by decide, by rw [hsz, List.length_cons]; omega, Nat.le_refl _⟩, fun w G2 cx => ⟨cx.can 0 rfl (by simp), fun w' hw' => ?_⟩⟩)
    have hxc : x = c := by
      have := Decidable.not_not.1 (of_decide_eq_false h)
      apply UInt8.toNat_inj.1
      omega
    have hst : stepC c (x :: r, bad) = (r, bad) := by unfold stepC; simp only; rw [if_pos hxc]
    rw [hst] at hk
    have hbad : bad = false := by
      cases hb : bad with
      | false => rfl
      | true => have := hok hb; cases this
    have c2 := cx.put 0 hw' rfl
    have e1 : (bs (x :: r)).extract 1 (bs (x :: r)).size = bs r := by
      rw [bs_ext, hsz, List.drop_succ_cons, List.drop_zero, List.length_cons, List.take_of_length_le (by omega)]
    rw [e1] at c2
    rw [hbad] at hk c2
    exact ⟨rq b (r, false) :: (S ++ G), Φ, inferInstance, c2, fun w G2 cx => ⟨true, rfl, rq b (r, false) :: S, Φ, inferInstance, Ctx.left (S := rq b (r, false) :: (S ++ G)) cx, hk⟩⟩
theorem stepT_bad {st : RdS} (h : RdOk (stepN 58 0 st).2) (hb : (stepN 58 0 st).2.2 = true ∨ ((stepN 58 0 st).2.1.length : Int) ≤ (stepN 58 0 st).1) : stepT st = (ByteArray.mk #[], ([], true)) := by
  unfold stepT
  simp only
  have hn := stepN_nonneg (e := 58) (.inl rfl) st
  split
  · rfl
  · rename_i hlt
    have hd : (stepN 58 0 st).2.1.drop (stepN 58 0 st).1.toNat = [] := by
      rcases hb with hb | hb
      · rw [h hb, List.drop_nil]
      · exact List.drop_of_length_le (by omega)
    rw [hd]
    rfl
set_option maxHeartbeats 1000000 in
theorem Text01r_to [Stable Φ] (hok : RdOk st) (hl : st.1.length ≤ 1000000000) (c : Ctx W w (rq b st :: S ++ G) Φ) {K : ByteArray → List Own → PW → Prop} (hk : K (stepT st).1 (rq b (stepT st).2 :: S) Φ) :
    Calls Tryz.prog F.errataref01_Reader_Text #[.pointer (some ⟨b, 0, none⟩)] w fun e w' => ∃ s, e = .returned (.string s) ∧ ∃ R' Φ', Stable Φ' ∧ Ctx W w' (R' ++ G) Φ' ∧ K s R' Φ' := by
  refine (Berrataref01_Reader_Text_run b 0 (J := fun u w' => ∃ s, (Ending.returned u) = .returned (.string s) ∧ ∃ R' Φ', Stable Φ' ∧ Ctx W w' (R' ++ G) Φ' ∧ K s R' Φ') (R := rq b st :: (S ++ G)) c ?_).mono fun e w' ⟨v, he, hj⟩ => by rw [he]; exact hj
  clear c
  refine fun w G2 cx => number01_to (S := S ++ G) (.inl rfl) hl cx ?_
  clear cx
  rw [show ((58 : Int).toNat.toUInt8) = (58 : UInt8) from rfl]
  have hok1 := stepN_ok (e := 58) (least := 0) hok
  have hbd := stepT_bad (st := st) hok1
  have hn := stepN_nonneg (e := 58) (.inl rfl) st
  have hlen := stepN_len 58 0 st
  have hT : stepT st = if ((stepN 58 0 st).2.1.length : Int) < (stepN 58 0 st).1 then (ByteArray.mk #[], ([], true)) else (if (stepC 44 ((stepN 58 0 st).2.1.drop (stepN 58 0 st).1.toNat, (stepN 58 0 st).2.2)).2 then ByteArray.mk #[] else bs ((stepN 58 0 st).2.1.take (stepN 58 0 st).1.toNat), stepC 44 ((stepN 58 0 st).2.1.drop (stepN 58 0 st).1.toNat, (stepN 58 0 st).2.2)) := rfl
  obtain ⟨⟨n, l, bad⟩, ha⟩ : ∃ a, stepN 58 0 st = a := ⟨_, rfl⟩
  rw [ha] at hok1 hbd hn hlen hT ⊢
  simp only at hok1 hbd hn hlen hT ⊢
  have hsz : (bs l).size = l.length := bs_size l
  have cell : ∀ {w : World} {G2 : List Own}, Ctx W w (rq b (l, bad) :: (S ++ G) ++ G2) Φ → w.cell? ⟨b, 0, none⟩ = some (.string (bs l)) := fun cx => cx.get 0 rfl rfl
  refine fun w G2 cx => ⟨bad, cx.get 0 rfl rfl, bs l, fun _ => cell cx, ?_⟩
  clear cx
  rw [hsz]
  refine Br.intro (fun h => fun w G2 cx => fail01_to (S := S ++ G) cx fun w G2 cx => ?_) (fun h => fun w G2 cx => ⟨bs l, cell cx, ?_, fun w G2 cx => ⟨bs l, cell cx, ?_, fun w G2 cx => ⟨cx.can 0 rfl (by simp), fun w' hw' => ?_⟩⟩⟩)
  · rw [Bool.or_eq_true] at h
    rw [hbd (h.elim .inl fun h => .inr (of_decide_eq_true h))] at hk
    exact ⟨_, rfl, rq b ([], true) :: S, Φ, inferInstance, Ctx.left (S := rq b ([], true) :: (S ++ G)) cx, hk⟩
  all_goals rw [Bool.or_eq_false_iff] at h
  all_goals have h1 := of_decide_eq_false h.2
  · rw [hsz]; omega
  · rw [hsz]; exact ⟨by omega, by omega, Nat.le_refl _⟩
  · have c2 := cx.put 0 hw' rfl
    have e1 : (bs l).extract n.toNat (bs l).size = bs (l.drop n.toNat) := by
      rw [bs_ext, hsz, List.take_of_length_le (by rw [List.length_drop]; omega)]
    rw [e1] at c2
    have hok2 : RdOk (l.drop n.toNat, bad) := fun hb => by
      have : bad = true := hb
      rw [h.1] at this; cases this
    rw [if_neg (by omega)] at hT
    rw [hT] at hk
    refine ⟨rq b (l.drop n.toNat, bad) :: (S ++ G), Φ, inferInstance, c2, fun w G2 cx => close01_to (S := S ++ G) (st := (l.drop n.toNat, bad)) (e := 44) (by decide) hok2 cx ?_⟩
    clear cx c2
    rw [show ((44 : Int).toNat.toUInt8) = (44 : UInt8) from rfl]
    obtain ⟨c, hcq⟩ : ∃ c, stepC 44 (l.drop n.toNat, bad) = c := ⟨_, rfl⟩
    rw [hcq] at hk ⊢
    refine Br.intro (fun h2 => fun w G2 cx => ⟨_, rfl, rq b c :: S, Φ, inferInstance, Ctx.left (S := rq b c :: (S ++ G)) cx, ?_⟩) (fun h2 => fun w G2 cx => ⟨_, rfl, rq b c :: S, Φ, inferInstance, Ctx.left (S := rq b c :: (S ++ G)) cx, ?_⟩)
    · have h2 : c.2 = true := by simpa using h2
      simp only [h2, if_true] at hk
      exact hk
    · have h2 : c.2 = false := by simpa using h2
      have e2 : (bs l).extract 0 n.toNat = bs (l.take n.toNat) := by rw [bs_ext, List.drop_zero, Nat.sub_zero]
      rw [e2]
      simp only [h2] at hk
      exact hk
end
end Go.Proofs.YtebnciehcnedjaaGreatDoor
end

/-
  The reference's Restore, walked.
-/
section
set_option linter.unusedVariables false
set_option linter.unusedSimpArgs false
namespace Go.Proofs.YtebnciehcnedjaaGreatDoor
open Go.Vc


theorem stepT_nil {st : RdS} (h : st.1 = []) : stepT st = (tE, ([], true)) := by
  obtain ⟨l, b⟩ := st
  simp only at h
  subst h
  have e : stepN 58 0 (([] : List UInt8), b) = (0, ([], true)) := by
    unfold stepN
    rw [numP_nil]
  unfold stepT
  rw [e]
  rfl
theorem stop_nil {acc : Run} {st : RdS} (h : st.1 = []) : stopB acc st = true := by
  unfold stopB valT
  rw [stepT_nil h, stepT_nil rfl, decide_eq_true rfl]
  rfl

set_option maxHeartbeats 4000000 in
theorem Restore29_use {W w : World} {S : List Own} {Φ : PW} [Stable Φ] (l : List UInt8) (hl : l.length ≤ 1000000) (cx : Ctx W w S Φ) {K : Ending → World → Prop}
    (h0 : ∀ w', restL l = none → Ctx W w' S Φ → K (.returned (.tuple #[.pointer none, .bool false])) w')
    (h1 : ∀ q s w', restL l = some s → RfQ q s → Ctx W w' (rfO q s S) (fun M w => Φ M w ∧ rfF q s M w) → K (.returned (.tuple #[.pointer (some ⟨q.sb, 0, none⟩), .bool true])) w') :
    Calls Tryz.prog F.errataref29_Restore #[.string (bs l)] w K := by
  refine (Merrataref29_Restore_run (bs l) (J := fun u w' => K (.returned u) w') cx ?_).mono fun e w' ⟨v, he, hj⟩ => by rw [he]; exact hj
  clear cx
  refine fun w G cx => Open01_to l cx fun b w G cx => ?_
  refine Int01r_to (by show l.length ≤ _; omega) cx ?_
  have hlen1 : (rdInt (l, false)).2.1.length ≤ l.length := stepN_len 59 (-9223372036854775808) (l, false)
  have hok1 : RdOk (rdInt (l, false)).2 := rdInt_ok (rdOk0 l)
  unfold restL at h0 h1
  have hsq := rdInt_i64 (l, false)
  obtain ⟨⟨sq, st1⟩, e1⟩ : ∃ x, rdInt (l, false) = x := ⟨_, rfl⟩
  rw [e1] at h0 h1 hlen1 hsq hok1 ⊢
  simp only at h0 h1 hlen1 hsq hok1 ⊢
  refine fun kb w G cx => ?_
  have cx1 : Ctx W w (rq b st1 :: (Own.blk kb [.slice none 0 0, .slice none 0 0, .int .i64 sq, .slice none 0 0, .int .i64 0] 60 :: S) ++ G) Φ := cx.swap
  clear cx
  refine Num01r_to (by omega) cx1 ?_
  clear cx1
  have hlen2 : (rdNat st1).2.1.length ≤ st1.1.length := stepN_len 59 0 st1
  have hN : 0 ≤ (rdNat st1).1 := (stepN_nonneg (e := 59) (.inr (.inl rfl)) st1).1
  have hok2 : RdOk (rdNat st1).2 := rdNat_ok hok1
  obtain ⟨⟨N, st2⟩, e2⟩ : ∃ x, rdNat st1 = x := ⟨_, rfl⟩
  rw [e2] at h0 h1 hlen2 hN hok2 ⊢
  simp only at h0 h1 hlen2 hN hok2 ⊢
  obtain ⟨B, hB⟩ : ∃ B, Own.blk kb [.slice none 0 0, .slice none 0 0, .int .i64 sq, .slice none 0 0, .int .i64 0] 60 = B := ⟨_, rfl⟩
  rw [hB]
  refine exI_mk (fun p n c R' Φ' => ∃ (acc : Run) (st : RdS), n = acc.length ∧ (((acc.length : Int) = N ∧ pairsK N.toNat st2 [] = some (acc, st)) ∨ ((acc.length : Int) ≠ N ∧ pairsK N.toNat st2 [] = none)) ∧ st.1.length ≤ l.length ∧ acc.length ≤ l.length ∧ (∀ x ∈ acc, x.key.size ≤ l.length ∧ x.val.size ≤ l.length) ∧ R' = rq b st :: tabO p c acc :: B :: S ∧ Φ' = Φ) ⟨?_, ?_⟩
  · refine exI_mk (fun p n c nI R' Φ' k => ∃ (acc : Run) (st : RdS), n = acc.length ∧ nI = acc.length ∧ pairsK (N.toNat - acc.length) st acc = pairsK N.toNat st2 [] ∧ acc.length ≤ N.toNat ∧ acc.length + st.1.length ≤ l.length ∧ (∀ x ∈ acc, x.key.size ≤ l.length ∧ x.val.size ≤ l.length) ∧ RdOk st ∧ R' = rq b st :: tabO p c acc :: B :: S ∧ Φ' = Φ ∧ k = N.toNat - acc.length)
      ⟨⟨rq b st2 :: tabO none 0 [] :: B :: S, Φ, _, inferInstance, fun w G cx => (Ctx.nobuf cx 69 2).swap, [], st2, rfl, rfl, by rw [List.length_nil, Nat.sub_zero], by simp, by simp only [List.length_nil]; omega, fun x hx => (by cases hx), hok2, rfl, rfl, rfl⟩, ?_⟩
    rintro p n c nI R1 Φ1 k _ ⟨acc, st, rfl, rfl, hK, hle, hlen, hsz, hok, rfl, rfl, rfl⟩
    refine Br.intro (fun hlt => fun w G cx => ?_) (fun hge => ?_)
    · have hlt : acc.length < N.toNat := by have := of_decide_eq_true hlt; omega
      obtain ⟨m, hm⟩ : ∃ m, N.toNat - acc.length = m + 1 := ⟨N.toNat - acc.length - 1, by omega⟩
      rw [hm, show pairsK (m + 1) st acc = if stopB acc st = true then none else pairsK m (nextT st) (acc ++ [⟨keyT st, valT st⟩]) from rfl] at hK
      refine Left01_to cx ?_
      refine Br.intro (fun hl0 => fun w G cx => ?_) (fun hl0 => ?_)
      rotate_left
      · have hl0 : st.1 = [] := List.eq_nil_of_length_eq_zero (by have := of_decide_eq_false hl0; omega)
        rw [if_pos (stop_nil hl0)] at hK
        exact ⟨_, _, inferInstance, fun w G cx => cx, acc, st, rfl, .inr ⟨by omega, hK.symm⟩, by omega, by omega, hsz, rfl, rfl⟩
      have ha := stepT_len st
      have hb := stepT_len (stepT st).2
      refine Text01r_to hok (by omega) cx fun b1 w G cx => Text01r_to (stepT_ok hok) (by omega) cx fun w G cx => ?_
      refine ⟨fun _ => by unfold I64; omega, fun hc => ?_, ?_⟩
      · have := of_decide_eq_true ((Bool.and_eq_true _ _).mp hc).2
        omega
      have hptr : ∀ (w : World) (G : List Own), Ctx W w (rq b (nextT st) :: tabO p c acc :: B :: S ++ G) Φ1 → 0 < acc.length → ∃ g, p = some ⟨g, 0, none⟩ := fun w G cx h => e_ptr cx.swap (by rw [idxL_len]; exact h)
      have body : ∀ s52 : ByteArray, (0 < acc.length → s52 = lastKey acc) → ∃ c53 : Bool, ((!decide (valT st = ByteArray.mk #[]) && decide ((0 : Int) < acc.length)) = true → ∀ w, Sem.run Tryz.prog (binOp BinOp.geq 9 (.string s52) (.string (keyT st))) w = .ok (.bool c53) w) ∧ (decide (valT st = ByteArray.mk #[]) || decide ((0 : Int) < acc.length) && c53) = stopB acc st := fun s52 hs => ⟨decide (0 ≤ cmpT s52 (keyT st)), fun _ w => geq_run _ _ _ _, by
        unfold stopB
        by_cases h : (0 : Int) < acc.length
        · rw [hs (by omega)]
        · rw [decide_eq_false h]; rfl⟩
      have hptrK : ∀ {X : Nat → Nat → Prop}, (∀ g o, (0 < acc.length → p = some ⟨g, o, none⟩ ∧ o = 0) → X g o) → ptrK (some (!decide (valT st = ByteArray.mk #[]) && decide ((0 : Int) < acc.length))) p X := fun {X} hX => by
        by_cases h : 0 < acc.length
        · obtain ⟨g, hg⟩ := hptr _ _ cx h
          exact ptrK_intro g 0 hg (hX g 0 fun _ => ⟨hg, rfl⟩)
        · exact ptrK_off (by rw [decide_eq_false (show ¬ (0 : Int) < acc.length by omega), Bool.and_false]) fun g o => hX g o fun h2 => absurd h2 h
      refine hptrK fun g o hg => ⟨lastKey acc, fun hc => ?_, ?_⟩
      · have h3 := of_decide_eq_true ((Bool.and_eq_true _ _).mp hc).2
        obtain ⟨rfl, rfl⟩ := hg (by omega)
        have h4 := e_row cx.swap (idxL_at 0 acc (acc.length - 1) (by omega))
        rw [lastKey_at (by omega)]
        have h5 := h4 0 (by show 0 < 2; decide)
        rw [show (max ((acc.length : Int) - 1) 0).toNat = acc.length - 1 by omega, Nat.zero_add]
        exact h5
      obtain ⟨c53, hc1, hc2⟩ := body (lastKey acc) fun _ => rfl
      refine ⟨c53, hc1, ?_⟩
      rw [hc2]
      clear hc1 hc2 body hptrK hg
      refine Br.intro (fun hs => fun w G cx => ?_) (fun hs => ?_)
      · rw [hs, if_pos rfl] at hK
        have cx2 : Ctx W w (S ++ G) Φ1 := cx.drop1.drop1.drop1
        exact h0 w (by rw [← hK]) cx2.left
      · rw [if_neg (by rw [hs]; simp)] at hK
        obtain ⟨h3, h4, h5⟩ := pair_eats hs
        refine fun k2 w G cx => ?_
        have hsw : (Own.blk k2 [.string (keyT st), .string (valT st)] 69 :: tabO p c acc :: (rq b (nextT st) :: (B :: S ++ G))).Perm (Own.blk k2 [.string (keyT st), .string (valT st)] 69 :: rq b (nextT st) :: tabO p c acc :: (B :: S ++ G)) := List.Perm.cons _ (List.Perm.swap _ _ _)
        have cx2 := Ctx.perm cx hsw.symm
        have hil := idxL_len 0 acc
        obtain ⟨p', cap', w', hr, _, cx3⟩ := cx2.app1 (ts := 48) (ty := 48) (kb := #[false, false]) (bytes := 32) (P := Tryz.prog) (by kernel_rfl) (by omega) rfl rfl (by omega) (by omega)
        have ea : (acc ++ [(⟨keyT st, valT st⟩ : PairD)]).length = acc.length + 1 := by rw [List.length_append]; rfl
        have eb : cellsE (idxL 0 acc) ++ [Value.string (keyT st), Value.string (valT st)] = cellsE (idxL 0 (acc ++ [(⟨keyT st, valT st⟩ : PairD)])) := by
          rw [idxL_app, cellsE_app]
          rfl
        rw [hil] at hr
        have cx4 : Ctx W w' (rq b (nextT st) :: tabO p' cap' (acc ++ [(⟨keyT st, valT st⟩ : PairD)]) :: (B :: S ++ G)) Φ1 := by
          have h6 := cx3.swap
          rw [eb, hil] at h6
          show Ctx W w' (rq b (nextT st) :: Own.buf p' (idxL 0 (acc ++ [(⟨keyT st, valT st⟩ : PairD)])).length cap' (cellsE (idxL 0 (acc ++ [(⟨keyT st, valT st⟩ : PairD)]))) _ 2 :: (B :: S ++ G)) Φ1
          rw [idxL_len, ea]
          exact h6
        have e5 := show (stepT (stepT st).2).2.1.length + 3 ≤ st.1.length from h3
        refine ⟨p', _, cap', w', hr, rq b (nextT st) :: tabO p' cap' (acc ++ [(⟨keyT st, valT st⟩ : PairD)]) :: B :: S, Φ1, inferInstance, cx4, by unfold I64; omega, _, Φ1, N.toNat - (acc.length + 1), inferInstance, fun w G cx => cx, ⟨acc ++ [(⟨keyT st, valT st⟩ : PairD)], nextT st, by rw [ea], by rw [ea]; omega, ?_, by rw [ea]; omega, by rw [ea]; omega, fun x hx => ?_, stepT_ok (stepT_ok hok), rfl, rfl, by rw [ea]⟩, by omega⟩
        · rw [ea, show N.toNat - (acc.length + 1) = m by omega]
          exact hK
        · rcases List.mem_append.1 hx with hx | hx
          · exact hsz x hx
          · rw [List.mem_singleton.1 hx]
            exact ⟨by show (keyT st).size ≤ _; omega, by show (valT st).size ≤ _; omega⟩
    · have hge : acc.length = N.toNat := by have := of_decide_eq_false hge; omega
      rw [show N.toNat - acc.length = 0 by omega, show pairsK 0 st acc = some (acc, st) from rfl] at hK
      exact ⟨_, _, inferInstance, fun w G cx => cx, acc, st, rfl, .inl ⟨by omega, hK.symm⟩, by omega, by omega, hsz, rfl, rfl⟩
  rintro p n c R1 Φ1 _ ⟨acc, st, rfl, hK, hsl, hal, hsz, rfl, rfl⟩
  have drop : ∀ (w : World) (G : List Own), Ctx W w (rq b st :: tabO p c acc :: B :: S ++ G) Φ1 → Ctx W w S Φ1 := fun w G cx => by
    have cx2 : Ctx W w (S ++ G) Φ1 := cx.drop1.drop1.drop1
    exact cx2.left
  refine fun w G cx => Done01_to cx ?_
  rcases hK with ⟨hn, hK⟩ | ⟨hn, hK⟩
  rotate_left
  · rw [hK] at h0
    exact Br.intro (fun _ => fun w G cx => h0 w rfl (drop w G cx)) (fun _ => Br.intro (fun _ => fun w G cx => h0 w rfl (drop w G cx)) (fun h => absurd hn (of_decide_eq_false h)))
  rw [hK] at h0 h1
  simp only at h0 h1
  refine Br.intro (fun hd => fun w G cx => h0 w (if_neg fun h => by rw [h.1.1] at hd; cases hd) (drop w G cx)) (fun hd => Br.intro (fun h => absurd hn (of_decide_eq_true h)) (fun _ => fun w G cx => ⟨sq, by rw [← hB] at cx; exact cx.get 2 rfl rfl, Br.intro (fun hn => fun w G cx => h0 w (if_neg fun h => by have := of_decide_eq_true hn; omega) (drop w G cx)) (fun hn => fun w G cx => ⟨sq, by rw [← hB] at cx; exact cx.get 2 rfl rfl, Br.intro (fun hx => fun w G cx => h0 w (if_neg fun h => by have := of_decide_eq_true hx; omega) (drop w G cx)) (fun hx => fun w G cx => ⟨sq, by rw [← hB] at cx; exact cx.get 2 rfl rfl, fun w G cx => ⟨by rw [← hB] at cx; exact cx.can 2 rfl (by show 0 + 4 + 1 ≤ 5; omega), fun w' hw' => ?_⟩⟩)⟩)⟩))
  have hn := of_decide_eq_false hn
  have hx := of_decide_eq_false hx
  have hd : rdDone st = true := by cases hr : rdDone st with
    | true => rfl
    | false => rw [hr] at hd; cases hd
  rw [← hB] at cx
  have cx1 := cx.put 2 hw' rfl
  refine ⟨rq b st :: tabO p c acc :: Own.blk kb [.slice none 0 0, .slice none 0 0, .int .i64 sq, .slice none 0 0, .int .i64 sq] 60 :: S, Φ1, inferInstance, cx1, fun w G cx => ?_⟩
  have cx2 := cx.drop1
  have hz1 : Szs acc := fun x hx => by have := hsz x hx; unfold maxLen; omega
  obtain ⟨c1, c2, c3⟩ := freezeE (S := Own.blk kb [.slice none 0 0, .slice none 0 0, .int .i64 sq, .slice none 0 0, .int .i64 sq] 60 :: S ++ G) cx2 (by rw [idxL_d]; exact hz1)
  rw [idxL_d] at c1 c2
  have st1 : Stable (fun M w => Φ1 M w ∧ Sl M w p acc) := instStableAnd Φ1 (fun M w => Sl M w p acc)
  have c4 := ((c1.nobuf 103 1).swap).weak (Ψ := fun M w => (Φ1 M w ∧ Sl M w p acc) ∧ Elems M w [] ([] : List Lev)) fun M w h => ⟨h, Elems.nil⟩
  refine add29_use (Φ := fun M w => Φ1 M w ∧ Sl M w p acc) (hR := ⟨fun M w h => h.2⟩) (i := 1) (sb := kb) (a := .slice none 0 0) (lp := none) (lc := 0) (ls := []) (L := []) (c := .int .i64 sq) (d := .slice none 0 0) (e := .int .i64 sq) (S := S ++ G) c2 c3 (by omega) (by simp) (fun x hx => by cases hx) c4 fun lp' lc' ls' w' cx5 => ?_
  have stL : Stable (fun M w => (Φ1 M w ∧ Sl M w p acc) ∧ Elems M w ls' (addAt 1 [] acc)) := instStableAnd (fun M w => Φ1 M w ∧ Sl M w p acc) (fun M w => Elems M w ls' (addAt 1 [] acc))
  refine ⟨rfl, rlO kb (.slice none 0 0) lp' lc' ls' (addAt 1 [] acc).length (.int .i64 sq) (.slice none 0 0) (.int .i64 sq) S, _, stL, cx5, fun w G cx => ?_⟩
  have cx6 := cx.left.nobuf 46 3
  refine h1 ⟨kb, none, 0, lp', lc', ls', none, 0, []⟩ (restS sq acc) w (if_pos ⟨⟨hd, by omega⟩, by omega⟩) ⟨⟨Nat.le_refl _, Nat.zero_le _⟩⟩ ((cx6.perm ?_).weak fun M w h => ⟨h.1.1, ⟨Sl.nil, Elems.nil⟩, h.2⟩)
  exact (List.perm_middle (l₁ := [Own.blk kb [.slice none 0 0, .slice lp' (addAt 1 [] acc).length lc', .int .i64 sq, .slice none 0 0, .int .i64 sq] 60, Own.buf lp' (addAt 1 [] acc).length lc' ls' 103 1])).symm
end Go.Proofs.YtebnciehcnedjaaGreatDoor
end

/-
  Copy, walked with the original in hand.
-/
section
set_option linter.unusedVariables false
set_option linter.unusedSimpArgs false
namespace Go.Proofs.YtebnciehcnedjaaGreatDoor
open Go.Vc


/-- a buffer that is owned is cloned -/
theorem clonedOwn {P : Program} {W w : World} {S : List Own} {Φ : PW} [Stable Φ] {k : Nat} {p : Option Addr} {n cap : Nat} {cs : List Value} {t : TypeId} {size bytes : Nat} (c : Ctx W w (.blk k [] t :: .buf p n cap cs t size :: S) Φ)
    {ts ty : TypeId} {kb : Array Bool} (hb : appB P ts t size bytes = true) (h1 : ∀ u ∈ cs, oneC u = true) (hpos : 0 < size) (hlen : n < 100000000) (hbytes : bytes ≤ 1000) :
    ∃ p' cap' w', Sem.run P (builtin Builtin.append #[ts, ts] ty kb #[.slice (some ⟨k, 0, none⟩) 0 0, .slice p n cap]) w = .ok (.value (.slice p' n cap')) w' ∧ Ctx W w' (.buf p' n cap' cs t size :: .buf p n cap cs t size :: S) Φ := by
  have c' : Ctx W w (.buf (some ⟨k, 0, none⟩) 0 0 [] t size :: .buf p n cap cs t size :: S) Φ := c.toBuf 0 0 size rfl (by simp) (by simp [maxLen])
  obtain ⟨i, z, e1, e2, e3, e4, e5, e6⟩ := appB_out hb
  obtain ⟨hcl, _, _⟩ := c'.bufLen 1 rfl
  rcases Nat.eq_zero_or_pos n with h0 | h0
  · subst h0
    have hcs : cs = [] := List.eq_nil_of_length_eq_zero (by rw [hcl, Nat.zero_mul])
    subst hcs
    exact ⟨_, _, w, run_app (c'.append0 0 rfl e1 e2 p cap), c'⟩
  · have hcl0 : 0 < cs.length := by rw [hcl]; exact Nat.mul_pos h0 hpos
    obtain ⟨b, hp, _, hcell⟩ := c'.bufCell 1 rfl hcl0
    subst hp
    have hby : (0 + n) * i.bytes ≤ 100000000 * 1000 := Nat.mul_le_mul (by omega) (by omega)
    obtain ⟨p', cap', w', h2, c2⟩ := c'.append 0 rfl (ty := ty) e1 e2 e3 e4 e5 (a := ⟨b, 0, none⟩) (m := n) (c2 := cap) (news := cs) h0 hcl (fun j u hj => by rw [addr_add, Nat.zero_add]; exact (hcell j u hj).1) h1 (by omega) (by omega)
    rw [Nat.zero_add] at h2 c2
    exact ⟨p', cap', w', run_app h2, c2⟩
theorem buf_none {W w : World} {S : List Own} {Φ : PW} {n cap : Nat} {cs : List Value} {t : TypeId} {size : Nat} (c : Ctx W w (.buf none n cap cs t size :: S) Φ) : n = 0 ∧ cs = [] := by
  obtain ⟨h1, h2⟩ := c.own _ List.mem_cons_self
  rcases h2 with ⟨e, h⟩ | ⟨g, cap', cur, e, _⟩
  · cases e
    exact ⟨rfl, List.eq_nil_of_length_eq_zero (by rw [h1, Nat.zero_mul])⟩
  · cases e
theorem cellsE_one2 : ∀ l : List PE, ∀ u ∈ cellsE l, oneC u = true
  | [], u, h => by cases h
  | x :: l, u, h => by
    simp only [cellsE, List.mem_cons] at h
    rcases h with rfl | rfl | h
    · rfl
    · rfl
    · exact cellsE_one2 l u h
theorem elems_one {α : Type} [Gv α] (h1 : ∀ M w cs (x : α), Gv.rep M w cs x → (cs.all fun u => oneC u) = true) {M : List Nat} {w : World} {cs : List Value} {l : List α} (h : Elems M w cs l) : ∀ u ∈ cs, oneC u = true := fun u hu => by
  obtain ⟨j, hj, rfl⟩ := List.getElem_of_mem hu
  have hp := Gv.pos (α := α)
  have hl := h.1
  have hjl : j / (Gv.ty α).size < l.length := by
    rw [Nat.div_lt_iff_lt_mul hp]
    omega
  have hr := h1 _ _ _ _ (h.2 (j / (Gv.ty α).size) hjl)
  refine List.all_eq_true.1 hr cs[j] ?_
  have hm := Nat.mod_lt j hp
  have hd := Nat.div_add_mod j (Gv.ty α).size
  rw [Nat.mul_comm] at hd
  refine List.mem_iff_getElem?.2 ⟨j % (Gv.ty α).size, ?_⟩
  rw [List.getElem?_take_of_lt hm, List.getElem?_drop, hd, List.getElem?_eq_getElem hj]

theorem CloneT_own {W w : World} {S : List Own} {Φ : PW} [Stable Φ] {p : Option Addr} {c : Nat} {t : Run} (ht : t.length < 1000000) (cx : Ctx W w (tabO p c t :: S) Φ) {K : Ending → World → Prop}
    (hK : ∀ p' c' w', Ctx W w' (tabO p' c' t :: tabO p c t :: S) Φ → K (.returned (.slice p' t.length c')) w') : Calls Tryz.prog F.slices_Clone_store_run_api_Pair #[.slice p t.length c] w K := by
  have hil := idxL_len 0 t
  refine (Bslices_Clone_store_run_api_Pair_run p t.length c (J := fun u w' => K (.returned u) w') cx ?_).mono fun e w' ⟨v, he, hj⟩ => by rw [he]; exact hj
  clear cx
  refine Br.intro (fun hn => fun w G cx => ?_) (fun _ => fun k w G cx => ?_)
  · have hp : p = none := by cases p with
      | none => rfl
      | some a => cases hn
    subst hp
    obtain ⟨h1, _⟩ := buf_none (S := S ++ G) cx
    have h0 : t = [] := List.eq_nil_of_length_eq_zero (by rw [← hil]; exact h1)
    subst h0
    exact hK none 0 w (Ctx.nobuf cx.left 69 2)
  · obtain ⟨p', cap', w', hr, cx2⟩ := clonedOwn (S := S ++ G) cx (P := Tryz.prog) (ts := 74) (ty := 74) (kb := #[false, false]) (bytes := 32) (by kernel_rfl) (cellsE_one2 _) (by decide) (by omega) (by omega)
    rw [hil] at hr
    exact ⟨p', _, cap', w', hr, tabO p' cap' t :: tabO p c t :: S, Φ, inferInstance, cx2, fun w G cx => hK p' cap' w cx.left⟩
theorem CloneC_own {W w : World} {S : List Own} {Φ : PW} [Stable Φ] {p : Option Addr} {c : Nat} {cs : List Value} {l : List ChgD} (hΦ : ∀ M w, Φ M w → Elems M w cs l) (hl : l.length < 1000000) (cx : Ctx W w (.buf p l.length c cs 46 3 :: S) Φ) {K : Ending → World → Prop}
    (hK : ∀ p' c' w', Ctx W w' (.buf p' l.length c' cs 46 3 :: .buf p l.length c cs 46 3 :: S) Φ → K (.returned (.slice p' l.length c')) w') : Calls Tryz.prog F.slices_Clone_api_Change_api_Change #[.slice p l.length c] w K := by
  have hone := elems_one chgD_one (hΦ _ _ cx.phi)
  refine (Bslices_Clone_api_Change_api_Change_run p l.length c (J := fun u w' => K (.returned u) w') cx ?_).mono fun e w' ⟨v, he, hj⟩ => by rw [he]; exact hj
  clear cx
  refine Br.intro (fun hn => fun w G cx => ?_) (fun _ => fun k w G cx => ?_)
  · have hp : p = none := by cases p with
      | none => rfl
      | some a => cases hn
    subst hp
    obtain ⟨h1, h2⟩ := buf_none (S := S ++ G) cx
    have h0 : l = [] := List.eq_nil_of_length_eq_zero h1
    subst h0 h2
    exact hK none 0 w (Ctx.nobuf cx.left 46 3)
  · obtain ⟨p', cap', w', hr, cx2⟩ := clonedOwn (S := S ++ G) cx (P := Tryz.prog) (ts := 31) (ty := 31) (kb := #[false, false]) (bytes := 40) (by kernel_rfl) hone (by decide) (by omega) (by omega)
    exact ⟨p', _, cap', w', hr, .buf p' l.length cap' cs 46 3 :: .buf p l.length c cs 46 3 :: S, Φ, inferInstance, cx2, fun w G cx => hK p' cap' w cx.left⟩
theorem CloneR_own {W w : World} {S : List Own} {Φ : PW} [Stable Φ] {x : LB} (hΦ : ∀ M w, Φ M w → Elems M w x.ds x.l) (hl : x.l.length < 1000000) (cx : Ctx W w (x.own :: S) Φ) {K : Ending → World → Prop}
    (hK : ∀ (y : LB) w', y.l = x.l → y.ds = x.ds → Ctx W w' (y.own :: x.own :: S) Φ → K (.returned y.cell) w') : Calls Tryz.prog F.slices_Clone_store_run_store_run #[x.cell] w K := by
  have hone := elems_one run_one (hΦ _ _ cx.phi)
  refine (Bslices_Clone_store_run_store_run_run x.p x.l.length x.c (J := fun u w' => K (.returned u) w') cx ?_).mono fun e w' ⟨v, he, hj⟩ => by rw [he]; exact hj
  clear cx
  refine Br.intro (fun hn => fun w G cx => ?_) (fun _ => fun k w G cx => ?_)
  · obtain ⟨p, c, ds, l⟩ := x
    have hp : p = none := by cases p with
      | none => rfl
      | some a => cases hn
    subst hp
    obtain ⟨h1, h2⟩ := buf_none (S := S ++ G) cx
    have h0 : l = [] := List.eq_nil_of_length_eq_zero h1
    have h2 : ds = [] := h2
    subst h0 h2
    exact hK ⟨none, 0, [], []⟩ w rfl rfl (Ctx.nobuf cx.left 74 1)
  · obtain ⟨p', cap', w', hr, cx2⟩ := clonedOwn (S := S ++ G) cx (P := Tryz.prog) (ts := 84) (ty := 84) (kb := #[false, false]) (bytes := 24) (by kernel_rfl) hone (by decide) (by omega) (by omega)
    exact ⟨p', _, cap', w', hr, LB.own ⟨p', cap', x.ds, x.l⟩ :: x.own :: S, Φ, inferInstance, cx2, fun w G cx => hK ⟨p', cap', x.ds, x.l⟩ w rfl rfl cx.left⟩

set_option maxHeartbeats 8000000 in
theorem CopyB_use {W w : World} {S : List Own} {Φ : PW} [Stable Φ] {q : TO} {s : StD} (hq : StQ q s) (ht : s.table.length < 1000000) (hg : s.log.length < 1000000) (hn : s.levels.length ≤ 900000) (hb : ∀ l ∈ s.levels, l.length ≤ 900000) (cx : Ctx W w (stO q s S) (fun M w => Φ M w ∧ stF q s M w)) {K : Ending → World → Prop}
    (hK : ∀ q2 w', StQ q2 s → Ctx W w' (stO q s (stO q2 s S)) (fun M w => (Φ M w ∧ stF q2 s M w) ∧ stF q s M w) → K (.returned (.pointer (some ⟨q2.sb, 0, none⟩))) w') :
    Calls Tryz.prog F.store_Store_Copy #[.pointer (some ⟨q.sb, 0, none⟩)] w K := by
  obtain ⟨sb, tp, tc, lp, lc, bs, gp, gc, gs⟩ := q
  obtain ⟨hlev, hzs⟩ := hq
  simp only at hlev hzs
  have hbl : bs.length = s.levels.length := by rw [← hlev, List.length_map]
  have hbx : ∀ x ∈ bs, x.l.length ≤ 900000 := fun x hx => hb _ (by rw [← hlev]; exact List.mem_map.2 ⟨x, hx, rfl⟩)
  obtain ⟨row, hrow⟩ : ∃ row, row = [Value.slice tp s.table.length tc, .slice lp bs.length lc, .int .i64 s.seq, .slice gp s.log.length gc, .int .i64 s.cut] := ⟨_, rfl⟩
  obtain ⟨Φ0, hΦ0⟩ : ∃ Φ0 : PW, Φ0 = (fun M w => Φ M w ∧ stF ⟨sb, tp, tc, lp, lc, bs, gp, gc, gs⟩ s M w) := ⟨_, rfl⟩
  have st0 : Stable Φ0 := by rw [hΦ0]; exact instStableSt Φ _ s
  have fG : ∀ M w, Φ0 M w → Elems M w gs s.log := fun M w h => by rw [hΦ0] at h; exact h.2.1
  have fB : ∀ M w, Φ0 M w → LBE bs M w := fun M w h => by rw [hΦ0] at h; exact h.2.2
  -- what is owned, in another order
  have cano : (stO ⟨sb, tp, tc, lp, lc, bs, gp, gc, gs⟩ s S).Perm (tabO tp tc s.table :: .buf gp s.log.length gc gs 46 3 :: .blk sb row 77 :: .buf lp bs.length lc (bs.map LB.cell) 84 1 :: (bs.map LB.own ++ S)) := by
    rw [hrow]
    unfold stO stA
    have h := List.perm_append_comm_assoc (Own.blk sb [Value.slice tp s.table.length tc, .slice lp bs.length lc, .int .i64 s.seq, .slice gp s.log.length gc, .int .i64 s.cut] 77 :: Own.buf lp bs.length lc (bs.map LB.cell) 84 1 :: bs.map LB.own) [tabO tp tc s.table, Own.buf gp s.log.length gc gs 46 3] S
    simp only [List.cons_append, List.nil_append] at h
    exact h
  have cx1 := cx.perm cano
  rw [← hΦ0] at cx1
  clear cx
  refine (Bstore_Store_Copy_run sb 0 (J := fun u w' => K (.returned u) w') cx1 ?_).mono fun e w' ⟨v, he, hj⟩ => by rw [he]; exact hj
  clear cx1
  have bl : ∀ {w : World} {A T G : List Own} {Ψ : PW} {o : Own} [Stable Ψ], Ctx W w (A ++ o :: T ++ G) Ψ → Ctx W w ([o] ++ G) (fun _ _ => True) := fun {w A T G Ψ o} _ cx => by
    have c1 : Ctx W w (A ++ (o :: (T ++ G))) Ψ := cx.re (by rw [List.append_assoc, List.cons_append])
    have c2 := Ctx.right (S := A) c1
    exact (c2.sub ((((List.nil_sublist T).append_right G)).cons_cons o)).weak fun _ _ _ => trivial
  have g0 : ∀ {w : World} {G : List Own}, Ctx W w ([Own.blk sb row 77] ++ G) (fun _ _ => True) → ∀ (i : Nat) (v : Value), row[i]? = some v → w.cell? ⟨sb, i, none⟩ = some v := fun cx i v h => by
    have := cx.get 0 rfl h
    exact this
  refine ⟨[.blk sb row 77], fun _ _ => True, inferInstance, fun w G cx => bl (A := [tabO tp tc s.table, .buf gp s.log.length gc gs 46 3]) cx, tp, s.table.length, tc, fun w G cx => ⟨_, _, _, g0 cx 0 _ (by rw [hrow]; rfl), rfl⟩, s.seq, fun w G cx => ⟨_, g0 cx 2 _ (by rw [hrow]; rfl), rfl⟩, gp, s.log.length, gc, fun w G cx => ⟨_, _, _, g0 cx 3 _ (by rw [hrow]; rfl), rfl⟩, s.cut, fun w G cx => ⟨_, g0 cx 4 _ (by rw [hrow]; rfl), rfl⟩, fun w G cx => ?_⟩
  refine CloneT_own ht cx fun tp' tc' w cx => ⟨tp', _, tc', rfl, .buf gp s.log.length gc gs 46 3 :: tabO tp' tc' s.table :: tabO tp tc s.table :: .blk sb row 77 :: .buf lp bs.length lc (bs.map LB.cell) 84 1 :: (bs.map LB.own ++ S), Φ0, st0, cx.perm ?_, fun w G cx => bl (A := [.buf gp s.log.length gc gs 46 3, tabO tp' tc' s.table, tabO tp tc s.table]) cx, fun w G cx => ?_⟩
  · exact (List.Perm.cons _ (List.Perm.swap _ _ _)).trans (List.Perm.swap _ _ _)
  refine CloneC_own fG hg cx fun gp' gc' w cx => ?_
  obtain ⟨T, hT⟩ : ∃ T, T = tabO tp' tc' s.table :: .buf gp' s.log.length gc' gs 46 3 :: .blk sb row 77 :: .buf lp bs.length lc (bs.map LB.cell) 84 1 :: tabO tp tc s.table :: .buf gp s.log.length gc gs 46 3 :: (bs.map LB.own ++ S) := ⟨_, rfl⟩
  have cx2 : Ctx W w (T ++ G) Φ0 := by
    rw [hT]
    refine Ctx.perm cx ?_
    show (Own.buf gp' s.log.length gc' gs 46 3 :: Own.buf gp s.log.length gc gs 46 3 :: tabO tp' tc' s.table :: tabO tp tc s.table :: .blk sb row 77 :: .buf lp bs.length lc (bs.map LB.cell) 84 1 :: ((bs.map LB.own ++ S) ++ G)).Perm (tabO tp' tc' s.table :: .buf gp' s.log.length gc' gs 46 3 :: .blk sb row 77 :: .buf lp bs.length lc (bs.map LB.cell) 84 1 :: tabO tp tc s.table :: .buf gp s.log.length gc gs 46 3 :: ((bs.map LB.own ++ S) ++ G))
    have h1 := List.perm_append_comm_assoc [Own.buf gp' s.log.length gc' gs 46 3, Own.buf gp s.log.length gc gs 46 3] [tabO tp' tc' s.table] (tabO tp tc s.table :: .blk sb row 77 :: .buf lp bs.length lc (bs.map LB.cell) 84 1 :: ((bs.map LB.own ++ S) ++ G))
    have h2 := List.perm_append_comm_assoc [Own.buf gp s.log.length gc gs 46 3, tabO tp tc s.table] [Own.blk sb row 77, .buf lp bs.length lc (bs.map LB.cell) 84 1] ((bs.map LB.own ++ S) ++ G)
    exact (h1.trans (List.Perm.cons _ (List.Perm.cons _ h2))).trans (List.Perm.cons _ (List.Perm.cons _ (List.Perm.cons _ (List.Perm.cons _ (List.Perm.swap _ _ _)))))
  clear cx
  have blT : ∀ {w : World} {A G : List Own}, Ctx W w (A ++ T ++ G) Φ0 → Ctx W w ([Own.blk sb row 77] ++ G) (fun _ _ => True) := fun {w A G} cx => by
    refine bl (A := A ++ [tabO tp' tc' s.table, .buf gp' s.log.length gc' gs 46 3]) (T := .buf lp bs.length lc (bs.map LB.cell) 84 1 :: tabO tp tc s.table :: .buf gp s.log.length gc gs 46 3 :: (bs.map LB.own ++ S)) (cx.re ?_)
    rw [hT]
    simp only [List.append_assoc, List.cons_append, List.nil_append]
  refine ⟨gp', _, gc', rfl, T, Φ0, st0, cx2, fun w G cx => blT (A := []) cx, fun k w G cx => ⟨lp, bs.length, lc, g0 (blT (A := [Own.blk k [.slice tp' s.table.length tc', .slice none 0 0, .int .i64 s.seq, .slice gp' s.log.length gc', .int .i64 s.cut] 77]) cx) 1 _ (by rw [hrow]; rfl), ?_⟩⟩
  have hlpp : 0 < bs.length → ∃ g, lp = some ⟨g, 0, none⟩ := fun h0 => by
    have c1 : Ctx W w ((Own.blk k [.slice tp' s.table.length tc', .slice none 0 0, .int .i64 s.seq, .slice gp' s.log.length gc', .int .i64 s.cut] 77 :: tabO tp' tc' s.table :: .buf gp' s.log.length gc' gs 46 3 :: [Own.blk sb row 77]) ++ (Own.buf lp bs.length lc (bs.map LB.cell) 84 1 :: (tabO tp tc s.table :: .buf gp s.log.length gc gs 46 3 :: (bs.map LB.own ++ S) ++ G))) Φ0 := cx.re (by rw [hT]; simp only [List.append_assoc, List.cons_append, List.nil_append])
    have c2 := Ctx.right c1
    obtain ⟨g, hg, _⟩ := c2.bufCell 0 rfl (by rw [List.length_map]; exact h0)
    exact ⟨g, hg⟩
  clear cx cx2
  refine exI_mk (fun iI R' Φ' n => ∃ (i : Nat) (lq : Option Addr) (ld : Nat) (B : List LB), iI = i ∧ i ≤ bs.length ∧ B.map (fun x => (x.l, x.ds)) = (bs.take i).map (fun x => (x.l, x.ds)) ∧ R' = .blk k [.slice tp' s.table.length tc', .slice lq B.length ld, .int .i64 s.seq, .slice gp' s.log.length gc', .int .i64 s.cut] 77 :: .buf lq B.length ld (B.map LB.cell) 84 1 :: (B.map LB.own ++ T) ∧ Φ' = Φ0 ∧ n = bs.length - i)
    ⟨⟨.blk k [.slice tp' s.table.length tc', .slice none 0 0, .int .i64 s.seq, .slice gp' s.log.length gc', .int .i64 s.cut] 77 :: .buf none 0 0 [] 84 1 :: T, Φ0, _, st0, fun w G cx => (Ctx.nobuf cx 84 1).swap, 0, none, 0, [], rfl, Nat.zero_le _, rfl, rfl, rfl, rfl⟩, ?_⟩
  rintro iI R1 Φ1 n _ ⟨i, lq, ld, B, rfl, hi, hB, rfl, rfl, rfl⟩
  have hBl : B.length = i := by have := congrArg List.length hB; rw [List.length_map, List.length_map, List.length_take] at this; omega
  refine Br.intro (fun hlt => ?_) (fun hge => fun w G cx => ?_)
  rotate_left
  · have hge : i = bs.length := by have := of_decide_eq_false hge; omega
    rw [hge, List.take_length] at hB
    have hBL : B.map LB.l = s.levels := by
      rw [← hlev]
      have := congrArg (List.map Prod.fst) hB
      rw [List.map_map, List.map_map] at this
      exact this
    have hmem : ∀ y ∈ B, ∃ x ∈ bs, x.l = y.l ∧ x.ds = y.ds := fun y hy => by
      have h1 : (y.l, y.ds) ∈ bs.map (fun x : LB => (x.l, x.ds)) := by rw [← hB]; exact List.mem_map.2 ⟨y, hy, rfl⟩
      obtain ⟨x, hx, e⟩ := List.mem_map.1 h1
      rw [Prod.mk.injEq] at e
      exact ⟨x, hx, e.1, e.2⟩
    refine hK ⟨k, tp', tc', lq, ld, B, gp', gc', gs⟩ w ⟨hBL, hzs⟩ ((cx.left.perm ?_).weak fun M w h => ?_)
    · rw [hT, hrow]
      unfold stO stA
      have e1 := List.perm_append_comm_assoc (Own.blk k [.slice tp' s.table.length tc', .slice lq B.length ld, .int .i64 s.seq, .slice gp' s.log.length gc', .int .i64 s.cut] 77 :: Own.buf lq B.length ld (B.map LB.cell) 84 1 :: (B.map LB.own ++ [tabO tp' tc' s.table, .buf gp' s.log.length gc' gs 46 3])) [Own.blk sb [Value.slice tp s.table.length tc, .slice lp bs.length lc, .int .i64 s.seq, .slice gp s.log.length gc, .int .i64 s.cut] 77, .buf lp bs.length lc (bs.map LB.cell) 84 1] (tabO tp tc s.table :: .buf gp s.log.length gc gs 46 3 :: (bs.map LB.own ++ S))
      have e2 := List.perm_append_comm_assoc (Own.blk k [.slice tp' s.table.length tc', .slice lq B.length ld, .int .i64 s.seq, .slice gp' s.log.length gc', .int .i64 s.cut] 77 :: Own.buf lq B.length ld (B.map LB.cell) 84 1 :: (B.map LB.own ++ [tabO tp' tc' s.table, .buf gp' s.log.length gc' gs 46 3])) [tabO tp tc s.table, Own.buf gp s.log.length gc gs 46 3] (bs.map LB.own ++ S)
      have e3 := List.perm_append_comm_assoc (Own.blk k [.slice tp' s.table.length tc', .slice lq B.length ld, .int .i64 s.seq, .slice gp' s.log.length gc', .int .i64 s.cut] 77 :: Own.buf lq B.length ld (B.map LB.cell) 84 1 :: (B.map LB.own ++ [tabO tp' tc' s.table, .buf gp' s.log.length gc' gs 46 3])) (bs.map LB.own) S
      have e4 := List.perm_append_comm_assoc [tabO tp tc s.table, Own.buf gp s.log.length gc gs 46 3] (bs.map LB.own) (Own.blk k [.slice tp' s.table.length tc', .slice lq B.length ld, .int .i64 s.seq, .slice gp' s.log.length gc', .int .i64 s.cut] 77 :: Own.buf lq B.length ld (B.map LB.cell) 84 1 :: (B.map LB.own ++ [tabO tp' tc' s.table, .buf gp' s.log.length gc' gs 46 3]) ++ S)
      have h := e1.trans (List.Perm.append_left _ (e2.trans ((List.Perm.append_left _ e3).trans e4)))
      simp only [List.append_assoc, List.cons_append, List.nil_append] at h ⊢
      exact h
    · rw [hΦ0] at h
      exact ⟨⟨h.1, h.2.1, fun y hy => by
        obtain ⟨x, hx, e1, e2⟩ := hmem y hy
        rw [← e1, ← e2]
        exact h.2.2 x hx⟩, h.2⟩
  have hlt : i < bs.length := by have := of_decide_eq_true hlt; omega
  obtain ⟨x, hx⟩ : ∃ x, bs[i] = x := ⟨_, rfl⟩
  have hxm : x ∈ bs := by rw [← hx]; exact List.getElem_mem hlt
  have hxl := hbx x hxm
  have hcell : (bs.map LB.cell)[i]? = some x.cell := by rw [List.getElem?_map, List.getElem?_eq_getElem hlt, hx]; rfl
  have hyl : x.l.length < 1000000 := by omega
  obtain ⟨g, hlp⟩ := hlpp (by omega)
  obtain ⟨row2, hrow2⟩ : ∃ row2 : Option Addr → Nat → Nat → List Value, ∀ a n c, row2 a n c = [.slice tp' s.table.length tc', .slice a n c, .int .i64 s.seq, .slice gp' s.log.length gc', .int .i64 s.cut] := ⟨_, fun _ _ _ => rfl⟩
  rw [← hrow2]
  obtain ⟨L1, hL1⟩ : ∃ L1, L1 = Own.blk k (row2 lq B.length ld) 77 :: Own.buf lq B.length ld (B.map LB.cell) 84 1 :: (B.map LB.own ++ ([tabO tp' tc' s.table, .buf gp' s.log.length gc' gs 46 3, .blk sb row 77, .buf lp bs.length lc (bs.map LB.cell) 84 1, tabO tp tc s.table, .buf gp s.log.length gc gs 46 3] ++ (bs.take i).map LB.own)) := ⟨_, rfl⟩
  have hsplit : bs.map LB.own = (bs.take i).map LB.own ++ x.own :: (bs.drop (i + 1)).map LB.own := by
    conv => lhs; rw [← List.take_append_drop i bs]
    rw [List.drop_eq_getElem_cons hlt, hx, List.map_append, List.map_cons]
  have eR : ∀ G : List Own, (Own.blk k (row2 lq B.length ld) 77 :: Own.buf lq B.length ld (B.map LB.cell) 84 1 :: (B.map LB.own ++ T)) ++ G = L1 ++ x.own :: ((bs.drop (i + 1)).map LB.own ++ (S ++ G)) := fun G => by
    rw [hL1, hT, hsplit]
    simp only [List.append_assoc, List.cons_append, List.nil_append]
  have eA : ∀ G : List Own, (Own.blk k (row2 lq B.length ld) 77 :: Own.buf lq B.length ld (B.map LB.cell) 84 1 :: (B.map LB.own ++ T)) ++ G = (Own.blk k (row2 lq B.length ld) 77 :: Own.buf lq B.length ld (B.map LB.cell) 84 1 :: (B.map LB.own ++ [tabO tp' tc' s.table, .buf gp' s.log.length gc' gs 46 3, .blk sb row 77])) ++ (Own.buf lp bs.length lc (bs.map LB.cell) 84 1 :: (tabO tp tc s.table :: .buf gp s.log.length gc gs 46 3 :: (bs.map LB.own ++ (S ++ G)))) := fun G => by
    rw [hT]
    simp only [List.append_assoc, List.cons_append, List.nil_append]
  refine ⟨⟨by omega, by omega⟩, ptrK_intro g 0 hlp fun w G cx => ⟨x.p, x.l.length, x.c, ?_, [.blk k (row2 lq B.length ld) 77], fun _ _ => True, inferInstance, fun w G cx => bl (A := []) cx, lq, B.length, ld, fun w G cx => ⟨_, _, _, cx.get 0 rfl (by rw [hrow2]; rfl), rfl⟩, fun w G cx => ?_⟩⟩
  · have c1 := Ctx.right (cx.re (eA G))
    rw [Nat.zero_add, Int.toNat_natCast]
    exact c1.bufGet 0 rfl hlp hcell
  refine CloneR_own (x := x) (fun M w h => fB M w h x hxm) hyl ((cx.re (eR G)).perm List.perm_middle) fun y w hy1 hy2 cx => ?_
  have cx1 : Ctx W w ((y.own :: Own.blk k (row2 lq B.length ld) 77 :: Own.buf lq B.length ld (B.map LB.cell) 84 1 :: (B.map LB.own ++ T)) ++ G) Φ1 := by
    have e := eR G
    show Ctx W w (y.own :: ((Own.blk k (row2 lq B.length ld) 77 :: Own.buf lq B.length ld (B.map LB.cell) 84 1 :: (B.map LB.own ++ T)) ++ G)) Φ1
    rw [e]
    exact cx.perm (List.Perm.cons _ List.perm_middle.symm)
  refine ⟨y.p, y.l.length, y.c, rfl, _, Φ1, st0, cx1, fun w G cx => bl (A := [y.own]) cx, fun k2 => ⟨fun w G cx => bl (A := [Own.blk k2 [.slice y.p y.l.length y.c] 84, y.own]) cx, fun w G cx => ?_⟩⟩
  clear cx1
  have cx2 : Ctx W w (.blk k2 [y.cell] 84 :: Own.buf lq B.length ld (B.map LB.cell) 84 1 :: (y.own :: Own.blk k (row2 lq B.length ld) 77 :: (B.map LB.own ++ T) ++ G)) Φ1 := cx.perm (List.Perm.cons _ (List.perm_append_comm_assoc [y.own, Own.blk k (row2 lq B.length ld) 77] [Own.buf lq B.length ld (B.map LB.cell) 84 1] ((B.map LB.own ++ T) ++ G)))
  obtain ⟨p', cap', w', hr, _, cx3⟩ := cx2.app1 (ts := 75) (ty := 75) (kb := #[false, false]) (bytes := 24) (P := Tryz.prog) (by kernel_rfl) (by omega) rfl rfl (by omega) (by omega)
  refine ⟨p', _, cap', w', hr, Own.buf p' (B.length + 1) cap' (B.map LB.cell ++ [y.cell]) 84 1 :: y.own :: Own.blk k (row2 lq B.length ld) 77 :: (B.map LB.own ++ T), Φ1, st0, cx3, fun w G cx => bl (A := [Own.buf p' (B.length + 1) cap' (B.map LB.cell ++ [y.cell]) 84 1, y.own]) cx, fun w G cx => ⟨cx.can 2 rfl (by rw [hrow2]; show 1 + 1 ≤ 5; omega), fun w' hw' => ?_⟩⟩
  clear cx2 cx3
  have cx5 := cx.put 2 hw' rfl
  have e0 : (row2 lq B.length ld).set 1 (.slice p' (B.length + 1) cap') = row2 p' (B.length + 1) cap' := by rw [hrow2, hrow2]; rfl
  have cx6 : Ctx W w' ((Own.buf p' (B.length + 1) cap' (B.map LB.cell ++ [y.cell]) 84 1 :: y.own :: Own.blk k (row2 p' (B.length + 1) cap') 77 :: (B.map LB.own ++ T)) ++ G) Φ1 := by
    rw [← e0]
    exact cx5
  have e1 : (B ++ [y]).length = B.length + 1 := by rw [List.length_append]; rfl
  have e2 : (B ++ [y]).map LB.cell = B.map LB.cell ++ [y.cell] := by rw [List.map_append]; rfl
  refine ⟨_, Φ1, st0, cx6, by unfold I64; omega, Own.blk k (row2 p' (B ++ [y]).length cap') 77 :: Own.buf p' (B ++ [y]).length cap' ((B ++ [y]).map LB.cell) 84 1 :: ((B ++ [y]).map LB.own ++ T), Φ1, bs.length - (i + 1), st0, fun w G cx => cx.perm ?_, ⟨i + 1, p', cap', B ++ [y], by omega, by omega, ?_, by rw [hrow2], rfl, rfl⟩, by omega⟩
  · rw [e1, e2, List.map_append]
    simp only [List.map_cons, List.map_nil, List.append_assoc, List.cons_append, List.nil_append]
    refine (List.perm_append_comm_assoc [Own.buf p' (B.length + 1) cap' (B.map LB.cell ++ [y.cell]) 84 1, y.own] [Own.blk k (row2 p' (B.length + 1) cap') 77] (B.map LB.own ++ (T ++ G))).trans (List.Perm.cons _ (List.Perm.cons _ ?_))
    show (y.own :: (B.map LB.own ++ (T ++ G))).Perm _
    exact List.perm_middle.symm
  · rw [List.map_append, hB, List.take_succ_eq_append_getElem hlt, List.map_append, hx]
    show _ ++ [(y.l, y.ds)] = _ ++ [(x.l, x.ds)]
    rw [hy1, hy2]
end Go.Proofs.YtebnciehcnedjaaGreatDoor
end

/-
  StoreRestores, walked.
-/
section
set_option linter.unusedVariables false
set_option linter.unusedSimpArgs false
namespace Go.Proofs.YtebnciehcnedjaaGreatDoor
open Go.Vc


theorem restS_is_b {seq : Int} {ps : Run} {l : List UInt8} (h : RestOk seq ps l) (hl : l.length ≤ 300) : StB 1099511627776 (restS seq ps) 301 := by
  have e : (restS seq ps).levels = [[], if ps = [] then [] else [ps]] := addAt_nil 1 _
  have h1 := h.pos
  have h2 := h.top
  have h3 := h.len
  refine ⟨rest_i h.asc, rest_l _ _, ⟨?_, by rw [rest_ver]; omega, Nat.zero_le _, by show I64 (seq + 1); unfold I64; omega⟩, fun x hx => ?_, h1, by show seq ≤ _; omega⟩
  · rw [e]
    split
    · show 2 ≤ _
      omega
    · show 3 ≤ _
      omega
  · rw [rest_ver] at hx
    have := h.fit x hx
    omega

set_option maxHeartbeats 8000000 in
theorem Restores_in {Φ : PW} [Stable Φ] {p : Option Addr} {cap : Nat} {l : List OpD} {x : ByteArray} (hN : ∀ M w, Φ M w → NumI M w) (hΦ : ∀ M w, Φ M w → Sl M w p l) (hl : l.length ≤ maxLen) :
    GivesIn Φ Tryz.prog F.erratalaw29_StoreRestores #[.string x, .slice p l.length cap] (.bool true) := by
  refine .there (fun M w h => (hΦ M w h).there) fun hth => ?_
  refine gives_in (Berratalaw29_StoreRestores_run x p l.length cap) fun W R => fun w G cx => ?_
  refine (small29_g.in).toB cx (Br.intro (fun _ => fun w G cx => ⟨rfl, cx.left⟩) (fun hx3 => fun w G cx => ?_))
  refine (few_in hΦ hl).toB cx (Br.intro (fun _ => fun w G cx => ⟨rfl, cx.left⟩) (fun hf => fun w G cx => ?_))
  have hx3 := of_decide_eq_false hx3
  have hl3 := fewO_len (few_yes hf)
  have hfit := fewO_fit (few_yes hf)
  obtain ⟨lb, rfl⟩ : ∃ lb, x = bs lb := ⟨x.data.toList, (bs_of x).symm⟩
  rw [bs_size] at hx3
  have hlb : lb.length ≤ 300 := by omega
  refine Restore_use (S := R ++ G) hN lb (by omega) cx (fun w hr cx => ?_) (fun q t w hr hq cx => ?_)
  · refine ⟨_, _, rfl, R, Φ, inferInstance, cx, fun w G cx => ?_⟩
    refine Restore29_use (S := R ++ G) lb (by omega) cx (fun w _ cx => ⟨_, _, rfl, R, Φ, inferInstance, cx, fun w G cx => Br.intro (fun h => by simp at h) (fun _ => Br.intro (fun _ => fun w G cx => ⟨rfl, cx.left⟩) (fun h => by simp at h))⟩) (fun q s w h => by rw [hr] at h; cases h)
  obtain ⟨seq, ps, rfl, hOk⟩ := rest_is hr
  obtain ⟨t, ht⟩ : ∃ t, restS seq ps = t := ⟨_, rfl⟩
  have hB := restS_is_b hOk hlb
  have hsq : t.seq = seq := by rw [← ht]; rfl
  have hcut : t.cut = seq := by rw [← ht]; rfl
  have hlog : t.log = [] := by rw [← ht]; rfl
  have hall : allS t = ps := by rw [← ht]; exact rest_all hOk.asc hOk.ne
  have hsnap : snapB t = bs lb := by
    unfold snapB
    rw [scan_all, hall, hsq, hOk.snap]
    rfl
  rw [ht] at hq cx hr hB
  have hp0 := hOk.pos
  have hp1 := hOk.top
  have hlv := hB.levels
  have hver := hB.c.ver
  have hst1 : Stable (fun M w => Φ M w ∧ stF q t M w) := instStableSt Φ q t
  refine ⟨_, _, rfl, stO q t R, _, hst1, cx.re (stO_re q t R G).symm, fun w G cx => ?_⟩
  refine Restore29_use (S := stO q t R ++ G) (Φ := fun M w => Φ M w ∧ stF q t M w) lb (by omega) cx (fun w h => by rw [hr] at h; cases h) fun rq s2 w _ _ cx => ?_
  have cx1 : Ctx W w (stO q t R ++ G) (fun M w => Φ M w ∧ stF q t M w) := by
    have hst2 : Stable (fun M w => (Φ M w ∧ stF q t M w) ∧ rfF rq s2 M w) := instStableRf (fun M w => Φ M w ∧ stF q t M w) rq s2
    exact (Ctx.right (S := rfO rq s2 []) (cx.re (rfO_app rq s2 _))).weak fun M w h => h.1
  refine ⟨_, _, rfl, stO q t R, _, hst1, cx1, fun w G cx => Br.intro (fun h => by simp at h) (fun _ => Br.intro (fun h => by cases h) (fun _ => fun w G cx => ?_))⟩
  clear cx1
  refine look (S := R ++ G) hq (v := .int .i64 t.seq) (cx.re (stO_re q t R G)) (fun Ψ h1 h2 h3 => Seq_in (hΦ := h2)) fun w cx => ⟨_, rfl, stO q t R, _, hst1, cx.re (stO_re q t R G).symm, by unfold I64; omega, fun w G cx => ?_⟩
  refine look (S := R ++ G) hq (v := .tuple #[.slice none 0 0, .int .i64 3]) (cx.re (stO_re q t R G)) (fun Ψ h1 h2 h3 => Since_no (hΦ := h2) (.inl (by rw [hsq, hcut]; omega))) fun w cx => ⟨_, _, _, _, rfl, stO q t R, _, hst1, cx.re (stO_re q t R G).symm, fun w G cx => ?_⟩
  refine look (S := R ++ G) hq (v := .int .i64 t.seq) (cx.re (stO_re q t R G)) (fun Ψ h1 h2 h3 => Seq_in (hΦ := h2)) fun w cx => ⟨_, rfl, stO q t R, _, hst1, cx.re (stO_re q t R G).symm, fun w G cx => ?_⟩
  have cxS := cx.re (stO_re q t R G)
  obtain ⟨Ψ, stΨ, toΦ, toR, hC, hunlay, hlay⟩ := lay hq cxS
  have cxa := hlay _ _ cxS
  clear cx cxS hlay
  have hsince := Since_sl (Φ := Ψ) (hΦ := ⟨toR⟩) hC hB.l (by rw [hlog]; decide) (n := t.seq) (by rw [hcut, hsq]; omega) (by omega)
  rw [hlog, List.drop_nil] at hsince
  refine hsince.use cxa fun p1 c1 w _ _ cx => ⟨p1, _, c1, _, rfl, stO q t R, _, hst1, (hunlay _ _ (cx.weak fun M w h => h.1)).re (stO_re q t R G).symm, fun w G cx => ?_⟩
  clear cxa
  refine CopyB_use (S := R ++ G) hq (by have := hB.i.few; omega) (by rw [hlog]; decide) (by omega) (fun l hl => by have := hlv.2.2 l hl; omega) (cx.re (stO_re q t R G)) fun q2 w hq2 cx => ?_
  have hst2 : Stable (fun M w => Φ M w ∧ stF q2 t M w) := instStableSt Φ q2 t
  have hst3 : Stable (fun M w => (Φ M w ∧ stF q2 t M w) ∧ stF q t M w) := instStableSt (fun M w => Φ M w ∧ stF q2 t M w) q t
  have e2 : ∀ (a b : TO) (s t : StD) (G : List Own), stO a s (stO b t R) ++ G = stO a s (stO b t R ++ G) := fun a b s t G => stO_re a s _ G
  refine ⟨_, rfl, stO q t (stO q2 t R), _, hst3, cx.re (by rw [e2, stO_re]), Br.intro (fun h => by cases h) (fun _ => fun w G cx => ?_)⟩
  refine look (S := stO q2 t R ++ G) (Φ := fun M w => Φ M w ∧ stF q2 t M w) hq (v := .string (snapB t)) (cx.re (e2 _ _ _ _ G)) (fun Ψ h1 h2 h3 => Snapshot_in (hΦ := h2) (fun M w h => (hN M w (h3.go M w h).1).1) hC (by omega) (by omega) (by omega) hB.f (by unfold I64; omega)) fun w cx => ⟨_, rfl, stO q t (stO q2 t R), _, hst3, cx.re (e2 _ _ _ _ G).symm, ?_⟩
  refine Br.intro (fun h => absurd hsnap (of_decide_eq_true h)) (fun _ => Br.intro (fun h => absurd rfl (of_decide_eq_true h)) (fun _ => Br.intro (fun h => absurd rfl (of_decide_eq_true h)) (fun _ => Br.intro (fun h => absurd rfl (of_decide_eq_true h)) (fun _ => ?_))))
  clear cx
  refine exI_mk (fun nI R' Φ' k => ∃ (i : Nat) (q' : TO) (t' : StD), nI = i ∧ i ≤ l.length ∧ q'.sb = q.sb ∧ StQ q' t' ∧ StB 1099511627776 t' (301 + i) ∧ t'.seq = seq + i ∧ R' = stO q' t' (stO q2 t R) ∧ Φ' = (fun M w => (Φ M w ∧ stF q2 t M w) ∧ stF q' t' M w) ∧ k = l.length - i)
    ⟨⟨_, _, _, hst3, fun w G cx => cx, 0, q, t, rfl, Nat.zero_le _, rfl, hq, hB, by rw [hsq]; omega, rfl, rfl, rfl⟩, ?_⟩
  rintro nI R1 Φ1 k _ ⟨i, q', t', rfl, hi, hb, hq', hB', hs', rfl, rfl, rfl⟩
  have hst4 : Stable (fun M w => (Φ M w ∧ stF q2 t M w) ∧ stF q' t' M w) := instStableSt (fun M w => Φ M w ∧ stF q2 t M w) q' t'
  refine Br.intro (fun hlt => ?_) (fun hge => Br.intro (fun _ => fun w G cx => ?_) (fun h => by cases h))
  · have hlt : i < l.length := by have := of_decide_eq_true hlt; omega
    obtain ⟨g, o, rfl⟩ := hth (by omega)
    have hfx := hfit _ (List.getElem_mem hlt)
    refine ⟨[], Φ, inferInstance, fun w G cx => (Ctx.right (S := stO q' t' (stO q2 t R)) cx).weak fun M w h => h.1.1, ⟨by omega, by omega⟩, ptrK_intro g o rfl ⟨⟨by omega, by omega⟩, ptrK_intro g o rfl ⟨l[i].key, fun w G cx => ⟨l[i].key, by rw [Int.toNat_natCast]; exact sl_op (hΦ _ _ cx.phi) hlt 2 (by show 2 < 4; decide), rfl⟩, l[i].val, fun w G cx => ⟨l[i].val, by rw [Int.toNat_natCast]; exact sl_op (hΦ _ _ cx.phi) hlt 3 (by show 3 < 4; decide), rfl⟩, fun w G cx => ?_⟩⟩⟩
    refine put_at hb hq' hB' (by omega) hfx.1 hfx.2 cx fun q3 hb3 hq3 => ⟨by unfold I64; omega, _, _, l.length - (i + 1), instStableSt (fun M w => Φ M w ∧ stF q2 t M w) q3 _, fun w G cx => cx, ⟨i + 1, q3, _, by omega, by omega, hb3, hq3, put_b ⟨by decide, by decide⟩ (by omega) hB' hfx.1 hfx.2, by show t'.seq + 1 = _; omega, rfl, rfl, rfl⟩, by omega⟩
  have hge : i = l.length := by have := of_decide_eq_false hge; omega
  subst hge
  have hst5 : Stable (fun M w => Φ M w ∧ stF q' t' M w) := instStableSt Φ q' t'
  have hst6 : Stable (fun M w => (Φ M w ∧ stF q' t' M w) ∧ stF q2 t M w) := instStableSt (fun M w => Φ M w ∧ stF q' t' M w) q2 t
  have swap1 : ∀ (w : World) (G : List Own), Ctx W w (stO q' t' (stO q2 t R) ++ G) (fun M w => (Φ M w ∧ stF q2 t M w) ∧ stF q' t' M w) → Ctx W w (stO q2 t (stO q' t' R) ++ G) (fun M w => (Φ M w ∧ stF q' t' M w) ∧ stF q2 t M w) := fun w G cx => (cx.perm (List.Perm.append_right G (st_two q' t' q2 t R))).weak fun M w h => ⟨⟨h.1.1, h.2⟩, h.1.2⟩
  have swap2 : ∀ (w : World) (G : List Own), Ctx W w (stO q2 t (stO q' t' R) ++ G) (fun M w => (Φ M w ∧ stF q' t' M w) ∧ stF q2 t M w) → Ctx W w (stO q' t' (stO q2 t R) ++ G) (fun M w => (Φ M w ∧ stF q2 t M w) ∧ stF q' t' M w) := fun w G cx => (cx.perm (List.Perm.append_right G (st_two q2 t q' t' R))).weak fun M w h => ⟨⟨h.1.1, h.2⟩, h.1.2⟩
  have cx2 := swap1 _ _ cx
  clear cx
  have hC2 := st_caps (S := stO q' t' R ++ G) hq2 (cx2.re (e2 _ _ _ _ G))
  refine look (S := stO q' t' R ++ G) (Φ := fun M w => Φ M w ∧ stF q' t' M w) hq2 (v := .string (snapB t)) (cx2.re (e2 _ _ _ _ G)) (fun Ψ h1 h2 h3 => Snapshot_in (hΦ := h2) (fun M w h => (hN M w (h3.go M w h).1).1) hC2 (by omega) (by omega) (by omega) hB.f (by unfold I64; omega)) fun w cx => ⟨_, rfl, stO q2 t (stO q' t' R), _, hst6, cx.re (e2 _ _ _ _ G).symm, Br.intro (fun _ => fun w G cx => ?_) (fun h => absurd hsnap (of_decide_eq_false h))⟩
  refine look (S := stO q' t' R ++ G) (Φ := fun M w => Φ M w ∧ stF q' t' M w) hq2 (v := .int .i64 t.seq) (cx.re (e2 _ _ _ _ G)) (fun Ψ h1 h2 h3 => Seq_in (hΦ := h2)) fun w cx => ⟨_, rfl, stO q2 t (stO q' t' R), _, hst6, cx.re (e2 _ _ _ _ G).symm, by unfold I64; omega, fun w G cx => ?_⟩
  rw [← hb]
  refine look (S := stO q2 t R ++ G) (Φ := fun M w => Φ M w ∧ stF q2 t M w) hq' (v := .int .i64 t'.seq) ((swap2 _ _ cx).re (e2 _ _ _ _ G)) (fun Ψ h1 h2 h3 => Seq_in (hΦ := h2)) fun w cx => ⟨_, rfl, stO q' t' (stO q2 t R), _, hst4, cx.re (e2 _ _ _ _ G).symm, fun w G cx => ⟨?_, ?_⟩⟩
  · rw [decide_eq_true (show t.seq + (l.length : Int) = t'.seq by omega)]
  · have c1 := st_drop (R := stO q2 t R) (Φ := fun M w => Φ M w ∧ stF q2 t M w) cx
    exact st_drop (R := R) (G := []) (Φ := Φ) (c1.re (List.append_nil _).symm)
end Go.Proofs.YtebnciehcnedjaaGreatDoor
end

/-
  From what a row lists as laid to the facts of the walk.
-/
section
set_option linter.unusedVariables false
set_option linter.unusedSimpArgs false
namespace Go.Proofs.YtebnciehcnedjaaGreatDoor
open Go.Vc Go.RowKit


theorem la_row (u : TypeId) (h : Tryz.prog.typeName? 3 u = some "*errors.errorString") : u = 172 :=
  typeName_ptr_named (nm := "errors.errorString") (by rw [show "*" ++ "errors.errorString" = "*errors.errorString" by decide]; kernel_rfl) (by kernel_rfl) (by decide) u (by rw [show "*" ++ "errors.errorString" = "*errors.errorString" by decide]; exact h)

theorem la_err {n : String} {text : List UInt8} {r : List (String × DataW Unit)} {W : World} {g : Nat} (h : laidMet Tryz.prog ((n, .iface "*errors.errorString" (.ptr (.agg [.lit (.string text)]))) :: r) W)
    (hg : Tryz.prog.globalNamed n = some g) (ht : (Tryz.prog.globals[g]?).map (·.type) = some 91) : ErrAt g [] W := by
  obtain ⟨a, s, hv, _⟩ := laid_sentinel h hg ht Tryz.underlying91 la_row Tryz.underlying172 Tryz.underlying174 rfl rfl Tryz.underlying9 (by kernel_rfl) (by kernel_rfl)
  exact ⟨by simp, _, by have h0 := World.var?_cell hg hv 0; simpa using h0, .inr ⟨_, _, rfl⟩⟩

theorem la_num {W : World} (h : laidMetH Tryz.prog Rows.storeBoundsRow.laid W) : NumI [] W := by
  rw [MakeChecks.laidMetH_plain Tryz.prog Rows.storeBoundsRow.laid W (by kernel_rfl)] at h
  have h2 := h.tail.tail
  exact ⟨Tab.start (Lib.tabIs_of_head (k := .u64) (zs := Lib.pow10Tab) (g := 3) (t := 166) (e := 154) (n := 20) (by kernel_rfl) (by kernel_rfl) (by kernel_rfl) (by kernel_rfl) (by kernel_rfl) (by kernel_rfl) h2),
    la_err h2.tail.tail (by kernel_rfl) (by kernel_rfl), la_err h2.tail (by kernel_rfl) (by kernel_rfl)⟩

end Go.Proofs.YtebnciehcnedjaaGreatDoor
end

section
set_option linter.unusedVariables false
set_option linter.unusedSimpArgs false
namespace Go.Proofs.YtebnciehcnedjaaGreatDoor
open Go.ChangeShapes Go.WideShapes Go.ChangeAt Go.RowKit Go.Vc


theorem df_own : ownKnob Tryz.prog.godebug = none := by kernel_rfl
theorem df_laid : laidOutB Tryz.prog = true := by kernel_rfl

theorem trodAll_n {H : Type} {enc : TypeId × Value → H} {P : Program} {w : World} {base : Nat} {spare : Nat → Bool} {held : Bool} {t0 t1 : TypeId} {args : Array Value} {ds : List (DataW H)} {ps : List MemPlace} (h : DataW.TrodAll enc P w base spare held [t0, t1] args.toList ds ps) :
    ∃ v0 v1 d0 d1 p0 p1, args = #[v0, v1] ∧ ds = [d0, d1] ∧ ps = p0 ++ p1 ∧ DataW.Trod enc P w base spare held t0 v0 d0 p0 ∧ DataW.Trod enc P w base spare held t1 v1 d1 p1 := by
  obtain ⟨v0, vs0, d0, ds0, p0, q0, hargs, rfl, rfl, h0, h⟩ := trodAll_cons h
  obtain ⟨v1, vs1, d1, ds1, p1, q1, rfl, rfl, rfl, h1, h⟩ := trodAll_cons h
  obtain ⟨rfl, rfl, rfl⟩ := trodAll_nil h
  exact ⟨v0, v1, d0, d1, p0, p1, by cases args; simp_all, rfl, by simp, h0, h1⟩

theorem door_met (os : Os) (args : Array Value) : laidMetH Tryz.prog Rows.storeRestoresRow.laid ((World.doorLaid Tryz.prog 400 os).forCall (fun _ _ => 0) ⟨#[], args, []⟩).memory :=
  laidMetH_of_parts3 (fuel := 8) (laidMet_of_run' 8 (by kernel_rfl) (by kernel_rfl)) (by kernel_rfl) (by kernel_rfl)

set_option maxRecDepth 100000 in
theorem law_lifted (os : Os) (started : os.Started) (H : Type) (enc : TypeId × Value → H) :
    ReturnsInHanded {} Tryz.checked os 3 .any (fun w args => (Rows.storeRestoresSpec.pre enc Tryz.prog Tryz.f3 Rows.storeRestoresRow.domain false w args ∧ laidMetH Tryz.prog Rows.storeRestoresRow.laid w) ∧ sizedMet enc Tryz.prog Tryz.f3 (OpenSpec.ofChange Rows.storeRestoresSpec) false w args) (Rows.storeRestoresSpec.post enc Tryz.prog Tryz.f3 false true false false) := by
  refine lawTrueLaid (C := Tryz.checked) (tb := 4) df_own started (by kernel_rfl) Tryz.func3 df_laid rfl ?_ rfl Tryz.underlying4 (by kernel_rfl)
    (ChangeSpec.witness_shaped (enc := enc) (C := Tryz.checked) (os := os) (X := fun w _ => laidMetH Tryz.prog Rows.storeRestoresRow.laid w) false (World.doorLaid Tryz.prog 400 os) #[.string .empty, .slice none 0 0] 8 rfl (World.shaped_of_RefB (by kernel_rfl) (by kernel_rfl)) (by kernel_rfl) (by kernel_rfl) (by kernel_rfl) (door_met os _)) ?_
  · intro ds hd
    match ds, hd with
    | [_, _], _ => exact ⟨rfl, rfl, rfl⟩
  · intro W base args ds p hval0 hA0 _ hL
    have hval : ∀ (j : Nat) t v, Tryz.f3.params[j]? = some t → args[j]? = some v → Value.okWide Tryz.prog W .any base t v := hval0
    have hA : DataW.TrodAll enc Tryz.prog W 0 (fun _ => true) true Tryz.f3.params.toList args.toList ds p := hA0
    rw [Tryz.params3] at hA hval
    obtain ⟨v0, v1, d0, d1, p0, p1, rfl, rfl, rfl, h0, h1⟩ := trodAll_n hA
    obtain ⟨x, rfl, rfl, rfl, xw⟩ := Go.ChangeMaps.open_string Tryz.underlying9 (hval 0 9 v0 rfl rfl) h0
    obtain ⟨lp, lc, l, rfl, la, lb, s1⟩ := open_sl (α := OpD) 12 Tryz.underlying22 (hval 1 22 v1 rfl rfl) (by kernel_rfl) h1
    have st0 : Stable (fun M w => Sl M w lp l) := inferInstance
    have st1 : Stable (fun M w => NumI M w ∧ Sl M w lp l) := instStableAnd (fun M w => NumI M w) (fun M w => Sl M w lp l)
    have fin : GivesIn (fun M w => NumI M w ∧ Sl M w lp l) Tryz.prog 3 _ (.bool true) := Restores_in (Φ := (fun M w => NumI M w ∧ Sl M w lp l)) (p := lp) (cap := lc) (l := l) (x := x) (fun _ _ h => h.1) (fun _ _ h => h.2) (by omega)
    exact fin.law ⟨la_num hL, s1⟩

theorem row_holds : Rows.StoreRestoresSaid :=
  OpenClaim.holds_of_wide 3 Tryz.f3 rfl rfl rfl rfl rfl rfl rfl ⟨rfl, rfl, rfl, rfl, rfl⟩ rfl rfl rfl rfl rfl (by kernel_rfl) Tryz.func3 (by kernel_rfl)
    (of_decide_eq_true (by kernel_rfl)) (by unfold Func.isWrapper; first | (rw [if_pos (by decide +kernel)]; kernel_rfl) | (rw [if_neg (by decide +kernel)]; exact ⟨rfl, rfl⟩))
    (fun os started H enc _ => law_lifted os started H enc)

theorem restores_holds : Rows.StoreRestoresCardSaid :=
  Claim7.holds_tied_plain_at .later [] [.data, .data, .data, .sentinel, .sentinel] true Rows.storeRestoresCard.stood.harness true
    row_holds (fun _ h => by cases h) (by kernel_rfl) (fun _ h => by cases h) storeRestores_row_tie rfl ⟨rfl, rfl⟩ (by kernel_rfl) rfl
    (fun f fn hf hfn => by
      obtain rfl : f = 3 := Option.some.inj ((show Tryz.prog.funcNamed Rows.storeRestoresRow.func = some 3 by kernel_rfl).symm.trans hf) |>.symm
      obtain rfl : fn = Tryz.f3 := (Option.some.inj (Tryz.func3.symm.trans hfn)).symm
      exact ⟨by kernel_rfl, fun j t ht => by
        rw [Tryz.params3] at ht
        have hm := Array.mem_of_getElem? ht
        have hall : ((Tryz.f3.params.toList).all fun u => !Tryz.prog.wantsStandIn u) = true := by kernel_rfl
        rw [Tryz.params3] at hall
        exact (show Tryz.prog.wantsStandIn t = false by simpa using List.all_eq_true.1 hall t (by simpa using hm))⟩)
    (by kernel_rfl)

end Go.Proofs.YtebnciehcnedjaaGreatDoor
end

