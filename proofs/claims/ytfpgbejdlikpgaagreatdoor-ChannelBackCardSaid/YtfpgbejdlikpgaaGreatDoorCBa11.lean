/-
  For every input erratalaw36.ChannelBack returns true, does not panic, comes to an end, and leaves what came in as it was; the variables that its row lists are as the program's text lays them.
  Conditions: none beyond the given statement's own (ChannelBackCardSaid).
-/
import Derived.Test.YtfpgbejdlikpgaaGreatDoorCBa10
import Derived.Test.YtfpgbejdlikpgaaGreatDoorCBa9
import Derived.Test.YtfpgbejdlikpgaaGreatDoorTie
import Derived.Test.YtfpgbejdlikpgaaGreatDoorCards
import Derived.SevenTiedAt
import Derived.LaidMore
import Derived.ChangeMaps5
import Derived.Test.YtfpgbejdlikpgaaGreatDoorRows

/-
  The reference's reader of encodings: numbers and strings, walked.
-/
section
set_option linter.unusedVariables false
set_option linter.unusedSimpArgs false
namespace Go.Proofs.YtfpgbejdlikpgaaGreatDoor
open Go.Vc


/-! ### plain -/
def minZ64 : Int := -9223372036854775808
theorem e_chars {e : UInt8} (he : e.toNat = 58 ∨ e.toNat = 59 ∨ e.toNat = 91) {n : Int} : e ∉ Lib.itoa n := fun h => by have := itoa_chars h; omega
theorem ahead_none {e : UInt8} (he : e.toNat = 58 ∨ e.toNat = 59 ∨ e.toNat = 91) {l : List UInt8} {j : Nat} (h1 : e ∉ l.take j) (h2 : l.length ≤ j ∨ 21 ≤ j) : numP e minZ64 l = none := by
  cases hn : numP e minZ64 l with
  | none => rfl
  | some x =>
    obtain ⟨n, r⟩ := x
    obtain ⟨⟨g1, _⟩, g2⟩ := (numP_iff he).1 hn
    have hl := (itoa_len g1).2
    refine absurd ?_ h1
    rw [g2]
    refine List.mem_of_getElem? (i := (Lib.itoa n).length) ?_
    have hlt : (Lib.itoa n).length < j := by
      rcases h2 with h2 | h2
      · rw [g2, List.length_append, List.length_cons] at h2; omega
      · omega
    rw [List.getElem?_take_of_lt hlt, List.getElem?_append_right (Nat.le_refl _), Nat.sub_self]
    rfl
theorem ahead_some {e : UInt8} (he : e.toNat = 58 ∨ e.toNat = 59 ∨ e.toNat = 91) {l : List UInt8} {j : Nat} (hj : l[j]? = some e) {n : Int} (hn : I64 n) (h : l.take j = Lib.itoa n) : numP e minZ64 l = some (n, l.drop (j + 1)) := by
  refine (numP_iff he).2 ⟨⟨hn, hn.1⟩, ?_⟩
  obtain ⟨hl, he2⟩ := List.getElem?_eq_some_iff.1 hj
  rw [← h, ← he2, ← List.drop_eq_getElem_cons hl, List.take_append_drop]
theorem ahead_bad {e : UInt8} (he : e.toNat = 58 ∨ e.toNat = 59 ∨ e.toNat = 91) {l : List UInt8} {j : Nat} (h1 : e ∉ l.take j) (hj : l[j]? = some e) (h : ∀ n, I64 n → l.take j ≠ Lib.itoa n) : numP e minZ64 l = none := by
  cases hn : numP e minZ64 l with
  | none => rfl
  | some x =>
    obtain ⟨n, r⟩ := x
    obtain ⟨⟨g1, _⟩, g2⟩ := (numP_iff he).1 hn
    refine absurd ?_ (h n g1)
    have hjl := (List.getElem?_eq_some_iff.1 hj).1
    rcases Nat.lt_trichotomy j (Lib.itoa n).length with hlt | heq | hgt
    · rw [g2, List.getElem?_append_left hlt] at hj
      exact absurd (List.mem_of_getElem? hj) (e_chars he)
    · rw [g2, heq, List.take_left]
    · refine absurd ?_ h1
      rw [g2]
      refine List.mem_of_getElem? (i := (Lib.itoa n).length) ?_
      rw [List.getElem?_take_of_lt hgt, List.getElem?_append_right (Nat.le_refl _), Nat.sub_self]
      rfl
theorem numP_zero {e : UInt8} (he : e.toNat = 58 ∨ e.toNat = 59 ∨ e.toNat = 91) (l : List UInt8) : numP e 0 l = (numP e minZ64 l).bind fun x => if x.1 < 0 then none else some x := by
  cases hn : numP e minZ64 l with
  | none =>
    cases h0 : numP e 0 l with
    | none => rfl
    | some x =>
      obtain ⟨n, r⟩ := x
      obtain ⟨⟨g1, g2⟩, g3⟩ := (numP_iff he).1 h0
      have := (numP_iff he (least := minZ64)).2 ⟨⟨g1, g1.1⟩, g3⟩
      rw [hn] at this
      cases this
  | some x =>
    obtain ⟨n, r⟩ := x
    obtain ⟨⟨g1, _⟩, g3⟩ := (numP_iff he).1 hn
    simp only [Option.bind_some]
    split
    · rename_i hneg
      cases h0 : numP e 0 l with
      | none => rfl
      | some y =>
        obtain ⟨m, q⟩ := y
        obtain ⟨⟨k1, k2⟩, k3⟩ := (numP_iff he).1 h0
        have := (numP_iff he (least := minZ64)).2 ⟨⟨k1, k1.1⟩, k3⟩
        rw [hn] at this
        cases this
        omega
    · exact (numP_iff he).2 ⟨⟨g1, by omega⟩, g3⟩
theorem stepN_zero {e : UInt8} (he : e.toNat = 58 ∨ e.toNat = 59 ∨ e.toNat = 91) (st : RdS) : stepN e 0 st = if (stepN e minZ64 st).1 < 0 then (0, ([], true)) else stepN e minZ64 st := by
  unfold stepN
  rw [numP_zero he]
  cases hn : numP e minZ64 st.1 with
  | none => simp
  | some x =>
    obtain ⟨n, r⟩ := x
    simp only [Option.bind_some]
    by_cases h : n < 0
    · rw [if_pos h, if_pos h]
    · rw [if_neg h, if_neg h]
section
variable {W w : World} {R G S : List Own} {Φ : PW} {b : Nat} {st : RdS}

/-! ### walked -/
abbrev rq (b : Nat) (st : RdS) : Own := .blk b [.string (bs st.1), .bool st.2] 93

theorem Open01_to [Stable Φ] (l : List UInt8) (c : Ctx W w (S ++ G) Φ) {K : Option Addr → List Own → PW → Prop} (hk : ∀ b, K (some ⟨b, 0, none⟩) (rq b (l, false) :: S) Φ) :
    Calls Tryz.prog F.errataref01_Open #[.string (bs l)] w fun e w' => ∃ p, e = .returned (.pointer p) ∧ ∃ R' Φ', Stable Φ' ∧ Ctx W w' (R' ++ G) Φ' ∧ K p R' Φ' := by
  refine (Berrataref01_Open_run (bs l) (J := fun u w' => ∃ p, (Ending.returned u) = .returned (.pointer p) ∧ ∃ R' Φ', Stable Φ' ∧ Ctx W w' (R' ++ G) Φ' ∧ K p R' Φ') c ?_).mono fun e w' ⟨v, he, hj⟩ => by rw [he]; exact hj
  exact fun b w G2 cx => ⟨_, rfl, rq b (l, false) :: S, Φ, inferInstance, Ctx.left (S := rq b (l, false) :: (S ++ G)) cx, hk b⟩
theorem fail01_to [Stable Φ] (c : Ctx W w (rq b st :: S ++ G) Φ) {K : Int → List Own → PW → Prop} (hk : K 0 (rq b ([], true) :: S) Φ) :
    Calls Tryz.prog F.errataref01_Reader_fail #[.pointer (some ⟨b, 0, none⟩)] w fun e w' => ∃ n, e = .returned (.int .i64 n) ∧ ∃ R' Φ', Stable Φ' ∧ Ctx W w' (R' ++ G) Φ' ∧ K n R' Φ' := by
  refine (Berrataref01_Reader_fail_run b 0 (J := fun u w' => ∃ n, (Ending.returned u) = .returned (.int .i64 n) ∧ ∃ R' Φ', Stable Φ' ∧ Ctx W w' (R' ++ G) Φ' ∧ K n R' Φ') (R := rq b st :: (S ++ G)) c ?_).mono fun e w' ⟨v, he, hj⟩ => by rw [he]; exact hj
  refine fun w G2 cx => ⟨cx.can 0 rfl (by simp), fun w' hw' => ⟨.blk b [.string (bs []), .bool st.2] 93 :: (S ++ G), Φ, inferInstance, cx.put 0 hw' rfl, fun w G2 cx => ⟨cx.can 0 rfl (by simp), fun w' hw' => ⟨rq b ([], true) :: (S ++ G), Φ, inferInstance, cx.put 0 hw' rfl, fun w G2 cx => ⟨0, rfl, rq b ([], true) :: S, Φ, inferInstance, cx.left, hk⟩⟩⟩⟩⟩

set_option maxHeartbeats 1000000 in
theorem ahead_to [Stable Φ] {e : Int} (he : e = 58 ∨ e = 59 ∨ e = 91) (hl : st.1.length ≤ 1000000000) (c : Ctx W w (rq b st :: S ++ G) Φ) {K : Int → List Own → PW → Prop}
    (hk : K (stepN e.toNat.toUInt8 minZ64 st).1 (rq b (stepN e.toNat.toUInt8 minZ64 st).2 :: S) Φ) :
    Calls Tryz.prog F.errataref01_Reader_ahead #[.pointer (some ⟨b, 0, none⟩), .int .u8 e] w fun e w' => ∃ n, e = .returned (.int .i64 n) ∧ ∃ R' Φ', Stable Φ' ∧ Ctx W w' (R' ++ G) Φ' ∧ K n R' Φ' := by
  refine (Berrataref01_Reader_ahead_run b 0 e (J := fun u w' => ∃ n, (Ending.returned u) = .returned (.int .i64 n) ∧ ∃ R' Φ', Stable Φ' ∧ Ctx W w' (R' ++ G) Φ' ∧ K n R' Φ') (R := rq b st :: (S ++ G)) c ?_).mono fun e w' ⟨v, he, hj⟩ => by rw [he]; exact hj
  clear c
  obtain ⟨l, bad⟩ := st
  have hl : l.length ≤ 1000000000 := hl
  obtain ⟨c, hc⟩ : ∃ c : UInt8, e.toNat.toUInt8 = c := ⟨_, rfl⟩
  have hce : (c.toNat : Int) = e ∧ (c.toNat = 58 ∨ c.toNat = 59 ∨ c.toNat = 91) := by
    rcases he with rfl | rfl | rfl <;> subst hc <;> decide
  obtain ⟨hce, hc3⟩ := hce
  rw [hc] at hk
  have hsz : (bs l).size = l.length := bs_size l
  have none_ : numP c minZ64 l = none → ∀ {w : World} {G2 : List Own}, Ctx W w (rq b (l, bad) :: (S ++ G) ++ G2) Φ → Calls Tryz.prog F.errataref01_Reader_fail #[.pointer (some ⟨b, 0, none⟩)] w fun e25 w26 => ∃ n27, e25 = .returned (.int .i64 n27) ∧ ∃ R28 Φ29, Stable Φ29 ∧ Ctx W w26 (R28 ++ G2) Φ29 ∧ ∀ (w30 : World) (R31 : List Own), Ctx W w30 (R28 ++ R31) Φ29 → ∃ n, (Ending.returned (Value.int .i64 n27)) = .returned (.int .i64 n) ∧ ∃ R' Φ', Stable Φ' ∧ Ctx W w30 (R' ++ G) Φ' ∧ K n R' Φ' := fun h {w G2} cx => by
    rw [stepN_none h] at hk
    exact fail01_to (S := S ++ G) (G := G2) cx fun w G3 cx => ⟨0, rfl, rq b ([], true) :: S, Φ, inferInstance, Ctx.left (S := rq b ([], true) :: (S ++ G)) cx, hk⟩
  refine exI_mk (fun jI R' Φ' k => ∃ j : Nat, jI = j ∧ j ≤ l.length ∧ j ≤ 21 ∧ c ∉ l.take j ∧ R' = rq b (l, bad) :: (S ++ G) ∧ Φ' = Φ ∧ k = l.length - j) ⟨⟨_, _, _, inferInstance, fun w G cx => cx, 0, rfl, Nat.zero_le _, by omega, by simp, rfl, rfl, rfl⟩, ?_⟩
  rintro jI R1 Φ1 k _ ⟨j, rfl, hj, hj21, hn, rfl, rfl, rfl⟩
  have cell : ∀ {w : World} {G2 : List Own}, Ctx W w (rq b (l, bad) :: (S ++ G) ++ G2) Φ1 → w.cell? ⟨b, 0, none⟩ = some (.string (bs l)) := fun cx => cx.get 0 rfl rfl
  have hbyte : ∀ {i : Nat}, i < l.length → (bs l).data.toList.get?Internal ((i : Int)).toNat = some (l[i]?.getD 0) ∧ l[i]? = some (l[i]?.getD 0) := fun {i} hi => by
    rw [bs_list, getI, Int.toNat_natCast, List.getElem?_eq_getElem hi]
    exact ⟨rfl, rfl⟩
  refine fun w G2 cx => ⟨bs l, cell cx, bs l, fun _ => cell cx, l[j]?.getD 0, fun h => ?_, ?_⟩
  · rw [Bool.and_eq_true, hsz] at h
    have h := of_decide_eq_true h.1
    exact ⟨by omega, (hbyte (by omega)).1⟩
  clear cx
  rw [hsz]
  refine Br.intro (fun h => ?_) (fun h => fun w G2 cx => ⟨bs l, cell cx, ?_⟩)
  · rw [Bool.and_eq_true, Bool.and_eq_true] at h
    have h1 := of_decide_eq_true h.1.1
    have h2 := of_decide_eq_true h.1.2
    have h3 := of_decide_eq_true h.2
    have hjl : j < l.length := by omega
    refine ⟨by unfold I64; omega, _, _, l.length - (j + 1), inferInstance, fun w G cx => cx, ⟨j + 1, by omega, hjl, by omega, fun hm => ?_, rfl, rfl, rfl⟩, by omega⟩
    rw [List.take_succ_eq_append_getElem hjl] at hm
    rcases List.mem_append.1 hm with hm | hm
    · exact hn hm
    · rw [List.getElem?_eq_getElem hjl] at h3
      rw [← List.mem_singleton.1 hm] at h3
      exact h3 (by simpa using hce)
  · clear cx
    rw [hsz]
    refine Br.intro (fun h1 => fun w G2 cx => none_ (ahead_none hc3 hn (.inl (by have := of_decide_eq_true h1; omega))) cx) (fun h1 => fun w G2 cx => ⟨bs l, cell cx, ?_⟩)
    clear cx
    have hjl : j < l.length := by have := of_decide_eq_false h1; omega
    obtain ⟨hb1, hb2⟩ := hbyte hjl
    refine ⟨_, ⟨by omega, hb1⟩, Br.intro (fun h2 => fun w G2 cx => none_ (ahead_none hc3 hn (.inr ?_)) cx) (fun h2 => fun w G2 cx => ⟨bs l, cell cx, ⟨by omega, by rw [hsz]; omega⟩, fun w G2 cx => ?_⟩)⟩
    · rw [Bool.and_eq_false_iff, Bool.and_eq_false_iff] at h
      rcases h with (h | h) | h
      · have := of_decide_eq_false h; omega
      · have := of_decide_eq_false h; omega
      · exact absurd (of_decide_eq_true h2) (of_decide_eq_false h)
    · have h2 : ((l[j]?.getD 0).toNat : Int) = e := Decidable.not_not.1 (of_decide_eq_false h2)
      have hje : l[j]? = some c := by
        rw [hb2]
        congr 1
        apply UInt8.toNat_inj.1
        omega
      rw [bs_ext, Int.toNat_natCast, List.drop_zero, Nat.sub_zero]
      refine Back_to (R := rq b (l, bad) :: (S ++ G)) (l.take j) (by rw [List.length_take]; omega) cx (fun n hnI hnE => ?_) (fun hbad m => ?_)
      · refine Br.intro (fun h => by cases h) (fun _ => fun w G2 cx => ⟨bs l, cell cx, by unfold I64; omega, ⟨by omega, by rw [hsz]; omega, Nat.le_refl _⟩, fun w G2 cx => ⟨cx.can 0 rfl (by simp), fun w' hw' => ?_⟩⟩)
        rw [stepN_some (ahead_some hc3 hje hnI hnE)] at hk
        have c2 := cx.put 0 hw' rfl
        have e1 : (bs l).extract ((j : Int) + 1).toNat (bs l).size = bs (l.drop (j + 1)) := by
          rw [bs_ext, hsz, show ((j : Int) + 1).toNat = j + 1 by omega, List.take_of_length_le (by rw [List.length_drop]; omega)]
        rw [e1] at c2
        exact ⟨rq b (l.drop (j + 1), bad) :: (S ++ G), Φ1, inferInstance, c2, fun w G2 cx => ⟨n, rfl, rq b (l.drop (j + 1), bad) :: S, Φ1, inferInstance, Ctx.left (S := rq b (l.drop (j + 1), bad) :: (S ++ G)) cx, hk⟩⟩
      · exact Br.intro (fun _ => fun w G2 cx => none_ (ahead_bad hc3 hn hje hbad) cx) (fun h => by cases h)

theorem number01_to [Stable Φ] {e : Int} (he : e = 58 ∨ e = 59 ∨ e = 91) (hl : st.1.length ≤ 1000000000) (c : Ctx W w (rq b st :: S ++ G) Φ) {K : Int → List Own → PW → Prop}
    (hk : K (stepN e.toNat.toUInt8 0 st).1 (rq b (stepN e.toNat.toUInt8 0 st).2 :: S) Φ) :
    Calls Tryz.prog F.errataref01_Reader_number #[.pointer (some ⟨b, 0, none⟩), .int .u8 e] w fun e w' => ∃ n, e = .returned (.int .i64 n) ∧ ∃ R' Φ', Stable Φ' ∧ Ctx W w' (R' ++ G) Φ' ∧ K n R' Φ' := by
  refine (Berrataref01_Reader_number_run b 0 e (J := fun u w' => ∃ n, (Ending.returned u) = .returned (.int .i64 n) ∧ ∃ R' Φ', Stable Φ' ∧ Ctx W w' (R' ++ G) Φ' ∧ K n R' Φ') (R := rq b st :: (S ++ G)) c ?_).mono fun e w' ⟨v, he, hj⟩ => by rw [he]; exact hj
  clear c
  have hc3 : (e.toNat.toUInt8).toNat = 58 ∨ (e.toNat.toUInt8).toNat = 59 ∨ (e.toNat.toUInt8).toNat = 91 := by rcases he with rfl | rfl | rfl <;> decide
  rw [stepN_zero hc3] at hk
  refine fun w G2 cx => ahead_to (S := S ++ G) he hl cx ?_
  clear cx
  refine Br.intro (fun h => fun w G2 cx => ?_) (fun h => fun w G2 cx => ?_)
  · rw [if_pos (of_decide_eq_true h)] at hk
    exact fail01_to (S := S ++ G) cx fun w G2 cx => ⟨0, rfl, rq b ([], true) :: S, Φ, inferInstance, Ctx.left (S := rq b ([], true) :: (S ++ G)) cx, hk⟩
  · rw [if_neg (of_decide_eq_false h)] at hk
    exact ⟨_, rfl, rq b (stepN e.toNat.toUInt8 minZ64 st).2 :: S, Φ, inferInstance, Ctx.left (S := rq b (stepN e.toNat.toUInt8 minZ64 st).2 :: (S ++ G)) cx, hk⟩
theorem Int01r_to [Stable Φ] (hl : st.1.length ≤ 1000000000) (c : Ctx W w (rq b st :: S ++ G) Φ) {K : Int → List Own → PW → Prop} (hk : K (rdInt st).1 (rq b (rdInt st).2 :: S) Φ) :
    Calls Tryz.prog F.errataref01_Reader_Int #[.pointer (some ⟨b, 0, none⟩)] w fun e w' => ∃ n, e = .returned (.int .i64 n) ∧ ∃ R' Φ', Stable Φ' ∧ Ctx W w' (R' ++ G) Φ' ∧ K n R' Φ' := by
  refine (Berrataref01_Reader_Int_run b 0 (J := fun u w' => ∃ n, (Ending.returned u) = .returned (.int .i64 n) ∧ ∃ R' Φ', Stable Φ' ∧ Ctx W w' (R' ++ G) Φ' ∧ K n R' Φ') (R := rq b st :: (S ++ G)) c ?_).mono fun e w' ⟨v, he, hj⟩ => by rw [he]; exact hj
  exact fun w G2 cx => ahead_to (S := S ++ G) (.inr (.inl rfl)) hl cx fun w G2 cx => ⟨_, rfl, rq b (rdInt st).2 :: S, Φ, inferInstance, Ctx.left (S := rq b (rdInt st).2 :: (S ++ G)) cx, hk⟩
theorem Num01r_to [Stable Φ] (hl : st.1.length ≤ 1000000000) (c : Ctx W w (rq b st :: S ++ G) Φ) {K : Int → List Own → PW → Prop} (hk : K (rdNat st).1 (rq b (rdNat st).2 :: S) Φ) :
    Calls Tryz.prog F.errataref01_Reader_Num #[.pointer (some ⟨b, 0, none⟩)] w fun e w' => ∃ n, e = .returned (.int .i64 n) ∧ ∃ R' Φ', Stable Φ' ∧ Ctx W w' (R' ++ G) Φ' ∧ K n R' Φ' := by
  refine (Berrataref01_Reader_Num_run b 0 (J := fun u w' => ∃ n, (Ending.returned u) = .returned (.int .i64 n) ∧ ∃ R' Φ', Stable Φ' ∧ Ctx W w' (R' ++ G) Φ' ∧ K n R' Φ') (R := rq b st :: (S ++ G)) c ?_).mono fun e w' ⟨v, he, hj⟩ => by rw [he]; exact hj
  exact fun w G2 cx => number01_to (S := S ++ G) (.inr (.inl rfl)) hl cx fun w G2 cx => ⟨_, rfl, rq b (rdNat st).2 :: S, Φ, inferInstance, Ctx.left (S := rq b (rdNat st).2 :: (S ++ G)) cx, hk⟩
theorem Left01_to [Stable Φ] (c : Ctx W w (rq b st :: S ++ G) Φ) {K : Int → List Own → PW → Prop} (hk : K st.1.length (rq b st :: S) Φ) :
    Calls Tryz.prog F.errataref01_Reader_Left #[.pointer (some ⟨b, 0, none⟩)] w fun e w' => ∃ n, e = .returned (.int .i64 n) ∧ ∃ R' Φ', Stable Φ' ∧ Ctx W w' (R' ++ G) Φ' ∧ K n R' Φ' := by
  refine (Berrataref01_Reader_Left_run b 0 (J := fun u w' => ∃ n, (Ending.returned u) = .returned (.int .i64 n) ∧ ∃ R' Φ', Stable Φ' ∧ Ctx W w' (R' ++ G) Φ' ∧ K n R' Φ') (R := rq b st :: (S ++ G)) c ?_).mono fun e w' ⟨v, he, hj⟩ => by rw [he]; exact hj
  exact fun w F1 cx => ⟨bs st.1, cx.get 0 rfl rfl, fun w F1 cx => ⟨st.1.length, by rw [bs_size], rq b st :: S, Φ, inferInstance, cx.left, hk⟩⟩
theorem bs_nil {l : List UInt8} : (bs l = ByteArray.mk #[]) ↔ l = [] := by
  constructor
  · intro h
    have := congrArg (fun x => x.data.toList) h
    exact this
  · intro h; rw [h]; rfl
theorem Done01_to [Stable Φ] (c : Ctx W w (rq b st :: S ++ G) Φ) {K : Bool → List Own → PW → Prop} (hk : K (rdDone st) (rq b st :: S) Φ) :
    Calls Tryz.prog F.errataref01_Reader_Done #[.pointer (some ⟨b, 0, none⟩)] w fun e w' => ∃ c, e = .returned (.bool c) ∧ ∃ R' Φ', Stable Φ' ∧ Ctx W w' (R' ++ G) Φ' ∧ K c R' Φ' := by
  refine (Berrataref01_Reader_Done_run b 0 (J := fun u w' => ∃ c, (Ending.returned u) = .returned (.bool c) ∧ ∃ R' Φ', Stable Φ' ∧ Ctx W w' (R' ++ G) Φ' ∧ K c R' Φ') (R := rq b st :: (S ++ G)) c ?_).mono fun e w' ⟨v, he, hj⟩ => by rw [he]; exact hj
  refine fun w F1 cx => ⟨st.2, cx.get 0 rfl rfl, bs st.1, fun _ => cx.get 0 rfl rfl, fun w F1 cx => ⟨rdDone st, ?_, rq b st :: S, Φ, inferInstance, cx.left, hk⟩⟩
  unfold rdDone
  rw [decide_eq_decide.2 (bs_nil (l := st.1))]
theorem close01_to [Stable Φ] {e : Int} (he : 0 ≤ e ∧ e ≤ 255) (hok : RdOk st) (c : Ctx W w (rq b st :: S ++ G) Φ) {K : Bool → List Own → PW → Prop}
    (hk : K (!(stepC e.toNat.toUInt8 st).2) (rq b (stepC e.toNat.toUInt8 st) :: S) Φ) :
    Calls Tryz.prog F.errataref01_Reader_close #[.pointer (some ⟨b, 0, none⟩), .int .u8 e] w fun e w' => ∃ c, e = .returned (.bool c) ∧ ∃ R' Φ', Stable Φ' ∧ Ctx W w' (R' ++ G) Φ' ∧ K c R' Φ' := by
  refine (Berrataref01_Reader_close_run b 0 e (J := fun u w' => ∃ c, (Ending.returned u) = .returned (.bool c) ∧ ∃ R' Φ', Stable Φ' ∧ Ctx W w' (R' ++ G) Φ' ∧ K c R' Φ') (R := rq b st :: (S ++ G)) c ?_).mono fun e w' ⟨v, he, hj⟩ => by rw [he]; exact hj
  clear c
  obtain ⟨l, bad⟩ := st
  obtain ⟨c, hc⟩ : ∃ c : UInt8, e.toNat.toUInt8 = c := ⟨_, rfl⟩
  have hce : (c.toNat : Int) = e := by
    subst hc
    have : e.toNat.toUInt8.toNat = e.toNat % 256 := by simp [Nat.toUInt8]
    omega
  rw [hc] at hk
  have hsz : (bs l).size = l.length := bs_size l
  have cell : ∀ {w : World} {G2 : List Own}, Ctx W w (rq b (l, bad) :: (S ++ G) ++ G2) Φ → w.cell? ⟨b, 0, none⟩ = some (.string (bs l)) := fun cx => cx.get 0 rfl rfl
  have none_ : stepC c (l, bad) = ([], true) → ∀ {w : World} {G2 : List Own}, Ctx W w (rq b (l, bad) :: (S ++ G) ++ G2) Φ → Calls Tryz.prog F.errataref01_Reader_fail #[.pointer (some ⟨b, 0, none⟩)] w fun e25 w26 => ∃ n27, e25 = .returned (.int .i64 n27) ∧ ∃ R28 Φ29, Stable Φ29 ∧ Ctx W w26 (R28 ++ G2) Φ29 ∧ ∀ (w30 : World) (R31 : List Own), Ctx W w30 (R28 ++ R31) Φ29 → ∃ c, (Ending.returned (Value.bool false)) = .returned (.bool c) ∧ ∃ R' Φ', Stable Φ' ∧ Ctx W w30 (R' ++ G) Φ' ∧ K c R' Φ' := fun h {w G2} cx => by
    rw [h] at hk
    exact fail01_to (S := S ++ G) (G := G2) cx fun w G3 cx => ⟨false, rfl, rq b ([], true) :: S, Φ, inferInstance, Ctx.left (S := rq b ([], true) :: (S ++ G)) cx, hk⟩
  refine fun w G2 cx => ⟨bs l, cell cx, ?_⟩
  clear cx
  rw [hsz]
  cases l with
  | nil => exact Br.intro (fun _ => fun w G2 cx => none_ rfl cx) (fun h => absurd rfl (of_decide_eq_false h))
  | cons x r =>
    refine Br.intro (fun h => by have := of_decide_eq_true h; rw [List.length_cons] at this; omega) (fun _ => fun w G2 cx => ⟨_, cell cx, x, ⟨by decide, rfl⟩, ?_⟩)
    clear cx
    refine Br.intro (fun h => fun w G2 cx => none_ (by unfold stepC; simp only; rw [if_neg fun e => of_decide_eq_true h (by rw [e]; exact hce)]) cx) (fun h => fun w G2 cx => ⟨_, cell cx, ⟨by decide, by rw [hsz, List.length_cons]; omega, Nat.le_refl _⟩, fun w G2 cx => ⟨cx.can 0 rfl (by simp), fun w' hw' => ?_⟩⟩)
    have hxc : x = c := by
      have := Decidable.not_not.1 (of_decide_eq_false h)
      apply UInt8.toNat_inj.1
      omega
    have hst : stepC c (x :: r, bad) = (r, bad) := by unfold stepC; simp only; rw [if_pos hxc]
    rw [hst] at hk
    have hbad : bad = false := by
      cases hb : bad with
      | false => rfl
      | true => have := hok hb; cases this
    have c2 := cx.put 0 hw' rfl
    have e1 : (bs (x :: r)).extract 1 (bs (x :: r)).size = bs r := by
      rw [bs_ext, hsz, List.drop_succ_cons, List.drop_zero, List.length_cons, List.take_of_length_le (by omega)]
    rw [e1] at c2
    rw [hbad] at hk c2
    exact ⟨rq b (r, false) :: (S ++ G), Φ, inferInstance, c2, fun w G2 cx => ⟨true, rfl, rq b (r, false) :: S, Φ, inferInstance, Ctx.left (S := rq b (r, false) :: (S ++ G)) cx, hk⟩⟩
theorem stepT_bad1 {st : RdS} (h : RdOk (stepN 58 0 st).2) (hb : (stepN 58 0 st).2.2 = true ∨ ((stepN 58 0 st).2.1.length : Int) ≤ (stepN 58 0 st).1) : stepT st = (ByteArray.mk #[], ([], true)) := by
  unfold stepT
  simp only
  have hn := stepN_nonneg (e := 58) (.inl rfl) st
  split
  · rfl
  · rename_i hlt
    have hd : (stepN 58 0 st).2.1.drop (stepN 58 0 st).1.toNat = [] := by
      rcases hb with hb | hb
      · rw [h hb, List.drop_nil]
      · exact List.drop_of_length_le (by omega)
    rw [hd]
    rfl
set_option maxHeartbeats 1000000 in
theorem Text01r_to [Stable Φ] (hok : RdOk st) (hl : st.1.length ≤ 1000000000) (c : Ctx W w (rq b st :: S ++ G) Φ) {K : ByteArray → List Own → PW → Prop} (hk : K (stepT st).1 (rq b (stepT st).2 :: S) Φ) :
    Calls Tryz.prog F.errataref01_Reader_Text #[.pointer (some ⟨b, 0, none⟩)] w fun e w' => ∃ s, e = .returned (.string s) ∧ ∃ R' Φ', Stable Φ' ∧ Ctx W w' (R' ++ G) Φ' ∧ K s R' Φ' := by
  refine (Berrataref01_Reader_Text_run b 0 (J := fun u w' => ∃ s, (Ending.returned u) = .returned (.string s) ∧ ∃ R' Φ', Stable Φ' ∧ Ctx W w' (R' ++ G) Φ' ∧ K s R' Φ') (R := rq b st :: (S ++ G)) c ?_).mono fun e w' ⟨v, he, hj⟩ => by rw [he]; exact hj
  clear c
  refine fun w G2 cx => number01_to (S := S ++ G) (.inl rfl) hl cx ?_
  clear cx
  rw [show ((58 : Int).toNat.toUInt8) = (58 : UInt8) from rfl]
  have hok1 := stepN_ok (e := 58) (least := 0) hok
  have hbd := stepT_bad1 (st := st) hok1
  have hn := stepN_nonneg (e := 58) (.inl rfl) st
  have hlen := stepN_len 58 0 st
  have hT : stepT st = if ((stepN 58 0 st).2.1.length : Int) < (stepN 58 0 st).1 then (ByteArray.mk #[], ([], true)) else (if (stepC 44 ((stepN 58 0 st).2.1.drop (stepN 58 0 st).1.toNat, (stepN 58 0 st).2.2)).2 then ByteArray.mk #[] else bs ((stepN 58 0 st).2.1.take (stepN 58 0 st).1.toNat), stepC 44 ((stepN 58 0 st).2.1.drop (stepN 58 0 st).1.toNat, (stepN 58 0 st).2.2)) := rfl
  obtain ⟨⟨n, l, bad⟩, ha⟩ : ∃ a, stepN 58 0 st = a := ⟨_, rfl⟩
  rw [ha] at hok1 hbd hn hlen hT ⊢
  simp only at hok1 hbd hn hlen hT ⊢
  have hsz : (bs l).size = l.length := bs_size l
  have cell : ∀ {w : World} {G2 : List Own}, Ctx W w (rq b (l, bad) :: (S ++ G) ++ G2) Φ → w.cell? ⟨b, 0, none⟩ = some (.string (bs l)) := fun cx => cx.get 0 rfl rfl
  refine fun w G2 cx => ⟨bad, cx.get 0 rfl rfl, bs l, fun _ => cell cx, ?_⟩
  clear cx
  rw [hsz]
  refine Br.intro (fun h => fun w G2 cx => fail01_to (S := S ++ G) cx fun w G2 cx => ?_) (fun h => fun w G2 cx => ⟨bs l, cell cx, ?_, fun w G2 cx => ⟨bs l, cell cx, ?_, fun w G2 cx => ⟨cx.can 0 rfl (by simp), fun w' hw' => ?_⟩⟩⟩)
  · rw [Bool.or_eq_true] at h
    rw [hbd (h.elim .inl fun h => .inr (of_decide_eq_true h))] at hk
    exact ⟨_, rfl, rq b ([], true) :: S, Φ, inferInstance, Ctx.left (S := rq b ([], true) :: (S ++ G)) cx, hk⟩
  all_goals rw [Bool.or_eq_false_iff] at h
  all_goals have h1 := of_decide_eq_false h.2
  · rw [hsz]; omega
  · rw [hsz]; exact ⟨by omega, by omega, Nat.le_refl _⟩
  · have c2 := cx.put 0 hw' rfl
    have e1 : (bs l).extract n.toNat (bs l).size = bs (l.drop n.toNat) := by
      rw [bs_ext, hsz, List.take_of_length_le (by rw [List.length_drop]; omega)]
    rw [e1] at c2
    have hok2 : RdOk (l.drop n.toNat, bad) := fun hb => by
      have : bad = true := hb
      rw [h.1] at this; cases this
    rw [if_neg (by omega)] at hT
    rw [hT] at hk
    refine ⟨rq b (l.drop n.toNat, bad) :: (S ++ G), Φ, inferInstance, c2, fun w G2 cx => close01_to (S := S ++ G) (st := (l.drop n.toNat, bad)) (e := 44) (by decide) hok2 cx ?_⟩
    clear cx c2
    rw [show ((44 : Int).toNat.toUInt8) = (44 : UInt8) from rfl]
    obtain ⟨c, hcq⟩ : ∃ c, stepC 44 (l.drop n.toNat, bad) = c := ⟨_, rfl⟩
    rw [hcq] at hk ⊢
    refine Br.intro (fun h2 => fun w G2 cx => ⟨_, rfl, rq b c :: S, Φ, inferInstance, Ctx.left (S := rq b c :: (S ++ G)) cx, ?_⟩) (fun h2 => fun w G2 cx => ⟨_, rfl, rq b c :: S, Φ, inferInstance, Ctx.left (S := rq b c :: (S ++ G)) cx, ?_⟩)
    · have h2 : c.2 = true := by simpa using h2
      simp only [h2, if_true] at hk
      exact hk
    · have h2 : c.2 = false := by simpa using h2
      have e2 : (bs l).extract 0 n.toNat = bs (l.take n.toNat) := by rw [bs_ext, List.drop_zero, Nat.sub_zero]
      rw [e2]
      simp only [h2] at hk
      exact hk
end
end Go.Proofs.YtfpgbejdlikpgaaGreatDoor
end

/-
  The reference's reader: rows; walked. (The first part of nRn.)
-/
section
set_option linter.unusedVariables false
set_option linter.unusedSimpArgs false
namespace Go.Proofs.YtfpgbejdlikpgaaGreatDoor
open Go.Vc


/-! ### rows, in plain Lean -/
theorem rdInt_len (st : RdS) : (rdInt st).2.1.length ≤ st.1.length := stepN_len 59 (-9223372036854775808) st
def vLoop : Nat → RdS → List ValD → List ValD × RdS
  | 0, st, acc => (acc, st)
  | n + 1, st, acc => vLoop n (stepV st).2 (acc ++ [(stepV st).1])
theorem stepV_nil (b : Bool) : (stepV ([], b)).2 = ([], true) := by
  have h1 : ∀ b, rdInt ([], b) = (0, ([], true)) := fun b => stepN_none (numP_nil _ _)
  have h2 : ∀ b, stepN 58 0 (([] : List UInt8), b) = (0, ([], true)) := fun b => stepN_none (numP_nil _ _)
  unfold stepV
  rw [h1, h1]
  unfold stepT
  rw [h2]
  rfl
theorem vLoop_bad : ∀ (n : Nat) (acc : List ValD), (vLoop n ([], true) acc).2 = ([], true)
  | 0, acc => rfl
  | n + 1, acc => by
    show (vLoop n (stepV ([], true)).2 _).2 = _
    rw [stepV_nil]
    exact vLoop_bad n _
theorem vLoop_row : ∀ (n : Nat) (st : RdS) (acc : List ValD), (∀ a s', rowLoop n st acc = some (a, s') → vLoop n st acc = (a, s')) ∧ (rowLoop n st acc = none → rdDone (vLoop n st acc).2 = false)
  | 0, st, acc => ⟨fun a s' h => by unfold rowLoop at h; exact Option.some.inj h, fun h => by unfold rowLoop at h; cases h⟩
  | n + 1, st, acc => by
    have ih := vLoop_row n (stepV st).2 (acc ++ [(stepV st).1])
    unfold rowLoop vLoop
    split
    · rename_i hnil
      refine ⟨fun a s' h => (by cases h), fun _ => ?_⟩
      obtain ⟨l, b⟩ := st
      have hnil : l = [] := hnil
      rw [hnil, stepV_nil, vLoop_bad]
      rfl
    · exact ih
theorem vLoop_len : ∀ (n : Nat) (st : RdS) (acc : List ValD), (vLoop n st acc).1.length = acc.length + n
  | 0, st, acc => rfl
  | n + 1, st, acc => by
    show (vLoop n (stepV st).2 (acc ++ [(stepV st).1])).1.length = _
    rw [vLoop_len n, List.length_append, List.length_singleton]; omega
theorem rowLoop_long : ∀ (n : Nat) (st : RdS) (acc : List ValD), st.1.length < n → rowLoop n st acc = none
  | 0, st, acc, h => by omega
  | n + 1, st, acc, h => by
    unfold rowLoop
    split
    · rfl
    · rename_i hne
      exact rowLoop_long n _ _ (by have := (stepV_len st).2.1 hne; omega)
/-- the reference's loop gives what the program's gives -/
theorem row_same {l : List UInt8} {n : Int} {s0 : RdS} (h0 : rdNat (l, false) = (n, s0)) (hn : 0 ≤ n) : readRowP l = (let x := vLoop (min n.toNat l.length) s0 []; if rdDone x.2 = true ∧ (x.1.length : Int) = n then some x.1 else none) := by
  have hlen : s0.1.length ≤ l.length := by
    have h := stepN_len 59 0 (l, false)
    have e : stepN 59 0 (l, false) = (n, s0) := h0
    rw [e] at h
    exact h
  have hP : readRowP l = match rowLoop n.toNat s0 [] with
    | some (acc, st) => if rdDone st then some acc else none
    | none => none := by
    show (match rowLoop (rdNat (l, false)).1.toNat (rdNat (l, false)).2 [] with
      | some (acc, st) => if rdDone st then some acc else none
      | none => none) = _
    rw [h0]
  rw [hP]
  simp only
  have hL := vLoop_len (min n.toNat l.length) s0 []
  rw [List.length_nil, Nat.zero_add] at hL
  rcases Nat.lt_or_ge l.length n.toNat with hlt | hge
  · rw [rowLoop_long _ _ _ (by omega)]
    rw [if_neg fun h => by have := h.2; omega]
  · have hm : min n.toNat l.length = n.toNat := Nat.min_eq_left hge
    rw [hm] at hL ⊢
    obtain ⟨k1, k2⟩ := vLoop_row n.toNat s0 []
    cases hr : rowLoop n.toNat s0 [] with
    | none => simp only; rw [if_neg fun h => by rw [k2 hr] at h; cases h.1]
    | some x =>
      obtain ⟨a, s'⟩ := x
      have hv := k1 a s' hr
      rw [hv] at hL ⊢
      simp only at hL ⊢
      by_cases hd : rdDone s' = true
      · rw [if_pos hd, if_pos ⟨hd, by omega⟩]
      · rw [if_neg hd, if_neg fun h => hd h.1]

section
variable {W w : World} {R G S : List Own} {Φ : PW} {b : Nat} {st : RdS}

set_option maxHeartbeats 1000000 in
theorem ReadRow03_to [Stable Φ] (l : List UInt8) (hl : l.length ≤ 10000000) (c : Ctx W w (R ++ G) Φ) {K : Option Addr → Nat → Nat → Bool → List Own → PW → Prop}
    (h0 : readRowP l = none → K none 0 0 false R Φ)
    (h1 : ∀ r p cap, readRowP l = some r → r.length ≤ cap → cap ≤ maxLen → Stable (fun M w => Φ M w ∧ Sl M w p r) → K p r.length cap true R (fun M w => Φ M w ∧ Sl M w p r)) :
    Calls Tryz.prog F.errataref03_ReadRow #[.string (bs l)] w fun e w' => ∃ p n c ok, e = .returned (.tuple #[.slice p n c, .bool ok]) ∧ ∃ R' Φ', Stable Φ' ∧ Ctx W w' (R' ++ G) Φ' ∧ K p n c ok R' Φ' := by
  refine (Berrataref03_ReadRow_run (bs l) (J := fun u w' => ∃ p n c ok, (Ending.returned u) = .returned (.tuple #[.slice p n c, .bool ok]) ∧ ∃ R' Φ', Stable Φ' ∧ Ctx W w' (R' ++ G) Φ' ∧ K p n c ok R' Φ') (R := R ++ G) c ?_).mono fun e w' ⟨v, he, hj⟩ => by rw [he]; exact hj
  clear c
  have hsz : (bs l).size = l.length := bs_size l
  refine fun w G2 cx => Open01_to (S := R ++ G) l cx fun b => ?_
  clear cx
  refine fun w G2 cx => Num01r_to (S := R ++ G) (by show l.length ≤ _; omega) cx ?_
  clear cx
  have hok : RdOk (rdNat (l, false)).2 := rdNat_ok (rdOk0 l)
  have hlen : (rdNat (l, false)).2.1.length ≤ l.length := stepN_len 59 0 (l, false)
  have hnn : 0 ≤ (rdNat (l, false)).1 ∧ (rdNat (l, false)).1 ≤ 9223372036854775807 := stepN_nonneg (e := 59) (.inr (.inl rfl)) (l, false)
  obtain ⟨⟨n0, st0⟩, hst⟩ : ∃ x, rdNat (l, false) = x := ⟨_, rfl⟩
  have hsame := row_same hst (by rw [hst] at hnn; exact hnn.1)
  rw [hst] at hok hlen hnn ⊢
  simp only at hok hlen hnn ⊢
  obtain ⟨m, hm⟩ : ∃ m, min n0.toNat l.length = m := ⟨_, rfl⟩
  rw [hm] at hsame
  refine exI_mk (fun p n c iI R' Φ' k => ∃ (i : Nat) (sl : RdS) (acc : List ValD) (ds : List Value), iI = i ∧ i ≤ m ∧ acc.length = i ∧ n = acc.length ∧ R' = .buf p n c ds 83 3 :: rq b sl :: (R ++ G) ∧ Φ' = (fun M w => Φ M w ∧ Elems M w ds acc) ∧ k = m - i ∧ RdOk sl ∧ sl.1.length ≤ l.length ∧ vLoop m st0 [] = vLoop (m - i) sl acc)
    ⟨⟨.buf none 0 0 [] 83 3 :: rq b st0 :: (R ++ G), fun M w => Φ M w ∧ Elems M w [] ([] : List ValD), _, inferInstance, fun w G cx => (cx.nobuf 83 3).weak fun M w h => ⟨h, Elems.nil⟩, 0, st0, [], [], rfl, Nat.zero_le _, rfl, rfl, rfl, rfl, rfl, hok, hlen, rfl⟩, ?_⟩
  rintro p n c iI R1 Φ1 k _ ⟨i, sl, acc, ds, rfl, him, hacc, rfl, rfl, rfl, rfl, hok1, hlen1, hvl⟩
  have st1 : Stable (fun M w => Φ M w ∧ Elems M w ds acc) := inferInstance
  refine fun w G2 cx => ?_
  clear cx
  rw [hsz]
  refine Br.intro (fun hgo => fun _ w G2 cx => ?_) (fun hst2 => fun w G2 cx => ?_)
  · rw [Bool.and_eq_true] at hgo
    have g1 := of_decide_eq_true hgo.1
    have g2 := of_decide_eq_true hgo.2
    have him : i < m := by omega
    rw [show m - i = (m - (i + 1)) + 1 by omega] at hvl
    have hvl : vLoop m st0 [] = vLoop (m - (i + 1)) (stepV sl).2 (acc ++ [(stepV sl).1]) := hvl
    have q1 := rdInt_len sl
    have q2 := rdInt_len (rdInt sl).2
    obtain ⟨q3, q4⟩ := stepT_len (rdInt (rdInt sl).2).2
    refine Int01r_to (S := .buf p acc.length c ds 83 3 :: (R ++ G)) (by omega) cx.swap ?_
    clear cx
    refine fun w G2 cx => Int01r_to (S := .buf p acc.length c ds 83 3 :: (R ++ G)) (by omega) cx ?_
    clear cx
    refine fun w G2 cx => Text01r_to (S := .buf p acc.length c ds 83 3 :: (R ++ G)) (rdInt_ok (rdInt_ok hok1)) (by omega) cx ?_
    clear cx
    refine fun kb w G2 cx => ?_
    have hrep : ∀ M w, Gv.rep M w [.int .i64 (stepV sl).1.kind, .int .i64 (stepV sl).1.num, .string (stepV sl).1.text] (stepV sl).1 := fun M w => rep_of (rdInt_i64 _) (rdInt_i64 _) (by show (stepT (rdInt (rdInt sl).2).2).1.size ≤ maxLen; unfold maxLen; omega)
    have cx1 : Ctx W w (.blk kb [.int .i64 (stepV sl).1.kind, .int .i64 (stepV sl).1.num, .string (stepV sl).1.text] 83 :: .buf p acc.length c ds 83 3 :: (rq b (stepV sl).2 :: (R ++ G)) ++ G2) (fun M w => Φ M w ∧ Elems M w ds acc) := cx.perm ((List.Perm.swap _ _ _).cons _)
    obtain ⟨p', cap', w', hrun, _, cx'⟩ := Ctx.app1 (P := Tryz.prog) (ts := 60) (ty := 60) (kb := #[false, false]) (size := 3) (bytes := 32) cx1 (by kernel_rfl) (by omega) rfl rfl (by omega) (by omega)
    have e : acc.length + 1 = (acc ++ [(stepV sl).1]).length := by simp
    rw [e] at hrun cx'
    refine ⟨p', _, cap', w', hrun, _, _, inferInstance, cx'.weak fun M w h => (⟨h.1, h.2.snoc (hrep M w)⟩ : Φ M w ∧ Elems M w _ (acc ++ [(stepV sl).1])), by unfold I64; omega, _, _, m - (i + 1), inferInstance, fun w G cx => cx, ⟨i + 1, (stepV sl).2, _, _, by omega, by omega, by rw [← e]; omega, rfl, rfl, rfl, rfl, stepT_ok (rdInt_ok (rdInt_ok hok1)), ?_, hvl⟩, by omega⟩
    have := (stepV_len sl).1
    omega
  · have him : i = m := by
      rcases Bool.and_eq_false_iff.1 hst2 with h | h
      · have := of_decide_eq_false h; omega
      · have := of_decide_eq_false h; omega
    rw [him, Nat.sub_self] at hvl
    rw [hvl] at hsame
    have hsame : readRowP l = if rdDone sl = true ∧ (acc.length : Int) = n0 then some acc else none := hsame
    refine Done01_to (S := .buf p acc.length c ds 83 3 :: (R ++ G)) cx.swap ?_
    clear cx
    have drop : ∀ {w : World} {G2 : List Own}, Ctx W w (rq b sl :: (.buf p acc.length c ds 83 3 :: (R ++ G)) ++ G2) (fun M w => Φ M w ∧ Elems M w ds acc) → Ctx W w (R ++ G) Φ := fun {w G2} cx => (Ctx.drop1 (Ctx.drop1 (Ctx.left (S := rq b sl :: .buf p acc.length c ds 83 3 :: (R ++ G)) cx))).fst
    refine Br.intro (fun h => fun w G2 cx => ⟨none, 0, 0, false, rfl, R, Φ, inferInstance, drop cx, h0 (by rw [hsame, if_neg fun h2 => by rw [h2.1] at h; cases h])⟩) (fun h => Br.intro (fun h2 => fun w G2 cx => ⟨none, 0, 0, false, rfl, R, Φ, inferInstance, drop cx, h0 (by rw [hsame, if_neg fun h3 => absurd h3.2 (of_decide_eq_true h2)])⟩) (fun h2 => fun w G2 cx => ?_))
    have hd : rdDone sl = true := by simpa using h
    have cx2 : Ctx W w (.buf p acc.length c ds 83 3 :: (R ++ G)) (fun M w => Φ M w ∧ Elems M w ds acc) := Ctx.drop1 (Ctx.left (S := rq b sl :: .buf p acc.length c ds 83 3 :: (R ++ G)) cx)
    obtain ⟨cx3, hs, _, k1, k2⟩ := Ctx.freeze (α := ValD) cx2 cx2.phi.2
    exact ⟨p, _, c, true, rfl, R, _, inferInstance, (cx3.add hs).weak fun M w h => ⟨h.1.1, h.2⟩, h1 acc p c (by rw [hsame, if_pos ⟨hd, Decidable.not_not.1 (of_decide_eq_false h2)⟩]) k1 k2 inferInstance⟩
theorem ReadRow03s_to [Stable Φ] (s : ByteArray) (hl : s.size ≤ 10000000) (c : Ctx W w (R ++ G) Φ) {K : Option Addr → Nat → Nat → Bool → List Own → PW → Prop}
    (h0 : readRowP s.data.toList = none → K none 0 0 false R Φ)
    (h1 : ∀ r p cap, readRowP s.data.toList = some r → r.length ≤ cap → cap ≤ maxLen → Stable (fun M w => Φ M w ∧ Sl M w p r) → K p r.length cap true R (fun M w => Φ M w ∧ Sl M w p r)) :
    Calls Tryz.prog F.errataref03_ReadRow #[.string s] w fun e w' => ∃ p n c ok, e = .returned (.tuple #[.slice p n c, .bool ok]) ∧ ∃ R' Φ', Stable Φ' ∧ Ctx W w' (R' ++ G) Φ' ∧ K p n c ok R' Φ' := by
  have := ReadRow03_to (l := s.data.toList) (by rw [list_size]; exact hl) c h0 h1
  rw [bs_of] at this
  exact this

end
end Go.Proofs.YtfpgbejdlikpgaaGreatDoor
end

/-
  The reference's Read of deltas; both sides' ReadMessage: walked.
-/
section
set_option linter.unusedVariables false
set_option linter.unusedSimpArgs false
namespace Go.Proofs.YtfpgbejdlikpgaaGreatDoor
open Go.Vc


/-! ### the reference's loop goes one round further -/
theorem readLoop_len : ∀ (n : Nat) (st : RdS) (acc out : List DeltaD), readLoop n st acc = some out → out.length = acc.length + n
  | 0, st, acc, out, h => by
    rw [readLoop_z] at h
    cases h; rfl
  | n + 1, st, acc, out, h => by
    cases hd : stepD st with
    | none => rw [readLoop_n hd] at h; cases h
    | some x =>
      obtain ⟨x, st'⟩ := x
      rw [readLoop_s hd] at h
      have := readLoop_len n _ _ _ h
      rw [this, List.length_append, List.length_singleton]
      omega
theorem readLoop_more : ∀ (n : Nat) (st : RdS) (acc : List DeltaD), readLoop n st acc = none → readLoop (n + 1) st acc = none
  | 0, st, acc, h => by rw [readLoop_z] at h; cases h
  | n + 1, st, acc, h => by
    cases hd : stepD st with
    | none => exact readLoop_n hd
    | some x =>
      obtain ⟨x, st'⟩ := x
      rw [readLoop_s hd] at h ⊢
      exact readLoop_more n _ _ h
theorem readAll_ref (l : List UInt8) : readLoop (min (rdNat (l, false)).1 ((l.length + 1 : Nat) : Int)).toNat (rdNat (l, false)).2 [] = readAll l := by
  have hnn : 0 ≤ (rdNat (l, false)).1 := (stepN_nonneg (e := 59) (.inr (.inl rfl)) (l, false)).1
  have hlen : (rdNat (l, false)).2.1.length ≤ l.length := stepN_len 59 0 (l, false)
  unfold readAll
  by_cases h : (rdNat (l, false)).1 ≤ l.length
  · rw [show (min (rdNat (l, false)).1 ((l.length + 1 : Nat) : Int)).toNat = (min (rdNat (l, false)).1 (l.length : Int)).toNat by omega]
  · rw [show (min (rdNat (l, false)).1 ((l.length + 1 : Nat) : Int)).toNat = l.length + 1 by omega, show (min (rdNat (l, false)).1 (l.length : Int)).toNat = l.length by omega]
    have hn : readLoop l.length (rdNat (l, false)).2 [] = none := by
      cases ho : readLoop l.length (rdNat (l, false)).2 [] with
      | none => rfl
      | some out =>
        have h1 := readLoop_len _ _ _ _ ho
        have h2 := (readLoop_fit (L := l.length) _ _ _ _ ho (by simp only [List.length_nil]; omega) (by simp)).1
        rw [List.length_nil] at h1
        have h3 : l.length = 0 := by omega
        have h4 : l = [] := List.eq_nil_of_length_eq_zero h3
        subst h4
        exact absurd (by decide : (rdNat (([] : List UInt8), false)).1 ≤ 0) h
    rw [hn, readLoop_more _ _ _ hn]

section
variable {W w : World} {R G S : List Own} {Φ : PW} {b : Nat} {st : RdS}

theorem ReadS_use [Stable Φ] (hΦ : ∀ M w, Φ M w → NumI M w) (s : ByteArray) (hl : s.size ≤ 10000000) (hfit : LFit s.data.toList) (c : Ctx W w S Φ) {K : Ending → World → Prop}
    (h0 : readP s.data.toList = none → ∀ w', Ctx W w' S Φ → K (.returned (.tuple #[.slice none 0 0, .bool false])) w')
    (h1 : ∀ r p cap w', readP s.data.toList = some r → r.length ≤ cap → cap ≤ maxLen → Ctx W w' S (fun M w => Φ M w ∧ Sl M w p r) → K (.returned (.tuple #[.slice p r.length cap, .bool true])) w') :
    Calls Tryz.prog F.delta_Read #[.string s] w K := by
  have := Read_use hΦ s.data.toList (by rw [list_size]; exact hl) hfit c h0 h1
  rw [bs_of] at this
  exact this

set_option maxHeartbeats 2000000 in
theorem Read28_use [Stable Φ] (l : List UInt8) (hl : l.length ≤ 10000000) (hfit : LFit l) (c : Ctx W w S Φ) {K : Ending → World → Prop}
    (h0 : readP l = none → ∀ w', Ctx W w' S Φ → K (.returned (.tuple #[.slice none 0 0, .bool false])) w')
    (h1 : ∀ r p cap w', readP l = some r → r.length ≤ cap → cap ≤ maxLen → Ctx W w' S (fun M w => Φ M w ∧ Sl M w p r) → K (.returned (.tuple #[.slice p r.length cap, .bool true])) w') :
    Calls Tryz.prog F.errataref28_Read #[.string (bs l)] w K := by
  refine (Berrataref28_Read_run (bs l) (J := fun u w' => K (.returned u) w') (R := S) c ?_).mono fun e w' ⟨v, he, hj⟩ => by rw [he]; exact hj
  clear c
  refine fun w G cx => Open01_to (S := S) l cx fun b => ?_
  clear cx
  refine fun w G cx => Num01r_to (S := S) (by show l.length ≤ _; omega) cx ?_
  clear cx
  have hok0 : RdOk (rdNat (l, false)).2 := rdNat_ok (rdOk0 l)
  have hlen : (rdNat (l, false)).2.1.length ≤ l.length := stepN_len 59 0 (l, false)
  have hnn : 0 ≤ (rdNat (l, false)).1 ∧ (rdNat (l, false)).1 ≤ 9223372036854775807 := stepN_nonneg (e := 59) (.inr (.inl rfl)) (l, false)
  have hall := (readAll_ref l).symm
  have hrow : readP l = match readAll l with
    | some out => if consolidated out && decide (bytesL out = l) then some out else none
    | none => none := rfl
  obtain ⟨⟨n0, st0⟩, hst⟩ : ∃ x, rdNat (l, false) = x := ⟨_, rfl⟩
  rw [hst] at hlen hnn hall hok0 ⊢
  simp only at hlen hnn hall hok0 ⊢
  obtain ⟨m0, hm0⟩ : ∃ m, (min n0 ((l.length + 1 : Nat) : Int)).toNat = m := ⟨_, rfl⟩
  rw [hm0] at hall
  have hsz : (bs l).size = l.length := bs_size l
  have hml : m0 ≤ l.length + 1 := by omega
  refine exI_mk (fun p n c i R' Φ' k => ∃ (j : Nat) (st : RdS) (acc : List DeltaD) (ds : List Value), n = acc.length ∧ R' = .buf p n c ds 62 3 :: rq b st :: S ∧ Φ' = (fun M w => Φ M w ∧ Elems M w ds acc) ∧ k = m0 - j ∧ i = j ∧ j ≤ m0 ∧ st.1.length ≤ l.length ∧ acc.length ≤ j ∧ RdOk st ∧ readAll l = readLoop (m0 - j) st acc)
    ⟨⟨.buf none 0 0 [] 62 3 :: rq b st0 :: S, fun M w => Φ M w ∧ Elems M w [] ([] : List DeltaD), _, inferInstance, fun w G cx => (cx.nobuf 62 3).weak fun M w h => ⟨h, Elems.nil⟩, 0, st0, [], [], rfl, rfl, rfl, rfl, rfl, Nat.zero_le _, hlen, Nat.le_refl _, hok0, hall⟩, ?_⟩
  rintro p n c i R1 Φ1 k _ ⟨j, st, acc, ds, rfl, rfl, rfl, rfl, rfl, hj, hsl, haj, hok, hrl⟩
  clear hall
  have hst1 : Stable (fun M w => Φ M w ∧ Elems M w ds acc) := inferInstance
  refine fun w G cx => ?_
  clear cx
  rw [hsz]
  refine Br.intro (fun hlt => ?_) (fun hge => ?_)
  · rw [Bool.and_eq_true] at hlt
    have g1 := of_decide_eq_true hlt.1
    have g2 := of_decide_eq_true hlt.2
    have hjm : j < m0 := by omega
    rw [show m0 - j = (m0 - (j + 1)) + 1 by omega] at hrl
    have q1 : (rdInt st).2.1.length ≤ st.1.length := stepN_len 59 (-9223372036854775808) st
    obtain ⟨q2, q3⟩ := stepT_len (rdInt st).2
    have q4 : (rdInt (stepT (rdInt st).2).2).2.1.length ≤ (stepT (rdInt st).2).2.1.length := stepN_len 59 (-9223372036854775808) _
    have hi1 := rdInt_i64 st
    have hi2 := rdInt_i64 (stepT (rdInt st).2).2
    have hok2 := stepT_ok (rdInt_ok hok)
    refine fun w G cx => Int01r_to (S := .buf p acc.length c ds 62 3 :: S) (by omega) cx.swap ?_
    clear cx
    refine fun _ w G cx => Text01r_to (S := .buf p acc.length c ds 62 3 :: S) (rdInt_ok hok) (by omega) cx ?_
    clear cx
    refine fun w G cx => ReadRow03s_to (R := rq b (stepT (rdInt st).2).2 :: .buf p acc.length c ds 62 3 :: S) (stepT (rdInt st).2).1 (by omega) cx (fun hn => ?_) (fun r q qc hr g1 g2 hst2 => ?_)
    · clear cx
      rw [readLoop_n (stepD_none hn)] at hrl
      refine Br.intro (fun _ => fun w G cx => h0 (by rw [hrow, hrl]) w (cx.left.drop1.drop1.weak fun M w h => h.1)) (fun h => by cases h)
    · clear cx
      refine Br.intro (fun h => by cases h) (fun _ => ?_)
      have hd : stepD st = some (⟨(rdInt st).1, r, (rdInt (stepT (rdInt st).2).2).1⟩, (rdInt (stepT (rdInt st).2).2).2) := stepD_some hr
      obtain ⟨x, hx⟩ : ∃ x : DeltaD, x = ⟨(rdInt st).1, r, (rdInt (stepT (rdInt st).2).2).1⟩ := ⟨_, rfl⟩
      rw [← hx] at hd
      rw [readLoop_s hd] at hrl
      refine fun w G cx => Int01r_to (S := .buf p acc.length c ds 62 3 :: S) (by omega) cx ?_
      clear cx
      refine fun bk w G cx => ?_
      have cx1 : Ctx W w (.blk bk (x.cells q qc) 62 :: .buf p acc.length c ds 62 3 :: (rq b (rdInt (stepT (rdInt st).2).2).2 :: S ++ G)) (fun M w => (Φ M w ∧ Elems M w ds acc) ∧ Sl M w q r) := by rw [hx]; exact cx.perm ((List.Perm.swap _ _ _).cons _)
      obtain ⟨p', cap', w', hrun, _, cx'⟩ := Ctx.app1 (P := Tryz.prog) (ts := 30) (ty := 30) (kb := #[false, false]) (size := 3) (bytes := 40) cx1 (by kernel_rfl) (by omega) rfl rfl (by omega) (by omega)
      have hst3 : Stable (fun M w => Φ M w ∧ Elems M w (ds ++ x.cells q qc) (acc ++ [x])) := inferInstance
      have hcx2 : Ctx W w' (.buf p' (acc ++ [x]).length cap' (ds ++ x.cells q qc) 62 3 :: rq b (rdInt (stepT (rdInt st).2).2).2 :: S ++ G) (fun M w => Φ M w ∧ Elems M w (ds ++ x.cells q qc) (acc ++ [x])) := by
        rw [List.length_append, List.length_singleton]
        exact cx'.weak fun M w h => ⟨h.1.1, h.1.2.snoc (rep_delta (x := x) (by rw [hx]; exact g1) g2 (by rw [hx]; exact hi1) (by rw [hx]; exact hi2) (by rw [hx]; exact h.2))⟩
      refine ⟨p', acc.length + 1, cap', w', hrun, _, _, hst3, hcx2, by unfold I64; omega, _, _, m0 - (j + 1), hst3, fun w G cx => cx, ⟨j + 1, _, acc ++ [x], _, by simp, by simp, rfl, rfl, by omega, by omega, by omega, by rw [List.length_append, List.length_singleton]; omega, rdInt_ok hok2, hrl⟩, by omega⟩
  · have hjm : m0 - j = 0 := by
      rcases Bool.and_eq_false_iff.1 hge with h | h
      · have := of_decide_eq_false h; omega
      · have := of_decide_eq_false h; omega
    rw [hjm, readLoop_z] at hrl
    rw [hrl] at hrow
    simp only at hrow
    obtain ⟨fl, ff⟩ := hfit acc hrl
    have hst2 : Stable (fun M w => Φ M w ∧ Sl M w p acc) := inferInstance
    intro w G cx
    obtain ⟨cx3, hs, _, g1, g2⟩ := Ctx.freeze (α := DeltaD) cx.fst cx.phi.2
    refine (Con28H (Φ := fun M w => Φ M w ∧ Sl M w p acc) (hΦ := ⟨fun M w h => h.2⟩) (by omega)).toB (R := rq b st :: S) (cx3.add hs) ?_
    clear cx cx3 hs
    refine Br.intro (fun hc => fun w G cx => h0 ?_ w (cx.left.drop1.weak fun M w h => h.1)) (fun hc => ?_)
    · have hc : consolidated acc = false := by simpa using hc
      rw [hrow, hc, if_neg (by simp)]
    · have hc : consolidated acc = true := by simpa using hc
      rw [hc, Bool.true_and] at hrow
      refine fun w G cx => (RBytes28H (Φ := fun M w => Φ M w ∧ Sl M w p acc) (hΦ := ⟨fun M w h => h.2⟩) g1 g2 fl ff).toS (R := rq b st :: S) cx ?_
      refine Br.intro (fun hb => fun w G cx => h0 ?_ w (cx.left.drop1.weak fun M w h => h.1)) (fun hb => fun w G cx => h1 acc p c w ?_ g1 g2 cx.left.drop1)
      · have hb : bytesL acc ≠ l := fun e => of_decide_eq_true hb (by rw [e]; rfl)
        rw [hrow, decide_eq_false hb, if_neg (by simp)]
      · have hb : bytesL acc = l := bs_inj.1 (Decidable.not_not.1 (of_decide_eq_false hb))
        rw [hrow, decide_eq_true hb, if_pos rfl]
theorem Read28S_use [Stable Φ] (s : ByteArray) (hl : s.size ≤ 10000000) (hfit : LFit s.data.toList) (c : Ctx W w S Φ) {K : Ending → World → Prop}
    (h0 : readP s.data.toList = none → ∀ w', Ctx W w' S Φ → K (.returned (.tuple #[.slice none 0 0, .bool false])) w')
    (h1 : ∀ r p cap w', readP s.data.toList = some r → r.length ≤ cap → cap ≤ maxLen → Ctx W w' S (fun M w => Φ M w ∧ Sl M w p r) → K (.returned (.tuple #[.slice p r.length cap, .bool true])) w') :
    Calls Tryz.prog F.errataref28_Read #[.string s] w K := by
  have := Read28_use s.data.toList (by rw [list_size]; exact hl) hfit c h0 h1
  rw [bs_of] at this
  exact this

/-! ### messages -/
theorem msg_none {l : List UInt8} (h : readP (datR l) = none) : readMsg l = none := by unfold readMsg; rw [h]
theorem msg_some {l : List UInt8} {ds : List DeltaD} (h : readP (datR l) = some ds) : readMsg l = finR l (mk5 (numR l) ds) := by unfold readMsg; rw [h]
theorem finR_no {l : List UInt8} {m : MsgD} (h : ¬ (rdDone (endR l) = true ∧ rightM m = true)) : finR l m = none := if_neg h
theorem finR_yes {l : List UInt8} {m : MsgD} (h : rdDone (endR l) = true ∧ rightM m = true) : finR l m = some m := if_pos h
theorem datR_len (l : List UInt8) : (intsR 5 (l, false)).2.1.length ≤ l.length ∧ (stepT (intsR 5 (l, false)).2).1.size ≤ l.length := by
  have h1 := (stepT_len (intsR 5 (l, false)).2).2
  have h2 : (intsR 5 (l, false)).2.1.length ≤ l.length := intsR_len 5 (l, false)
  exact ⟨h2, by omega⟩

set_option maxHeartbeats 1000000 in
theorem ReadMsg_use [Stable Φ] (hN : ∀ M w, Φ M w → NumI M w) (l : List UInt8) (hm : MFit l) (c : Ctx W w S Φ) {K : Ending → World → Prop}
    (h0 : readMsg l = none → ∀ w', Ctx W w' S Φ → K (.returned (.tuple #[msg0.v none 0, .bool false])) w')
    (h1 : ∀ m p cap w', readMsg l = some m → Good m → m.deltas.length ≤ cap → cap ≤ maxLen → Ctx W w' S (fun M w => Φ M w ∧ Sl M w p m.deltas) → K (.returned (.tuple #[m.v p cap, .bool true])) w') :
    Calls Tryz.prog F.channel_ReadMessage #[.string (bs l)] w K := by
  obtain ⟨hl, hf⟩ := hm
  obtain ⟨hd1, hd2⟩ := datR_len l
  obtain ⟨⟨n1, s1⟩, e1⟩ : ∃ x, rdInt (l, false) = x := ⟨_, rfl⟩
  obtain ⟨⟨n2, s2⟩, e2⟩ : ∃ x, rdInt s1 = x := ⟨_, rfl⟩
  obtain ⟨⟨n3, s3⟩, e3⟩ : ∃ x, rdInt s2 = x := ⟨_, rfl⟩
  obtain ⟨⟨n4, s4⟩, e4⟩ : ∃ x, rdInt s3 = x := ⟨_, rfl⟩
  obtain ⟨⟨n5, s5⟩, e5⟩ : ∃ x, rdInt s4 = x := ⟨_, rfl⟩
  have e9 : intsR 5 (l, false) = ([n1, n2, n3, n4, n5], s5) := by simp only [intsR, e1, e2, e3, e4, e5]
  have en : numR l = [n1, n2, n3, n4, n5] := by unfold numR; rw [e9]
  have ed : datR l = (stepT s5).1.data.toList := by unfold datR; rw [e9]
  have ee : endR l = (stepT s5).2 := by unfold endR; rw [e9]
  have q1 : s1.1.length ≤ l.length := by have := rdInt_len (l, false); rw [e1] at this; exact this
  have q2 : s2.1.length ≤ s1.1.length := by have := rdInt_len s1; rw [e2] at this; exact this
  have q3 : s3.1.length ≤ s2.1.length := by have := rdInt_len s2; rw [e3] at this; exact this
  have q4 : s4.1.length ≤ s3.1.length := by have := rdInt_len s3; rw [e4] at this; exact this
  have i1 : I64 n1 := by have := rdInt_i64 (l, false); rw [e1] at this; exact this
  have i2 : I64 n2 := by have := rdInt_i64 s1; rw [e2] at this; exact this
  have i3 : I64 n3 := by have := rdInt_i64 s2; rw [e3] at this; exact this
  have i4 : I64 n4 := by have := rdInt_i64 s3; rw [e4] at this; exact this
  have i5 : I64 n5 := by have := rdInt_i64 s4; rw [e5] at this; exact this
  rw [e9] at hd1 hd2
  rw [ed] at hf
  simp only at hd1 hd2
  refine (Bchannel_ReadMessage_run (bs l) (J := fun u w' => K (.returned u) w') (R := S) c ?_).mono fun e w' ⟨v, he, hj⟩ => by rw [he]; exact hj
  clear c
  refine fun _ w G cx => Open_use l cx fun b w cx => ⟨_, rfl, rd b (l, false) :: S, Φ, inferInstance, cx, ?_⟩
  clear cx
  refine fun w G cx => RInt_to (S := S) hN (by show l.length ≤ _; omega) cx ?_
  clear cx
  rw [e1]
  refine fun w G cx => RInt_to (S := S) hN (by show s1.1.length ≤ _; omega) cx ?_
  clear cx
  rw [e2]
  refine fun w G cx => RInt_to (S := S) hN (by show s2.1.length ≤ _; omega) cx ?_
  clear cx
  rw [e3]
  refine fun w G cx => RInt_to (S := S) hN (by show s3.1.length ≤ _; omega) cx ?_
  clear cx
  rw [e4]
  refine fun w G cx => RInt_to (S := S) hN (by show s4.1.length ≤ _; omega) cx ?_
  clear cx
  rw [e5]
  refine fun _ w G cx => Text_to (S := S) hN (by show s5.1.length ≤ _; omega) cx ?_
  clear cx
  refine fun w G cx => ReadS_use (S := rd b (stepT s5).2 :: S ++ G) hN (stepT s5).1 (by omega) hf cx (fun hn w cx => ?_) (fun ds p cap w hs g1 g2 cx => ?_)
  · exact ⟨none, 0, 0, false, rfl, rd b (stepT s5).2 :: S, Φ, inferInstance, cx, Br.intro (fun _ => fun w G cx => h0 (msg_none (by rw [ed]; exact hn)) w cx.left.drop1) (fun h => by cases h)⟩
  have hx := msg_some (l := l) (by rw [ed]; exact hs)
  obtain ⟨m, hme⟩ : ∃ m, mk5 (numR l) ds = m := ⟨_, rfl⟩
  have hok : m.Ok := by rw [← hme, en]; exact ⟨i1, i2, i3, i4, i5⟩
  have hmd : m.deltas = ds := by rw [← hme]; rfl
  rw [hme] at hx
  have stD : Stable (fun M w => Φ M w ∧ Sl M w p ds) := inferInstance
  refine ⟨p, _, cap, true, rfl, rd b (stepT s5).2 :: S, _, stD, cx, Br.intro (fun h => by cases h) (fun _ => fun w G cx => Done_to (S := S) cx (Br.intro (fun hd => fun w G cx => h0 ?_ w (cx.left.drop1.weak fun M w h => h.1)) (fun hd => fun w G cx => ?_)))⟩
  · have hd : rdDone (stepT s5).2 = false := by simpa using hd
    rw [hx, finR_no (by rw [ee, hd]; simp)]
  have hd : rdDone (stepT s5).2 = true := by simpa using hd
  have hmv : m.v p cap = .agg #[.int .i64 n1, .int .i64 n2, .int .i64 n3, .int .i64 n4, .int .i64 n5, .slice p ds.length cap] := by rw [← hme, en]; rfl
  have hmach : Mach ds := sl_mach cx.phi.2
  subst hmd
  rw [← hmv]
  refine (Right_in p cap m (fun M w h => h.2) (by unfold maxLen at g2; omega)).toB cx (Br.intro (fun hr => fun w G cx => h0 ?_ w (cx.left.drop1.weak fun M w h => h.1)) (fun hr => fun w G cx => ?_))
  · have hr : rightM m = false := by simpa using hr
    rw [hx, finR_no (by rw [hr]; simp)]
  have hr : rightM m = true := by simpa using hr
  exact h1 m p cap w (by rw [hx, finR_yes ⟨by rw [ee]; exact hd, hr⟩]) ⟨hok, hr, hmach⟩ g1 g2 cx.left.drop1

set_option maxHeartbeats 1000000 in
theorem ReadMsg36_use [Stable Φ] (l : List UInt8) (hm : MFit l) (c : Ctx W w S Φ) {K : Ending → World → Prop}
    (h0 : readMsg l = none → ∀ w', Ctx W w' S Φ → K (.returned (.tuple #[msg0.v none 0, .bool false])) w')
    (h1 : ∀ m p cap w', readMsg l = some m → Good m → m.deltas.length ≤ cap → cap ≤ maxLen → Ctx W w' S (fun M w => Φ M w ∧ Sl M w p m.deltas) → K (.returned (.tuple #[m.v p cap, .bool true])) w') :
    Calls Tryz.prog F.errataref36_ReadMessage #[.string (bs l)] w K := by
  obtain ⟨hl, hf⟩ := hm
  obtain ⟨hd1, hd2⟩ := datR_len l
  obtain ⟨⟨n1, s1⟩, e1⟩ : ∃ x, rdInt (l, false) = x := ⟨_, rfl⟩
  obtain ⟨⟨n2, s2⟩, e2⟩ : ∃ x, rdInt s1 = x := ⟨_, rfl⟩
  obtain ⟨⟨n3, s3⟩, e3⟩ : ∃ x, rdInt s2 = x := ⟨_, rfl⟩
  obtain ⟨⟨n4, s4⟩, e4⟩ : ∃ x, rdInt s3 = x := ⟨_, rfl⟩
  obtain ⟨⟨n5, s5⟩, e5⟩ : ∃ x, rdInt s4 = x := ⟨_, rfl⟩
  have e9 : intsR 5 (l, false) = ([n1, n2, n3, n4, n5], s5) := by simp only [intsR, e1, e2, e3, e4, e5]
  have en : numR l = [n1, n2, n3, n4, n5] := by unfold numR; rw [e9]
  have ed : datR l = (stepT s5).1.data.toList := by unfold datR; rw [e9]
  have ee : endR l = (stepT s5).2 := by unfold endR; rw [e9]
  have q1 : s1.1.length ≤ l.length := by have := rdInt_len (l, false); rw [e1] at this; exact this
  have q2 : s2.1.length ≤ s1.1.length := by have := rdInt_len s1; rw [e2] at this; exact this
  have q3 : s3.1.length ≤ s2.1.length := by have := rdInt_len s2; rw [e3] at this; exact this
  have q4 : s4.1.length ≤ s3.1.length := by have := rdInt_len s3; rw [e4] at this; exact this
  have i1 : I64 n1 := by have := rdInt_i64 (l, false); rw [e1] at this; exact this
  have i2 : I64 n2 := by have := rdInt_i64 s1; rw [e2] at this; exact this
  have i3 : I64 n3 := by have := rdInt_i64 s2; rw [e3] at this; exact this
  have i4 : I64 n4 := by have := rdInt_i64 s3; rw [e4] at this; exact this
  have i5 : I64 n5 := by have := rdInt_i64 s4; rw [e5] at this; exact this
  have k1 : RdOk s1 := by have := rdInt_ok (rdOk0 l); rw [e1] at this; exact this
  have k2 : RdOk s2 := by have := rdInt_ok k1; rw [e2] at this; exact this
  have k3 : RdOk s3 := by have := rdInt_ok k2; rw [e3] at this; exact this
  have k4 : RdOk s4 := by have := rdInt_ok k3; rw [e4] at this; exact this
  have k5 : RdOk s5 := by have := rdInt_ok k4; rw [e5] at this; exact this
  rw [e9] at hd1 hd2
  rw [ed] at hf
  simp only at hd1 hd2
  refine (Berrataref36_ReadMessage_run (bs l) (J := fun u w' => K (.returned u) w') (R := S) c ?_).mono fun e w' ⟨v, he, hj⟩ => by rw [he]; exact hj
  clear c
  refine fun _ w G cx => Open01_to (S := S) l cx fun b => ?_
  clear cx
  refine fun w G cx => Int01r_to (S := S) (by show l.length ≤ _; omega) cx ?_
  clear cx
  rw [e1]
  refine fun _ w G cx => Int01r_to (S := S) (by show s1.1.length ≤ _; omega) cx ?_
  clear cx
  rw [e2]
  refine fun w G cx => Int01r_to (S := S) (by show s2.1.length ≤ _; omega) cx ?_
  clear cx
  rw [e3]
  refine fun w G cx => Int01r_to (S := S) (by show s3.1.length ≤ _; omega) cx ?_
  clear cx
  rw [e4]
  refine fun w G cx => Int01r_to (S := S) (by show s4.1.length ≤ _; omega) cx ?_
  clear cx
  rw [e5]
  refine fun w G cx => Text01r_to (S := S) k5 (by show s5.1.length ≤ _; omega) cx ?_
  clear cx
  refine fun w G cx => Read28S_use (S := rq b (stepT s5).2 :: S ++ G) (stepT s5).1 (by omega) hf cx (fun hn w cx => ?_) (fun ds p cap w hs g1 g2 cx => ?_)
  · refine ⟨none, 0, 0, false, rfl, rq b (stepT s5).2 :: S, Φ, inferInstance, cx, fun w G cx => Done01_to (S := S) cx (Br.intro (fun _ => fun w G cx => h0 (msg_none (by rw [ed]; exact hn)) w cx.left.drop1) (fun _ => Br.intro (fun _ => fun w G cx => h0 (msg_none (by rw [ed]; exact hn)) w cx.left.drop1) (fun h => by cases h)))⟩
  have hx := msg_some (l := l) (by rw [ed]; exact hs)
  obtain ⟨m, hme⟩ : ∃ m, mk5 (numR l) ds = m := ⟨_, rfl⟩
  have hok : m.Ok := by rw [← hme, en]; exact ⟨i1, i2, i3, i4, i5⟩
  have hmd : m.deltas = ds := by rw [← hme]; rfl
  rw [hme] at hx
  have stD : Stable (fun M w => Φ M w ∧ Sl M w p ds) := inferInstance
  refine ⟨p, _, cap, true, rfl, rq b (stepT s5).2 :: S, _, stD, cx, fun w G cx => Done01_to (S := S) cx (Br.intro (fun hd => fun w G cx => h0 ?_ w (cx.left.drop1.weak fun M w h => h.1)) (fun hd => Br.intro (fun h => by cases h) (fun _ => fun w G cx => ?_)))⟩
  · have hd : rdDone (stepT s5).2 = false := by simpa using hd
    rw [hx, finR_no (by rw [ee, hd]; simp)]
  have hd : rdDone (stepT s5).2 = true := by simpa using hd
  have hmv : m.v p cap = .agg #[.int .i64 n1, .int .i64 n2, .int .i64 n3, .int .i64 n4, .int .i64 n5, .slice p ds.length cap] := by rw [← hme, en]; rfl
  have hmach : Mach ds := sl_mach cx.phi.2
  subst hmd
  rw [← hmv]
  refine (rRight_in p cap m (fun M w h => h.2) (by unfold maxLen at g2; omega)).toB cx (Br.intro (fun hr => fun w G cx => h0 ?_ w (cx.left.drop1.weak fun M w h => h.1)) (fun hr => fun w G cx => ?_))
  · have hr : rightM m = false := by simpa using hr
    rw [hx, finR_no (by rw [hr]; simp)]
  have hr : rightM m = true := by simpa using hr
  exact h1 m p cap w (by rw [hx, finR_yes ⟨by rw [ee]; exact hd, hr⟩]) ⟨hok, hr, hmach⟩ g1 g2 cx.left.drop1
end
end Go.Proofs.YtfpgbejdlikpgaaGreatDoor
end

/-
  Both sides' Read of a channel, walked.
-/
section
set_option linter.unusedVariables false
set_option linter.unusedSimpArgs false
namespace Go.Proofs.YtfpgbejdlikpgaaGreatDoor
open Go.Vc


theorem readC_no {l : List UInt8} (h : loopC (min (numC l) 4).toNat (stC l) [] = none) : readC l = none := by unfold readC; rw [h]
theorem readC_end {l : List UInt8} {q : List MsgD} {st : RdS} (h : loopC (min (numC l) 4).toNat (stC l) [] = some (q, st)) : readC l = if accC l q st = true then some q else none := by unfold readC; rw [h]
theorem okR_no {l : List UInt8} (h : loopR (numC l).toNat (stC l) [] = none) : okR l = false := by unfold okR; rw [h]
theorem okR_end {l : List UInt8} {q : List MsgD} {st : RdS} (h : loopR (numC l).toNat (stC l) [] = some (q, st)) : okR l = (accC l q st && decide (numC l ≤ 4)) := by unfold okR; rw [h]

theorem ChanC.sent {cs : List Value} {q : List MsgD} {first a : Nat} (h : ChanC cs q first a) (b : Nat) : ChanC (cs.set 26 (.int .i64 b)) q first b := by
  have hl := h.len
  refine ⟨by rw [List.length_set]; exact hl, h.lt4, h.count, ?_, ?_, ?_, h.small, fun k hk => ?_⟩
  · rw [List.getElem?_set_ne (by omega)]; exact h.c24
  · rw [List.getElem?_set_ne (by omega)]; exact h.c25
  · rw [List.getElem?_set_self (by omega)]
  · obtain ⟨n1, n2, n3, n4, n5, p, n, c, he⟩ := h.slots k hk
    refine ⟨n1, n2, n3, n4, n5, p, n, c, ?_⟩
    rw [take6 (ds := cs) (fun i hi => by rw [List.getElem?_set_ne (by omega)])]
    exact he
theorem ChanS.sent {cs : List Value} {q : List MsgD} {first : Nat} {M : List Nat} {w : World} (h : ChanS cs q first M w) (v : Value) : ChanS (cs.set 26 v) q first M w := by
  intro k hk
  have hlt : (first + k) % 4 < 4 := Nat.mod_lt _ (by omega)
  rw [take6 (ds := cs) (fun i hi => by rw [List.getElem?_set_ne (by omega)])]
  exact h k hk
theorem ReadMsgS_use {W w : World} {S : List Own} {Φ : PW} [Stable Φ] (hN : ∀ M w, Φ M w → NumI M w) (s : ByteArray) (hm : MFit s.data.toList) (c : Ctx W w S Φ) {K : Ending → World → Prop}
    (h0 : readMsg s.data.toList = none → ∀ w', Ctx W w' S Φ → K (.returned (.tuple #[msg0.v none 0, .bool false])) w')
    (h1 : ∀ m p cap w', readMsg s.data.toList = some m → Good m → m.deltas.length ≤ cap → cap ≤ maxLen → Ctx W w' S (fun M w => Φ M w ∧ Sl M w p m.deltas) → K (.returned (.tuple #[m.v p cap, .bool true])) w') :
    Calls Tryz.prog F.channel_ReadMessage #[.string s] w K := by
  have := ReadMsg_use hN s.data.toList hm c h0 h1
  rw [bs_of] at this
  exact this
theorem ReadMsg36S_use {W w : World} {S : List Own} {Φ : PW} [Stable Φ] (s : ByteArray) (hm : MFit s.data.toList) (c : Ctx W w S Φ) {K : Ending → World → Prop}
    (h0 : readMsg s.data.toList = none → ∀ w', Ctx W w' S Φ → K (.returned (.tuple #[msg0.v none 0, .bool false])) w')
    (h1 : ∀ m p cap w', readMsg s.data.toList = some m → Good m → m.deltas.length ≤ cap → cap ≤ maxLen → Ctx W w' S (fun M w => Φ M w ∧ Sl M w p m.deltas) → K (.returned (.tuple #[m.v p cap, .bool true])) w') :
    Calls Tryz.prog F.errataref36_ReadMessage #[.string s] w K := by
  have := ReadMsg36_use s.data.toList hm c h0 h1
  rw [bs_of] at this
  exact this

section
variable {W w : World} {S : List Own} {Φ : PW}
set_option maxHeartbeats 2000000 in
theorem ReadC_use [Stable Φ] (hN : ∀ M w, Φ M w → NumI M w) (l : List UInt8) (hl : l.length ≤ 1000000) (hm : CFit (min (numC l) 4).toNat (stC l)) (c : Ctx W w S Φ) {K : Ending → World → Prop}
    (h0 : readC l = none → ∀ w', Ctx W w' S Φ → K (.returned (.tuple #[.pointer none, .bool false])) w')
    (h1 : ∀ q sent b cs w', readC l = some q → sentR l = (sent : Nat) → sent ≤ 1099511627776 → ChanC cs q 0 sent → (∀ m ∈ q, Good m) → Ctx W w' (.blk b cs 59 :: S) (fun M w => Φ M w ∧ ChanS cs q 0 M w) → K (.returned (.tuple #[.pointer (some ⟨b, 0, none⟩), .bool true])) w') :
    Calls Tryz.prog F.channel_Read #[.string (bs l)] w K := by
  refine (Bchannel_Read_run (bs l) (J := fun u w' => K (.returned u) w') (R := S) c ?_).mono fun e w' ⟨v, he, hj⟩ => by rw [he]; exact hj
  clear c
  obtain ⟨⟨sn, s1⟩, e1⟩ : ∃ x, rdInt (l, false) = x := ⟨_, rfl⟩
  obtain ⟨⟨n0, st0⟩, e2⟩ : ∃ x, rdNat s1 = x := ⟨_, rfl⟩
  have hsn0 : sentR l = sn := by unfold sentR; rw [e1]
  have hnn0 : numC l = n0 := by unfold numC; rw [e1]; show (rdNat s1).1 = n0; rw [e2]
  have hst0 : stC l = st0 := by unfold stC; rw [e1]; show (rdNat s1).2 = st0; rw [e2]
  have q1 : s1.1.length ≤ l.length := by have := rdInt_len (l, false); rw [e1] at this; exact this
  have hlen : st0.1.length ≤ s1.1.length := by
    have h : (rdNat s1).2.1.length ≤ s1.1.length := stepN_len 59 0 _
    rw [e2] at h
    exact h
  have hnn : 0 ≤ n0 := by
    have h := (stepN_nonneg (e := 59) (.inr (.inl rfl)) s1).1
    have h : 0 ≤ (rdNat s1).1 := h
    rw [e2] at h
    exact h
  have hi64 : I64 sn := by have := rdInt_i64 (l, false); rw [e1] at this; exact this
  refine fun w G cx => Open_use l cx fun b w cx => ⟨_, rfl, rd b (l, false) :: S, Φ, inferInstance, cx, ?_⟩
  clear cx
  refine fun w G cx => RInt_to (S := S) hN (by show l.length ≤ _; omega) cx ?_
  clear cx
  rw [e1]
  refine fun w G cx => RNum_to (S := S) hN (by show s1.1.length ≤ _; omega) cx ?_
  clear cx
  rw [e2]
  dsimp only
  refine fun w G cx => New_use cx fun g w cx => ⟨_, rfl, .blk g chan0 59 :: rd b st0 :: S, Φ, inferInstance, cx, ?_⟩
  clear cx
  have hend := @readC_end l
  have hno := @readC_no l
  rw [hnn0, hst0] at hm hend hno
  obtain ⟨m0, hm0⟩ : ∃ m, (min n0 4).toNat = m := ⟨_, rfl⟩
  rw [hm0] at hm hend hno
  refine exI_mk (fun R' Φ' k => ∃ (st : RdS) (acc : List MsgD) (cs : List Value), R' = .blk g cs 59 :: rd b st :: S ∧ Φ' = (fun M w => Φ M w ∧ ChanS cs acc 0 M w) ∧ k = m0 - acc.length ∧ acc.length ≤ m0 ∧ ChanC cs acc 0 acc.length ∧ (∀ m ∈ acc, Good m) ∧ st.1.length ≤ l.length ∧ CFit (m0 - acc.length) st ∧ loopC m0 st0 [] = loopC (m0 - acc.length) st acc)
    ⟨⟨_, fun M w => Φ M w ∧ ChanS chan0 [] 0 M w, _, inferInstance, fun w G cx => cx.weak fun M w h => ⟨h, chan0_s M w⟩, st0, [], chan0, rfl, rfl, rfl, Nat.zero_le _, chan0_c, by simp, by omega, hm, rfl⟩, ?_⟩
  rintro R1 Φ1 k _ ⟨st, acc, cs, rfl, rfl, rfl, hacc, hc, hg, hsl, hfit, hlp⟩
  have h4 := hc.count
  have stA : Stable (fun M w => Φ M w ∧ ChanS cs acc 0 M w) := inferInstance
  refine ptrK_intro g 0 rfl fun w G cx => ⟨(acc.length : Int), cx.get 0 rfl (by rw [Nat.zero_add]; exact hc.c25), Br.intro (fun hlt => ?_) (fun hge => ?_)⟩
  · have hlt := of_decide_eq_true hlt
    have hlt : acc.length < m0 := by
      have h2 : (acc.length : Int) < min n0 4 := hlt
      omega
    rw [show m0 - acc.length = (m0 - (acc.length + 1)) + 1 by omega] at hlp hfit
    obtain ⟨hf1, hf2⟩ := hfit
    obtain ⟨q3, q4⟩ := stepT_len st
    clear cx
    refine fun w G cx => Text_to (S := .blk g cs 59 :: S) (fun M w h => hN _ _ h.1) (by omega) cx.swap ?_
    clear cx
    refine fun w G cx => ReadMsgS_use (S := rd b (stepT st).2 :: .blk g cs 59 :: S ++ G) (fun M w h => hN _ _ h.1) (stepT st).1 hf1 cx (fun hn w cx => ?_) (fun m p cap w hs hgm g1 g2 cx => ?_)
    · exact ⟨_, _, _, _, _, none, _, 0, false, rfl, rd b (stepT st).2 :: .blk g cs 59 :: S, _, stA, cx, fun _ => Br.intro (fun _ => fun w G cx => h0 (hno (hlp.trans (loopC_n hn))) w (cx.left.drop1.drop1.weak fun M w h => h.1)) (fun h => by cases h)⟩
    have stB : Stable (fun M w => (Φ M w ∧ ChanS cs acc 0 M w) ∧ Sl M w p m.deltas) := inferInstance
    refine ⟨_, _, _, _, _, p, _, cap, true, rfl, rd b (stepT st).2 :: .blk g cs 59 :: S, _, stB, cx, fun _ => Br.intro (fun h => by cases h) (fun _ => ?_)⟩
    clear cx
    refine fun w G cx => ?_
    have cx1 : Ctx W w (.blk g cs 59 :: (rd b (stepT st).2 :: S ++ G)) (fun M w => (Φ M w ∧ Sl M w p m.deltas) ∧ ChanS cs acc 0 M w) := Ctx.weak (Ψ := fun M w => (Φ M w ∧ Sl M w p m.deltas) ∧ ChanS cs acc 0 M w) cx.swap fun M w h => ⟨⟨h.1.1, h.2⟩, h.1.2⟩
    refine Send_in (Φ := fun M w => Φ M w ∧ Sl M w p m.deltas) cx1 hc (fun M w h => h.2) hgm.ok hgm.right (by omega) (by omega) fun cs1 w hc1 cx => ?_
    have stC : Stable (fun M w => Φ M w ∧ ChanS cs1 (acc ++ [m]) 0 M w) := instStableAnd Φ (fun M w => ChanS cs1 (acc ++ [m]) 0 M w)
    have hal : (acc ++ [m]).length = acc.length + 1 := by simp
    refine ⟨0, rfl, .blk g cs1 59 :: rd b (stepT st).2 :: S, fun M w => Φ M w ∧ ChanS cs1 (acc ++ [m]) 0 M w, stC, cx.weak fun M w h => ⟨h.1.1, h.2⟩, Br.intro (fun h => absurd rfl (of_decide_eq_true h)) (fun _ => ⟨_, _, m0 - (acc ++ [m]).length, stC, fun w G cx => cx, ⟨(stepT st).2, acc ++ [m], cs1, rfl, rfl, rfl, by omega, by rw [hal]; exact hc1, ?_, by omega, by rw [hal]; exact hf2, by rw [hal]; exact hlp.trans (loopC_s hs)⟩, by omega⟩)⟩
    intro x hx
    rcases List.mem_append.1 hx with hx | hx
    · exact hg x hx
    · rw [List.mem_singleton.1 hx]; exact hgm
  · have hge := of_decide_eq_false hge
    have hme : m0 - acc.length = 0 := by
      have h2 : ¬ (acc.length : Int) < min n0 4 := hge
      omega
    rw [hme] at hlp
    rw [loopC_z] at hlp
    have hx := hend hlp
    clear cx
    have no : ∀ {w : World} {G : List Own}, accC l acc st = false → Ctx W w ((rd b st :: .blk g cs 59 :: S) ++ G) (fun M w => Φ M w ∧ ChanS cs acc 0 M w) → K (.returned (.tuple #[.pointer none, .bool false])) w := fun h cx => h0 (by rw [hx, h]; simp) _ (cx.left.drop1.drop1.weak fun M w h => h.1)
    refine fun w G cx => Done_to (S := .blk g cs 59 :: S) cx.swap (Br.intro (fun hd => fun w G cx => no (by have hd : rdDone st = false := (by simpa using hd); unfold accC; rw [hd]; rfl) cx) (fun hd => ?_))
    have hd : rdDone st = true := by simpa using hd
    clear cx
    refine ptrK_intro g 0 rfl fun w G cx => ⟨(acc.length : Int), cx.get 1 rfl (by rw [Nat.zero_add]; exact hc.c25), Br.intro (fun h2 => fun w G cx => no (by unfold accC; rw [hnn0, decide_eq_false (of_decide_eq_true h2)]; simp) cx) (fun h2 => Br.intro (fun h3 => fun w G cx => no (by unfold accC; rw [decide_eq_false (show ¬ numC l ≤ sentR l by have h3 : sn < n0 := of_decide_eq_true h3; omega)]; simp) cx) (fun h3 => Br.intro (fun h4 => fun w G cx => no (by unfold accC; rw [decide_eq_false (show ¬ sentR l ≤ 1099511627776 by have h4 : 1099511627776 < sn := of_decide_eq_true h4; omega)]; simp) cx) (fun h4' => ptrK_intro g 0 rfl fun w G cx => ⟨cx.can 1 rfl (by rw [hc.len]; omega), fun w' hw' => ?_⟩)))⟩
    have h2 : (acc.length : Int) = n0 := Decidable.not_not.1 (of_decide_eq_false h2)
    have h3 : ¬ sn < n0 := of_decide_eq_false h3
    have h4' : ¬ 1099511627776 < sn := of_decide_eq_false h4'
    have hacc : accC l acc st = true := by
      unfold accC
      rw [hd, decide_eq_true (show (acc.length : Int) = numC l by omega), decide_eq_true (show numC l ≤ sentR l by omega), decide_eq_true (show sentR l ≤ 1099511627776 by omega)]
      rfl
    rw [Nat.zero_add] at hw'
    have cx1 := cx.put 1 hw' rfl
    have hsn : sn = ((sn.toNat : Nat) : Int) := by omega
    have cx2 : Ctx W w' (rd b st :: .blk g (cs.set 26 (.int .i64 ((sn.toNat : Nat) : Int))) 59 :: S ++ G) (fun M w => Φ M w ∧ ChanS cs acc 0 M w) := by
      rw [← hsn]
      exact cx1
    refine ⟨_, _, stA, cx2, fun w G cx => h1 acc sn.toNat g _ w (by rw [hx, hacc]; rfl) (by rw [hsn0]; exact hsn) (by omega) (hc.sent _) hg ?_⟩
    exact Ctx.weak (Ψ := fun M w => Φ M w ∧ ChanS (cs.set 26 (.int .i64 ((sn.toNat : Nat) : Int))) acc 0 M w) cx.left.drop1 fun M w h => ⟨h.1, h.2.sent _⟩

/-! ### the reference -/
set_option maxHeartbeats 2000000 in
theorem Read36_use [Stable Φ] (l : List UInt8) (hl : l.length ≤ 1000) (c : Ctx W w S Φ) {K : Ending → World → Prop}
    (hk : ∀ p w', Ctx W w' S Φ → K (.returned (.tuple #[.pointer p, .bool (okR l)])) w') :
    Calls Tryz.prog F.errataref36_Read #[.string (bs l)] w K := by
  refine (Berrataref36_Read_run (bs l) (J := fun u w' => K (.returned u) w') (R := S) c ?_).mono fun e w' ⟨v, he, hj⟩ => by rw [he]; exact hj
  clear c
  obtain ⟨⟨sn, s1⟩, e1⟩ : ∃ x, rdInt (l, false) = x := ⟨_, rfl⟩
  obtain ⟨⟨n0, st0⟩, e2⟩ : ∃ x, rdNat s1 = x := ⟨_, rfl⟩
  have hsn0 : sentR l = sn := by unfold sentR; rw [e1]
  have hnn0 : numC l = n0 := by unfold numC; rw [e1]; show (rdNat s1).1 = n0; rw [e2]
  have hst0 : stC l = st0 := by unfold stC; rw [e1]; show (rdNat s1).2 = st0; rw [e2]
  have q1 : s1.1.length ≤ l.length := by have := rdInt_len (l, false); rw [e1] at this; exact this
  have hlen : st0.1.length ≤ s1.1.length := by
    have h : (rdNat s1).2.1.length ≤ s1.1.length := stepN_len 59 0 _
    rw [e2] at h
    exact h
  have hnn : 0 ≤ n0 ∧ n0 ≤ 9223372036854775807 := by
    have h := stepN_nonneg (e := 59) (.inr (.inl rfl)) s1
    have h : 0 ≤ (rdNat s1).1 ∧ (rdNat s1).1 ≤ 9223372036854775807 := h
    rw [e2] at h
    exact h
  have hi64 : I64 sn := by have := rdInt_i64 (l, false); rw [e1] at this; exact this
  have hok1 : RdOk s1 := by have := rdInt_ok (rdOk0 l); rw [e1] at this; exact this
  have hok2 : RdOk st0 := by have := rdNat_ok hok1; rw [e2] at this; exact this
  refine fun w G cx => Open01_to (S := S) l cx fun b => ?_
  clear cx
  refine fun w G cx => Int01r_to (S := S) (by show l.length ≤ _; omega) cx ?_
  clear cx
  rw [e1]
  refine fun g w G cx => Num01r_to (S := .blk g [.slice none 0 0, .int .i64 sn] 43 :: S) (by show s1.1.length ≤ _; omega) cx.swap ?_
  clear cx
  rw [e2]
  dsimp only
  have hend := @okR_end l
  have hno := @okR_no l
  rw [hnn0, hst0] at hend hno
  obtain ⟨m0, rfl⟩ : ∃ m : Nat, n0 = m := ⟨n0.toNat, by omega⟩
  rw [Int.toNat_natCast] at hend hno
  refine exI_mk (fun nI R' Φ' k => ∃ (i : Nat) (st : RdS) (acc : List MsgD) (ds : List Value) (p : Option Addr) (cp : Nat), nI = i ∧ i ≤ m0 ∧ acc.length = i ∧ R' = .buf p acc.length cp ds 32 6 :: rq b st :: .blk g [.slice p acc.length cp, .int .i64 sn] 43 :: S ∧ Φ' = (fun M w => Φ M w ∧ Elems M w ds acc) ∧ k = m0 - i ∧ RdOk st ∧ acc.length + st.1.length ≤ l.length ∧ loopR m0 st0 [] = loopR (m0 - i) st acc)
    ⟨⟨.buf none 0 0 [] 32 6 :: rq b st0 :: .blk g [.slice none 0 0, .int .i64 sn] 43 :: S, fun M w => Φ M w ∧ Elems M w [] ([] : List MsgD), _, inferInstance, fun w G cx => (cx.nobuf 32 6).weak fun M w h => ⟨h, Elems.nil⟩, 0, st0, [], [], none, 0, rfl, Nat.zero_le _, rfl, rfl, rfl, rfl, hok2, by rw [List.length_nil]; omega, rfl⟩, ?_⟩
  rintro nI R1 Φ1 k _ ⟨i, st, acc, ds, p, cp, rfl, him, hacc, rfl, rfl, rfl, hok, hal, hlp⟩
  have st1 : Stable (fun M w => Φ M w ∧ Elems M w ds acc) := inferInstance
  obtain ⟨B, hB⟩ : ∃ B, B = Own.blk g [.slice p acc.length cp, .int .i64 sn] 43 := ⟨_, rfl⟩
  rw [← hB]
  -- what is checked at the end
  have getL : ∀ {w : World} {G : List Own}, Ctx W w ((rq b st :: .buf p acc.length cp ds 32 6 :: B :: S) ++ G) (fun M w => Φ M w ∧ Elems M w ds acc) → w.cell? ⟨g, 0, none⟩ = some (.slice p acc.length cp) := fun cx => by rw [hB] at cx; exact cx.get 2 rfl rfl
  have getN : ∀ {w : World} {G : List Own}, Ctx W w ((rq b st :: .buf p acc.length cp ds 32 6 :: B :: S) ++ G) (fun M w => Φ M w ∧ Elems M w ds acc) → w.cell? ⟨g, 1, none⟩ = some (.int .i64 sn) := fun cx => by rw [hB] at cx; exact cx.get 2 rfl rfl
  have out : ∀ {w : World} {G : List Own}, Ctx W w ((rq b st :: .buf p acc.length cp ds 32 6 :: B :: S) ++ G) (fun M w => Φ M w ∧ Elems M w ds acc) → Ctx W w S Φ := fun cx => (Ctx.left (Ctx.drop1 (Ctx.drop1 (Ctx.drop1 cx)))).weak fun M w h => h.1
  by_cases hgo : i < m0 ∧ st.1 ≠ []
  · obtain ⟨him1, hne⟩ := hgo
    have hpos : 0 < st.1.length := List.length_pos_iff.2 hne
    refine Br.intro (fun _ => fun w G cx => ?_) (fun h => absurd (of_decide_eq_false h) (by omega))
    refine Left01_to (S := .buf p acc.length cp ds 32 6 :: B :: S) cx.swap (Br.intro (fun _ => ?_) (fun h => absurd (of_decide_eq_false h) (by omega)))
    clear cx
    refine fun w G cx => Text01r_to (S := .buf p acc.length cp ds 32 6 :: B :: S) hok (by omega) cx ?_
    clear cx
    rw [show m0 - i = (m0 - (i + 1)) + 1 by omega] at hlp
    obtain ⟨q3, q4⟩ := stepT_len st
    refine fun w G cx => ReadMsg36S_use (S := rq b (stepT st).2 :: .buf p acc.length cp ds 32 6 :: B :: S ++ G) (stepT st).1 (short_mfit (by rw [list_size]; omega)) cx (fun hn w cx => ?_) (fun m mp mc w hs hgm g1 g2 cx => ?_)
    · refine ⟨_, _, _, _, _, none, _, 0, false, rfl, rq b (stepT st).2 :: .buf p acc.length cp ds 32 6 :: B :: S, _, st1, cx, fun _ => Br.intro (fun _ => fun w G cx => ?_) (fun h => by cases h)⟩
      have hf : okR l = false := hno (hlp.trans (loopR_n hne hn))
      have h := hk none w ((Ctx.left (F := G) (Ctx.drop1 (Ctx.drop1 (Ctx.drop1 cx)))).weak fun M w h => h.1)
      rw [hf] at h
      exact h
    have heat : (stepT st).2.1.length + 3 ≤ st.1.length := by
      rcases stepT_eats st with h | h
      · rw [h, readMsg_nil] at hs
        cases hs
      · exact h
    have stB : Stable (fun M w => (Φ M w ∧ Elems M w ds acc) ∧ Sl M w mp m.deltas) := inferInstance
    have keep : ∀ {w : World} {G Q : List Own} {X : PW} [Stable X], Ctx W w ((Q ++ B :: S) ++ G) X → Ctx W w ([B] ++ G) (fun _ _ => True) := fun cx => by
      rw [List.append_assoc] at cx
      exact (Ctx.sub (Ctx.right cx) (((List.nil_sublist S).cons_cons B).append_right _)).weak fun _ _ _ => trivial
    refine ⟨_, _, _, _, _, mp, _, mc, true, rfl, rq b (stepT st).2 :: .buf p acc.length cp ds 32 6 :: B :: S, _, stB, cx, fun _ => Br.intro (fun h => by cases h) (fun _ => ⟨[B], fun _ _ => True, inferInstance, fun w G cx => keep (Q := [rq b (stepT st).2, .buf p acc.length cp ds 32 6]) cx, p, acc.length, cp, fun w G cx => ⟨p, _, cp, by rw [hB] at cx; exact cx.get 0 rfl rfl, rfl⟩, fun kb => ⟨fun w G cx => keep (Q := [.blk kb (m.cells mp mc) 32, rq b (stepT st).2, .buf p acc.length cp ds 32 6]) cx, fun w G cx => ?_⟩⟩)⟩
    have cx1 : Ctx W w (.blk kb (m.cells mp mc) 32 :: .buf p acc.length cp ds 32 6 :: (rq b (stepT st).2 :: B :: S ++ G)) (fun M w => (Φ M w ∧ Elems M w ds acc) ∧ Sl M w mp m.deltas) := cx.perm ((List.Perm.swap _ _ _).cons _)
    obtain ⟨p', cap', w', hrun, _, cx'⟩ := Ctx.app1 (P := Tryz.prog) (ts := 41) (ty := 41) (kb := #[false, false]) (size := 6) (bytes := 64) cx1 (by kernel_rfl) (by omega) rfl rfl (by omega) (by omega)
    have st3 : Stable (fun M w => Φ M w ∧ Elems M w (ds ++ m.cells mp mc) (acc ++ [m])) := inferInstance
    have hal1 : (acc ++ [m]).length = acc.length + 1 := by simp
    have cx2 : Ctx W w' (.buf p' (acc ++ [m]).length cap' (ds ++ m.cells mp mc) 32 6 :: rq b (stepT st).2 :: B :: S ++ G) (fun M w => Φ M w ∧ Elems M w (ds ++ m.cells mp mc) (acc ++ [m])) := by
      rw [hal1]
      exact Ctx.weak (Ψ := fun M w => Φ M w ∧ Elems M w (ds ++ m.cells mp mc) (acc ++ [m])) cx' fun M w h => ⟨h.1.1, h.1.2.snoc (rep_msg hgm.ok g1 g2 h.2)⟩
    refine ⟨p', _, cap', w', hrun, .buf p' (acc ++ [m]).length cap' (ds ++ m.cells mp mc) 32 6 :: rq b (stepT st).2 :: B :: S, _, st3, cx2, fun w G cx => keep (Q := [.buf p' (acc ++ [m]).length cap' (ds ++ m.cells mp mc) 32 6, rq b (stepT st).2]) cx, fun w G cx => ?_⟩
    rw [hB] at cx
    refine ⟨cx.can 2 rfl (by show 0 + 1 ≤ 2; omega), fun w' hw' => ?_⟩
    have cx3 := cx.put 2 hw' rfl
    refine ⟨.buf p' (acc ++ [m]).length cap' (ds ++ m.cells mp mc) 32 6 :: rq b (stepT st).2 :: .blk g [.slice p' (acc ++ [m]).length cap', .int .i64 sn] 43 :: S, _, st3, by rw [hal1] at *; exact cx3, by unfold I64; omega, _, _, m0 - (i + 1), st3, fun w G cx => cx, ⟨i + 1, (stepT st).2, acc ++ [m], ds ++ m.cells mp mc, p', cap', by omega, by omega, by omega, rfl, rfl, rfl, stepT_ok hok, by omega, hlp.trans (loopR_s hne hs)⟩, by omega⟩
  · have hlp2 : loopR m0 st0 [] = some (acc, st) := by
      rw [hlp]
      by_cases h0 : st.1 = []
      · exact loopR_e h0
      · have : m0 - i = 0 := by
          by_cases h1 : i < m0
          · exact absurd ⟨h1, h0⟩ hgo
          · omega
        rw [this, loopR_z]
    have hx := hend hlp2
    have no : ∀ {w : World} {G : List Own}, (accC l acc st && decide ((m0 : Int) ≤ 4)) = false → Ctx W w ((rq b st :: .buf p acc.length cp ds 32 6 :: B :: S) ++ G) (fun M w => Φ M w ∧ Elems M w ds acc) → K (.returned (.tuple #[.pointer none, .bool false])) w := fun hf cx => by
      have h := hk none _ (out cx)
      rw [hx, hf] at h
      exact h
    have yes : ∀ {w : World} {G : List Own}, rdDone st = true → (acc.length : Int) = (m0 : Int) → ¬ (4 : Int) < (m0 : Int) → ¬ sn < (m0 : Int) → ¬ 1099511627776 < sn → Ctx W w ((rq b st :: .buf p acc.length cp ds 32 6 :: B :: S) ++ G) (fun M w => Φ M w ∧ Elems M w ds acc) → K (.returned (.tuple #[.pointer (some ⟨g, 0, none⟩), .bool true])) w := fun a1 a2 a3 a4 a5 cx => by
      have h := hk (some ⟨g, 0, none⟩) _ (out cx)
      have hf : (accC l acc st && decide ((m0 : Int) ≤ 4)) = true := by
        unfold accC
        rw [a1, decide_eq_true (show (acc.length : Int) = numC l by omega), decide_eq_true (show numC l ≤ sentR l by omega), decide_eq_true (show sentR l ≤ 1099511627776 by omega), decide_eq_true (show (m0 : Int) ≤ 4 by omega)]
        rfl
      rw [hx, hf] at h
      exact h
    refine Br.intro (fun hlt => fun w G cx => ?_) (fun _ => fun w G cx => ?_)
    · refine Left01_to (S := .buf p acc.length cp ds 32 6 :: B :: S) cx.swap (Br.intro (fun h => ?_) (fun _ => fun w G cx => ?_))
      · have h1 : i < m0 := by have := of_decide_eq_true hlt; omega
        have h2 : (0 : Int) < (st.1.length : Int) := of_decide_eq_true h
        exact absurd ⟨h1, fun e => by rw [e, List.length_nil] at h2; omega⟩ hgo
      · exact Done01_to (S := .buf p acc.length cp ds 32 6 :: B :: S) cx (Br.intro (fun hd => fun w G cx => no (by have hd : rdDone st = false := (by simpa using hd); unfold accC; rw [hd]; rfl) cx) (fun hd => fun w G cx => ⟨p, acc.length, cp, getL cx, Br.intro (fun h2 => fun w G cx => no (by unfold accC; rw [decide_eq_false (show ¬ (acc.length : Int) = numC l by rw [hnn0]; exact of_decide_eq_true h2)]; simp) cx) (fun h2 => Br.intro (fun h3 => fun w G cx => no (by rw [decide_eq_false (show ¬ (m0 : Int) ≤ 4 by have h3 : (4 : Int) < (m0 : Int) := of_decide_eq_true h3; omega)]; simp) cx) (fun h3 => fun w G cx => ⟨sn, getN cx, Br.intro (fun h4 => fun w G cx => no (by unfold accC; rw [decide_eq_false (show ¬ numC l ≤ sentR l by have h4 : sn < (m0 : Int) := of_decide_eq_true h4; omega)]; simp) cx) (fun h4 => fun w G cx => ⟨sn, getN cx, Br.intro (fun h5 => fun w G cx => no (by unfold accC; rw [decide_eq_false (show ¬ sentR l ≤ 1099511627776 by have h5 : 1099511627776 < sn := of_decide_eq_true h5; omega)]; simp) cx) (fun h5 => fun w G cx => yes (by simpa using hd) (Decidable.not_not.1 (of_decide_eq_false h2)) (of_decide_eq_false h3) (of_decide_eq_false h4) (of_decide_eq_false h5) cx)⟩)⟩))⟩))
    · exact Done01_to (S := .buf p acc.length cp ds 32 6 :: B :: S) cx.swap (Br.intro (fun hd => fun w G cx => no (by have hd : rdDone st = false := (by simpa using hd); unfold accC; rw [hd]; rfl) cx) (fun hd => fun w G cx => ⟨p, acc.length, cp, getL cx, Br.intro (fun h2 => fun w G cx => no (by unfold accC; rw [decide_eq_false (show ¬ (acc.length : Int) = numC l by rw [hnn0]; exact of_decide_eq_true h2)]; simp) cx) (fun h2 => Br.intro (fun h3 => fun w G cx => no (by rw [decide_eq_false (show ¬ (m0 : Int) ≤ 4 by have h3 : (4 : Int) < (m0 : Int) := of_decide_eq_true h3; omega)]; simp) cx) (fun h3 => fun w G cx => ⟨sn, getN cx, Br.intro (fun h4 => fun w G cx => no (by unfold accC; rw [decide_eq_false (show ¬ numC l ≤ sentR l by have h4 : sn < (m0 : Int) := of_decide_eq_true h4; omega)]; simp) cx) (fun h4 => fun w G cx => ⟨sn, getN cx, Br.intro (fun h5 => fun w G cx => no (by unfold accC; rw [decide_eq_false (show ¬ sentR l ≤ 1099511627776 by have h5 : 1099511627776 < sn := of_decide_eq_true h5; omega)]; simp) cx) (fun h5 => fun w G cx => yes (by simpa using hd) (Decidable.not_not.1 (of_decide_eq_false h2)) (of_decide_eq_false h3) (of_decide_eq_false h4) (of_decide_eq_false h5) cx)⟩)⟩))⟩))
end
end Go.Proofs.YtfpgbejdlikpgaaGreatDoor
end

/-
  ChannelBack, walked.
-/
section
set_option linter.unusedVariables false
set_option linter.unusedSimpArgs false
namespace Go.Proofs.YtfpgbejdlikpgaaGreatDoor
open Go.Vc


def andZ (a m : Int) : Int := IntKind.i64.wrap (BitVec.ofInt 64 a &&& BitVec.ofInt 64 m).toNat
theorem and_run (a m : Int) (w : World) : Sem.run Tryz.prog (binOp BinOp.and 3 (.int .i64 a) (.int .i64 m)) w = .ok (.int .i64 (andZ a m)) w := rfl

section
variable {W w : World} {S : List Own} {Φ : PW}
/-- what reading a channel leaves -/
def ReadQ (l : List UInt8) (Φ : PW) (px : Option Addr) (Q : List Own) (X : PW) : Prop :=
  (Q = [] ∧ px = none ∧ readC l = none ∧ X = Φ) ∨ ∃ q sent b cs, Q = [.blk b cs 59] ∧ px = some ⟨b, 0, none⟩ ∧ readC l = some q ∧ sentR l = (sent : Nat) ∧ sent ≤ 1099511627776 ∧ ChanC cs q 0 sent ∧ (∀ m ∈ q, Good m) ∧ X = (fun M w => Φ M w ∧ ChanS cs q 0 M w)
theorem ReadQ.stable [Stable Φ] {l : List UInt8} {px : Option Addr} {Q : List Own} {X : PW} (h : ReadQ l Φ px Q X) : Stable X := by
  rcases h with ⟨_, _, _, rfl⟩ | ⟨q, sent, b, cs, _, _, _, _, _, _, _, rfl⟩ <;> infer_instance
theorem ReadQ.phi {l : List UInt8} {px : Option Addr} {Q : List Own} {X : PW} (h : ReadQ l Φ px Q X) {M : List Nat} {w : World} (hx : X M w) : Φ M w := by
  rcases h with ⟨_, _, _, rfl⟩ | ⟨q, sent, b, cs, _, _, _, _, _, _, _, rfl⟩
  · exact hx
  · exact hx.1
theorem ReadQ.some {l : List UInt8} {px : Option Addr} {Q : List Own} {X : PW} (h : ReadQ l Φ px Q X) : (readC l).isSome = !px.isNone := by
  rcases h with ⟨_, rfl, h1, _⟩ | ⟨q, sent, b, cs, _, rfl, h1, _⟩ <;> rw [h1] <;> rfl
theorem ReadCU_use [Stable Φ] (hN : ∀ M w, Φ M w → NumI M w) (l : List UInt8) (hl : l.length ≤ 1000000) (hm : CFit (min (numC l) 4).toNat (stC l)) (c : Ctx W w S Φ) {K : Ending → World → Prop}
    (hk : ∀ px Q X w', ReadQ l Φ px Q X → Ctx W w' (Q ++ S) X → K (.returned (.tuple #[.pointer px, .bool (readC l).isSome])) w') :
    Calls Tryz.prog F.channel_Read #[.string (bs l)] w K := by
  refine ReadC_use hN l hl hm c (fun hn w' cx => ?_) (fun q sent b cs w' hr hs h1 hc hg cx => ?_)
  · have h := hk none [] Φ w' (.inl ⟨rfl, rfl, hn, rfl⟩) cx
    rw [hn] at h
    exact h
  · have h := hk (some ⟨b, 0, none⟩) [.blk b cs 59] _ w' (.inr ⟨q, sent, b, cs, rfl, rfl, hr, hs, h1, hc, hg, rfl⟩) cx
    rw [hr] at h
    exact h
theorem ReadMsgU_use [Stable Φ] (hN : ∀ M w, Φ M w → NumI M w) (l : List UInt8) (hm : MFit l) (c : Ctx W w S Φ) {K : Ending → World → Prop}
    (hk : ∀ p cap w', (∀ m, readMsg l = some m → Good m) → Ctx W w' S (fun M w => Φ M w ∧ Sl M w p ((readMsg l).getD msg0).deltas) → K (.returned (.tuple #[((readMsg l).getD msg0).v p cap, .bool (readMsg l).isSome])) w') :
    Calls Tryz.prog F.channel_ReadMessage #[.string (bs l)] w K := by
  refine ReadMsg_use hN l hm c (fun hn w' cx => ?_) (fun m p cap w' hs hg _ _ cx => ?_)
  · have h := hk none 0 w'
    rw [hn] at h
    exact h (by simp) (cx.weak fun M w h => ⟨h, Sl.nil⟩)
  · have h := hk p cap w'
    rw [hs] at h
    exact h (fun x hx => by cases hx; exact hg) cx
theorem ReadMsg36U_use [Stable Φ] (l : List UInt8) (hm : MFit l) (c : Ctx W w S Φ) {K : Ending → World → Prop}
    (hk : ∀ p cap w', Ctx W w' S (fun M w => Φ M w ∧ Sl M w p ((readMsg l).getD msg0).deltas) → K (.returned (.tuple #[((readMsg l).getD msg0).v p cap, .bool (readMsg l).isSome])) w') :
    Calls Tryz.prog F.errataref36_ReadMessage #[.string (bs l)] w K := by
  refine ReadMsg36_use l hm c (fun hn w' cx => ?_) (fun m p cap w' hs hg _ _ cx => ?_)
  · have h := hk none 0 w'
    rw [hn] at h
    exact h (cx.weak fun M w h => ⟨h, Sl.nil⟩)
  · have h := hk p cap w'
    rw [hs] at h
    exact h cx
end

set_option maxHeartbeats 8000000 in
theorem Back_in {Φ : PW} [Stable Φ] {p : Option Addr} {cap : Nat} {l : List OpD} {s : ByteArray} (hN : ∀ M w, Φ M w → NumI M w) (hΦ : ∀ M w, Φ M w → Sl M w p l) (hl : l.length ≤ maxLen) :
    GivesIn Φ Tryz.prog F.erratalaw36_ChannelBack #[.slice p l.length cap, .string s] (.bool true) := by
  have hl : l.length ≤ 9223372036854775807 := Nat.le_trans hl (by decide)
  obtain ⟨L, rfl⟩ : ∃ L, s = bs L := ⟨s.data.toList, (bs_of s).symm⟩
  have hLs : (bs L).size = L.length := bs_size L
  refine .pinned hΦ fun g o ms hp => ?_
  obtain ⟨Ψ, hΨ⟩ : ∃ Ψ : PW, Ψ = (fun M w => Φ M w ∧ Pin g o ms l M w) := ⟨_, rfl⟩
  have stΨ : Stable Ψ := by rw [hΨ]; exact instStableAnd Φ (fun M w => Pin g o ms l M w)
  have k0 : ∀ M w, Ψ M w → Φ M w := fun M w h => by rw [hΨ] at h; exact h.1
  have kp : ∀ M w, Ψ M w → Pin g o ms l M w := fun M w h => by rw [hΨ] at h; exact h.2
  rw [← hΨ]
  have kN : ∀ M w, Ψ M w → NumI M w := fun M w h => hN M w (k0 M w h)
  refine gives_in (Berratalaw36_ChannelBack_run p l.length cap (bs L)) fun W R => fun w G cx => ?_
  have hcs : OpCells ms l := fun j hj => pin_op (kp _ _ cx.phi) hj
  refine (small_g.in).toB cx fun w G cx => ?_
  refine New_use cx fun b w cx => ⟨_, rfl, .blk b chan0 59 :: R, Ψ, stΨ, cx, fun w G cx => ?_⟩
  refine (few_in (Φ := Ψ) p cap l 40 g o ms hp kp hcs hl).use cx fun v w ⟨bf, hbf, hb⟩ cx => ?_
  subst hbf
  refine ⟨bf, rfl, .blk b chan0 59 :: R, Ψ, stΨ, cx, Br.intro (fun _ => fun w G cx => fun w G cx => ⟨rfl, cx.drop1.left⟩) (fun hf => Br.intro (fun _ => fun w G cx => fun w G cx => ⟨rfl, cx.drop1.left⟩) (fun h600 => Br.intro (fun h => by cases h) (fun _ => ?_)))⟩
  have h40 := (hb (by simpa using hf)).2
  have h600 : L.length ≤ 600 := by have := of_decide_eq_false h600; omega
  clear cx
  refine exI_mk (fun nI R' Φ' k => ∃ (i : Nat) (cs : List Value) (q : List MsgD) (first sent : Nat), nI = i ∧ i ≤ l.length ∧ R' = .blk b cs 59 :: R ∧ Φ' = (fun M w => Ψ M w ∧ ChanS cs q first M w) ∧ k = l.length - i ∧ ChanC cs q first sent ∧ (∀ m ∈ q, Good m) ∧ q.length ≤ sent ∧ sent ≤ i)
    ⟨⟨_, fun M w => Ψ M w ∧ ChanS chan0 [] 0 M w, _, inferInstance, fun w G cx => cx.weak fun M w h => ⟨h, chan0_s M w⟩, 0, chan0, [], 0, 0, rfl, Nat.zero_le _, rfl, rfl, rfl, chan0_c, by simp, Nat.le_refl _, Nat.le_refl _⟩, ?_⟩
  rintro nI R1 Φ1 k _ ⟨i, cs, q, first, sent, rfl, hi, rfl, rfl, rfl, hc, hg, hqs, hs⟩
  have stX : Stable (fun M w => Ψ M w ∧ ChanS cs q first M w) := instStableAnd Ψ (fun M w => ChanS cs q first M w)
  have h4 := hc.count
  refine Br.intro (fun hlt => ?_) (fun hge => fun w G cx => ?_)
  · have hlt : i < l.length := by have := of_decide_eq_true hlt; omega
    obtain ⟨mp, mc, he, hm1, hm2, hok⟩ := hcs i hlt
    have hpp := hp (by omega)
    refine ⟨⟨by omega, by omega⟩, ptrK_intro g o hpp fun w G cx => ⟨l[i].m.kind, l[i].m.node, l[i].m.inp, l[i].m.bucket, l[i].m.n, mp, l[i].m.deltas.length, mc, pin_opMsg (kp _ _ cx.phi.1) hlt he, fun w G cx => ?_⟩⟩
    have hmach : Mach l[i].m.deltas := sl_mach (pin_opSl (kp _ _ cx.phi.1) hlt he)
    refine (right_in (Φ := fun M w => Ψ M w ∧ ChanS cs q first M w) mp mc l[i].m (fun M w h => pin_opSl (kp _ _ h.1) hlt he) (len_max hm1 hm2)).use cx fun v w ⟨br, hbr⟩ cx => ?_
    subst hbr
    refine ⟨br, rfl, .blk b cs 59 :: R, _, stX, cx, Br.intro (fun _ => fun w G cx => ⟨rfl, cx.drop1.left.weak fun M w h => h.1⟩) (fun _ => ?_)⟩
    clear cx
    refine ⟨⟨by omega, by omega⟩, ptrK_intro g o hpp fun w G cx => ⟨l[i].op, by have := pin_opAt (kp _ _ cx.phi.1) hlt he 0 (by simp); rw [Nat.add_zero] at this; exact this, andZ l[i].op 3, fun w => and_run l[i].op 3 w, Br.intro (fun _ => fun w G cx => ?_) (fun _ => ⟨⟨by omega, by omega⟩, ptrK_intro g o hpp fun w G cx => ⟨l[i].m.kind, l[i].m.node, l[i].m.inp, l[i].m.bucket, l[i].m.n, mp, l[i].m.deltas.length, mc, pin_opMsg (kp _ _ cx.phi.1) hlt he, fun w G cx => ?_⟩⟩)⟩⟩
    · refine TakeE_use (S := R ++ G) (Φ := Ψ) cx hc fun p1 c1 w cs1 first1 hc1 cx => ?_
      have stA : Stable (fun M w => Ψ M w ∧ ChanS cs1 q.tail first1 M w) := instStableAnd Ψ (fun M w => ChanS cs1 q.tail first1 M w)
      exact ⟨_, _, _, _, _, p1, _, c1, _, rfl, .blk b cs1 59 :: R, _, stA, cx.weak fun M w h => h.1, by unfold I64; omega, _, _, l.length - (i + 1), stA, fun w G cx => cx, ⟨i + 1, cs1, q.tail, first1, sent, by omega, hlt, rfl, rfl, rfl, hc1, fun m hm => hg m (List.mem_of_mem_tail hm), by rw [List.length_tail]; omega, by omega⟩, by omega⟩
    · refine SendE_use (S := R ++ G) (Φ := Ψ) (m := l[i].m) cx hc (fun M w h => pin_opSl (kp _ _ h) hlt he) hok (len_max hm1 hm2) (by omega) fun e1 cs1 q1 n1 w hR hc1 cx => ?_
      obtain ⟨hg2, hs2, hs3, hs4⟩ := hR.good hg hok hmach
      have stA : Stable (fun M w => Ψ M w ∧ ChanS cs1 q1 first M w) := instStableAnd Ψ (fun M w => ChanS cs1 q1 first M w)
      exact ⟨e1, rfl, .blk b cs1 59 :: R, _, stA, cx, by unfold I64; omega, _, _, l.length - (i + 1), stA, fun w G cx => cx, ⟨i + 1, cs1, q1, first, n1, by omega, hlt, rfl, rfl, rfl, hc1, hg2, hs4 hqs, by omega⟩, by omega⟩
  -- Read of Bytes
  have hql := qL_len hg
  have hhl := headQ_len (n := q.length) (sent := sent) h4 (by omega)
  have hcl : (chanL q sent).length ≤ 121300 := by unfold chanL; rw [List.length_append]; omega
  obtain ⟨e1, e2, e3⟩ := chan_st (q := q) (sent := sent) (by omega) h4
  have erd := chan_read (q := q) (sent := sent) (by omega) h4 hqs hg
  refine BytesC_use (S := R ++ G) (fun M w h => (kN _ _ h.1).1) cx hc (fun M w h => h.2) hg (by omega) fun w cx => ⟨_, rfl, .blk b cs 59 :: R, _, stX, cx, fun w G cx => ?_⟩
  have hfit : CFit (min (numC (chanL q sent)) 4).toNat (stC (chanL q sent)) := by
    rw [e2, e3, show (min (q.length : Int) 4).toNat = q.length by omega]
    exact good_cfit q hg
  refine ReadC_use (fun M w h => kN _ _ h.1) (chanL q sent) (by omega) hfit cx (fun hn w cx => by rw [erd] at hn; cases hn) (fun q2 sent2 gb cs2 w hr2 hs2 h12 hc2 hg2 cx => ?_)
  obtain rfl : q = q2 := by rw [erd] at hr2; exact Option.some.inj hr2
  obtain rfl : sent = sent2 := by rw [e1] at hs2; omega
  clear hr2 hs2 h12 hg2
  obtain ⟨Ψ2, hΨ2⟩ : ∃ Ψ2 : PW, Ψ2 = (fun M w => (Ψ M w ∧ ChanS cs q first M w) ∧ ChanS cs2 q 0 M w) := ⟨_, rfl⟩
  have st2 : Stable Ψ2 := by rw [hΨ2]; exact @instStableAnd (fun M w => Ψ M w ∧ ChanS cs q first M w) (fun M w => ChanS cs2 q 0 M w) stX inferInstance
  have a0 : ∀ M w, Ψ2 M w → Ψ M w := fun M w h => by rw [hΨ2] at h; exact h.1.1
  have a1 : ∀ M w, Ψ2 M w → ChanS cs q first M w := fun M w h => by rw [hΨ2] at h; exact h.1.2
  have a2 : ∀ M w, Ψ2 M w → ChanS cs2 q 0 M w := fun M w h => by rw [hΨ2] at h; exact h.2
  rw [← hΨ2] at cx
  refine ⟨_, _, rfl, .blk gb cs2 59 :: .blk b cs 59 :: R, Ψ2, st2, cx, fun w G cx => Br.intro (fun h => by simp at h) (fun _ => fun w G cx => ?_)⟩
  refine List_use (S := .blk gb cs2 59 :: R ++ G) cx.swap hc a1 fun p3 cap3 w _ cx => ?_
  have st3 : Stable (fun M w => Ψ2 M w ∧ Sl M w p3 q) := instStableAnd Ψ2 (fun M w => Sl M w p3 q)
  refine ⟨p3, _, cap3, rfl, .blk gb cs2 59 :: .blk b cs 59 :: R, _, st3, cx.swap, fun w G cx => ?_⟩
  refine List_use (S := .blk b cs 59 :: R ++ G) cx hc2 (fun M w h => a2 _ _ h.1) fun p4 cap4 w _ cx => ?_
  have st4 : Stable (fun M w => (Ψ2 M w ∧ Sl M w p3 q) ∧ Sl M w p4 q) := @instStableAnd (fun M w => Ψ2 M w ∧ Sl M w p3 q) (fun M w => Sl M w p4 q) st3 inferInstance
  refine ⟨p4, _, cap4, rfl, .blk gb cs2 59 :: .blk b cs 59 :: R, _, st4, cx, fun w G cx => ?_⟩
  refine (rSameList_in p3 p4 cap3 cap4 q (fun M w h => h.1.2) (fun M w h => h.2) (by omega)).toB cx (Br.intro (fun h => by cases h) (fun _ => fun w G cx => ?_))
  have cx : Ctx W w ((.blk gb cs2 59 :: .blk b cs 59 :: R) ++ G) Ψ2 := Ctx.weak (Ψ := Ψ2) cx fun M w h => h.1.1
  refine Sent_use cx (i := 0) rfl hc2.c26 fun w cx => ⟨_, rfl, .blk gb cs2 59 :: .blk b cs 59 :: R, Ψ2, st2, cx, fun w G cx => ?_⟩
  refine Sent_use cx (i := 1) rfl hc.c26 fun w cx => ⟨_, rfl, .blk gb cs2 59 :: .blk b cs 59 :: R, Ψ2, st2, cx, Br.intro (fun h => absurd rfl (of_decide_eq_true h)) (fun _ => fun w G cx => ?_)⟩
  refine BytesC_use (S := .blk b cs 59 :: R ++ G) (fun M w h => (kN _ _ (a0 _ _ h)).1) cx hc2 a2 hg (by omega) fun w cx => ⟨_, rfl, .blk gb cs2 59 :: .blk b cs 59 :: R, Ψ2, st2, cx, fun w G cx => ?_⟩
  refine BytesC_use (S := .blk gb cs2 59 :: R ++ G) (fun M w h => (kN _ _ (a0 _ _ h)).1) cx.swap hc a1 hg (by omega) fun w cx => ⟨_, rfl, .blk gb cs2 59 :: .blk b cs 59 :: R, Ψ2, st2, cx.swap, Br.intro (fun h => absurd rfl (of_decide_eq_true h)) (fun _ => fun w G cx => ?_)⟩
  -- any string
  have hL0 : (stC L).1.length ≤ 1000 := by
    have q1 : (rdInt (L, false)).2.1.length ≤ L.length := rdInt_len _
    have q2 : (stC L).1.length ≤ (rdInt (L, false)).2.1.length := stepN_len 59 0 _
    omega
  refine ReadCU_use (fun M w h => kN _ _ (a0 _ _ h)) L (by omega) (short_cfit _ _ hL0) cx fun px Q X w hQ cx => ?_
  have stQ := hQ.stable
  have hsome := hQ.some
  have toΨ : ∀ M w, X M w → Ψ M w := fun M w h => a0 _ _ (hQ.phi h)
  rw [← List.append_assoc] at cx
  refine ⟨px, _, rfl, Q ++ (.blk gb cs2 59 :: .blk b cs 59 :: R), X, stQ, cx, fun w G cx => ?_⟩
  refine Read36_use L (by omega) cx fun px2 w cx => ⟨px2, _, rfl, Q ++ (.blk gb cs2 59 :: .blk b cs 59 :: R), X, stQ, cx, fun w G cx => ?_⟩
  refine ReadMsgU_use (fun M w h => kN _ _ (toΨ _ _ h)) L (short_mfit (by omega)) cx fun py cy w hgy cx => ?_
  have hms := @readMsg_is L
  obtain ⟨m, hm⟩ : ∃ m, (readMsg L).getD msg0 = m := ⟨_, rfl⟩
  obtain ⟨bm, hbm⟩ : ∃ bm, (readMsg L).isSome = bm := ⟨_, rfl⟩
  have hmd : m.deltas.length ≤ 8 := by
    rw [← hm]
    cases hx : readMsg L with
    | none => exact Nat.zero_le _
    | some y => exact (right_fits (hgy y hx).right).1
  have hmg : bm = true → Good m ∧ (msgB m).data.toList = L := fun h => by
    rw [h] at hbm
    obtain ⟨y, hy⟩ := Option.isSome_iff_exists.1 hbm
    rw [hy] at hm
    have hm : y = m := hm
    rw [← hm]
    exact ⟨hgy y hy, (hms hy).1⟩
  rw [hm] at cx
  have stY : Stable (fun M w => X M w ∧ Sl M w py m.deltas) := instStableAnd X (fun M w => Sl M w py m.deltas)
  rw [hm, hbm]
  refine ⟨_, _, _, _, _, py, _, cy, _, rfl, Q ++ (.blk gb cs2 59 :: .blk b cs 59 :: R), _, stY, cx, fun _ w G cx => ?_⟩
  refine ReadMsg36U_use L (short_mfit (by omega)) cx fun pz cz w cx => ?_
  rw [hm] at cx
  rw [hm, hbm]
  obtain ⟨Z, hZ⟩ : ∃ Z : PW, Z = (fun M w => (X M w ∧ Sl M w py m.deltas) ∧ Sl M w pz m.deltas) := ⟨_, rfl⟩
  have stZ : Stable Z := by rw [hZ]; exact @instStableAnd (fun M w => X M w ∧ Sl M w py m.deltas) (fun M w => Sl M w pz m.deltas) stY inferInstance
  have z0 : ∀ M w, Z M w → X M w := fun M w h => by rw [hZ] at h; exact h.1.1
  have z1 : ∀ M w, Z M w → Sl M w py m.deltas := fun M w h => by rw [hZ] at h; exact h.1.2
  have z2 : ∀ M w, Z M w → Sl M w pz m.deltas := fun M w h => by rw [hZ] at h; exact h.2
  rw [← hZ] at cx
  have out : ∀ {w : World} {G : List Own}, Ctx W w ((Q ++ (.blk gb cs2 59 :: .blk b cs 59 :: R)) ++ G) Z → Ctx W w R Ψ := fun cx => by
    have c1 := Ctx.left cx
    have c2 : Ctx W _ (.blk gb cs2 59 :: .blk b cs 59 :: R) Z := Ctx.right c1
    exact (Ctx.drop1 (Ctx.drop1 c2)).weak fun M w h => toΨ _ _ (z0 _ _ h)
  -- the channel that was read
  have hxb : ∀ {w : World} {G : List Own} {K : Ending → World → Prop}, px.isNone = false → Ctx W w ((Q ++ (.blk gb cs2 59 :: .blk b cs 59 :: R)) ++ G) Z → (∀ w', Ctx W w' ((Q ++ (.blk gb cs2 59 :: .blk b cs 59 :: R)) ++ G) Z → K (.returned (.string (bs L))) w') → Calls Tryz.prog F.channel_Channel_Bytes #[.pointer px] w K := by
    intro w G K hpx cq hk
    rcases hQ with ⟨_, rfl, _⟩ | ⟨q3, sent3, b3, cs3, rfl, rfl, hr3, hs3, h13, hc3, hg3, rfl⟩
    · cases hpx
    · obtain ⟨s4, hs4, _, _, _, hL4⟩ := readC_is hr3
      have : sent3 = s4 := by omega
      subst this
      refine BytesC_use (S := (.blk gb cs2 59 :: .blk b cs 59 :: R) ++ G) (fun M w h => (kN _ _ (toΨ _ _ (z0 _ _ h))).1) cq hc3 (fun M w h => (z0 _ _ h).2) hg3 h13 fun w cq => ?_
      rw [hL4]
      exact hk w cq
  refine ⟨_, _, _, _, _, pz, _, cz, _, rfl, Q ++ (.blk gb cs2 59 :: .blk b cs 59 :: R), Z, stZ, cx, fun _ => Br.intro (fun h => by rw [ok_same, bne_self_eq_false] at h; cases h) (fun _ => Br.intro (fun h => by rw [hsome, bne_self_eq_false] at h; cases h) (fun _ => Br.intro (fun h => by rw [bne_self_eq_false] at h; cases h) (fun _ => fun w G cx => ?_)))⟩
  refine (rSame_in py pz cy cz m z1 z2 (by omega)).toB cx (Br.intro (fun h => by cases h) (fun _ => Br.intro (fun hb => fun w G cx => ?_) (fun hb => Br.intro (fun _ => Br.intro (fun _ => fun w G cx => ⟨rfl, out cx⟩) (fun hx => fun w G cx => ?_)) (fun h => by cases h))))
  · obtain ⟨hgm, hmL⟩ := hmg hb
    have hmb := hgm.bytes
    refine (MessageBytes_in (m := m) (fun M w h => (kN _ _ (toΨ _ _ (z0 _ _ h))).1) z1 hgm.ok (by omega) hgm.fit (by omega)).toS cx (Br.intro (fun h => ?_) (fun _ => Br.intro (fun _ => Br.intro (fun _ => fun w G cx => ⟨rfl, out cx⟩) (fun hx => fun w G cx => ?_)) (fun h => by cases h)))
    · exact absurd (by rw [← hmL]; exact (bs_of _).symm) (of_decide_eq_true h)
    · exact hxb hx cx fun w cx => ⟨_, rfl, Q ++ (.blk gb cs2 59 :: .blk b cs 59 :: R), Z, stZ, cx, fun w G cx => ⟨by rw [decide_eq_true rfl], out cx⟩⟩
  · exact hxb hx cx fun w cx => ⟨_, rfl, Q ++ (.blk gb cs2 59 :: .blk b cs 59 :: R), Z, stZ, cx, fun w G cx => ⟨by rw [decide_eq_true rfl], out cx⟩⟩
end Go.Proofs.YtfpgbejdlikpgaaGreatDoor
end

section
set_option linter.unusedVariables false
set_option linter.unusedSimpArgs false
namespace Go.Proofs.YtfpgbejdlikpgaaGreatDoor
open Go.ChangeShapes Go.WideShapes Go.ChangeAt Go.RowKit Go.Vc


theorem df_own : ownKnob Tryz.prog.godebug = none := by kernel_rfl
theorem df_laid : laidOutB Tryz.prog = true := by kernel_rfl

theorem trodAll_n {H : Type} {enc : TypeId × Value → H} {P : Program} {w : World} {base : Nat} {spare : Nat → Bool} {held : Bool} {t0 t1 : TypeId} {args : Array Value} {ds : List (DataW H)} {ps : List MemPlace} (h : DataW.TrodAll enc P w base spare held [t0, t1] args.toList ds ps) :
    ∃ v0 v1 d0 d1 p0 p1, args = #[v0, v1] ∧ ds = [d0, d1] ∧ ps = p0 ++ p1 ∧ DataW.Trod enc P w base spare held t0 v0 d0 p0 ∧ DataW.Trod enc P w base spare held t1 v1 d1 p1 := by
  obtain ⟨v0, vs0, d0, ds0, p0, q0, hargs, rfl, rfl, h0, h⟩ := trodAll_cons h
  obtain ⟨v1, vs1, d1, ds1, p1, q1, rfl, rfl, rfl, h1, h⟩ := trodAll_cons h
  obtain ⟨rfl, rfl, rfl⟩ := trodAll_nil h
  exact ⟨v0, v1, d0, d1, p0, p1, by cases args; simp_all, rfl, by simp, h0, h1⟩

theorem door_met (os : Os) (args : Array Value) : laidMetH Tryz.prog Rows.channelBackRow.laid ((World.doorLaid Tryz.prog 400 os).forCall (fun _ _ => 0) ⟨#[], args, []⟩).memory :=
  laidMetH_of_parts3 (fuel := 8) (laidMet_of_run' 8 (by kernel_rfl) (by kernel_rfl)) (by kernel_rfl) (by kernel_rfl)

set_option maxRecDepth 100000 in
theorem law_lifted (os : Os) (started : os.Started) (H : Type) (enc : TypeId × Value → H) :
    ReturnsInHanded {} Tryz.checked os 4 .any (fun w args => (Rows.channelBackSpec.pre enc Tryz.prog Tryz.f4 Rows.channelBackRow.domain false w args ∧ laidMetH Tryz.prog Rows.channelBackRow.laid w) ∧ sizedMet enc Tryz.prog Tryz.f4 (OpenSpec.ofChange Rows.channelBackSpec) false w args) (Rows.channelBackSpec.post enc Tryz.prog Tryz.f4 false true false false) := by
  refine lawTrueLaid (C := Tryz.checked) (tb := 4) df_own started (by kernel_rfl) Tryz.func4 df_laid rfl ?_ rfl Tryz.underlying4 (by kernel_rfl)
    (ChangeSpec.witness_shaped (enc := enc) (C := Tryz.checked) (os := os) (X := fun w _ => laidMetH Tryz.prog Rows.channelBackRow.laid w) false (World.doorLaid Tryz.prog 400 os) #[.slice none 0 0, .string .empty] 8 rfl (World.shaped_of_RefB (by kernel_rfl) (by kernel_rfl)) (by kernel_rfl) (by kernel_rfl) (by kernel_rfl) (door_met os _)) ?_
  · intro ds hd
    match ds, hd with
    | [_, _], _ => exact ⟨rfl, rfl, rfl⟩
  · intro W base args ds p hval0 hA0 _ hL
    have hval : ∀ (j : Nat) t v, Tryz.f4.params[j]? = some t → args[j]? = some v → Value.okWide Tryz.prog W .any base t v := hval0
    have hA : DataW.TrodAll enc Tryz.prog W 0 (fun _ => true) true Tryz.f4.params.toList args.toList ds p := hA0
    rw [Tryz.params4] at hA hval
    obtain ⟨v0, v1, d0, d1, p0, p1, rfl, rfl, rfl, h0, h1⟩ := trodAll_n hA
    obtain ⟨lp, lc, l, rfl, la, lb, s0⟩ := open_sl (α := OpD) 12 Tryz.underlying22 (hval 0 22 v0 rfl rfl) (by kernel_rfl) h0
    obtain ⟨s, rfl, rfl, rfl, sw⟩ := Go.ChangeMaps.open_string Tryz.underlying9 (hval 1 9 v1 rfl rfl) h1
    have st0 : Stable (fun M w => Sl M w lp l) := inferInstance
    have st1 : Stable (fun M w => NumI M w ∧ Sl M w lp l) := instStableAnd (fun M w => NumI M w) (fun M w => Sl M w lp l)
    have fin : GivesIn (fun M w => NumI M w ∧ Sl M w lp l) Tryz.prog 4 _ (.bool true) := Back_in (Φ := (fun M w => NumI M w ∧ Sl M w lp l)) (p := lp) (cap := lc) (l := l) (s := s) (fun _ _ h => h.1) (fun _ _ h => h.2) (by omega)
    exact fin.law ⟨la_num hL, s0⟩

theorem row_holds : Rows.ChannelBackSaid :=
  OpenClaim.holds_of_wide 4 Tryz.f4 rfl rfl rfl rfl rfl rfl rfl ⟨rfl, rfl, rfl, rfl, rfl⟩ rfl rfl rfl rfl rfl (by kernel_rfl) Tryz.func4 (by kernel_rfl)
    (of_decide_eq_true (by kernel_rfl)) (by unfold Func.isWrapper; first | (rw [if_pos (by decide +kernel)]; kernel_rfl) | (rw [if_neg (by decide +kernel)]; exact ⟨rfl, rfl⟩))
    (fun os started H enc _ => law_lifted os started H enc)

theorem back_holds : Rows.ChannelBackCardSaid :=
  Claim7.holds_tied_plain_at .later [] [.data, .data, .data, .sentinel, .sentinel] true Rows.channelBackCard.stood.harness true
    row_holds (fun _ h => by cases h) (by kernel_rfl) (fun _ h => by cases h) channelBack_row_tie rfl ⟨rfl, rfl⟩ (by kernel_rfl) rfl
    (fun f fn hf hfn => by
      obtain rfl : f = 4 := Option.some.inj ((show Tryz.prog.funcNamed Rows.channelBackRow.func = some 4 by kernel_rfl).symm.trans hf) |>.symm
      obtain rfl : fn = Tryz.f4 := (Option.some.inj (Tryz.func4.symm.trans hfn)).symm
      exact ⟨by kernel_rfl, fun j t ht => by
        rw [Tryz.params4] at ht
        have hm := Array.mem_of_getElem? ht
        have hall : ((Tryz.f4.params.toList).all fun u => !Tryz.prog.wantsStandIn u) = true := by kernel_rfl
        rw [Tryz.params4] at hall
        exact (show Tryz.prog.wantsStandIn t = false by simpa using List.all_eq_true.1 hall t (by simpa using hm))⟩)
    (by kernel_rfl)

end Go.Proofs.YtfpgbejdlikpgaaGreatDoor
end

