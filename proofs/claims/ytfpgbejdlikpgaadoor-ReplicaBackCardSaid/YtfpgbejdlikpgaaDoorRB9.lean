/-
  For every input erratalaw08.ReplicaBack returns true, does not panic, comes to an end, and leaves what came in as it was; the variables that its row lists are as the program's text lays them.
  Conditions: none beyond the given statement's own (ReplicaBackCardSaid).
-/
import Derived.Test.YtfpgbejdlikpgaaDoorRB8
import Derived.Test.YtfpgbejdlikpgaaDoorRB7
import Derived.MapKept
import Derived.Test.YtfpgbejdlikpgaaDoorCards
import Derived.MakeChecks
import Derived.Stop.LaidErr
import Derived.Lib.LaidTab
import Derived.Test.YtfpgbejdlikpgaaDoorTie
import Derived.SevenTiedAt
import Derived.LaidMore
import Derived.ChangeMaps5
import Derived.Test.YtfpgbejdlikpgaaDoorRows

/-
  The reference's reader of encodings, walked: it does what the program's reader does.
-/
section
set_option linter.unusedVariables false
set_option linter.unusedSimpArgs false
namespace Go.Proofs.YtfpgbejdlikpgaaDoor
open Go.Vc


/-! ### plain -/
theorem getI : ∀ (l : List UInt8) (i : Nat), l.get?Internal i = l[i]?
  | [], _ => rfl
  | _ :: _, 0 => rfl
  | x :: l, i + 1 => by
    show l.get?Internal i = (x :: l)[i + 1]?
    rw [getI l i]; rfl
/-- a reader that has failed has nothing left -/
def RdOk (st : RdS) : Prop := st.2 = true → st.1 = []
theorem rdOk0 (l : List UInt8) : RdOk (l, false) := fun h => by cases h
theorem rdOkF : RdOk ([], true) := fun _ => rfl
theorem numP_nil (e : UInt8) (least : Int) : numP e least [] = none := by
  unfold numP
  simp [Lib.indexByte]
theorem stepN_ok {e : UInt8} {least : Int} {st : RdS} (h : RdOk st) : RdOk (stepN e least st).2 := by
  unfold stepN
  cases hn : numP e least st.1 with
  | none => exact rdOkF
  | some x =>
    obtain ⟨n, r⟩ := x
    intro hb
    have hb : st.2 = true := hb
    rw [h hb, numP_nil] at hn
    cases hn
theorem stepC_ok {c : UInt8} {st : RdS} (h : RdOk st) : RdOk (stepC c st) := by
  obtain ⟨l, b⟩ := st
  cases l with
  | nil => exact rdOkF
  | cons x r =>
    unfold stepC
    simp only
    split
    · intro hb
      have := h hb
      cases this
    · exact rdOkF
theorem rdInt_ok {st : RdS} (h : RdOk st) : RdOk (rdInt st).2 := stepN_ok h
theorem rdNat_ok {st : RdS} (h : RdOk st) : RdOk (rdNat st).2 := stepN_ok h
theorem stepT_ok {st : RdS} (h : RdOk st) : RdOk (stepT st).2 := by
  unfold stepT
  simp only
  split
  · exact rdOkF
  · refine stepC_ok fun hb => ?_
    have := stepN_ok (e := 58) (least := 0) h hb
    simp only
    rw [this, List.drop_nil]

/-- the digits of a number behind its sign -/
theorem itoa_digs {l : List UInt8} {f : Nat} (hf : f = 1 ∧ l[0]? = some 45 ∨ f = 0 ∧ l[0]? ≠ some 45) {n : Int} (hn : I64 n) (e : l = Lib.itoa n) : ∃ u : Nat, l.drop f = Lib.decDigits u ∧ u ≤ 9223372036854775808 ∧ n = (if f = 1 then -(u : Int) else u) := by
  unfold I64 at hn
  unfold Lib.itoa at e
  split at e
  · rename_i h
    rcases hf with ⟨rfl, h0⟩ | ⟨rfl, h0⟩
    · exact ⟨n.natAbs, by rw [e]; rfl, by omega, by rw [if_pos rfl]; omega⟩
    · rw [e] at h0; exact absurd rfl h0
  · rename_i h
    rcases hf with ⟨rfl, h0⟩ | ⟨rfl, h0⟩
    · have hd := digits_chars n.toNat 45 (by rw [← e]; exact List.mem_of_getElem? h0)
      exact absurd hd.1 (by decide)
    · exact ⟨n.toNat, by rw [e]; rfl, by omega, by rw [if_neg (by decide)]; omega⟩
theorem digV_pre (D : List UInt8) (k : Nat) : digV 0 (D.take k) ≤ digV 0 D := by
  have h := digV_mono (D.drop k) (digV 0 (D.take k))
  have e : digV (digV 0 (D.take k)) (D.drop k) = digV 0 D := by
    unfold digV
    rw [← List.foldl_append, List.take_append_drop]
  omega
theorem u8_dig {c : UInt8} (h : 48 ≤ c.toNat ∧ c.toNat ≤ 57) : IntKind.i64.wrap (IntKind.u8.wrap ((c.toNat : Int) - 48)) = ((c.toNat - 48 : Nat) : Int) := by
  have e : ((c.toNat : Int) - 48) = ((c.toNat - 48 : Nat) : Int) := by omega
  rw [e]
  have h2 : IntKind.u8.wrap ((c.toNat - 48 : Nat) : Int) = ((c.toNat - 48 : Nat) : Int) := by simp [IntKind.wrap, IntKind.signed, IntKind.bits]; omega
  rw [h2, i64_wrap (by unfold I64; omega)]
theorem wrap_i64 (x : Int) : I64 (IntKind.i64.wrap x) := by
  unfold I64
  simp [IntKind.wrap, IntKind.signed, IntKind.bits]
  split <;> omega

/-- what is known while a number's digits are added -/
def BackI (l : List UInt8) (f j : Nat) (acc : Int) : Prop := f ≤ j ∧ j ≤ l.length ∧ I64 acc ∧ ∀ n, I64 n → l = Lib.itoa n → acc = -((digV 0 ((l.drop f).take (j - f)) : Nat) : Int)
theorem backI0 {l : List UInt8} {f : Nat} (h : f ≤ l.length) : BackI l f f 0 := ⟨Nat.le_refl _, h, by unfold I64; decide, fun n _ _ => by rw [Nat.sub_self, List.take_zero]; rfl⟩
theorem back_dig {l : List UInt8} {f j : Nat} (hf : f = 1 ∧ l[0]? = some 45 ∨ f = 0 ∧ l[0]? ≠ some 45) (hfj : f ≤ j) {c : UInt8} (hc : l[j]? = some c) {n : Int} (hn : I64 n) (e : l = Lib.itoa n) : (48 ≤ c.toNat ∧ c.toNat ≤ 57) ∧ j ≤ 20 := by
  obtain ⟨u, hu, _, _⟩ := itoa_digs hf hn e
  refine ⟨digits_chars u c ?_, ?_⟩
  · rw [← hu]
    refine List.mem_of_getElem? (i := j - f) ?_
    rw [List.getElem?_drop, show f + (j - f) = j by omega]
    exact hc
  · have := itoa_len hn
    rw [← e] at this
    have := (List.getElem?_eq_some_iff.1 hc).1
    omega
theorem backI_step {l : List UInt8} {f j : Nat} {acc : Int} (hf : f = 1 ∧ l[0]? = some 45 ∨ f = 0 ∧ l[0]? ≠ some 45) (h : BackI l f j acc) {c : UInt8} (hc : l[j]? = some c) : BackI l f (j + 1) (IntKind.i64.wrap (IntKind.i64.wrap (10 * acc) - IntKind.i64.wrap (IntKind.u8.wrap ((c.toNat : Int) - 48)))) := by
  obtain ⟨h1, h2, h3, h4⟩ := h
  have hjl := (List.getElem?_eq_some_iff.1 hc).1
  refine ⟨by omega, by omega, wrap_i64 _, fun n hn e => ?_⟩
  have h5 := h4 n hn e
  obtain ⟨u, hu, hub, _⟩ := itoa_digs hf hn e
  obtain ⟨hd, _⟩ := back_dig hf h1 hc hn e
  have hs : (l.drop f).take (j + 1 - f) = (l.drop f).take (j - f) ++ [c] := by
    rw [show j + 1 - f = (j - f) + 1 by omega, List.take_add_one, List.getElem?_drop, show f + (j - f) = j by omega, hc]
    rfl
  have hpre := digV_pre (l.drop f) (j + 1 - f)
  rw [hu] at hpre
  rw [digV_dec u] at hpre
  rw [← hu, hs, digV_snoc] at hpre
  rw [hs, digV_snoc, h5, u8_dig hd]
  rw [i64_wrap (n := 10 * -((digV 0 ((l.drop f).take (j - f)) : Nat) : Int)) (by unfold I64; omega)]
  rw [i64_wrap (by unfold I64; omega)]
  omega
theorem backI_end {l : List UInt8} {f j : Nat} {acc : Int} (hf : f = 1 ∧ l[0]? = some 45 ∨ f = 0 ∧ l[0]? ≠ some 45) (h : BackI l f j acc) (hj : l.length ≤ j) {n : Int} (hn : I64 n) (e : l = Lib.itoa n) : n = (if f = 1 then acc else IntKind.i64.wrap (0 - acc)) := by
  obtain ⟨h1, h2, h3, h4⟩ := h
  have h5 := h4 n hn e
  obtain ⟨u, hu, hub, hn2⟩ := itoa_digs hf hn e
  rw [List.take_of_length_le (by rw [List.length_drop]; omega), hu, digV_dec] at h5
  rcases hf with ⟨rfl, _⟩ | ⟨rfl, _⟩
  · rw [if_pos rfl] at hn2 ⊢
    omega
  · rw [if_neg (by decide)] at hn2 ⊢
    unfold I64 at hn
    rw [h5, i64_wrap (by unfold I64; omega)]
    omega
theorem intB_semi {n : Int} {l : List UInt8} : (intB n = bs l ++ ByteArray.mk #[59]) ↔ l = Lib.itoa n := by
  have e1 : (intB n).data.toList = Lib.itoa n ++ [59] := by unfold intB numB; simp [ByteArray.data_append]
  have e2 : (bs l ++ ByteArray.mk #[59]).data.toList = l ++ [59] := by simp [bs, ByteArray.data_append]
  constructor
  · intro h
    have h2 : (intB n).data.toList = (bs l ++ ByteArray.mk #[59]).data.toList := by rw [h]
    rw [e1, e2] at h2
    exact (List.append_cancel_right h2).symm
  · intro h
    apply ByteArray.ext
    apply Array.toList_inj.1
    rw [e1, e2, h]

section
variable {W w : World} {R G S : List Own} {Φ : PW} {b : Nat} {st : RdS}

theorem Back_to [Stable Φ] (l : List UInt8) (hl : l.length ≤ 1000000000) (c : Ctx W w (R ++ G) Φ) {K : Int → Bool → List Own → PW → Prop}
    (h1 : ∀ n, I64 n → l = Lib.itoa n → K n true R Φ) (h0 : (∀ n, I64 n → l ≠ Lib.itoa n) → ∀ m, K m false R Φ) :
    Calls Tryd.prog F.errataref01_Back #[.string (bs l)] w fun e w' => ∃ n ok, e = .returned (.tuple #[.int .i64 n, .bool ok]) ∧ ∃ R' Φ', Stable Φ' ∧ Ctx W w' (R' ++ G) Φ' ∧ K n ok R' Φ' := by
  refine (Merrataref01_Back_run (bs l) (J := fun u w' => ∃ n ok, (Ending.returned u) = .returned (.tuple #[.int .i64 n, .bool ok]) ∧ ∃ R' Φ', Stable Φ' ∧ Ctx W w' (R' ++ G) Φ' ∧ K n ok R' Φ') (R := R ++ G) c ?_).mono fun e w' ⟨v, he, hj⟩ => by rw [he]; exact hj
  clear c
  have hsz : (bs l).size = l.length := bs_size l
  have body : ∀ (f : Nat), (f = 1 ∧ l[0]? = some 45 ∨ f = 0 ∧ l[0]? ≠ some 45) → ∀ (n : Int), I64 n → (∀ m, I64 m → l = Lib.itoa m → m = n) → ∀ {w : World} {G2 : List Own}, Ctx W w ((R ++ G) ++ G2) Φ →
      Calls Tryd.prog F.errataref01_Int #[.int .i64 n] w fun e28 w29 => ∃ (s30 : ByteArray), e28 = .returned (.string s30) ∧ ∃ (R31 : List Own), ∃ (Φ32 : PW), Stable Φ32 ∧ Ctx W w29 (R31 ++ G2) Φ32 ∧ ((bs l).size + (ByteArray.mk #[OfNat.ofNat 59]).size).le 9223372036854775807 ∧ ∀ (w33 : World) (R34 : List Own), Ctx W w33 (R31 ++ R34) Φ32 →
        ∃ n' ok, (Ending.returned (Value.tuple #[.int .i64 n, .bool (decide (s30 = bs l ++ ByteArray.mk #[OfNat.ofNat 59]))])) = .returned (.tuple #[.int .i64 n', .bool ok]) ∧ ∃ R' Φ', Stable Φ' ∧ Ctx W w33 (R' ++ G) Φ' ∧ K n' ok R' Φ' := fun f hf n hn hu {w G2} cx =>
    (Gives.in (Int01_g n hn)).toS cx ⟨by rw [hsz]; show l.length + 1 ≤ 9223372036854775807; omega, fun w G3 cx => ⟨n, _, rfl, R, Φ, inferInstance, cx.left, by
      by_cases he : l = Lib.itoa n
      · rw [decide_eq_true (intB_semi.2 he)]; exact h1 n hn he
      · rw [decide_eq_false fun h => he (intB_semi.1 h)]
        exact h0 (fun m hm e => he (by rw [← hu m hm e]; exact e)) n⟩⟩
  have bad : (∀ n, I64 n → l ≠ Lib.itoa n) → ∀ {w : World} {G2 : List Own}, Ctx W w ((R ++ G) ++ G2) Φ → ∃ n' ok, (Ending.returned (Value.tuple #[.int .i64 0, .bool false])) = .returned (.tuple #[.int .i64 n', .bool ok]) ∧ ∃ R' Φ', Stable Φ' ∧ Ctx W w (R' ++ G) Φ' ∧ K n' ok R' Φ' := fun h {w G2} cx => ⟨0, false, rfl, R, Φ, inferInstance, cx.left, h0 h 0⟩
  refine fun w G2 cx => ⟨l[0]?.getD 0, fun h => ⟨by decide, ?_⟩, ?_⟩
  · have h := of_decide_eq_true h
    rw [hsz] at h
    rw [bs_list, getI, List.getElem?_eq_getElem (by omega)]; rfl
  clear cx
  have hbyte : ∀ {j : Nat}, j < l.length → (bs l).data.toList.get?Internal ((j : Int)).toNat = some (l[j]?.getD 0) ∧ l[j]? = some (l[j]?.getD 0) := fun {j} hj => by
    rw [bs_list, getI, Int.toNat_natCast, List.getElem?_eq_getElem hj]
    exact ⟨rfl, rfl⟩
  refine Br.intro (fun hs => ?_) (fun hs => ?_)
  · rw [Bool.and_eq_true, hsz] at hs
    have h0l := of_decide_eq_true hs.1
    have hc0 := of_decide_eq_true hs.2
    have hf : (1 = 1 ∧ l[0]? = some 45 ∨ 1 = 0 ∧ l[0]? ≠ some 45) := .inl ⟨rfl, by
      rw [List.getElem?_eq_getElem (by omega)] at hc0 ⊢
      congr 1
      apply UInt8.toNat_inj.1
      simp only [Option.getD_some] at hc0
      exact Int.ofNat.inj hc0⟩
    refine exI_mk (fun acc jI R' Φ' k => ∃ j : Nat, jI = j ∧ BackI l 1 j acc ∧ R' = R ++ G ∧ Φ' = Φ ∧ k = l.length - j) ⟨⟨_, _, _, inferInstance, fun w G cx => cx, 1, rfl, backI0 (by omega), rfl, rfl, rfl⟩, ?_⟩
    rintro acc jI R1 Φ1 k _ ⟨j, rfl, hB, rfl, rfl, rfl⟩
    rw [hsz]
    refine Br.intro (fun hlt => fun w G2 cx => ?_) (fun hge => fun w G2 cx => ?_)
    · have hlt : j < l.length := by have := of_decide_eq_true hlt; omega
      obtain ⟨hb1, hb2⟩ := hbyte hlt
      refine ⟨_, ⟨by omega, hb1⟩, _, fun _ => ⟨by omega, hb1⟩, Br.intro (fun h => fun w G2 cx => bad (fun n hn e => ?_) cx) (fun h => ⟨_, ⟨by omega, hb1⟩, by unfold I64; omega, _, _, l.length - (j + 1), inferInstance, fun w G cx => cx, ⟨j + 1, by omega, backI_step hf hB hb2, rfl, rfl, rfl⟩, by omega⟩)⟩
      obtain ⟨⟨g1, g2⟩, g3⟩ := back_dig hf hB.1 hb2 hn e
      rw [decide_eq_false (by omega), decide_eq_false (by omega), decide_eq_false (by omega)] at h
      cases h
    · have hge := of_decide_eq_false hge
      exact body 1 hf acc hB.2.2.1 (fun m hm e => by have := backI_end hf hB (by omega) hm e; rw [if_pos rfl] at this; exact this) cx
  · have hf : (0 = 1 ∧ l[0]? = some 45 ∨ 0 = 0 ∧ l[0]? ≠ some 45) := .inr ⟨rfl, fun e => by
      have h0l := (List.getElem?_eq_some_iff.1 e).1
      rw [hsz, e, decide_eq_true (by omega), decide_eq_true (by rfl)] at hs
      cases hs⟩
    refine exI_mk (fun acc jI R' Φ' k => ∃ j : Nat, jI = j ∧ BackI l 0 j acc ∧ R' = R ++ G ∧ Φ' = Φ ∧ k = l.length - j) ⟨⟨_, _, _, inferInstance, fun w G cx => cx, 0, rfl, backI0 (Nat.zero_le _), rfl, rfl, rfl⟩, ?_⟩
    rintro acc jI R1 Φ1 k _ ⟨j, rfl, hB, rfl, rfl, rfl⟩
    rw [hsz]
    refine Br.intro (fun hlt => fun w G2 cx => ?_) (fun hge => ?_)
    · have hlt : j < l.length := by have := of_decide_eq_true hlt; omega
      obtain ⟨hb1, hb2⟩ := hbyte hlt
      refine ⟨_, ⟨by omega, hb1⟩, _, fun _ => ⟨by omega, hb1⟩, Br.intro (fun h => fun w G2 cx => bad (fun n hn e => ?_) cx) (fun h => ⟨_, ⟨by omega, hb1⟩, by unfold I64; omega, _, _, l.length - (j + 1), inferInstance, fun w G cx => cx, ⟨j + 1, by omega, backI_step hf hB hb2, rfl, rfl, rfl⟩, by omega⟩)⟩
      obtain ⟨⟨g1, g2⟩, g3⟩ := back_dig hf hB.1 hb2 hn e
      rw [decide_eq_false (by omega), decide_eq_false (by omega), decide_eq_false (by omega)] at h
      cases h
    · have hge := of_decide_eq_false hge
      exact fun w G2 cx => body 0 hf (IntKind.i64.wrap (0 - acc)) (wrap_i64 _) (fun m hm e => by have := backI_end hf hB (by omega) hm e; rw [if_neg (by decide)] at this; exact this) cx
end
end Go.Proofs.YtfpgbejdlikpgaaDoor
end

/-
  The reference's reader of encodings: numbers and strings, walked.
-/
section
set_option linter.unusedVariables false
set_option linter.unusedSimpArgs false
namespace Go.Proofs.YtfpgbejdlikpgaaDoor
open Go.Vc


/-! ### plain -/
def minZ64 : Int := -9223372036854775808
theorem e_chars {e : UInt8} (he : e.toNat = 58 ∨ e.toNat = 59 ∨ e.toNat = 91) {n : Int} : e ∉ Lib.itoa n := fun h => by have := itoa_chars h; omega
theorem ahead_none {e : UInt8} (he : e.toNat = 58 ∨ e.toNat = 59 ∨ e.toNat = 91) {l : List UInt8} {j : Nat} (h1 : e ∉ l.take j) (h2 : l.length ≤ j ∨ 21 ≤ j) : numP e minZ64 l = none := by
  cases hn : numP e minZ64 l with
  | none => rfl
  | some x =>
    obtain ⟨n, r⟩ := x
    obtain ⟨⟨g1, _⟩, g2⟩ := (numP_iff he).1 hn
    have hl := (itoa_len g1).2
    refine absurd ?_ h1
    rw [g2]
    refine List.mem_of_getElem? (i := (Lib.itoa n).length) ?_
    have hlt : (Lib.itoa n).length < j := by
      rcases h2 with h2 | h2
      · rw [g2, List.length_append, List.length_cons] at h2; omega
      · omega
    rw [List.getElem?_take_of_lt hlt, List.getElem?_append_right (Nat.le_refl _), Nat.sub_self]
    rfl
theorem ahead_some {e : UInt8} (he : e.toNat = 58 ∨ e.toNat = 59 ∨ e.toNat = 91) {l : List UInt8} {j : Nat} (hj : l[j]? = some e) {n : Int} (hn : I64 n) (h : l.take j = Lib.itoa n) : numP e minZ64 l = some (n, l.drop (j + 1)) := by
  refine (numP_iff he).2 ⟨⟨hn, hn.1⟩, ?_⟩
  obtain ⟨hl, he2⟩ := List.getElem?_eq_some_iff.1 hj
  rw [← h, ← he2, ← List.drop_eq_getElem_cons hl, List.take_append_drop]
theorem ahead_bad {e : UInt8} (he : e.toNat = 58 ∨ e.toNat = 59 ∨ e.toNat = 91) {l : List UInt8} {j : Nat} (h1 : e ∉ l.take j) (hj : l[j]? = some e) (h : ∀ n, I64 n → l.take j ≠ Lib.itoa n) : numP e minZ64 l = none := by
  cases hn : numP e minZ64 l with
  | none => rfl
  | some x =>
    obtain ⟨n, r⟩ := x
    obtain ⟨⟨g1, _⟩, g2⟩ := (numP_iff he).1 hn
    refine absurd ?_ (h n g1)
    have hjl := (List.getElem?_eq_some_iff.1 hj).1
    rcases Nat.lt_trichotomy j (Lib.itoa n).length with hlt | heq | hgt
    · rw [g2, List.getElem?_append_left hlt] at hj
      exact absurd (List.mem_of_getElem? hj) (e_chars he)
    · rw [g2, heq, List.take_left]
    · refine absurd ?_ h1
      rw [g2]
      refine List.mem_of_getElem? (i := (Lib.itoa n).length) ?_
      rw [List.getElem?_take_of_lt hgt, List.getElem?_append_right (Nat.le_refl _), Nat.sub_self]
      rfl
theorem numP_zero {e : UInt8} (he : e.toNat = 58 ∨ e.toNat = 59 ∨ e.toNat = 91) (l : List UInt8) : numP e 0 l = (numP e minZ64 l).bind fun x => if x.1 < 0 then none else some x := by
  cases hn : numP e minZ64 l with
  | none =>
    cases h0 : numP e 0 l with
    | none => rfl
    | some x =>
      obtain ⟨n, r⟩ := x
      obtain ⟨⟨g1, g2⟩, g3⟩ := (numP_iff he).1 h0
      have := (numP_iff he (least := minZ64)).2 ⟨⟨g1, g1.1⟩, g3⟩
      rw [hn] at this
      cases this
  | some x =>
    obtain ⟨n, r⟩ := x
    obtain ⟨⟨g1, _⟩, g3⟩ := (numP_iff he).1 hn
    simp only [Option.bind_some]
    split
    · rename_i hneg
      cases h0 : numP e 0 l with
      | none => rfl
      | some y =>
        obtain ⟨m, q⟩ := y
        obtain ⟨⟨k1, k2⟩, k3⟩ := (numP_iff he).1 h0
        have := (numP_iff he (least := minZ64)).2 ⟨⟨k1, k1.1⟩, k3⟩
        rw [hn] at this
        cases this
        omega
    · exact (numP_iff he).2 ⟨⟨g1, by omega⟩, g3⟩
theorem stepN_zero {e : UInt8} (he : e.toNat = 58 ∨ e.toNat = 59 ∨ e.toNat = 91) (st : RdS) : stepN e 0 st = if (stepN e minZ64 st).1 < 0 then (0, ([], true)) else stepN e minZ64 st := by
  unfold stepN
  rw [numP_zero he]
  cases hn : numP e minZ64 st.1 with
  | none => simp
  | some x =>
    obtain ⟨n, r⟩ := x
    simp only [Option.bind_some]
    by_cases h : n < 0
    · rw [if_pos h, if_pos h]
    · rw [if_neg h, if_neg h]
section
variable {W w : World} {R G S : List Own} {Φ : PW} {b : Nat} {st : RdS}

/-! ### walked -/
abbrev rq (b : Nat) (st : RdS) : Own := .blk b [.string (bs st.1), .bool st.2] 77

theorem Open01_to [Stable Φ] (l : List UInt8) (c : Ctx W w (S ++ G) Φ) {K : Option Addr → List Own → PW → Prop} (hk : ∀ b, K (some ⟨b, 0, none⟩) (rq b (l, false) :: S) Φ) :
    Calls Tryd.prog F.errataref01_Open #[.string (bs l)] w fun e w' => ∃ p, e = .returned (.pointer p) ∧ ∃ R' Φ', Stable Φ' ∧ Ctx W w' (R' ++ G) Φ' ∧ K p R' Φ' := by
  refine (Berrataref01_Open_run (bs l) (J := fun u w' => ∃ p, (Ending.returned u) = .returned (.pointer p) ∧ ∃ R' Φ', Stable Φ' ∧ Ctx W w' (R' ++ G) Φ' ∧ K p R' Φ') c ?_).mono fun e w' ⟨v, he, hj⟩ => by rw [he]; exact hj
  exact fun b w G2 cx => ⟨_, rfl, rq b (l, false) :: S, Φ, inferInstance, Ctx.left (S := rq b (l, false) :: (S ++ G)) cx, hk b⟩
theorem fail01_to [Stable Φ] (c : Ctx W w (rq b st :: S ++ G) Φ) {K : Int → List Own → PW → Prop} (hk : K 0 (rq b ([], true) :: S) Φ) :
    Calls Tryd.prog F.errataref01_Reader_fail #[.pointer (some ⟨b, 0, none⟩)] w fun e w' => ∃ n, e = .returned (.int .i64 n) ∧ ∃ R' Φ', Stable Φ' ∧ Ctx W w' (R' ++ G) Φ' ∧ K n R' Φ' := by
  refine (Berrataref01_Reader_fail_run b 0 (J := fun u w' => ∃ n, (Ending.returned u) = .returned (.int .i64 n) ∧ ∃ R' Φ', Stable Φ' ∧ Ctx W w' (R' ++ G) Φ' ∧ K n R' Φ') (R := rq b st :: (S ++ G)) c ?_).mono fun e w' ⟨v, he, hj⟩ => by rw [he]; exact hj
  refine fun w G2 cx => ⟨cx.can 0 rfl (by simp), fun w' hw' => ⟨.blk b [.string (bs []), .bool st.2] 77 :: (S ++ G), Φ, inferInstance, cx.put 0 hw' rfl, fun w G2 cx => ⟨cx.can 0 rfl (by simp), fun w' hw' => ⟨rq b ([], true) :: (S ++ G), Φ, inferInstance, cx.put 0 hw' rfl, fun w G2 cx => ⟨0, rfl, rq b ([], true) :: S, Φ, inferInstance, cx.left, hk⟩⟩⟩⟩⟩

set_option maxHeartbeats 1000000 in
theorem ahead_to [Stable Φ] {e : Int} (he : e = 58 ∨ e = 59 ∨ e = 91) (hl : st.1.length ≤ 1000000000) (c : Ctx W w (rq b st :: S ++ G) Φ) {K : Int → List Own → PW → Prop}
    (hk : K (stepN e.toNat.toUInt8 minZ64 st).1 (rq b (stepN e.toNat.toUInt8 minZ64 st).2 :: S) Φ) :
    Calls Tryd.prog F.errataref01_Reader_ahead #[.pointer (some ⟨b, 0, none⟩), .int .u8 e] w fun e w' => ∃ n, e = .returned (.int .i64 n) ∧ ∃ R' Φ', Stable Φ' ∧ Ctx W w' (R' ++ G) Φ' ∧ K n R' Φ' := by
  refine (Berrataref01_Reader_ahead_run b 0 e (J := fun u w' => ∃ n, (Ending.returned u) = .returned (.int .i64 n) ∧ ∃ R' Φ', Stable Φ' ∧ Ctx W w' (R' ++ G) Φ' ∧ K n R' Φ') (R := rq b st :: (S ++ G)) c ?_).mono fun e w' ⟨v, he, hj⟩ => by rw [he]; exact hj
  clear c
  obtain ⟨l, bad⟩ := st
  have hl : l.length ≤ 1000000000 := hl
  obtain ⟨c, hc⟩ : ∃ c : UInt8, e.toNat.toUInt8 = c := ⟨_, rfl⟩
  have hce : (c.toNat : Int) = e ∧ (c.toNat = 58 ∨ c.toNat = 59 ∨ c.toNat = 91) := by
    rcases he with rfl | rfl | rfl <;> subst hc <;> decide
  obtain ⟨hce, hc3⟩ := hce
  rw [hc] at hk
  have hsz : (bs l).size = l.length := bs_size l
  have none_ : numP c minZ64 l = none → ∀ {w : World} {G2 : List Own}, Ctx W w (rq b (l, bad) :: (S ++ G) ++ G2) Φ → Calls Tryd.prog F.errataref01_Reader_fail #[.pointer (some ⟨b, 0, none⟩)] w fun e25 w26 => ∃ n27, e25 = .returned (.int .i64 n27) ∧ ∃ R28 Φ29, Stable Φ29 ∧ Ctx W w26 (R28 ++ G2) Φ29 ∧ ∀ (w30 : World) (R31 : List Own), Ctx W w30 (R28 ++ R31) Φ29 → ∃ n, (Ending.returned (Value.int .i64 n27)) = .returned (.int .i64 n) ∧ ∃ R' Φ', Stable Φ' ∧ Ctx W w30 (R' ++ G) Φ' ∧ K n R' Φ' := fun h {w G2} cx => by
    rw [stepN_none h] at hk
    exact fail01_to (S := S ++ G) (G := G2) cx fun w G3 cx => ⟨0, rfl, rq b ([], true) :: S, Φ, inferInstance, Ctx.left (S := rq b ([], true) :: (S ++ G)) cx, hk⟩
  refine exI_mk (fun jI R' Φ' k => ∃ j : Nat, jI = j ∧ j ≤ l.length ∧ j ≤ 21 ∧ c ∉ l.take j ∧ R' = rq b (l, bad) :: (S ++ G) ∧ Φ' = Φ ∧ k = l.length - j) ⟨⟨_, _, _, inferInstance, fun w G cx => cx, 0, rfl, Nat.zero_le _, by omega, by simp, rfl, rfl, rfl⟩, ?_⟩
  rintro jI R1 Φ1 k _ ⟨j, rfl, hj, hj21, hn, rfl, rfl, rfl⟩
  have cell : ∀ {w : World} {G2 : List Own}, Ctx W w (rq b (l, bad) :: (S ++ G) ++ G2) Φ1 → w.cell? ⟨b, 0, none⟩ = some (.string (bs l)) := fun cx => cx.get 0 rfl rfl
  have hbyte : ∀ {i : Nat}, i < l.length → (bs l).data.toList.get?Internal ((i : Int)).toNat = some (l[i]?.getD 0) ∧ l[i]? = some (l[i]?.getD 0) := fun {i} hi => by
    rw [bs_list, getI, Int.toNat_natCast, List.getElem?_eq_getElem hi]
    exact ⟨rfl, rfl⟩
  refine fun w G2 cx => ⟨bs l, cell cx, bs l, fun _ => cell cx, l[j]?.getD 0, fun h => ?_, ?_⟩
  · rw [Bool.and_eq_true, hsz] at h
    have h := of_decide_eq_true h.1
    exact ⟨by omega, (hbyte (by omega)).1⟩
  clear cx
  rw [hsz]
  refine Br.intro (fun h => ?_) (fun h => fun w G2 cx => ⟨bs l, cell cx, ?_⟩)
  · rw [Bool.and_eq_true, Bool.and_eq_true] at h
    have h1 := of_decide_eq_true h.1.1
    have h2 := of_decide_eq_true h.1.2
    have h3 := of_decide_eq_true h.2
    have hjl : j < l.length := by omega
    refine ⟨by unfold I64; omega, _, _, l.length - (j + 1), inferInstance, fun w G cx => cx, ⟨j + 1, by omega, hjl, by omega, fun hm => ?_, rfl, rfl, rfl⟩, by omega⟩
    rw [List.take_succ_eq_append_getElem hjl] at hm
    rcases List.mem_append.1 hm with hm | hm
    · exact hn hm
    · rw [List.getElem?_eq_getElem hjl] at h3
      rw [← List.mem_singleton.1 hm] at h3
      exact h3 (by simpa using hce)
  · clear cx
    rw [hsz]
    refine Br.intro (fun h1 => fun w G2 cx => none_ (ahead_none hc3 hn (.inl (by have := of_decide_eq_true h1; omega))) cx) (fun h1 => fun w G2 cx => ⟨bs l, cell cx, ?_⟩)
    clear cx
    have hjl : j < l.length := by have := of_decide_eq_false h1; omega
    obtain ⟨hb1, hb2⟩ := hbyte hjl
    refine ⟨_, ⟨by omega, hb1⟩, Br.intro (fun h2 => fun w G2 cx => none_ (ahead_none hc3 hn (.inr ?_)) cx) (fun h2 => fun w G2 cx => ⟨bs l, cell cx, ⟨by omega, by rw [hsz]; omega⟩, fun w G2 cx => ?_⟩)⟩
    · rw [Bool.and_eq_false_iff, Bool.and_eq_false_iff] at h
      rcases h with (h | h) | h
      · have := of_decide_eq_false h; omega
      · have := of_decide_eq_false h; omega
      · exact absurd (of_decide_eq_true h2) (of_decide_eq_false h)
    · have h2 : ((l[j]?.getD 0).toNat : Int) = e := Decidable.not_not.1 (of_decide_eq_false h2)
      have hje : l[j]? = some c := by
        rw [hb2]
        congr 1
        apply UInt8.toNat_inj.1
        omega
      rw [bs_ext, Int.toNat_natCast, List.drop_zero, Nat.sub_zero]
      refine Back_to (R := rq b (l, bad) :: (S ++ G)) (l.take j) (by rw [List.length_take]; omega) cx (fun n hnI hnE => ?_) (fun hbad m => ?_)
      · refine Br.intro (fun h => by cases h) (fun _ => fun w G2 cx => ⟨bs l, cell cx, by unfold I64; omega, ⟨by omega, by rw [hsz]; omega, Nat.le_refl _⟩, fun w G2 cx => ⟨cx.can 0 rfl (by simp), fun w' hw' => ?_⟩⟩)
        rw [stepN_some (ahead_some hc3 hje hnI hnE)] at hk
        have c2 := cx.put 0 hw' rfl
        have e1 : (bs l).extract ((j : Int) + 1).toNat (bs l).size = bs (l.drop (j + 1)) := by
          rw [bs_ext, hsz, show ((j : Int) + 1).toNat = j + 1 by omega, List.take_of_length_le (by rw [List.length_drop]; omega)]
        rw [e1] at c2
        exact ⟨rq b (l.drop (j + 1), bad) :: (S ++ G), Φ1, inferInstance, c2, fun w G2 cx => ⟨n, rfl, rq b (l.drop (j + 1), bad) :: S, Φ1, inferInstance, Ctx.left (S := rq b (l.drop (j + 1), bad) :: (S ++ G)) cx, hk⟩⟩
      · exact Br.intro (fun _ => fun w G2 cx => none_ (ahead_bad hc3 hn hje hbad) cx) (fun h => by cases h)

theorem number01_to [Stable Φ] {e : Int} (he : e = 58 ∨ e = 59 ∨ e = 91) (hl : st.1.length ≤ 1000000000) (c : Ctx W w (rq b st :: S ++ G) Φ) {K : Int → List Own → PW → Prop}
    (hk : K (stepN e.toNat.toUInt8 0 st).1 (rq b (stepN e.toNat.toUInt8 0 st).2 :: S) Φ) :
    Calls Tryd.prog F.errataref01_Reader_number #[.pointer (some ⟨b, 0, none⟩), .int .u8 e] w fun e w' => ∃ n, e = .returned (.int .i64 n) ∧ ∃ R' Φ', Stable Φ' ∧ Ctx W w' (R' ++ G) Φ' ∧ K n R' Φ' := by
  refine (Berrataref01_Reader_number_run b 0 e (J := fun u w' => ∃ n, (Ending.returned u) = .returned (.int .i64 n) ∧ ∃ R' Φ', Stable Φ' ∧ Ctx W w' (R' ++ G) Φ' ∧ K n R' Φ') (R := rq b st :: (S ++ G)) c ?_).mono fun e w' ⟨v, he, hj⟩ => by rw [he]; exact hj
  clear c
  have hc3 : (e.toNat.toUInt8).toNat = 58 ∨ (e.toNat.toUInt8).toNat = 59 ∨ (e.toNat.toUInt8).toNat = 91 := by rcases he with rfl | rfl | rfl <;> decide
  rw [stepN_zero hc3] at hk
  refine fun w G2 cx => ahead_to (S := S ++ G) he hl cx ?_
  clear cx
  refine Br.intro (fun h => fun w G2 cx => ?_) (fun h => fun w G2 cx => ?_)
  · rw [if_pos (of_decide_eq_true h)] at hk
    exact fail01_to (S := S ++ G) cx fun w G2 cx => ⟨0, rfl, rq b ([], true) :: S, Φ, inferInstance, Ctx.left (S := rq b ([], true) :: (S ++ G)) cx, hk⟩
  · rw [if_neg (of_decide_eq_false h)] at hk
    exact ⟨_, rfl, rq b (stepN e.toNat.toUInt8 minZ64 st).2 :: S, Φ, inferInstance, Ctx.left (S := rq b (stepN e.toNat.toUInt8 minZ64 st).2 :: (S ++ G)) cx, hk⟩
theorem Int01r_to [Stable Φ] (hl : st.1.length ≤ 1000000000) (c : Ctx W w (rq b st :: S ++ G) Φ) {K : Int → List Own → PW → Prop} (hk : K (rdInt st).1 (rq b (rdInt st).2 :: S) Φ) :
    Calls Tryd.prog F.errataref01_Reader_Int #[.pointer (some ⟨b, 0, none⟩)] w fun e w' => ∃ n, e = .returned (.int .i64 n) ∧ ∃ R' Φ', Stable Φ' ∧ Ctx W w' (R' ++ G) Φ' ∧ K n R' Φ' := by
  refine (Berrataref01_Reader_Int_run b 0 (J := fun u w' => ∃ n, (Ending.returned u) = .returned (.int .i64 n) ∧ ∃ R' Φ', Stable Φ' ∧ Ctx W w' (R' ++ G) Φ' ∧ K n R' Φ') (R := rq b st :: (S ++ G)) c ?_).mono fun e w' ⟨v, he, hj⟩ => by rw [he]; exact hj
  exact fun w G2 cx => ahead_to (S := S ++ G) (.inr (.inl rfl)) hl cx fun w G2 cx => ⟨_, rfl, rq b (rdInt st).2 :: S, Φ, inferInstance, Ctx.left (S := rq b (rdInt st).2 :: (S ++ G)) cx, hk⟩
theorem Num01r_to [Stable Φ] (hl : st.1.length ≤ 1000000000) (c : Ctx W w (rq b st :: S ++ G) Φ) {K : Int → List Own → PW → Prop} (hk : K (rdNat st).1 (rq b (rdNat st).2 :: S) Φ) :
    Calls Tryd.prog F.errataref01_Reader_Num #[.pointer (some ⟨b, 0, none⟩)] w fun e w' => ∃ n, e = .returned (.int .i64 n) ∧ ∃ R' Φ', Stable Φ' ∧ Ctx W w' (R' ++ G) Φ' ∧ K n R' Φ' := by
  refine (Berrataref01_Reader_Num_run b 0 (J := fun u w' => ∃ n, (Ending.returned u) = .returned (.int .i64 n) ∧ ∃ R' Φ', Stable Φ' ∧ Ctx W w' (R' ++ G) Φ' ∧ K n R' Φ') (R := rq b st :: (S ++ G)) c ?_).mono fun e w' ⟨v, he, hj⟩ => by rw [he]; exact hj
  exact fun w G2 cx => number01_to (S := S ++ G) (.inr (.inl rfl)) hl cx fun w G2 cx => ⟨_, rfl, rq b (rdNat st).2 :: S, Φ, inferInstance, Ctx.left (S := rq b (rdNat st).2 :: (S ++ G)) cx, hk⟩
theorem Left01_to [Stable Φ] (c : Ctx W w (rq b st :: S ++ G) Φ) {K : Int → List Own → PW → Prop} (hk : K st.1.length (rq b st :: S) Φ) :
    Calls Tryd.prog F.errataref01_Reader_Left #[.pointer (some ⟨b, 0, none⟩)] w fun e w' => ∃ n, e = .returned (.int .i64 n) ∧ ∃ R' Φ', Stable Φ' ∧ Ctx W w' (R' ++ G) Φ' ∧ K n R' Φ' := by
  refine (Berrataref01_Reader_Left_run b 0 (J := fun u w' => ∃ n, (Ending.returned u) = .returned (.int .i64 n) ∧ ∃ R' Φ', Stable Φ' ∧ Ctx W w' (R' ++ G) Φ' ∧ K n R' Φ') (R := rq b st :: (S ++ G)) c ?_).mono fun e w' ⟨v, he, hj⟩ => by rw [he]; exact hj
  exact fun w F1 cx => ⟨bs st.1, cx.get 0 rfl rfl, fun w F1 cx => ⟨st.1.length, by rw [bs_size], rq b st :: S, Φ, inferInstance, cx.left, hk⟩⟩
theorem bs_nil {l : List UInt8} : (bs l = ByteArray.mk #[]) ↔ l = [] := by
  constructor
  · intro h
    have := congrArg (fun x => x.data.toList) h
    exact this
  · intro h; rw [h]; rfl
theorem Done01_to [Stable Φ] (c : Ctx W w (rq b st :: S ++ G) Φ) {K : Bool → List Own → PW → Prop} (hk : K (rdDone st) (rq b st :: S) Φ) :
    Calls Tryd.prog F.errataref01_Reader_Done #[.pointer (some ⟨b, 0, none⟩)] w fun e w' => ∃ c, e = .returned (.bool c) ∧ ∃ R' Φ', Stable Φ' ∧ Ctx W w' (R' ++ G) Φ' ∧ K c R' Φ' := by
  refine (Berrataref01_Reader_Done_run b 0 (J := fun u w' => ∃ c, (Ending.returned u) = .returned (.bool c) ∧ ∃ R' Φ', Stable Φ' ∧ Ctx W w' (R' ++ G) Φ' ∧ K c R' Φ') (R := rq b st :: (S ++ G)) c ?_).mono fun e w' ⟨v, he, hj⟩ => by rw [he]; exact hj
  refine fun w F1 cx => ⟨st.2, cx.get 0 rfl rfl, bs st.1, fun _ => cx.get 0 rfl rfl, fun w F1 cx => ⟨rdDone st, ?_, rq b st :: S, Φ, inferInstance, cx.left, hk⟩⟩
  unfold rdDone
  rw [decide_eq_decide.2 (bs_nil (l := st.1))]
theorem close01_to [Stable Φ] {e : Int} (he : 0 ≤ e ∧ e ≤ 255) (hok : RdOk st) (c : Ctx W w (rq b st :: S ++ G) Φ) {K : Bool → List Own → PW → Prop}
    (hk : K (!(stepC e.toNat.toUInt8 st).2) (rq b (stepC e.toNat.toUInt8 st) :: S) Φ) :
    Calls Tryd.prog F.errataref01_Reader_close #[.pointer (some ⟨b, 0, none⟩), .int .u8 e] w fun e w' => ∃ c, e = .returned (.bool c) ∧ ∃ R' Φ', Stable Φ' ∧ Ctx W w' (R' ++ G) Φ' ∧ K c R' Φ' := by
  refine (Berrataref01_Reader_close_run b 0 e (J := fun u w' => ∃ c, (Ending.returned u) = .returned (.bool c) ∧ ∃ R' Φ', Stable Φ' ∧ Ctx W w' (R' ++ G) Φ' ∧ K c R' Φ') (R := rq b st :: (S ++ G)) c ?_).mono fun e w' ⟨v, he, hj⟩ => by rw [he]; exact hj
  clear c
  obtain ⟨l, bad⟩ := st
  obtain ⟨c, hc⟩ : ∃ c : UInt8, e.toNat.toUInt8 = c := ⟨_, rfl⟩
  have hce : (c.toNat : Int) = e := by
    subst hc
    have : e.toNat.toUInt8.toNat = e.toNat % 256 := by simp [Nat.toUInt8]
    omega
  rw [hc] at hk
  have hsz : (bs l).size = l.length := bs_size l
  have cell : ∀ {w : World} {G2 : List Own}, Ctx W w (rq b (l, bad) :: (S ++ G) ++ G2) Φ → w.cell? ⟨b, 0, none⟩ = some (.string (bs l)) := fun cx => cx.get 0 rfl rfl
  have none_ : stepC c (l, bad) = ([], true) → ∀ {w : World} {G2 : List Own}, Ctx W w (rq b (l, bad) :: (S ++ G) ++ G2) Φ → Calls Tryd.prog F.errataref01_Reader_fail #[.pointer (some ⟨b, 0, none⟩)] w fun e25 w26 => ∃ n27, e25 = .returned (.int .i64 n27) ∧ ∃ R28 Φ29, Stable Φ29 ∧ Ctx W w26 (R28 ++ G2) Φ29 ∧ ∀ (w30 : World) (R31 : List Own), Ctx W w30 (R28 ++ R31) Φ29 → ∃ c, (Ending.returned (Value.bool false)) = .returned (.bool c) ∧ ∃ R' Φ', Stable Φ' ∧ Ctx W w30 (R' ++ G) Φ' ∧ K c R' Φ' := fun h {w G2} cx => by
    rw [h] at hk
    exact fail01_to (S := S ++ G) (G := G2) cx fun w G3 cx => ⟨false, rfl, rq b ([], true) :: S, Φ, inferInstance, Ctx.left (S := rq b ([], true) :: (S ++ G)) cx, hk⟩
  refine fun w G2 cx => ⟨bs l, cell cx, ?_⟩
  clear cx
  rw [hsz]
  cases l with
  | nil => exact Br.intro (fun _ => fun w G2 cx => none_ rfl cx) (fun h => absurd rfl (of_decide_eq_false h))
  | cons x r =>
    refine Br.intro (fun h => by have := of_decide_eq_true h; rw [List.length_cons] at this; omega) (fun _ => fun w G2 cx => ⟨_, cell cx, x, ⟨by decide, rfl⟩, ?_⟩)
    clear cx
    refine Br.intro (fun h => fun w G2 cx => none_ (by unfold stepC; simp only; rw [if_neg fun e => of_decide_eq_true h (by rw [e]; exact hce)]) cx) (fun h => fun w G2 cx => ⟨_, cell cx, ⟨by decide, by rw [hsz, List.length_cons]; omega, Nat.le_refl _⟩, fun w G2 cx => ⟨cx.can 0 rfl (by simp), fun w' hw' => ?_⟩⟩)
    have hxc : x = c := by
      have := Decidable.not_not.1 (of_decide_eq_false h)
      apply UInt8.toNat_inj.1
      omega
    have hst : stepC c (x :: r, bad) = (r, bad) := by unfold stepC; simp only; rw [if_pos hxc]
    rw [hst] at hk
    have hbad : bad = false := by
      cases hb : bad with
      | false => rfl
      | true => have := hok hb; cases this
    have c2 := cx.put 0 hw' rfl
    have e1 : (bs (x :: r)).extract 1 (bs (x :: r)).size = bs r := by
      rw [bs_ext, hsz, List.drop_succ_cons, List.drop_zero, List.length_cons, List.take_of_length_le (by omega)]
    rw [e1] at c2
    rw [hbad] at hk c2
    exact ⟨rq b (r, false) :: (S ++ G), Φ, inferInstance, c2, fun w G2 cx => ⟨true, rfl, rq b (r, false) :: S, Φ, inferInstance, Ctx.left (S := rq b (r, false) :: (S ++ G)) cx, hk⟩⟩
theorem stepT_bad {st : RdS} (h : RdOk (stepN 58 0 st).2) (hb : (stepN 58 0 st).2.2 = true ∨ ((stepN 58 0 st).2.1.length : Int) ≤ (stepN 58 0 st).1) : stepT st = (ByteArray.mk #[], ([], true)) := by
  unfold stepT
  simp only
  have hn := stepN_nonneg (e := 58) (.inl rfl) st
  split
  · rfl
  · rename_i hlt
    have hd : (stepN 58 0 st).2.1.drop (stepN 58 0 st).1.toNat = [] := by
      rcases hb with hb | hb
      · rw [h hb, List.drop_nil]
      · exact List.drop_of_length_le (by omega)
    rw [hd]
    rfl
set_option maxHeartbeats 1000000 in
theorem Text01r_to [Stable Φ] (hok : RdOk st) (hl : st.1.length ≤ 1000000000) (c : Ctx W w (rq b st :: S ++ G) Φ) {K : ByteArray → List Own → PW → Prop} (hk : K (stepT st).1 (rq b (stepT st).2 :: S) Φ) :
    Calls Tryd.prog F.errataref01_Reader_Text #[.pointer (some ⟨b, 0, none⟩)] w fun e w' => ∃ s, e = .returned (.string s) ∧ ∃ R' Φ', Stable Φ' ∧ Ctx W w' (R' ++ G) Φ' ∧ K s R' Φ' := by
  refine (Berrataref01_Reader_Text_run b 0 (J := fun u w' => ∃ s, (Ending.returned u) = .returned (.string s) ∧ ∃ R' Φ', Stable Φ' ∧ Ctx W w' (R' ++ G) Φ' ∧ K s R' Φ') (R := rq b st :: (S ++ G)) c ?_).mono fun e w' ⟨v, he, hj⟩ => by rw [he]; exact hj
  clear c
  refine fun w G2 cx => number01_to (S := S ++ G) (.inl rfl) hl cx ?_
  clear cx
  rw [show ((58 : Int).toNat.toUInt8) = (58 : UInt8) from rfl]
  have hok1 := stepN_ok (e := 58) (least := 0) hok
  have hbd := stepT_bad (st := st) hok1
  have hn := stepN_nonneg (e := 58) (.inl rfl) st
  have hlen := stepN_len 58 0 st
  have hT : stepT st = if ((stepN 58 0 st).2.1.length : Int) < (stepN 58 0 st).1 then (ByteArray.mk #[], ([], true)) else (if (stepC 44 ((stepN 58 0 st).2.1.drop (stepN 58 0 st).1.toNat, (stepN 58 0 st).2.2)).2 then ByteArray.mk #[] else bs ((stepN 58 0 st).2.1.take (stepN 58 0 st).1.toNat), stepC 44 ((stepN 58 0 st).2.1.drop (stepN 58 0 st).1.toNat, (stepN 58 0 st).2.2)) := rfl
  obtain ⟨⟨n, l, bad⟩, ha⟩ : ∃ a, stepN 58 0 st = a := ⟨_, rfl⟩
  rw [ha] at hok1 hbd hn hlen hT ⊢
  simp only at hok1 hbd hn hlen hT ⊢
  have hsz : (bs l).size = l.length := bs_size l
  have cell : ∀ {w : World} {G2 : List Own}, Ctx W w (rq b (l, bad) :: (S ++ G) ++ G2) Φ → w.cell? ⟨b, 0, none⟩ = some (.string (bs l)) := fun cx => cx.get 0 rfl rfl
  refine fun w G2 cx => ⟨bad, cx.get 0 rfl rfl, bs l, fun _ => cell cx, ?_⟩
  clear cx
  rw [hsz]
  refine Br.intro (fun h => fun w G2 cx => fail01_to (S := S ++ G) cx fun w G2 cx => ?_) (fun h => fun w G2 cx => ⟨bs l, cell cx, ?_, fun w G2 cx => ⟨bs l, cell cx, ?_, fun w G2 cx => ⟨cx.can 0 rfl (by simp), fun w' hw' => ?_⟩⟩⟩)
  · rw [Bool.or_eq_true] at h
    rw [hbd (h.elim .inl fun h => .inr (of_decide_eq_true h))] at hk
    exact ⟨_, rfl, rq b ([], true) :: S, Φ, inferInstance, Ctx.left (S := rq b ([], true) :: (S ++ G)) cx, hk⟩
  all_goals rw [Bool.or_eq_false_iff] at h
  all_goals have h1 := of_decide_eq_false h.2
  · rw [hsz]; omega
  · rw [hsz]; exact ⟨by omega, by omega, Nat.le_refl _⟩
  · have c2 := cx.put 0 hw' rfl
    have e1 : (bs l).extract n.toNat (bs l).size = bs (l.drop n.toNat) := by
      rw [bs_ext, hsz, List.take_of_length_le (by rw [List.length_drop]; omega)]
    rw [e1] at c2
    have hok2 : RdOk (l.drop n.toNat, bad) := fun hb => by
      have : bad = true := hb
      rw [h.1] at this; cases this
    rw [if_neg (by omega)] at hT
    rw [hT] at hk
    refine ⟨rq b (l.drop n.toNat, bad) :: (S ++ G), Φ, inferInstance, c2, fun w G2 cx => close01_to (S := S ++ G) (st := (l.drop n.toNat, bad)) (e := 44) (by decide) hok2 cx ?_⟩
    clear cx c2
    rw [show ((44 : Int).toNat.toUInt8) = (44 : UInt8) from rfl]
    obtain ⟨c, hcq⟩ : ∃ c, stepC 44 (l.drop n.toNat, bad) = c := ⟨_, rfl⟩
    rw [hcq] at hk ⊢
    refine Br.intro (fun h2 => fun w G2 cx => ⟨_, rfl, rq b c :: S, Φ, inferInstance, Ctx.left (S := rq b c :: (S ++ G)) cx, ?_⟩) (fun h2 => fun w G2 cx => ⟨_, rfl, rq b c :: S, Φ, inferInstance, Ctx.left (S := rq b c :: (S ++ G)) cx, ?_⟩)
    · have h2 : c.2 = true := by simpa using h2
      simp only [h2, if_true] at hk
      exact hk
    · have h2 : c.2 = false := by simpa using h2
      have e2 : (bs l).extract 0 n.toNat = bs (l.take n.toNat) := by rw [bs_ext, List.drop_zero, Nat.sub_zero]
      rw [e2]
      simp only [h2] at hk
      exact hk
end
end Go.Proofs.YtfpgbejdlikpgaaDoor
end

/-
  Entries and messages as strings, walked: writing; reading an entry; the reference's comparison.
-/
section
set_option linter.unusedVariables false
set_option linter.unusedSimpArgs false
namespace Go.Proofs.YtfpgbejdlikpgaaDoor
open Go.Vc


theorem bs_cat (a : List UInt8) (b : ByteArray) : bs a ++ b = bs (a ++ b.data.toList) := by
  apply ByteArray.ext
  apply Array.toList_inj.1
  rw [ByteArray.data_append, Array.toList_append]
  rfl
theorem recL_len {x : RecD} (h : I64 x.term) (h2 : x.data.size ≤ 200000000000000) : (recL x).length ≤ x.data.size + 43 := by
  have h1 := intB_size h
  have h3 := textB_size (s := x.data) (by omega)
  unfold recL
  rw [list_size, size_app]
  omega
theorem recsL_len : ∀ {l : List RecD}, (∀ x ∈ l, I64 x.term ∧ x.data.size ≤ 1000000) → (recsL l).length ≤ l.length * 1000043
  | [], _ => by simp [recsL]
  | x :: l, h => by
    have hx := h x (by simp)
    have h1 := recL_len hx.1 (by omega)
    have h2 := recsL_len (l := l) fun y hy => h y (by simp [hy])
    rw [recsL_cons, List.length_append, List.length_cons]
    omega
theorem numsL_len : ∀ {l : List Int}, (∀ n ∈ l, I64 n) → (numsL l).length ≤ l.length * 21
  | [], _ => by simp [numsL]
  | n :: l, h => by
    have h1 := intB_size (h n (by simp))
    have h2 := numsL_len (l := l) fun y hy => h y (by simp [hy])
    rw [numsL_cons, List.length_append, List.length_cons, list_size]
    omega
theorem recsL_pre {l : List RecD} (h : ∀ x ∈ l, I64 x.term ∧ x.data.size ≤ 1000000) (hl : l.length ≤ 1000000) (i : Nat) : (recsL (l.take i)).length ≤ 1000043000000 := by
  have h1 := recsL_len (l := l.take i) fun y hy => h y (List.mem_of_mem_take hy)
  rw [List.length_take] at h1
  omega
theorem headM_len {m : MsgR} (h : MsgW m) (hl : m.recs.length ≤ 1000000) : (headM m).length ≤ 1000 := by
  have h1 := numsL_len h.ints
  have h2 := natB_size (n := m.recs.length) (by unfold I64; omega)
  have e8 : (msgN m).length = 8 := rfl
  unfold headM
  rw [List.length_append, list_size]
  omega

abbrev RecD.v (x : RecD) : Value := .agg #[.int .i64 x.term, .string x.data]
section
variable {Φ : PW}
theorem RecBytes_in [Stable Φ] (hT : ∀ M w, Φ M w → TabI M w) {x : RecD} (h : I64 x.term) (h2 : x.data.size ≤ 200000000000000) : GivesIn Φ Tryd.prog F.replica_RecBytes #[x.v] (.string (bs (recL x))) := by
  have h1 := intB_size h
  have h3 := textB_size (s := x.data) (by omega)
  refine gives_in (Breplica_RecBytes_run x.term x.data) fun W R => fun _ => ⟨[], fun _ _ => True, inferInstance, fun w G cx => (Ctx.right cx).weak fun _ _ _ => trivial, fun w G cx => ?_⟩
  refine (Int_in (.inl ⟨hT, h⟩)).toS cx ⟨fun w G cx => (Ctx.right cx).weak fun _ _ _ => trivial, fun w G cx => (Text_in (.inl ⟨hT, by unfold I64; omega⟩) (by omega)).toS cx ⟨by show (intB x.term).size + (textB x.data).size ≤ _; omega, fun w G cx => ⟨rfl, cx.left⟩⟩⟩
theorem RecBytes08_in [Stable Φ] {x : RecD} (h : I64 x.term) (h2 : x.data.size ≤ 100000000) : GivesIn Φ Tryd.prog F.errataref08_RecBytes #[x.v] (.string (bs (recL x))) := by
  have h1 := intB_size h
  have h3 := textB_size (s := x.data) (by omega)
  refine gives_in (Berrataref08_RecBytes_run x.term x.data) fun W R => fun _ => ⟨[], fun _ _ => True, inferInstance, fun w G cx => (Ctx.right cx).weak fun _ _ _ => trivial, fun w G cx => ?_⟩
  refine ((Int01_g x.term h).in).toS cx ⟨fun w G cx => (Ctx.right cx).weak fun _ _ _ => trivial, fun w G cx => ((Text01_g x.data (by omega)).in).toS cx ⟨by show (intB x.term).size + (textB x.data).size ≤ _; omega, fun w G cx => ⟨rfl, cx.left⟩⟩⟩

/-- what ReadRec returns -/
def resE : Option RecD → Value
  | some x => .tuple #[x.v, .bool true]
  | none => .tuple #[.agg #[.int .i64 0, .string (ByteArray.mk #[])], .bool false]
theorem ReadRec_in [Stable Φ] (hN : ∀ M w, Φ M w → NumI M w) (l : List UInt8) (hl : l.length ≤ 900000000000000) : GivesIn Φ Tryd.prog F.replica_ReadRec #[.string (bs l)] (resE (readE l)) := by
  have h1 : (rdInt (l, false)).2.1.length ≤ l.length := stepN_len 59 (-9223372036854775808) (l, false)
  refine gives_in (Breplica_ReadRec_run (bs l)) fun W R => fun _ w G cx => Open_use l cx fun b w cx => ⟨_, rfl, rd b (l, false) :: R, Φ, inferInstance, cx, fun w G cx => ?_⟩
  refine RInt_to hN (by show l.length ≤ _; omega) cx fun w G cx => Text_to hN (by omega) cx fun _ w G cx => ?_
  have e : (stepT (rdInt (l, false)).2).2 = (recR (l, false)).2 := rfl
  rw [e] at cx
  refine Done_to cx (Br.intro (fun hd => fun w G cx => ⟨?_, (Ctx.drop1 cx).left⟩) (fun hd => fun w G cx => ⟨?_, (Ctx.drop1 cx).left⟩))
  · have hd : rdDone (recR (l, false)).2 = false := by rw [Bool.not_eq_true'] at hd; exact hd
    unfold readE
    rw [if_neg (by rw [hd]; simp)]
    rfl
  · have hd : rdDone (recR (l, false)).2 = true := by rw [Bool.not_eq_false'] at hd; exact hd
    unfold readE
    rw [if_pos hd]
    rfl

set_option maxHeartbeats 1000000 in
theorem Bytes_in [Stable Φ] (hT : ∀ M w, Φ M w → TabI M w) {m : MsgR} {p : Option Addr} {c : Nat} (hΦ : ∀ M w, Φ M w → Sl M w p m.recs) (hm : MsgW m) (hl : m.recs.length ≤ 1000000) : GivesIn Φ Tryd.prog F.replica_Bytes #[m.v p c] (.string (bs (msgL m))) := by
  have hhd := headM_len hm hl
  have hpre := recsL_pre hm.recs hl
  have hn1 := natB_size (n := m.recs.length) (by unfold I64; omega)
  have e8 : (msgN m).length = 8 := rfl
  refine .there (fun M w h => (hΦ M w h).there) fun hth => ?_
  refine gives_in (Breplica_Bytes_run m.kind m.src m.to m.term m.index m.prev m.commit m.yes p m.recs.length c) fun W R => fun _ => Br.intro (fun hy => ?_) (fun hy => ?_)
  all_goals
    refine exI_mk (fun st nI R' Φ' k => ∃ i : Nat, nI = i ∧ i ≤ 8 ∧ st = bs (numsL ((msgN m).take i)) ∧ R' = R ∧ Φ' = Φ ∧ k = 8 - i) ⟨⟨R, Φ, _, inferInstance, fun w G cx => cx, 0, rfl, by omega, rfl, rfl, rfl, rfl⟩, ?_⟩
    rintro st nI R1 Φ1 k _ ⟨i, rfl, hi, rfl, rfl, rfl, rfl⟩
    have hpl := numsL_len (l := (msgN m).take i) fun y hy => hm.ints y (List.mem_of_mem_take hy)
    rw [List.length_take] at hpl
    refine Br.intro (fun hlt => ?_) (fun hge => fun w G cx => ?_)
    · have hlt : i < 8 := by have := of_decide_eq_true hlt; omega
      have hIn : I64 ((msgN m)[i]'(by omega)) := hm.ints _ (List.getElem_mem _)
      have hs1 := intB_size hIn
      have hst : bs (numsL ((msgN m).take i)) ++ intB ((msgN m)[i]'(by omega)) = bs (numsL ((msgN m).take (i + 1))) := by
        rw [bs_cat, List.take_succ_eq_append_getElem (by omega), numsL_app, numsL_one]
      refine ⟨(msgN m)[i]'(by omega), ⟨by omega, by omega, ?_⟩, fun w G cx => (Int_in (.inl ⟨hT, hIn⟩)).toS cx ⟨by show (bs (numsL ((msgN m).take i))).size + (intB ((msgN m)[i]'(by omega))).size ≤ _; rw [bs_size]; omega, by unfold I64; omega, R1, Φ1, 8 - (i + 1), inferInstance, fun w G cx => cx, ⟨i + 1, by omega, by omega, hst, rfl, rfl, rfl⟩, by omega⟩⟩
      have h8 : i = 0 ∨ i = 1 ∨ i = 2 ∨ i = 3 ∨ i = 4 ∨ i = 5 ∨ i = 6 ∨ i = 7 := by omega
      rcases h8 with rfl | rfl | rfl | rfl | rfl | rfl | rfl | rfl <;> first | rfl | (show _ = some (Value.int .i64 (if m.yes = true then 1 else 0)); rw [hy]; rfl)
    · have hge : i = 8 := by have := of_decide_eq_false hge; omega
      subst hge
      have htk : (msgN m).take 8 = msgN m := List.take_of_length_le (by omega)
      rw [htk] at hpl ⊢
      refine (Num_in (.inl ⟨hT, by unfold I64; omega⟩)).toS cx ⟨by show (bs (numsL (msgN m))).size + (natB (m.recs.length : Int)).size ≤ _; rw [bs_size]; omega, ?_⟩
      have eh : bs (numsL (msgN m)) ++ natB (m.recs.length : Int) = bs (headM m ++ recsL (m.recs.take 0)) := by
        rw [bs_cat, List.take_zero, show recsL [] = [] from rfl, List.append_nil]
        rfl
      rw [eh]
      clear cx
      refine exI_mk (fun st nI R' Φ' k => ∃ j : Nat, nI = j ∧ j ≤ m.recs.length ∧ st = bs (headM m ++ recsL (m.recs.take j)) ∧ R' = R1 ∧ Φ' = Φ1 ∧ k = m.recs.length - j) ⟨⟨R1, Φ1, _, inferInstance, fun w G cx => cx, 0, rfl, Nat.zero_le _, rfl, rfl, rfl, rfl⟩, ?_⟩
      rintro st nI R2 Φ2 k _ ⟨j, rfl, hj, rfl, rfl, rfl, rfl⟩
      have hp1 := hpre j
      have hbs : (bs (headM m ++ recsL (m.recs.take j))).size = (headM m).length + (recsL (m.recs.take j)).length := by rw [bs_size, List.length_append]
      refine Br.intro (fun hlt => ?_) (fun hge => fun w G cx => ⟨?_, cx.left⟩)
      · have hlt : j < m.recs.length := by have := of_decide_eq_true hlt; omega
        obtain ⟨g, o, rfl⟩ := hth (by omega)
        have hx := hm.recs _ (List.getElem_mem hlt)
        have hrl := recL_len hx.1 (by omega)
        have hst : bs (headM m ++ recsL (m.recs.take j)) ++ bs (recL m.recs[j]) = bs (headM m ++ recsL (m.recs.take (j + 1))) := by
          rw [bs_cat, bs_list, List.take_succ_eq_append_getElem hlt, recsL_app, recsL_one, List.append_assoc]
        refine ⟨⟨by omega, by omega⟩, ptrK_intro g o rfl fun w G cx => ⟨m.recs[j].term, m.recs[j].data, by rw [Int.toNat_natCast]; exact sl_rec (hΦ _ _ cx.phi) hlt, fun _ w G cx => ?_⟩⟩
        refine (RecBytes_in hT hx.1 (by omega)).toS cx ⟨by show (bs (headM m ++ recsL (m.recs.take j))).size + (bs (recL m.recs[j])).size ≤ _; rw [bs_size (recL m.recs[j])]; omega, by unfold I64; omega, R2, Φ2, m.recs.length - (j + 1), inferInstance, fun w G cx => cx, ⟨j + 1, by omega, by omega, hst, rfl, rfl, rfl⟩, by omega⟩
      · have hge : j = m.recs.length := by have := of_decide_eq_false hge; omega
        subst hge
        rw [List.take_length]
        rfl

set_option maxHeartbeats 1000000 in
theorem Bytes08_in [Stable Φ] {m : MsgR} {p : Option Addr} {c : Nat} (hΦ : ∀ M w, Φ M w → Sl M w p m.recs) (hm : MsgW m) (hl : m.recs.length ≤ 1000000) : GivesIn Φ Tryd.prog F.errataref08_Bytes #[m.v p c] (.string (bs (msgL m))) := by
  have hhd := headM_len hm hl
  have hpre := recsL_pre hm.recs hl
  have hn1 := natB_size (n := m.recs.length) (by unfold I64; omega)
  have e8 : (msgN m).length = 8 := rfl
  refine .there (fun M w h => (hΦ M w h).there) fun hth => ?_
  refine gives_in (Berrataref08_Bytes_run m.kind m.src m.to m.term m.index m.prev m.commit m.yes p m.recs.length c) fun W R => fun _ => Br.intro (fun hy => fun kb => ?_) (fun hy => fun kb => ?_)
  all_goals
    obtain ⟨B, hB⟩ : ∃ B, B = Own.blk kb ((msgN m).map fun n => Value.int .i64 n) 3 := ⟨_, rfl⟩
    refine exI_mk (fun st nI R' Φ' k => ∃ i : Nat, nI = i ∧ i ≤ 8 ∧ st = bs (numsL ((msgN m).take i)) ∧ R' = B :: R ∧ Φ' = Φ ∧ k = 8 - i) ⟨⟨B :: R, Φ, _, inferInstance, fun w G cx => ?_, 0, rfl, by omega, rfl, rfl, rfl, rfl⟩, ?_⟩
    · have e : B = Own.blk kb [.int .i64 m.kind, .int .i64 m.src, .int .i64 m.to, .int .i64 m.term, .int .i64 m.index, .int .i64 m.prev, .int .i64 m.commit, .int .i64 (if m.yes = true then 1 else 0)] 3 := hB
      rw [e, hy]
      exact cx
    rintro st nI R1 Φ1 k _ ⟨i, rfl, hi, rfl, rfl, rfl, rfl⟩
    have hpl := numsL_len (l := (msgN m).take i) fun y hy => hm.ints y (List.mem_of_mem_take hy)
    rw [List.length_take] at hpl
    refine Br.intro (fun hlt => ?_) (fun hge => fun w G cx => ?_)
    · have hlt : i < 8 := by have := of_decide_eq_true hlt; omega
      have hIn : I64 ((msgN m)[i]'(by omega)) := hm.ints _ (List.getElem_mem _)
      have hs1 := intB_size hIn
      have hst : bs (numsL ((msgN m).take i)) ++ intB ((msgN m)[i]'(by omega)) = bs (numsL ((msgN m).take (i + 1))) := by
        rw [bs_cat, List.take_succ_eq_append_getElem (by omega), numsL_app, numsL_one]
      refine ⟨⟨by omega, by omega⟩, fun w G cx => ⟨(msgN m)[i]'(by omega), ?_, fun w G cx => ((Int01_g _ hIn).in).toS cx ⟨by show (bs (numsL ((msgN m).take i))).size + (intB ((msgN m)[i]'(by omega))).size ≤ _; rw [bs_size]; omega, by unfold I64; omega, _, Φ1, 8 - (i + 1), inferInstance, fun w G cx => cx, ⟨i + 1, by omega, by omega, hst, rfl, rfl, rfl⟩, by omega⟩⟩⟩
      rw [hB] at cx
      refine cx.get 0 rfl ?_
      rw [Nat.zero_add, Int.toNat_natCast, List.getElem?_map, List.getElem?_eq_getElem (by omega)]
      rfl
    · have hge : i = 8 := by have := of_decide_eq_false hge; omega
      subst hge
      have htk : (msgN m).take 8 = msgN m := List.take_of_length_le (by omega)
      rw [htk] at hpl ⊢
      refine ((Num01_g _ (by unfold I64; omega)).in).toS cx ⟨by show (bs (numsL (msgN m))).size + (natB (m.recs.length : Int)).size ≤ _; rw [bs_size]; omega, ?_⟩
      have eh : bs (numsL (msgN m)) ++ natB (m.recs.length : Int) = bs (headM m ++ recsL (m.recs.take 0)) := by
        rw [bs_cat, List.take_zero, show recsL [] = [] from rfl, List.append_nil]
        rfl
      rw [eh]
      clear cx
      refine exI_mk (fun st nI R' Φ' k => ∃ j : Nat, nI = j ∧ j ≤ m.recs.length ∧ st = bs (headM m ++ recsL (m.recs.take j)) ∧ R' = B :: R ∧ Φ' = Φ1 ∧ k = m.recs.length - j) ⟨⟨B :: R, Φ1, _, inferInstance, fun w G cx => cx, 0, rfl, Nat.zero_le _, rfl, rfl, rfl, rfl⟩, ?_⟩
      rintro st nI R2 Φ2 k _ ⟨j, rfl, hj, rfl, rfl, rfl, rfl⟩
      have hp1 := hpre j
      have hbs : (bs (headM m ++ recsL (m.recs.take j))).size = (headM m).length + (recsL (m.recs.take j)).length := by rw [bs_size, List.length_append]
      refine Br.intro (fun hlt => ?_) (fun hge => fun w G cx => ⟨?_, (Ctx.drop1 cx).left⟩)
      · have hlt : j < m.recs.length := by have := of_decide_eq_true hlt; omega
        obtain ⟨g, o, rfl⟩ := hth (by omega)
        have hx := hm.recs _ (List.getElem_mem hlt)
        have hrl := recL_len hx.1 (by omega)
        have hst : bs (headM m ++ recsL (m.recs.take j)) ++ bs (recL m.recs[j]) = bs (headM m ++ recsL (m.recs.take (j + 1))) := by
          rw [bs_cat, bs_list, List.take_succ_eq_append_getElem hlt, recsL_app, recsL_one, List.append_assoc]
        refine ⟨⟨by omega, by omega⟩, ptrK_intro g o rfl fun w G cx => ⟨m.recs[j].term, m.recs[j].data, by rw [Int.toNat_natCast]; exact sl_rec (hΦ _ _ cx.phi) hlt, fun w G cx => ?_⟩⟩
        refine (RecBytes08_in hx.1 (by omega)).toS cx ⟨by show (bs (headM m ++ recsL (m.recs.take j))).size + (bs (recL m.recs[j])).size ≤ _; rw [bs_size (recL m.recs[j])]; omega, by unfold I64; omega, _, Φ2, m.recs.length - (j + 1), inferInstance, fun w G cx => cx, ⟨j + 1, by omega, by omega, hst, rfl, rfl, rfl⟩, by omega⟩
      · have hge : j = m.recs.length := by have := of_decide_eq_false hge; omega
        subst hge
        rw [List.take_length]
        rfl

theorem SameMsg_yes [Stable Φ] {m : MsgR} {p q : Option Addr} {c d : Nat} (h1 : ∀ M w, Φ M w → Sl M w p m.recs) (h2 : ∀ M w, Φ M w → Sl M w q m.recs) (hl : m.recs.length ≤ 1000000) : GivesIn Φ Tryd.prog F.errataref08_SameMsg #[m.v p c, m.v q d] (.bool true) := by
  have hno : ∀ {x : Int} {X : Prop}, decide (x = x) = false → X := fun h => absurd rfl (of_decide_eq_false h)
  refine gives_in (Berrataref08_SameMsg_run m.kind m.src m.to m.term m.index m.prev m.commit m.yes p m.recs.length c m.kind m.src m.to m.term m.index m.prev m.commit m.yes q m.recs.length d) fun W R => fun _ _ => Br.intro (fun _ => Br.intro (fun _ => Br.intro (fun _ => Br.intro (fun _ => Br.intro (fun _ => Br.intro (fun _ => Br.intro (fun _ => Br.intro (fun _ => fun w G cx => ?_) (fun h => ?_)) hno) hno) hno) hno) hno) hno) hno
  · refine (SameRecs_in p q c d m.recs m.recs h1 h2 hl).toB cx fun w G cx => ⟨by rw [decide_eq_true rfl], cx.left⟩
  · rw [beq_self_eq_true] at h
    cases h
end
end Go.Proofs.YtfpgbejdlikpgaaDoor
end

/-
  Messages read, walked: the program's Read and the reference's.
-/
section
set_option linter.unusedVariables false
set_option linter.unusedSimpArgs false
namespace Go.Proofs.YtfpgbejdlikpgaaDoor
open Go.Vc


section
variable {W w : World} {S G : List Own} {Φ : PW} {b : Nat} {st : RdS}
theorem RInt_at [Stable Φ] (hΦ : ∀ M w, Φ M w → NumI M w) {n : Int} {s : RdS} (e : rdInt st = (n, s)) (hl : st.1.length ≤ 1000000) (c : Ctx W w (rd b st :: S ++ G) Φ) {K : Int → List Own → PW → Prop} (hk : K n (rd b s :: S) Φ) :
    Calls Tryd.prog F.wire_Reader_Int #[.pointer (some ⟨b, 0, none⟩)] w fun e w' => ∃ n, e = .returned (.int .i64 n) ∧ ∃ R' Φ', Stable Φ' ∧ Ctx W w' (R' ++ G) Φ' ∧ K n R' Φ' :=
  RInt_to hΦ (by omega) c (by rw [e]; exact hk)
theorem RNum_at [Stable Φ] (hΦ : ∀ M w, Φ M w → NumI M w) {n : Int} {s : RdS} (e : rdNat st = (n, s)) (hl : st.1.length ≤ 1000000) (c : Ctx W w (rd b st :: S ++ G) Φ) {K : Int → List Own → PW → Prop} (hk : K n (rd b s :: S) Φ) :
    Calls Tryd.prog F.wire_Reader_Num #[.pointer (some ⟨b, 0, none⟩)] w fun e w' => ∃ n, e = .returned (.int .i64 n) ∧ ∃ R' Φ', Stable Φ' ∧ Ctx W w' (R' ++ G) Φ' ∧ K n R' Φ' :=
  RNum_to hΦ (by omega) c (by rw [e]; exact hk)
theorem Int01_at [Stable Φ] {n : Int} {s : RdS} (e : rdInt st = (n, s)) (hl : st.1.length ≤ 1000000) (c : Ctx W w (rq b st :: S ++ G) Φ) {K : Int → List Own → PW → Prop} (hk : K n (rq b s :: S) Φ) :
    Calls Tryd.prog F.errataref01_Reader_Int #[.pointer (some ⟨b, 0, none⟩)] w fun e w' => ∃ n, e = .returned (.int .i64 n) ∧ ∃ R' Φ', Stable Φ' ∧ Ctx W w' (R' ++ G) Φ' ∧ K n R' Φ' :=
  Int01r_to (by omega) c (by rw [e]; exact hk)
theorem Num01_at [Stable Φ] {n : Int} {s : RdS} (e : rdNat st = (n, s)) (hl : st.1.length ≤ 1000000) (c : Ctx W w (rq b st :: S ++ G) Φ) {K : Int → List Own → PW → Prop} (hk : K n (rq b s :: S) Φ) :
    Calls Tryd.prog F.errataref01_Reader_Num #[.pointer (some ⟨b, 0, none⟩)] w fun e w' => ∃ n, e = .returned (.int .i64 n) ∧ ∃ R' Φ', Stable Φ' ∧ Ctx W w' (R' ++ G) Φ' ∧ K n R' Φ' :=
  Num01r_to (by omega) c (by rw [e]; exact hk)
end
theorem rdInt_at (st : RdS) : ∃ n s, rdInt st = (n, s) ∧ I64 n ∧ s.1.length ≤ st.1.length ∧ (RdOk st → RdOk s) := by
  have h1 := rdInt_i64 st
  have h2 : (rdInt st).2.1.length ≤ st.1.length := stepN_len 59 (-9223372036854775808) st
  have h3 := fun h => rdInt_ok (st := st) h
  exact ⟨(rdInt st).1, (rdInt st).2, rfl, h1, h2, h3⟩
theorem rdNat_at (st : RdS) : ∃ n s, rdNat st = (n, s) ∧ s.1.length ≤ st.1.length ∧ (RdOk st → RdOk s) := by
  have h2 : (rdNat st).2.1.length ≤ st.1.length := stepN_len 59 0 st
  have h3 := fun h => rdNat_ok (st := st) h
  exact ⟨(rdNat st).1, (rdNat st).2, rfl, h2, h3⟩

/-- what was read of a message ahead of its entries -/
structure Head (l : List UInt8) (n0 n1 n2 n3 n4 n5 n6 n7 N : Int) (s0 s1 s2 s3 s4 s5 s6 s7 sN : RdS) : Prop where
  e0 : rdInt (l, false) = (n0, s0)
  e1 : rdInt s0 = (n1, s1)
  e2 : rdInt s1 = (n2, s2)
  e3 : rdInt s2 = (n3, s3)
  e4 : rdInt s3 = (n4, s4)
  e5 : rdInt s4 = (n5, s5)
  e6 : rdInt s5 = (n6, s6)
  e7 : rdInt s6 = (n7, s7)
  eN : rdNat s7 = (N, sN)
  i : (I64 n0 ∧ I64 n1 ∧ I64 n2 ∧ I64 n3) ∧ I64 n4 ∧ I64 n5 ∧ I64 n6
  len : (s0.1.length ≤ l.length ∧ s1.1.length ≤ l.length ∧ s2.1.length ≤ l.length ∧ s3.1.length ≤ l.length) ∧ s4.1.length ≤ l.length ∧ s5.1.length ≤ l.length ∧ s6.1.length ≤ l.length ∧ s7.1.length ≤ l.length ∧ sN.1.length ≤ l.length
  ok : RdOk sN
theorem head_of (l : List UInt8) : ∃ n0 n1 n2 n3 n4 n5 n6 n7 N s0 s1 s2 s3 s4 s5 s6 s7 sN, Head l n0 n1 n2 n3 n4 n5 n6 n7 N s0 s1 s2 s3 s4 s5 s6 s7 sN := by
  obtain ⟨n0, s0, e0, i0, l0, o0⟩ := rdInt_at (l, false)
  obtain ⟨n1, s1, e1, i1, l1, o1⟩ := rdInt_at s0
  obtain ⟨n2, s2, e2, i2, l2, o2⟩ := rdInt_at s1
  obtain ⟨n3, s3, e3, i3, l3, o3⟩ := rdInt_at s2
  obtain ⟨n4, s4, e4, i4, l4, o4⟩ := rdInt_at s3
  obtain ⟨n5, s5, e5, i5, l5, o5⟩ := rdInt_at s4
  obtain ⟨n6, s6, e6, i6, l6, o6⟩ := rdInt_at s5
  obtain ⟨n7, s7, e7, i7, l7, o7⟩ := rdInt_at s6
  obtain ⟨N, sN, eN, lN, oN⟩ := rdNat_at s7
  have l0 : s0.1.length ≤ l.length := l0
  exact ⟨n0, n1, n2, n3, n4, n5, n6, n7, N, s0, s1, s2, s3, s4, s5, s6, s7, sN, e0, e1, e2, e3, e4, e5, e6, e7, eN, ⟨⟨i0, i1, i2, i3⟩, i4, i5, i6⟩, ⟨⟨l0, by omega, by omega, by omega⟩, by omega, by omega, by omega, by omega, by omega⟩, oN (o7 (o6 (o5 (o4 (o3 (o2 (o1 (o0 (rdOk0 l))))))))) ⟩
section
variable {l : List UInt8} {n0 n1 n2 n3 n4 n5 n6 n7 N : Int} {s0 s1 s2 s3 s4 s5 s6 s7 sN : RdS}
theorem Head.read (h : Head l n0 n1 n2 n3 n4 n5 n6 n7 N s0 s1 s2 s3 s4 s5 s6 s7 sN) {acc : List RecD} {st : RdS} (hr : recsR N.toNat sN [] = (acc, st)) :
    readM l = if rdDone st = true ∧ msgL ⟨n0, n1, n2, n3, n4, n5, n6, decide (n7 = 1), acc⟩ = l then some ⟨n0, n1, n2, n3, n4, n5, n6, decide (n7 = 1), acc⟩ else none := by
  have e : intsR 8 (l, false) = ([n0, n1, n2, n3, n4, n5, n6, n7], s7) := by
    simp only [intsR, h.e0, h.e1, h.e2, h.e3, h.e4, h.e5, h.e6, h.e7]
  unfold readM
  rw [e]
  unfold tailM
  simp only
  rw [h.eN]
  simp only
  rw [hr]
  rfl
theorem Head.msg (h : Head l n0 n1 n2 n3 n4 n5 n6 n7 N s0 s1 s2 s3 s4 s5 s6 s7 sN) {acc : List RecD} (ha : ∀ x ∈ acc, I64 x.term ∧ x.data.size ≤ 1000000) : MsgW ⟨n0, n1, n2, n3, n4, n5, n6, decide (n7 = 1), acc⟩ := by
  obtain ⟨⟨i0, i1, i2, i3⟩, i4, i5, i6⟩ := h.i
  refine ⟨fun n hn => ?_, ha⟩
  have hn : n ∈ [n0, n1, n2, n3, n4, n5, n6, if decide (n7 = 1) = true then 1 else 0] := hn
  simp only [List.mem_cons, List.not_mem_nil, or_false] at hn
  rcases hn with rfl | rfl | rfl | rfl | rfl | rfl | rfl | rfl
  all_goals first | assumption | (split <;> (unfold I64; omega))
end

theorem app_rec {W w : World} {S : List Own} {Φ : PW} [Stable Φ] {p : Option Addr} {c k : Nat} {acc : List RecD} {x : RecD} (hl : acc.length < 10000000) (cx : Ctx W w (.blk k [.int .i64 x.term, .string x.data] 27 :: .buf p acc.length c (recCells acc) 27 2 :: S) Φ) :
    ∃ p' c' w', Sem.run Tryd.prog (builtin Builtin.append #[22, 22] 22 #[false, false] #[.slice p acc.length c, .slice (some ⟨k, 0, none⟩) 1 1]) w = .ok (.value (.slice p' (acc ++ [x]).length c')) w' ∧ Ctx W w' (.buf p' (acc ++ [x]).length c' (recCells (acc ++ [x])) 27 2 :: S) Φ := by
  obtain ⟨p', c', w', hr, _, cx3⟩ := cx.app1 (ts := 22) (ty := 22) (kb := #[false, false]) (bytes := 24) (P := Tryd.prog) (by kernel_rfl) (by omega) rfl rfl (by omega) (by omega)
  have ea : (acc ++ [x]).length = acc.length + 1 := by rw [List.length_append]; rfl
  have eb : recCells acc ++ [Value.int .i64 x.term, Value.string x.data] = recCells (acc ++ [x]) := by rw [recs_app]; rfl
  refine ⟨p', c', w', by rw [ea]; exact hr, ?_⟩
  rw [eb, ← ea] at cx3
  exact cx3

set_option maxHeartbeats 4000000 in
theorem Read_use {W w : World} {S : List Own} {Φ : PW} [Stable Φ] (hN : ∀ M w, Φ M w → NumI M w) (l : List UInt8) (hl : l.length ≤ 1000000) (cx : Ctx W w S Φ) {K : Ending → World → Prop}
    (h0 : ∀ w', readM l = none → Ctx W w' S Φ → K (.returned (.tuple #[msgR0.v none 0, .bool false])) w')
    (h1 : ∀ m p c w', readM l = some m → MsgW m → m.recs.length ≤ l.length → Ctx W w' S (fun M w => Φ M w ∧ Sl M w p m.recs) → K (.returned (.tuple #[m.v p c, .bool true])) w') :
    Calls Tryd.prog F.replica_Read #[.string (bs l)] w K := by
  obtain ⟨n0, n1, n2, n3, n4, n5, n6, n7, N, s0, s1, s2, s3, s4, s5, s6, s7, sN, H⟩ := head_of l
  obtain ⟨⟨l0, l1, l2, l3⟩, l4, l5, l6, l7, lN⟩ := H.len
  refine (Breplica_Read_run (bs l) (J := fun u w' => K (.returned u) w') cx ?_).mono fun e w' ⟨v, he, hj⟩ => by rw [he]; exact hj
  clear cx
  refine fun _ w G cx => Open_use l cx fun b w cx => ⟨_, rfl, rd b (l, false) :: S, Φ, inferInstance, cx, fun w G cx => RInt_at hN H.e0 (by show l.length ≤ _; omega) cx fun w G cx => RInt_at hN H.e1 (by omega) cx fun w G cx => RInt_at hN H.e2 (by omega) cx fun w G cx => RInt_at hN H.e3 (by omega) cx fun w G cx => RInt_at hN H.e4 (by omega) cx fun w G cx => RInt_at hN H.e5 (by omega) cx fun w G cx => RInt_at hN H.e6 (by omega) cx fun w G cx => RInt_at hN H.e7 (by omega) cx fun _ w G cx => RNum_at hN H.eN (by omega) cx ?_⟩
  clear cx
  refine exI_mk (fun a0 a1 a2 a3 a4 a5 a6 y p n c R' Φ' k => ∃ (acc : List RecD) (st : RdS), ((n0 = a0 ∧ n1 = a1 ∧ n2 = a2 ∧ n3 = a3) ∧ n4 = a4 ∧ n5 = a5 ∧ n6 = a6 ∧ decide (n7 = 1) = y) ∧ n = acc.length ∧ recsR (N.toNat - acc.length) st acc = recsR N.toNat sN [] ∧ acc.length ≤ N.toNat ∧ acc.length + st.1.length ≤ l.length ∧ (∀ x ∈ acc, I64 x.term ∧ x.data.size ≤ l.length) ∧ R' = rd b st :: .buf p n c (recCells acc) 27 2 :: S ∧ Φ' = Φ ∧ k = st.1.length)
    ⟨⟨rd b sN :: .buf none 0 0 [] 27 2 :: S, Φ, _, inferInstance, fun w G cx => (Ctx.nobuf cx 27 2).swap, [], sN, ⟨⟨rfl, rfl, rfl, rfl⟩, rfl, rfl, rfl, rfl⟩, rfl, by rw [List.length_nil, Nat.sub_zero], by simp, by simp only [List.length_nil]; omega, fun x hx => (by cases hx), rfl, rfl, rfl⟩, ?_⟩
  rintro a0 a1 a2 a3 a4 a5 a6 y p n c R1 Φ1 k _ ⟨acc, st, ⟨⟨rfl, rfl, rfl, rfl⟩, rfl, rfl, rfl, rfl⟩, rfl, hK, hle, hlen, hsz, rfl, rfl, rfl⟩
  refine Br.intro (fun hlt => fun w G cx => Left_to cx (Br.intro (fun hpos => ?body) (fun hnot => ?fin1))) (fun hge => ?fin2)
  case body =>
    have hlt : acc.length < N.toNat := by have := of_decide_eq_true hlt; omega
    have hne : st.1 ≠ [] := fun h => by rw [h] at hpos; have := of_decide_eq_true hpos; simp at this
    obtain ⟨m, hm⟩ : ∃ m, N.toNat - acc.length = m + 1 := ⟨N.toNat - acc.length - 1, by omega⟩
    rw [hm, recsR_succ, if_neg hne] at hK
    have he := recR_eats hne
    have hd := recR_data st
    have ht := recR_term st
    have ha : (rdInt st).2.1.length ≤ st.1.length := stepN_len 59 (-9223372036854775808) st
    have any : ∀ {w : World} {R G : List Own} {Ψ : PW} [Stable Ψ], Ctx W w (R ++ G) Ψ → Ctx W w ([] ++ G) (fun _ _ => True) := fun cx => (Ctx.right cx).weak fun _ _ _ => trivial
    refine ⟨[], fun _ _ => True, inferInstance, fun w G cx => any cx, fun w G cx => RInt_to hN (by omega) cx ⟨fun w G cx => any cx, fun w G cx => Text_to hN (by omega) cx ⟨fun w G cx => any cx, fun k => ⟨fun w G cx => any cx, fun w G cx => ?_⟩⟩⟩⟩
    obtain ⟨x, s', hx⟩ : ∃ x s', recR st = (x, s') := ⟨_, _, rfl⟩
    rw [hx] at he hd ht hK
    have e1 : (rdInt st).1 = x.term := by have := congrArg (fun z => z.1.term) hx; exact this
    have e2 : (stepT (rdInt st).2).1 = x.data := by have := congrArg (fun z => z.1.data) hx; exact this
    have e3 : (stepT (rdInt st).2).2 = s' := by have := congrArg (fun z => z.2) hx; exact this
    simp only at he hd ht hK
    rw [e1, e2, e3] at cx
    have cx2 : Ctx W w (.blk k [.int .i64 x.term, .string x.data] 27 :: .buf p acc.length c (recCells acc) 27 2 :: rd b s' :: (S ++ G)) Φ1 := Ctx.perm cx (List.Perm.cons _ (List.Perm.swap _ _ _))
    obtain ⟨p', c', w', hr, cx3⟩ := app_rec (by omega) cx2
    have ea : (acc ++ [x]).length = acc.length + 1 := by rw [List.length_append]; rfl
    exact ⟨p', _, c', w', hr, rd b s' :: .buf p' (acc ++ [x]).length c' (recCells (acc ++ [x])) 27 2 :: S, Φ1, inferInstance, cx3.swap, _, Φ1, s'.1.length, inferInstance, fun w G cx => cx, ⟨acc ++ [x], s', ⟨⟨rfl, rfl, rfl, rfl⟩, rfl, rfl, rfl, rfl⟩, rfl, by rw [ea, show N.toNat - (acc.length + 1) = m by omega]; exact hK, by omega, by omega, fun z hz => by
      rcases List.mem_append.1 hz with hz | hz
      · exact hsz z hz
      · rw [List.mem_singleton.1 hz]; exact ⟨ht, by omega⟩, rfl, rfl, rfl⟩, he⟩
  case' fin1 =>
    have hrr : recsR N.toNat sN [] = (acc, st) := by
      rw [← hK]
      exact recsR_end _ _ _ (List.eq_nil_of_length_eq_zero (by have := of_decide_eq_false hnot; omega))
    clear hnot hlt cx w G
  case' fin2 =>
    have hrr : recsR N.toNat sN [] = (acc, st) := by
      rw [← hK, show N.toNat - acc.length = 0 by have := of_decide_eq_false hge; omega]
      rfl
    clear hge
  all_goals
    have hrd := H.read hrr
    have hmw := H.msg (acc := acc) fun x hx => ⟨(hsz x hx).1, by have := (hsz x hx).2; omega⟩
    refine fun w G cx => Done_to cx (Br.intro (fun hd => fun w G cx => ?_) (fun hd => fun w G cx => ?_))
    · have cx2 : Ctx W w (S ++ G) Φ1 := cx.drop1.drop1
      refine h0 w ?_ cx2.left
      rw [hrd, if_neg fun h => by rw [h.1] at hd; cases hd]
    · have hd : rdDone st = true := by rw [Bool.not_eq_false'] at hd; exact hd
      rw [hd] at hrd
      obtain ⟨c4, hs, _, _, _⟩ := Ctx.freeze (α := RecD) (l := acc) (S := rd b st :: (S ++ G)) cx.swap (recs_elems fun x hx => ⟨(hsz x hx).1, by have := (hsz x hx).2; unfold maxLen; omega⟩)
      have cx2 : Ctx W w (rd b st :: S ++ G) (fun M w => Φ1 M w ∧ Sl M w p acc) := c4.add hs
      have st2 : Stable (fun M w => Φ1 M w ∧ Sl M w p acc) := instStableAnd Φ1 (fun M w => Sl M w p acc)
      refine (Bytes_in (Φ := fun M w => Φ1 M w ∧ Sl M w p acc) (m := ⟨n0, n1, n2, n3, n4, n5, n6, decide (n7 = 1), acc⟩) (c := c) (fun M w h => (hN M w h.1).1) (fun M w h => h.2) hmw (by show acc.length ≤ _; omega)).toS cx2 (Br.intro (fun hne => fun w G cx => ?_) (fun heq => fun w G cx => ?_))
      · have hne : ¬ msgL ⟨n0, n1, n2, n3, n4, n5, n6, decide (n7 = 1), acc⟩ = l := fun h => of_decide_eq_true hne (by rw [h])
        have cx3 : Ctx W w (S ++ G) (fun M w => Φ1 M w ∧ Sl M w p acc) := cx.drop1
        exact h0 w (by rw [hrd, if_neg fun h => hne h.2]) (cx3.left.weak fun M w h => h.1)
      · have heq : msgL ⟨n0, n1, n2, n3, n4, n5, n6, decide (n7 = 1), acc⟩ = l := bs_inj.1 (Decidable.not_not.1 (of_decide_eq_false heq))
        have cx3 : Ctx W w (S ++ G) (fun M w => Φ1 M w ∧ Sl M w p acc) := cx.drop1
        exact h1 ⟨n0, n1, n2, n3, n4, n5, n6, decide (n7 = 1), acc⟩ p c w (by rw [hrd, if_pos ⟨rfl, heq⟩]) hmw (by show acc.length ≤ _; omega) cx3.left

set_option maxHeartbeats 4000000 in
theorem Read08_use {W w : World} {S : List Own} {Φ : PW} [Stable Φ] (l : List UInt8) (hl : l.length ≤ 1000000) (cx : Ctx W w S Φ) {K : Ending → World → Prop}
    (h0 : ∀ w', readM l = none → Ctx W w' S Φ → K (.returned (.tuple #[msgR0.v none 0, .bool false])) w')
    (h1 : ∀ m p c w', readM l = some m → MsgW m → m.recs.length ≤ l.length → Ctx W w' S (fun M w => Φ M w ∧ Sl M w p m.recs) → K (.returned (.tuple #[m.v p c, .bool true])) w') :
    Calls Tryd.prog F.errataref08_Read #[.string (bs l)] w K := by
  obtain ⟨n0, n1, n2, n3, n4, n5, n6, n7, N, s0, s1, s2, s3, s4, s5, s6, s7, sN, H⟩ := head_of l
  obtain ⟨⟨l0, l1, l2, l3⟩, l4, l5, l6, l7, lN⟩ := H.len
  refine (Berrataref08_Read_run (bs l) (J := fun u w' => K (.returned u) w') cx ?_).mono fun e w' ⟨v, he, hj⟩ => by rw [he]; exact hj
  clear cx
  refine fun _ w G cx => Open01_to l cx fun b _ w G cx => Int01_at H.e0 (by show l.length ≤ _; omega) cx fun w G cx => Int01_at H.e1 (by omega) cx fun w G cx => Int01_at H.e2 (by omega) cx fun w G cx => Int01_at H.e3 (by omega) cx fun w G cx => Int01_at H.e4 (by omega) cx fun w G cx => Int01_at H.e5 (by omega) cx fun w G cx => Int01_at H.e6 (by omega) cx fun w G cx => Int01_at H.e7 (by omega) cx fun w G cx => Num01_at H.eN (by omega) cx ?_
  clear cx
  refine exI_mk (fun nI a0 a1 a2 a3 a4 a5 a6 y p n c R' Φ' k => ∃ (acc : List RecD) (st : RdS), nI = acc.length ∧ ((n0 = a0 ∧ n1 = a1 ∧ n2 = a2 ∧ n3 = a3) ∧ n4 = a4 ∧ n5 = a5 ∧ n6 = a6 ∧ decide (n7 = 1) = y) ∧ n = acc.length ∧ recsR (N.toNat - acc.length) st acc = recsR N.toNat sN [] ∧ acc.length ≤ N.toNat ∧ acc.length + st.1.length ≤ l.length ∧ (∀ x ∈ acc, I64 x.term ∧ x.data.size ≤ l.length) ∧ RdOk st ∧ R' = rq b st :: .buf p n c (recCells acc) 27 2 :: S ∧ Φ' = Φ ∧ k = st.1.length)
    ⟨⟨rq b sN :: .buf none 0 0 [] 27 2 :: S, Φ, _, inferInstance, fun w G cx => (Ctx.nobuf cx 27 2).swap, [], sN, rfl, ⟨⟨rfl, rfl, rfl, rfl⟩, rfl, rfl, rfl, rfl⟩, rfl, by rw [List.length_nil, Nat.sub_zero], by simp, by simp only [List.length_nil]; omega, fun x hx => (by cases hx), H.ok, rfl, rfl, rfl⟩, ?_⟩
  rintro nI a0 a1 a2 a3 a4 a5 a6 y p n c R1 Φ1 k _ ⟨acc, st, rfl, ⟨⟨rfl, rfl, rfl, rfl⟩, rfl, rfl, rfl, rfl⟩, rfl, hK, hle, hlen, hsz, hok, rfl, rfl, rfl⟩
  refine Br.intro (fun hlt => fun w G cx => Left01_to cx (Br.intro (fun hpos => ?body) (fun hnot => ?fin1))) (fun hge => ?fin2)
  case body =>
    have hlt : acc.length < N.toNat := by have := of_decide_eq_true hlt; omega
    have hne : st.1 ≠ [] := fun h => by rw [h] at hpos; have := of_decide_eq_true hpos; simp at this
    obtain ⟨m, hm⟩ : ∃ m, N.toNat - acc.length = m + 1 := ⟨N.toNat - acc.length - 1, by omega⟩
    rw [hm, recsR_succ, if_neg hne] at hK
    have he := recR_eats hne
    have hd := recR_data st
    have ht := recR_term st
    have ho1 := rdInt_ok hok
    have ho2 := stepT_ok ho1
    have ha : (rdInt st).2.1.length ≤ st.1.length := stepN_len 59 (-9223372036854775808) st
    refine fun w G cx => Int01r_to (by omega) cx fun _ w G cx => Text01r_to ho1 (by omega) cx fun k w G cx => ?_
    obtain ⟨x, s', hx⟩ : ∃ x s', recR st = (x, s') := ⟨_, _, rfl⟩
    rw [hx] at he hd ht hK
    have e1 : (rdInt st).1 = x.term := by have := congrArg (fun z => z.1.term) hx; exact this
    have e2 : (stepT (rdInt st).2).1 = x.data := by have := congrArg (fun z => z.1.data) hx; exact this
    have e3 : (stepT (rdInt st).2).2 = s' := by have := congrArg (fun z => z.2) hx; exact this
    simp only at he hd ht hK
    rw [e3] at ho2
    rw [e1, e2, e3] at cx
    have cx2 : Ctx W w (.blk k [.int .i64 x.term, .string x.data] 27 :: .buf p acc.length c (recCells acc) 27 2 :: rq b s' :: (S ++ G)) Φ1 := Ctx.perm cx (List.Perm.cons _ (List.Perm.swap _ _ _))
    obtain ⟨p', c', w', hr, cx3⟩ := app_rec (by omega) cx2
    have ea : (acc ++ [x]).length = acc.length + 1 := by rw [List.length_append]; rfl
    exact ⟨p', _, c', w', hr, rq b s' :: .buf p' (acc ++ [x]).length c' (recCells (acc ++ [x])) 27 2 :: S, Φ1, inferInstance, cx3.swap, by unfold I64; omega, _, Φ1, s'.1.length, inferInstance, fun w G cx => cx, ⟨acc ++ [x], s', by omega, ⟨⟨rfl, rfl, rfl, rfl⟩, rfl, rfl, rfl, rfl⟩, rfl, by rw [ea, show N.toNat - (acc.length + 1) = m by omega]; exact hK, by omega, by omega, fun z hz => by
      rcases List.mem_append.1 hz with hz | hz
      · exact hsz z hz
      · rw [List.mem_singleton.1 hz]; exact ⟨ht, by omega⟩, ho2, rfl, rfl, rfl⟩, he⟩
  case' fin1 =>
    have hrr : recsR N.toNat sN [] = (acc, st) := by
      rw [← hK]
      exact recsR_end _ _ _ (List.eq_nil_of_length_eq_zero (by have := of_decide_eq_false hnot; omega))
    clear hnot hlt cx w G
  case' fin2 =>
    have hrr : recsR N.toNat sN [] = (acc, st) := by
      rw [← hK, show N.toNat - acc.length = 0 by have := of_decide_eq_false hge; omega]
      rfl
    clear hge
  all_goals
    have hrd := H.read hrr
    have hmw := H.msg (acc := acc) fun x hx => ⟨(hsz x hx).1, by have := (hsz x hx).2; omega⟩
    refine fun w G cx => Done01_to cx (Br.intro (fun hd => fun w G cx => ?_) (fun hd => fun w G cx => ?_))
    · have cx2 : Ctx W w (S ++ G) Φ1 := cx.drop1.drop1
      refine h0 w ?_ cx2.left
      rw [hrd, if_neg fun h => by rw [h.1] at hd; cases hd]
    · have hd : rdDone st = true := by rw [Bool.not_eq_false'] at hd; exact hd
      rw [hd] at hrd
      obtain ⟨c4, hs, _, _, _⟩ := Ctx.freeze (α := RecD) (l := acc) (S := rq b st :: (S ++ G)) cx.swap (recs_elems fun x hx => ⟨(hsz x hx).1, by have := (hsz x hx).2; unfold maxLen; omega⟩)
      have cx2 : Ctx W w (rq b st :: S ++ G) (fun M w => Φ1 M w ∧ Sl M w p acc) := c4.add hs
      have st2 : Stable (fun M w => Φ1 M w ∧ Sl M w p acc) := instStableAnd Φ1 (fun M w => Sl M w p acc)
      refine (Bytes08_in (Φ := fun M w => Φ1 M w ∧ Sl M w p acc) (m := ⟨n0, n1, n2, n3, n4, n5, n6, decide (n7 = 1), acc⟩) (c := c) (fun M w h => h.2) hmw (by show acc.length ≤ _; omega)).toS cx2 (Br.intro (fun hne => fun w G cx => ?_) (fun heq => fun w G cx => ?_))
      · have hne : ¬ msgL ⟨n0, n1, n2, n3, n4, n5, n6, decide (n7 = 1), acc⟩ = l := fun h => of_decide_eq_true hne (by rw [h])
        have cx3 : Ctx W w (S ++ G) (fun M w => Φ1 M w ∧ Sl M w p acc) := cx.drop1
        exact h0 w (by rw [hrd, if_neg fun h => hne h.2]) (cx3.left.weak fun M w h => h.1)
      · have heq : msgL ⟨n0, n1, n2, n3, n4, n5, n6, decide (n7 = 1), acc⟩ = l := bs_inj.1 (Decidable.not_not.1 (of_decide_eq_false heq))
        have cx3 : Ctx W w (S ++ G) (fun M w => Φ1 M w ∧ Sl M w p acc) := cx.drop1
        exact h1 ⟨n0, n1, n2, n3, n4, n5, n6, decide (n7 = 1), acc⟩ p c w (by rw [hrd, if_pos ⟨rfl, heq⟩]) hmw (by show acc.length ≤ _; omega) cx3.left
end Go.Proofs.YtfpgbejdlikpgaaDoor
end

/-
  ReplicaBack, walked.
-/
section
set_option linter.unusedVariables false
set_option linter.unusedSimpArgs false
namespace Go.Proofs.YtfpgbejdlikpgaaDoor
open Go.Vc


/-- what Read returns -/
def resM (l : List UInt8) : MsgR × Bool := match readM l with
  | some m => (m, true)
  | none => (msgR0, false)
theorem resM_some {l : List UInt8} {m : MsgR} (h : readM l = some m) : resM l = (m, true) := by unfold resM; rw [h]
theorem resM_none {l : List UInt8} (h : readM l = none) : resM l = (msgR0, false) := by unfold resM; rw [h]
structure ResOk (l : List UInt8) : Prop where
  len : (resM l).1.recs.length ≤ l.length
  w : MsgW (resM l).1
  is : (resM l).2 = true → msgL (resM l).1 = l
theorem msgW0 : MsgW msgR0 := ⟨fun n hn => by
  have hn : n ∈ [(0 : Int), 0, 0, 0, 0, 0, 0, 0] := hn
  simp only [List.mem_cons, List.not_mem_nil, or_false, or_self] at hn
  subst hn
  unfold I64; decide, fun x hx => by cases hx⟩
theorem ReadU_use {W w : World} {S : List Own} {Φ : PW} [Stable Φ] (hN : ∀ M w, Φ M w → NumI M w) (l : List UInt8) (hl : l.length ≤ 1000000) (cx : Ctx W w S Φ) {K : Ending → World → Prop}
    (hk : ResOk l → ∀ p c w', Ctx W w' S (fun M w => Φ M w ∧ Sl M w p (resM l).1.recs) → K (.returned (.tuple #[(resM l).1.v p c, .bool (resM l).2])) w') : Calls Tryd.prog F.replica_Read #[.string (bs l)] w K := by
  refine Read_use hN l hl cx (fun w' hr cx => ?_) (fun m p c w' hr hw hlen cx => ?_)
  · have e := resM_none hr
    have h := hk ⟨by rw [e]; exact Nat.zero_le _, by rw [e]; exact msgW0, fun h => by rw [e] at h; cases h⟩ none 0 w'
    rw [e] at h
    exact h (cx.add (Ψ := fun M w => Sl M w none ([] : List RecD)) Sl.nil)
  · have e := resM_some hr
    have h := hk ⟨by rw [e]; exact hlen, by rw [e]; exact hw, fun h => by rw [e]; exact readM_is hr⟩ p c w'
    rw [e] at h
    exact h cx
theorem Read08U_use {W w : World} {S : List Own} {Φ : PW} [Stable Φ] (l : List UInt8) (hl : l.length ≤ 1000000) (cx : Ctx W w S Φ) {K : Ending → World → Prop}
    (hk : ∀ p c w', Ctx W w' S (fun M w => Φ M w ∧ Sl M w p (resM l).1.recs) → K (.returned (.tuple #[(resM l).1.v p c, .bool (resM l).2])) w') : Calls Tryd.prog F.errataref08_Read #[.string (bs l)] w K := by
  refine Read08_use l hl cx (fun w' hr cx => ?_) (fun m p c w' hr hw hlen cx => ?_)
  · have e := resM_none hr
    have h := hk none 0 w'
    rw [e] at h
    exact h (cx.add (Ψ := fun M w => Sl M w none ([] : List RecD)) Sl.nil)
  · have e := resM_some hr
    have h := hk p c w'
    rw [e] at h
    exact h cx
/-- what ReadRec returns -/
theorem resE_form (l : List UInt8) (hl : l.length ≤ 1000000000) : ∃ (x : RecD) (ok : Bool), resE (readE l) = .tuple #[x.v, .bool ok] ∧ (ok = true → recL x = l ∧ I64 x.term ∧ x.data.size ≤ l.length) := by
  cases h : readE l with
  | none => exact ⟨⟨0, ByteArray.mk #[]⟩, false, rfl, fun h => by cases h⟩
  | some x =>
    refine ⟨x, true, rfl, fun _ => ⟨readE_is h, ?_⟩⟩
    unfold readE at h
    split at h
    · have h1 : (recR (l, false)).1 = x := Option.some.inj h
      rw [← h1]
      exact ⟨recR_term _, recR_data (l, false)⟩
    · cases h
theorem resE_any (r : Option RecD) : ∃ (x : RecD) (ok : Bool), resE r = .tuple #[x.v, .bool ok] := by
  cases r with
  | none => exact ⟨⟨0, ByteArray.mk #[]⟩, false, rfl⟩
  | some x => exact ⟨x, true, rfl⟩
theorem recsL_len100 : ∀ {l : List RecD}, (∀ x ∈ l, I64 x.term ∧ x.data.size ≤ 100) → (recsL l).length ≤ l.length * 143
  | [], _ => by simp [recsL]
  | x :: l, h => by
    have hx := h x (by simp)
    have h1 := recL_len hx.1 (by omega)
    have h2 := recsL_len100 (l := l) fun y hy => h y (by simp [hy])
    rw [recsL_cons, List.length_append, List.length_cons]
    omega

attribute [local irreducible] resM readM readE msgL recL recsL headM numsL bs
set_option maxHeartbeats 4000000 in
theorem Back_in {Φ : PW} [Stable Φ] {m : MsgR} {p : Option Addr} {c : Nat} {s : ByteArray} (hN : ∀ M w, Φ M w → NumI M w) (hΦ : ∀ M w, Φ M w → Sl M w p m.recs) (hok : m.Ok) (hstr : ∀ x ∈ m.recs, x.data.size ≤ 140737488351232) :
    GivesIn Φ Tryd.prog F.erratalaw08_ReplicaBack #[m.v p c, .string s] (.bool true) := by
  have hT : ∀ M w, Φ M w → TabI M w := fun M w h => (hN M w h).1
  refine .there (fun M w h => (hΦ M w h).there) fun hth => ?_
  refine gives_in (Berratalaw08_ReplicaBack_run m.kind m.src m.to m.term m.index m.prev m.commit m.yes p m.recs.length c s) fun W R => fun _ w G cx => ?_
  refine (small_g.in).toB cx fun w G cx => Br.intro (fun _ => fun w G cx => ⟨rfl, cx.left⟩) (fun hb => ?_)
  rw [Bool.or_eq_false_iff] at hb
  have hl10 : m.recs.length ≤ 10 := by have := of_decide_eq_false hb.1; omega
  have hs300 : s.size ≤ 300 := by have := of_decide_eq_false hb.2; omega
  have hterm : ∀ x ∈ m.recs, I64 x.term := fun x hx => (sl_recOk (hΦ _ _ cx.phi) x hx).1
  clear cx
  refine exI_mk (fun nI R' Φ' k => ∃ i : Nat, nI = i ∧ i ≤ m.recs.length ∧ (∀ x ∈ m.recs.take i, x.data.size ≤ 100) ∧ R' = R ∧ Φ' = Φ ∧ k = m.recs.length - i) ⟨⟨R, Φ, _, inferInstance, fun w G cx => cx, 0, rfl, Nat.zero_le _, fun x hx => by simp at hx, rfl, rfl, rfl⟩, ?_⟩
  rintro nI R1 Φ1 k _ ⟨i, rfl, hi, hsm, rfl, rfl, rfl⟩
  refine Br.intro (fun hlt => ?_) (fun hge => fun w G cx => ?_)
  · have hlt : i < m.recs.length := by have := of_decide_eq_true hlt; omega
    obtain ⟨g, o, rfl⟩ := hth (by omega)
    have hx := hterm _ (List.getElem_mem hlt)
    have hxs := hstr _ (List.getElem_mem hlt)
    have hrl := recL_len hx (by omega)
    have hrow : ∀ (w : World) (R G : List Own), Ctx W w (R ++ G) Φ1 → RowAt w g (o + (i : Int).toNat * 2) [.int .i64 m.recs[i].term, .string m.recs[i].data] := fun w R G cx => by rw [Int.toNat_natCast]; exact sl_rec (hΦ _ _ cx.phi) hlt
    refine ⟨⟨by omega, by omega⟩, ptrK_intro g o rfl fun w G cx => ⟨m.recs[i].term, m.recs[i].data, hrow _ _ _ cx, fun w G cx => (RecBytes_in hT hx (by omega)).toS cx fun w G cx => ?_⟩⟩
    have hre := ReadRec_in hN (recL m.recs[i]) (by omega)
    by_cases h100 : m.recs[i].data.size ≤ 100
    · rw [rec_read1 hx (by omega)] at hre
      refine hre.use cx fun w cx => ⟨_, _, true, rfl, R1, Φ1, inferInstance, cx, fun _ => ⟨⟨by omega, by omega⟩, ptrK_intro g o rfl fun w G cx => ⟨m.recs[i].data, hrow _ _ _ cx 1 (by show 1 < 2; decide), Br.intro (fun h => by have := of_decide_eq_true h; omega) (fun _ => fun w G cx => ⟨fun _ => ⟨by omega, by omega⟩, ptrK_intro g o rfl ⟨m.recs[i].term, m.recs[i].data, fun _ => hrow _ _ _ cx, by kernel_rfl, Br.intro (fun h => by simp at h) (fun _ => ⟨by unfold I64; omega, R1, Φ1, m.recs.length - (i + 1), inferInstance, fun w G cx => cx, ⟨i + 1, by omega, by omega, fun x hx => ?_, rfl, rfl, rfl⟩, by omega⟩)⟩⟩)⟩⟩⟩
      rw [List.take_succ_eq_append_getElem hlt] at hx
      rcases List.mem_append.1 hx with hx | hx
      · exact hsm x hx
      · rw [List.mem_singleton.1 hx]; exact h100
    · obtain ⟨y, ok, hf⟩ := resE_any (readE (recL m.recs[i]))
      rw [hf] at hre
      exact hre.use cx fun w cx => ⟨y.term, y.data, ok, rfl, R1, Φ1, inferInstance, cx, fun _ => ⟨⟨by omega, by omega⟩, ptrK_intro g o rfl fun w G cx => ⟨m.recs[i].data, hrow _ _ _ cx 1 (by show 1 < 2; decide), Br.intro (fun _ => fun w G cx => ⟨rfl, cx.left⟩) (fun h => by have := of_decide_eq_false h; omega)⟩⟩⟩
  -- the message, and the string
  have hge : i = m.recs.length := by have := of_decide_eq_false hge; omega
  subst hge
  rw [List.take_length] at hsm
  have hrec : ∀ x ∈ m.recs, I64 x.term ∧ x.data.size ≤ 100 := fun x hx => ⟨hterm x hx, hsm x hx⟩
  have hmw : MsgW m := ⟨fun n hn => by
    have hn : n ∈ [m.kind, m.src, m.to, m.term, m.index, m.prev, m.commit, if m.yes = true then 1 else 0] := hn
    simp only [List.mem_cons, List.not_mem_nil, or_false] at hn
    rcases hn with rfl | rfl | rfl | rfl | rfl | rfl | rfl | rfl
    · exact hok.kind
    · exact hok.src
    · exact hok.to
    · exact hok.term
    · exact hok.index
    · exact hok.prev
    · exact hok.commit
    · split <;> (unfold I64; omega), fun x hx => ⟨(hrec x hx).1, by have := (hrec x hx).2; omega⟩⟩
  have hml : (msgL m).length ≤ 10000 := by
    have h1 := headM_len hmw (by omega)
    have h2 := recsL_len100 hrec
    unfold msgL
    rw [List.length_append]
    omega
  have hread : resM (msgL m) = (m, true) := resM_some (msg_read hmw (by omega))
  obtain ⟨l, rfl⟩ : ∃ l, s = bs l := ⟨s.data.toList, (bs_of s).symm⟩
  rw [bs_size] at hs300
  refine (Bytes_in hT hΦ hmw (by omega)).toS cx fun w G cx => ?_
  refine ReadU_use (S := R1 ++ G) hN (msgL m) (by omega) cx fun _ pa ca w cx => ?_
  rw [hread] at cx ⊢
  have st1 : Stable (fun M w => Φ1 M w ∧ Sl M w pa m.recs) := instStableAnd Φ1 (fun M w => Sl M w pa m.recs)
  refine ⟨_, _, _, _, _, _, _, _, pa, _, ca, true, rfl, R1, _, st1, cx, fun _ w G cx => ?_⟩
  refine ReadU_use (S := R1 ++ G) (Φ := fun M w => Φ1 M w ∧ Sl M w pa m.recs) (fun M w h => hN M w h.1) l (by omega) cx fun hres pb cb w cx => ?_
  obtain ⟨mb, okb, hmb⟩ : ∃ mb okb, resM l = (mb, okb) := ⟨_, _, rfl⟩
  have hlen := hres.len
  have hwb := hres.w
  have hisb := hres.is
  rw [hmb] at cx hlen hwb hisb ⊢
  simp only at cx hlen hwb hisb
  have st2 : Stable (fun M w => (Φ1 M w ∧ Sl M w pa m.recs) ∧ Sl M w pb mb.recs) := instStableAnd (fun M w => Φ1 M w ∧ Sl M w pa m.recs) (fun M w => Sl M w pb mb.recs)
  refine ⟨_, _, _, _, _, _, _, _, pb, _, cb, okb, rfl, R1, _, st2, cx, fun _ w G cx => ?_⟩
  refine Read08U_use (S := R1 ++ G) (Φ := fun M w => (Φ1 M w ∧ Sl M w pa m.recs) ∧ Sl M w pb mb.recs) l (by omega) cx fun pc cc w cx => ?_
  rw [hmb] at cx ⊢
  simp only at cx
  obtain ⟨Ψ, hΨ⟩ : ∃ Ψ : PW, Ψ = (fun M w => ((Φ1 M w ∧ Sl M w pa m.recs) ∧ Sl M w pb mb.recs) ∧ Sl M w pc mb.recs) := ⟨_, rfl⟩
  have st3 : Stable Ψ := by rw [hΨ]; exact instStableAnd (fun M w => (Φ1 M w ∧ Sl M w pa m.recs) ∧ Sl M w pb mb.recs) (fun M w => Sl M w pc mb.recs)
  have k0 : ∀ M w, Ψ M w → Φ1 M w := fun M w h => by rw [hΨ] at h; exact h.1.1.1
  have ka : ∀ M w, Ψ M w → Sl M w pa m.recs := fun M w h => by rw [hΨ] at h; exact h.1.1.2
  have kb : ∀ M w, Ψ M w → Sl M w pb mb.recs := fun M w h => by rw [hΨ] at h; exact h.1.2
  have kc : ∀ M w, Ψ M w → Sl M w pc mb.recs := fun M w h => by rw [hΨ] at h; exact h.2
  have kN : ∀ M w, Ψ M w → NumI M w := fun M w h => hN _ _ (k0 _ _ h)
  have kT : ∀ M w, Ψ M w → TabI M w := fun M w h => (kN _ _ h).1
  rw [← hΨ] at cx
  refine ⟨_, _, _, _, _, _, _, _, pc, _, cc, okb, rfl, R1, Ψ, st3, cx, fun _ w G cx => ?_⟩
  obtain ⟨y, ok, hf, hfok⟩ := resE_form l (by omega)
  have hre := ReadRec_in (Φ := Ψ) kN l (by omega)
  rw [hf] at hre
  refine hre.use cx fun w cx => ⟨y.term, y.data, ok, rfl, R1, Ψ, st3, cx, fun _ => Br.intro (fun h => by cases h) (fun _ => fun w G cx => ?_)⟩
  have any : ∀ {w : World} {R G : List Own} {Ψ : PW} [Stable Ψ], Ctx W w (R ++ G) Ψ → Ctx W w ([] ++ G) (fun _ _ => True) := fun cx => (Ctx.right cx).weak fun _ _ _ => trivial
  refine (SameMsg_yes (Φ := Ψ) (m := m) ka (fun M w h => hΦ _ _ (k0 _ _ h)) (by omega)).toB cx ⟨[], fun _ _ => True, inferInstance, fun w G cx => any cx, Br.intro (fun h => by cases h) (fun _ => fun w G cx => ?_)⟩
  refine (Bytes_in (Φ := Ψ) (m := m) (p := p) (c := c) kT (fun M w h => hΦ _ _ (k0 _ _ h)) hmw (by omega)).toS cx ⟨fun w G cx => any cx, fun w G cx => ?_⟩
  refine (Bytes08_in (Φ := Ψ) (m := m) (p := p) (c := c) (fun M w h => hΦ _ _ (k0 _ _ h)) hmw (by omega)).toS cx (Br.intro (fun h => absurd rfl (of_decide_eq_true h)) (fun _ => Br.intro (fun h => by rw [bne_self_eq_false] at h; cases h) (fun _ => fun w G cx => ?_)))
  refine (SameMsg_yes (Φ := Ψ) (m := mb) kb kc (by omega)).toB cx (Br.intro (fun h => by cases h) (fun _ => Br.intro (fun _ => Br.intro (fun hb => ?_) (fun hb => fun w G cx => ?_)) (fun h => by cases h)))
  · refine Br.intro (fun _ => fun w G cx => ⟨rfl, cx.left.weak k0⟩) (fun ho => fun w G cx => ?_)
    rw [Bool.not_eq_false'] at ho
    obtain ⟨f1, f2, f3⟩ := hfok ho
    refine (RecBytes_in (Φ := Ψ) kT f2 (by omega)).toS cx fun w G cx => ⟨by rw [f1, decide_eq_true rfl], cx.left.weak k0⟩
  · rw [Bool.not_eq_false'] at hb
    have hib := hisb hb
    refine (Bytes_in (Φ := Ψ) (m := mb) (p := pb) (c := cb) kT kb hwb (by omega)).toS cx ?_
    rw [hib]
    refine Br.intro (fun _ => Br.intro (fun _ => fun w G cx => ⟨rfl, cx.left.weak k0⟩) (fun ho => fun w G cx => ?_)) (fun h => absurd rfl (of_decide_eq_false h))
    rw [Bool.not_eq_false'] at ho
    obtain ⟨f1, f2, f3⟩ := hfok ho
    refine (RecBytes_in (Φ := Ψ) kT f2 (by omega)).toS cx fun w G cx => ⟨by rw [f1, decide_eq_true rfl], cx.left.weak k0⟩
end Go.Proofs.YtfpgbejdlikpgaaDoor
end

/-
  MAPS whose keys are an int and a text, and whose values are ints: what is done to them.
-/
section
set_option linter.unusedVariables false
set_option linter.unusedSimpArgs false
namespace Go.Vc

structure MEnt where
  key : Int × ByteArray
  val : Int
  born : Nat
abbrev keyV (k : Int × ByteArray) : Value := .agg #[.int .i64 k.1, .string k.2]
def MEnt.m (e : MEnt) : MapEntry := ⟨keyV e.key, .int .i64 e.val, e.born⟩
structure MapOk (es : List MEnt) (clock : Nat) : Prop where
  keys : es.Pairwise fun a b => a.key ≠ b.key
  borns : es.Pairwise fun a b => a.born ≠ b.born
  lt : ∀ e ∈ es, e.born < clock

structure KeyTy (P : Program) (t k e : TypeId) : Prop where
  map : P.underlying t = some (.map k e)
  str : ∃ fs, P.underlying k = some (.struct fs)
  chk : ∀ b x w, (Instr.checkKey b 10000 k (keyV x)).run P w = .ok () w
  eq : ∀ x y w, (Op.equal k (keyV x) (keyV y)).run P w = .ok (decide (x = y)) w
  zero : ∀ w, (zeroValue e).run P w = .ok (.int .i64 0) w

section
variable {P : Program} {t k e : TypeId} (T : KeyTy P t k e)
include T

end

/-! ### what is owned is read by the call, and stays -/
section
variable {P : Program} {W w : World} {Q R G : List Own} {Φ Ψ : PW} {f : FuncId} {args : Array Value}

structure GivesQ (Q : List Own) (Φ : PW) (P : Program) (f : FuncId) (args : Array Value) (v : Value) : Prop where
  go : ∀ (W w : World) (S : List Own), Ctx W w (Q ++ S) Φ → Calls P f args w fun e w' => e = .returned v ∧ Ctx W w' (Q ++ S) Φ
structure GivesQSl (Q : List Own) (Φ : PW) (P : Program) (f : FuncId) (args : Array Value) {α : Type} [Gv α] (l : List α) : Prop where
  go : ∀ (W w : World) (S : List Own), Ctx W w (Q ++ S) Φ → Calls P f args w fun e w' => ∃ p cap, e = .returned (.slice p l.length cap) ∧ l.length ≤ cap ∧ cap ≤ maxLen ∧ Ctx W w' (Q ++ S) (fun M w => Φ M w ∧ Sl M w p l)

theorem Ctx.inl (c : Ctx W w ((Q ++ R) ++ G) Φ) : Ctx W w (Q ++ (R ++ G)) Φ := c.re (List.append_assoc _ _ _)
theorem Ctx.outl (c : Ctx W w (Q ++ (R ++ G)) Φ) : Ctx W w ((Q ++ R) ++ G) Φ := c.re (List.append_assoc _ _ _).symm

theorem GivesQ.toB [Stable Φ] {b : Bool} (h : GivesQ Q Φ P f args (.bool b)) (c : Ctx W w ((Q ++ R) ++ G) Φ) {K : Bool → List Own → PW → Prop} (hk : K b (Q ++ R) Φ) :
    Calls P f args w fun e w' => ∃ c, e = .returned (.bool c) ∧ ∃ R' Φ', Stable Φ' ∧ Ctx W w' (R' ++ G) Φ' ∧ K c R' Φ' :=
  (h.go W w (R ++ G) c.inl).mono fun e w' ⟨he, c'⟩ => ⟨b, he, Q ++ R, Φ, inferInstance, c'.outl, hk⟩
theorem GivesQ.toI [Stable Φ] {n : Int} {k : IntKind} (h : GivesQ Q Φ P f args (.int k n)) (c : Ctx W w ((Q ++ R) ++ G) Φ) {K : Int → List Own → PW → Prop} (hk : K n (Q ++ R) Φ) :
    Calls P f args w fun e w' => ∃ n, e = .returned (.int k n) ∧ ∃ R' Φ', Stable Φ' ∧ Ctx W w' (R' ++ G) Φ' ∧ K n R' Φ' :=
  (h.go W w (R ++ G) c.inl).mono fun e w' ⟨he, c'⟩ => ⟨n, he, Q ++ R, Φ, inferInstance, c'.outl, hk⟩
theorem GivesQ.toS [Stable Φ] {s : ByteArray} (h : GivesQ Q Φ P f args (.string s)) (c : Ctx W w ((Q ++ R) ++ G) Φ) {K : ByteArray → List Own → PW → Prop} (hk : K s (Q ++ R) Φ) :
    Calls P f args w fun e w' => ∃ s, e = .returned (.string s) ∧ ∃ R' Φ', Stable Φ' ∧ Ctx W w' (R' ++ G) Φ' ∧ K s R' Φ' :=
  (h.go W w (R ++ G) c.inl).mono fun e w' ⟨he, c'⟩ => ⟨s, he, Q ++ R, Φ, inferInstance, c'.outl, hk⟩
end
end Go.Vc
end

/-
  MAPS of any keys and values (plain values of Lean's types): what is done to them.
-/
section
set_option linter.unusedVariables false
set_option linter.unusedSimpArgs false
namespace Go.Vc

variable {κ ν : Type} [DecidableEq κ] {kv : κ → Value} {vv : ν → Value} {z : ν}

structure GEnt (κ ν : Type) where
  key : κ
  val : ν
  born : Nat
def GEnt.m (kv : κ → Value) (vv : ν → Value) (e : GEnt κ ν) : MapEntry := ⟨kv e.key, vv e.val, e.born⟩
def findG (vv : ν → Value) : List (GEnt κ ν) → κ → Nat → Option (Nat × Value)
  | [], _, _ => none
  | e :: es, k, i => if k = e.key then some (i, vv e.val) else findG vv es k (i + 1)

structure GOk (es : List (GEnt κ ν)) (clock : Nat) : Prop where
  keys : es.Pairwise fun a b => a.key ≠ b.key
  borns : es.Pairwise fun a b => a.born ≠ b.born
  lt : ∀ e ∈ es, e.born < clock

/-- a map's type: how its keys are found -/
structure GTy (P : Program) (t k e : TypeId) (kv : κ → Value) (vv : ν → Value) (z : ν) : Prop where
  map : P.underlying t = some (.map k e)
  find : ∀ (x : κ) (es : List (GEnt κ ν)) w, (Instr.findKey k (kv x) (es.map (GEnt.m kv vv))).run P w = .ok (findG vv es x 0) w
  chk : ∀ b x w, (Instr.checkKey b 10000 k (kv x)).run P w = .ok () w
  stays : ∀ x w, (Instr.keyThatStays (kv x) (kv x)).run P w = .ok (kv x) w
  zero : ∀ w, (zeroValue e).run P w = .ok (vv z) w

section
variable {P : Program} {t k e : TypeId} (T : GTy P t k e kv vv z)
include T

end

/-! ### an entry is set -/
section
variable {P : Program} {t k e : TypeId} (T : GTy P t k e kv vv z)
omit [DecidableEq κ] in
end

/-! ### kinds of keys -/
section
variable {P : Program} {t k e : TypeId}
end
end Go.Vc
end

/-
  WHAT THE BOUND ON WHAT COMES IN GIVES: copies of slices as long as these.
-/
section
set_option linter.unusedVariables false
set_option linter.unusedSimpArgs false
namespace Go.Vc
open Go.ChangeShapes Go.WideShapes Go.ChangeAt Go.RowKit

section
variable {P : Program} {W w : World} {S : List Own} {Φ : PW}
end

theorem lawTrueLaidW {H : Type} {enc : TypeId × Value → H} {C : Checked} {os : Os} {f : FuncId} {fn : Func} {s : ChangeSpec} {conds : List PathCond} {apart fresh handsOn : Bool} {tb : TypeId} {ld : List (String × DataW Unit)}
    (own : ownKnob C.prog.godebug = none) (started : os.Started) (noInit : C.prog.inits.idxOf? f = none) (hfn : C.prog.funcs[f]? = some fn)
    (laid : laidOutB C.prog = true) (hvars : s.vars = []) (hspec : ∀ ds : List (DataW H), ds.length = fn.params.toList.length → (s.fn H (ds ++ [])).results = [.lit (.bool true)] ∧ (s.fn H (ds ++ [])).args = ds ∧ (s.fn H (ds ++ [])).vars = [])
    (hres : fn.resultTypes = #[tb]) (htb : C.prog.underlying tb = some .bool)
    (types : (fn.params.toList.all fun t => C.prog.readableRec t && decide (t < C.prog.types.size)) = true)
    (witness : ∃ (w : World) (tape : Tape) (i : Input), w.os = os ∧ (w.forCall tape i).Shaped C.prog ∧ i.vars = [] ∧ Input.okWide C.prog (w.forCall tape i) .any w.heap.size f i ∧
      ((s.pre enc C.prog fn conds apart (w.forCall tape i).memory i.args ∧ laidMetH C.prog ld (w.forCall tape i).memory) ∧ sizedMet enc C.prog fn (OpenSpec.ofChange s) apart (w.forCall tape i).memory i.args) ∧ Assume.holds {} C.prog (lone (Frame.enter C.prog f i.args .normal) [] (w.forCall tape i)))
    (contract : ∀ (W : World) (base : Nat) (args : Array Value) (ds : List (DataW H)) (p : List MemPlace),
      (∀ (j : Nat) t v, fn.params[j]? = some t → args[j]? = some v → Value.okWide C.prog W .any base t v) →
      DataW.TrodAll enc C.prog W 0 (fun _ => true) true fn.params.toList args.toList ds p →
      conds.all (PathCond.test C.prog ⟨fn.params.toList, ds, s.plain.varTypes C.prog, []⟩) = true → laidMetH C.prog ld W →
      (DataW.weightsEach C.prog (fn.params.toList ++ s.plain.varTypes C.prog) ds).all (· ≤ reachBytes) = true →
      Calls C.prog f args W fun e W' => ∃ u, e = .returned u ∧ (u = .bool true ∧ Chg [] W W')) :
    ReturnsInHanded {} C os f .any (fun w args => (s.pre enc C.prog fn conds apart w args ∧ laidMetH C.prog ld w) ∧ sizedMet enc C.prog fn (OpenSpec.ofChange s) apart w args) (s.post enc C.prog fn apart fresh handsOn false) := by
  refine returnsInHanded_of_change_and (X := fun w _ => laidMetH C.prog ld w) (fun _ _ _ hh h => h.of_heap hh) own started noInit hfn witness ?_
  intro W base args ds gs before hval hW hcnd hwt hL _
  have hW' := hW
  obtain ⟨p, q, hA, hV, rfl, _, _⟩ := hW
  rw [hvars] at hV
  obtain ⟨rfl, rfl⟩ := trodVars_none hV
  simp only [List.append_nil] at hW' hwt
  refine (contract W base args ds p hval hA hcnd hL hwt).mono fun e W' ⟨u, he, hu, hc⟩ => ?_
  subst he; subst hu
  have hb : Below W.heap.size W W' := hc.below (Nat.le_refl _) (by simp)
  obtain ⟨e1, e2, e3⟩ := hspec ds (trodAll_length hA).2
  refine ⟨_, rfl, ds, [], p, [], p, [], hW', ?_, ?_, ?_, hb.frame _, fun h => by cases h⟩
  · rw [e1, hres]
    exact trodAll_mk1 (t := tb) (v := .bool true) ⟨1, by simp [DataW.trod, Value.cells, htb]⟩
  · rw [e2]
    exact trodAll_below laid hb types hA (fun x hx => by simpa using hW'.lt x hx)
  · rw [e3, hvars]
    rfl
end Go.Vc
end

/-
  WHAT THE BOUND ON WHAT COMES IN GIVES: the strings inside.
-/
section
set_option linter.unusedVariables false
set_option linter.unusedSimpArgs false
namespace Go.Vc
open Go.ChangeShapes Go.WideShapes Go.ChangeAt Go.RowKit

theorem each_mem {H : Type} {P : Program} : ∀ {ts : List TypeId} {ds : List (DataW H)} {i : Nat} {t : TypeId} {d : DataW H}, ts[i]? = some t → ds[i]? = some d → ∀ z ∈ d.weights P t, z ∈ DataW.weightsEach P ts ds
  | [], _, _, _, _, h, _ => by simp at h
  | _ :: _, [], _, _, _, _, h => by simp at h
  | t0 :: ts, d0 :: ds, 0, t, d, h1, h2 => fun z hz => by
    simp only [List.getElem?_cons_zero, Option.some.injEq] at h1 h2
    subst h1 h2
    unfold DataW.weightsEach
    exact List.mem_append_left _ hz
  | t0 :: ts, d0 :: ds, i + 1, t, d, h1, h2 => fun z hz => by
    rw [List.getElem?_cons_succ] at h1 h2
    unfold DataW.weightsEach
    exact List.mem_append_right _ (each_mem h1 h2 z hz)
theorem all_memW {H : Type} {P : Program} {e : TypeId} : ∀ {ds : List (DataW H)} {d : DataW H}, d ∈ ds → ∀ z ∈ d.weights P e, z ∈ DataW.weightsAll P e ds
  | [], _, h => by cases h
  | d0 :: ds, d, h => fun z hz => by
    unfold DataW.weightsAll
    rcases List.mem_cons.1 h with rfl | h
    · exact List.mem_append_left _ hz
    · exact List.mem_append_right _ (all_memW h z hz)

section
variable {H : Type} {enc : TypeId × Value → H} {P : Program} {w : World} {base : Nat} {sp : Nat → Bool} {held : Bool} {fuel : Nat} {t : TypeId} {cs : List Value} {x : DataW H × List MemPlace}
/-- a field of a struct -/
theorem trod_field {fs : Array Field} (ht : P.underlying t = some (.struct fs)) (h : DataW.trod enc P w base sp held fuel t cs = some x) (hw : ∀ z ∈ x.1.weights P t, z ≤ reachBytes) {i : Nat} {f : Field} (hf : fs[i]? = some f) :
    ∃ n y, DataW.trod enc P w base sp held n f.type ((cs.drop f.offset).take (P.cellsOf f.type)) = some y ∧ ∀ z ∈ y.1.weights P f.type, z ≤ reachBytes := by
  obtain ⟨xs, n, _, rfl, _, hlen, hx⟩ := DataW.trod_struct ht h
  have h1 := hx i f hf
  have hi : i < xs.length := by
    have := (Array.getElem?_eq_some_iff.1 hf).1
    omega
  rw [List.getElem?_eq_getElem hi] at h1
  refine ⟨n, xs[i], h1, fun z hz => hw z ?_⟩
  show z ∈ DataW.weights P t (.agg (xs.map (·.1)))
  unfold DataW.weights
  rw [ht]
  refine each_mem (i := i) (t := f.type) (d := xs[i].1) ?_ ?_ z hz
  · rw [List.getElem?_map, Array.getElem?_toList, hf]; rfl
  · rw [List.getElem?_map, List.getElem?_eq_getElem hi]; rfl
/-- an element of a slice -/
theorem trod_elem {e : TypeId} {p : Option Addr} {n c : Nat} (ht : P.underlying t = some (.slice e)) (h : DataW.trod enc P w base sp held fuel t [.slice p n c] = some x) (hw : ∀ z ∈ x.1.weights P t, z ≤ reachBytes) {j : Nat} (hj : j < n) :
    ∃ m y a cs, p = some a ∧ w.cells? base (a.add (j * P.cellsOf e)) (P.cellsOf e) = some cs ∧ DataW.trod enc P w base sp held m e cs = some y ∧ ∀ z ∈ y.1.weights P e, z ≤ reachBytes := by
  rcases DataW.trod_slice ht h with ⟨hcs, _⟩ | ⟨a, len, cap, elems, rest, m, _, hcs, rfl, _, _, _, hlen, hel, _⟩
  · simp only [List.cons.injEq, Value.slice.injEq, and_true] at hcs
    omega
  · simp only [List.cons.injEq, Value.slice.injEq, and_true] at hcs
    obtain ⟨rfl, rfl, rfl⟩ := hcs
    have h1 := hel j hj
    have hj2 : j < elems.length := by omega
    rw [List.getElem?_eq_getElem hj2] at h1
    cases hc : w.cells? base (a.add (j * P.cellsOf e)) (P.cellsOf e) with
    | none => rw [hc] at h1; cases h1
    | some cs =>
      rw [hc] at h1
      refine ⟨m, elems[j], a, cs, rfl, hc, h1, fun z hz => hw z ?_⟩
      show z ∈ DataW.weights P t (.slice (elems.map (·.1)) (rest.map (·.1)))
      unfold DataW.weights
      rw [ht]
      exact List.mem_cons_of_mem _ (List.mem_append_left _ (all_memW (List.mem_map.2 ⟨elems[j], List.getElem_mem hj2, rfl⟩) z hz))
theorem trod_str (ht : P.underlying t = some .string) (h : DataW.trod enc P w base sp held fuel t cs = some x) (hw : ∀ z ∈ x.1.weights P t, z ≤ reachBytes) : ∃ s : ByteArray, cs = [.string s] ∧ s.size ≤ reachBytes := by
  obtain ⟨s, h1, h2, _⟩ := DataW.trod_string ht h
  refine ⟨s, h1, hw _ ?_⟩
  rw [h2]
  unfold DataW.weights
  have : s.data.toList.length = s.size := by rw [Array.length_toList]; rfl
  rw [this]
  exact List.mem_singleton.2 rfl
end
end Go.Vc
end

/-
  The strings of a message that came in.
-/
section
set_option linter.unusedVariables false
set_option linter.unusedSimpArgs false
namespace Go.Proofs.YtfpgbejdlikpgaaDoor
open Go.Vc Go.ChangeShapes Go.WideShapes Go.ChangeAt Go.RowKit


theorem msg_strs {H : Type} {enc : TypeId × Value → H} {W : World} {d : DataW H} {ps : List MemPlace} {m : MsgR} {p : Option Addr} {c : Nat} (h : DataW.Trod enc Tryd.prog W 0 (fun _ => true) true 24 (.agg (m.cells p c).toArray) d ps) (hw : (d.weights Tryd.prog 24).all (· ≤ reachBytes) = true) (hs : Sl [] W p m.recs) :
    ∀ x ∈ m.recs, x.data.size ≤ 140737488351232 := by
  obtain ⟨fuel, h⟩ := h
  have hw1 : ∀ z ∈ ((d, ps) : DataW H × List MemPlace).1.weights Tryd.prog 24, z ≤ reachBytes := fun z hz => of_decide_eq_true (List.all_eq_true.1 hw z hz)
  obtain ⟨n1, y1, h1, w1⟩ := trod_field Tryd.underlying24 h hw1 (i := 8) rfl
  have w1 : ∀ z ∈ y1.1.weights Tryd.prog 22, z ≤ reachBytes := w1
  have h1 : DataW.trod enc Tryd.prog W 0 (fun _ => true) true n1 22 (((m.cells p c).drop 8).take (Tryd.prog.cellsOf 22)) = some y1 := h1
  rw [show Tryd.prog.cellsOf 22 = 1 by kernel_rfl] at h1
  have h1 : DataW.trod enc Tryd.prog W 0 (fun _ => true) true n1 22 [.slice p m.recs.length c] = some y1 := h1
  intro x hx
  obtain ⟨j, hj, rfl⟩ := List.getElem_of_mem hx
  obtain ⟨m2, y2, a, cs, hp, hc, h2, w2⟩ := trod_elem Tryd.underlying22 h1 w1 hj
  rw [show Tryd.prog.cellsOf 27 = 2 by kernel_rfl] at hc
  obtain ⟨n3, y3, h3, w3⟩ := trod_field Tryd.underlying27 h2 w2 (i := 1) rfl
  have w3 : ∀ z ∈ y3.1.weights Tryd.prog 9, z ≤ reachBytes := w3
  have h3 : DataW.trod enc Tryd.prog W 0 (fun _ => true) true n3 9 ((cs.drop 1).take (Tryd.prog.cellsOf 9)) = some y3 := h3
  rw [show Tryd.prog.cellsOf 9 = 1 by kernel_rfl] at h3
  obtain ⟨s, e, hsz⟩ := trod_str Tryd.underlying9 h3 w3
  obtain ⟨b, o, _, hp2, _⟩ := hs j hj
  rw [hp] at hp2
  cases hp2
  rw [hp] at hs
  have hrow := sl_rec hs hj 1 (by show 1 < 2; decide)
  obtain ⟨_, hn, h4⟩ := World.cells?_some hc
  have h5 := h4 1 (by omega)
  rw [addr_add, addr_add] at h5
  have e2 : cs[1]? = some (.string s) := by
    have e3 : (cs.drop 1).take 1 = [.string s] := e
    have e4 := congrArg (fun z => z[0]?) e3
    simpa using e4
  have h6 : W.cell? ⟨b, o + j * 2 + 1, none⟩ = some (.string s) := by
    rw [← e2]
    exact h5
  have hrow : W.cell? ⟨b, o + j * 2 + 1, none⟩ = some (.string m.recs[j].data) := hrow
  rw [h6] at hrow
  have e5 : s = m.recs[j].data := by
    have := Option.some.inj hrow
    exact (Value.string.inj this)
  rw [← e5]
  exact hsz
end Go.Proofs.YtfpgbejdlikpgaaDoor
end

/-
  From what a row lists as laid to the facts of the walk.
-/
section
set_option linter.unusedVariables false
set_option linter.unusedSimpArgs false
namespace Go.Proofs.YtfpgbejdlikpgaaDoor
open Go.Vc Go.RowKit


theorem la_row (u : TypeId) (h : Tryd.prog.typeName? 3 u = some "*errors.errorString") : u = 124 :=
  typeName_ptr_named (nm := "errors.errorString") (by rw [show "*" ++ "errors.errorString" = "*errors.errorString" by decide]; kernel_rfl) (by kernel_rfl) (by decide) u (by rw [show "*" ++ "errors.errorString" = "*errors.errorString" by decide]; exact h)

theorem la_err {n : String} {text : List UInt8} {r : List (String × DataW Unit)} {W : World} {g : Nat} (h : laidMet Tryd.prog ((n, .iface "*errors.errorString" (.ptr (.agg [.lit (.string text)]))) :: r) W)
    (hg : Tryd.prog.globalNamed n = some g) (ht : (Tryd.prog.globals[g]?).map (·.type) = some 86) : ErrAt g [] W := by
  obtain ⟨a, s, hv, _⟩ := laid_sentinel h hg ht Tryd.underlying86 la_row Tryd.underlying124 Tryd.underlying126 rfl rfl Tryd.underlying9 (by kernel_rfl) (by kernel_rfl)
  exact ⟨by simp, _, by have h0 := World.var?_cell hg hv 0; simpa using h0, .inr ⟨_, _, rfl⟩⟩

theorem la_num {W : World} (h : laidMetH Tryd.prog Rows.replicaBackRow.laid W) : NumI [] W := by
  rw [MakeChecks.laidMetH_plain Tryd.prog Rows.replicaBackRow.laid W (by kernel_rfl)] at h
  have h2 := h.tail.tail
  exact ⟨Tab.start (Lib.tabIs_of_head (k := .u64) (zs := Lib.pow10Tab) (g := 3) (t := 117) (e := 105) (n := 20) (by kernel_rfl) (by kernel_rfl) (by kernel_rfl) (by kernel_rfl) (by kernel_rfl) (by kernel_rfl) h2),
    la_err h2.tail.tail (by kernel_rfl) (by kernel_rfl), la_err h2.tail (by kernel_rfl) (by kernel_rfl)⟩

end Go.Proofs.YtfpgbejdlikpgaaDoor
end

section
set_option linter.unusedVariables false
set_option linter.unusedSimpArgs false
namespace Go.Proofs.YtfpgbejdlikpgaaDoor
open Go.ChangeShapes Go.WideShapes Go.ChangeAt Go.RowKit Go.Vc


theorem df_own : ownKnob Tryd.prog.godebug = none := by kernel_rfl
theorem df_laid : laidOutB Tryd.prog = true := by kernel_rfl

theorem trodAll_n {H : Type} {enc : TypeId × Value → H} {P : Program} {w : World} {base : Nat} {spare : Nat → Bool} {held : Bool} {t0 t1 : TypeId} {args : Array Value} {ds : List (DataW H)} {ps : List MemPlace} (h : DataW.TrodAll enc P w base spare held [t0, t1] args.toList ds ps) :
    ∃ v0 v1 d0 d1 p0 p1, args = #[v0, v1] ∧ ds = [d0, d1] ∧ ps = p0 ++ p1 ∧ DataW.Trod enc P w base spare held t0 v0 d0 p0 ∧ DataW.Trod enc P w base spare held t1 v1 d1 p1 := by
  obtain ⟨v0, vs0, d0, ds0, p0, q0, hargs, rfl, rfl, h0, h⟩ := trodAll_cons h
  obtain ⟨v1, vs1, d1, ds1, p1, q1, rfl, rfl, rfl, h1, h⟩ := trodAll_cons h
  obtain ⟨rfl, rfl, rfl⟩ := trodAll_nil h
  exact ⟨v0, v1, d0, d1, p0, p1, by cases args; simp_all, rfl, by simp, h0, h1⟩

theorem door_met (os : Os) (args : Array Value) : laidMetH Tryd.prog Rows.replicaBackRow.laid ((World.doorLaid Tryd.prog 400 os).forCall (fun _ _ => 0) ⟨#[], args, []⟩).memory :=
  laidMetH_of_parts3 (fuel := 8) (laidMet_of_run' 8 (by kernel_rfl) (by kernel_rfl)) (by kernel_rfl) (by kernel_rfl)

set_option maxRecDepth 100000 in
theorem law_lifted (os : Os) (started : os.Started) (H : Type) (enc : TypeId × Value → H) :
    ReturnsInHanded {} Tryd.checked os 3 .any (fun w args => (Rows.replicaBackSpec.pre enc Tryd.prog Tryd.f3 Rows.replicaBackRow.domain false w args ∧ laidMetH Tryd.prog Rows.replicaBackRow.laid w) ∧ sizedMet enc Tryd.prog Tryd.f3 (OpenSpec.ofChange Rows.replicaBackSpec) false w args) (Rows.replicaBackSpec.post enc Tryd.prog Tryd.f3 false true false false) := by
  refine lawTrueLaidW (C := Tryd.checked) (tb := 4) df_own started (by kernel_rfl) Tryd.func3 df_laid rfl ?_ rfl Tryd.underlying4 (by kernel_rfl)
    (ChangeSpec.witness_shaped (enc := enc) (C := Tryd.checked) (os := os) (X := fun w _ => laidMetH Tryd.prog Rows.replicaBackRow.laid w) false (World.doorLaid Tryd.prog 400 os) #[.agg #[.int .i64 0, .int .i64 0, .int .i64 0, .int .i64 0, .int .i64 0, .int .i64 0, .int .i64 0, .bool false, .slice none 0 0], .string .empty] 8 rfl (World.shaped_of_RefB (by kernel_rfl) (by kernel_rfl)) (by kernel_rfl) (by kernel_rfl) (by kernel_rfl) (door_met os _)) ?_
  · intro ds hd
    match ds, hd with
    | [_, _], _ => exact ⟨rfl, rfl, rfl⟩
  · intro W base args ds p hval0 hA0 _ hL hwt0
    have hval : ∀ (j : Nat) t v, Tryd.f3.params[j]? = some t → args[j]? = some v → Value.okWide Tryd.prog W .any base t v := hval0
    have hA : DataW.TrodAll enc Tryd.prog W 0 (fun _ => true) true Tryd.f3.params.toList args.toList ds p := hA0
    have hwt : (DataW.weightsEach Tryd.prog (Tryd.f3.params.toList ++ [] ++ []) ds).all (· ≤ reachBytes) = true := by rw [List.append_nil]; exact hwt0
    rw [Tryd.params3, List.append_nil, List.append_nil] at hwt
    rw [Tryd.params3] at hA hval
    obtain ⟨v0, v1, d0, d1, p0, p1, rfl, rfl, rfl, h0, h1⟩ := trodAll_n hA
    obtain ⟨mcs, m, rfl, s0⟩ := open_agg (α := MsgR) 12 Tryd.underlying24 (hval 0 24 v0 rfl rfl) (by kernel_rfl) h0
    obtain ⟨s, rfl, rfl, rfl, sw⟩ := Go.ChangeMaps.open_string Tryd.underlying9 (hval 1 9 v1 rfl rfl) h1
    have hw0 : (d0.weights Tryd.prog 24).all (· ≤ reachBytes) = true := by
      have h : ((d0.weights Tryd.prog 24) ++ DataW.weightsEach Tryd.prog [9] [.lit (.string s.data.toList)]).all (· ≤ reachBytes) = true := hwt
      rw [List.all_append, Bool.and_eq_true] at h
      exact h.1
    obtain ⟨mp, mc, rfl, _, _, hok, hsl⟩ := msg_cells s0
    have hstr := msg_strs h0 hw0 hsl
    have st0 : Stable (fun M w => Sl M w mp m.recs) := inferInstance
    have st1 : Stable (fun M w => NumI M w ∧ Sl M w mp m.recs) := instStableAnd (fun M w => NumI M w) (fun M w => Sl M w mp m.recs)
    have fin : GivesIn (fun M w => NumI M w ∧ Sl M w mp m.recs) Tryd.prog 3 #[m.v mp mc, .string s] (.bool true) := Back_in (Φ := fun M w => NumI M w ∧ Sl M w mp m.recs) (fun _ _ h => h.1) (fun _ _ h => h.2) hok hstr
    exact fin.law ⟨la_num hL, hsl⟩

theorem row_holds : Rows.ReplicaBackSaid :=
  OpenClaim.holds_of_wide 3 Tryd.f3 rfl rfl rfl rfl rfl rfl rfl ⟨rfl, rfl, rfl, rfl, rfl⟩ rfl rfl rfl rfl rfl (by kernel_rfl) Tryd.func3 (by kernel_rfl)
    (of_decide_eq_true (by kernel_rfl)) (by unfold Func.isWrapper; first | (rw [if_pos (by decide +kernel)]; kernel_rfl) | (rw [if_neg (by decide +kernel)]; exact ⟨rfl, rfl⟩))
    (fun os started H enc _ => law_lifted os started H enc)

theorem back_holds : Rows.ReplicaBackCardSaid :=
  Claim7.holds_tied_plain_at .later [] [.data, .data, .data, .sentinel, .sentinel] true Rows.replicaBackCard.stood.harness true
    row_holds (fun _ h => by cases h) (by kernel_rfl) (fun _ h => by cases h) replicaBack_row_tie rfl ⟨rfl, rfl⟩ (by kernel_rfl) rfl
    (fun f fn hf hfn => by
      obtain rfl : f = 3 := Option.some.inj ((show Tryd.prog.funcNamed Rows.replicaBackRow.func = some 3 by kernel_rfl).symm.trans hf) |>.symm
      obtain rfl : fn = Tryd.f3 := (Option.some.inj (Tryd.func3.symm.trans hfn)).symm
      exact ⟨by kernel_rfl, fun j t ht => by
        rw [Tryd.params3] at ht
        have hm := Array.mem_of_getElem? ht
        have hall : ((Tryd.f3.params.toList).all fun u => !Tryd.prog.wantsStandIn u) = true := by kernel_rfl
        rw [Tryd.params3] at hall
        exact (show Tryd.prog.wantsStandIn t = false by simpa using List.all_eq_true.1 hall t (by simpa using hm))⟩)
    (by kernel_rfl)

end Go.Proofs.YtfpgbejdlikpgaaDoor
end

