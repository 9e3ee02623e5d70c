/-
  The conditions of the walks of some functions, one formula each; 'B<f>_run' says that they suffice. The formulas are printed by a program; the kernel compares them with the functions' code.
-/
import Derived.Test.YtjlfpkgjcffilaaGreatDoorSB7
import Derived.Test.YtjlfpkgjcffilaaGreatDoorSB8
import Derived.Test.YtjlfpkgjcffilaaGreatDoorSB6
import Derived.Laws.IdiomStrings

section
namespace Go.Proofs.YtjlfpkgjcffilaaGreatDoor
set_option linter.unusedVariables false
set_option linter.unusedSimpArgs false
set_option maxRecDepth 100000
open Go.Vc

/-- wire.items[int] -/
-- loop at region 3: 5 out, 6 n; blocks 
def Mwire_items_int (rB rO : Nat) (oneF : FuncId) (oneB : Array Value) (W : World) (R : List Own) (Φ : PW) (J : Value → World → Prop) : Prop :=
  ∀ (w0 : World) (R1 : List Own), Ctx W w0 (R ++ R1) Φ → Calls Tryz.prog F.wire_Reader_number #[Value.pointer (some (Addr.mk rB rO none)), Value.int IntKind.u8 91, Value.int IntKind.i64 0] w0
  fun (e2 : Ending) (w3 : World) => ∃ (n4 : Int), e2 = Ending.returned (Value.int IntKind.i64 n4) ∧ ∃ (R5 : List Own), ∃ (Φ6 : PW), Stable Φ6 ∧ Ctx W w3 (R5 ++ R1) Φ6 ∧ exI fun (I7 : Option
  Addr → Nat → Nat → Int → List Own → PW → Nat → Prop) => (∃ (R8 : List Own), ∃ (Φ9 : PW), ∃ (k10 : Nat), Stable Φ9 ∧ (∀ (w11 : World) (R12 : List Own), Ctx W w11 (R5 ++ R12) Φ6 → Ctx W w11
  (R8 ++ R12) Φ9) ∧ I7 none 0 0 n4 R8 Φ9 k10) ∧ ∀ (p13 : Option Addr) (k14 k15 : Nat) (n16 : Int) (R17 : List Own) (I18 : List Nat → World → Prop) (k19 : Nat), Stable I18 → I7 p13 k14 k15 n16
  R17 I18 k19 → ∀ (w20 : World) (R21 : List Own), Ctx W w20 (R17 ++ R21) I18 → ∃ (c22 : Bool), (decide (0 < n16) = true → w20.cell? (Addr.mk rB (rO + 1) none) = some (Value.bool c22)) ∧ Br
  (decide (0 < n16) && !c22) (∀ (w23 : World) (R24 : List Own), Ctx W w23 (R17 ++ R24) I18 → okFun Tryz.prog oneF = true ∧ Calls Tryz.prog oneF (Array.mk ((oneB.toList.append []).append []))
  w23 fun (e25 : Ending) (w26 : World) => ∃ (n27 : Int), e25 = Ending.returned (Value.int IntKind.i64 n27) ∧ ∃ (R28 : List Own), ∃ (Φ29 : PW), Stable Φ29 ∧ Ctx W w26 (R28 ++ R24) Φ29 ∧ ∀ (k30
  : Nat) (w31 : World) (R32 : List Own), Ctx W w31 (Own.blk k30 [Value.int IntKind.i64 n27] 3 :: R28 ++ R32) Φ29 → ∃ (p33 : Option Addr), ∃ (k34 : Nat), ∃ (k35 : Nat), ∃ (w36 : World),
  Sem.run Tryz.prog (builtin Builtin.append #[50, 50] 50 #[false, false] #[Value.slice p13 k14 k15, Value.slice (some (Addr.mk k30 0 none)) 1 1]) w31 = Result.ok (Next.value (Value.slice p33
  k34 k35)) w36 ∧ ∃ (R37 : List Own), ∃ (Φ38 : PW), Stable Φ38 ∧ Ctx W w36 (R37 ++ R32) Φ38 ∧ I64 (n16 - 1) ∧ ∃ (R39 : List Own), ∃ (Φ40 : PW), ∃ (k41 : Nat), Stable Φ40 ∧ (∀ (w42 : World)
  (R43 : List Own), Ctx W w42 (R37 ++ R43) Φ38 → Ctx W w42 (R39 ++ R43) Φ40) ∧ I7 p33 k34 k35 (n16 - 1) R39 Φ40 k41 ∧ k41 < k19) (∀ (w44 : World) (R45 : List Own), Ctx W w44 (R17 ++ R45) I18
  → Calls Tryz.prog F.wire_Reader_close #[Value.pointer (some (Addr.mk rB rO none)), Value.string (ByteArray.mk #[OfNat.ofNat 93])] w44 fun (e46 : Ending) (w47 : World) => e46 =
  Ending.returned (Value.tuple #[]) ∧ ∃ (R48 : List Own), ∃ (Φ49 : PW), Stable Φ49 ∧ Ctx W w47 (R48 ++ R45) Φ49 ∧ ∀ (w50 : World) (R51 : List Own), Ctx W w50 (R48 ++ R51) Φ49 → ∃ (c52 :
  Bool), w50.cell? (Addr.mk rB (rO + 1) none) = some (Value.bool c52) ∧ Br c52 (∀ (w53 : World) (R54 : List Own), Ctx W w53 (R48 ++ R54) Φ49 → J (Value.slice none 0 0) w53) (∀ (w55 : World)
  (R56 : List Own), Ctx W w55 (R48 ++ R56) Φ49 → J (Value.slice p13 k14 k15) w55))

theorem Mwire_items_int_run (rB rO : Nat) (oneF : FuncId) (oneB : Array Value) {W w : World} {R : List Own} {Φ : PW} [Stable Φ] {J : Value → World → Prop} (c : Ctx W w R Φ) (h : Mwire_items_int rB rO oneF oneB W R Φ J) : Calls Tryz.prog F.wire_items_int #[.pointer (some ⟨rB, rO, none⟩), .func (.func oneF) oneB #[]] w fun e w' => ∃ v, e = .returned v ∧ J v w' :=
  vcFS_sound (H := { keep := some [0, 1, 4, 5, 6, 17, 30], wrap := [22], loops := [(3, [(5, .one (.slice)), (6, .one (.int .i64))], [])] }) (by rw [show vcFS Tryz.prog W { keep := some [0, 1, 4, 5, 6, 17, 30], wrap := [22], loops := [(3, [(5, .one (.slice)), (6, .one (.int .i64))], [])] } F.wire_items_int #[.pointer (some ⟨rB, rO, none⟩), .func (.func oneF) oneB #[]] R Φ J = Mwire_items_int rB rO oneF oneB W R Φ J by kernel_rfl]; exact h) c

/-- errataref01.Back -/
-- loop at region 6: 5 n, 6 i; blocks 
def Merrataref01_Back (s : ByteArray) (W : World) (R : List Own) (Φ : PW) (J : Value → World → Prop) : Prop :=
  ∀ (w0 : World) (R1 : List Own), Ctx W w0 (R ++ R1) Φ → ∃ (u2 : UInt8), (decide (0 < (↑s.size : Int)) = true → (0 : Int) ≤ 0 ∧ s.data.toList.get?Internal 0 = some u2) ∧ Br (decide (0 <
  (↑s.size : Int)) && decide ((↑u2.toNat : Int) = 45)) (exI fun (I3 : Int → Int → List Own → PW → Nat → Prop) => (∃ (R4 : List Own), ∃ (Φ5 : PW), ∃ (k6 : Nat), Stable Φ5 ∧ (∀ (w7 : World) (R8
  : List Own), Ctx W w7 (R ++ R8) Φ → Ctx W w7 (R4 ++ R8) Φ5) ∧ I3 0 1 R4 Φ5 k6) ∧ ∀ (n9 n10 : Int) (R11 : List Own) (I12 : List Nat → World → Prop) (k13 : Nat), Stable I12 → I3 n9 n10 R11
  I12 k13 → Br (decide (n10 < (↑s.size : Int))) (∀ (w14 : World) (R15 : List Own), Ctx W w14 (R11 ++ R15) I12 → ∃ (u16 : UInt8), (0 ≤ n10 ∧ s.data.toList.get?Internal n10.toNat = some u16) ∧
  ∃ (u17 : UInt8), ((!decide ((↑u16.toNat : Int) < 48)) = true → 0 ≤ n10 ∧ s.data.toList.get?Internal n10.toNat = some u17) ∧ Br (decide ((↑u16.toNat : Int) < 48) || decide (57 < (↑u17.toNat
  : Int)) || decide (20 < n10)) (∀ (w18 : World) (R19 : List Own), Ctx W w18 (R11 ++ R19) I12 → J (Value.tuple #[Value.int IntKind.i64 0, Value.bool false]) w18) (∃ (u20 : UInt8), (0 ≤ n10 ∧
  s.data.toList.get?Internal n10.toNat = some u20) ∧ I64 (n10 + 1) ∧ ∃ (R21 : List Own), ∃ (Φ22 : PW), ∃ (k23 : Nat), Stable Φ22 ∧ (∀ (w24 : World) (R25 : List Own), Ctx W w24 (R11 ++ R25)
  I12 → Ctx W w24 (R21 ++ R25) Φ22) ∧ I3 (IntKind.i64.wrap (IntKind.i64.wrap (10 * n9) - IntKind.i64.wrap (IntKind.u8.wrap ((↑u20.toNat : Int) - 48)))) (n10 + 1) R21 Φ22 k23 ∧ k23 < k13)) (∀
  (w26 : World) (R27 : List Own), Ctx W w26 (R11 ++ R27) I12 → Calls Tryz.prog F.errataref01_Int #[Value.int IntKind.i64 n9] w26 fun (e28 : Ending) (w29 : World) => ∃ (s30 : ByteArray), e28 =
  Ending.returned (Value.string s30) ∧ ∃ (R31 : List Own), ∃ (Φ32 : PW), Stable Φ32 ∧ Ctx W w29 (R31 ++ R27) Φ32 ∧ (s.size + (ByteArray.mk #[OfNat.ofNat 59]).size).le 9223372036854775807 ∧ ∀
  (w33 : World) (R34 : List Own), Ctx W w33 (R31 ++ R34) Φ32 → J (Value.tuple #[Value.int IntKind.i64 n9, Value.bool (decide (s30 = s ++ ByteArray.mk #[OfNat.ofNat 59]))]) w33)) (exI fun (I35
  : Int → Int → List Own → PW → Nat → Prop) => (∃ (R36 : List Own), ∃ (Φ37 : PW), ∃ (k38 : Nat), Stable Φ37 ∧ (∀ (w39 : World) (R40 : List Own), Ctx W w39 (R ++ R40) Φ → Ctx W w39 (R36 ++
  R40) Φ37) ∧ I35 0 0 R36 Φ37 k38) ∧ ∀ (n41 n42 : Int) (R43 : List Own) (I44 : List Nat → World → Prop) (k45 : Nat), Stable I44 → I35 n41 n42 R43 I44 k45 → Br (decide (n42 < (↑s.size : Int)))
  (∀ (w46 : World) (R47 : List Own), Ctx W w46 (R43 ++ R47) I44 → ∃ (u48 : UInt8), (0 ≤ n42 ∧ s.data.toList.get?Internal n42.toNat = some u48) ∧ ∃ (u49 : UInt8), ((!decide ((↑u48.toNat : Int)
  < 48)) = true → 0 ≤ n42 ∧ s.data.toList.get?Internal n42.toNat = some u49) ∧ Br (decide ((↑u48.toNat : Int) < 48) || decide (57 < (↑u49.toNat : Int)) || decide (20 < n42)) (∀ (w50 : World)
  (R51 : List Own), Ctx W w50 (R43 ++ R51) I44 → J (Value.tuple #[Value.int IntKind.i64 0, Value.bool false]) w50) (∃ (u52 : UInt8), (0 ≤ n42 ∧ s.data.toList.get?Internal n42.toNat = some
  u52) ∧ I64 (n42 + 1) ∧ ∃ (R53 : List Own), ∃ (Φ54 : PW), ∃ (k55 : Nat), Stable Φ54 ∧ (∀ (w56 : World) (R57 : List Own), Ctx W w56 (R43 ++ R57) I44 → Ctx W w56 (R53 ++ R57) Φ54) ∧ I35
  (IntKind.i64.wrap (IntKind.i64.wrap (10 * n41) - IntKind.i64.wrap (IntKind.u8.wrap ((↑u52.toNat : Int) - 48)))) (n42 + 1) R53 Φ54 k55 ∧ k55 < k45)) (∀ (w58 : World) (R59 : List Own), Ctx W
  w58 (R43 ++ R59) I44 → Calls Tryz.prog F.errataref01_Int #[Value.int IntKind.i64 (IntKind.i64.wrap (0 - n41))] w58 fun (e60 : Ending) (w61 : World) => ∃ (s62 : ByteArray), e60 =
  Ending.returned (Value.string s62) ∧ ∃ (R63 : List Own), ∃ (Φ64 : PW), Stable Φ64 ∧ Ctx W w61 (R63 ++ R59) Φ64 ∧ (s.size + (ByteArray.mk #[OfNat.ofNat 59]).size).le 9223372036854775807 ∧ ∀
  (w65 : World) (R66 : List Own), Ctx W w65 (R63 ++ R66) Φ64 → J (Value.tuple #[Value.int IntKind.i64 (IntKind.i64.wrap (0 - n41)), Value.bool (decide (s62 = s ++ ByteArray.mk #[OfNat.ofNat
  59]))]) w65))

theorem Merrataref01_Back_run (s : ByteArray) {W w : World} {R : List Own} {Φ : PW} [Stable Φ] {J : Value → World → Prop} (c : Ctx W w R Φ) (h : Merrataref01_Back s W R Φ J) : Calls Tryz.prog F.errataref01_Back #[.string s] w fun e w' => ∃ v, e = .returned v ∧ J v w' :=
  vcFS_sound (H := { keep := some [0, 2, 3, 4, 5, 6, 14, 19, 35, 45], wrap := [37, 43, 47], loops := [(6, [(5, .one (.int .i64)), (6, .one (.int .i64))], [])] }) (by rw [show vcFS Tryz.prog W { keep := some [0, 2, 3, 4, 5, 6, 14, 19, 35, 45], wrap := [37, 43, 47], loops := [(6, [(5, .one (.int .i64)), (6, .one (.int .i64))], [])] } F.errataref01_Back #[.string s] R Φ J = Merrataref01_Back s W R Φ J by kernel_rfl]; exact h) c

end Go.Proofs.YtjlfpkgjcffilaaGreatDoor
end

/-
  The reading of sinks, walked: lists of ints, lines.
-/
section
set_option linter.unusedVariables false
set_option linter.unusedSimpArgs false
namespace Go.Proofs.YtjlfpkgjcffilaaGreatDoor
open Go.Vc


/-! ### what is known of what was read -/
theorem num_from : ∀ (k : Nat) (st st' : RdS) (acc out : List LineD), linesK k st acc = some (out, st') → numK 1 acc = true → numK 1 out = true
  | 0, st, st', acc, out, h, ha => by
    have h : some (acc, st) = some (out, st') := h
    cases h
    exact ha
  | k + 1, st, st', acc, out, h, ha => by
    unfold linesK at h
    obtain ⟨⟨x, s2⟩, h1, h2⟩ := Option.bind_eq_some_iff.1 h
    refine num_from k s2 st' _ out h2 (num_app ha ?_)
    have := (line_eats h1).2.2.2.2.2.2.2.1
    show (decide (x.no = 1 + (acc.length : Int)) && true) = true
    rw [this, decide_eq_true (by omega)]
    rfl
theorem itemsK_len : ∀ (k : Nat) (st : RdS) (acc : List Int), (itemsK k st acc).2.1.length ≤ st.1.length ∧ (itemsK k st acc).1.length * 2 ≤ acc.length * 2 + st.1.length + 2
  | 0, st, acc => ⟨Nat.le_refl _, by show acc.length * 2 ≤ _; omega⟩
  | k + 1, st, acc => by
    cases hb : st.2 with
    | true => rw [itemsK_e hb]; exact ⟨Nat.le_refl _, by show acc.length * 2 ≤ _; omega⟩
    | false =>
      rw [itemsK_s hb]
      rcases rdInt_eats st with ⟨e, _⟩ | ⟨e, _⟩
      · rw [e, itemsK_e rfl]
        refine ⟨Nat.zero_le _, ?_⟩
        show (acc ++ [_]).length * 2 ≤ _
        rw [List.length_append, List.length_singleton]; omega
      · obtain ⟨h1, h2⟩ := itemsK_len k (rdInt st).2 (acc ++ [(rdInt st).1])
        rw [List.length_append, List.length_singleton] at h2
        omega
theorem numsK_len {st s1 : RdS} {out : List Int} (e : numsK st = (out, s1)) : s1.1.length ≤ st.1.length ∧ out.length * 2 ≤ st.1.length + 2 := by
  have h1 := stepN_len 91 0 st
  obtain ⟨h2, h3⟩ := itemsK_len (stepN 91 0 st).1.toNat (stepN 91 0 st).2 []
  have h4 := stepC_len 93 (itemsK (stepN 91 0 st).1.toNat (stepN 91 0 st).2 []).2
  have e1 : (if (stepC 93 (itemsK (stepN 91 0 st).1.toNat (stepN 91 0 st).2 []).2).2 then [] else (itemsK (stepN 91 0 st).1.toNat (stepN 91 0 st).2 []).1, stepC 93 (itemsK (stepN 91 0 st).1.toNat (stepN 91 0 st).2 []).2) = (out, s1) := e
  injection e1 with e1 e2
  rw [← e2, ← e1]
  rw [List.length_nil] at h3
  refine ⟨by omega, ?_⟩
  split
  · rw [List.length_nil]; omega
  · omega
theorem lineK_eats {nx : Int} {st st' : RdS} {x : LineD} (h : lineK nx st = some (x, st')) : st'.1.length + 7 ≤ st.1.length ∧ x.row.length ≤ st.1.length ∧ I64 x.batch ∧ I64 x.time ∧ I64 x.n ∧ I64 x.cause ∧ I64 x.why ∧ x.no = nx := by
  obtain ⟨h1, h2, _, h4, h5, h6, h7, h8, h9⟩ := line_eats h
  have := rdInt_len st
  exact ⟨by omega, by omega, by rw [h9]; exact rdInt_i64 st, h4, h5, h6, h7, h8⟩

section
variable {W w : World} {R G S : List Own} {Φ : PW} {b : Nat} {st : RdS}

set_option maxHeartbeats 1000000 in
theorem Items_use [Stable Φ] (hΦ : ∀ M w, Φ M w → NumI M w) (hl : st.1.length ≤ 10000000) (c : Ctx W w (rd b st :: S) Φ) {K : Ending → World → Prop}
    (hk : ∀ p c w', (numsK st).1.length ≤ c → c ≤ maxLen → Ctx W w' (rd b (numsK st).2 :: S) (fun M w => Φ M w ∧ Sl M w p (numsK st).1) → K (.returned (.slice p (numsK st).1.length c)) w') :
    Calls Tryz.prog F.wire_items_int #[.pointer (some ⟨b, 0, none⟩), .func (.func F.wire_Reader_Int) #[.pointer (some ⟨b, 0, none⟩)] #[]] w K := by
  refine (Mwire_items_int_run b 0 F.wire_Reader_Int #[.pointer (some ⟨b, 0, none⟩)] (J := fun u w' => K (.returned u) w') (R := rd b st :: S) c ?_).mono fun e w' ⟨v, he, hj⟩ => by rw [he]; exact hj
  clear c
  refine fun w G cx => number_to (S := S) hΦ 91 0 (by omega) cx ?_
  clear cx
  have hlen := stepN_len 91 0 st
  have hnn := stepN_nonneg (e := 91) (.inr (.inr rfl)) st
  rw [show (91 : Int).toNat.toUInt8 = 91 from rfl]
  have hall : numsK st = (if (stepC 93 (itemsK (stepN 91 0 st).1.toNat (stepN 91 0 st).2 []).2).2 then [] else (itemsK (stepN 91 0 st).1.toNat (stepN 91 0 st).2 []).1, stepC 93 (itemsK (stepN 91 0 st).1.toNat (stepN 91 0 st).2 []).2) := rfl
  obtain ⟨⟨n0, st0⟩, hst⟩ : ∃ x, stepN 91 0 st = x := ⟨_, rfl⟩
  rw [hst] at hlen hnn hall ⊢
  simp only at hlen hnn hall ⊢
  refine exI_mk (fun p n c m R' Φ' k => ∃ (s1 : RdS) (acc : List Int), n = acc.length ∧ R' = bufZ p c acc :: rd b s1 :: S ∧ Φ' = Φ ∧ k = m.toNat ∧ 0 ≤ m ∧ m ≤ 9223372036854775807 ∧ s1.1.length ≤ st.1.length ∧ (s1.2 = false → acc.length * 2 + s1.1.length ≤ st.1.length) ∧ acc.length * 2 ≤ st.1.length + 2 ∧ (∀ x ∈ acc, I64 x) ∧ itemsK n0.toNat st0 [] = itemsK m.toNat s1 acc)
    ⟨⟨bufZ none 0 [] :: rd b st0 :: S, Φ, _, inferInstance, fun w G cx => cx.nobuf 3 1, st0, [], rfl, rfl, rfl, rfl, hnn.1, hnn.2, hlen, fun _ => by simp only [List.length_nil]; omega, by simp, by simp, rfl⟩, ?_⟩
  rintro p n c m R1 Φ1 k _ ⟨s1, acc, rfl, rfl, rfl, rfl, hm0, hm1, hsl, hal, hal2, hai, hit⟩
  refine fun w G cx => ⟨s1.2, fun _ => cx.get 1 rfl rfl, ?_⟩
  clear cx
  refine Br.intro (fun hgo => fun w G cx => ⟨by kernel_rfl, ?_⟩) (fun hstop => ?_)
  · rw [Bool.and_eq_true] at hgo
    have hpos := of_decide_eq_true hgo.1
    have hgood : s1.2 = false := by simpa using hgo.2
    have hal := hal hgood
    refine RInt_to (S := bufZ p c acc :: S) hΦ (by omega) cx.swap ?_
    clear cx
    refine fun kb w G cx => ?_
    have cx1 : Ctx W w (.blk kb [.int .i64 (rdInt s1).1] 3 :: bufZ p c acc :: (rd b (rdInt s1).2 :: S) ++ G) Φ1 := cx.perm ((List.Perm.swap _ _ _).cons _)
    obtain ⟨p', c', w', hrun, cx'⟩ := pushZ (by omega) cx1
    refine ⟨p', _, c', w', hrun, _, Φ1, inferInstance, cx', by unfold I64; omega, _, Φ1, (m - 1).toNat, inferInstance, fun w G cx => cx, ⟨(rdInt s1).2, acc ++ [(rdInt s1).1], rfl, rfl, rfl, rfl, by omega, by omega, ?_, ?_, ?_, ?_, ?_⟩, by omega⟩
    · have := rdInt_len s1
      omega
    · intro hg2
      rw [List.length_append, List.length_singleton]
      rcases rdInt_eats s1 with ⟨e, _⟩ | ⟨e, _⟩
      · rw [e] at hg2; cases hg2
      · omega
    · rw [List.length_append, List.length_singleton]
      omega
    · intro x hx
      rcases List.mem_append.1 hx with hx | hx
      · exact hai x hx
      · rw [List.mem_singleton.1 hx]; exact rdInt_i64 _
    · rw [hit, show m.toNat = (m - 1).toNat + 1 by omega, itemsK_s hgood]
  · have hend : itemsK n0.toNat st0 [] = (acc, s1) := by
      rw [hit]
      rcases Bool.and_eq_false_iff.1 hstop with h | h
      · have := of_decide_eq_false h
        rw [show m.toNat = 0 by omega]; rfl
      · exact itemsK_e (by simpa using h)
    rw [hend] at hall
    simp only at hall
    refine fun w G cx => close_to (S := bufZ p c acc :: S) 93 cx.swap ?_
    clear cx
    refine fun w G cx => ⟨(stepC 93 s1).2, cx.get 0 rfl rfl, Br.intro (fun hb => fun w G cx => ?_) (fun hb => fun w G cx => ?_)⟩
    · have e : numsK st = ([], stepC 93 s1) := by rw [hall, if_pos hb]
      rw [e] at hk
      have cy : Ctx W w (bufZ p c acc :: rd b (stepC 93 s1) :: S) Φ1 := cx.swap.left
      exact hk none 0 w (Nat.le_refl _) (Nat.zero_le _) (cy.drop1.weak fun M w h => ⟨h, Sl.nil⟩)
    · have e : numsK st = (acc, stepC 93 s1) := by rw [hall, if_neg (by rw [hb]; simp)]
      rw [e] at hk
      have cy : Ctx W w (bufZ p c acc :: rd b (stepC 93 s1) :: S) Φ1 := cx.swap.left
      obtain ⟨cx3, hs, _, g1, g2⟩ := Ctx.freeze (α := Int) cy (ints_elems acc hai)
      exact hk p c w g1 g2 (cx3.add hs)
theorem Nums_to [Stable Φ] (hΦ : ∀ M w, Φ M w → NumI M w) (hl : st.1.length ≤ 10000000) {out : List Int} {s1 : RdS} (e : numsK st = (out, s1)) (c : Ctx W w (rd b st :: S ++ G) Φ) {K : Option Addr → Nat → Nat → List Own → PW → Prop}
    (hk : ∀ p c, out.length ≤ c → c ≤ maxLen → Stable (fun M w => Φ M w ∧ Sl M w p out) → K p out.length c (rd b s1 :: S) (fun M w => Φ M w ∧ Sl M w p out)) :
    Calls Tryz.prog F.wire_Reader_Nums #[.pointer (some ⟨b, 0, none⟩)] w fun e w' => ∃ p n c, e = .returned (.slice p n c) ∧ ∃ R' Φ', Stable Φ' ∧ Ctx W w' (R' ++ G) Φ' ∧ K p n c R' Φ' := by
  refine (Bwire_Reader_Nums_run b 0 (J := fun u w' => ∃ p n c, (Ending.returned u) = .returned (.slice p n c) ∧ ∃ R' Φ', Stable Φ' ∧ Ctx W w' (R' ++ G) Φ' ∧ K p n c R' Φ') (R := rd b st :: (S ++ G)) c ?_).mono fun e w' ⟨v, he, hj⟩ => by rw [he]; exact hj
  clear c
  refine fun w G2 cx => Items_use (S := (S ++ G) ++ G2) hΦ hl cx fun p c w g1 g2 cx => ?_
  rw [e] at g1 cx ⊢
  exact ⟨p, _, c, rfl, rd b s1 :: (S ++ G), _, inferInstance, cx, fun w G3 cx => ⟨p, _, c, rfl, rd b s1 :: S, _, inferInstance, Ctx.left (S := rd b s1 :: (S ++ G)) cx, hk p c g1 g2 inferInstance⟩⟩
theorem RInt_toE [Stable Φ] (hΦ : ∀ M w, Φ M w → NumI M w) (hl : st.1.length ≤ 1000000000) {n : Int} {s1 : RdS} (e : rdInt st = (n, s1)) (c : Ctx W w (rd b st :: S ++ G) Φ) {K : Int → List Own → PW → Prop}
    (hk : K n (rd b s1 :: S) Φ) :
    Calls Tryz.prog F.wire_Reader_Int #[.pointer (some ⟨b, 0, none⟩)] w fun e w' => ∃ n, e = .returned (.int .i64 n) ∧ ∃ R' Φ', Stable Φ' ∧ Ctx W w' (R' ++ G) Φ' ∧ K n R' Φ' :=
  RInt_to hΦ hl c (by rw [e]; exact hk)

/-! ### lines -/
theorem pushK {PS : PW} [Stable PS] {op : Option Addr} {oc : Nat} {ds : List Value} {o : List LineD} {x : LineD} {a : Option Addr} {ac kb : Nat} (hx : ∀ M w, PS M w → Gv.rep M w (x.cells a ac) x) (ho : o.length < 10000000)
    (cx : Ctx W w (.blk kb (x.cells a ac) 46 :: .buf op o.length oc ds 46 7 :: R ++ G) (fun M w => PS M w ∧ Elems M w ds o)) :
    ∃ p c w', Sem.run Tryz.prog (builtin Builtin.append #[33, 33] 33 #[false, false] #[.slice op o.length oc, .slice (some ⟨kb, 0, none⟩) 1 1]) w = .ok (.value (.slice p (o ++ [x]).length c)) w' ∧ Ctx W w' (.buf p (o ++ [x]).length c (ds ++ x.cells a ac) 46 7 :: R ++ G) (fun M w => PS M w ∧ Elems M w (ds ++ x.cells a ac) (o ++ [x])) := by
  obtain ⟨p', cap', w', hrun, _, cx'⟩ := Ctx.app1 (P := Tryz.prog) (ts := 33) (ty := 33) (kb := #[false, false]) (size := 7) (bytes := 72) cx (by kernel_rfl) (by omega) rfl rfl (by omega) (by omega)
  have e : o.length + 1 = (o ++ [x]).length := by simp
  rw [e] at hrun cx'
  exact ⟨p', cap', w', hrun, cx'.weak fun M w h => ⟨h.1, h.2.snoc (hx M w h.1)⟩⟩

set_option maxHeartbeats 2000000 in
theorem readLines_to [Stable Φ] (hΦ : ∀ M w, Φ M w → NumI M w) (hl : st.1.length ≤ 3000000) (c : Ctx W w (rd b st :: S ++ G) Φ) {K : Option Addr → Nat → Nat → Bool → List Own → PW → Prop}
    (h0 : readLinesK st = none → ∀ s1, s1.1.length ≤ st.1.length → K none 0 0 false (rd b s1 :: S) Φ)
    (h1 : ∀ l s1 p c cs, readLinesK st = some (l, s1) → l.length * 7 + s1.1.length ≤ st.1.length → (∀ x ∈ l, x.row.length ≤ 3000000) → (0 < l.length → ∃ g, p = some ⟨g, 0, none⟩) → Stable (fun M w => Φ M w ∧ Elems M w cs l) → K p l.length c true (bufL p l.length c cs :: rd b s1 :: S) (fun M w => Φ M w ∧ Elems M w cs l)) :
    Calls Tryz.prog F.sink_readLines #[.pointer (some ⟨b, 0, none⟩)] w fun e w' => ∃ p n c ok, e = .returned (.tuple #[.slice p n c, .bool ok]) ∧ ∃ R' Φ', Stable Φ' ∧ Ctx W w' (R' ++ G) Φ' ∧ K p n c ok R' Φ' := by
  refine (Bsink_readLines_run b 0 (J := fun u w' => ∃ p n c ok, (Ending.returned u) = .returned (.tuple #[.slice p n c, .bool ok]) ∧ ∃ R' Φ', Stable Φ' ∧ Ctx W w' (R' ++ G) Φ' ∧ K p n c ok R' Φ') (R := rd b st :: (S ++ G)) c ?_).mono fun e w' ⟨v, he, hj⟩ => by rw [he]; exact hj
  clear c
  refine fun w G2 cx => RNum_to (S := S ++ G) hΦ (by omega) cx ?_
  clear cx
  have hlen : (rdNat st).2.1.length ≤ st.1.length := stepN_len 59 0 st
  have hnn : 0 ≤ (rdNat st).1 ∧ (rdNat st).1 ≤ 9223372036854775807 := stepN_nonneg (e := 59) (.inr (.inl rfl)) st
  have hall : readLinesK st = linesK (rdNat st).1.toNat (rdNat st).2 [] := rfl
  obtain ⟨⟨n0, st0⟩, hst⟩ : ∃ x, rdNat st = x := ⟨_, rfl⟩
  rw [hst] at hlen hnn hall ⊢
  simp only at hlen hnn hall ⊢
  refine exI_mk (fun p n c R' Φ' k => ∃ (sl : RdS) (acc : List LineD) (ds : List Value), n = acc.length ∧ R' = bufL p n c ds :: rd b sl :: (S ++ G) ∧ Φ' = (fun M w => Φ M w ∧ Elems M w ds acc) ∧ k = (n0 - acc.length).toNat ∧ acc.length * 7 + sl.1.length ≤ st.1.length ∧ (∀ x ∈ acc, x.row.length ≤ 3000000) ∧ (acc.length : Int) ≤ n0 ∧ linesK n0.toNat st0 [] = linesK (n0 - acc.length).toNat sl acc)
    ⟨⟨bufL none 0 0 [] :: rd b st0 :: (S ++ G), fun M w => Φ M w ∧ Elems M w [] ([] : List LineD), _, inferInstance, fun w G cx => (cx.nobuf 46 7).weak fun M w h => ⟨h, Elems.nil⟩, st0, [], [], rfl, rfl, rfl, rfl, by simp only [List.length_nil]; omega, by simp, by simp only [List.length_nil]; omega, by simp⟩, ?_⟩
  rintro p n c R1 Φ1 k _ ⟨sl, acc, ds, rfl, rfl, rfl, rfl, hal, har, han, hlr⟩
  have hst1 : Stable (fun M w => Φ M w ∧ Elems M w ds acc) := inferInstance
  have hT1 : ∀ M w, (Φ M w ∧ Elems M w ds acc) → NumI M w := fun M w h => hΦ M w h.1
  refine Br.intro (fun hlt => ⟨by unfold I64; omega, ?_⟩) (fun hge => fun w G2 cx => ?_)
  · have hlt := of_decide_eq_true hlt
    have hkk : (n0 - (acc.length : Int)).toNat = (n0 - ((acc.length + 1 : Nat) : Int)).toNat + 1 := by omega
    rw [hkk] at hlr
    have hls : lineK ((acc.length : Int) + 1) sl = lineR ((acc.length : Int) + 1) (rdInt sl).1 (rdInt sl).2 := rfl
    obtain ⟨bt, hbt⟩ : ∃ bt, (rdInt sl).1 = bt := ⟨_, rfl⟩
    obtain ⟨s2, hs2⟩ : ∃ s2, (rdInt sl).2 = s2 := ⟨_, rfl⟩
    have q0 := rdInt_len sl
    rw [hs2] at q0
    rw [hbt, hs2] at hls
    have q1 := rdInt_len s2
    obtain ⟨q2, q3⟩ := stepT_len (rdInt s2).2
    have q4 := rdInt_len (stepT (rdInt s2).2).2
    have q5 := rdInt_len (rdInt (stepT (rdInt s2).2).2).2
    refine fun w G2 cx => RInt_to (S := bufL p acc.length c ds :: (S ++ G)) hT1 (by omega) cx.swap ?_
    clear cx
    rw [hbt, hs2]
    refine fun w G2 cx => RInt_to (S := bufL p acc.length c ds :: (S ++ G)) hT1 (by omega) cx ?_
    clear cx
    refine fun _ w G2 cx => Text_to (S := bufL p acc.length c ds :: (S ++ G)) hT1 (by omega) cx ?_
    clear cx
    refine fun w G2 cx => ReadRowS_to (R := rd b (stepT (rdInt s2).2).2 :: bufL p acc.length c ds :: (S ++ G)) hT1 (stepT (rdInt s2).2).1 (by omega) cx (fun hn => ?_) (fun r rp rc hr g1 g2 hst6 => ?_)
    · clear cx
      rw [linesK_n (hls.trans (lineR_none hn))] at hlr
      refine Br.intro (fun _ => fun w G2 cx => ⟨_, _, _, _, rfl, rd b (stepT (rdInt s2).2).2 :: S, Φ, inferInstance, ?_, h0 (by rw [hall, hlr]) _ (by omega)⟩) (fun h => by cases h)
      exact (Ctx.drop1 (Ctx.swap cx.left)).weak fun M w h => h.1
    · clear cx
      obtain ⟨x, hx⟩ : ∃ x, rdL s2 ((acc.length : Int) + 1) bt r = x := ⟨_, rfl⟩
      have hls2 : lineK ((acc.length : Int) + 1) sl = some (x.1, x.2) := by rw [hls, lineR_some hr, hx]
      obtain ⟨z1, z2, z3, z4, z5, z6, z7, z8⟩ := lineK_eats hls2
      rw [linesK_s hls2] at hlr
      have hT6 : ∀ M w, ((Φ M w ∧ Elems M w ds acc) ∧ Sl M w rp r) → NumI M w := fun M w h => hΦ M w h.1.1
      refine Br.intro (fun h => by cases h) (fun _ => ?_)
      refine fun w G2 cx => RInt_to (S := bufL p acc.length c ds :: (S ++ G)) hT6 (by omega) cx ?_
      clear cx
      refine fun w G2 cx => RInt_to (S := bufL p acc.length c ds :: (S ++ G)) hT6 (by omega) cx ?_
      clear cx
      refine fun w G2 cx => RInt_to (S := bufL p acc.length c ds :: (S ++ G)) hT6 (by omega) cx ?_
      clear cx
      refine fun kb w G2 cx => ?_
      have hxr : x.1.row = r := by rw [← hx]; rfl
      have hxe : x.2 = (rdInt (rdInt (rdInt (stepT (rdInt s2).2).2).2).2).2 := by rw [← hx]; rfl
      have hxc : x.1.cells rp rc = [.int .i64 ((acc.length : Int) + 1), .int .i64 bt, .int .i64 (rdInt s2).1, .slice rp r.length rc, .int .i64 (rdInt (stepT (rdInt s2).2).2).1, .int .i64 (rdInt (rdInt (stepT (rdInt s2).2).2).2).1, .int .i64 (rdInt (rdInt (rdInt (stepT (rdInt s2).2).2).2).2).1] := by rw [← hx]; rfl
      have hin : x.1.In := ⟨by rw [z8]; unfold I64; omega, z3, z4, z5, z6, z7⟩
      rw [← hxe, ← hxc] at cx
      have cx1 : Ctx W w (.blk kb (x.1.cells rp rc) 46 :: .buf p acc.length c ds 46 7 :: (rd b x.2 :: (S ++ G)) ++ G2) (fun M w => (Φ M w ∧ Sl M w rp r) ∧ Elems M w ds acc) := (cx.perm ((List.Perm.swap _ _ _).cons _)).weak fun M w h => ⟨⟨h.1.1, h.2⟩, h.1.2⟩
      obtain ⟨p', c', w', hrun, cx'⟩ := pushK (PS := fun M w => Φ M w ∧ Sl M w rp r) (fun M w h => rep_line (by rw [hxr]; exact g1) g2 hin (by rw [hxr]; exact h.2)) (by omega) cx1
      refine ⟨p', _, c', w', hrun, _, _, inferInstance, cx'.weak fun M w h => (⟨h.1.1, h.2⟩ : Φ M w ∧ Elems M w _ (acc ++ [x.1])), _, _, (n0 - ((acc.length + 1 : Nat) : Int)).toNat, inferInstance, fun w G cx => cx, ⟨x.2, acc ++ [x.1], _, rfl, rfl, rfl, by rw [List.length_append, List.length_singleton], by rw [List.length_append, List.length_singleton]; omega, fun y hy => ?_, by rw [List.length_append, List.length_singleton]; omega, by rw [List.length_append, List.length_singleton]; exact hlr⟩, by omega⟩
      rcases List.mem_append.1 hy with hy | hy
      · exact har y hy
      · rw [List.mem_singleton.1 hy]; omega
  · have hge := of_decide_eq_false hge
    rw [show (n0 - (acc.length : Int)).toNat = 0 by omega, linesK_z] at hlr
    have hpt : 0 < acc.length → ∃ g, p = some ⟨g, 0, none⟩ := fun h0 => l_ptr (S := (rd b sl :: (S ++ G)) ++ G2) cx (by rw [elems_len7 cx.phi.2]; omega)
    exact ⟨p, _, c, true, rfl, bufL p acc.length c ds :: rd b sl :: S, _, hst1, Ctx.left (S := bufL p acc.length c ds :: rd b sl :: (S ++ G)) cx, h1 acc sl p c ds (by rw [hall, hlr]) hal har hpt hst1⟩
end
end Go.Proofs.YtjlfpkgjcffilaaGreatDoor
end

/-
  The reference's writer of encodings, walked.
-/
section
set_option linter.unusedVariables false
set_option linter.unusedSimpArgs false
namespace Go.Proofs.YtjlfpkgjcffilaaGreatDoor
open Go.Vc


theorem neg_tmod10 (n : Nat) : (-(n : Int)).tmod 10 = -((n % 10 : Nat) : Int) := by
  rw [Int.neg_tmod]; rfl
theorem neg_tdiv10 (n : Nat) : (-(n : Int)).tdiv 10 = -((n / 10 : Nat) : Int) := by
  rw [Int.neg_tdiv]; rfl
theorem wrap_dig (d : Nat) (h : d < 10) : IntKind.u8.wrap (48 - -(d : Int)) = ((UInt8.ofNat (48 + d)).toNat : Int) := by
  have : ∀ d : Fin 10, IntKind.u8.wrap (48 - -((d.val : Nat) : Int)) = ((UInt8.ofNat (48 + d.val)).toNat : Int) := by decide
  exact this ⟨d, h⟩
theorem mk_app (l : List UInt8) (b : ByteArray) : (⟨l.toArray⟩ : ByteArray) ++ b = ⟨(l ++ b.data.toList).toArray⟩ := by
  apply ByteArray.ext
  rw [ByteArray.data_append]
  apply Array.toList_inj.1
  simp

theorem digits_g : ∀ (n : Nat), n ≤ 9223372036854775808 → Gives Tryz.prog F.errataref01_digits #[.int .i64 (-(n : Int))] (.string ⟨(Lib.decDigits n).toArray⟩) := by
  intro n
  induction n using Nat.strongRecOn with
  | _ n ih =>
    intro hn
    refine gives_of (Berrataref01_digits_run (-(n : Int))) fun W R Φ hs => ?_
    have e0 : (48 : Int) - (-(n : Int)).tmod 10 = 48 - -((n % 10 : Nat) : Int) := by rw [neg_tmod10]
    refine ⟨by omega, by rw [e0]; unfold I64; omega, fun k w G cx => ?_⟩
    rw [e0, wrap_dig _ (by omega)] at cx
    have hcell : ∀ j, (hj : j < [UInt8.ofNat (48 + n % 10)].length) → w.cell? ((⟨k, 0, none⟩ : Addr).add j) = some (.int .u8 ([UInt8.ofNat (48 + n % 10)][j].toNat : Int)) := fun j hj => by
      obtain rfl : j = 0 := by simpa using hj
      exact cx.get 0 rfl rfl
    refine ⟨_, _, run_convert_bytes_back w 109 9 5 ⟨k, 0, none⟩ 1 [UInt8.ofNat (48 + n % 10)] (by kernel_rfl) (by kernel_rfl) (by kernel_rfl) hcell, R, Φ, hs, cx.drop1, ?_⟩
    clear cx
    refine Br.intro (fun h => fun w G cx => ⟨?_, cx.left⟩) (fun h => ?_)
    · have h := of_decide_eq_true h
      rw [Lib.decDigits, dif_pos (by omega), show n % 10 = n by omega]
    · have h := of_decide_eq_false h
      have e1 := neg_tdiv10 n
      refine ⟨by omega, by rw [e1]; unfold I64; omega, fun w G cx => ?_⟩
      rw [e1]
      have hl := nDigits_le 19 (n / 10) (by omega) (by decide)
      have hd := Lib.decDigits_length (n / 10)
      refine ((ih (n / 10) (by omega) (by omega)).in).toS cx ⟨?_, fun w G cx => ⟨?_, cx.left⟩⟩
      · show (ByteArray.mk (Lib.decDigits (n / 10)).toArray).size + 1 ≤ _
        rw [size_list, hd]; omega
      · conv => rhs; rw [Lib.decDigits, dif_neg (by omega)]
        rw [mk_app]

theorem Int01_g (n : Int) (h : I64 n) : Gives Tryz.prog F.errataref01_Int #[.int .i64 n] (.string (intB n)) := by
  have hs := intB_size h
  unfold intB numB at hs
  rw [size_app, size_list, show (ByteArray.mk #[59]).size = 1 from rfl] at hs
  unfold I64 at h
  refine gives_of (Berrataref01_Int_run n) fun W R Φ _ => Br.intro (fun hn => ?_) (fun hn => ?_)
  · have hn := of_decide_eq_true hn
    have e : n = -((n.natAbs : Nat) : Int) := by omega
    have hi : Lib.itoa n = 45 :: Lib.decDigits n.natAbs := by unfold Lib.itoa; rw [if_pos hn]
    have hg := digits_g n.natAbs (by omega)
    rw [← e] at hg
    rw [hi, List.length_cons] at hs
    have e45 : (ByteArray.mk #[45]) ++ ByteArray.mk (Lib.decDigits n.natAbs).toArray = numB n := by
      unfold numB
      rw [show (ByteArray.mk #[45]) = ⟨[(45 : UInt8)].toArray⟩ from rfl, mk_app, hi]
      rfl
    refine fun w G cx => (hg.in).toS cx ⟨?_, ?_, fun w G cx => ⟨?_, cx.left⟩⟩
    · show 1 + (ByteArray.mk (Lib.decDigits n.natAbs).toArray).size ≤ _
      rw [size_list]; omega
    · show ((ByteArray.mk #[45]) ++ ByteArray.mk (Lib.decDigits n.natAbs).toArray).size + 1 ≤ _
      have e1 : (ByteArray.mk #[45]).size = 1 := rfl
      rw [size_app, size_list (Lib.decDigits n.natAbs), e1]
      omega
    · unfold intB
      rw [← e45]
  · have hn := of_decide_eq_false hn
    have e : 0 - n = -((n.toNat : Nat) : Int) := by omega
    have hi : Lib.itoa n = Lib.decDigits n.toNat := by unfold Lib.itoa; rw [if_neg hn]
    have hg := digits_g n.toNat (by omega)
    rw [← e, ← hi] at hg
    refine ⟨by unfold I64; omega, fun w G cx => (hg.in).toS cx ⟨?_, fun w G cx => ⟨rfl, cx.left⟩⟩⟩
    show (ByteArray.mk (Lib.itoa n).toArray).size + 1 ≤ _
    rw [size_list]; omega

theorem Num01_g (n : Int) (h : I64 n) : Gives Tryz.prog F.errataref01_Num #[.int .i64 n] (.string (natB n)) := by
  refine gives_of (Berrataref01_Num_run n) fun W R Φ _ => Br.intro (fun hn => fun w G cx => ⟨?_, cx.left⟩) (fun hn => fun w G cx => ((Int01_g n h).in).toS cx fun w G cx => ⟨?_, cx.left⟩)
  · unfold natB; rw [if_pos (of_decide_eq_true hn)]
  · unfold natB; rw [if_neg (of_decide_eq_false hn)]

theorem Text01_g (s : ByteArray) (hs : s.size ≤ 1000000000000) : Gives Tryz.prog F.errataref01_Text #[.string s] (.string (textB s)) := by
  have h1 := numB_size (n := (s.size : Int)) (by unfold I64; omega)
  have e : (0 : Int) - s.size = -((s.size : Nat) : Int) := by omega
  have hg := digits_g s.size (by omega)
  have hi : Lib.itoa (s.size : Int) = Lib.decDigits s.size := by unfold Lib.itoa; rw [if_neg (by omega)]; rfl
  rw [← e, ← hi] at hg
  have e1 : (ByteArray.mk #[58]).size = 1 := rfl
  refine gives_of (Berrataref01_Text_run s) fun W R Φ _ => ⟨by unfold I64; omega, fun w G cx => (hg.in).toS cx ⟨?_, ?_, ?_, fun w G cx => ⟨rfl, cx.left⟩⟩⟩
  · show (numB s.size).size + 1 ≤ _; omega
  · show (numB s.size ++ ByteArray.mk #[58]).size + s.size ≤ _; rw [size_app, e1]; omega
  · show (numB s.size ++ ByteArray.mk #[58] ++ s).size + 1 ≤ _; rw [size_app, size_app, e1]; omega

theorem Bytes03_g (v : ValD) (h1 : I64 v.kind) (h2 : I64 v.num) (hs : v.text.size ≤ 1000000000000) : Gives Tryz.prog F.errataref03_Bytes #[v.v] (.string (valB v)) := by
  have a := intB_size h1
  have b := intB_size h2
  have c := textB_size (s := v.text) (by omega)
  refine gives_of (Berrataref03_Bytes_run v.kind v.num v.text) fun W R Φ _ => ?_
  exact fun _ => ⟨R, Φ, inferInstance, fun w G cx => cx, fun w G cx => ((Int01_g v.kind h1).in).toS cx ⟨fun w G cx => cx, fun w G cx => ((Int01_g v.num h2).in).toS cx ⟨fun w G cx => cx, by show (intB v.kind).size + (intB v.num).size ≤ _; omega,
    fun w G cx => ((Text01_g v.text hs).in).toS cx ⟨fun w G cx => cx, by show (intB v.kind ++ intB v.num).size + (textB v.text).size ≤ _; rw [size_app]; omega, fun w G cx => ⟨rfl, cx.left⟩⟩⟩⟩⟩

theorem RowBytes03_in {Φ : PW} [Stable Φ] (p : Option Addr) (cap : Nat) (r : List ValD) (hΦ : ∀ M w, Φ M w → Sl M w p r) (hr : r.length ≤ 1000000) (ht : ∀ v ∈ r, v.text.size ≤ 10000) :
    GivesIn Φ Tryz.prog F.errataref03_RowBytes #[.slice p r.length cap] (.string (rowB r)) := by
  refine .there (fun M w h => (hΦ M w h).there) fun hth => .know (fun M w h => sl_i64 (hΦ M w h)) fun hi => ?_
  have hv : ∀ v ∈ r, (I64 v.kind ∧ I64 v.num) ∧ v.text.size ≤ 10000 := fun v h => ⟨(hi v h).1, ht v h⟩
  have hL := rowL_len hv (by decide) hr
  have hL : (rowL r).length ≤ 20000000000 := by
    have : r.length * (10000 + 64) ≤ 1000000 * 10064 := Nat.mul_le_mul hr (Nat.le_refl _)
    omega
  refine gives_in (Berrataref03_RowBytes_run p r.length cap) fun W R => ?_
  refine fun w G cx => ((Num01_g (r.length : Int) (by unfold I64; omega)).in).toS cx ?_
  clear cx
  refine exI_mk (fun s iI R' Φ' k => ∃ i : Nat, iI = i ∧ i ≤ r.length ∧ s = ⟨((natB r.length).data.toList ++ valsL (r.take i)).toArray⟩ ∧ R' = R ∧ Φ' = Φ ∧ k = r.length - i) ⟨⟨R, Φ, _, inferInstance, fun w G cx => cx, 0, rfl, Nat.zero_le _, by rw [List.take_zero, show valsL [] = [] from rfl, List.append_nil], rfl, rfl, rfl⟩, ?_⟩
  rintro s iI R2 Φ2 k _ ⟨i, rfl, hi, rfl, rfl, rfl, rfl⟩
  refine Br.intro (fun hlt => ?_) (fun hge => fun w G cx => ⟨?_, cx.left⟩)
  · have hlt : i < r.length := by have := of_decide_eq_true hlt; omega
    obtain ⟨g, o, rfl⟩ := hth (by omega)
    obtain ⟨⟨h1, h2⟩, h3⟩ := hv r[i] (List.getElem_mem hlt)
    have hsz := valB_size h1 h2 (by omega)
    have hlen : ((natB r.length).data.toList ++ valsL (r.take (i + 1))).length ≤ 20000000000 := by
      have e : valsL r = valsL (r.take (i + 1)) ++ valsL (r.drop (i + 1)) := by rw [← valsL_app, List.take_append_drop]
      unfold rowL at hL
      rw [e, List.length_append, List.length_append] at hL
      rw [List.length_append]; omega
    have hstep : valsL (r.take (i + 1)) = valsL (r.take i) ++ (valB r[i]).data.toList := by rw [List.take_succ_eq_append_getElem hlt, valsL_app, valsL_one]
    refine ⟨by omega, ptrK_intro g o rfl fun w G cx => ⟨r[i].kind, r[i].num, r[i].text, by rw [Int.toNat_natCast]; exact sl_val (hΦ _ _ cx.phi) hlt, fun w G cx => ((Bytes03_g r[i] h1 h2 (by omega)).in).toS cx ⟨?_, by unfold I64; omega, R2, Φ2, r.length - (i + 1), inferInstance, fun w G cx => cx, ⟨i + 1, by omega, hlt, ?_, rfl, rfl, rfl⟩, by omega⟩⟩⟩
    · show (ByteArray.mk ((natB r.length).data.toList ++ valsL (r.take i)).toArray).size + (valB r[i]).size ≤ _
      rw [hstep, ← List.append_assoc, List.length_append, list_size] at hlen
      rw [size_list]; omega
    · rw [mk_app, List.append_assoc, hstep]
  · have hge : i = r.length := by have := of_decide_eq_false hge; omega
    subst hge
    rw [List.take_length]
    rfl
end Go.Proofs.YtjlfpkgjcffilaaGreatDoor
end

/-
  The reference's reader of encodings, walked: it does what the program's reader does.
-/
section
set_option linter.unusedVariables false
set_option linter.unusedSimpArgs false
namespace Go.Proofs.YtjlfpkgjcffilaaGreatDoor
open Go.Vc


/-! ### plain -/
theorem getI : ∀ (l : List UInt8) (i : Nat), l.get?Internal i = l[i]?
  | [], _ => rfl
  | _ :: _, 0 => rfl
  | x :: l, i + 1 => by
    show l.get?Internal i = (x :: l)[i + 1]?
    rw [getI l i]; rfl
/-- a reader that has failed has nothing left -/
def RdOk (st : RdS) : Prop := st.2 = true → st.1 = []
theorem rdOk0 (l : List UInt8) : RdOk (l, false) := fun h => by cases h
theorem rdOkF : RdOk ([], true) := fun _ => rfl
theorem numP_nil (e : UInt8) (least : Int) : numP e least [] = none := by
  unfold numP
  simp [Lib.indexByte]
theorem stepN_ok {e : UInt8} {least : Int} {st : RdS} (h : RdOk st) : RdOk (stepN e least st).2 := by
  unfold stepN
  cases hn : numP e least st.1 with
  | none => exact rdOkF
  | some x =>
    obtain ⟨n, r⟩ := x
    intro hb
    have hb : st.2 = true := hb
    rw [h hb, numP_nil] at hn
    cases hn
theorem stepC_ok {c : UInt8} {st : RdS} (h : RdOk st) : RdOk (stepC c st) := by
  obtain ⟨l, b⟩ := st
  cases l with
  | nil => exact rdOkF
  | cons x r =>
    unfold stepC
    simp only
    split
    · intro hb
      have := h hb
      cases this
    · exact rdOkF
theorem rdInt_ok {st : RdS} (h : RdOk st) : RdOk (rdInt st).2 := stepN_ok h
theorem rdNat_ok {st : RdS} (h : RdOk st) : RdOk (rdNat st).2 := stepN_ok h
theorem stepT_ok {st : RdS} (h : RdOk st) : RdOk (stepT st).2 := by
  unfold stepT
  simp only
  split
  · exact rdOkF
  · refine stepC_ok fun hb => ?_
    have := stepN_ok (e := 58) (least := 0) h hb
    simp only
    rw [this, List.drop_nil]

/-- the digits of a number behind its sign -/
theorem itoa_digs {l : List UInt8} {f : Nat} (hf : f = 1 ∧ l[0]? = some 45 ∨ f = 0 ∧ l[0]? ≠ some 45) {n : Int} (hn : I64 n) (e : l = Lib.itoa n) : ∃ u : Nat, l.drop f = Lib.decDigits u ∧ u ≤ 9223372036854775808 ∧ n = (if f = 1 then -(u : Int) else u) := by
  unfold I64 at hn
  unfold Lib.itoa at e
  split at e
  · rename_i h
    rcases hf with ⟨rfl, h0⟩ | ⟨rfl, h0⟩
    · exact ⟨n.natAbs, by rw [e]; rfl, by omega, by rw [if_pos rfl]; omega⟩
    · rw [e] at h0; exact absurd rfl h0
  · rename_i h
    rcases hf with ⟨rfl, h0⟩ | ⟨rfl, h0⟩
    · have hd := digits_chars n.toNat 45 (by rw [← e]; exact List.mem_of_getElem? h0)
      exact absurd hd.1 (by decide)
    · exact ⟨n.toNat, by rw [e]; rfl, by omega, by rw [if_neg (by decide)]; omega⟩
theorem digV_pre (D : List UInt8) (k : Nat) : digV 0 (D.take k) ≤ digV 0 D := by
  have h := digV_mono (D.drop k) (digV 0 (D.take k))
  have e : digV (digV 0 (D.take k)) (D.drop k) = digV 0 D := by
    unfold digV
    rw [← List.foldl_append, List.take_append_drop]
  omega
theorem u8_dig {c : UInt8} (h : 48 ≤ c.toNat ∧ c.toNat ≤ 57) : IntKind.i64.wrap (IntKind.u8.wrap ((c.toNat : Int) - 48)) = ((c.toNat - 48 : Nat) : Int) := by
  have e : ((c.toNat : Int) - 48) = ((c.toNat - 48 : Nat) : Int) := by omega
  rw [e]
  have h2 : IntKind.u8.wrap ((c.toNat - 48 : Nat) : Int) = ((c.toNat - 48 : Nat) : Int) := by simp [IntKind.wrap, IntKind.signed, IntKind.bits]; omega
  rw [h2, i64_wrap (by unfold I64; omega)]
theorem wrap_i64 (x : Int) : I64 (IntKind.i64.wrap x) := by
  unfold I64
  simp [IntKind.wrap, IntKind.signed, IntKind.bits]
  split <;> omega

/-- what is known while a number's digits are added -/
def BackI (l : List UInt8) (f j : Nat) (acc : Int) : Prop := f ≤ j ∧ j ≤ l.length ∧ I64 acc ∧ ∀ n, I64 n → l = Lib.itoa n → acc = -((digV 0 ((l.drop f).take (j - f)) : Nat) : Int)
theorem backI0 {l : List UInt8} {f : Nat} (h : f ≤ l.length) : BackI l f f 0 := ⟨Nat.le_refl _, h, by unfold I64; decide, fun n _ _ => by rw [Nat.sub_self, List.take_zero]; rfl⟩
theorem back_dig {l : List UInt8} {f j : Nat} (hf : f = 1 ∧ l[0]? = some 45 ∨ f = 0 ∧ l[0]? ≠ some 45) (hfj : f ≤ j) {c : UInt8} (hc : l[j]? = some c) {n : Int} (hn : I64 n) (e : l = Lib.itoa n) : (48 ≤ c.toNat ∧ c.toNat ≤ 57) ∧ j ≤ 20 := by
  obtain ⟨u, hu, _, _⟩ := itoa_digs hf hn e
  refine ⟨digits_chars u c ?_, ?_⟩
  · rw [← hu]
    refine List.mem_of_getElem? (i := j - f) ?_
    rw [List.getElem?_drop, show f + (j - f) = j by omega]
    exact hc
  · have := itoa_len hn
    rw [← e] at this
    have := (List.getElem?_eq_some_iff.1 hc).1
    omega
theorem backI_step {l : List UInt8} {f j : Nat} {acc : Int} (hf : f = 1 ∧ l[0]? = some 45 ∨ f = 0 ∧ l[0]? ≠ some 45) (h : BackI l f j acc) {c : UInt8} (hc : l[j]? = some c) : BackI l f (j + 1) (IntKind.i64.wrap (IntKind.i64.wrap (10 * acc) - IntKind.i64.wrap (IntKind.u8.wrap ((c.toNat : Int) - 48)))) := by
  obtain ⟨h1, h2, h3, h4⟩ := h
  have hjl := (List.getElem?_eq_some_iff.1 hc).1
  refine ⟨by omega, by omega, wrap_i64 _, fun n hn e => ?_⟩
  have h5 := h4 n hn e
  obtain ⟨u, hu, hub, _⟩ := itoa_digs hf hn e
  obtain ⟨hd, _⟩ := back_dig hf h1 hc hn e
  have hs : (l.drop f).take (j + 1 - f) = (l.drop f).take (j - f) ++ [c] := by
    rw [show j + 1 - f = (j - f) + 1 by omega, List.take_add_one, List.getElem?_drop, show f + (j - f) = j by omega, hc]
    rfl
  have hpre := digV_pre (l.drop f) (j + 1 - f)
  rw [hu] at hpre
  rw [digV_dec u] at hpre
  rw [← hu, hs, digV_snoc] at hpre
  rw [hs, digV_snoc, h5, u8_dig hd]
  rw [i64_wrap (n := 10 * -((digV 0 ((l.drop f).take (j - f)) : Nat) : Int)) (by unfold I64; omega)]
  rw [i64_wrap (by unfold I64; omega)]
  omega
theorem backI_end {l : List UInt8} {f j : Nat} {acc : Int} (hf : f = 1 ∧ l[0]? = some 45 ∨ f = 0 ∧ l[0]? ≠ some 45) (h : BackI l f j acc) (hj : l.length ≤ j) {n : Int} (hn : I64 n) (e : l = Lib.itoa n) : n = (if f = 1 then acc else IntKind.i64.wrap (0 - acc)) := by
  obtain ⟨h1, h2, h3, h4⟩ := h
  have h5 := h4 n hn e
  obtain ⟨u, hu, hub, hn2⟩ := itoa_digs hf hn e
  rw [List.take_of_length_le (by rw [List.length_drop]; omega), hu, digV_dec] at h5
  rcases hf with ⟨rfl, _⟩ | ⟨rfl, _⟩
  · rw [if_pos rfl] at hn2 ⊢
    omega
  · rw [if_neg (by decide)] at hn2 ⊢
    unfold I64 at hn
    rw [h5, i64_wrap (by unfold I64; omega)]
    omega
theorem intB_semi {n : Int} {l : List UInt8} : (intB n = bs l ++ ByteArray.mk #[59]) ↔ l = Lib.itoa n := by
  have e1 : (intB n).data.toList = Lib.itoa n ++ [59] := by unfold intB numB; simp [ByteArray.data_append]
  have e2 : (bs l ++ ByteArray.mk #[59]).data.toList = l ++ [59] := by simp [bs, ByteArray.data_append]
  constructor
  · intro h
    have h2 : (intB n).data.toList = (bs l ++ ByteArray.mk #[59]).data.toList := by rw [h]
    rw [e1, e2] at h2
    exact (List.append_cancel_right h2).symm
  · intro h
    apply ByteArray.ext
    apply Array.toList_inj.1
    rw [e1, e2, h]

section
variable {W w : World} {R G S : List Own} {Φ : PW} {b : Nat} {st : RdS}

theorem Back_to [Stable Φ] (l : List UInt8) (hl : l.length ≤ 1000000000) (c : Ctx W w (R ++ G) Φ) {K : Int → Bool → List Own → PW → Prop}
    (h1 : ∀ n, I64 n → l = Lib.itoa n → K n true R Φ) (h0 : (∀ n, I64 n → l ≠ Lib.itoa n) → ∀ m, K m false R Φ) :
    Calls Tryz.prog F.errataref01_Back #[.string (bs l)] w fun e w' => ∃ n ok, e = .returned (.tuple #[.int .i64 n, .bool ok]) ∧ ∃ R' Φ', Stable Φ' ∧ Ctx W w' (R' ++ G) Φ' ∧ K n ok R' Φ' := by
  refine (Merrataref01_Back_run (bs l) (J := fun u w' => ∃ n ok, (Ending.returned u) = .returned (.tuple #[.int .i64 n, .bool ok]) ∧ ∃ R' Φ', Stable Φ' ∧ Ctx W w' (R' ++ G) Φ' ∧ K n ok R' Φ') (R := R ++ G) c ?_).mono fun e w' ⟨v, he, hj⟩ => by rw [he]; exact hj
  clear c
  have hsz : (bs l).size = l.length := bs_size l
  have body : ∀ (f : Nat), (f = 1 ∧ l[0]? = some 45 ∨ f = 0 ∧ l[0]? ≠ some 45) → ∀ (n : Int), I64 n → (∀ m, I64 m → l = Lib.itoa m → m = n) → ∀ {w : World} {G2 : List Own}, Ctx W w ((R ++ G) ++ G2) Φ →
      Calls Tryz.prog F.errataref01_Int #[.int .i64 n] w fun e28 w29 => ∃ (s30 : ByteArray), e28 = .returned (.string s30) ∧ ∃ (R31 : List Own), ∃ (Φ32 : PW), Stable Φ32 ∧ Ctx W w29 (R31 ++ G2) Φ32 ∧ ((bs l).size + (ByteArray.mk #[OfNat.ofNat 59]).size).le 9223372036854775807 ∧ ∀ (w33 : World) (R34 : List Own), Ctx W w33 (R31 ++ R34) Φ32 →
        ∃ n' ok, (Ending.returned (Value.tuple #[.int .i64 n, .bool (decide (s30 = bs l ++ ByteArray.mk #[OfNat.ofNat 59]))])) = .returned (.tuple #[.int .i64 n', .bool ok]) ∧ ∃ R' Φ', Stable Φ' ∧ Ctx W w33 (R' ++ G) Φ' ∧ K n' ok R' Φ' := fun f hf n hn hu {w G2} cx =>
    (Gives.in (Int01_g n hn)).toS cx ⟨by rw [hsz]; show l.length + 1 ≤ 9223372036854775807; omega, fun w G3 cx => ⟨n, _, rfl, R, Φ, inferInstance, cx.left, by
      by_cases he : l = Lib.itoa n
      · rw [decide_eq_true (intB_semi.2 he)]; exact h1 n hn he
      · rw [decide_eq_false fun h => he (intB_semi.1 h)]
        exact h0 (fun m hm e => he (by rw [← hu m hm e]; exact e)) n⟩⟩
  have bad : (∀ n, I64 n → l ≠ Lib.itoa n) → ∀ {w : World} {G2 : List Own}, Ctx W w ((R ++ G) ++ G2) Φ → ∃ n' ok, (Ending.returned (Value.tuple #[.int .i64 0, .bool false])) = .returned (.tuple #[.int .i64 n', .bool ok]) ∧ ∃ R' Φ', Stable Φ' ∧ Ctx W w (R' ++ G) Φ' ∧ K n' ok R' Φ' := fun h {w G2} cx => ⟨0, false, rfl, R, Φ, inferInstance, cx.left, h0 h 0⟩
  refine fun w G2 cx => ⟨l[0]?.getD 0, fun h => ⟨by decide, ?_⟩, ?_⟩
  · have h := of_decide_eq_true h
    rw [hsz] at h
    rw [bs_list, getI, List.getElem?_eq_getElem (by omega)]; rfl
  clear cx
  have hbyte : ∀ {j : Nat}, j < l.length → (bs l).data.toList.get?Internal ((j : Int)).toNat = some (l[j]?.getD 0) ∧ l[j]? = some (l[j]?.getD 0) := fun {j} hj => by
    rw [bs_list, getI, Int.toNat_natCast, List.getElem?_eq_getElem hj]
    exact ⟨rfl, rfl⟩
  refine Br.intro (fun hs => ?_) (fun hs => ?_)
  · rw [Bool.and_eq_true, hsz] at hs
    have h0l := of_decide_eq_true hs.1
    have hc0 := of_decide_eq_true hs.2
    have hf : (1 = 1 ∧ l[0]? = some 45 ∨ 1 = 0 ∧ l[0]? ≠ some 45) := .inl ⟨rfl, by
      rw [List.getElem?_eq_getElem (by omega)] at hc0 ⊢
      congr 1
      apply UInt8.toNat_inj.1
      simp only [Option.getD_some] at hc0
      exact Int.ofNat.inj hc0⟩
    refine exI_mk (fun acc jI R' Φ' k => ∃ j : Nat, jI = j ∧ BackI l 1 j acc ∧ R' = R ++ G ∧ Φ' = Φ ∧ k = l.length - j) ⟨⟨_, _, _, inferInstance, fun w G cx => cx, 1, rfl, backI0 (by omega), rfl, rfl, rfl⟩, ?_⟩
    rintro acc jI R1 Φ1 k _ ⟨j, rfl, hB, rfl, rfl, rfl⟩
    rw [hsz]
    refine Br.intro (fun hlt => fun w G2 cx => ?_) (fun hge => fun w G2 cx => ?_)
    · have hlt : j < l.length := by have := of_decide_eq_true hlt; omega
      obtain ⟨hb1, hb2⟩ := hbyte hlt
      refine ⟨_, ⟨by omega, hb1⟩, _, fun _ => ⟨by omega, hb1⟩, Br.intro (fun h => fun w G2 cx => bad (fun n hn e => ?_) cx) (fun h => ⟨_, ⟨by omega, hb1⟩, by unfold I64; omega, _, _, l.length - (j + 1), inferInstance, fun w G cx => cx, ⟨j + 1, by omega, backI_step hf hB hb2, rfl, rfl, rfl⟩, by omega⟩)⟩
      obtain ⟨⟨g1, g2⟩, g3⟩ := back_dig hf hB.1 hb2 hn e
      rw [decide_eq_false (by omega), decide_eq_false (by omega), decide_eq_false (by omega)] at h
      cases h
    · have hge := of_decide_eq_false hge
      exact body 1 hf acc hB.2.2.1 (fun m hm e => by have := backI_end hf hB (by omega) hm e; rw [if_pos rfl] at this; exact this) cx
  · have hf : (0 = 1 ∧ l[0]? = some 45 ∨ 0 = 0 ∧ l[0]? ≠ some 45) := .inr ⟨rfl, fun e => by
      have h0l := (List.getElem?_eq_some_iff.1 e).1
      rw [hsz, e, decide_eq_true (by omega), decide_eq_true (by rfl)] at hs
      cases hs⟩
    refine exI_mk (fun acc jI R' Φ' k => ∃ j : Nat, jI = j ∧ BackI l 0 j acc ∧ R' = R ++ G ∧ Φ' = Φ ∧ k = l.length - j) ⟨⟨_, _, _, inferInstance, fun w G cx => cx, 0, rfl, backI0 (Nat.zero_le _), rfl, rfl, rfl⟩, ?_⟩
    rintro acc jI R1 Φ1 k _ ⟨j, rfl, hB, rfl, rfl, rfl⟩
    rw [hsz]
    refine Br.intro (fun hlt => fun w G2 cx => ?_) (fun hge => ?_)
    · have hlt : j < l.length := by have := of_decide_eq_true hlt; omega
      obtain ⟨hb1, hb2⟩ := hbyte hlt
      refine ⟨_, ⟨by omega, hb1⟩, _, fun _ => ⟨by omega, hb1⟩, Br.intro (fun h => fun w G2 cx => bad (fun n hn e => ?_) cx) (fun h => ⟨_, ⟨by omega, hb1⟩, by unfold I64; omega, _, _, l.length - (j + 1), inferInstance, fun w G cx => cx, ⟨j + 1, by omega, backI_step hf hB hb2, rfl, rfl, rfl⟩, by omega⟩)⟩
      obtain ⟨⟨g1, g2⟩, g3⟩ := back_dig hf hB.1 hb2 hn e
      rw [decide_eq_false (by omega), decide_eq_false (by omega), decide_eq_false (by omega)] at h
      cases h
    · have hge := of_decide_eq_false hge
      exact fun w G2 cx => body 0 hf (IntKind.i64.wrap (0 - acc)) (wrap_i64 _) (fun m hm e => by have := backI_end hf hB (by omega) hm e; rw [if_neg (by decide)] at this; exact this) cx
end
end Go.Proofs.YtjlfpkgjcffilaaGreatDoor
end

/-
  The reference's reader of encodings: numbers and strings, walked.
-/
section
set_option linter.unusedVariables false
set_option linter.unusedSimpArgs false
namespace Go.Proofs.YtjlfpkgjcffilaaGreatDoor
open Go.Vc


/-! ### plain -/
def minZ64 : Int := -9223372036854775808
theorem e_chars {e : UInt8} (he : e.toNat = 58 ∨ e.toNat = 59 ∨ e.toNat = 91) {n : Int} : e ∉ Lib.itoa n := fun h => by have := itoa_chars h; omega
theorem ahead_none {e : UInt8} (he : e.toNat = 58 ∨ e.toNat = 59 ∨ e.toNat = 91) {l : List UInt8} {j : Nat} (h1 : e ∉ l.take j) (h2 : l.length ≤ j ∨ 21 ≤ j) : numP e minZ64 l = none := by
  cases hn : numP e minZ64 l with
  | none => rfl
  | some x =>
    obtain ⟨n, r⟩ := x
    obtain ⟨⟨g1, _⟩, g2⟩ := (numP_iff he).1 hn
    have hl := (itoa_len g1).2
    refine absurd ?_ h1
    rw [g2]
    refine List.mem_of_getElem? (i := (Lib.itoa n).length) ?_
    have hlt : (Lib.itoa n).length < j := by
      rcases h2 with h2 | h2
      · rw [g2, List.length_append, List.length_cons] at h2; omega
      · omega
    rw [List.getElem?_take_of_lt hlt, List.getElem?_append_right (Nat.le_refl _), Nat.sub_self]
    rfl
theorem ahead_some {e : UInt8} (he : e.toNat = 58 ∨ e.toNat = 59 ∨ e.toNat = 91) {l : List UInt8} {j : Nat} (hj : l[j]? = some e) {n : Int} (hn : I64 n) (h : l.take j = Lib.itoa n) : numP e minZ64 l = some (n, l.drop (j + 1)) := by
  refine (numP_iff he).2 ⟨⟨hn, hn.1⟩, ?_⟩
  obtain ⟨hl, he2⟩ := List.getElem?_eq_some_iff.1 hj
  rw [← h, ← he2, ← List.drop_eq_getElem_cons hl, List.take_append_drop]
theorem ahead_bad {e : UInt8} (he : e.toNat = 58 ∨ e.toNat = 59 ∨ e.toNat = 91) {l : List UInt8} {j : Nat} (h1 : e ∉ l.take j) (hj : l[j]? = some e) (h : ∀ n, I64 n → l.take j ≠ Lib.itoa n) : numP e minZ64 l = none := by
  cases hn : numP e minZ64 l with
  | none => rfl
  | some x =>
    obtain ⟨n, r⟩ := x
    obtain ⟨⟨g1, _⟩, g2⟩ := (numP_iff he).1 hn
    refine absurd ?_ (h n g1)
    have hjl := (List.getElem?_eq_some_iff.1 hj).1
    rcases Nat.lt_trichotomy j (Lib.itoa n).length with hlt | heq | hgt
    · rw [g2, List.getElem?_append_left hlt] at hj
      exact absurd (List.mem_of_getElem? hj) (e_chars he)
    · rw [g2, heq, List.take_left]
    · refine absurd ?_ h1
      rw [g2]
      refine List.mem_of_getElem? (i := (Lib.itoa n).length) ?_
      rw [List.getElem?_take_of_lt hgt, List.getElem?_append_right (Nat.le_refl _), Nat.sub_self]
      rfl
theorem numP_zero {e : UInt8} (he : e.toNat = 58 ∨ e.toNat = 59 ∨ e.toNat = 91) (l : List UInt8) : numP e 0 l = (numP e minZ64 l).bind fun x => if x.1 < 0 then none else some x := by
  cases hn : numP e minZ64 l with
  | none =>
    cases h0 : numP e 0 l with
    | none => rfl
    | some x =>
      obtain ⟨n, r⟩ := x
      obtain ⟨⟨g1, g2⟩, g3⟩ := (numP_iff he).1 h0
      have := (numP_iff he (least := minZ64)).2 ⟨⟨g1, g1.1⟩, g3⟩
      rw [hn] at this
      cases this
  | some x =>
    obtain ⟨n, r⟩ := x
    obtain ⟨⟨g1, _⟩, g3⟩ := (numP_iff he).1 hn
    simp only [Option.bind_some]
    split
    · rename_i hneg
      cases h0 : numP e 0 l with
      | none => rfl
      | some y =>
        obtain ⟨m, q⟩ := y
        obtain ⟨⟨k1, k2⟩, k3⟩ := (numP_iff he).1 h0
        have := (numP_iff he (least := minZ64)).2 ⟨⟨k1, k1.1⟩, k3⟩
        rw [hn] at this
        cases this
        omega
    · exact (numP_iff he).2 ⟨⟨g1, by omega⟩, g3⟩
theorem stepN_zero {e : UInt8} (he : e.toNat = 58 ∨ e.toNat = 59 ∨ e.toNat = 91) (st : RdS) : stepN e 0 st = if (stepN e minZ64 st).1 < 0 then (0, ([], true)) else stepN e minZ64 st := by
  unfold stepN
  rw [numP_zero he]
  cases hn : numP e minZ64 st.1 with
  | none => simp
  | some x =>
    obtain ⟨n, r⟩ := x
    simp only [Option.bind_some]
    by_cases h : n < 0
    · rw [if_pos h, if_pos h]
    · rw [if_neg h, if_neg h]
section
variable {W w : World} {R G S : List Own} {Φ : PW} {b : Nat} {st : RdS}

/-! ### walked -/
abbrev rq (b : Nat) (st : RdS) : Own := .blk b [.string (bs st.1), .bool st.2] 104

theorem Open01_to [Stable Φ] (l : List UInt8) (c : Ctx W w (S ++ G) Φ) {K : Option Addr → List Own → PW → Prop} (hk : ∀ b, K (some ⟨b, 0, none⟩) (rq b (l, false) :: S) Φ) :
    Calls Tryz.prog F.errataref01_Open #[.string (bs l)] w fun e w' => ∃ p, e = .returned (.pointer p) ∧ ∃ R' Φ', Stable Φ' ∧ Ctx W w' (R' ++ G) Φ' ∧ K p R' Φ' := by
  refine (Berrataref01_Open_run (bs l) (J := fun u w' => ∃ p, (Ending.returned u) = .returned (.pointer p) ∧ ∃ R' Φ', Stable Φ' ∧ Ctx W w' (R' ++ G) Φ' ∧ K p R' Φ') c ?_).mono fun e w' ⟨v, he, hj⟩ => by rw [he]; exact hj
  exact fun b w G2 cx => ⟨_, rfl, rq b (l, false) :: S, Φ, inferInstance, Ctx.left (S := rq b (l, false) :: (S ++ G)) cx, hk b⟩
theorem fail01_to [Stable Φ] (c : Ctx W w (rq b st :: S ++ G) Φ) {K : Int → List Own → PW → Prop} (hk : K 0 (rq b ([], true) :: S) Φ) :
    Calls Tryz.prog F.errataref01_Reader_fail #[.pointer (some ⟨b, 0, none⟩)] w fun e w' => ∃ n, e = .returned (.int .i64 n) ∧ ∃ R' Φ', Stable Φ' ∧ Ctx W w' (R' ++ G) Φ' ∧ K n R' Φ' := by
  refine (Berrataref01_Reader_fail_run b 0 (J := fun u w' => ∃ n, (Ending.returned u) = .returned (.int .i64 n) ∧ ∃ R' Φ', Stable Φ' ∧ Ctx W w' (R' ++ G) Φ' ∧ K n R' Φ') (R := rq b st :: (S ++ G)) c ?_).mono fun e w' ⟨v, he, hj⟩ => by rw [he]; exact hj
  refine fun w G2 cx => ⟨cx.can 0 rfl (by simp), fun w' hw' => ⟨.blk b [.string (bs []), .bool st.2] 104 :: (S ++ G), Φ, inferInstance, cx.put 0 hw' rfl, fun w G2 cx => ⟨cx.can 0 rfl (by simp), fun w' hw' => ⟨rq b ([], true) :: (S ++ G), Φ, inferInstance, cx.put 0 hw' rfl, fun w G2 cx => ⟨0, rfl, rq b ([], true) :: S, Φ, inferInstance, cx.left, hk⟩⟩⟩⟩⟩

set_option maxHeartbeats 1000000 in
theorem ahead_to [Stable Φ] {e : Int} (he : e = 58 ∨ e = 59 ∨ e = 91) (hl : st.1.length ≤ 1000000000) (c : Ctx W w (rq b st :: S ++ G) Φ) {K : Int → List Own → PW → Prop}
    (hk : K (stepN e.toNat.toUInt8 minZ64 st).1 (rq b (stepN e.toNat.toUInt8 minZ64 st).2 :: S) Φ) :
    Calls Tryz.prog F.errataref01_Reader_ahead #[.pointer (some ⟨b, 0, none⟩), .int .u8 e] w fun e w' => ∃ n, e = .returned (.int .i64 n) ∧ ∃ R' Φ', Stable Φ' ∧ Ctx W w' (R' ++ G) Φ' ∧ K n R' Φ' := by
  refine (Berrataref01_Reader_ahead_run b 0 e (J := fun u w' => ∃ n, (Ending.returned u) = .returned (.int .i64 n) ∧ ∃ R' Φ', Stable Φ' ∧ Ctx W w' (R' ++ G) Φ' ∧ K n R' Φ') (R := rq b st :: (S ++ G)) c ?_).mono fun e w' ⟨v, he, hj⟩ => by rw [he]; exact hj
  clear c
  obtain ⟨l, bad⟩ := st
  have hl : l.length ≤ 1000000000 := hl
  obtain ⟨c, hc⟩ : ∃ c : UInt8, e.toNat.toUInt8 = c := ⟨_, rfl⟩
  have hce : (c.toNat : Int) = e ∧ (c.toNat = 58 ∨ c.toNat = 59 ∨ c.toNat = 91) := by
    rcases he with rfl | rfl | rfl <;> subst hc <;> decide
  obtain ⟨hce, hc3⟩ := hce
  rw [hc] at hk
  have hsz : (bs l).size = l.length := bs_size l
  have none_ : numP c minZ64 l = none → ∀ {w : World} {G2 : List Own}, Ctx W w (rq b (l, bad) :: (S ++ G) ++ G2) Φ → Calls Tryz.prog F.errataref01_Reader_fail #[.pointer (some ⟨b, 0, none⟩)] w fun e25 w26 => ∃ n27, e25 = .returned (.int .i64 n27) ∧ ∃ R28 Φ29, Stable Φ29 ∧ Ctx W w26 (R28 ++ G2) Φ29 ∧ ∀ (w30 : World) (R31 : List Own), Ctx W w30 (R28 ++ R31) Φ29 → ∃ n, (Ending.returned (Value.int .i64 n27)) = .returned (.int .i64 n) ∧ ∃ R' Φ', Stable Φ' ∧ Ctx W w30 (R' ++ G) Φ' ∧ K n R' Φ' := fun h {w G2} cx => by
    rw [stepN_none h] at hk
    exact fail01_to (S := S ++ G) (G := G2) cx fun w G3 cx => ⟨0, rfl, rq b ([], true) :: S, Φ, inferInstance, Ctx.left (S := rq b ([], true) :: (S ++ G)) cx, hk⟩
  refine exI_mk (fun jI R' Φ' k => ∃ j : Nat, jI = j ∧ j ≤ l.length ∧ j ≤ 21 ∧ c ∉ l.take j ∧ R' = rq b (l, bad) :: (S ++ G) ∧ Φ' = Φ ∧ k = l.length - j) ⟨⟨_, _, _, inferInstance, fun w G cx => cx, 0, rfl, Nat.zero_le _, by omega, by simp, rfl, rfl, rfl⟩, ?_⟩
  rintro jI R1 Φ1 k _ ⟨j, rfl, hj, hj21, hn, rfl, rfl, rfl⟩
  have cell : ∀ {w : World} {G2 : List Own}, Ctx W w (rq b (l, bad) :: (S ++ G) ++ G2) Φ1 → w.cell? ⟨b, 0, none⟩ = some (.string (bs l)) := fun cx => cx.get 0 rfl rfl
  have hbyte : ∀ {i : Nat}, i < l.length → (bs l).data.toList.get?Internal ((i : Int)).toNat = some (l[i]?.getD 0) ∧ l[i]? = some (l[i]?.getD 0) := fun {i} hi => by
    rw [bs_list, getI, Int.toNat_natCast, List.getElem?_eq_getElem hi]
    exact ⟨rfl, rfl⟩
  refine fun w G2 cx => ⟨bs l, cell cx, bs l, fun _ => cell cx, l[j]?.getD 0, fun h => ?_, ?_⟩
  · rw [Bool.and_eq_true, hsz] at h
    have h := of_decide_eq_true h.1
    exact ⟨by omega, (hbyte (by omega)).1⟩
  clear cx
  rw [hsz]
  refine Br.intro (fun h => ?_) (fun h => fun w G2 cx => ⟨bs l, cell cx, ?_⟩)
  · rw [Bool.and_eq_true, Bool.and_eq_true] at h
    have h1 := of_decide_eq_true h.1.1
    have h2 := of_decide_eq_true h.1.2
    have h3 := of_decide_eq_true h.2
    have hjl : j < l.length := by omega
    refine ⟨by unfold I64; omega, _, _, l.length - (j + 1), inferInstance, fun w G cx => cx, ⟨j + 1, by omega, hjl, by omega, fun hm => ?_, rfl, rfl, rfl⟩, by omega⟩
    rw [List.take_succ_eq_append_getElem hjl] at hm
    rcases List.mem_append.1 hm with hm | hm
    · exact hn hm
    · rw [List.getElem?_eq_getElem hjl] at h3
      rw [← List.mem_singleton.1 hm] at h3
      exact h3 (by simpa using hce)
  · clear cx
    rw [hsz]
    refine Br.intro (fun h1 => fun w G2 cx => none_ (ahead_none hc3 hn (.inl (by have := of_decide_eq_true h1; omega))) cx) (fun h1 => fun w G2 cx => ⟨bs l, cell cx, ?_⟩)
    clear cx
    have hjl : j < l.length := by have := of_decide_eq_false h1; omega
    obtain ⟨hb1, hb2⟩ := hbyte hjl
    refine ⟨_, ⟨by omega, hb1⟩, Br.intro (fun h2 => fun w G2 cx => none_ (ahead_none hc3 hn (.inr ?_)) cx) (fun h2 => fun w G2 cx => ⟨bs l, cell cx, ⟨by omega, by rw [hsz]; omega⟩, fun w G2 cx => ?_⟩)⟩
    · rw [Bool.and_eq_false_iff, Bool.and_eq_false_iff] at h
      rcases h with (h | h) | h
      · have := of_decide_eq_false h; omega
      · have := of_decide_eq_false h; omega
      · exact absurd (of_decide_eq_true h2) (of_decide_eq_false h)
    · have h2 : ((l[j]?.getD 0).toNat : Int) = e := Decidable.not_not.1 (of_decide_eq_false h2)
      have hje : l[j]? = some c := by
        rw [hb2]
        congr 1
        apply UInt8.toNat_inj.1
        omega
      rw [bs_ext, Int.toNat_natCast, List.drop_zero, Nat.sub_zero]
      refine Back_to (R := rq b (l, bad) :: (S ++ G)) (l.take j) (by rw [List.length_take]; omega) cx (fun n hnI hnE => ?_) (fun hbad m => ?_)
      · refine Br.intro (fun h => by cases h) (fun _ => fun w G2 cx => ⟨bs l, cell cx, by unfold I64; omega, ⟨by omega, by rw [hsz]; omega, Nat.le_refl _⟩, fun w G2 cx => ⟨cx.can 0 rfl (by simp), fun w' hw' => ?_⟩⟩)
        rw [stepN_some (ahead_some hc3 hje hnI hnE)] at hk
        have c2 := cx.put 0 hw' rfl
        have e1 : (bs l).extract ((j : Int) + 1).toNat (bs l).size = bs (l.drop (j + 1)) := by
          rw [bs_ext, hsz, show ((j : Int) + 1).toNat = j + 1 by omega, List.take_of_length_le (by rw [List.length_drop]; omega)]
        rw [e1] at c2
        exact ⟨rq b (l.drop (j + 1), bad) :: (S ++ G), Φ1, inferInstance, c2, fun w G2 cx => ⟨n, rfl, rq b (l.drop (j + 1), bad) :: S, Φ1, inferInstance, Ctx.left (S := rq b (l.drop (j + 1), bad) :: (S ++ G)) cx, hk⟩⟩
      · exact Br.intro (fun _ => fun w G2 cx => none_ (ahead_bad hc3 hn hje hbad) cx) (fun h => by cases h)

theorem number01_to [Stable Φ] {e : Int} (he : e = 58 ∨ e = 59 ∨ e = 91) (hl : st.1.length ≤ 1000000000) (c : Ctx W w (rq b st :: S ++ G) Φ) {K : Int → List Own → PW → Prop}
    (hk : K (stepN e.toNat.toUInt8 0 st).1 (rq b (stepN e.toNat.toUInt8 0 st).2 :: S) Φ) :
    Calls Tryz.prog F.errataref01_Reader_number #[.pointer (some ⟨b, 0, none⟩), .int .u8 e] w fun e w' => ∃ n, e = .returned (.int .i64 n) ∧ ∃ R' Φ', Stable Φ' ∧ Ctx W w' (R' ++ G) Φ' ∧ K n R' Φ' := by
  refine (Berrataref01_Reader_number_run b 0 e (J := fun u w' => ∃ n, (Ending.returned u) = .returned (.int .i64 n) ∧ ∃ R' Φ', Stable Φ' ∧ Ctx W w' (R' ++ G) Φ' ∧ K n R' Φ') (R := rq b st :: (S ++ G)) c ?_).mono fun e w' ⟨v, he, hj⟩ => by rw [he]; exact hj
  clear c
  have hc3 : (e.toNat.toUInt8).toNat = 58 ∨ (e.toNat.toUInt8).toNat = 59 ∨ (e.toNat.toUInt8).toNat = 91 := by rcases he with rfl | rfl | rfl <;> decide
  rw [stepN_zero hc3] at hk
  refine fun w G2 cx => ahead_to (S := S ++ G) he hl cx ?_
  clear cx
  refine Br.intro (fun h => fun w G2 cx => ?_) (fun h => fun w G2 cx => ?_)
  · rw [if_pos (of_decide_eq_true h)] at hk
    exact fail01_to (S := S ++ G) cx fun w G2 cx => ⟨0, rfl, rq b ([], true) :: S, Φ, inferInstance, Ctx.left (S := rq b ([], true) :: (S ++ G)) cx, hk⟩
  · rw [if_neg (of_decide_eq_false h)] at hk
    exact ⟨_, rfl, rq b (stepN e.toNat.toUInt8 minZ64 st).2 :: S, Φ, inferInstance, Ctx.left (S := rq b (stepN e.toNat.toUInt8 minZ64 st).2 :: (S ++ G)) cx, hk⟩
theorem Int01r_to [Stable Φ] (hl : st.1.length ≤ 1000000000) (c : Ctx W w (rq b st :: S ++ G) Φ) {K : Int → List Own → PW → Prop} (hk : K (rdInt st).1 (rq b (rdInt st).2 :: S) Φ) :
    Calls Tryz.prog F.errataref01_Reader_Int #[.pointer (some ⟨b, 0, none⟩)] w fun e w' => ∃ n, e = .returned (.int .i64 n) ∧ ∃ R' Φ', Stable Φ' ∧ Ctx W w' (R' ++ G) Φ' ∧ K n R' Φ' := by
  refine (Berrataref01_Reader_Int_run b 0 (J := fun u w' => ∃ n, (Ending.returned u) = .returned (.int .i64 n) ∧ ∃ R' Φ', Stable Φ' ∧ Ctx W w' (R' ++ G) Φ' ∧ K n R' Φ') (R := rq b st :: (S ++ G)) c ?_).mono fun e w' ⟨v, he, hj⟩ => by rw [he]; exact hj
  exact fun w G2 cx => ahead_to (S := S ++ G) (.inr (.inl rfl)) hl cx fun w G2 cx => ⟨_, rfl, rq b (rdInt st).2 :: S, Φ, inferInstance, Ctx.left (S := rq b (rdInt st).2 :: (S ++ G)) cx, hk⟩
theorem Num01r_to [Stable Φ] (hl : st.1.length ≤ 1000000000) (c : Ctx W w (rq b st :: S ++ G) Φ) {K : Int → List Own → PW → Prop} (hk : K (rdNat st).1 (rq b (rdNat st).2 :: S) Φ) :
    Calls Tryz.prog F.errataref01_Reader_Num #[.pointer (some ⟨b, 0, none⟩)] w fun e w' => ∃ n, e = .returned (.int .i64 n) ∧ ∃ R' Φ', Stable Φ' ∧ Ctx W w' (R' ++ G) Φ' ∧ K n R' Φ' := by
  refine (Berrataref01_Reader_Num_run b 0 (J := fun u w' => ∃ n, (Ending.returned u) = .returned (.int .i64 n) ∧ ∃ R' Φ', Stable Φ' ∧ Ctx W w' (R' ++ G) Φ' ∧ K n R' Φ') (R := rq b st :: (S ++ G)) c ?_).mono fun e w' ⟨v, he, hj⟩ => by rw [he]; exact hj
  exact fun w G2 cx => number01_to (S := S ++ G) (.inr (.inl rfl)) hl cx fun w G2 cx => ⟨_, rfl, rq b (rdNat st).2 :: S, Φ, inferInstance, Ctx.left (S := rq b (rdNat st).2 :: (S ++ G)) cx, hk⟩
theorem Left01_to [Stable Φ] (c : Ctx W w (rq b st :: S ++ G) Φ) {K : Int → List Own → PW → Prop} (hk : K st.1.length (rq b st :: S) Φ) :
    Calls Tryz.prog F.errataref01_Reader_Left #[.pointer (some ⟨b, 0, none⟩)] w fun e w' => ∃ n, e = .returned (.int .i64 n) ∧ ∃ R' Φ', Stable Φ' ∧ Ctx W w' (R' ++ G) Φ' ∧ K n R' Φ' := by
  refine (Berrataref01_Reader_Left_run b 0 (J := fun u w' => ∃ n, (Ending.returned u) = .returned (.int .i64 n) ∧ ∃ R' Φ', Stable Φ' ∧ Ctx W w' (R' ++ G) Φ' ∧ K n R' Φ') (R := rq b st :: (S ++ G)) c ?_).mono fun e w' ⟨v, he, hj⟩ => by rw [he]; exact hj
  exact fun w F1 cx => ⟨bs st.1, cx.get 0 rfl rfl, fun w F1 cx => ⟨st.1.length, by rw [bs_size], rq b st :: S, Φ, inferInstance, cx.left, hk⟩⟩
theorem bs_nil {l : List UInt8} : (bs l = ByteArray.mk #[]) ↔ l = [] := by
  constructor
  · intro h
    have := congrArg (fun x => x.data.toList) h
    exact this
  · intro h; rw [h]; rfl
theorem Done01_to [Stable Φ] (c : Ctx W w (rq b st :: S ++ G) Φ) {K : Bool → List Own → PW → Prop} (hk : K (rdDone st) (rq b st :: S) Φ) :
    Calls Tryz.prog F.errataref01_Reader_Done #[.pointer (some ⟨b, 0, none⟩)] w fun e w' => ∃ c, e = .returned (.bool c) ∧ ∃ R' Φ', Stable Φ' ∧ Ctx W w' (R' ++ G) Φ' ∧ K c R' Φ' := by
  refine (Berrataref01_Reader_Done_run b 0 (J := fun u w' => ∃ c, (Ending.returned u) = .returned (.bool c) ∧ ∃ R' Φ', Stable Φ' ∧ Ctx W w' (R' ++ G) Φ' ∧ K c R' Φ') (R := rq b st :: (S ++ G)) c ?_).mono fun e w' ⟨v, he, hj⟩ => by rw [he]; exact hj
  refine fun w F1 cx => ⟨st.2, cx.get 0 rfl rfl, bs st.1, fun _ => cx.get 0 rfl rfl, fun w F1 cx => ⟨rdDone st, ?_, rq b st :: S, Φ, inferInstance, cx.left, hk⟩⟩
  unfold rdDone
  rw [decide_eq_decide.2 (bs_nil (l := st.1))]
theorem close01_to [Stable Φ] {e : Int} (he : 0 ≤ e ∧ e ≤ 255) (hok : RdOk st) (c : Ctx W w (rq b st :: S ++ G) Φ) {K : Bool → List Own → PW → Prop}
    (hk : K (!(stepC e.toNat.toUInt8 st).2) (rq b (stepC e.toNat.toUInt8 st) :: S) Φ) :
    Calls Tryz.prog F.errataref01_Reader_close #[.pointer (some ⟨b, 0, none⟩), .int .u8 e] w fun e w' => ∃ c, e = .returned (.bool c) ∧ ∃ R' Φ', Stable Φ' ∧ Ctx W w' (R' ++ G) Φ' ∧ K c R' Φ' := by
  refine (Berrataref01_Reader_close_run b 0 e (J := fun u w' => ∃ c, (Ending.returned u) = .returned (.bool c) ∧ ∃ R' Φ', Stable Φ' ∧ Ctx W w' (R' ++ G) Φ' ∧ K c R' Φ') (R := rq b st :: (S ++ G)) c ?_).mono fun e w' ⟨v, he, hj⟩ => by rw [he]; exact hj
  clear c
  obtain ⟨l, bad⟩ := st
  obtain ⟨c, hc⟩ : ∃ c : UInt8, e.toNat.toUInt8 = c := ⟨_, rfl⟩
  have hce : (c.toNat : Int) = e := by
    subst hc
    have : e.toNat.toUInt8.toNat = e.toNat % 256 := by simp [Nat.toUInt8]
    omega
  rw [hc] at hk
  have hsz : (bs l).size = l.length := bs_size l
  have cell : ∀ {w : World} {G2 : List Own}, Ctx W w (rq b (l, bad) :: (S ++ G) ++ G2) Φ → w.cell? ⟨b, 0, none⟩ = some (.string (bs l)) := fun cx => cx.get 0 rfl rfl
  have none_ : stepC c (l, bad) = ([], true) → ∀ {w : World} {G2 : List Own}, Ctx W w (rq b (l, bad) :: (S ++ G) ++ G2) Φ → Calls Tryz.prog F.errataref01_Reader_fail #[.pointer (some ⟨b, 0, none⟩)] w fun e25 w26 => ∃ n27, e25 = .returned (.int .i64 n27) ∧ ∃ R28 Φ29, Stable Φ29 ∧ Ctx W w26 (R28 ++ G2) Φ29 ∧ ∀ (w30 : World) (R31 : List Own), Ctx W w30 (R28 ++ R31) Φ29 → ∃ c, (Ending.returned (Value.bool false)) = .returned (.bool c) ∧ ∃ R' Φ', Stable Φ' ∧ Ctx W w30 (R' ++ G) Φ' ∧ K c R' Φ' := fun h {w G2} cx => by
    rw [h] at hk
    exact fail01_to (S := S ++ G) (G := G2) cx fun w G3 cx => ⟨false, rfl, rq b ([], true) :: S, Φ, inferInstance, Ctx.left (S := rq b ([], true) :: (S ++ G)) cx, hk⟩
  refine fun w G2 cx => ⟨bs l, cell cx, ?_⟩
  clear cx
  rw [hsz]
  cases l with
  | nil => exact Br.intro (fun _ => fun w G2 cx => none_ rfl cx) (fun h => absurd rfl (of_decide_eq_false h))
  | cons x r =>
    refine Br.intro (fun h => by have := of_decide_eq_true h; rw [List.length_cons] at this; omega) (fun _ => fun w G2 cx => ⟨_, cell cx, x, ⟨by decide, rfl⟩, ?_⟩)
    clear cx
    refine Br.intro (fun h => fun w G2 cx => none_ (by unfold stepC; simp only; rw [if_neg fun e => of_decide_eq_true h (by rw [e]; exact hce)]) cx) (fun h => fun w G2 cx => ⟨_, cell cx, ⟨by decide, by rw [hsz, List.length_cons]; omega, Nat.le_refl _⟩, fun w G2 cx => ⟨cx.can 0 rfl (by simp), fun w' hw' => ?_⟩⟩)
    have hxc : x = c := by
      have := Decidable.not_not.1 (of_decide_eq_false h)
      apply UInt8.toNat_inj.1
      omega
    have hst : stepC c (x :: r, bad) = (r, bad) := by unfold stepC; simp only; rw [if_pos hxc]
    rw [hst] at hk
    have hbad : bad = false := by
      cases hb : bad with
      | false => rfl
      | true => have := hok hb; cases this
    have c2 := cx.put 0 hw' rfl
    have e1 : (bs (x :: r)).extract 1 (bs (x :: r)).size = bs r := by
      rw [bs_ext, hsz, List.drop_succ_cons, List.drop_zero, List.length_cons, List.take_of_length_le (by omega)]
    rw [e1] at c2
    rw [hbad] at hk c2
    exact ⟨rq b (r, false) :: (S ++ G), Φ, inferInstance, c2, fun w G2 cx => ⟨true, rfl, rq b (r, false) :: S, Φ, inferInstance, Ctx.left (S := rq b (r, false) :: (S ++ G)) cx, hk⟩⟩
theorem stepT_bad {st : RdS} (h : RdOk (stepN 58 0 st).2) (hb : (stepN 58 0 st).2.2 = true ∨ ((stepN 58 0 st).2.1.length : Int) ≤ (stepN 58 0 st).1) : stepT st = (ByteArray.mk #[], ([], true)) := by
  unfold stepT
  simp only
  have hn := stepN_nonneg (e := 58) (.inl rfl) st
  split
  · rfl
  · rename_i hlt
    have hd : (stepN 58 0 st).2.1.drop (stepN 58 0 st).1.toNat = [] := by
      rcases hb with hb | hb
      · rw [h hb, List.drop_nil]
      · exact List.drop_of_length_le (by omega)
    rw [hd]
    rfl
set_option maxHeartbeats 1000000 in
theorem Text01r_to [Stable Φ] (hok : RdOk st) (hl : st.1.length ≤ 1000000000) (c : Ctx W w (rq b st :: S ++ G) Φ) {K : ByteArray → List Own → PW → Prop} (hk : K (stepT st).1 (rq b (stepT st).2 :: S) Φ) :
    Calls Tryz.prog F.errataref01_Reader_Text #[.pointer (some ⟨b, 0, none⟩)] w fun e w' => ∃ s, e = .returned (.string s) ∧ ∃ R' Φ', Stable Φ' ∧ Ctx W w' (R' ++ G) Φ' ∧ K s R' Φ' := by
  refine (Berrataref01_Reader_Text_run b 0 (J := fun u w' => ∃ s, (Ending.returned u) = .returned (.string s) ∧ ∃ R' Φ', Stable Φ' ∧ Ctx W w' (R' ++ G) Φ' ∧ K s R' Φ') (R := rq b st :: (S ++ G)) c ?_).mono fun e w' ⟨v, he, hj⟩ => by rw [he]; exact hj
  clear c
  refine fun w G2 cx => number01_to (S := S ++ G) (.inl rfl) hl cx ?_
  clear cx
  rw [show ((58 : Int).toNat.toUInt8) = (58 : UInt8) from rfl]
  have hok1 := stepN_ok (e := 58) (least := 0) hok
  have hbd := stepT_bad (st := st) hok1
  have hn := stepN_nonneg (e := 58) (.inl rfl) st
  have hlen := stepN_len 58 0 st
  have hT : stepT st = if ((stepN 58 0 st).2.1.length : Int) < (stepN 58 0 st).1 then (ByteArray.mk #[], ([], true)) else (if (stepC 44 ((stepN 58 0 st).2.1.drop (stepN 58 0 st).1.toNat, (stepN 58 0 st).2.2)).2 then ByteArray.mk #[] else bs ((stepN 58 0 st).2.1.take (stepN 58 0 st).1.toNat), stepC 44 ((stepN 58 0 st).2.1.drop (stepN 58 0 st).1.toNat, (stepN 58 0 st).2.2)) := rfl
  obtain ⟨⟨n, l, bad⟩, ha⟩ : ∃ a, stepN 58 0 st = a := ⟨_, rfl⟩
  rw [ha] at hok1 hbd hn hlen hT ⊢
  simp only at hok1 hbd hn hlen hT ⊢
  have hsz : (bs l).size = l.length := bs_size l
  have cell : ∀ {w : World} {G2 : List Own}, Ctx W w (rq b (l, bad) :: (S ++ G) ++ G2) Φ → w.cell? ⟨b, 0, none⟩ = some (.string (bs l)) := fun cx => cx.get 0 rfl rfl
  refine fun w G2 cx => ⟨bad, cx.get 0 rfl rfl, bs l, fun _ => cell cx, ?_⟩
  clear cx
  rw [hsz]
  refine Br.intro (fun h => fun w G2 cx => fail01_to (S := S ++ G) cx fun w G2 cx => ?_) (fun h => fun w G2 cx => ⟨bs l, cell cx, ?_, fun w G2 cx => ⟨bs l, cell cx, ?_, fun w G2 cx => ⟨cx.can 0 rfl (by simp), fun w' hw' => ?_⟩⟩⟩)
  · rw [Bool.or_eq_true] at h
    rw [hbd (h.elim .inl fun h => .inr (of_decide_eq_true h))] at hk
    exact ⟨_, rfl, rq b ([], true) :: S, Φ, inferInstance, Ctx.left (S := rq b ([], true) :: (S ++ G)) cx, hk⟩
  all_goals rw [Bool.or_eq_false_iff] at h
  all_goals have h1 := of_decide_eq_false h.2
  · rw [hsz]; omega
  · rw [hsz]; exact ⟨by omega, by omega, Nat.le_refl _⟩
  · have c2 := cx.put 0 hw' rfl
    have e1 : (bs l).extract n.toNat (bs l).size = bs (l.drop n.toNat) := by
      rw [bs_ext, hsz, List.take_of_length_le (by rw [List.length_drop]; omega)]
    rw [e1] at c2
    have hok2 : RdOk (l.drop n.toNat, bad) := fun hb => by
      have : bad = true := hb
      rw [h.1] at this; cases this
    rw [if_neg (by omega)] at hT
    rw [hT] at hk
    refine ⟨rq b (l.drop n.toNat, bad) :: (S ++ G), Φ, inferInstance, c2, fun w G2 cx => close01_to (S := S ++ G) (st := (l.drop n.toNat, bad)) (e := 44) (by decide) hok2 cx ?_⟩
    clear cx c2
    rw [show ((44 : Int).toNat.toUInt8) = (44 : UInt8) from rfl]
    obtain ⟨c, hcq⟩ : ∃ c, stepC 44 (l.drop n.toNat, bad) = c := ⟨_, rfl⟩
    rw [hcq] at hk ⊢
    refine Br.intro (fun h2 => fun w G2 cx => ⟨_, rfl, rq b c :: S, Φ, inferInstance, Ctx.left (S := rq b c :: (S ++ G)) cx, ?_⟩) (fun h2 => fun w G2 cx => ⟨_, rfl, rq b c :: S, Φ, inferInstance, Ctx.left (S := rq b c :: (S ++ G)) cx, ?_⟩)
    · have h2 : c.2 = true := by simpa using h2
      simp only [h2, if_true] at hk
      exact hk
    · have h2 : c.2 = false := by simpa using h2
      have e2 : (bs l).extract 0 n.toNat = bs (l.take n.toNat) := by rw [bs_ext, List.drop_zero, Nat.sub_zero]
      rw [e2]
      simp only [h2] at hk
      exact hk
end
end Go.Proofs.YtjlfpkgjcffilaaGreatDoor
end

/-
  The reference's reader: lists of ints, rows; walked.
-/
section
set_option linter.unusedVariables false
set_option linter.unusedSimpArgs false
namespace Go.Proofs.YtjlfpkgjcffilaaGreatDoor
open Go.Vc


/-! ### rows, in plain Lean -/
def vLoop : Nat → RdS → List ValD → List ValD × RdS
  | 0, st, acc => (acc, st)
  | n + 1, st, acc => vLoop n (stepV st).2 (acc ++ [(stepV st).1])
theorem stepV_nil (b : Bool) : (stepV ([], b)).2 = ([], true) := by
  have h1 : ∀ b, rdInt ([], b) = (0, ([], true)) := fun b => stepN_none (numP_nil _ _)
  have h2 : ∀ b, stepN 58 0 (([] : List UInt8), b) = (0, ([], true)) := fun b => stepN_none (numP_nil _ _)
  unfold stepV
  rw [h1, h1]
  unfold stepT
  rw [h2]
  rfl
theorem vLoop_bad : ∀ (n : Nat) (acc : List ValD), (vLoop n ([], true) acc).2 = ([], true)
  | 0, acc => rfl
  | n + 1, acc => by
    show (vLoop n (stepV ([], true)).2 _).2 = _
    rw [stepV_nil]
    exact vLoop_bad n _
theorem vLoop_row : ∀ (n : Nat) (st : RdS) (acc : List ValD), (∀ a s', rowLoop n st acc = some (a, s') → vLoop n st acc = (a, s')) ∧ (rowLoop n st acc = none → rdDone (vLoop n st acc).2 = false)
  | 0, st, acc => ⟨fun a s' h => by unfold rowLoop at h; exact Option.some.inj h, fun h => by unfold rowLoop at h; cases h⟩
  | n + 1, st, acc => by
    have ih := vLoop_row n (stepV st).2 (acc ++ [(stepV st).1])
    unfold rowLoop vLoop
    split
    · rename_i hnil
      refine ⟨fun a s' h => (by cases h), fun _ => ?_⟩
      obtain ⟨l, b⟩ := st
      have hnil : l = [] := hnil
      rw [hnil, stepV_nil, vLoop_bad]
      rfl
    · exact ih
theorem vLoop_len : ∀ (n : Nat) (st : RdS) (acc : List ValD), (vLoop n st acc).1.length = acc.length + n
  | 0, st, acc => rfl
  | n + 1, st, acc => by
    show (vLoop n (stepV st).2 (acc ++ [(stepV st).1])).1.length = _
    rw [vLoop_len n, List.length_append, List.length_singleton]; omega
theorem rowLoop_long : ∀ (n : Nat) (st : RdS) (acc : List ValD), st.1.length < n → rowLoop n st acc = none
  | 0, st, acc, h => by omega
  | n + 1, st, acc, h => by
    unfold rowLoop
    split
    · rfl
    · rename_i hne
      exact rowLoop_long n _ _ (by have := (stepV_len st).2.1 hne; omega)
/-- the reference's loop gives what the program's gives -/
theorem row_same {l : List UInt8} {n : Int} {s0 : RdS} (h0 : rdNat (l, false) = (n, s0)) (hn : 0 ≤ n) : readRowP l = (let x := vLoop (min n.toNat l.length) s0 []; if rdDone x.2 = true ∧ (x.1.length : Int) = n then some x.1 else none) := by
  have hlen : s0.1.length ≤ l.length := by
    have h := stepN_len 59 0 (l, false)
    have e : stepN 59 0 (l, false) = (n, s0) := h0
    rw [e] at h
    exact h
  have hP : readRowP l = match rowLoop n.toNat s0 [] with
    | some (acc, st) => if rdDone st then some acc else none
    | none => none := by
    show (match rowLoop (rdNat (l, false)).1.toNat (rdNat (l, false)).2 [] with
      | some (acc, st) => if rdDone st then some acc else none
      | none => none) = _
    rw [h0]
  rw [hP]
  simp only
  have hL := vLoop_len (min n.toNat l.length) s0 []
  rw [List.length_nil, Nat.zero_add] at hL
  rcases Nat.lt_or_ge l.length n.toNat with hlt | hge
  · rw [rowLoop_long _ _ _ (by omega)]
    rw [if_neg fun h => by have := h.2; omega]
  · have hm : min n.toNat l.length = n.toNat := Nat.min_eq_left hge
    rw [hm] at hL ⊢
    obtain ⟨k1, k2⟩ := vLoop_row n.toNat s0 []
    cases hr : rowLoop n.toNat s0 [] with
    | none => simp only; rw [if_neg fun h => by rw [k2 hr] at h; cases h.1]
    | some x =>
      obtain ⟨a, s'⟩ := x
      have hv := k1 a s' hr
      rw [hv] at hL ⊢
      simp only at hL ⊢
      by_cases hd : rdDone s' = true
      · rw [if_pos hd, if_pos ⟨hd, by omega⟩]
      · rw [if_neg hd, if_neg fun h => hd h.1]

section
variable {W w : World} {R G S : List Own} {Φ : PW} {b : Nat} {st : RdS}

set_option maxHeartbeats 1000000 in
theorem ReadRow03_to [Stable Φ] (l : List UInt8) (hl : l.length ≤ 10000000) (c : Ctx W w (R ++ G) Φ) {K : Option Addr → Nat → Nat → Bool → List Own → PW → Prop}
    (h0 : readRowP l = none → K none 0 0 false R Φ)
    (h1 : ∀ r p cap, readRowP l = some r → r.length ≤ cap → cap ≤ maxLen → Stable (fun M w => Φ M w ∧ Sl M w p r) → K p r.length cap true R (fun M w => Φ M w ∧ Sl M w p r)) :
    Calls Tryz.prog F.errataref03_ReadRow #[.string (bs l)] w fun e w' => ∃ p n c ok, e = .returned (.tuple #[.slice p n c, .bool ok]) ∧ ∃ R' Φ', Stable Φ' ∧ Ctx W w' (R' ++ G) Φ' ∧ K p n c ok R' Φ' := by
  refine (Berrataref03_ReadRow_run (bs l) (J := fun u w' => ∃ p n c ok, (Ending.returned u) = .returned (.tuple #[.slice p n c, .bool ok]) ∧ ∃ R' Φ', Stable Φ' ∧ Ctx W w' (R' ++ G) Φ' ∧ K p n c ok R' Φ') (R := R ++ G) c ?_).mono fun e w' ⟨v, he, hj⟩ => by rw [he]; exact hj
  clear c
  have hsz : (bs l).size = l.length := bs_size l
  refine fun w G2 cx => Open01_to (S := R ++ G) l cx fun b => ?_
  clear cx
  refine fun w G2 cx => Num01r_to (S := R ++ G) (by show l.length ≤ _; omega) cx ?_
  clear cx
  have hok : RdOk (rdNat (l, false)).2 := rdNat_ok (rdOk0 l)
  have hlen : (rdNat (l, false)).2.1.length ≤ l.length := stepN_len 59 0 (l, false)
  have hnn : 0 ≤ (rdNat (l, false)).1 ∧ (rdNat (l, false)).1 ≤ 9223372036854775807 := stepN_nonneg (e := 59) (.inr (.inl rfl)) (l, false)
  obtain ⟨⟨n0, st0⟩, hst⟩ : ∃ x, rdNat (l, false) = x := ⟨_, rfl⟩
  have hsame := row_same hst (by rw [hst] at hnn; exact hnn.1)
  rw [hst] at hok hlen hnn ⊢
  simp only at hok hlen hnn ⊢
  obtain ⟨m, hm⟩ : ∃ m, min n0.toNat l.length = m := ⟨_, rfl⟩
  rw [hm] at hsame
  refine exI_mk (fun p n c iI R' Φ' k => ∃ (i : Nat) (sl : RdS) (acc : List ValD) (ds : List Value), iI = i ∧ i ≤ m ∧ acc.length = i ∧ n = acc.length ∧ R' = .buf p n c ds 94 3 :: rq b sl :: (R ++ G) ∧ Φ' = (fun M w => Φ M w ∧ Elems M w ds acc) ∧ k = m - i ∧ RdOk sl ∧ sl.1.length ≤ l.length ∧ vLoop m st0 [] = vLoop (m - i) sl acc)
    ⟨⟨.buf none 0 0 [] 94 3 :: rq b st0 :: (R ++ G), fun M w => Φ M w ∧ Elems M w [] ([] : List ValD), _, inferInstance, fun w G cx => (cx.nobuf 94 3).weak fun M w h => ⟨h, Elems.nil⟩, 0, st0, [], [], rfl, Nat.zero_le _, rfl, rfl, rfl, rfl, rfl, hok, hlen, rfl⟩, ?_⟩
  rintro p n c iI R1 Φ1 k _ ⟨i, sl, acc, ds, rfl, him, hacc, rfl, rfl, rfl, rfl, hok1, hlen1, hvl⟩
  have st1 : Stable (fun M w => Φ M w ∧ Elems M w ds acc) := inferInstance
  refine fun w G2 cx => ?_
  clear cx
  rw [hsz]
  refine Br.intro (fun hgo => fun _ w G2 cx => ?_) (fun hst2 => fun w G2 cx => ?_)
  · rw [Bool.and_eq_true] at hgo
    have g1 := of_decide_eq_true hgo.1
    have g2 := of_decide_eq_true hgo.2
    have him : i < m := by omega
    rw [show m - i = (m - (i + 1)) + 1 by omega] at hvl
    have hvl : vLoop m st0 [] = vLoop (m - (i + 1)) (stepV sl).2 (acc ++ [(stepV sl).1]) := hvl
    have q1 := rdInt_len sl
    have q2 := rdInt_len (rdInt sl).2
    obtain ⟨q3, q4⟩ := stepT_len (rdInt (rdInt sl).2).2
    refine Int01r_to (S := .buf p acc.length c ds 94 3 :: (R ++ G)) (by omega) cx.swap ?_
    clear cx
    refine fun w G2 cx => Int01r_to (S := .buf p acc.length c ds 94 3 :: (R ++ G)) (by omega) cx ?_
    clear cx
    refine fun w G2 cx => Text01r_to (S := .buf p acc.length c ds 94 3 :: (R ++ G)) (rdInt_ok (rdInt_ok hok1)) (by omega) cx ?_
    clear cx
    refine fun kb w G2 cx => ?_
    have hrep : ∀ M w, Gv.rep M w [.int .i64 (stepV sl).1.kind, .int .i64 (stepV sl).1.num, .string (stepV sl).1.text] (stepV sl).1 := fun M w => rep_of (rdInt_i64 _) (rdInt_i64 _) (by show (stepT (rdInt (rdInt sl).2).2).1.size ≤ maxLen; unfold maxLen; omega)
    have cx1 : Ctx W w (.blk kb [.int .i64 (stepV sl).1.kind, .int .i64 (stepV sl).1.num, .string (stepV sl).1.text] 94 :: .buf p acc.length c ds 94 3 :: (rq b (stepV sl).2 :: (R ++ G)) ++ G2) (fun M w => Φ M w ∧ Elems M w ds acc) := cx.perm ((List.Perm.swap _ _ _).cons _)
    obtain ⟨p', cap', w', hrun, _, cx'⟩ := Ctx.app1 (P := Tryz.prog) (ts := 44) (ty := 44) (kb := #[false, false]) (size := 3) (bytes := 32) cx1 (by kernel_rfl) (by omega) rfl rfl (by omega) (by omega)
    have e : acc.length + 1 = (acc ++ [(stepV sl).1]).length := by simp
    rw [e] at hrun cx'
    refine ⟨p', _, cap', w', hrun, _, _, inferInstance, cx'.weak fun M w h => (⟨h.1, h.2.snoc (hrep M w)⟩ : Φ M w ∧ Elems M w _ (acc ++ [(stepV sl).1])), by unfold I64; omega, _, _, m - (i + 1), inferInstance, fun w G cx => cx, ⟨i + 1, (stepV sl).2, _, _, by omega, by omega, by rw [← e]; omega, rfl, rfl, rfl, rfl, stepT_ok (rdInt_ok (rdInt_ok hok1)), ?_, hvl⟩, by omega⟩
    have := (stepV_len sl).1
    omega
  · have him : i = m := by
      rcases Bool.and_eq_false_iff.1 hst2 with h | h
      · have := of_decide_eq_false h; omega
      · have := of_decide_eq_false h; omega
    rw [him, Nat.sub_self] at hvl
    rw [hvl] at hsame
    have hsame : readRowP l = if rdDone sl = true ∧ (acc.length : Int) = n0 then some acc else none := hsame
    refine Done01_to (S := .buf p acc.length c ds 94 3 :: (R ++ G)) cx.swap ?_
    clear cx
    have drop : ∀ {w : World} {G2 : List Own}, Ctx W w (rq b sl :: (.buf p acc.length c ds 94 3 :: (R ++ G)) ++ G2) (fun M w => Φ M w ∧ Elems M w ds acc) → Ctx W w (R ++ G) Φ := fun {w G2} cx => (Ctx.drop1 (Ctx.drop1 (Ctx.left (S := rq b sl :: .buf p acc.length c ds 94 3 :: (R ++ G)) cx))).fst
    refine Br.intro (fun h => fun w G2 cx => ⟨none, 0, 0, false, rfl, R, Φ, inferInstance, drop cx, h0 (by rw [hsame, if_neg fun h2 => by rw [h2.1] at h; cases h])⟩) (fun h => Br.intro (fun h2 => fun w G2 cx => ⟨none, 0, 0, false, rfl, R, Φ, inferInstance, drop cx, h0 (by rw [hsame, if_neg fun h3 => absurd h3.2 (of_decide_eq_true h2)])⟩) (fun h2 => fun w G2 cx => ?_))
    have hd : rdDone sl = true := by simpa using h
    have cx2 : Ctx W w (.buf p acc.length c ds 94 3 :: (R ++ G)) (fun M w => Φ M w ∧ Elems M w ds acc) := Ctx.drop1 (Ctx.left (S := rq b sl :: .buf p acc.length c ds 94 3 :: (R ++ G)) cx)
    obtain ⟨cx3, hs, _, k1, k2⟩ := Ctx.freeze (α := ValD) cx2 cx2.phi.2
    exact ⟨p, _, c, true, rfl, R, _, inferInstance, (cx3.add hs).weak fun M w h => ⟨h.1.1, h.2⟩, h1 acc p c (by rw [hsame, if_pos ⟨hd, Decidable.not_not.1 (of_decide_eq_false h2)⟩]) k1 k2 inferInstance⟩
theorem ReadRow03s_to [Stable Φ] (s : ByteArray) (hl : s.size ≤ 10000000) (c : Ctx W w (R ++ G) Φ) {K : Option Addr → Nat → Nat → Bool → List Own → PW → Prop}
    (h0 : readRowP s.data.toList = none → K none 0 0 false R Φ)
    (h1 : ∀ r p cap, readRowP s.data.toList = some r → r.length ≤ cap → cap ≤ maxLen → Stable (fun M w => Φ M w ∧ Sl M w p r) → K p r.length cap true R (fun M w => Φ M w ∧ Sl M w p r)) :
    Calls Tryz.prog F.errataref03_ReadRow #[.string s] w fun e w' => ∃ p n c ok, e = .returned (.tuple #[.slice p n c, .bool ok]) ∧ ∃ R' Φ', Stable Φ' ∧ Ctx W w' (R' ++ G) Φ' ∧ K p n c ok R' Φ' := by
  have := ReadRow03_to (l := s.data.toList) (by rw [list_size]; exact hl) c h0 h1
  rw [bs_of] at this
  exact this

set_option maxHeartbeats 1000000 in
theorem Nums01r_to [Stable Φ] (hok : RdOk st) (hl : st.1.length ≤ 10000000) {out : List Int} {s1 : RdS} (e : numsK st = (out, s1)) (c : Ctx W w (rq b st :: S ++ G) Φ) {K : Option Addr → Nat → Nat → List Own → PW → Prop}
    (hk : ∀ p c, out.length ≤ c → c ≤ maxLen → (∀ x ∈ out, I64 x) → out.length * 2 ≤ st.1.length + 2 → There p out.length → Stable (fun M w => Φ M w ∧ Sl M w p out) → K p out.length c (rq b s1 :: S) (fun M w => Φ M w ∧ Sl M w p out)) :
    Calls Tryz.prog F.errataref01_Reader_Nums #[.pointer (some ⟨b, 0, none⟩)] w fun e w' => ∃ p n c, e = .returned (.slice p n c) ∧ ∃ R' Φ', Stable Φ' ∧ Ctx W w' (R' ++ G) Φ' ∧ K p n c R' Φ' := by
  refine (Berrataref01_Reader_Nums_run b 0 (J := fun u w' => ∃ p n c, (Ending.returned u) = .returned (.slice p n c) ∧ ∃ R' Φ', Stable Φ' ∧ Ctx W w' (R' ++ G) Φ' ∧ K p n c R' Φ') (R := rq b st :: (S ++ G)) c ?_).mono fun e w' ⟨v, he, hj⟩ => by rw [he]; exact hj
  clear c
  refine fun w G2 cx => number01_to (S := S ++ G) (.inr (.inr rfl)) (by omega) cx ?_
  clear cx
  have hok0 := stepN_ok (e := 91) (least := 0) hok
  have hlen := stepN_len 91 0 st
  have hnn := stepN_nonneg (e := 91) (.inr (.inr rfl)) st
  rw [show (91 : Int).toNat.toUInt8 = 91 from rfl]
  have hall : numsK st = (if (stepC 93 (itemsK (stepN 91 0 st).1.toNat (stepN 91 0 st).2 []).2).2 then [] else (itemsK (stepN 91 0 st).1.toNat (stepN 91 0 st).2 []).1, stepC 93 (itemsK (stepN 91 0 st).1.toNat (stepN 91 0 st).2 []).2) := rfl
  obtain ⟨⟨n0, st0⟩, hst⟩ : ∃ x, stepN 91 0 st = x := ⟨_, rfl⟩
  rw [hst] at hlen hnn hall hok0 ⊢
  simp only at hlen hnn hall hok0 ⊢
  refine exI_mk (fun p n c iI R' Φ' k => ∃ (i : Nat) (sl : RdS) (acc : List Int), iI = i ∧ (i : Int) ≤ n0 ∧ n = acc.length ∧ R' = bufZ p c acc :: rq b sl :: (S ++ G) ∧ Φ' = Φ ∧ k = n0.toNat - i ∧ RdOk sl ∧ sl.1.length ≤ st.1.length ∧ (sl.2 = false → acc.length * 2 + sl.1.length ≤ st.1.length) ∧ acc.length * 2 ≤ st.1.length + 2 ∧ (∀ x ∈ acc, I64 x) ∧ itemsK n0.toNat st0 [] = itemsK (n0.toNat - i) sl acc)
    ⟨⟨bufZ none 0 [] :: rq b st0 :: (S ++ G), Φ, _, inferInstance, fun w G cx => cx.nobuf 3 1, 0, st0, [], rfl, hnn.1, rfl, rfl, rfl, rfl, hok0, hlen, fun _ => by simp only [List.length_nil]; omega, by simp, by simp, rfl⟩, ?_⟩
  rintro p n c iI R1 Φ1 k _ ⟨i, sl, acc, rfl, hin, rfl, rfl, rfl, rfl, hok1, hsl, hal, hal2, hai, hit⟩
  refine fun w G2 cx => ⟨sl.2, fun _ => cx.get 1 rfl rfl, ?_⟩
  clear cx
  refine Br.intro (fun hgo => fun w G2 cx => ?_) (fun hstop => fun w G2 cx => ⟨sl.2, cx.get 1 rfl rfl, ?_⟩)
  · rw [Bool.and_eq_true] at hgo
    have hpos := of_decide_eq_true hgo.1
    have hgood : sl.2 = false := by simpa using hgo.2
    have hal := hal hgood
    refine Int01r_to (S := bufZ p c acc :: (S ++ G)) (by omega) cx.swap ?_
    clear cx
    refine fun kb w G2 cx => ?_
    have cx1 : Ctx W w (.blk kb [.int .i64 (rdInt sl).1] 3 :: bufZ p c acc :: (rq b (rdInt sl).2 :: (S ++ G)) ++ G2) Φ1 := cx.perm ((List.Perm.swap _ _ _).cons _)
    obtain ⟨p', c', w', hrun, cx'⟩ := pushZ (by omega) cx1
    have q := rdInt_len sl
    refine ⟨p', _, c', w', hrun, _, Φ1, inferInstance, cx', by unfold I64; omega, _, Φ1, n0.toNat - (i + 1), inferInstance, fun w G cx => cx, ⟨i + 1, (rdInt sl).2, acc ++ [(rdInt sl).1], by omega, by omega, rfl, rfl, rfl, rfl, rdInt_ok hok1, by omega, ?_, ?_, ?_, ?_⟩, by omega⟩
    · intro hg2
      rw [List.length_append, List.length_singleton]
      rcases rdInt_eats sl with ⟨e, _⟩ | ⟨e, _⟩
      · rw [e] at hg2; cases hg2
      · omega
    · rw [List.length_append, List.length_singleton]
      omega
    · intro x hx
      rcases List.mem_append.1 hx with hx | hx
      · exact hai x hx
      · rw [List.mem_singleton.1 hx]; exact rdInt_i64 _
    · rw [hit, show n0.toNat - i = (n0.toNat - (i + 1)) + 1 by omega, itemsK_s hgood]
  · clear cx
    have hend : itemsK n0.toNat st0 [] = (acc, sl) := by
      rw [hit]
      rcases Bool.and_eq_false_iff.1 hstop with h | h
      · have := of_decide_eq_false h
        rw [show n0.toNat - i = 0 by omega]; rfl
      · exact itemsK_e (by simpa using h)
    rw [hend] at hall
    simp only at hall
    rw [e] at hall
    have nil_ : out = [] → ∀ {w : World} {G2 : List Own} {s : RdS}, s = s1 → Ctx W w (rq b s :: bufZ p c acc :: (S ++ G) ++ G2) Φ1 → ∃ p n c, (Ending.returned (Value.slice none 0 0)) = .returned (.slice p n c) ∧ ∃ R' Φ', Stable Φ' ∧ Ctx W w (R' ++ G) Φ' ∧ K p n c R' Φ' := fun hnil {w G2 s} hs cx => by
      have h := hk none 0
      rw [hnil] at h
      subst hs
      exact ⟨none, 0, 0, rfl, rq b s :: S, _, inferInstance, ((Ctx.drop1 (Ctx.swap (Ctx.left (S := rq b s :: bufZ p c acc :: (S ++ G)) cx)))).weak fun M w h => (⟨h, Sl.nil⟩ : Φ1 M w ∧ Sl M w none ([] : List Int)), h (Nat.le_refl _) (Nat.zero_le _) (by simp) (by simp) (fun h => absurd h (by simp)) inferInstance⟩
    refine Br.intro (fun hb => fun w G2 cx => ?_) (fun hb => fun w G2 cx => close01_to (S := bufZ p c acc :: (S ++ G)) (e := 93) (by decide) hok1 cx.swap ?_)
    · have hnil := hok1 hb
      obtain ⟨l', b'⟩ := sl
      have hb : b' = true := hb
      have hnil : l' = [] := hnil
      subst hb hnil
      have h2 := Prod.ext_iff.1 hall
      exact nil_ h2.1 h2.2.symm cx.swap
    · clear cx
      rw [show (93 : Int).toNat.toUInt8 = 93 from rfl]
      refine Br.intro (fun h => fun w G2 cx => ?_) (fun h => fun w G2 cx => ?_)
      · have h : (stepC 93 sl).2 = true := by simpa using h
        have h2 := Prod.ext_iff.1 hall
        rw [if_pos h] at h2
        exact nil_ h2.1 h2.2.symm cx
      · have h : (stepC 93 sl).2 = false := by simpa using h
        have h2 := Prod.ext_iff.1 hall
        rw [if_neg (by rw [h]; simp)] at h2
        have h3 : out = acc := h2.1
        have h4 : s1 = stepC 93 sl := h2.2
        rw [h3, h4] at hk
        have cy : Ctx W w (bufZ p c acc :: rq b (stepC 93 sl) :: (S ++ G)) Φ1 := (Ctx.left (S := rq b (stepC 93 sl) :: bufZ p c acc :: (S ++ G)) cx).swap
        have hth : There p acc.length := fun h0 => by
          obtain ⟨g, hg⟩ := z_ptr cy h0
          exact ⟨g, 0, hg⟩
        obtain ⟨cx3, hs, _, g1, g2⟩ := Ctx.freeze (α := Int) cy (ints_elems acc hai)
        exact ⟨p, _, c, rfl, rq b (stepC 93 sl) :: S, _, inferInstance, cx3.add hs, hk p c g1 g2 hai hal2 hth inferInstance⟩
end
end Go.Proofs.YtjlfpkgjcffilaaGreatDoor
end

/-
  A sink: Copy and Read, walked.
-/
section
set_option linter.unusedVariables false
set_option linter.unusedSimpArgs false
namespace Go.Proofs.YtjlfpkgjcffilaaGreatDoor
open Go.Vc


theorem Ctx.mid {W w : World} {A B G : List Own} {x : Own} {Φ : PW} [Stable Φ] (c : Ctx W w ((x :: (A ++ B)) ++ G) Φ) : Ctx W w ((A ++ (x :: B)) ++ G) Φ := c.perm (by simpa using (List.perm_middle (l₁ := A) (a := x) (l₂ := B ++ G)).symm)
theorem Ctx.front {W w : World} {A B G : List Own} {x : Own} {Φ : PW} [Stable Φ] (c : Ctx W w ((A ++ (x :: B)) ++ G) Φ) : Ctx W w ((x :: (A ++ B)) ++ G) Φ := c.perm (by simp)
theorem perm_rev3 {A T : List Own} {a b c : Own} : (A ++ (a :: b :: c :: T)).Perm (c :: b :: a :: (A ++ T)) := by
  have h : (A ++ ([a, b, c] ++ T)).Perm ([a, b, c] ++ (A ++ T)) := by
    rw [← List.append_assoc, ← List.append_assoc]
    exact List.Perm.append_right _ List.perm_append_comm
  exact h.trans ((List.reverse_perm [c, b, a]).append_right (A ++ T))
theorem Ctx.swapU {W w : World} {A B R G : List Own} {Φ : PW} [Stable Φ] (c : Ctx W w ((A ++ (B ++ R)) ++ G) Φ) : Ctx W w ((B ++ (A ++ R)) ++ G) Φ := c.perm (by
  rw [← List.append_assoc, ← List.append_assoc B A]
  exact List.Perm.append_right _ (List.Perm.append_right _ List.perm_append_comm))

/-! ### slices -/
theorem subPtr_z (p : Option Addr) (s m : Nat) : subPtr p s 0 m = p := by
  unfold subPtr
  split
  · rfl
  · cases p with
    | none => rfl
    | some a => simp [Addr.add]
theorem sl_take {M : List Nat} {w : World} {p : Option Addr} {l : List LineD} (h : Sl M w p l) (j : Nat) : Sl M w p (l.take j) := fun i hi => by
  rw [List.length_take] at hi
  rw [List.getElem_take]
  exact h i (by omega)
theorem there_sub {p : Option Addr} {l : List LineD} {j c : Nat} (h : There p l.length) : There (subPtr p 7 j c) (l.drop j).length := fun h0 => by
  rw [List.length_drop] at h0
  obtain ⟨b, o, rfl⟩ := h (by omega)
  unfold subPtr
  split
  · exact ⟨b, o, rfl⟩
  · exact ⟨b, o + j * 7, by simp [Addr.add]⟩
theorem sl_batch {M : List Nat} {w : World} {b o : Nat} {l : List LineD} (h : Sl M w (some ⟨b, o, none⟩) l) {i : Nat} (hi : i < l.length) : w.cell? ⟨b, o + i * 7 + 1, none⟩ = some (.int .i64 l[i].batch) := by
  obtain ⟨b', o', cs, e, _, h3, h4⟩ := h i hi
  cases e
  obtain ⟨p', c', e', _, _, _, _⟩ := line_cells h4
  rw [e'] at h3
  have := h3 1 (by show 1 < 7; decide)
  exact this
theorem head_take {b : Int} : ∀ {l : List LineD} {j : Nat}, j ≤ l.length → (∀ x ∈ l.take j, x.batch = b) → (∀ h : j < l.length, l[j].batch ≠ b) → headK b l = l.take j ∧ restK b l = l.drop j
  | [], j, h, _, _ => by simp [headK, restK]
  | x :: l, 0, _, _, h => by
    have h : x.batch ≠ b := h (by simp)
    unfold headK restK
    rw [List.takeWhile_cons_of_neg (by simpa using h), List.dropWhile_cons_of_neg (by simpa using h)]
    exact ⟨rfl, rfl⟩
  | x :: l, j + 1, h1, h2, h3 => by
    have hx : x.batch = b := h2 x (by simp)
    obtain ⟨g1, g2⟩ := head_take (b := b) (l := l) (j := j) (by simpa using h1) (fun y hy => h2 y (by simp [hy])) (fun h => by have := h3 (by simpa using h); simpa using this)
    unfold headK restK at *
    rw [List.takeWhile_cons_of_pos (by simpa using hx), List.dropWhile_cons_of_pos (by simpa using hx), g1, g2]
    exact ⟨rfl, rfl⟩
theorem shift_len (m : Int) (l : List LineD) : (shiftL m l).length = l.length := by simp [shiftL]
theorem shift_at {m : Int} {a : List LineD} {i : Nat} (hi : i < a.length) : (shiftL m (a.take i) ++ a.drop i)[i]? = some a[i] := by
  have hl : (shiftL m (a.take i)).length = i := by rw [shift_len, List.length_take]; omega
  rw [List.getElem?_append_right (by omega), hl, Nat.sub_self, List.getElem?_drop, Nat.add_zero, List.getElem?_eq_getElem hi]
theorem shift_step {m : Int} {a : List LineD} {i : Nat} (hi : i < a.length) : (shiftL m (a.take i) ++ a.drop i).set i { a[i] with no := a[i].no + m } = shiftL m (a.take (i + 1)) ++ a.drop (i + 1) := by
  have hl : (shiftL m (a.take i)).length = i := by rw [shift_len, List.length_take]; omega
  rw [List.set_append_right _ _ (by omega), hl, Nat.sub_self, List.drop_eq_getElem_cons hi, List.set_cons_zero, List.take_succ_eq_append_getElem hi]
  unfold shiftL
  rw [List.map_append, List.append_assoc]
  rfl
theorem num_at : ∀ {n : Int} {l : List LineD} {i : Nat} (h : i < l.length), numK n l = true → l[i].no = n + i
  | n, x :: l, 0, _, h => by
    have h : (decide (x.no = n) && numK (n + 1) l) = true := h
    rw [Bool.and_eq_true] at h
    have := of_decide_eq_true h.1
    show x.no = n + ((0 : Nat) : Int)
    omega
  | n, x :: l, i + 1, hi, h => by
    have h : (decide (x.no = n) && numK (n + 1) l) = true := h
    rw [Bool.and_eq_true] at h
    have := num_at (i := i) (by simpa using hi) h.2
    rw [List.getElem_cons_succ]
    omega

section
variable {Φ : PW} {q : KP} {st : SkD} {W w : World} {R S G : List Own} {p : Option Addr} {cap : Nat} {L : List LineD} {cs : List Value}

theorem CloneZ_new [Stable Φ] {l : List Int} (src : SrcZ S Φ p l) (hlen : l.length ≤ 10000000) (c : Ctx W w S Φ) :
    Calls Tryz.prog F.slices_Clone_int_int #[.slice p l.length cap] w fun e w' => ∃ p' c', e = .returned (.slice p' l.length c') ∧ Ctx W w' (bufZ p' c' l :: S) Φ := by
  refine (Bslices_Clone_int_int_run p l.length cap (J := fun v w' => ∃ p' c', v = .slice p' l.length c' ∧ Ctx W w' (bufZ p' c' l :: S) Φ) c ?_).mono fun e w' ⟨v, he, p', c', hv, rest⟩ => ⟨p', c', by rw [he, hv], rest⟩
  clear c
  refine Br.intro (fun hn => fun w F c => ?_) (fun hn => fun k w F c => ?_)
  · have hl : l = [] := by
      rcases Nat.eq_zero_or_pos l.length with h0 | h0
      · exact List.eq_nil_of_length_eq_zero h0
      · obtain ⟨b, o, e⟩ := src.ptr h0
        rw [e] at hn; cases hn
    subst hl
    exact ⟨none, 0, rfl, c.left.buf0 3 1⟩
  · have c' : Ctx W w (bufZ (some ⟨k, 0, none⟩) 0 [] :: (S ++ F)) Φ := c.toBuf 0 0 1 rfl (by simp) (by simp [maxLen])
    obtain ⟨i, z, e1, e2, e3, e4, e5, e6⟩ := appB_out (P := Tryz.prog) (ts := 50) (t := 3) (size := 1) (bytes := 8) (by kernel_rfl)
    rcases Nat.eq_zero_or_pos l.length with h0 | h0
    · have hl : l = [] := List.eq_nil_of_length_eq_zero h0
      subst hl
      exact ⟨_, _, _, w, run_app (c'.append0 0 rfl e1 e2 p cap), bufZ (some ⟨k, 0, none⟩) 0 [] :: S, Φ, inferInstance, c', fun w G c => ⟨some ⟨k, 0, none⟩, 0, rfl, c.left⟩⟩
    · obtain ⟨b, o, hp⟩ := src.ptr h0
      obtain ⟨p', cap', w', hrun, cx⟩ := c'.append 0 rfl (ty := 50) e1 e2 e3 e4 e5 (a := ⟨b, o, none⟩) (m := l.length) (c2 := cap) (news := l.map intv) h0 (by simp) (fun j u hj => by
        rw [addr_add]
        rw [List.getElem?_map] at hj
        obtain ⟨y, hy, rfl⟩ := Option.map_eq_some_iff.1 hj
        obtain ⟨hjl, rfl⟩ := List.getElem?_eq_some_iff.1 hy
        exact src.rd hp c'.drop1 j hjl) (fun u hu => by obtain ⟨y, _, rfl⟩ := List.mem_map.1 hu; rfl) (by rw [e6, List.length_nil]; omega) (by rw [List.length_nil]; omega)
      rw [← hp] at hrun
      have hz : ([] : List Int).length + l.length = l.length := Nat.zero_add _
      rw [hz] at hrun cx
      exact ⟨_, _, _, w', run_app hrun, bufZ p' cap' l :: S, Φ, inferInstance, cx, fun w G c => ⟨p', cap', rfl, c.left⟩⟩
theorem CloneL_sl [Stable Φ] {l : List LineD} [hΦ : Has Φ (fun M w => Sl M w p l)] (hlen : l.length ≤ 1000000) : GivesSl Φ Tryz.prog F.slices_Clone_api_Line_api_Line #[.slice p l.length cap] l id :=
  .there (fun M w h => (hΦ.go M w h).there) fun hth => ⟨fun W w S c => by
    obtain ⟨cs, c1⟩ := srcOf c (hΦ.go _ _ c.phi)
    refine (CloneL_new (S := S) (Φ := fun M w => Φ M w ∧ SrcF p l cs M w) (src_fact (Φ := fun M w => Φ M w ∧ SrcF p l cs M w) hth (fun M w h => h.2)).app hlen c1).mono fun e w' ⟨p', c', cs', he, cx⟩ => ?_
    obtain ⟨c2, hs, _, h2, h3⟩ := Ctx.freeze (α := LineD) cx cx.phi.2
    exact ⟨p', c', he, h2, h3, (c2.add hs).weak fun M w h => ⟨h.1.1.1, h.2⟩⟩⟩

set_option maxHeartbeats 2000000 in
theorem Copy_to [Stable Φ] [hF : Has Φ (SkF q st)] (hq : SkQ q st) {n : Nat} (hs : SkS st n) (hn : n ≤ 400000) (c : Ctx W w ((SkO q st ++ R) ++ G) Φ) {K : Option Addr → List Own → PW → Prop}
    (hk : ∀ q' : KP, SkQ q' st → Stable (fun M w => Φ M w ∧ SkF q' st M w) → K (some ⟨q'.sb, 0, none⟩) (SkO q' st ++ (SkO q st ++ R)) (fun M w => Φ M w ∧ SkF q' st M w)) :
    Calls Tryz.prog F.sink_Sink_Copy #[snk q] w fun e w' => ∃ p, e = .returned (.pointer p) ∧ ∃ R' Φ', Stable Φ' ∧ Ctx W w' (R' ++ G) Φ' ∧ K p R' Φ' := by
  have h1 := hs.lines
  have h2 := hs.aside
  have h3 := hs.bats
  have h4 := hs.key
  have hK : Has Φ (fun M w => Sl M w q.kp st.key) := ⟨fun M w h => (hF.go M w h).2.1⟩
  refine (Bsink_Sink_Copy_run q.sb 0 (R := (SkO q st ++ R) ++ G) (J := fun v w' => ∃ p, v = .pointer p ∧ ∃ R' Φ', Stable Φ' ∧ Ctx W w' (R' ++ G) Φ' ∧ K p R' Φ') c ?_).mono fun e w' ⟨v, he, p, hv, rest⟩ => ⟨p, by rw [he, hv], rest⟩
  clear c
  refine fun w G2 cx => ⟨st.kind, q.kp, st.key.length, q.kc, q.bp, st.bats.length, q.bc, q.lp, st.lines.length, q.lc, st.prep, q.ap, st.aside.length, q.ac, cx.row0 0 rfl, fun k w G2 cx => ⟨cx.can 0 rfl (by show 0 + 6 ≤ 6; decide), fun w2 hw2 => ?_⟩⟩
  have c2 : Ctx W w2 (.blk k (SkB q st) 69 :: (SkO q st ++ (R ++ G)) ++ G2) Φ := Ctx.re (cx.puts 0 hw2 rfl) (by show Own.blk k (SkB q st) 69 :: (((SkO q st ++ R) ++ G) ++ G2) = _; simp)
  refine ⟨.blk k (SkB q st) 69 :: (SkO q st ++ (R ++ G)), Φ, inferInstance, c2, .blk k (SkB q st) 69 :: (SkO q st ++ (R ++ G)), Φ, inferInstance, fun w G cx => cx, q.kp, st.key.length, q.kc, fun w G cx => ⟨_, _, _, cx.get 1 rfl rfl, rfl⟩, q.bp, st.bats.length, q.bc, fun w G cx => ⟨_, _, _, cx.get 1 rfl rfl, rfl⟩, q.lp, st.lines.length, q.lc, fun w G cx => ⟨_, _, _, cx.get 1 rfl rfl, rfl⟩, q.ap, st.aside.length, q.ac, fun w G cx => ⟨_, _, _, cx.get 1 rfl rfl, rfl⟩, ?_⟩
  clear c2 cx
  refine fun w G2 cx => (CloneZ_sl (l := st.key) (by omega)).to cx fun p1 c1 f1 f2 st1 => ⟨fun w G cx => cx.fst, ?_⟩
  clear cx
  refine fun w G2 cx => (CloneZ_new (S := (SkO q st ++ (.blk k (SkB q st) 69 :: (R ++ G))) ++ G2) (srcz_bats hq).app.app (by omega) (Ctx.mid cx)).mono fun e w' ⟨p2, c2, he, cx⟩ => ⟨p2, _, c2, he, bufZ p2 c2 st.bats :: (SkO q st ++ (.blk k (SkB q st) 69 :: (R ++ G))), _, st1, cx, fun w G cx => (Ctx.front cx.drop1).fst, ?_⟩
  clear cx
  refine fun w G2 cx => (CloneL_new (S := (SkO q st ++ (bufZ p2 c2 st.bats :: .blk k (SkB q st) 69 :: (R ++ G))) ++ G2) (src_sk hq fun M w h => (hF.go M w h.1).1).app.app (by omega) (Ctx.mid cx)).mono fun e w' ⟨p3, c3, cs3, he, cx⟩ => ⟨p3, _, c3, he, bufL p3 st.lines.length c3 cs3 :: (SkO q st ++ (bufZ p2 c2 st.bats :: .blk k (SkB q st) 69 :: (R ++ G))), (fun M w => (Φ M w ∧ Sl M w p1 st.key) ∧ Elems M w cs3 st.lines), instStableAnd (fun M w => Φ M w ∧ Sl M w p1 st.key) (fun M w => Elems M w cs3 st.lines), cx, fun w G cx => ?_, ?_⟩
  · exact (Ctx.front (Ctx.drop1 (Ctx.front cx.drop1))).weak fun M w h => h.1.1
  clear cx
  have st3 : Stable (fun M w => (Φ M w ∧ Sl M w p1 st.key) ∧ Elems M w cs3 st.lines) := instStableAnd (fun M w => Φ M w ∧ Sl M w p1 st.key) (fun M w => Elems M w cs3 st.lines)
  have hA : Has (fun M w => (Φ M w ∧ Sl M w p1 st.key) ∧ Elems M w cs3 st.lines) (fun M w => Sl M w q.ap st.aside) := ⟨fun M w h => (hF.go M w h.1.1).2.2⟩
  refine fun w G2 cx => (CloneL_sl (l := st.aside) (by omega)).to cx fun p4 c4 e1 e2 st4 => ?_
  clear cx
  intro w G2 cx
  have c5 : Ctx W w (.blk k (SkB q st) 69 :: bufZ p2 c2 st.bats :: bufL p3 st.lines.length c3 cs3 :: (SkO q st ++ (R ++ G)) ++ G2) (fun M w => ((Φ M w ∧ Sl M w p1 st.key) ∧ Elems M w cs3 st.lines) ∧ Sl M w p4 st.aside) := (Ctx.mid cx).perm (List.Perm.append_right G2 perm_rev3)
  clear cx
  refine ⟨c5.can 0 rfl (by show 1 + 1 ≤ 6; decide), fun w2 hw2 => ?_⟩
  have c6 := c5.put 0 hw2 rfl
  refine ⟨.blk k [.int .i64 st.kind, .slice p1 st.key.length c1, .slice q.bp st.bats.length q.bc, .slice q.lp st.lines.length q.lc, .int .i64 st.prep, .slice q.ap st.aside.length q.ac] 69 :: bufZ p2 c2 st.bats :: bufL p3 st.lines.length c3 cs3 :: (SkO q st ++ (R ++ G)), _, st4, c6, fun w G2 cx => ⟨cx.can 0 rfl (by show 2 + 1 ≤ 6; decide), fun w2 hw2 => ?_⟩⟩
  have c7 := cx.put 0 hw2 rfl
  refine ⟨.blk k [.int .i64 st.kind, .slice p1 st.key.length c1, .slice p2 st.bats.length c2, .slice q.lp st.lines.length q.lc, .int .i64 st.prep, .slice q.ap st.aside.length q.ac] 69 :: bufZ p2 c2 st.bats :: bufL p3 st.lines.length c3 cs3 :: (SkO q st ++ (R ++ G)), _, st4, c7, fun w G2 cx => ⟨cx.can 0 rfl (by show 3 + 1 ≤ 6; decide), fun w2 hw2 => ?_⟩⟩
  have c8 := cx.put 0 hw2 rfl
  refine ⟨.blk k [.int .i64 st.kind, .slice p1 st.key.length c1, .slice p2 st.bats.length c2, .slice p3 st.lines.length c3, .int .i64 st.prep, .slice q.ap st.aside.length q.ac] 69 :: bufZ p2 c2 st.bats :: bufL p3 st.lines.length c3 cs3 :: (SkO q st ++ (R ++ G)), _, st4, c8, fun w G2 cx => ⟨cx.can 0 rfl (by show 5 + 1 ≤ 6; decide), fun w2 hw2 => ?_⟩⟩
  have c9 := cx.put 0 hw2 rfl
  obtain ⟨q', hqe⟩ : ∃ q' : KP, q' = ⟨k, p1, c1, p2, c2, p3, c3, cs3, p4, c4⟩ := ⟨_, rfl⟩
  have c10 : Ctx W w2 ((SkO q' st ++ (SkO q st ++ R)) ++ (G ++ G2)) (fun M w => Φ M w ∧ SkF q' st M w) := by
    rw [hqe]
    have c11 := c9.weak (Ψ := fun M w => Φ M w ∧ SkF ⟨k, p1, c1, p2, c2, p3, c3, cs3, p4, c4⟩ st M w) fun M w h => ⟨h.1.1.1, h.1.2, h.1.1.2, h.2⟩
    exact c11.re (by simp)
  have hq' : SkQ q' st := skq_of (S := (SkO q st ++ R) ++ (G ++ G2)) (c10.re (by simp)) (by rw [hqe]; exact ⟨f1, f2⟩) (by rw [hqe]; exact ⟨e1, e2⟩)
  have hkk := hk q' hq' inferInstance
  rw [show q'.sb = k by rw [hqe]] at hkk
  exact ⟨SkO q' st ++ (SkO q st ++ (R ++ G)), _, inferInstance, c10.re (by simp), fun w G3 cx => ⟨_, rfl, SkO q' st ++ (SkO q st ++ R), _, inferInstance, cx.left.re (by simp), hkk⟩⟩

theorem sk_cellI [Stable Φ] {w' : World} {g n : Nat} {l : List LineD} (cx : Ctx W w (bufL (some ⟨g, 0, none⟩) n cap cs :: S) (fun M w => Φ M w ∧ Elems M w cs l)) {i : Nat} (x : LineD) {y : LineD} (hy : l[i]? = some y) {k : Nat} {v : Value}
    (hk : k < 7) (hr : x.row = y.row) (hx : ∀ p c, (y.cells p c).set k v = x.cells p c) (hin : y.In → x.In) (e : w' = w.setCell ⟨g, i * 7 + k, none⟩ v) :
    ∃ cs', Ctx W w' (bufL (some ⟨g, 0, none⟩) n cap cs' :: S) (fun M w => Φ M w ∧ Elems M w cs' (l.set i x)) := by
  obtain ⟨hi, rfl⟩ := List.getElem?_eq_some_iff.1 hy
  obtain ⟨cs', _, h⟩ := l_cell cx hi x hk hr hx hin e
  exact ⟨cs', h⟩

/-- what is known of a sink while it is read -/
structure RdK (kind : Int) (key : List Int) (i n m : Nat) (st : SkD) : Prop where
  kind : st.kind = kind
  key : st.key = key
  prep : st.prep = 0
  aside : st.aside = []
  bats : st.bats.length = i
  lines : st.lines.length + n = m

set_option maxHeartbeats 8000000 in
theorem Read_to [Stable Φ] (hΦ : ∀ M w, Φ M w → NumI M w) (l : List UInt8) (hl : l.length ≤ 2500000) (c : Ctx W w (R ++ G) Φ) {K : Option Addr → Bool → List Own → PW → Prop}
    (h0 : readSk l = none → K none false R Φ)
    (h1 : ∀ q st, readSk l = some st → SkQ q st → SkI st → SkS st 400000 → Stable (fun M w => Φ M w ∧ SkF q st M w) → K (some ⟨q.sb, 0, none⟩) true (SkO q st ++ R) (fun M w => Φ M w ∧ SkF q st M w)) :
    Calls Tryz.prog F.sink_Read #[.string (bs l)] w fun e w' => ∃ p ok, e = .returned (.tuple #[.pointer p, .bool ok]) ∧ ∃ R' Φ', Stable Φ' ∧ Ctx W w' (R' ++ G) Φ' ∧ K p ok R' Φ' := by
  refine (Bsink_Read_run (bs l) (R := R ++ G) (J := fun v w' => ∃ p ok, v = .tuple #[.pointer p, .bool ok] ∧ ∃ R' Φ', Stable Φ' ∧ Ctx W w' (R' ++ G) Φ' ∧ K p ok R' Φ') c ?_).mono fun e w' ⟨v, he, p, ok, hv, rest⟩ => ⟨p, ok, by rw [he, hv], rest⟩
  clear c
  have bad : readSk l = none → ∀ {w : World} {G2 : List Own}, Ctx W w ((R ++ G) ++ G2) Φ → ∃ p ok, Value.tuple #[.pointer none, .bool false] = .tuple #[.pointer p, .bool ok] ∧ ∃ R' Φ', Stable Φ' ∧ Ctx W w (R' ++ G) Φ' ∧ K p ok R' Φ' := fun h {w G2} cx => ⟨none, false, rfl, R, Φ, inferInstance, cx.left, h0 h⟩
  obtain ⟨T, hT⟩ : ∃ T, T = R ++ G := ⟨_, rfl⟩
  rw [← hT] at bad ⊢
  have hall : readSk l = if newOk (rdInt (l, false)).1 (numsK (rdInt (l, false)).2).1 = false then none else
    (readLinesK (numsK (numsK (rdInt (l, false)).2).2).2).bind fun d => (readLinesK (rdInt d.2).2).bind fun f => if rdDone f.2 = false then none else
      (batsK (numsK (numsK (rdInt (l, false)).2).2).1 d.1 (newK (rdInt (l, false)).1 (numsK (rdInt (l, false)).2).1)).bind fun g => finK l g.1 (rdInt d.2).1 (shiftL (g.1.lines.length : Int) f.1) := rfl
  obtain ⟨⟨kind, s1⟩, e1⟩ : ∃ x, rdInt (l, false) = x := ⟨_, rfl⟩
  have b1 : s1.1.length ≤ l.length := by have := rdInt_len (l, false); rw [e1] at this; exact this
  have hkind : I64 kind := by have := rdInt_i64 (l, false); rw [e1] at this; exact this
  rw [e1] at hall
  simp only at hall
  obtain ⟨⟨key, s2⟩, e2⟩ : ∃ x, numsK s1 = x := ⟨_, rfl⟩
  obtain ⟨b2, b2k⟩ := numsK_len e2
  rw [e2] at hall
  simp only at hall
  obtain ⟨⟨bats, s3⟩, e3⟩ : ∃ x, numsK s2 = x := ⟨_, rfl⟩
  obtain ⟨b3, b3k⟩ := numsK_len e3
  rw [e3] at hall
  simp only at hall
  refine fun w G2 cx => Open_use l cx fun b w cx => ⟨_, rfl, rd b (l, false) :: T, Φ, inferInstance, cx, ?_⟩
  clear cx
  refine fun w G2 cx => RInt_toE (S := T) hΦ (by show l.length ≤ _; omega) e1 cx ?_
  clear cx
  refine fun w G2 cx => Nums_to (S := T) hΦ (by omega) e2 cx fun kp kc g1 g2 st1 => ?_
  clear cx
  refine fun w G2 cx => New_to (R := rd b s2 :: T) (Φ := fun M w => Φ M w ∧ Sl M w kp key) (hΦ := ⟨fun M w h => h.2⟩) (kind := kind) (key := key) (by omega) cx (fun hno => ?_) (fun q0 hok hq0 st2 => ?_)
  · clear cx
    refine Br.intro (fun _ => fun w G2 cx => bad (by rw [hall, if_pos hno]) (G2 := G2) cx.drop1.fst) (fun h => by cases h)
  clear cx
  rw [if_neg (by rw [hok]; simp)] at hall
  obtain ⟨sb0, hsb0⟩ : ∃ x, q0.sb = x := ⟨_, rfl⟩
  rw [hsb0]
  refine Br.intro (fun h => by cases h) (fun _ => ?_)
  have hΦ2 : ∀ M w, ((Φ M w ∧ Sl M w kp key) ∧ SkF q0 (newK kind key) M w) → NumI M w := fun M w h => hΦ M w h.1.1
  refine fun w G2 cx => Nums_to (S := SkO q0 (newK kind key) ++ T) hΦ2 (by omega) e3 (Ctx.front cx) fun bp bc g3 g4 st3 => ?_
  clear cx
  obtain ⟨Φ3, hΦ3e⟩ : ∃ Ψ : PW, Ψ = fun M w => ((Φ M w ∧ Sl M w kp key) ∧ SkF q0 (newK kind key) M w) ∧ Sl M w bp bats := ⟨_, rfl⟩
  rw [← hΦ3e] at st3 ⊢
  have un3 : ∀ M w, Φ3 M w → (Φ M w ∧ SkF q0 (newK kind key) M w) ∧ Sl M w bp bats := fun M w h => by rw [hΦ3e] at h; exact ⟨⟨h.1.1.1, h.1.2⟩, h.2⟩
  have hΦ3 : ∀ M w, Φ3 M w → NumI M w := fun M w h => hΦ M w (un3 M w h).1.1
  intro w G2 cx
  have hthb : There bp bats.length := (un3 _ _ cx.phi).2.there
  refine readLines_to (S := SkO q0 (newK kind key) ++ T) hΦ3 (by omega) cx (fun hno s4 b4 => ?_) (fun l1 s4 lp lc lcs hl1 b4 hr1 hpt1 st4 => ?_)
  · clear cx
    obtain ⟨⟨pr, s5⟩, e5⟩ : ∃ x, rdInt s4 = x := ⟨_, rfl⟩
    have b5 : s5.1.length ≤ s4.1.length := by have := rdInt_len s4; rw [e5] at this; exact this
    have hnone : readSk l = none := by rw [hall, hno]; rfl
    refine fun w G2 cx => RInt_toE (S := SkO q0 (newK kind key) ++ T) hΦ3 (by omega) e5 cx ?_
    clear cx
    refine fun w G2 cx => readLines_to (S := SkO q0 (newK kind key) ++ T) hΦ3 (by omega) cx (fun _ s6 _ => ?_) (fun _ s6 _ _ _ _ _ _ _ st5 => ?_)
    · refine Br.intro (fun _ => fun w G2 cx => bad hnone (G2 := G2) ?_) (fun h => by cases h)
      exact (Ctx.dropF (Q := SkO q0 (newK kind key)) (T := T) cx.drop1).weak fun M w h => (un3 M w h).1.1
    · refine Br.intro (fun _ => fun w G2 cx => bad hnone (G2 := G2) ?_) (fun h => by cases h)
      exact (Ctx.dropF (Q := SkO q0 (newK kind key)) (T := T) cx.drop1.drop1).weak fun M w h => (un3 M w h.1).1.1
  clear cx
  rw [hl1] at hall
  simp only [Option.bind_some] at hall
  obtain ⟨⟨prep, s5⟩, e5⟩ : ∃ x, rdInt s4 = x := ⟨_, rfl⟩
  have b5 : s5.1.length ≤ s4.1.length := by have := rdInt_len s4; rw [e5] at this; exact this
  have hprep : I64 prep := by have := rdInt_i64 s4; rw [e5] at this; exact this
  rw [e5] at hall
  simp only at hall
  intro w G2 cx
  obtain ⟨cx1, hsl1, _, gl1, gl2⟩ := Ctx.freeze (α := LineD) cx cx.phi.2
  have hthl : There lp l1.length := hsl1.there
  have cx2 : Ctx W w ((rd b s4 :: (SkO q0 (newK kind key) ++ T)) ++ G2) (fun M w => Φ3 M w ∧ Sl M w lp l1) := (cx1.add hsl1).weak fun M w h => ⟨h.1.1, h.2⟩
  have hΦ4 : ∀ M w, (Φ3 M w ∧ Sl M w lp l1) → NumI M w := fun M w h => hΦ3 M w h.1
  refine RInt_toE (S := SkO q0 (newK kind key) ++ T) hΦ4 (by omega) e5 cx2 ?_
  clear cx2 cx1 hsl1 cx
  refine fun w G2 cx => readLines_to (S := SkO q0 (newK kind key) ++ T) hΦ4 (by omega) cx (fun hno s6 _ => ?_) (fun l2 s6 ap ac acs hl2 b6 hr2 hpt2 st6 => ?_)
  · clear cx
    refine Br.intro (fun h => by cases h) (fun _ => Br.intro (fun _ => fun w G2 cx => bad (by rw [hall, hno]; rfl) (G2 := G2) ?_) (fun h => by cases h))
    exact (Ctx.dropF (Q := SkO q0 (newK kind key)) (T := T) cx.drop1).weak fun M w h => (un3 M w h.1).1.1
  clear cx
  rw [hl2] at hall
  simp only [Option.bind_some] at hall
  have hnum2 : numK 1 l2 = true := num_from _ _ _ _ _ hl2 rfl
  refine Br.intro (fun h => by cases h) (fun _ => Br.intro (fun h => by cases h) (fun _ => fun w G2 cx => Done_to (S := bufL ap l2.length ac acs :: (SkO q0 (newK kind key) ++ T)) cx.swap ?_))
  clear cx
  refine Br.intro (fun hd => fun w G2 cx => bad (by rw [hall, if_pos (by simpa using hd)]) (G2 := G2) ?_) (fun hd => ?_)
  · exact (Ctx.dropF (Q := SkO q0 (newK kind key)) (T := T) cx.drop1.drop1).weak fun M w h => (un3 M w h.1.1).1.1
  rw [if_neg (by simpa using hd)] at hall
  -- the batches
  obtain ⟨T2, hT2⟩ : ∃ T2, T2 = rd b s6 :: bufL ap l2.length ac acs :: T := ⟨_, rfl⟩
  obtain ⟨Φc, hΦc⟩ : ∃ Ψ : PW, Ψ = fun M w => (Φ M w ∧ Sl M w bp bats) ∧ Elems M w acs l2 := ⟨_, rfl⟩
  have stc : Stable Φc := by rw [hΦc]; exact instStableAnd (fun M w => Φ M w ∧ Sl M w bp bats) (fun M w => Elems M w acs l2)
  have unc : ∀ M w, Φc M w → (Φ M w ∧ Sl M w bp bats) ∧ Elems M w acs l2 := fun M w h => by rw [hΦc] at h; exact h
  have badT : readSk l = none → ∀ {w : World} {G2 : List Own} {q : KP} {st : SkD} {Ψ : PW} [Stable Ψ], (∀ M w, Ψ M w → Φc M w) → Ctx W w ((SkO q st ++ T2) ++ G2) Ψ → _ := fun h {w G2 q st Ψ} _ hw cx => bad h (w := w) (G2 := G2) (by
    have c2 := Ctx.dropF (Q := SkO q st) (T := T2) cx
    rw [hT2] at c2
    exact (Ctx.drop1 (Ctx.drop1 c2)).weak fun M w h => (unc M w (hw M w h)).1.1)
  obtain ⟨INV, hI⟩ : ∃ INV : Option Addr → Nat → Nat → Int → List Own → PW → Nat → Prop, ∀ p n c kI R' Φ' m, INV p n c kI R' Φ' m ↔ ∃ (i : Nat) (rem : List LineD) (q : KP) (st : SkD), kI = i ∧ i ≤ bats.length ∧ n = rem.length ∧ n ≤ c ∧ There p rem.length ∧ R' = SkO q st ++ T2 ∧ Φ' = (fun M w => (Φc M w ∧ SkF q st M w) ∧ Sl M w p rem) ∧ m = bats.length - i ∧ q.sb = sb0 ∧ SkQ q st ∧ SkI st ∧ RdK kind key i rem.length l1.length st ∧ batsK bats l1 (newK kind key) = batsK (bats.drop i) rem st := ⟨_, fun _ _ _ _ _ _ _ => Iff.rfl⟩
  refine ⟨INV, ⟨SkO q0 (newK kind key) ++ T2, fun M w => (Φc M w ∧ SkF q0 (newK kind key) M w) ∧ Sl M w lp l1, _, inferInstance, fun w G2 cx => ?_, (hI _ _ _ _ _ _ _).2 ⟨0, l1, q0, newK kind key, rfl, Nat.zero_le _, rfl, gl1, hthl, rfl, rfl, rfl, hsb0, hq0, new_i kind key, ⟨rfl, rfl, rfl, rfl, rfl, Nat.zero_add _⟩, rfl⟩⟩, ?_⟩
  · have c2 : Ctx W w (([rd b s6, bufL ap l2.length ac acs] ++ (SkO q0 (newK kind key) ++ T)) ++ G2) _ := cx
    have c3 := Ctx.swapU c2
    rw [hT2]
    exact c3.weak fun M w h => by
      have h3 := un3 M w h.1.1
      rw [hΦc]
      exact ⟨⟨⟨⟨h3.1.1, h3.2⟩, h.2⟩, h3.1.2⟩, h.1.2⟩
  intro p n c kI R1 Φ1 m _ hinv
  obtain ⟨i, rem, q, st, rfl, hi, rfl, hnc, hthr, rfl, rfl, rfl, hsb, hq, hI1, hk1, hbk⟩ := (hI _ _ _ _ _ _ _).1 hinv
  clear hinv
  have hkl := hk1.lines
  have hkb := hk1.bats
  have hs : SkS st 400000 := ⟨by omega, by omega, by rw [hk1.aside]; exact Nat.zero_le _, by rw [hk1.key]; omega⟩
  have stF : Stable (fun M w => Φc M w ∧ SkF q st M w) := inferInstance
  have st8 : Stable (fun M w => (Φc M w ∧ SkF q st M w) ∧ Sl M w p rem) := inferInstance
  have hF : Has (fun M w => (Φc M w ∧ SkF q st M w) ∧ Sl M w p rem) (SkF q st) := ⟨fun M w h => h.1.2⟩
  refine Br.intro (fun hlt => ?_) (fun hge => ?_)
  · have hlt : i < bats.length := by have := of_decide_eq_true hlt; omega
    obtain ⟨bb, bo, hbp⟩ := hthb (by omega)
    rw [List.drop_eq_getElem_cons hlt] at hbk
    obtain ⟨bt, hbt⟩ : ∃ x, bats[i] = x := ⟨_, rfl⟩
    rw [hbt] at hbk
    refine ⟨by omega, ptrK_intro bb bo hbp fun w G2 cx => ⟨bt, ?_, ?_⟩⟩
    · have := (unc _ _ cx.phi.1.1).1.2
      rw [hbp] at this
      have h2 := sl_int this hlt
      rw [hbt] at h2
      exact h2
    have hbi : I64 bt := by
      rw [← hbt]
      exact slz_i64 (unc _ _ cx.phi.1.1).1.2 _ (List.getElem_mem hlt)
    clear cx
    refine exI_mk (fun nI R' Φ' k => ∃ j : Nat, nI = j ∧ j ≤ rem.length ∧ (∀ x ∈ rem.take j, x.batch = bt) ∧ R' = SkO q st ++ T2 ∧ Φ' = (fun M w => (Φc M w ∧ SkF q st M w) ∧ Sl M w p rem) ∧ k = rem.length - j) ⟨⟨_, _, _, st8, fun w G cx => cx, 0, rfl, Nat.zero_le _, by simp, rfl, rfl, rfl⟩, ?_⟩
    rintro nI R2 Φ2 k2 _ ⟨j, rfl, hj, hjb, rfl, rfl, rfl⟩
    refine fun w G2 cx => ⟨fun h => by have := of_decide_eq_true h; omega, ptrK_of (fun h => hthr (by have := of_decide_eq_true h; omega)) fun b2 o2 hb2 => ⟨(rem[j]?.map LineD.batch).getD 0, fun h => ?_, ?_⟩⟩
    · have hjl : j < rem.length := by have := of_decide_eq_true h; omega
      have h2 := cx.phi.2
      rw [hb2 h] at h2
      have h3 := sl_batch h2 hjl
      rw [List.getElem?_eq_getElem hjl, Int.toNat_natCast]
      exact h3
    clear cx hb2
    refine Br.intro (fun hin => ⟨by unfold I64; omega, _, _, rem.length - (j + 1), st8, fun w G cx => cx, ⟨j + 1, rfl, ?_, ?_, rfl, rfl, rfl⟩, ?_⟩) (fun hout => ?_)
    · rw [Bool.and_eq_true] at hin
      have := of_decide_eq_true hin.1; omega
    · rw [Bool.and_eq_true] at hin
      have hjl : j < rem.length := by have := of_decide_eq_true hin.1; omega
      have h2 := of_decide_eq_true hin.2
      rw [List.getElem?_eq_getElem hjl] at h2
      intro x hx
      rw [List.take_succ_eq_append_getElem hjl] at hx
      rcases List.mem_append.1 hx with hx | hx
      · exact hjb x hx
      · rw [List.mem_singleton.1 hx]; exact h2
    · rw [Bool.and_eq_true] at hin
      have := of_decide_eq_true hin.1; omega
    have hne : ∀ h : j < rem.length, rem[j].batch ≠ bt := fun h e => by
      rcases Bool.and_eq_false_iff.1 hout with h2 | h2
      · have := of_decide_eq_false h2; omega
      · have h2 := of_decide_eq_false h2
        rw [List.getElem?_eq_getElem h] at h2
        exact h2 e
    obtain ⟨hh1, hh2⟩ := head_take hj hjb hne
    have hbs : batsK (bt :: bats.drop (i + 1)) rem st = if lookK st bt (headK bt rem) = 0 then batsK (bats.drop (i + 1)) (restK bt rem) (takeK st bt (headK bt rem)) else none := rfl
    rw [hh1, hh2] at hbs
    rw [hbs] at hbk
    have hjt : j = (rem.take j).length := by rw [List.length_take]; omega
    have hjn : ((j : Int)).toNat = (rem.take j).length := by rw [Int.toNat_natCast]; exact hjt
    have hL : Has (fun M w => (Φc M w ∧ SkF q st M w) ∧ Sl M w p rem) (fun M w => Sl M w (subPtr p 7 0 c) (rem.take j)) := ⟨fun M w h => by rw [subPtr_z]; exact sl_take h.2 j⟩
    refine ⟨by omega, fun w G2 cx => ?_⟩
    rw [hjn, ← hsb]
    refine (Look_to hq hs (by omega) (by rw [← hjt]; omega)).toI (R := T2) cx ?_
    clear cx
    refine Br.intro (fun hz => fun w G2 cx => badT (by rw [hall, hbk, if_neg (of_decide_eq_true hz)]; rfl) (fun M w h => h.1.1) cx) (fun hz => ?_)
    have hz := Decidable.not_not.1 (of_decide_eq_false hz)
    rw [if_pos hz] at hbk
    obtain ⟨gz1, gz2, gz3, _⟩ := look_ok (by rw [hz]; simp)
    refine ⟨by omega, fun w G2 cx => take_use (R := T2) (b := bt) (L := rem.take j) hq hs (by omega) (by rw [← hjt]; omega) cx fun q' hsb' hq' st9 => ?_⟩
    clear cx
    have hdl : (rem.drop j).length = rem.length - j := List.length_drop
    rw [← hjt]
    refine ⟨by omega, by unfold I64; omega, SkO q' (takeK st bt (rem.take j)) ++ T2, (fun M w => (Φc M w ∧ SkF q' (takeK st bt (rem.take j)) M w) ∧ Sl M w (subPtr p 7 j c) (rem.drop j)), _, inferInstance, fun w G2 cx => cx.weak fun M w h => ⟨⟨h.1.1.1, h.2⟩, addr_sub h.1.2 j hnc⟩, (hI _ _ _ _ _ _ _).2 ⟨i + 1, rem.drop j, q', takeK st bt (rem.take j), by omega, hlt, hdl.symm, by omega, there_sub hthr, rfl, rfl, rfl, by rw [hsb', hsb], hq', take_i hI1 gz2 gz1 hbi (fun x hx => (bad_right (gz3 x hx)).2.2.1), ⟨hk1.kind, hk1.key, hk1.prep, hk1.aside, ?_, ?_⟩, hbk⟩, by omega⟩
    · show (st.bats ++ [bt]).length = _
      rw [List.length_append, List.length_singleton]; omega
    · show (st.lines ++ rem.take j).length + _ = _
      rw [List.length_append, ← hjt, hdl]; omega
  · have hge : i = bats.length := by have := of_decide_eq_false hge; omega
    rw [hge, List.drop_length] at hbk
    have hbk : batsK bats l1 (newK kind key) = some (st, rem) := hbk
    rw [hbk] at hall
    simp only [Option.bind_some] at hall
    obtain ⟨A, hA⟩ : ∃ A, shiftL (st.lines.length : Int) l2 = A := ⟨_, rfl⟩
    have hAl : A.length = l2.length := by rw [← hA, shift_len]
    have stP : Stable (fun M w => Φ M w ∧ SkF q st M w) := inferInstance
    -- the numbers of the lines aside
    refine exI_mk (fun nI R' Φ' k => ∃ (x : Nat) (cs : List Value), nI = x ∧ x ≤ l2.length ∧ R' = bufL ap l2.length ac cs :: (SkO q st ++ (rd b s6 :: T)) ∧ Φ' = (fun M w => (Φ M w ∧ SkF q st M w) ∧ Elems M w cs (shiftL (st.lines.length : Int) (l2.take x) ++ l2.drop x)) ∧ k = l2.length - x) ⟨⟨bufL ap l2.length ac acs :: (SkO q st ++ (rd b s6 :: T)), fun M w => (Φ M w ∧ SkF q st M w) ∧ Elems M w acs l2, _, instStableAnd (fun M w => Φ M w ∧ SkF q st M w) (fun M w => Elems M w acs l2), fun w G2 cx => ?_, 0, acs, rfl, Nat.zero_le _, rfl, rfl, rfl⟩, ?_⟩
    · rw [hT2] at cx
      have c2 : Ctx W w (((SkO q st ++ [rd b s6]) ++ (bufL ap l2.length ac acs :: T)) ++ G2) _ := cx.re (by simp)
      have c3 := Ctx.front c2
      have c4 : Ctx W w ((bufL ap l2.length ac acs :: (SkO q st ++ (rd b s6 :: T))) ++ G2) _ := c3.re (by simp)
      exact c4.weak fun M w h => ⟨⟨(unc M w h.1.1).1.1, h.1.2⟩, (unc M w h.1.1).2⟩
    rintro nI R2 Φ2 k2 _ ⟨x, acs2, rfl, hx, rfl, rfl, rfl⟩
    have st10 : Stable (fun M w => (Φ M w ∧ SkF q st M w) ∧ Elems M w acs2 (shiftL (st.lines.length : Int) (l2.take x) ++ l2.drop x)) := instStableAnd (fun M w => Φ M w ∧ SkF q st M w) (fun M w => Elems M w acs2 (shiftL (st.lines.length : Int) (l2.take x) ++ l2.drop x))
    refine Br.intro (fun hlt => ?_) (fun hge2 => ?_)
    · have hlt : x < l2.length := by have := of_decide_eq_true hlt; omega
      obtain ⟨g, hg⟩ := hpt2 (by omega)
      have hy := shift_at (m := (st.lines.length : Int)) hlt
      have hno := num_at hlt hnum2
      have hl2 : (shiftL (st.lines.length : Int) (l2.take x) ++ l2.drop x).length = l2.length := by rw [List.length_append, shift_len, List.length_take, List.length_drop]; omega
      have hyl : x < (shiftL (st.lines.length : Int) (l2.take x) ++ l2.drop x).length := by omega
      have hye : (shiftL (st.lines.length : Int) (l2.take x) ++ l2.drop x)[x] = l2[x] := Option.some.inj (by rw [← List.getElem?_eq_getElem hyl]; exact hy)
      rw [← hsb]
      refine ⟨by omega, ptrK_intro g 0 hg (ptrK_intro q.sb 0 rfl fun w G2 cx => ⟨l2[x].no, ?_, fun w G2 cx => ⟨_, _, _, cx.get 1 rfl rfl, by rw [hno]; unfold I64; omega, by omega, ptrK_intro g 0 hg fun w G2 cx => ⟨?_, fun w2 hw2 => ?_⟩⟩⟩)⟩
      · obtain ⟨rp, rc, he, _⟩ := lrow cx.phi.2 hyl
        rw [hye] at he
        rw [hg] at cx
        have := l_at (S := (SkO q st ++ (rd b s6 :: T)) ++ G2) cx he 0 (by show 0 < 7; decide)
        rw [show 0 + (x : Int).toNat * 7 = x * 7 + 0 by omega]
        exact this
      · have hcl := elems_len7 cx.phi.2
        rw [hg] at cx
        exact l_can (S := (SkO q st ++ (rd b s6 :: T)) ++ G2) cx (by omega)
      · rw [hg] at cx
        obtain ⟨cs3, cx3⟩ := sk_cellI (S := (SkO q st ++ (rd b s6 :: T)) ++ G2) (Φ := fun M w => Φ M w ∧ SkF q st M w) (k := 0) (w' := w2) (v := .int .i64 (l2[x].no + st.lines.length)) cx { l2[x] with no := l2[x].no + st.lines.length } hy (by decide) rfl (fun p c => rfl) (fun h => ⟨by show I64 (l2[x].no + (st.lines.length : Int)); rw [hno]; unfold I64; omega, h.batch, h.time, h.n, h.cause, h.why⟩) (by rw [hw2]; congr 2; omega)
        rw [shift_step hlt, ← hg] at cx3
        exact ⟨bufL ap l2.length ac cs3 :: (SkO q st ++ (rd b s6 :: T)), _, instStableAnd (fun M w => Φ M w ∧ SkF q st M w) (fun M w => Elems M w cs3 (shiftL (st.lines.length : Int) (l2.take (x + 1)) ++ l2.drop (x + 1))), cx3, by unfold I64; omega, _, _, l2.length - (x + 1), instStableAnd (fun M w => Φ M w ∧ SkF q st M w) (fun M w => Elems M w cs3 (shiftL (st.lines.length : Int) (l2.take (x + 1)) ++ l2.drop (x + 1))), fun w G cx => cx, ⟨x + 1, cs3, by omega, hlt, rfl, rfl, rfl⟩, by omega⟩
    · have hge2 : x = l2.length := by have := of_decide_eq_false hge2; omega
      subst hge2
      rw [List.take_length, List.drop_length, List.append_nil] at st10 ⊢
      rw [hA] at hall st10 ⊢
      have badP : readSk l = none → ∀ {w : World} {G2 : List Own} {q : KP} {st : SkD} {Ψ : PW} [Stable Ψ], (∀ M w, Ψ M w → Φ M w) → Ctx W w ((SkO q st ++ (rd b s6 :: T)) ++ G2) Ψ → _ := fun h {w G2 q st Ψ} _ hw cx => bad h (w := w) (G2 := G2) ((Ctx.drop1 (Ctx.dropF (Q := SkO q st) (T := rd b s6 :: T) cx)).weak hw)
      -- the end
      have fin : ∀ {q' : KP} {s' : SkD} {Ψ : PW} {U : List Own}, Stable Ψ → (∀ (w : World) (G2 : List Own), Ctx W w (U ++ G2) Ψ → Ctx W w ((SkO q' s' ++ (rd b s6 :: T)) ++ G2) Ψ) → (∀ M w, Ψ M w → Φ M w ∧ SkF q' s' M w) → q'.sb = sb0 → SkQ q' s' → SkI s' → SkS s' 400000 → I64 s'.kind → I64 s'.prep → readSk l = (if s'.prep = prep ∧ (skB s').data.toList = l then some s' else none) →
          ptrK none (some ⟨sb0, 0, none⟩) fun (a1 b1 : Nat) => ∀ (w : World) (G2 : List Own), Ctx W w (U ++ G2) Ψ → ∃ n : Int, w.cell? ⟨a1, b1 + 4, none⟩ = some (.int .i64 n) ∧
            Br (decide (n ≠ prep)) (∀ (w : World) (G2 : List Own), Ctx W w (U ++ G2) Ψ → ∃ p ok, Value.tuple #[.pointer none, .bool false] = .tuple #[.pointer p, .bool ok] ∧ ∃ R' Φ', Stable Φ' ∧ Ctx W w (R' ++ G) Φ' ∧ K p ok R' Φ')
              (∀ (w : World) (G2 : List Own), Ctx W w (U ++ G2) Ψ → Calls Tryz.prog F.sink_Sink_Bytes #[.pointer (some ⟨sb0, 0, none⟩)] w fun e w' => ∃ s : ByteArray, e = .returned (.string s) ∧ ∃ (R2 : List Own) (Φ2 : PW), Stable Φ2 ∧ Ctx W w' (R2 ++ G2) Φ2 ∧
                Br (decide (s ≠ bs l)) (∀ (w : World) (F1 : List Own), Ctx W w (R2 ++ F1) Φ2 → ∃ p ok, (Value.tuple #[.pointer none, .bool false]) = .tuple #[.pointer p, .bool ok] ∧ ∃ R' Φ', Stable Φ' ∧ Ctx W w (R' ++ G) Φ' ∧ K p ok R' Φ')
                  (∀ (w : World) (F1 : List Own), Ctx W w (R2 ++ F1) Φ2 → ∃ p ok, (Value.tuple #[.pointer (some ⟨sb0, 0, none⟩), .bool true]) = .tuple #[.pointer p, .bool ok] ∧ ∃ R' Φ', Stable Φ' ∧ Ctx W w (R' ++ G) Φ' ∧ K p ok R' Φ')) := by
        intro q' s' Ψ U stΨ toU hw hsb' hq' hI' hs' hk' hp' hr
        have hT' : Has Ψ TabI := ⟨fun M w h => (hΦ M w (hw M w h).1).1⟩
        have hF' : Has Ψ (SkF q' s') := ⟨fun M w h => (hw M w h).2⟩
        rw [← hsb']
        refine ptrK_intro q'.sb 0 rfl fun w G2 cx => ⟨s'.prep, (toU w G2 cx).get 0 rfl rfl, ?_⟩
        have hW : SkW s' := sk_w hI' hk' hp' (hw _ _ cx.phi).2
        clear cx
        refine Br.intro (fun h => fun w G2 cx => badP (by rw [hr, if_neg fun e => of_decide_eq_true h e.1]) (fun M w h => (hw M w h).1) (toU w G2 cx)) (fun h => fun w G2 cx => (Bytes_q hq' hW hs' (by omega)).toS (R := rd b s6 :: T) (toU w G2 cx) ?_)
        clear cx
        have hpr := Decidable.not_not.1 (of_decide_eq_false h)
        refine Br.intro (fun h2 => fun w G2 cx => badP (by rw [hr, if_neg fun e => of_decide_eq_true h2 (by rw [← e.2]; rfl)]) (fun M w h => (hw M w h).1) cx) (fun h2 => fun w G2 cx => ?_)
        have hsome : readSk l = some s' := by
          rw [hr, if_pos ⟨hpr, by rw [Decidable.not_not.1 (of_decide_eq_false h2)]; rfl⟩]
        have stg : Stable (fun M w => Φ M w ∧ SkF q' s' M w) := inferInstance
        refine ⟨_, _, rfl, SkO q' s' ++ R, _, stg, ?_, h1 q' s' hsome hq' hI' hs' stg⟩
        rw [hT] at cx
        have c2 : Ctx W w ((rd b s6 :: (SkO q' s' ++ (R ++ G))) ++ G2) Ψ := Ctx.front cx
        exact ((Ctx.drop1 c2).left.re (by simp)).weak hw
      refine Br.intro (fun hp0 => fun w G2 cx => ?_) (fun hp0 => ?_)
      · have hp0 := of_decide_eq_true hp0
        obtain ⟨cx1, hslA, _, ga1, ga2⟩ := Ctx.freeze (α := LineD) cx cx.phi.2
        have cx2 : Ctx W w ((SkO q st ++ (rd b s6 :: T)) ++ G2) (fun M w => (Φ M w ∧ SkF q st M w) ∧ Sl M w ap A) := (cx1.add hslA).weak fun M w h => ⟨h.1.1, h.2⟩
        clear cx cx1 hslA
        have hFq : Has (fun M w => (Φ M w ∧ SkF q st M w) ∧ Sl M w ap A) (SkF q st) := ⟨fun M w h => h.1.2⟩
        have hLA : Has (fun M w => (Φ M w ∧ SkF q st M w) ∧ Sl M w ap A) (fun M w => Sl M w ap A) := ⟨fun M w h => h.2⟩
        have stA : Stable (fun M w => (Φ M w ∧ SkF q st M w) ∧ Sl M w ap A) := inferInstance
        obtain ⟨m, s', hm⟩ : ∃ m s', prepK st prep A = (m, s') := ⟨_, _, rfl⟩
        have hfin : finK l st prep A = if m = 0 ∧ s'.prep = prep ∧ (skB s').data.toList = l then some s' else none := by unfold finK; rw [if_neg hp0, hm]
        have hi' : SkI s' := by have := prep_i hI1 (b := prep) (L := A); rw [hm] at this; exact this
        have hkp : SkS s' 400000 ∧ I64 s'.kind ∧ I64 s'.prep := by
          rcases prep_cases st prep A with ⟨e, _⟩ | ⟨_, _, _, e⟩
          · rw [hm] at e
            have e : s' = st := e
            rw [e, hk1.kind, hk1.prep]
            exact ⟨hs, hkind, by unfold I64; omega⟩
          · rw [hm] at e
            have e := (Prod.ext_iff.1 e).2
            have e : s' = { st with prep := prep, aside := A } := e
            rw [e]
            exact ⟨⟨hs.bats, hs.lines, by show A.length ≤ _; omega, hs.key⟩, by show I64 st.kind; rw [hk1.kind]; exact hkind, hprep⟩
        rw [hfin] at hall
        rw [← hsb, ← hAl]
        refine Prepare_use (R := rd b s6 :: T) (b := prep) (L := A) hq hI1 hs (by omega) (by omega) cx2 fun q' hsb' hq' st11 => ?_
        clear cx2
        rw [hm] at hq' st11 ⊢
        have hq' : SkQ q' s' := hq'
        have st11 : Stable (fun M w => ((Φ M w ∧ SkF q st M w) ∧ Sl M w ap A) ∧ SkF q' s' M w) := st11
        refine Br.intro (fun h => fun w G2 cx => badP (by rw [hall, if_neg fun e => of_decide_eq_true h e.1]) (fun M w h => h.1.1.1) cx) (fun h => ?_)
        have hm0 : m = 0 := Decidable.not_not.1 (of_decide_eq_false h)
        rw [hsb]
        exact fin st11 (fun w G2 cx => cx) (fun M w h => ⟨h.1.1.1, h.2⟩) (by rw [hsb', hsb]) hq' hi' hkp.1 hkp.2.1 hkp.2.2 (by rw [hall, hm0]; simp only [true_and])
      · have hp0 := Decidable.not_not.1 (of_decide_eq_false hp0)
        have hfin : finK l st prep A = if st.prep = prep ∧ (skB st).data.toList = l then some st else none := by unfold finK; rw [if_pos hp0]; simp only [true_and]
        rw [hfin] at hall
        exact fin st10 (fun w G2 cx => cx.drop1) (fun M w h => h.1) hsb hq hI1 hs (by rw [hk1.kind]; exact hkind) (by rw [hk1.prep]; unfold I64; omega) hall
end
end Go.Proofs.YtjlfpkgjcffilaaGreatDoor
end

/-
  Short rows, and rows that are the same: walked (for seats without the place's functions).
-/
section
set_option linter.unusedVariables false
set_option linter.unusedSimpArgs false
namespace Go.Proofs.YtjlfpkgjcffilaaGreatDoor
open Go.Vc


abbrev ValD.cells (x : ValD) : List Value := [.int .i64 x.kind, .int .i64 x.num, .string x.text]
theorem val_rep {M : List Nat} {w : World} {v : ValD} (h : (I64 v.kind ∧ I64 v.num) ∧ v.text.size ≤ maxLen) : Gv.rep M w v.cells v :=
  ⟨[.int .i64 v.kind], [.int .i64 v.num, .string v.text], rfl, ⟨rfl, h.1.1⟩, [.int .i64 v.num], [.string v.text], rfl, ⟨rfl, h.1.2⟩, rfl, h.2⟩
section
variable {Φ : PW} {p q : Option Addr} {cap cap2 : Nat} {r a b : List ValD} {W w : World} {R G : List Own}

end
end Go.Proofs.YtjlfpkgjcffilaaGreatDoor
end

/-
  The examples of the laws of sinks, walked.
-/
section
set_option linter.unusedVariables false
set_option linter.unusedSimpArgs false
namespace Go.Proofs.YtjlfpkgjcffilaaGreatDoor
open Go.Vc


abbrev vN (no : Int) : List ValD := [⟨0, no, ByteArray.mk #[]⟩]
abbrev lineD (no b : Int) : LineD := ⟨no, b, no, vN no, 1, 0, 0⟩
theorem vN_rep {M : List Nat} {w : World} {no : Int} (h : I64 no) : Gv.rep M w [.int .i64 0, .int .i64 no, .string (ByteArray.mk #[])] (⟨0, no, ByteArray.mk #[]⟩ : ValD) := val_rep (v := ⟨0, no, ByteArray.mk #[]⟩) ⟨⟨by show I64 0; unfold I64; decide, h⟩, by show (ByteArray.mk #[]).size ≤ maxLen; decide⟩
theorem lineD_rep {M : List Nat} {w : World} {no b : Int} {p : Option Addr} {c : Nat} (h : I64 no ∧ I64 b) (hc : 1 ≤ c ∧ c ≤ maxLen) (hs : Sl M w p (vN no)) : Gv.rep M w [.int .i64 no, .int .i64 b, .int .i64 no, .slice p 1 c, .int .i64 1, .int .i64 0, .int .i64 0] (lineD no b) :=
  rep_line (x := lineD no b) hc.1 hc.2 ⟨h.1, h.2, h.1, by show I64 1; unfold I64; omega, by show I64 0; unfold I64; omega, by show I64 0; unfold I64; omega⟩ hs

theorem Ctx.swapQ {W w : World} {A B R G : List Own} {Φ : PW} [Stable Φ] (c : Ctx W w ((A ++ (B ++ R)) ++ G) Φ) : Ctx W w ((B ++ (A ++ R)) ++ G) Φ := c.perm (by
  simp only [List.append_assoc]
  rw [← List.append_assoc, ← List.append_assoc B A]
  exact List.Perm.append_right _ List.perm_append_comm)

section
variable {Φ : PW} {q : KP} {st : SkD} {W w : World} {R S G : List Own} {p : Option Addr} {cap : Nat} {L : List LineD}

theorem line_to [Stable Φ] {no b : Int} (h : I64 no) (c : Ctx W w (R ++ G) Φ) {K : Int → Int → Int → Option Addr → Nat → Nat → Int → Int → Int → List Own → PW → Prop}
    (hk : ∀ k, Stable (fun M w => Φ M w ∧ Sl M w (some ⟨k, 0, none⟩) (vN no)) → K no b no (some ⟨k, 0, none⟩) 1 1 1 0 0 R (fun M w => Φ M w ∧ Sl M w (some ⟨k, 0, none⟩) (vN no))) :
    Calls Tryz.prog F.erratalaw43_line #[.int .i64 no, .int .i64 b] w fun e w' => ∃ n1 n2 n3 p k1 k2 n4 n5 n6, e = .returned (.agg #[.int .i64 n1, .int .i64 n2, .int .i64 n3, .slice p k1 k2, .int .i64 n4, .int .i64 n5, .int .i64 n6]) ∧ ∃ R' Φ', Stable Φ' ∧ Ctx W w' (R' ++ G) Φ' ∧ K n1 n2 n3 p k1 k2 n4 n5 n6 R' Φ' := by
  refine (Berratalaw43_line_run no b (R := R ++ G) (J := fun v w' => ∃ n1 n2 n3 p k1 k2 n4 n5 n6, v = .agg #[.int .i64 n1, .int .i64 n2, .int .i64 n3, .slice p k1 k2, .int .i64 n4, .int .i64 n5, .int .i64 n6] ∧ ∃ R' Φ', Stable Φ' ∧ Ctx W w' (R' ++ G) Φ' ∧ K n1 n2 n3 p k1 k2 n4 n5 n6 R' Φ') c ?_).mono fun e w' ⟨v, he, n1, n2, n3, p, k1, k2, n4, n5, n6, hv, rest⟩ => ⟨n1, n2, n3, p, k1, k2, n4, n5, n6, by rw [he, hv], rest⟩
  clear c
  intro _ k w2 G2 cx
  obtain ⟨c2, h2⟩ := Ctx.freezeBlk (α := ValD) (l := vN no) cx (Elems.one (vN_rep h))
  have c3 := c2.add (Ψ := fun M w => Sl M w (some ⟨k, 0, none⟩) (vN no)) h2
  exact ⟨_, _, _, _, _, _, _, _, _, rfl, R, _, inferInstance, c3.left, hk k inferInstance⟩

theorem Deliver_at [Stable Φ] {b m : Int} {st' : SkD} (he : delivK st b L = (m, st')) [hF : Has Φ (SkF q st)] [hL : Has Φ (fun M w => Sl M w p L)] (hq : SkQ q st) (hI : SkI st) {n : Nat} (hs : SkS st n) (hn : n ≤ 400000) (hlen : L.length ≤ 400000) (c : Ctx W w ((SkO q st ++ R) ++ G) Φ) {K : Int → List Own → PW → Prop}
    (hk : ∀ q' : KP, q'.sb = q.sb → SkQ q' st' → Stable (fun M w => Φ M w ∧ SkF q' st' M w) → K m (SkO q' st' ++ R) (fun M w => Φ M w ∧ SkF q' st' M w)) :
    Calls Tryz.prog F.sink_Sink_Deliver #[snk q, .int .i64 b, .slice p L.length cap] w fun e w' => ∃ n, e = .returned (.int .i64 n) ∧ ∃ R' Φ', Stable Φ' ∧ Ctx W w' (R' ++ G) Φ' ∧ K n R' Φ' :=
  Deliver_use hq hI hs hn hlen c (by rw [he]; exact hk)
end

/-! ### small -/
abbrev sK0 : SkD := newK 2 []
abbrev sLa : List LineD := [lineD 3 5]
abbrev sLb : List LineD := [lineD 1 3, lineD 2 3]
abbrev sKa : SkD := takeK sK0 3 sLb
abbrev sKb : SkD := takeK sKa 5 sLa
theorem s_l1 : lookK sK0 5 sLa = 25 := by decide +kernel
theorem s_l2 : lookK sK0 3 sLb = 0 := by decide +kernel
theorem s_l3 : lookK sKa 5 sLa = 0 := by decide +kernel
theorem s_l4 : lookK sKb 4 [] = 25 := by decide +kernel
theorem s_d1 : delivK sK0 5 sLa = (25, sK0) := by
  unfold delivK
  rw [if_neg (by decide), if_neg (by decide), if_pos (by rw [s_l1]; decide), s_l1]
theorem s_d2 : delivK sK0 3 sLb = (0, sKa) := by
  unfold delivK
  rw [if_neg (by decide), if_neg (by decide), if_neg (by rw [s_l2]; decide)]
theorem s_d3 : delivK sKa 5 sLa = (0, sKb) := by
  unfold delivK
  rw [if_neg (by decide), if_neg (by decide), if_neg (by rw [s_l3]; decide)]
theorem s_d4 : delivK sKb 4 [] = (25, sKb) := by
  unfold delivK
  rw [if_neg (by decide), if_neg (by decide), if_pos (by rw [s_l4]; decide), s_l4]
theorem s_ia : SkI sKa := by
  have := deliv_i (new_i 2 []) (b := 3) (L := sLb) (by unfold I64; decide)
  rw [s_d2] at this
  exact this
theorem s_ib : SkI sKb := by
  have := deliv_i s_ia (b := 5) (L := sLa) (by unfold I64; decide)
  rw [s_d3] at this
  exact this
theorem s_s0 : SkS sK0 10 := ⟨by decide, by decide, by decide, by decide⟩
theorem s_sa : SkS sKa 10 := ⟨by decide, by decide, by decide, by decide⟩
theorem s_sb : SkS sKb 10 := ⟨by decide, by decide, by decide, by decide⟩
theorem nilZ {M : List Nat} {w : World} : Sl M w none ([] : List Int) := fun i hi => absurd hi (by simp)
theorem nilL {M : List Nat} {w : World} : Sl M w none ([] : List LineD) := fun i hi => absurd hi (by simp)

set_option maxHeartbeats 4000000 in
theorem small43_in {Φ : PW} [Stable Φ] : GivesIn Φ Tryz.prog F.erratalaw43_small #[] (.bool true) := by
  refine gives_in (Berratalaw43_small_run) fun W R => ?_
  have hz : ∀ Ψ : PW, Has Ψ (fun M w => Sl M w none ([] : List Int)) := fun Ψ => ⟨fun M w _ => nilZ⟩
  have hzl : ∀ Ψ : PW, Has Ψ (fun M w => Sl M w none ([] : List LineD)) := fun Ψ => ⟨fun M w _ => nilL⟩
  refine fun w G cx => New_to (hΦ := hz _) (key := []) (kind := 2) (by decide) cx (fun h => absurd h (by decide)) fun q1 _ hq1 st1 => ?_
  clear cx
  refine fun w G cx => New_to (hΦ := hz _) (key := []) (kind := 2) (by decide) cx (fun h => absurd h (by decide)) fun q2 _ hq2 st2 => ?_
  clear cx
  refine fun w G cx => Br.intro (fun h => by cases h) (fun _ => ?_)
  refine fun w G cx => line_to (no := 3) (b := 5) (by unfold I64; decide) (Ctx.swapQ cx) fun k1 st3 => ?_
  clear cx
  intro k33 w G cx
  obtain ⟨ca, ha⟩ := Ctx.freezeBlk (α := LineD) (l := sLa) cx (Elems.one (lineD_rep (by unfold I64; decide) (by decide) cx.phi.2))
  have ca := ca.add (Ψ := fun M w => Sl M w (some ⟨k33, 0, none⟩) sLa) ha
  clear cx ha
  refine Deliver_at (q := q1) (st := sK0) (L := sLa) (b := 5) s_d1 hq1 (new_i 2 []) s_s0 (by decide) (by decide) ca fun q3 hsb3 hq3 st4 => ?_
  clear ca
  rw [← hsb3]
  refine fun w G cx => line_to (no := 1) (b := 3) (by unfold I64; decide) cx fun k2 st5 => ?_
  clear cx
  refine fun w G cx => line_to (no := 2) (b := 3) (by unfold I64; decide) cx fun k3 st6 => ?_
  clear cx
  intro k71 w G cx
  obtain ⟨ca, ha⟩ := Ctx.freezeBlk (α := LineD) (l := sLb) cx (Elems.two (cs := [.int .i64 1, .int .i64 3, .int .i64 1, .slice (some ⟨k2, 0, none⟩) 1 1, .int .i64 1, .int .i64 0, .int .i64 0]) (lineD_rep (by unfold I64; decide) (by decide) cx.phi.1.2) (lineD_rep (by unfold I64; decide) (by decide) cx.phi.2))
  have ca := ca.add (Ψ := fun M w => Sl M w (some ⟨k71, 0, none⟩) sLb) ha
  clear cx ha
  refine Deliver_at (q := q3) (st := sK0) (L := sLb) (b := 3) s_d2 hq3 (new_i 2 []) s_s0 (by decide) (by decide) ca fun q4 hsb4 hq4 st7 => ?_
  clear ca
  refine fun w G cx => line_to (no := 1) (b := 3) (by unfold I64; decide) (Ctx.swapQ cx) fun k4 st8 => ?_
  clear cx
  refine fun w G cx => line_to (no := 2) (b := 3) (by unfold I64; decide) cx fun k5 st9 => ?_
  clear cx
  intro k109 w G cx
  obtain ⟨ca, ha⟩ := Ctx.freezeBlk (α := LineD) (l := sLb) cx (Elems.two (cs := [.int .i64 1, .int .i64 3, .int .i64 1, .slice (some ⟨k4, 0, none⟩) 1 1, .int .i64 1, .int .i64 0, .int .i64 0]) (lineD_rep (by unfold I64; decide) (by decide) cx.phi.1.2) (lineD_rep (by unfold I64; decide) (by decide) cx.phi.2))
  have ca := ca.add (Ψ := fun M w => Sl M w (some ⟨k109, 0, none⟩) sLb) ha
  clear cx ha
  refine Deliver_at (q := q2) (st := sK0) (L := sLb) (b := 3) s_d2 hq2 (new_i 2 []) s_s0 (by decide) (by decide) ca fun q5 hsb5 hq5 st10 => ?_
  clear ca
  rw [← hsb5]
  refine fun w G cx => line_to (no := 3) (b := 5) (by unfold I64; decide) cx fun k6 st11 => ?_
  clear cx
  intro k132 w G cx
  obtain ⟨ca, ha⟩ := Ctx.freezeBlk (α := LineD) (l := sLa) cx (Elems.one (lineD_rep (by unfold I64; decide) (by decide) cx.phi.2))
  have ca := ca.add (Ψ := fun M w => Sl M w (some ⟨k132, 0, none⟩) sLa) ha
  clear cx ha
  refine Deliver_at (q := q5) (st := sKa) (L := sLa) (b := 5) s_d3 hq5 s_ia s_sa (by decide) (by decide) ca fun q6 hsb6 hq6 st12 => ?_
  clear ca
  rw [← hsb6]
  refine fun w G cx => Deliver_at (hL := hzl _) (q := q6) (st := sKb) (L := []) (b := 4) s_d4 hq6 s_ib s_sb (by decide) (by decide) cx fun q7 hsb7 hq7 st13 => ?_
  clear cx
  rw [← hsb7]
  refine Br.intro (fun _ => Br.intro (fun _ => Br.intro (fun _ => Br.intro (fun _ => Br.intro (fun _ => ?_) (fun h => absurd rfl (of_decide_eq_false h))) (fun h => absurd rfl (of_decide_eq_false h))) (fun h => absurd rfl (of_decide_eq_false h))) (fun h => absurd rfl (of_decide_eq_false h))) (fun h => absurd rfl (of_decide_eq_false h))
  refine fun w G cx => (Last_q hq7).toI cx ?_
  clear cx
  refine Br.intro (fun _ => ?_) (fun h => absurd (show lastK sKb = 5 by decide) (of_decide_eq_false h))
  refine fun w G cx => LinesN_q.toI cx ?_
  clear cx
  exact fun w G cx => ⟨rfl, Ctx.has (Ctx.right (S := SkO q4 sKa) (Ctx.left (Ctx.right (S := SkO q7 sKb) (cx.re (List.append_assoc _ _ _)))))⟩
end Go.Proofs.YtjlfpkgjcffilaaGreatDoor
end

/-
  SinkHides, walked.
-/
section
set_option linter.unusedVariables false
set_option linter.unusedSimpArgs false
namespace Go.Proofs.YtjlfpkgjcffilaaGreatDoor
open Go.Vc


theorem fewO_out {l : List OpD} {n : Int} (h : fewO l n = true) : (l.length : Int) ≤ n ∧ ∀ x ∈ l, x.l.length ≤ 8 := by
  unfold fewO at h
  rw [Bool.and_eq_true] at h
  exact ⟨of_decide_eq_true h.1, fun x hx => by have := fewR_len (List.all_eq_true.1 h.2 x hx); omega⟩

/-- the state between two calls -/
structure HidI (st : SkD) (i : Nat) (LL : List LineD) : Prop where
  inv : SkI st
  prep : PrepI st
  kind : st.kind = 0
  size : SkS st (8 * i)
  aside : st.aside.length ≤ 8
  last : st.prep ≠ 0 → st.aside = LL
  len : LL.length ≤ 8

section
variable {Φ : PW} {W w : World} {R S G : List Own} {p : Option Addr} {cap : Nat}

end
end Go.Proofs.YtjlfpkgjcffilaaGreatDoor
end

/-
  What a call of a sink brings, in plain Lean; a call of any kind, walked.
-/
section
set_option linter.unusedVariables false
set_option linter.unusedSimpArgs false
namespace Go.Proofs.YtjlfpkgjcffilaaGreatDoor
open Go.Vc


theorem op_bats (s : SkD) (k b : Int) (L : List LineD) : (opK k s b L).2.bats.length ≤ s.bats.length + 1 := by
  have hP : (prepK s b L).2.bats.length ≤ s.bats.length + 1 := by
    rcases prep_cases s b L with ⟨e, _⟩ | ⟨_, _, _, e⟩ <;> rw [e] <;> exact Nat.le_succ _
  have take : ∀ (M : List LineD), (takeK s b M).bats.length ≤ s.bats.length + 1 := fun M => by show (s.bats ++ [b]).length ≤ _; rw [List.length_append, List.length_singleton]; omega
  unfold opK
  split
  · exact hP
  split
  · exact hP
  split
  · rcases comm_cases s b with ⟨e, _⟩ | ⟨_, _, _, _, e⟩ <;> rw [e]
    · exact Nat.le_succ _
    · exact take s.aside
  split
  · rcases abort_cases s b with ⟨e, _⟩ | ⟨_, _, _, e⟩ <;> rw [e] <;> exact Nat.le_succ _
  split
  · exact Nat.le_succ _
  split
  · exact Nat.le_succ _
  · rcases deliv_cases s b L with ⟨e, _⟩ | ⟨_, _, _, e⟩ <;> rw [e]
    · exact Nat.le_succ _
    · exact take L
/-- the state of a sink after some calls -/
structure OnceI (kind : Int) (key : List Int) (st : SkD) (i : Nat) : Prop where
  inv : SkI st
  prep : PrepI st
  made : SkR st
  size : SkS st (8 * i + 1)
  aside : st.aside.length ≤ 8
  kind : st.kind = kind
  prepZ : I64 st.prep
  key : st.key = key
  bats : st.bats.length ≤ i
  lines : st.lines.length ≤ 8 * i
end Go.Proofs.YtjlfpkgjcffilaaGreatDoor
end

/-
  A call of a sink, of any kind: walked.
-/
section
set_option linter.unusedVariables false
set_option linter.unusedSimpArgs false
namespace Go.Proofs.YtjlfpkgjcffilaaGreatDoor
open Go.Vc


section
variable {Φ : PW} {q : KP} {st : SkD} {W w : World} {R S G : List Own} {p : Option Addr} {cap : Nat} {L : List LineD}

end
end Go.Proofs.YtjlfpkgjcffilaaGreatDoor
end

