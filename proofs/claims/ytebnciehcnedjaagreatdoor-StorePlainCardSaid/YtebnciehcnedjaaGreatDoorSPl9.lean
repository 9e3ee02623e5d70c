/-
  The conditions of the walks of some functions, one formula each; 'B<f>_run' says that they suffice. The formulas are printed by a program; the kernel compares them with the functions' code.
-/
import Derived.Test.YtebnciehcnedjaaGreatDoorSPl6
import Derived.Test.YtebnciehcnedjaaGreatDoorSPl8

section
namespace Go.Proofs.YtebnciehcnedjaaGreatDoor
set_option linter.unusedVariables false
set_option linter.unusedSimpArgs false
set_option maxRecDepth 100000
open Go.Vc

/-- erratalaw29.small -/
-- loop at region 13: 6 i; blocks 
def Berratalaw29_small  (W : World) (R : List Own) (Φ : PW) (J : Value → World → Prop) : Prop :=
  ∀ (w0 : World) (R1 : List Own), Ctx W w0 (R ++ R1) Φ → Calls Tryz.prog F.store_New #[] w0 fun (e2 : Ending) (w3 : World) => ∃ (p4 : Option Addr), e2 = Ending.returned (Value.pointer p4) ∧ ∃
  (R5 : List Own), ∃ (Φ6 : PW), Stable Φ6 ∧ Ctx W w3 (R5 ++ R1) Φ6 ∧ ∀ (w7 : World) (R8 : List Own), Ctx W w7 (R5 ++ R8) Φ6 → Calls Tryz.prog F.store_New #[] w7 fun (e9 : Ending) (w10 :
  World) => ∃ (p11 : Option Addr), e9 = Ending.returned (Value.pointer p11) ∧ ∃ (R12 : List Own), ∃ (Φ13 : PW), Stable Φ13 ∧ Ctx W w10 (R12 ++ R8) Φ13 ∧ ∀ (w14 : World) (R15 : List Own), Ctx
  W w14 (R12 ++ R15) Φ13 → Br (p4.isNone || p11.isNone) (∀ (w16 : World) (R17 : List Own), Ctx W w16 (R12 ++ R17) Φ13 → J (Value.bool false) w16) (∀ (w18 : World) (R19 : List Own), Ctx W w18
  (R12 ++ R19) Φ13 → Calls Tryz.prog F.store_Store_Put #[Value.pointer p4, Value.string (ByteArray.mk #[OfNat.ofNat 97]), Value.string (ByteArray.mk #[OfNat.ofNat 49])] w18 fun (e20 : Ending)
  (w21 : World) => e20 = Ending.returned (Value.tuple #[]) ∧ ∃ (R22 : List Own), ∃ (Φ23 : PW), Stable Φ23 ∧ Ctx W w21 (R22 ++ R19) Φ23 ∧ ∀ (w24 : World) (R25 : List Own), Ctx W w24 (R22 ++
  R25) Φ23 → Calls Tryz.prog F.store_Store_Put #[Value.pointer p4, Value.string (ByteArray.mk #[OfNat.ofNat 98]), Value.string (ByteArray.mk #[OfNat.ofNat 50])] w24 fun (e26 : Ending) (w27 :
  World) => e26 = Ending.returned (Value.tuple #[]) ∧ ∃ (R28 : List Own), ∃ (Φ29 : PW), Stable Φ29 ∧ Ctx W w27 (R28 ++ R25) Φ29 ∧ ∀ (w30 : World) (R31 : List Own), Ctx W w30 (R28 ++ R31) Φ29
  → Calls Tryz.prog F.store_Store_Put #[Value.pointer p4, Value.string (ByteArray.mk #[OfNat.ofNat 97]), Value.string (ByteArray.mk #[])] w30 fun (e32 : Ending) (w33 : World) => e32 =
  Ending.returned (Value.tuple #[]) ∧ ∃ (R34 : List Own), ∃ (Φ35 : PW), Stable Φ35 ∧ Ctx W w33 (R34 ++ R31) Φ35 ∧ ∀ (w36 : World) (R37 : List Own), Ctx W w36 (R34 ++ R37) Φ35 → Calls
  Tryz.prog F.store_Store_Scan #[Value.pointer p4, Value.string (ByteArray.mk #[])] w36 fun (e38 : Ending) (w39 : World) => ∃ (p40 : Option Addr), ∃ (k41 : Nat), ∃ (k42 : Nat), e38 =
  Ending.returned (Value.slice p40 k41 k42) ∧ ∃ (R43 : List Own), ∃ (Φ44 : PW), Stable Φ44 ∧ Ctx W w39 (R43 ++ R37) Φ44 ∧ ∀ (w45 : World) (R46 : List Own), Ctx W w45 (R43 ++ R46) Φ44 → Calls
  Tryz.prog F.store_Store_Since #[Value.pointer p4, Value.int IntKind.i64 1] w45 fun (e47 : Ending) (w48 : World) => ∃ (p49 : Option Addr), ∃ (k50 : Nat), ∃ (k51 : Nat), ∃ (n52 : Int), e47 =
  Ending.returned (Value.tuple #[Value.slice p49 k50 k51, Value.int IntKind.i64 n52]) ∧ ∃ (R53 : List Own), ∃ (Φ54 : PW), Stable Φ54 ∧ Ctx W w48 (R53 ++ R46) Φ54 ∧ ∀ (w55 : World) (R56 : List
  Own), Ctx W w55 (R53 ++ R56) Φ54 → Br (decide ((↑k41 : Int) ≠ 1) || decide ((↑k50 : Int) ≠ 2) || decide (n52 ≠ 0)) (∀ (w57 : World) (R58 : List Own), Ctx W w57 (R53 ++ R58) Φ54 → J
  (Value.bool false) w57) (exI fun (I59 : Int → List Own → PW → Nat → Prop) => (∃ (R60 : List Own), ∃ (Φ61 : PW), ∃ (k62 : Nat), Stable Φ61 ∧ (∀ (w63 : World) (R64 : List Own), Ctx W w63 (R53
  ++ R64) Φ54 → Ctx W w63 (R60 ++ R64) Φ61) ∧ I59 0 R60 Φ61 k62) ∧ ∀ (n65 : Int) (R66 : List Own) (I67 : List Nat → World → Prop) (k68 : Nat), Stable I67 → I59 n65 R66 I67 k68 → Br (decide
  (n65 < 32)) (∀ (w69 : World) (R70 : List Own), Ctx W w69 (R66 ++ R70) I67 → Calls Tryz.prog F.erratalaw29_digits #[Value.int IntKind.i64 n65] w69 fun (e71 : Ending) (w72 : World) => ∃ (s73
  : ByteArray), e71 = Ending.returned (Value.string s73) ∧ ∃ (R74 : List Own), ∃ (Φ75 : PW), Stable Φ75 ∧ Ctx W w72 (R74 ++ R70) Φ75 ∧ ∀ (w76 : World) (R77 : List Own), Ctx W w76 (R74 ++ R77)
  Φ75 → Calls Tryz.prog F.store_Store_Put #[Value.pointer p11, Value.string s73, Value.string (ByteArray.mk #[OfNat.ofNat 120])] w76 fun (e78 : Ending) (w79 : World) => e78 = Ending.returned
  (Value.tuple #[]) ∧ ∃ (R80 : List Own), ∃ (Φ81 : PW), Stable Φ81 ∧ Ctx W w79 (R80 ++ R77) Φ81 ∧ I64 (n65 + 1) ∧ ∃ (R82 : List Own), ∃ (Φ83 : PW), ∃ (k84 : Nat), Stable Φ83 ∧ (∀ (w85 :
  World) (R86 : List Own), Ctx W w85 (R80 ++ R86) Φ81 → Ctx W w85 (R82 ++ R86) Φ83) ∧ I59 (n65 + 1) R82 Φ83 k84 ∧ k84 < k68) (∀ (w87 : World) (R88 : List Own), Ctx W w87 (R66 ++ R88) I67 →
  Calls Tryz.prog F.store_Store_Runs #[Value.pointer p11] w87 fun (e89 : Ending) (w90 : World) => ∃ (p91 : Option Addr), ∃ (k92 : Nat), ∃ (k93 : Nat), e89 = Ending.returned (Value.slice p91
  k92 k93) ∧ ∃ (R94 : List Own), ∃ (Φ95 : PW), Stable Φ95 ∧ Ctx W w90 (R94 ++ R88) Φ95 ∧ Br (decide ((↑k92 : Int) ≠ 2)) (∀ (w96 : World) (R97 : List Own), Ctx W w96 (R94 ++ R97) Φ95 → J
  (Value.bool false) w96) (∀ (w98 : World) (R99 : List Own), Ctx W w98 (R94 ++ R99) Φ95 → ((0 : Int) ≤ 0 ∧ 0 < (↑k92 : Int)) ∧ ptrK none p91 fun (k100 k101 : Nat) => ∃ (p102 : Option Addr), ∃
  (k103 : Nat), ∃ (k104 : Nat), w98.cell? (Addr.mk k100 k101 none) = some (Value.slice p102 k103 k104) ∧ ((!decide ((↑k103 : Int) ≠ 0)) = true → (0 : Int) ≤ 1 ∧ 1 < (↑k92 : Int)) ∧ ptrK (some
  !decide ((↑k103 : Int) ≠ 0)) p91 fun (k105 k106 : Nat) => ∃ (p107 : Option Addr), ∃ (k108 : Nat), ∃ (k109 : Nat), ((!decide ((↑k103 : Int) ≠ 0)) = true → w98.cell? (Addr.mk k105 k106.succ
  none) = some (Value.slice p107 k108 k109)) ∧ Br (decide ((↑k103 : Int) ≠ 0) || decide ((↑k108 : Int) ≠ 1)) (∀ (w110 : World) (R111 : List Own), Ctx W w110 (R94 ++ R111) Φ95 → J (Value.bool
  false) w110) (((0 : Int) ≤ 0 ∧ 0 < (↑k41 : Int)) ∧ ptrK none p40 fun (k112 k113 : Nat) => ∀ (w114 : World) (R115 : List Own), Ctx W w114 (R94 ++ R115) Φ95 → ∃ (s116 : ByteArray), ∃ (s117 :
  ByteArray), RowAt w114 k112 k113 [Value.string s116, Value.string s117] ∧ okAgg Tryz.prog 69 = true ∧ Br (decide (s116 = ByteArray.mk #[OfNat.ofNat 98]) && (decide (s117 = ByteArray.mk
  #[OfNat.ofNat 50]) && true)) (∀ (w118 : World) (R119 : List Own), Ctx W w118 (R94 ++ R119) Φ95 → Calls Tryz.prog F.store_Store_Len #[Value.pointer p4] w118 fun (e120 : Ending) (w121 :
  World) => ∃ (n122 : Int), e120 = Ending.returned (Value.int IntKind.i64 n122) ∧ ∃ (R123 : List Own), ∃ (Φ124 : PW), Stable Φ124 ∧ Ctx W w121 (R123 ++ R119) Φ124 ∧ Br (decide (n122 = 1)) (∀
  (w125 : World) (R126 : List Own), Ctx W w125 (R123 ++ R126) Φ124 → Calls Tryz.prog F.store_Store_Versions #[Value.pointer p4] w125 fun (e127 : Ending) (w128 : World) => ∃ (n129 : Int), e127
  = Ending.returned (Value.int IntKind.i64 n129) ∧ ∃ (R130 : List Own), ∃ (Φ131 : PW), Stable Φ131 ∧ Ctx W w128 (R130 ++ R126) Φ131 ∧ Br (decide (n129 = 2)) (∀ (w132 : World) (R133 : List
  Own), Ctx W w132 (R130 ++ R133) Φ131 → Calls Tryz.prog F.store_Store_Seq #[Value.pointer p4] w132 fun (e134 : Ending) (w135 : World) => ∃ (n136 : Int), e134 = Ending.returned (Value.int
  IntKind.i64 n136) ∧ ∃ (R137 : List Own), ∃ (Φ138 : PW), Stable Φ138 ∧ Ctx W w135 (R137 ++ R133) Φ138 ∧ Br (decide (n136 = 3)) (((0 : Int) ≤ 0 ∧ 0 < (↑k50 : Int)) ∧ ptrK none p49 fun (k139
  k140 : Nat) => ∀ (w141 : World) (R142 : List Own), Ctx W w141 (R137 ++ R142) Φ138 → ∃ (n143 : Int), w141.cell? (Addr.mk k139 k140 none) = some (Value.int IntKind.i64 n143) ∧ Br (decide
  (n143 = 2)) (((0 : Int) ≤ 1 ∧ 1 < (↑k92 : Int)) ∧ ptrK none p91 fun (k144 k145 : Nat) => ∀ (w146 : World) (R147 : List Own), Ctx W w146 (R137 ++ R147) Φ138 → ∃ (p148 : Option Addr), ∃ (k149
  : Nat), ∃ (k150 : Nat), w146.cell? (Addr.mk k144 k145.succ none) = some (Value.slice p148 k149 k150) ∧ ((0 : Int) ≤ 0 ∧ 0 < (↑k149 : Int)) ∧ ptrK none p148 fun (k151 k152 : Nat) => ∀ (w153
  : World) (R154 : List Own), Ctx W w153 (R137 ++ R154) Φ138 → ∃ (n155 : Int), w153.cell? (Addr.mk k151 k152 none) = some (Value.int IntKind.i64 n155) ∧ ∀ (w156 : World) (R157 : List Own),
  Ctx W w156 (R137 ++ R157) Φ138 → J (Value.bool (decide (n155 = 32))) w156) (∀ (w158 : World) (R159 : List Own), Ctx W w158 (R137 ++ R159) Φ138 → J (Value.bool false) w158)) (∀ (w160 :
  World) (R161 : List Own), Ctx W w160 (R137 ++ R161) Φ138 → J (Value.bool false) w160)) (∀ (w162 : World) (R163 : List Own), Ctx W w162 (R130 ++ R163) Φ131 → J (Value.bool false) w162)) (∀
  (w164 : World) (R165 : List Own), Ctx W w164 (R123 ++ R165) Φ124 → J (Value.bool false) w164)) (∀ (w166 : World) (R167 : List Own), Ctx W w166 (R94 ++ R167) Φ95 → J (Value.bool false)
  w166))))))

theorem Berratalaw29_small_run  {W w : World} {R : List Own} {Φ : PW} [Stable Φ] {J : Value → World → Prop} (c : Ctx W w R Φ) (h : Berratalaw29_small  W R Φ J) : Calls Tryz.prog F.erratalaw29_small #[] w fun e w' => ∃ v, e = .returned v ∧ J v w' :=
  vcFS_sound (H := { keep := some [0, 1, 2, 3, 4, 5, 6, 7, 15, 40, 42, 53, 65], split := [21], loops := [(13, [(6, .one (.int .i64))], [])] }) (by rw [show vcFS Tryz.prog W { keep := some [0, 1, 2, 3, 4, 5, 6, 7, 15, 40, 42, 53, 65], split := [21], loops := [(13, [(6, .one (.int .i64))], [])] } F.erratalaw29_small #[] R Φ J = Berratalaw29_small  W R Φ J by kernel_rfl]; exact h) c

/-- erratalaw29.few -/
-- loop at region 2: 5 i; blocks 
def Berratalaw29_few (lP : Option Addr) (lN lC : Nat) (n : Int) (W : World) (R : List Own) (Φ : PW) (J : Value → World → Prop) : Prop :=
  exI fun (I0 : Int → List Own → PW → Nat → Prop) => (∃ (R1 : List Own), ∃ (Φ2 : PW), ∃ (k3 : Nat), Stable Φ2 ∧ (∀ (w4 : World) (R5 : List Own), Ctx W w4 (R ++ R5) Φ → Ctx W w4 (R1 ++ R5) Φ2)
  ∧ I0 0 R1 Φ2 k3) ∧ ∀ (n6 : Int) (R7 : List Own) (I8 : List Nat → World → Prop) (k9 : Nat), Stable I8 → I0 n6 R7 I8 k9 → Br (decide (n6 < (↑lN : Int))) (∀ (w10 : World) (R11 : List Own), Ctx
  W w10 (R7 ++ R11) I8 → (0 ≤ n6 ∧ n6 < (↑lN : Int)) ∧ ptrK none lP fun (k12 k13 : Nat) => ∃ (s14 : ByteArray), w10.cell? (Addr.mk k12 (k13 + n6.toNat * 4 + 2) none) = some (Value.string s14)
  ∧ ((!decide (20 < (↑s14.size : Int))) = true → 0 ≤ n6 ∧ n6 < (↑lN : Int)) ∧ ptrK (some !decide (20 < (↑s14.size : Int))) lP fun (k15 k16 : Nat) => ∃ (s17 : ByteArray), ((!decide (20 <
  (↑s14.size : Int))) = true → w10.cell? (Addr.mk k15 (k16 + n6.toNat * 4 + 3) none) = some (Value.string s17)) ∧ Br (decide (20 < (↑s14.size : Int)) || decide (20 < (↑s17.size : Int))) (∀
  (w18 : World) (R19 : List Own), Ctx W w18 (R7 ++ R19) I8 → J (Value.bool false) w18) (I64 (n6 + 1) ∧ ∃ (R20 : List Own), ∃ (Φ21 : PW), ∃ (k22 : Nat), Stable Φ21 ∧ (∀ (w23 : World) (R24 :
  List Own), Ctx W w23 (R7 ++ R24) I8 → Ctx W w23 (R20 ++ R24) Φ21) ∧ I0 (n6 + 1) R20 Φ21 k22 ∧ k22 < k9)) (∀ (w25 : World) (R26 : List Own), Ctx W w25 (R7 ++ R26) I8 → J (Value.bool (decide
  ((↑lN : Int) ≤ n))) w25)

theorem Berratalaw29_few_run (lP : Option Addr) (lN lC : Nat) (n : Int) {W w : World} {R : List Own} {Φ : PW} [Stable Φ] {J : Value → World → Prop} (c : Ctx W w R Φ) (h : Berratalaw29_few lP lN lC n W R Φ J) : Calls Tryz.prog F.erratalaw29_few #[.slice lP lN lC, .int .i64 n] w fun e w' => ∃ v, e = .returned v ∧ J v w' :=
  vcFS_sound (H := { keep := some [0, 1, 4, 5, 9, 27], loops := [(2, [(5, .one (.int .i64))], [])] }) (by rw [show vcFS Tryz.prog W { keep := some [0, 1, 4, 5, 9, 27], loops := [(2, [(5, .one (.int .i64))], [])] } F.erratalaw29_few #[.slice lP lN lC, .int .i64 n] R Φ J = Berratalaw29_few lP lN lC n W R Φ J by kernel_rfl]; exact h) c

/-- store.Restore -/
-- loop at region 5: 6 l; blocks 
-- known blocks: 8 p
def Bstore_Restore (x : ByteArray) (W : World) (R : List Own) (Φ : PW) (J : Value → World → Prop) : Prop :=
  ∀ (w0 : World) (R1 : List Own), Ctx W w0 (R ++ R1) Φ → Calls Tryz.prog F.wire_Open #[Value.string x] w0 fun (e2 : Ending) (w3 : World) => ∃ (p4 : Option Addr), e2 = Ending.returned
  (Value.pointer p4) ∧ ∃ (R5 : List Own), ∃ (Φ6 : PW), Stable Φ6 ∧ Ctx W w3 (R5 ++ R1) Φ6 ∧ ∀ (w7 : World) (R8 : List Own), Ctx W w7 (R5 ++ R8) Φ6 → Calls Tryz.prog F.wire_Reader_Int
  #[Value.pointer p4] w7 fun (e9 : Ending) (w10 : World) => ∃ (n11 : Int), e9 = Ending.returned (Value.int IntKind.i64 n11) ∧ ∃ (R12 : List Own), ∃ (Φ13 : PW), Stable Φ13 ∧ Ctx W w10 (R12 ++
  R8) Φ13 ∧ ∀ (k14 : Nat) (w15 : World) (R16 : List Own), Ctx W w15 (Own.blk k14 [Value.slice none 0 0, Value.slice none 0 0, Value.int IntKind.i64 n11, Value.slice none 0 0, Value.int
  IntKind.i64 0] 77 :: R12 ++ R16) Φ13 → Calls Tryz.prog F.wire_Reader_Num #[Value.pointer p4] w15 fun (e17 : Ending) (w18 : World) => ∃ (n19 : Int), e17 = Ending.returned (Value.int
  IntKind.i64 n19) ∧ ∃ (R20 : List Own), ∃ (Φ21 : PW), Stable Φ21 ∧ Ctx W w18 (R20 ++ R16) Φ21 ∧ exI fun (I22 : Option Addr → Nat → Nat → List Own → PW → Nat → Prop) => (∃ (R23 : List Own), ∃
  (Φ24 : PW), ∃ (k25 : Nat), Stable Φ24 ∧ (∀ (w26 : World) (R27 : List Own), Ctx W w26 (R20 ++ R27) Φ21 → Ctx W w26 (R23 ++ R27) Φ24) ∧ I22 none 0 0 R23 Φ24 k25) ∧ ∀ (p28 : Option Addr) (k29
  k30 : Nat) (R31 : List Own) (I32 : List Nat → World → Prop) (k33 : Nat), Stable I32 → I22 p28 k29 k30 R31 I32 k33 → Br (decide ((↑k29 : Int) < n19)) (∀ (w34 : World) (R35 : List Own), Ctx W
  w34 (R31 ++ R35) I32 → Calls Tryz.prog F.wire_Reader_Text #[Value.pointer p4] w34 fun (e36 : Ending) (w37 : World) => ∃ (s38 : ByteArray), e36 = Ending.returned (Value.string s38) ∧ ∃ (R39
  : List Own), ∃ (Φ40 : PW), Stable Φ40 ∧ Ctx W w37 (R39 ++ R35) Φ40 ∧ ∀ (w41 : World) (R42 : List Own), Ctx W w41 (R39 ++ R42) Φ40 → Calls Tryz.prog F.wire_Reader_Text #[Value.pointer p4]
  w41 fun (e43 : Ending) (w44 : World) => ∃ (s45 : ByteArray), e43 = Ending.returned (Value.string s45) ∧ ∃ (R46 : List Own), ∃ (Φ47 : PW), Stable Φ47 ∧ Ctx W w44 (R46 ++ R42) Φ47 ∧ ∀ (b :
  Nat) (w48 : World) (R49 : List Own), Ctx W w48 (R46 ++ R49) Φ47 → ((!decide (s45 = ByteArray.mk #[]) && decide (0 < (↑k29 : Int))) = true → I64 ((↑k29 : Int) - 1)) ∧ ((!decide (s45 =
  ByteArray.mk #[]) && decide (0 < (↑k29 : Int))) = true → 0 ≤ (↑k29 : Int) - 1 ∧ (↑k29 : Int) - 1 < (↑k29 : Int)) ∧ ptrK (some (!decide (s45 = ByteArray.mk #[]) && decide (0 < (↑k29 :
  Int)))) p28 fun (k50 k51 : Nat) => ∃ (s52 : ByteArray), ((!decide (s45 = ByteArray.mk #[]) && decide (0 < (↑k29 : Int))) = true → w48.cell? (Addr.mk k50 (k51 + ((↑k29 : Int) - 1).toNat * 2)
  none) = some (Value.string s52)) ∧ ∃ (c53 : Bool), ((!decide (s45 = ByteArray.mk #[]) && decide (0 < (↑k29 : Int))) = true → ∀ (w54 : World), Sem.run Tryz.prog (binOp BinOp.geq 9
  (Value.string s52) (Value.string s38)) w54 = Result.ok (Value.bool c53) w54) ∧ Br (decide (s45 = ByteArray.mk #[]) || decide (0 < (↑k29 : Int)) && c53) (∀ (w55 : World) (R56 : List Own),
  Ctx W w55 (R46 ++ R56) Φ47 → J (Value.tuple #[Value.pointer none, Value.bool false]) w55) (∀ (k57 : Nat) (w58 : World) (R59 : List Own), Ctx W w58 (Own.blk k57 [Value.string s38,
  Value.string s45] 69 :: R46 ++ R59) Φ47 → ∃ (p60 : Option Addr), ∃ (k61 : Nat), ∃ (k62 : Nat), ∃ (w63 : World), Sem.run Tryz.prog (builtin Builtin.append #[74, 74] 74 #[false, false]
  #[Value.slice p28 k29 k30, Value.slice (some (Addr.mk k57 0 none)) 1 1]) w58 = Result.ok (Next.value (Value.slice p60 k61 k62)) w63 ∧ ∃ (R64 : List Own), ∃ (Φ65 : PW), Stable Φ65 ∧ Ctx W
  w63 (R64 ++ R59) Φ65 ∧ ∃ (R66 : List Own), ∃ (Φ67 : PW), ∃ (k68 : Nat), Stable Φ67 ∧ (∀ (w69 : World) (R70 : List Own), Ctx W w69 (R64 ++ R70) Φ65 → Ctx W w69 (R66 ++ R70) Φ67) ∧ I22 p60
  k61 k62 R66 Φ67 k68 ∧ k68 < k33)) (∀ (w71 : World) (R72 : List Own), Ctx W w71 (R31 ++ R72) I32 → Calls Tryz.prog F.wire_Reader_Done #[Value.pointer p4] w71 fun (e73 : Ending) (w74 : World)
  => ∃ (c75 : Bool), e73 = Ending.returned (Value.bool c75) ∧ ∃ (R76 : List Own), ∃ (Φ77 : PW), Stable Φ77 ∧ Ctx W w74 (R76 ++ R72) Φ77 ∧ Br (!c75) (∀ (w78 : World) (R79 : List Own), Ctx W
  w78 (R76 ++ R79) Φ77 → J (Value.tuple #[Value.pointer none, Value.bool false]) w78) (∀ (w80 : World) (R81 : List Own), Ctx W w80 (R76 ++ R81) Φ77 → ∃ (n82 : Int), w80.cell? (Addr.mk k14 2
  none) = some (Value.int IntKind.i64 n82) ∧ Br (decide (n82 < 0)) (∀ (w83 : World) (R84 : List Own), Ctx W w83 (R76 ++ R84) Φ77 → J (Value.tuple #[Value.pointer none, Value.bool false]) w83)
  (∀ (w85 : World) (R86 : List Own), Ctx W w85 (R76 ++ R86) Φ77 → ∃ (n87 : Int), w85.cell? (Addr.mk k14 2 none) = some (Value.int IntKind.i64 n87) ∧ Br (decide (1099511627776 < n87)) (∀ (w88
  : World) (R89 : List Own), Ctx W w88 (R76 ++ R89) Φ77 → J (Value.tuple #[Value.pointer none, Value.bool false]) w88) (∀ (w90 : World) (R91 : List Own), Ctx W w90 (R76 ++ R91) Φ77 → ∃ (n92 :
  Int), w90.cell? (Addr.mk k14 2 none) = some (Value.int IntKind.i64 n92) ∧ ∀ (w93 : World) (R94 : List Own), Ctx W w93 (R76 ++ R94) Φ77 → CanWrite w93 k14 4 1 ∧ ∀ (w95 : World), w95 =
  w93.setCell (Addr.mk k14 4 none) (Value.int IntKind.i64 n92) → ∃ (R96 : List Own), ∃ (Φ97 : PW), Stable Φ97 ∧ Ctx W w95 (R96 ++ R94) Φ97 ∧ ∀ (w98 : World) (R99 : List Own), Ctx W w98 (R96
  ++ R99) Φ97 → Calls Tryz.prog F.store_Store_add #[Value.pointer (some (Addr.mk k14 0 none)), Value.int IntKind.i64 1, Value.slice p28 k29 k30] w98 fun (e100 : Ending) (w101 : World) => e100
  = Ending.returned (Value.tuple #[]) ∧ ∃ (R102 : List Own), ∃ (Φ103 : PW), Stable Φ103 ∧ Ctx W w101 (R102 ++ R99) Φ103 ∧ ∀ (w104 : World) (R105 : List Own), Ctx W w104 (R102 ++ R105) Φ103 →
  J (Value.tuple #[Value.pointer (some (Addr.mk k14 0 none)), Value.bool true]) w104))))

theorem Bstore_Restore_run (x : ByteArray) {W w : World} {R : List Own} {Φ : PW} [Stable Φ] {J : Value → World → Prop} (c : Ctx W w R Φ) (h : Bstore_Restore x W R Φ J) : Calls Tryz.prog F.store_Restore #[.string x] w fun e w' => ∃ v, e = .returned v ∧ J v w' :=
  vcFS_sound (H := { keep := some [0, 2, 3, 4, 5, 6, 7, 8, 20, 45, 66], track := [8], split := [10], loops := [(5, [(6, .one (.slice))], [])] }) (by rw [show vcFS Tryz.prog W { keep := some [0, 2, 3, 4, 5, 6, 7, 8, 20, 45, 66], track := [8], split := [10], loops := [(5, [(6, .one (.slice))], [])] } F.store_Restore #[.string x] R Φ J = Bstore_Restore x W R Φ J by kernel_rfl]; exact h) c

/-- (*store.Store).Snapshot -/
-- loop at region 5: 21 ; blocks 
-- known blocks: 6 p
def Bstore_Store_Snapshot (sB sO : Nat) (W : World) (R : List Own) (Φ : PW) (J : Value → World → Prop) : Prop :=
  ∀ (w0 : World) (R1 : List Own), Ctx W w0 (R ++ R1) Φ → Calls Tryz.prog F.store_Store_Scan #[Value.pointer (some (Addr.mk sB sO none)), Value.string (ByteArray.mk #[])] w0 fun (e2 : Ending)
  (w3 : World) => ∃ (p4 : Option Addr), ∃ (k5 : Nat), ∃ (k6 : Nat), e2 = Ending.returned (Value.slice p4 k5 k6) ∧ ∃ (R7 : List Own), ∃ (Φ8 : PW), Stable Φ8 ∧ Ctx W w3 (R7 ++ R1) Φ8 ∧ ∀ (k9 :
  Nat) (w10 : World) (R11 : List Own), Ctx W w10 (Own.blk k9 [Value.pointer none, Value.slice none 0 0] 89 :: R7 ++ R11) Φ8 → ∃ (n12 : Int), w10.cell? (Addr.mk sB (sO + 2) none) = some
  (Value.int IntKind.i64 n12) ∧ ∀ (w13 : World) (R14 : List Own), Ctx W w13 (Own.blk k9 [Value.pointer none, Value.slice none 0 0] 89 :: R7 ++ R14) Φ8 → Calls Tryz.prog F.wire_Int #[Value.int
  IntKind.i64 n12] w13 fun (e15 : Ending) (w16 : World) => ∃ (s17 : ByteArray), e15 = Ending.returned (Value.string s17) ∧ ∃ (R18 : List Own), ∃ (Φ19 : PW), Stable Φ19 ∧ Ctx W w16 (R18 ++
  R14) Φ19 ∧ ∀ (w20 : World) (R21 : List Own), Ctx W w20 (R18 ++ R21) Φ19 → Calls Tryz.prog F.wire_Num #[Value.int IntKind.i64 (↑k5 : Int)] w20 fun (e22 : Ending) (w23 : World) => ∃ (s24 :
  ByteArray), e22 = Ending.returned (Value.string s24) ∧ ∃ (R25 : List Own), ∃ (Φ26 : PW), Stable Φ26 ∧ Ctx W w23 (R25 ++ R21) Φ26 ∧ (s17.size + s24.size).le 9223372036854775807 ∧ ∀ (w27 :
  World) (R28 : List Own), Ctx W w27 (R25 ++ R28) Φ26 → Calls Tryz.prog F.strings_Builder_WriteString #[Value.pointer (some (Addr.mk k9 0 none)), Value.string (s17 ++ s24)] w27 fun (e29 :
  Ending) (w30 : World) => ∃ (n31 : Int), ∃ (v32 : Value), e29 = Ending.returned (Value.tuple #[Value.int IntKind.i64 n31, v32]) ∧ ∃ (R33 : List Own), ∃ (Φ34 : PW), Stable Φ34 ∧ Ctx W w30
  (R33 ++ R28) Φ34 ∧ exI fun (I35 : Int → List Own → PW → Nat → Prop) => (∃ (R36 : List Own), ∃ (Φ37 : PW), ∃ (k38 : Nat), Stable Φ37 ∧ (∀ (w39 : World) (R40 : List Own), Ctx W w39 (R33 ++
  R40) Φ34 → Ctx W w39 (R36 ++ R40) Φ37) ∧ I35 0 R36 Φ37 k38) ∧ ∀ (n41 : Int) (R42 : List Own) (I43 : List Nat → World → Prop) (k44 : Nat), Stable I43 → I35 n41 R42 I43 k44 → Br (decide (n41
  < (↑k5 : Int))) ((0 ≤ n41 ∧ n41 < (↑k5 : Int)) ∧ ptrK none p4 fun (k45 k46 : Nat) => ∀ (w47 : World) (R48 : List Own), Ctx W w47 (R42 ++ R48) I43 → ∃ (s49 : ByteArray), ∃ (s50 : ByteArray),
  RowAt w47 k45 (k46 + n41.toNat * 2) [Value.string s49, Value.string s50] ∧ ∀ (b : Nat), ∃ (R51 : List Own), ∃ (Φ52 : PW), Stable Φ52 ∧ (∀ (w53 : World) (R54 : List Own), Ctx W w53 (R42 ++
  R54) I43 → Ctx W w53 (R51 ++ R54) Φ52) ∧ ∀ (w55 : World) (R56 : List Own), Ctx W w55 (R42 ++ R56) I43 → Calls Tryz.prog F.wire_Text #[Value.string s49] w55 fun (e57 : Ending) (w58 : World)
  => ∃ (s59 : ByteArray), e57 = Ending.returned (Value.string s59) ∧ ∃ (R60 : List Own), ∃ (Φ61 : PW), Stable Φ61 ∧ Ctx W w58 (R60 ++ R56) Φ61 ∧ (∀ (w62 : World) (R63 : List Own), Ctx W w62
  (R60 ++ R63) Φ61 → Ctx W w62 (R51 ++ R63) Φ52) ∧ ∀ (w64 : World) (R65 : List Own), Ctx W w64 (R60 ++ R65) Φ61 → Calls Tryz.prog F.wire_Text #[Value.string s50] w64 fun (e66 : Ending) (w67 :
  World) => ∃ (s68 : ByteArray), e66 = Ending.returned (Value.string s68) ∧ ∃ (R69 : List Own), ∃ (Φ70 : PW), Stable Φ70 ∧ Ctx W w67 (R69 ++ R65) Φ70 ∧ (s59.size + s68.size).le
  9223372036854775807 ∧ ∀ (w71 : World) (R72 : List Own), Ctx W w71 (R69 ++ R72) Φ70 → Calls Tryz.prog F.strings_Builder_WriteString #[Value.pointer (some (Addr.mk k9 0 none)), Value.string
  (s59 ++ s68)] w71 fun (e73 : Ending) (w74 : World) => ∃ (n75 : Int), ∃ (v76 : Value), e73 = Ending.returned (Value.tuple #[Value.int IntKind.i64 n75, v76]) ∧ ∃ (R77 : List Own), ∃ (Φ78 :
  PW), Stable Φ78 ∧ Ctx W w74 (R77 ++ R72) Φ78 ∧ I64 (n41 + 1) ∧ ∃ (R79 : List Own), ∃ (Φ80 : PW), ∃ (k81 : Nat), Stable Φ80 ∧ (∀ (w82 : World) (R83 : List Own), Ctx W w82 (R77 ++ R83) Φ78 →
  Ctx W w82 (R79 ++ R83) Φ80) ∧ I35 (n41 + 1) R79 Φ80 k81 ∧ k81 < k44) (∀ (w84 : World) (R85 : List Own), Ctx W w84 (R42 ++ R85) I43 → Calls Tryz.prog F.strings_Builder_String #[Value.pointer
  (some (Addr.mk k9 0 none))] w84 fun (e86 : Ending) (w87 : World) => ∃ (s88 : ByteArray), e86 = Ending.returned (Value.string s88) ∧ ∃ (R89 : List Own), ∃ (Φ90 : PW), Stable Φ90 ∧ Ctx W w87
  (R89 ++ R85) Φ90 ∧ ∀ (w91 : World) (R92 : List Own), Ctx W w91 (R89 ++ R92) Φ90 → J (Value.string s88) w91)

theorem Bstore_Store_Snapshot_run (sB sO : Nat) {W w : World} {R : List Own} {Φ : PW} [Stable Φ] {J : Value → World → Prop} (c : Ctx W w R Φ) (h : Bstore_Store_Snapshot sB sO W R Φ J) : Calls Tryz.prog F.store_Store_Snapshot #[.pointer (some ⟨sB, sO, none⟩)] w fun e w' => ∃ v, e = .returned v ∧ J v w' :=
  vcFS_sound (H := { keep := some [0, 2, 3, 4, 6, 19, 20, 21, 22], track := [6], stages := [(7, [.held [(0, true), (3, true), (1, true), (4, true), (2, false)], .stage [] (some 5), .stage [6] (some 7)])], loops := [(5, [(21, .one (.int .i64))], [])] }) (by rw [show vcFS Tryz.prog W { keep := some [0, 2, 3, 4, 6, 19, 20, 21, 22], track := [6], stages := [(7, [.held [(0, true), (3, true), (1, true), (4, true), (2, false)], .stage [] (some 5), .stage [6] (some 7)])], loops := [(5, [(21, .one (.int .i64))], [])] } F.store_Store_Snapshot #[.pointer (some ⟨sB, sO, none⟩)] R Φ J = Bstore_Store_Snapshot sB sO W R Φ J by kernel_rfl]; exact h) c

/-- erratalaw29.do -/
-- known blocks: 3 x
def Berratalaw29_do (sB sO : Nat) (x0 : Int) (x1 : Int) (x2 : ByteArray) (x3 : ByteArray) (W : World) (R : List Own) (Φ : PW) (J : Value → World → Prop) : Prop :=
  ∀ (b : Nat), ∃ (n0 : Int), (∀ (w1 : World), Sem.run Tryz.prog (binOp BinOp.and 3 (Value.int IntKind.i64 x0) (Value.int IntKind.i64 7)) w1 = Result.ok (Value.int IntKind.i64 n0) w1) ∧ Br
  (decide (n0 = 5)) (∀ (w2 : World) (R3 : List Own), Ctx W w2 (R ++ R3) Φ → Calls Tryz.prog F.store_Store_Trim #[Value.pointer (some (Addr.mk sB sO none)), Value.int IntKind.i64 x1] w2 fun
  (e4 : Ending) (w5 : World) => e4 = Ending.returned (Value.tuple #[]) ∧ ∃ (R6 : List Own), ∃ (Φ7 : PW), Stable Φ7 ∧ Ctx W w5 (R6 ++ R3) Φ7 ∧ ∀ (w8 : World) (R9 : List Own), Ctx W w8 (R6 ++
  R9) Φ7 → J (Value.tuple #[Value.pointer (some (Addr.mk sB sO none)), Value.int IntKind.i64 0]) w8) (Br (decide (n0 = 6)) (∀ (w10 : World) (R11 : List Own), Ctx W w10 (R ++ R11) Φ → Calls
  Tryz.prog F.store_Store_Apply #[Value.pointer (some (Addr.mk sB sO none)), Value.agg #[Value.int IntKind.i64 x1, Value.string x2, Value.string x3]] w10 fun (e12 : Ending) (w13 : World) => ∃
  (n14 : Int), e12 = Ending.returned (Value.int IntKind.i64 n14) ∧ ∃ (R15 : List Own), ∃ (Φ16 : PW), Stable Φ16 ∧ Ctx W w13 (R15 ++ R11) Φ16 ∧ ∀ (w17 : World) (R18 : List Own), Ctx W w17 (R15
  ++ R18) Φ16 → J (Value.tuple #[Value.pointer (some (Addr.mk sB sO none)), Value.int IntKind.i64 n14]) w17) (Br (decide (n0 = 7)) (∃ (n19 : Int), (∀ (w20 : World), Sem.run Tryz.prog (binOp
  BinOp.and 3 (Value.int IntKind.i64 x1) (Value.int IntKind.i64 1)) w20 = Result.ok (Value.int IntKind.i64 n19) w20) ∧ Br (decide (n19 = 0)) (∀ (w21 : World) (R22 : List Own), Ctx W w21 (R ++
  R22) Φ → Calls Tryz.prog F.store_Store_Copy #[Value.pointer (some (Addr.mk sB sO none))] w21 fun (e23 : Ending) (w24 : World) => ∃ (p25 : Option Addr), e23 = Ending.returned (Value.pointer
  p25) ∧ ∃ (R26 : List Own), ∃ (Φ27 : PW), Stable Φ27 ∧ Ctx W w24 (R26 ++ R22) Φ27 ∧ ∀ (w28 : World) (R29 : List Own), Ctx W w28 (R26 ++ R29) Φ27 → J (Value.tuple #[Value.pointer p25,
  Value.int IntKind.i64 0]) w28) (∀ (w30 : World) (R31 : List Own), Ctx W w30 (R ++ R31) Φ → Calls Tryz.prog F.store_Store_Snapshot #[Value.pointer (some (Addr.mk sB sO none))] w30 fun (e32 :
  Ending) (w33 : World) => ∃ (s34 : ByteArray), e32 = Ending.returned (Value.string s34) ∧ ∃ (R35 : List Own), ∃ (Φ36 : PW), Stable Φ36 ∧ Ctx W w33 (R35 ++ R31) Φ36 ∧ ∀ (w37 : World) (R38 :
  List Own), Ctx W w37 (R35 ++ R38) Φ36 → Calls Tryz.prog F.store_Restore #[Value.string s34] w37 fun (e39 : Ending) (w40 : World) => ∃ (p41 : Option Addr), ∃ (c42 : Bool), e39 =
  Ending.returned (Value.tuple #[Value.pointer p41, Value.bool c42]) ∧ ∃ (R43 : List Own), ∃ (Φ44 : PW), Stable Φ44 ∧ Ctx W w40 (R43 ++ R38) Φ44 ∧ Br (!c42) (∀ (w45 : World) (R46 : List Own),
  Ctx W w45 (R43 ++ R46) Φ44 → J (Value.tuple #[Value.pointer none, Value.int IntKind.i64 0]) w45) (∀ (w47 : World) (R48 : List Own), Ctx W w47 (R43 ++ R48) Φ44 → J (Value.tuple
  #[Value.pointer p41, Value.int IntKind.i64 0]) w47))) (∀ (w49 : World) (R50 : List Own), Ctx W w49 (R ++ R50) Φ → Calls Tryz.prog F.store_Store_Put #[Value.pointer (some (Addr.mk sB sO
  none)), Value.string x2, Value.string x3] w49 fun (e51 : Ending) (w52 : World) => e51 = Ending.returned (Value.tuple #[]) ∧ ∃ (R53 : List Own), ∃ (Φ54 : PW), Stable Φ54 ∧ Ctx W w52 (R53 ++
  R50) Φ54 ∧ ∀ (w55 : World) (R56 : List Own), Ctx W w55 (R53 ++ R56) Φ54 → J (Value.tuple #[Value.pointer (some (Addr.mk sB sO none)), Value.int IntKind.i64 0]) w55)))

theorem Berratalaw29_do_run (sB sO : Nat) (x0 : Int) (x1 : Int) (x2 : ByteArray) (x3 : ByteArray) {W w : World} {R : List Own} {Φ : PW} [Stable Φ] {J : Value → World → Prop} (c : Ctx W w R Φ) (h : Berratalaw29_do sB sO x0 x1 x2 x3 W R Φ J) : Calls Tryz.prog F.erratalaw29_do #[.pointer (some ⟨sB, sO, none⟩), .agg #[.int .i64 x0, .int .i64 x1, .string x2, .string x3]] w fun e w' => ∃ v, e = .returned v ∧ J v w' :=
  vcFS_sound (H := { keep := some [0, 3, 4, 5, 6, 7, 10, 17, 23, 35, 40, 50], track := [3] }) (by rw [show vcFS Tryz.prog W { keep := some [0, 3, 4, 5, 6, 7, 10, 17, 23, 35, 40, 50], track := [3] } F.erratalaw29_do #[.pointer (some ⟨sB, sO, none⟩), .agg #[.int .i64 x0, .int .i64 x1, .string x2, .string x3]] R Φ J = Berratalaw29_do sB sO x0 x1 x2 x3 W R Φ J by kernel_rfl]; exact h) c

/-- erratalaw29.latest -/
-- loop at region 2: 7 i; blocks 
def Berratalaw29_latest (keysP : Option Addr) (keysN keysC : Nat) (valuesP : Option Addr) (valuesN valuesC : Nat) (key : ByteArray) (W : World) (R : List Own) (Φ : PW) (J : Value → World → Prop) : Prop :=
  I64 ((↑keysN : Int) - 1) ∧ exI fun (I0 : Int → List Own → PW → Nat → Prop) => (∃ (R1 : List Own), ∃ (Φ2 : PW), ∃ (k3 : Nat), Stable Φ2 ∧ (∀ (w4 : World) (R5 : List Own), Ctx W w4 (R ++ R5)
  Φ → Ctx W w4 (R1 ++ R5) Φ2) ∧ I0 ((↑keysN : Int) - 1) R1 Φ2 k3) ∧ ∀ (n6 : Int) (R7 : List Own) (I8 : List Nat → World → Prop) (k9 : Nat), Stable I8 → I0 n6 R7 I8 k9 → Br (decide (0 ≤ n6))
  ((0 ≤ n6 ∧ n6 < (↑keysN : Int)) ∧ ptrK none keysP fun (k10 k11 : Nat) => ∀ (w12 : World) (R13 : List Own), Ctx W w12 (R7 ++ R13) I8 → ∃ (s14 : ByteArray), w12.cell? (Addr.mk k10 (k11 +
  n6.toNat) none) = some (Value.string s14) ∧ Br (decide (s14 = key)) ((0 ≤ n6 ∧ n6 < (↑valuesN : Int)) ∧ ptrK none valuesP fun (k15 k16 : Nat) => ∀ (w17 : World) (R18 : List Own), Ctx W w17
  (R7 ++ R18) I8 → ∃ (s19 : ByteArray), w17.cell? (Addr.mk k15 (k16 + n6.toNat) none) = some (Value.string s19) ∧ ∀ (w20 : World) (R21 : List Own), Ctx W w20 (R7 ++ R21) I8 → J (Value.string
  s19) w20) (I64 (n6 - 1) ∧ ∃ (R22 : List Own), ∃ (Φ23 : PW), ∃ (k24 : Nat), Stable Φ23 ∧ (∀ (w25 : World) (R26 : List Own), Ctx W w25 (R7 ++ R26) I8 → Ctx W w25 (R22 ++ R26) Φ23) ∧ I0 (n6 -
  1) R22 Φ23 k24 ∧ k24 < k9)) (∀ (w27 : World) (R28 : List Own), Ctx W w27 (R7 ++ R28) I8 → J (Value.string (ByteArray.mk #[])) w27)

theorem Berratalaw29_latest_run (keysP : Option Addr) (keysN keysC : Nat) (valuesP : Option Addr) (valuesN valuesC : Nat) (key : ByteArray) {W w : World} {R : List Own} {Φ : PW} [Stable Φ] {J : Value → World → Prop} (c : Ctx W w R Φ) (h : Berratalaw29_latest keysP keysN keysC valuesP valuesN valuesC key W R Φ J) : Calls Tryz.prog F.erratalaw29_latest #[.slice keysP keysN keysC, .slice valuesP valuesN valuesC, .string key] w fun e w' => ∃ v, e = .returned v ∧ J v w' :=
  vcFS_sound (H := { keep := some [0, 1, 2, 6, 7, 12, 20], loops := [(2, [(7, .one (.int .i64))], [])] }) (by rw [show vcFS Tryz.prog W { keep := some [0, 1, 2, 6, 7, 12, 20], loops := [(2, [(7, .one (.int .i64))], [])] } F.erratalaw29_latest #[.slice keysP keysN keysC, .slice valuesP valuesN valuesC, .string key] R Φ J = Berratalaw29_latest keysP keysN keysC valuesP valuesN valuesC key W R Φ J by kernel_rfl]; exact h) c

/-- erratalaw29.digits -/
def Berratalaw29_digits (n : Int) (W : World) (R : List Own) (Φ : PW) (J : Value → World → Prop) : Prop :=
  ((10 : Int) = 0 → False) ∧ I64 (n.tdiv 10) ∧ ((10 : Int) = 0 → False) ∧ I64 (48 + (n.tdiv 10).tmod 10) ∧ ((10 : Int) = 0 → False) ∧ I64 (48 + n.tmod 10) ∧ ∀ (k0 : Nat) (w1 : World) (R2 :
  List Own), Ctx W w1 (Own.blk k0 [Value.int IntKind.u8 (IntKind.u8.wrap (48 + (n.tdiv 10).tmod 10)), Value.int IntKind.u8 (IntKind.u8.wrap (48 + n.tmod 10))] 5 :: R ++ R2) Φ → ∃ (s3 :
  ByteArray), ∃ (w4 : World), Sem.run Tryz.prog (convert 87 9 (Value.slice (some (Addr.mk k0 0 none)) 2 2)) w1 = Result.ok (Value.string s3) w4 ∧ ∃ (R5 : List Own), ∃ (Φ6 : PW), Stable Φ6 ∧
  Ctx W w4 (R5 ++ R2) Φ6 ∧ ∀ (w7 : World) (R8 : List Own), Ctx W w7 (R5 ++ R8) Φ6 → J (Value.string s3) w7

theorem Berratalaw29_digits_run (n : Int) {W w : World} {R : List Own} {Φ : PW} [Stable Φ] {J : Value → World → Prop} (c : Ctx W w R Φ) (h : Berratalaw29_digits n W R Φ J) : Calls Tryz.prog F.erratalaw29_digits #[.int .i64 n] w fun e w' => ∃ v, e = .returned v ∧ J v w' :=
  vcFS_sound (H := { keep := some [0, 2] }) (by rw [show vcFS Tryz.prog W { keep := some [0, 2] } F.erratalaw29_digits #[.int .i64 n] R Φ J = Berratalaw29_digits n W R Φ J by kernel_rfl]; exact h) c

end Go.Proofs.YtebnciehcnedjaaGreatDoor
end

/-
  Snapshot, walked.
-/
section
set_option linter.unusedVariables false
set_option linter.unusedSimpArgs false
namespace Go.Proofs.YtebnciehcnedjaaGreatDoor
open Go.Vc


def pairL (x : PairD) : List UInt8 := (textB x.key ++ textB x.val).data.toList
def pairsL (l : Run) : List UInt8 := l.flatMap pairL
def headL (seq : Int) (n : Nat) : List UInt8 := (intB seq ++ natB n).data.toList
def snapL (seq : Int) (l : Run) : List UInt8 := headL seq l.length ++ pairsL l
def snapB (s : StD) : ByteArray := ⟨(snapL s.seq (scanS s tE)).toArray⟩
abbrev Fit1 (l : Run) : Prop := ∀ x ∈ l, x.key.size ≤ 1000 ∧ x.val.size ≤ 1000

theorem pairsL_app (a b : Run) : pairsL (a ++ b) = pairsL a ++ pairsL b := List.flatMap_append
theorem pairsL_one (x : PairD) : pairsL [x] = pairL x := by simp [pairsL]
theorem pairL_len {x : PairD} (h : x.key.size ≤ 1000 ∧ x.val.size ≤ 1000) : (pairL x).length ≤ 2044 := by
  have h1 := textB_size (s := x.key) (by omega)
  have h2 := textB_size (s := x.val) (by omega)
  unfold pairL
  rw [list_size, size_app]
  omega
theorem pairsL_len : ∀ {l : Run}, Fit1 l → (pairsL l).length ≤ l.length * 2044
  | [], _ => by simp [pairsL]
  | x :: l, h => by
    have h1 := pairL_len (h x (by simp))
    have h2 := pairsL_len (l := l) fun y hy => h y (by simp [hy])
    rw [show x :: l = [x] ++ l from rfl, pairsL_app, pairsL_one, List.length_append, List.length_append]
    simp only [List.length_cons, List.length_nil]
    omega
theorem pairsL_pre {l : Run} (h : Fit1 l) (hl : l.length ≤ 1000000) (i : Nat) : (pairsL (l.take i)).length ≤ 2044000000 := by
  have h1 := pairsL_len (l := l.take i) fun y hy => h y (List.mem_of_mem_take hy)
  rw [List.length_take] at h1
  omega
theorem headL_len {seq : Int} (h : I64 seq) {n : Nat} (hn : n ≤ 1000000) : (headL seq n).length ≤ 42 := by
  have h1 := intB_size h
  have h2 := natB_size (n := n) (by unfold I64; omega)
  unfold headL
  rw [list_size, size_app]
  omega

section
variable {Φ : PW} {q : TO} {s : StD}
set_option maxHeartbeats 1000000 in
theorem Snapshot_in [Stable Φ] [hΦ : Has Φ (StR q s)] (hT : ∀ M w, Φ M w → TabI M w) (hC : StC q s) (hn : s.levels.length ≤ 900000) (hl : s.levels.flatten.length ≤ 900000) (hv : (verP s).length ≤ 1000000) (hz : Fit1 (verP s)) (hs : I64 s.seq) :
    GivesIn Φ Tryz.prog F.store_Store_Snapshot #[.pointer (some ⟨q.sb, 0, none⟩)] (.string (snapB s)) := by
  have hz1 : Szs (verP s) := fun x hx => by have := hz x hx; unfold maxLen; omega
  obtain ⟨l, hL⟩ : ∃ l, scanS s tE = l := ⟨_, rfl⟩
  have hsub : l.length ≤ (verP s).length ∧ Fit1 l := by
    have h1 : (scanS s tE).length ≤ (verP s).length := Nat.le_trans (List.length_filter_le _ _) (Nat.le_trans (List.length_filter_le _ _) (normK_len _))
    rw [hL] at h1
    refine ⟨h1, fun x hx => hz x ?_⟩
    rw [← hL] at hx
    exact normK_mem x (List.mem_filter.1 (List.mem_filter.1 hx).1).1
  have hll : l.length ≤ 1000000 := by omega
  have hpre := pairsL_pre hsub.2 hll
  have hhd := headL_len hs hll
  refine gives_in (Bstore_Store_Snapshot_run q.sb 0) fun W R => fun w G cx => ?_
  refine (Scan_sl (pre := tE) hC hn hl (by omega) hz1 (by show 0 ≤ _; omega)).use cx fun p c w g1 g2 cx => ?_
  have hth := cx.phi.2.there
  rw [hL] at cx hth ⊢
  have st : Stable (fun M w => Φ M w ∧ Sl M w p l) := instStableAnd Φ (fun M w => Sl M w p l)
  obtain ⟨Φ1, hΦ1⟩ : ∃ Φ1 : PW, Φ1 = (fun M w => Φ M w ∧ Sl M w p l) := ⟨_, rfl⟩
  rw [← hΦ1] at cx st
  have r1 : ∀ M w, Φ1 M w → Φ M w := fun M w h => by rw [hΦ1] at h; exact h.1
  have r2 : ∀ M w, Φ1 M w → Sl M w p l := fun M w h => by rw [hΦ1] at h; exact h.2
  have hT1 : ∀ M w, Φ1 M w → TabI M w := fun M w h => hT M w (r1 M w h)
  refine ⟨p, _, c, rfl, R, Φ1, st, cx, fun b w G cx => ⟨s.seq, (hΦ.go _ _ (r1 _ _ cx.phi)).1.2.1 2 (by show 2 < 5; decide), fun w G cx => ?_⟩⟩
  have hi1 := intB_size hs
  have hn1 := natB_size (n := l.length) (by unfold I64; omega)
  refine (Int_in (.inl ⟨hT1, hs⟩)).use cx fun w cx => ⟨_, rfl, .blk b [.pointer none, .slice none 0 0] 89 :: R, Φ1, st, cx, fun w G cx => ?_⟩
  refine (Num_in (.inl ⟨hT1, by unfold I64; omega⟩)).use cx fun w cx => ⟨_, rfl, .blk b [.pointer none, .slice none 0 0] 89 :: R, Φ1, st, cx, by show (intB s.seq).size + (natB l.length).size ≤ _; omega, fun w G cx => ?_⟩
  refine WriteString_use (intB s.seq ++ natB l.length) Bd.nil (Bd.fresh cx) (by rw [size_app]; simp only [List.length_nil]; omega) fun R1 w hB cx => ⟨_, _, rfl, R1 ++ R, Φ1, st, by rw [List.append_assoc]; exact cx, ?_⟩
  rw [List.nil_append] at hB
  clear cx
  refine exI_mk (fun iI R' Φ' k => ∃ (i : Nat) (Q : List Own), iI = i ∧ i ≤ l.length ∧ BdT b (headL s.seq l.length ++ pairsL (l.take i)) Q ∧ R' = Q ++ R ∧ Φ' = Φ1 ∧ k = l.length - i) ⟨⟨_, Φ1, _, st, fun w G cx => cx, 0, R1, rfl, Nat.zero_le _, by rw [List.take_zero, show pairsL [] = [] from rfl, List.append_nil]; exact hB, rfl, rfl, rfl⟩, ?_⟩
  rintro iI R2 Φ2 k _ ⟨i, Q, rfl, hi, hQ, rfl, rfl, rfl⟩
  refine Br.intro (fun hlt => ?_) (fun hge => fun w G cx => ?_)
  · have hlt : i < l.length := by have := of_decide_eq_true hlt; omega
    obtain ⟨g, o, rfl⟩ := hth (by omega)
    have hx := hsub.2 _ (List.getElem_mem hlt)
    have hk1 := textB_size (s := l[i].key) (by omega)
    have hk2 := textB_size (s := l[i].val) (by omega)
    have hstep : pairsL (l.take (i + 1)) = pairsL (l.take i) ++ pairL l[i] := by rw [List.take_succ_eq_append_getElem hlt, pairsL_app, pairsL_one]
    have hp1 := hpre i
    have any : ∀ {w : World} {R G : List Own} {Ψ : PW} [Stable Ψ], Ctx W w (R ++ G) Ψ → Ctx W w ([] ++ G) (fun _ _ => True) := fun cx => (Ctx.right cx).weak fun _ _ _ => trivial
    refine ⟨by omega, ptrK_intro g o rfl fun w G cx => ⟨l[i].key, l[i].val, by rw [Int.toNat_natCast]; exact sl_pair (r2 _ _ cx.phi) hlt, fun _ => ⟨[], fun _ _ => True, inferInstance, fun w G cx => any cx, fun w G cx => ?_⟩⟩⟩
    refine (Text_in (.inl ⟨hT1, by unfold I64; omega⟩) (by omega)).use cx fun w cx => ⟨_, rfl, Q ++ R, Φ2, inferInstance, cx, fun w G cx => any cx, fun w G cx => ?_⟩
    refine (Text_in (.inl ⟨hT1, by unfold I64; omega⟩) (by omega)).use cx fun w cx => ⟨_, rfl, Q ++ R, Φ2, inferInstance, cx, by show (textB l[i].key).size + (textB l[i].val).size ≤ _; omega, fun w G cx => ?_⟩
    refine WriteString_use (textB l[i].key ++ textB l[i].val) hQ (cx.re (List.append_assoc _ _ _)) (by rw [List.length_append, size_app]; omega) fun Q' w hQ' cx => ⟨_, _, rfl, Q' ++ R, Φ2, inferInstance, by rw [List.append_assoc]; exact cx, by unfold I64; omega, _, Φ2, l.length - (i + 1), inferInstance, fun w G cx => cx, ⟨i + 1, Q', by omega, hlt, ?_, rfl, rfl, rfl⟩, by omega⟩
    rw [hstep, ← List.append_assoc]; exact hQ'
  · have hge : i = l.length := by have := of_decide_eq_false hge; omega
    subst hge
    rw [List.take_length] at hQ
    exact String_use hQ (cx.re (List.append_assoc _ _ _)) fun w cx => ⟨_, rfl, R, Φ2, inferInstance, cx, fun w G cx => ⟨by unfold snapB; rw [hL]; rfl, cx.left.weak r1⟩⟩
end
end Go.Proofs.YtebnciehcnedjaaGreatDoor
end

/-
  Restore, walked.
-/
section
set_option linter.unusedVariables false
set_option linter.unusedSimpArgs false
namespace Go.Proofs.YtebnciehcnedjaaGreatDoor
open Go.Vc


theorem geq_run (a b : ByteArray) (t : TypeId) (w : World) : Sem.run Tryz.prog (binOp BinOp.geq t (.string a) (.string b)) w = .ok (.bool (decide (0 ≤ cmpT a b))) w := by
  have e : binOp .geq t (.string a) (.string b) = pure (.bool !(Op.bytesLess a.toList b.toList)) := by simp [binOp, Op.stringOp]
  rw [e, Sem.run_pure]
  have h1 : Op.bytesLess a.toList b.toList = decide (cmpT a b < 0) := bl_cmp a b
  rw [h1]
  congr 2
  by_cases h : cmpT a b < 0
  · rw [decide_eq_true h, decide_eq_false (show ¬ 0 ≤ cmpT a b by omega)]; rfl
  · rw [decide_eq_false h, decide_eq_true (show 0 ≤ cmpT a b by omega)]; rfl

abbrev keyT (st : RdS) : ByteArray := (stepT st).1
abbrev valT (st : RdS) : ByteArray := (stepT (stepT st).2).1
abbrev nextT (st : RdS) : RdS := (stepT (stepT st).2).2
def lastKey (acc : Run) : ByteArray := (acc.getLast?.map PairD.key).getD tE
def stopB (acc : Run) (st : RdS) : Bool := decide (valT st = tE) || (decide ((0 : Int) < acc.length) && decide (0 ≤ cmpT (lastKey acc) (keyT st)))
def pairsK : Nat → RdS → Run → Option (Run × RdS)
  | 0, st, acc => some (acc, st)
  | k + 1, st, acc => if stopB acc st = true then none else pairsK k (nextT st) (acc ++ [⟨keyT st, valT st⟩])
def restS (n : Int) (ps : Run) : StD := ⟨[], addAt 1 [] ps, n, [], n⟩
def restL (l : List UInt8) : Option StD :=
  match pairsK (rdNat (rdInt (l, false)).2).1.toNat (rdNat (rdInt (l, false)).2).2 [] with
  | none => none
  | some (ps, st) => if (rdDone st = true ∧ 0 ≤ (rdInt (l, false)).1) ∧ (rdInt (l, false)).1 ≤ 1099511627776 then some (restS (rdInt (l, false)).1 ps) else none

theorem stepT_eats (st : RdS) : (stepT st).1.data.toList = [] ∨ (stepT st).2.1.length + 3 + (stepT st).1.size ≤ st.1.length := by
  unfold stepT
  simp only
  split
  · exact .inl rfl
  · rename_i h
    by_cases hc : (stepC 44 ((stepN 58 0 st).2.1.drop (stepN 58 0 st).1.toNat, (stepN 58 0 st).2.2)).2 = true
    · left
      rw [if_pos hc]
    · right
      simp only
      rw [if_neg hc, bs_size, List.length_take]
      unfold stepN at hc ⊢
      split at hc
      · rename_i n r hn
        obtain ⟨⟨h1, _⟩, h2⟩ := (numP_iff (.inl rfl)).1 hn
        have := itoa_len h1
        simp only at hc ⊢
        unfold stepC at hc ⊢
        simp only at hc ⊢
        split at hc
        · exact absurd rfl hc
        · rename_i x r2 hx
          have hlen := congrArg List.length hx
          rw [List.length_drop, List.length_cons] at hlen
          split at hc
          · rename_i hxe
            rw [if_pos hxe, h2, List.length_append, List.length_cons]
            simp only; omega
          · exact absurd rfl hc
      · exfalso
        apply hc
        rfl
/-- a pair that is read -/
theorem pair_eats {acc : Run} {st : RdS} (h : stopB acc st = false) : (nextT st).1.length + 3 ≤ st.1.length ∧ (keyT st).size ≤ st.1.length ∧ (valT st).size ≤ st.1.length := by
  unfold stopB at h
  rw [Bool.or_eq_false_iff] at h
  have h1 := of_decide_eq_false h.1
  have a := stepT_len st
  have b := stepT_len (stepT st).2
  have c := stepT_eats (stepT st).2
  rcases c with c | c
  · exfalso
    apply h1
    show (stepT (stepT st).2).1 = tE
    refine ByteArray.ext ?_
    exact Array.toList_inj.1 c
  · exact ⟨by show (stepT (stepT st).2).2.1.length + 3 ≤ _; omega, by show (stepT st).1.size ≤ _; omega, by show (stepT (stepT st).2).1.size ≤ _; omega⟩
theorem lastKey_at {acc : Run} (h : 0 < acc.length) : lastKey acc = (acc[acc.length - 1]'(by omega)).key := by
  unfold lastKey
  rw [List.getLast?_eq_getElem?, List.getElem?_eq_getElem (by omega)]
  rfl
theorem idxL_at : ∀ (n : Nat) (a : Run) (i : Nat) (h : i < a.length), (idxL n a)[i]? = some ⟨a[i], n + i⟩
  | n, x :: a, 0, _ => rfl
  | n, x :: a, i + 1, h => by
    rw [idxL, List.getElem?_cons_succ, idxL_at (n + 1) a i (by simpa using h), List.getElem_cons_succ, show n + 1 + i = n + (i + 1) by omega]

set_option maxHeartbeats 4000000 in
theorem Restore_use {W w : World} {S : List Own} {Φ : PW} [Stable Φ] (hΦ : ∀ M w, Φ M w → NumI M w) (l : List UInt8) (hl : l.length ≤ 1000000) (cx : Ctx W w S Φ) {K : Ending → World → Prop}
    (h0 : ∀ w', restL l = none → Ctx W w' S Φ → K (.returned (.tuple #[.pointer none, .bool false])) w')
    (h1 : ∀ q s w', restL l = some s → StQ q s → Ctx W w' (stO q s S) (fun M w => Φ M w ∧ stF q s M w) → K (.returned (.tuple #[.pointer (some ⟨q.sb, 0, none⟩), .bool true])) w') :
    Calls Tryz.prog F.store_Restore #[.string (bs l)] w K := by
  refine (Bstore_Restore_run (bs l) (J := fun u w' => K (.returned u) w') cx ?_).mono fun e w' ⟨v, he, hj⟩ => by rw [he]; exact hj
  clear cx
  refine fun w G cx => Open_use l cx fun b w cx => ⟨_, rfl, rd b (l, false) :: S, Φ, inferInstance, cx, fun w G cx => ?_⟩
  refine RInt_to hΦ (by show l.length ≤ _; omega) cx ?_
  have hlen1 : (rdInt (l, false)).2.1.length ≤ l.length := stepN_len 59 (-9223372036854775808) (l, false)
  unfold restL at h0 h1
  have hsq := rdInt_i64 (l, false)
  obtain ⟨⟨sq, st1⟩, e1⟩ : ∃ x, rdInt (l, false) = x := ⟨_, rfl⟩
  rw [e1] at h0 h1 hlen1 hsq ⊢
  simp only at h0 h1 hlen1 hsq ⊢
  refine fun kb w G cx => ?_
  have cx1 : Ctx W w (rd b st1 :: (Own.blk kb [.slice none 0 0, .slice none 0 0, .int .i64 sq, .slice none 0 0, .int .i64 0] 77 :: S) ++ G) Φ := cx.swap
  clear cx
  refine RNum_to hΦ (by omega) cx1 ?_
  clear cx1
  have hlen2 : (rdNat st1).2.1.length ≤ st1.1.length := stepN_len 59 0 st1
  have hN : 0 ≤ (rdNat st1).1 := (stepN_nonneg (e := 59) (.inr (.inl rfl)) st1).1
  obtain ⟨⟨N, st2⟩, e2⟩ : ∃ x, rdNat st1 = x := ⟨_, rfl⟩
  rw [e2] at h0 h1 hlen2 hN ⊢
  simp only at h0 h1 hlen2 hN ⊢
  obtain ⟨B, hB⟩ : ∃ B, Own.blk kb [.slice none 0 0, .slice none 0 0, .int .i64 sq, .slice none 0 0, .int .i64 0] 77 = B := ⟨_, rfl⟩
  rw [hB]
  refine exI_mk (fun p n c R' Φ' k => ∃ (acc : Run) (st : RdS), n = acc.length ∧ pairsK (N.toNat - acc.length) st acc = pairsK N.toNat st2 [] ∧ acc.length ≤ N.toNat ∧ acc.length + st.1.length ≤ l.length ∧ (∀ x ∈ acc, x.key.size ≤ l.length ∧ x.val.size ≤ l.length) ∧ R' = rd b st :: tabO p c acc :: B :: S ∧ Φ' = Φ ∧ k = N.toNat - acc.length)
    ⟨⟨rd b st2 :: tabO none 0 [] :: B :: S, Φ, _, inferInstance, fun w G cx => (Ctx.nobuf cx 69 2).swap, [], st2, rfl, by rw [List.length_nil, Nat.sub_zero], by simp, by simp only [List.length_nil]; omega, fun x hx => (by cases hx), rfl, rfl, rfl⟩, ?_⟩
  rintro p n c R1 Φ1 k _ ⟨acc, st, rfl, hK, hle, hlen, hsz, rfl, rfl, rfl⟩
  refine Br.intro (fun hlt => fun w G cx => ?_) (fun hge => fun w G cx => ?_)
  · have hlt : acc.length < N.toNat := by have := of_decide_eq_true hlt; omega
    obtain ⟨m, hm⟩ : ∃ m, N.toNat - acc.length = m + 1 := ⟨N.toNat - acc.length - 1, by omega⟩
    rw [hm, show pairsK (m + 1) st acc = if stopB acc st = true then none else pairsK m (nextT st) (acc ++ [⟨keyT st, valT st⟩]) from rfl] at hK
    have ha := stepT_len st
    have hb := stepT_len (stepT st).2
    refine Text_to hΦ (by omega) cx fun w G cx => Text_to hΦ (by omega) cx fun b1 w G cx => ?_
    refine ⟨fun _ => by unfold I64; omega, fun hc => ?_, ?_⟩
    · have := (Bool.and_eq_true _ _).mp hc
      have := of_decide_eq_true this.2
      omega
    have hptr : ∀ (w : World) (G : List Own), Ctx W w (rd b (nextT st) :: tabO p c acc :: B :: S ++ G) Φ1 → 0 < acc.length → ∃ g, p = some ⟨g, 0, none⟩ := fun w G cx h => e_ptr cx.swap (by rw [idxL_len]; exact h)
    have body : ∀ s52 : ByteArray, (0 < acc.length → s52 = lastKey acc) → ∃ c53 : Bool, ((!decide (valT st = ByteArray.mk #[]) && decide ((0 : Int) < acc.length)) = true → ∀ w, Sem.run Tryz.prog (binOp BinOp.geq 9 (.string s52) (.string (keyT st))) w = .ok (.bool c53) w) ∧ (decide (valT st = ByteArray.mk #[]) || decide ((0 : Int) < acc.length) && c53) = stopB acc st := fun s52 hs => ⟨decide (0 ≤ cmpT s52 (keyT st)), fun _ w => geq_run _ _ _ _, by
      unfold stopB
      by_cases h : (0 : Int) < acc.length
      · rw [hs (by omega)]
      · rw [decide_eq_false h]; rfl⟩
    have tail : ∀ c0 : Bool, (c0 = stopB acc st) → c0 = true → K (.returned (.tuple #[.pointer none, .bool false])) w ∨ True := fun _ _ _ => .inr trivial
    clear tail
    have hptrK : ∀ {X : Nat → Nat → Prop}, (∀ g o, (0 < acc.length → p = some ⟨g, o, none⟩ ∧ o = 0) → X g o) → ptrK (some (!decide (valT st = ByteArray.mk #[]) && decide ((0 : Int) < acc.length))) p X := fun {X} hX => by
      by_cases h : 0 < acc.length
      · obtain ⟨g, hg⟩ := hptr _ _ cx h
        exact ptrK_intro g 0 hg (hX g 0 fun _ => ⟨hg, rfl⟩)
      · exact ptrK_off (by rw [decide_eq_false (show ¬ (0 : Int) < acc.length by omega), Bool.and_false]) fun g o => hX g o fun h2 => absurd h2 h
    refine hptrK fun g o hg => ⟨lastKey acc, fun hc => ?_, ?_⟩
    · have h3 := of_decide_eq_true ((Bool.and_eq_true _ _).mp hc).2
      obtain ⟨rfl, rfl⟩ := hg (by omega)
      have h4 := e_row cx.swap (idxL_at 0 acc (acc.length - 1) (by omega))
      rw [lastKey_at (by omega)]
      have h5 := h4 0 (by show 0 < 2; decide)
      rw [show ((acc.length : Int) - 1).toNat = acc.length - 1 by omega, Nat.zero_add]
      exact h5
    obtain ⟨c53, hc1, hc2⟩ := body (lastKey acc) fun _ => rfl
    refine ⟨c53, hc1, ?_⟩
    rw [hc2]
    clear hc1 hc2 body hptrK hg
    refine Br.intro (fun hs => fun w G cx => ?_) (fun hs => ?_)
    · rw [hs, if_pos rfl] at hK
      have cx2 : Ctx W w (S ++ G) Φ1 := cx.drop1.drop1.drop1
      exact h0 w (by rw [← hK]) cx2.left
    · rw [if_neg (by rw [hs]; simp)] at hK
      obtain ⟨h3, h4, h5⟩ := pair_eats hs
      refine fun k2 w G cx => ?_
      have hsw : (Own.blk k2 [.string (keyT st), .string (valT st)] 69 :: tabO p c acc :: (rd b (nextT st) :: (B :: S ++ G))).Perm (Own.blk k2 [.string (keyT st), .string (valT st)] 69 :: rd b (nextT st) :: tabO p c acc :: (B :: S ++ G)) := List.Perm.cons _ (List.Perm.swap _ _ _)
      have cx2 := Ctx.perm cx hsw.symm
      have hil := idxL_len 0 acc
      obtain ⟨p', cap', w', hr, _, cx3⟩ := cx2.app1 (ts := 74) (ty := 74) (kb := #[false, false]) (bytes := 32) (P := Tryz.prog) (by kernel_rfl) (by omega) rfl rfl (by omega) (by omega)
      have ea : (acc ++ [(⟨keyT st, valT st⟩ : PairD)]).length = acc.length + 1 := by rw [List.length_append]; rfl
      have eb : cellsE (idxL 0 acc) ++ [Value.string (keyT st), Value.string (valT st)] = cellsE (idxL 0 (acc ++ [(⟨keyT st, valT st⟩ : PairD)])) := by
        rw [idxL_app, cellsE_app]
        rfl
      rw [hil] at hr
      have cx4 : Ctx W w' (rd b (nextT st) :: tabO p' cap' (acc ++ [(⟨keyT st, valT st⟩ : PairD)]) :: (B :: S ++ G)) Φ1 := by
        have h6 := cx3.swap
        rw [eb, hil] at h6
        show Ctx W w' (rd b (nextT st) :: Own.buf p' (idxL 0 (acc ++ [(⟨keyT st, valT st⟩ : PairD)])).length cap' (cellsE (idxL 0 (acc ++ [(⟨keyT st, valT st⟩ : PairD)]))) _ 2 :: (B :: S ++ G)) Φ1
        rw [idxL_len, ea]
        exact h6
      refine ⟨p', _, cap', w', hr, rd b (nextT st) :: tabO p' cap' (acc ++ [(⟨keyT st, valT st⟩ : PairD)]) :: B :: S, Φ1, inferInstance, cx4, _, Φ1, N.toNat - (acc.length + 1), inferInstance, fun w G cx => cx, ⟨acc ++ [(⟨keyT st, valT st⟩ : PairD)], nextT st, by rw [ea], ?_, by rw [ea]; omega, by rw [ea]; omega, fun x hx => ?_, rfl, rfl, by rw [ea]⟩, by omega⟩
      · rw [ea, show N.toNat - (acc.length + 1) = m by omega]
        exact hK
      · rcases List.mem_append.1 hx with hx | hx
        · exact hsz x hx
        · rw [List.mem_singleton.1 hx]
          exact ⟨by show (keyT st).size ≤ _; omega, by show (valT st).size ≤ _; omega⟩
  · have hge : N.toNat - acc.length = 0 := by have := of_decide_eq_false hge; omega
    rw [hge, show pairsK 0 st acc = some (acc, st) from rfl] at hK
    rw [← hK] at h0 h1
    simp only at h0 h1
    have drop : ∀ (w : World) (G : List Own), Ctx W w (rd b st :: tabO p c acc :: B :: S ++ G) Φ1 → Ctx W w S Φ1 := fun w G cx => by
      have cx2 : Ctx W w (S ++ G) Φ1 := cx.drop1.drop1.drop1
      exact cx2.left
    refine Done_to cx ?_
    refine Br.intro (fun hd => fun w G cx => h0 w (if_neg fun h => by rw [h.1.1] at hd; cases hd) (drop w G cx)) (fun hd => fun w G cx => ⟨sq, by rw [← hB] at cx; exact cx.get 2 rfl rfl, Br.intro (fun hn => fun w G cx => h0 w (if_neg fun h => by have := of_decide_eq_true hn; omega) (drop w G cx)) (fun hn => fun w G cx => ⟨sq, by rw [← hB] at cx; exact cx.get 2 rfl rfl, Br.intro (fun hx => fun w G cx => h0 w (if_neg fun h => by have := of_decide_eq_true hx; omega) (drop w G cx)) (fun hx => fun w G cx => ⟨sq, by rw [← hB] at cx; exact cx.get 2 rfl rfl, fun w G cx => ⟨by rw [← hB] at cx; exact cx.can 2 rfl (by show 0 + 4 + 1 ≤ 5; omega), fun w' hw' => ?_⟩⟩)⟩)⟩)
    have hn := of_decide_eq_false hn
    have hx := of_decide_eq_false hx
    have hd : rdDone st = true := by cases hr : rdDone st with
      | true => rfl
      | false => rw [hr] at hd; cases hd
    rw [← hB] at cx
    have cx1 := cx.put 2 hw' rfl
    have hel : restS sq acc = ⟨[], addAt 1 [] acc, sq, [], sq⟩ := rfl
    refine ⟨rd b st :: tabO p c acc :: Own.blk kb [.slice none 0 0, .slice none 0 0, .int .i64 sq, .slice none 0 0, .int .i64 sq] 77 :: S, Φ1, inferInstance, cx1, fun w G cx => ?_⟩
    have cx2 := cx.drop1
    have hz1 : Szs acc := fun x hx => by have := hsz x hx; unfold maxLen; omega
    obtain ⟨c1, c2, c3⟩ := freezeE (S := Own.blk kb [.slice none 0 0, .slice none 0 0, .int .i64 sq, .slice none 0 0, .int .i64 sq] 77 :: S ++ G) cx2 (by rw [idxL_d]; exact hz1)
    rw [idxL_d] at c1 c2
    have st1 : Stable (fun M w => Φ1 M w ∧ Sl M w p acc) := instStableAnd Φ1 (fun M w => Sl M w p acc)
    have c4 := ((c1.nobuf 84 1).swap).weak (Ψ := fun M w => (Φ1 M w ∧ Sl M w p acc) ∧ LBE [] M w) fun M w h => ⟨h, fun x hx => by cases hx⟩
    refine add_use (Φ := fun M w => Φ1 M w ∧ Sl M w p acc) (hR := ⟨fun M w h => h.2⟩) (i := 1) (sb := kb) (tS := 77) (a := .slice none 0 0) (lp := none) (lc := 0) (c := .int .i64 sq) (d := .slice none 0 0) (e := .int .i64 sq) (bs := []) (S := S ++ G) c2 c3 (by omega) (by simp) (fun x hx => by cases hx) c4 fun lp' lc' bs' w' hb' cx5 => ?_
    have stL : Stable (fun M w => (Φ1 M w ∧ Sl M w p acc) ∧ LBE bs' M w) := instStableAnd (fun M w => Φ1 M w ∧ Sl M w p acc) (LBE bs')
    refine ⟨rfl, stA kb 77 (.slice none 0 0) lp' lc' (.int .i64 sq) (.slice none 0 0) (.int .i64 sq) bs' S, _, stL, cx5.re (by unfold stA; simp only [List.append_assoc, List.cons_append]), fun w G cx => ?_⟩
    have cx6 := (cx.left.nobuf 46 3).nobuf 69 2
    refine h1 ⟨kb, none, 0, lp', lc', bs', none, 0, []⟩ (restS sq acc) w (if_pos ⟨⟨hd, by omega⟩, by omega⟩) ⟨hb', fun x hx => by cases hx⟩ ((cx6.perm ?_).weak fun M w h => ⟨h.1.1, Elems.nil, h.2⟩)
    unfold stO stA
    show (Own.buf none 0 0 [] 69 2 :: Own.buf none 0 0 [] 46 3 :: (Own.blk kb [.slice none 0 0, .slice lp' bs'.length lc', .int .i64 sq, .slice none 0 0, .int .i64 sq] 77 :: Own.buf lp' bs'.length lc' (bs'.map LB.cell) 84 1 :: (bs'.map LB.own ++ S))).Perm (Own.blk kb [.slice none 0 0, .slice lp' bs'.length lc', .int .i64 sq, .slice none 0 0, .int .i64 sq] 77 :: Own.buf lp' bs'.length lc' (bs'.map LB.cell) 84 1 :: (bs'.map LB.own ++ (Own.buf none 0 0 [] 69 2 :: Own.buf none 0 0 [] 46 3 :: S)))
    have h := List.perm_append_comm_assoc [Own.buf none 0 0 [] 69 2, Own.buf none 0 0 [] 46 3] (Own.blk kb [.slice none 0 0, .slice lp' bs'.length lc', .int .i64 sq, .slice none 0 0, .int .i64 sq] 77 :: Own.buf lp' bs'.length lc' (bs'.map LB.cell) 84 1 :: bs'.map LB.own) S
    simp only [List.cons_append, List.nil_append, List.append_assoc] at h
    exact h
end Go.Proofs.YtebnciehcnedjaaGreatDoor
end

/-
  What was read stands in the string: the readers' results, read backwards.
-/
section
set_option linter.unusedVariables false
set_option linter.unusedSimpArgs false
namespace Go.Proofs.YtebnciehcnedjaaGreatDoor
open Go.Vc

end Go.Proofs.YtebnciehcnedjaaGreatDoor
end

/-
  Snapshots, in plain Lean: what Restore makes of them; what it accepts.
-/
section
set_option linter.unusedVariables false
set_option linter.unusedSimpArgs false
namespace Go.Proofs.YtebnciehcnedjaaGreatDoor
open Go.Vc


abbrev NeV (l : Run) : Prop := ∀ x ∈ l, x.val ≠ tE
theorem pairsK_succ (k : Nat) (st : RdS) (acc : Run) : pairsK (k + 1) st acc = if stopB acc st = true then none else pairsK k (nextT st) (acc ++ [⟨keyT st, valT st⟩]) := rfl

theorem pair_read {x : PairD} {t : List UInt8} (h : x.key.size ≤ 1000 ∧ x.val.size ≤ 1000) : keyT (pairL x ++ t, false) = x.key ∧ valT (pairL x ++ t, false) = x.val ∧ nextT (pairL x ++ t, false) = (t, false) := by
  have e : pairL x ++ t = (textB x.key).data.toList ++ ((textB x.val).data.toList ++ t) := by
    unfold pairL
    simp [ByteArray.data_append]
  have h1 := text_read (s := x.key) (r := (textB x.val).data.toList ++ t) (by omega)
  have h2 := text_read (s := x.val) (r := t) (by omega)
  unfold keyT valT nextT
  rw [e, h1]
  simp only
  rw [h2]
  exact ⟨trivial, rfl, rfl⟩
theorem asc_last {acc : Run} {x : PairD} {l : Run} (h : AscK (acc ++ x :: l)) (h0 : 0 < acc.length) : cmpT (lastKey acc) x.key < 0 := by
  rw [lastKey_at h0]
  exact (List.pairwise_append.1 h).2.2 _ (List.getElem_mem _) x (by simp)
theorem pairsK_read : ∀ (l acc : Run) (t : List UInt8), Fit1 l → NeV l → AscK (acc ++ l) → pairsK l.length (pairsL l ++ t, false) acc = some (acc ++ l, (t, false))
  | [], acc, t, _, _, _ => by rw [List.append_nil]; rfl
  | x :: l, acc, t, hf, hv, ha => by
    obtain ⟨h1, h2, h3⟩ := pair_read (t := pairsL l ++ t) (hf x (by simp))
    have e : pairsL (x :: l) ++ t = pairL x ++ (pairsL l ++ t) := by
      rw [show x :: l = [x] ++ l from rfl, pairsL_app, pairsL_one, List.append_assoc]
    have hs : stopB acc (pairL x ++ (pairsL l ++ t), false) = false := by
      unfold stopB
      rw [h1, h2, Bool.or_eq_false_iff, decide_eq_false_iff_not]
      refine ⟨hv x (by simp), ?_⟩
      by_cases h0 : 0 < acc.length
      · have := asc_last ha h0
        rw [decide_eq_false (show ¬ 0 ≤ cmpT (lastKey acc) x.key by omega), Bool.and_false]
      · rw [decide_eq_false (show ¬ (0 : Int) < acc.length by omega), Bool.false_and]
    rw [List.length_cons, e, pairsK_succ, if_neg (by rw [hs]; simp), h1, h2, h3, show (⟨x.key, x.val⟩ : PairD) = x from rfl, pairsK_read l (acc ++ [x]) t (fun y hy => hf y (by simp [hy])) (fun y hy => hv y (by simp [hy])) (by rw [List.append_assoc]; exact ha), List.append_assoc]
    rfl
theorem headL_app (seq : Int) (n : Nat) (t : List UInt8) : headL seq n ++ t = (intB seq).data.toList ++ ((natB n).data.toList ++ t) := by
  unfold headL
  simp [ByteArray.data_append]
theorem rest_snap {seq : Int} {l : Run} (h0 : 0 ≤ seq) (h1 : seq ≤ 1099511627776) (hf : Fit1 l) (hv : NeV l) (ha : AscK l) (hl : l.length ≤ 1000000) : restL (snapL seq l) = some (restS seq l) := by
  unfold restL snapL
  rw [headL_app, int_read (by unfold I64; omega)]
  simp only
  rw [nat_read (by omega)]
  simp only
  have h2 := pairsK_read l [] [] hf hv ha
  rw [List.append_nil, List.nil_append] at h2
  rw [Int.toNat_natCast, h2]
  exact if_pos ⟨⟨rfl, h0⟩, h1⟩

structure RestOk (seq : Int) (ps : Run) (l : List UInt8) : Prop where
  snap : snapL seq ps = l
  asc : AscK ps
  ne : NeV ps
  pos : 0 ≤ seq
  top : seq ≤ 1099511627776
  fit : ∀ x ∈ ps, x.key.size ≤ l.length ∧ x.val.size ≤ l.length
  len : ps.length ≤ l.length
/-! ### a restored store -/
theorem filt_true {l : Run} : (l.filter fun x => preP tE x.key) = l := by
  rw [List.filter_eq_self]
  intro x _
  unfold preP
  rw [Bool.and_eq_true, decide_eq_true_eq, decide_eq_true_eq]
  refine ⟨by show (0 : Int) ≤ _; omega, ?_⟩
  show x.key.extract 0 0 = _
  apply ByteArray.ext
  simp [ByteArray.data_extract]
theorem scan_all (s : StD) : scanS s tE = allS s := filt_true
theorem rest_ver (seq : Int) (ps : Run) : verP (restS seq ps) = ps := by
  show [] ++ allRuns (addAt 1 [] ps) = ps
  rw [addAt_nil, List.nil_append]
  unfold allRuns
  by_cases e : ps = []
  · rw [if_pos e, e]; rfl
  · rw [if_neg e]; simp
theorem rest_i {seq : Int} {ps : Run} (ha : AscK ps) : StI (restS seq ps) := by
  have e : (restS seq ps).levels = [[], if ps = [] then [] else [ps]] := addAt_nil 1 ps
  refine ⟨.nil, by show 0 < 8; decide, ?_, ?_⟩
  · rw [e]
    by_cases h : ps = []
    · rw [if_pos h]
      have no : ∀ l ∈ ([[], []] : List Lev), ∀ r ∈ l, False := fun l hl r hr => by
        simp at hl
        rw [hl] at hr
        cases hr
      exact ⟨fun l hl r hr => (no l hl r hr).elim, fun l hl r hr => (no l hl r hr).elim⟩
    · rw [if_neg h]
      refine ⟨fun l hl r hr => ?_, fun l hl r hr => ?_⟩
      · simp at hl
        rcases hl with rfl | rfl
        · cases hr
        · rw [List.mem_singleton.1 hr]; exact ha
      · simp at hl
        rcases hl with rfl | rfl
        · cases hr
        · rw [List.mem_singleton.1 hr]; exact h
  · rw [e]
    intro l hl
    simp at hl
    rcases hl with rfl | rfl
    · decide
    · split <;> simp
theorem rest_l (seq : Int) (ps : Run) : StL (restS seq ps) := ⟨Int.le_refl _, by show ((0 : Nat) : Int) = seq - seq; omega, fun j h => by cases h⟩
end Go.Proofs.YtebnciehcnedjaaGreatDoor
end

/-
  An operation of the laws, walked.
-/
section
set_option linter.unusedVariables false
set_option linter.unusedSimpArgs false
namespace Go.Proofs.YtebnciehcnedjaaGreatDoor
open Go.Vc


def andZ (a m : Int) : Int := IntKind.i64.wrap (BitVec.ofInt 64 a &&& BitVec.ofInt 64 m).toNat
theorem and_run (a m : Int) (w : World) : Sem.run Tryz.prog (binOp BinOp.and 3 (.int .i64 a) (.int .i64 m)) w = .ok (.int .i64 (andZ a m)) w := rfl

structure OpD where
  dop : Int
  n : Int
  key : ByteArray
  val : ByteArray
instance : Gv OpD := Gv.via (β := Int × Int × ByteArray × ByteArray) (fun x => (x.dop, x.n, x.key, x.val)) (fun y => ⟨y.1, y.2.1, y.2.2.1, y.2.2.2⟩) (fun _ => rfl)
abbrev OpD.cells (x : OpD) : List Value := [.int .i64 x.dop, .int .i64 x.n, .string x.key, .string x.val]
abbrev OpD.v (x : OpD) : Value := .agg #[.int .i64 x.dop, .int .i64 x.n, .string x.key, .string x.val]

/-- what an operation does -/
def stepS (s : StD) (x : OpD) : StD × Int :=
  if andZ x.dop 7 = 5 then (trimS s x.n, 0)
  else if andZ x.dop 7 = 6 then ((applyS s x.n x.key x.val).2, (applyS s x.n x.key x.val).1)
  else if andZ x.dop 7 = 7 then (if andZ x.n 1 = 0 then (s, 0) else (restS s.seq (allS s), 0))
  else (putS s x.key x.val, 0)

/-- what holds of a store after so many operations -/
structure StB (top : Int) (s : StD) (n : Nat) : Prop where
  i : StI s
  l : StL s
  c : StS s n
  f : Fit1 (verP s)
  lo : 0 ≤ s.seq
  hi : s.seq ≤ top + n

theorem new_b : StB 0 stNew 0 := ⟨new_i, new_l, ⟨by show cntL [] ≤ _; decide, by show 0 ≤ 0; decide, by show 0 ≤ 0; decide, by show I64 1; unfold I64; decide⟩, fun x hx => (by cases hx), by show (0 : Int) ≤ 0; decide, by show (0 : Int) ≤ 0 + 0; decide⟩
theorem StB.more {top : Int} {s : StD} {n : Nat} (h : StB top s n) : StB top s (n + 1) :=
  ⟨h.i, h.l, ⟨by have := h.c.cnt; omega, by have := h.c.ver; omega, by have := h.c.log; omega, h.c.seq⟩, h.f, h.lo, by have := h.hi; omega⟩
theorem put_b {top : Int} (ht : 0 ≤ top ∧ top ≤ 1099511627776) {s : StD} {n : Nat} (hn : n ≤ 1000) (h : StB top s n) {k v : ByteArray} (hk : k.size ≤ 1000) (hv : v.size ≤ 1000) : StB top (putS s k v) (n + 1) := by
  have h1 := h.hi
  have h2 := h.lo
  refine ⟨put_i h.i k v, put_l h.l k v, put_s h.c k v (by unfold I64; omega), fun x hx => ?_, by show 0 ≤ s.seq + 1; omega, by show s.seq + 1 ≤ top + ((n + 1 : Nat) : Int); omega⟩
  rcases put_mem x hx with rfl | hx
  · exact ⟨hk, hv⟩
  · exact h.f x hx
theorem trim_b {top : Int} {s : StD} {n : Nat} (h : StB top s n) (m : Int) : StB top (trimS s m) n :=
  ⟨⟨h.i.tab, h.i.few, h.i.lev, h.i.four⟩, trim_l h.l m, ⟨h.c.cnt, h.c.ver, by
    have := h.c.log
    show (s.log.drop _).length ≤ n
    rw [List.length_drop]; omega, h.c.seq⟩, h.f, h.lo, h.hi⟩
theorem all_sub {s : StD} : (allS s).length ≤ (verP s).length ∧ ∀ x ∈ allS s, x ∈ verP s :=
  ⟨Nat.le_trans (List.length_filter_le _ _) (normK_len _), fun x hx => normK_mem x (List.mem_filter.1 hx).1⟩
theorem restS_b {top : Int} {s : StD} {n : Nat} (h : StB top s n) : StB top (restS s.seq (allS s)) (n + 1) := by
  have h1 := (all_sub (s := s)).1
  have h2 := h.c.ver
  have e : (restS s.seq (allS s)).levels = [[], if allS s = [] then [] else [allS s]] := addAt_nil 1 _
  refine ⟨rest_i (all_asc s), rest_l _ _, ⟨?_, by rw [rest_ver]; omega, Nat.zero_le _, h.c.seq⟩, fun x hx => ?_, h.lo, by have := h.hi; show s.seq ≤ top + ((n + 1 : Nat) : Int); omega⟩
  · rw [e]
    by_cases hn : allS s = []
    · rw [if_pos hn]
      show 2 ≤ _
      omega
    · rw [if_neg hn]
      have : 0 < (allS s).length := Nat.pos_of_ne_zero fun h0 => hn (List.eq_nil_of_length_eq_zero h0)
      show 3 ≤ _
      omega
  · rw [rest_ver] at hx
    exact h.f x (all_sub.2 x hx)
theorem step_b {top : Int} (ht : 0 ≤ top ∧ top ≤ 1099511627776) {s : StD} {n : Nat} (hn : n ≤ 1000) (h : StB top s n) {x : OpD} (hk : x.key.size ≤ 1000) (hv : x.val.size ≤ 1000) : StB top (stepS s x).1 (n + 1) := by
  unfold stepS
  split
  · exact (trim_b h x.n).more
  · split
    · show StB top (applyS s x.n x.key x.val).2 (n + 1)
      unfold applyS
      split
      · exact put_b ht hn h hk hv
      · exact h.more
    · split
      · split
        · exact h.more
        · exact restS_b h
      · exact put_b ht hn h hk hv

section
variable {top : Int} {s : StD} {n : Nat}
theorem StB.levels (h : StB top s n) : s.levels.length ≤ 2 * n ∧ s.levels.flatten.length ≤ 2 * n ∧ ∀ l ∈ s.levels, l.length ≤ 2 * n := by
  have h1 := h.c.cnt
  unfold cntL at h1
  have h2 : s.levels.flatten.length = (s.levels.map List.length).sum := List.length_flatten
  refine ⟨by omega, by omega, fun l hl => ?_⟩
  have := List.sublist_flatten_of_mem hl |>.length_le
  omega
theorem StB.szs (h : StB top s n) : Szs (verP s) := fun x hx => by have := h.f x hx; unfold maxLen; omega
end

set_option maxHeartbeats 2000000 in
theorem do_use {W w : World} {S : List Own} {Φ : PW} [Stable Φ] (hΦ : ∀ M w, Φ M w → NumI M w) {q : TO} {s : StD} {n : Nat} (hq : StQ q s) (hB : StB 0 s n) (hn : n ≤ 400) {x : OpD} (hk : x.key.size ≤ 1000) (hv : x.val.size ≤ 1000)
    (cx : Ctx W w (stO q s S) (fun M w => Φ M w ∧ stF q s M w)) {K : Ending → World → Prop}
    (hK : ∀ q' w', StQ q' (stepS s x).1 → Ctx W w' (stO q' (stepS s x).1 S) (fun M w => Φ M w ∧ stF q' (stepS s x).1 M w) → K (.returned (.tuple #[.pointer (some ⟨q'.sb, 0, none⟩), .int .i64 (stepS s x).2])) w') :
    Calls Tryz.prog F.erratalaw29_do #[.pointer (some ⟨q.sb, 0, none⟩), x.v] w K := by
  have hlv := hB.levels
  have hver := hB.c.ver
  have hlog := hB.c.log
  have st0 : ∀ (q : TO) (s : StD), Stable (fun M w => Φ M w ∧ stF q s M w) := fun q s => instStableAnd Φ (fun M w => Elems M w q.gs s.log ∧ LBE q.bs M w)
  have hst := st0 q s
  have eS : ∀ (q : TO) (s : StD) (G : List Own), stO q s S ++ G = stO q s (S ++ G) := fun q s G => by unfold stO stA; simp only [List.append_assoc, List.cons_append]
  refine (Berratalaw29_do_run q.sb 0 x.dop x.n x.key x.val (J := fun u w' => K (.returned u) w') cx ?_).mono fun e w' ⟨v, he, hj⟩ => by rw [he]; exact hj
  clear cx
  unfold stepS at hK
  refine fun _ => ⟨andZ x.dop 7, fun w => and_run _ _ _, Br.intro (fun h5 => fun w G cx => ?_) (fun h5 => Br.intro (fun h6 => fun w G cx => ?_) (fun h6 => Br.intro (fun h7 => ⟨andZ x.n 1, fun w => and_run _ _ _, Br.intro (fun h1 => fun w G cx => ?_) (fun h1 => fun w G cx => ?_)⟩) (fun h7 => fun w G cx => ?_)))⟩
  · rw [if_pos (of_decide_eq_true h5)] at hK
    refine trim_use (S := S ++ G) hq hB.l (by omega) (cx.re (eS q s G)) fun q' w' hb hq' cx2 => ⟨rfl, stO q' (trimS s x.n) S, _, st0 q' _, cx2.re (eS q' _ G).symm, fun w G cx => ?_⟩
    have h := hK q' w hq' cx.left
    rw [hb] at h
    exact h
  · rw [if_neg (of_decide_eq_false h5), if_pos (of_decide_eq_true h6)] at hK
    refine apply_use (S := S ++ G) hq hB.i hB.c hn (by unfold maxLen; omega) (by unfold maxLen; omega) (cx.re (eS q s G)) fun q' w' hb hq' cx2 => ⟨_, rfl, stO q' (applyS s x.n x.key x.val).2 S, _, st0 q' _, cx2.re (eS q' _ G).symm, fun w G cx => ?_⟩
    have h := hK q' w hq' cx.left
    rw [hb] at h
    exact h
  · rw [if_neg (of_decide_eq_false h5), if_neg (of_decide_eq_false h6), if_pos (of_decide_eq_true h7), if_pos (of_decide_eq_true h1)] at hK
    have hb := st_bufs (S := S ++ G) (cx.re (eS q s G))
    have hC := st_caps (S := S ++ G) hq (cx.re (eS q s G))
    have cx1 := ((cx.re (eS q s G)).re (stO_app q s (S ++ G))).aside
    have hst2 : Stable (Aside W (stO q s []) (fun M w => Φ M w ∧ stF q s M w)) := instStableAside W _ _
    have hz := hB.szs
    refine Copy_use (hΦ := ⟨fun M w h => st_reads hq hb h⟩) hC (fun x hx => hz x (List.mem_append_left _ hx)) (by have := hB.i.few; omega) (by omega) (by omega) (fun l hl => by have := hlv.2.2 l hl; omega) cx1 fun q2 w' hq2 cx2 => ?_
    have cx3 := cx2.weak (Ψ := fun M w => Φ M w ∧ stF q2 s M w) fun M w h => ⟨h.1.less.1, h.2⟩
    exact ⟨_, rfl, stO q2 s S, _, st0 q2 s, cx3.re (eS q2 s G).symm, fun w G cx => hK q2 w hq2 cx.left⟩
  · rw [if_neg (of_decide_eq_false h5), if_neg (of_decide_eq_false h6), if_pos (of_decide_eq_true h7), if_neg (of_decide_eq_false h1)] at hK
    have hC := st_caps (S := S ++ G) hq (cx.re (eS q s G))
    refine look (S := S ++ G) hq (v := .string (snapB s)) (cx.re (eS q s G)) (fun Ψ h1 h2 h3 => Snapshot_in (hΦ := h2) (fun M w h => (hΦ M w (h3.go M w h)).1) hC (by omega) (by omega) (by omega) hB.f (by have := hB.c.seq; have := hB.lo; have := hB.hi; unfold I64 at *; omega)) fun w' cx2 => ⟨_, rfl, stO q s S, _, hst, cx2.re (eS q s G).symm, fun w G cx => ?_⟩
    have hsc : scanS s tE = allS s := scan_all s
    have hsn : snapB s = bs (snapL s.seq (allS s)) := by unfold snapB; rw [hsc]; rfl
    have ha := all_sub (s := s)
    have hfit : Fit1 (allS s) := fun x hx => hB.f x (ha.2 x hx)
    have hrest : restL (snapL s.seq (allS s)) = some (restS s.seq (allS s)) := rest_snap hB.lo (by have := hB.hi; omega) hfit (all_ne s) (all_asc s) (by omega)
    have hlen : (snapL s.seq (allS s)).length ≤ 1000000 := by
      have h1 := pairsL_len hfit
      have h2 := headL_len (seq := s.seq) (by have := hB.lo; have := hB.hi; unfold I64; omega) (n := (allS s).length) (by omega)
      unfold snapL
      rw [List.length_append]; omega
    rw [hsn]
    have cx3 : Ctx W w (S ++ G) Φ := (Ctx.right (S := stO q s []) ((cx.re (eS q s G)).re (stO_app q s (S ++ G)))).weak fun M w h => h.1
    refine Restore_use hΦ (snapL s.seq (allS s)) hlen cx3 (fun w' h => by rw [hrest] at h; cases h) fun q2 s2 w' hr hq2 cx4 => ?_
    rw [hrest] at hr
    cases hr
    refine ⟨_, _, rfl, stO q2 (restS s.seq (allS s)) S, _, st0 q2 _, cx4.re (eS q2 _ G).symm, Br.intro (fun h => by cases h) (fun _ => fun w G cx => hK q2 w hq2 cx.left)⟩
  · rw [if_neg (of_decide_eq_false h5), if_neg (of_decide_eq_false h6), if_neg (of_decide_eq_false h7)] at hK
    refine put_use (S := S ++ G) hq hB.i hB.c hn (by unfold maxLen; omega) (by unfold maxLen; omega) (cx.re (eS q s G)) fun q' w' hb hq' cx2 => ⟨rfl, stO q' (putS s x.key x.val) S, _, st0 q' _, cx2.re (eS q' _ G).symm, fun w G cx => ?_⟩
    have h := hK q' w hq' cx.left
    rw [hb] at h
    exact h
end Go.Proofs.YtebnciehcnedjaaGreatDoor
end

/-
  The laws' helpers: digits, few; what the example's store becomes.
-/
section
set_option linter.unusedVariables false
set_option linter.unusedSimpArgs false
namespace Go.Proofs.YtebnciehcnedjaaGreatDoor
open Go.Vc


theorem op_cells {M : List Nat} {w : World} {cs : List Value} {x : OpD} (h : Gv.rep M w cs x) : cs = x.cells ∧ x.key.size ≤ maxLen ∧ x.val.size ≤ maxLen := by
  obtain ⟨_, _, rfl, ⟨rfl, _⟩, _, _, rfl, ⟨rfl, _⟩, _, _, rfl, ⟨rfl, h1⟩, rfl, h2⟩ := h
  exact ⟨rfl, h1, h2⟩
theorem sl_op {M : List Nat} {w : World} {b o : Nat} {l : List OpD} (h : Sl M w (some ⟨b, o, none⟩) l) {j : Nat} (hj : j < l.length) : RowAt w b (o + j * 4) l[j].cells := by
  obtain ⟨b', o', cs, e, _, h3, h4⟩ := h j hj
  cases e
  obtain ⟨rfl, _⟩ := op_cells h4
  exact h3
def fewP (x : OpD) : Bool := decide ((x.key.size : Int) ≤ 20) && decide ((x.val.size : Int) ≤ 20)
def fewO (l : List OpD) (n : Int) : Bool := decide ((l.length : Int) ≤ n) && l.all fewP
theorem fewO_len {l : List OpD} {n : Int} (h : fewO l n = true) : (l.length : Int) ≤ n := of_decide_eq_true ((Bool.and_eq_true _ _).mp h).1
theorem fewO_fit {l : List OpD} {n : Int} (h : fewO l n = true) : ∀ x ∈ l, x.key.size ≤ 1000 ∧ x.val.size ≤ 1000 := fun x hx => by
  have h1 := List.all_eq_true.1 ((Bool.and_eq_true _ _).mp h).2 x hx
  unfold fewP at h1
  rw [Bool.and_eq_true] at h1
  have h2 := of_decide_eq_true h1.1
  have h3 := of_decide_eq_true h1.2
  omega
theorem few_in {Φ : PW} [Stable Φ] {p : Option Addr} {cap : Nat} {l : List OpD} {n : Int} (hΦ : ∀ M w, Φ M w → Sl M w p l) (hl : l.length ≤ maxLen) : GivesIn Φ Tryz.prog F.erratalaw29_few #[.slice p l.length cap, .int .i64 n] (.bool (fewO l n)) := by
  refine .there (fun M w h => (hΦ M w h).there) fun hth => ?_
  refine gives_in (Berratalaw29_few_run p l.length cap n) fun W R => ?_
  refine exI_mk (fun iI R' Φ' k => ∃ i : Nat, iI = i ∧ i ≤ l.length ∧ (l.take i).all fewP = true ∧ R' = R ∧ Φ' = Φ ∧ k = l.length - i) ⟨⟨R, Φ, _, inferInstance, fun w G cx => cx, 0, rfl, Nat.zero_le _, rfl, rfl, rfl, rfl⟩, ?_⟩
  rintro iI R1 Φ1 k _ ⟨i, rfl, hi, hs, rfl, rfl, rfl⟩
  refine Br.intro (fun hlt => ?_) (fun hge => fun w G cx => ?_)
  · have hlt : i < l.length := by have := of_decide_eq_true hlt; omega
    obtain ⟨g, o, rfl⟩ := hth (by omega)
    refine fun w G cx => ⟨⟨by omega, by omega⟩, ptrK_intro g o rfl ⟨l[i].key, ?_, fun _ => ⟨by omega, by omega⟩, ptrK_intro g o rfl ⟨l[i].val, fun _ => ?_, Br.intro (fun hb => fun w G cx => ⟨?_, cx.left⟩) (fun hb => ⟨by unfold I64; unfold maxLen at hl; omega, R1, Φ1, l.length - (i + 1), inferInstance, fun w G cx => cx, ⟨i + 1, rfl, hlt, ?_, rfl, rfl, rfl⟩, by omega⟩)⟩⟩⟩
    · rw [Int.toNat_natCast]; exact sl_op (hΦ _ _ cx.phi) hlt 2 (by show 2 < 4; decide)
    · rw [Int.toNat_natCast]; exact sl_op (hΦ _ _ cx.phi) hlt 3 (by show 3 < 4; decide)
    · have : fewP l[i] = false := by
        unfold fewP
        rw [Bool.or_eq_true] at hb
        rcases hb with hb | hb
        · have := of_decide_eq_true hb
          rw [decide_eq_false (show ¬ (l[i].key.size : Int) ≤ 20 by omega)]; rfl
        · have := of_decide_eq_true hb
          rw [decide_eq_false (show ¬ (l[i].val.size : Int) ≤ 20 by omega), Bool.and_false]
      unfold fewO
      rw [List.all_eq_false.2 ⟨l[i], List.getElem_mem _, by rw [this]; simp⟩, Bool.and_false]
    · rw [Bool.or_eq_false_iff] at hb
      have h1 := of_decide_eq_false hb.1
      have h2 := of_decide_eq_false hb.2
      have : fewP l[i] = true := by
        unfold fewP
        rw [decide_eq_true (show (l[i].key.size : Int) ≤ 20 by omega), decide_eq_true (show (l[i].val.size : Int) ≤ 20 by omega)]; rfl
      rw [List.take_succ_eq_append_getElem hlt, List.all_append, hs]
      simp [this]
  · have hge : i = l.length := by have := of_decide_eq_false hge; omega
    subst hge
    rw [List.take_length] at hs
    refine ⟨?_, cx.left⟩
    unfold fewO
    rw [hs, Bool.and_true]

def digB (n : Nat) : ByteArray := ⟨[UInt8.ofNat (48 + n / 10 % 10), UInt8.ofNat (48 + n % 10)].toArray⟩
theorem wrap_dig2 (d : Nat) (h : d < 10) : IntKind.u8.wrap (48 + (d : Int)) = ((UInt8.ofNat (48 + d)).toNat : Int) := by
  have e : (UInt8.ofNat (48 + d)).toNat = 48 + d := by
    rw [UInt8.toNat_ofNat']
    exact Nat.mod_eq_of_lt (by omega)
  rw [e]
  simp [IntKind.wrap, IntKind.signed, IntKind.bits]
  omega
theorem digits29_g (n : Nat) (hn : n ≤ 1000) : Gives Tryz.prog F.erratalaw29_digits #[.int .i64 (n : Int)] (.string (digB n)) := by
  refine gives_of (Berratalaw29_digits_run (n : Int)) fun W R Φ hs => ?_
  have e0 : ((n : Int).tdiv 10).tmod 10 = ((n / 10 % 10 : Nat) : Int) := by rw [Int.tdiv_eq_ediv_of_nonneg (by omega), Int.tmod_eq_emod_of_nonneg (by omega)]; omega
  have e1 : (n : Int).tmod 10 = ((n % 10 : Nat) : Int) := by rw [Int.tmod_eq_emod_of_nonneg (by omega)]; omega
  have e2 : (n : Int).tdiv 10 = ((n / 10 : Nat) : Int) := by rw [Int.tdiv_eq_ediv_of_nonneg (by omega)]; omega
  refine ⟨by omega, by rw [e2]; unfold I64; omega, by omega, by rw [e0]; unfold I64; omega, by omega, by rw [e1]; unfold I64; omega, fun k w G cx => ?_⟩
  rw [e0, e1, wrap_dig2 _ (by omega), wrap_dig2 _ (by omega)] at cx
  have hcell : ∀ j, (hj : j < [UInt8.ofNat (48 + n / 10 % 10), UInt8.ofNat (48 + n % 10)].length) → w.cell? ((⟨k, 0, none⟩ : Addr).add j) = some (.int .u8 ([UInt8.ofNat (48 + n / 10 % 10), UInt8.ofNat (48 + n % 10)][j].toNat : Int)) := fun j hj => by
    match j, hj with
    | 0, _ => exact cx.get 0 rfl rfl
    | 1, _ => exact cx.get 0 rfl rfl
  exact ⟨_, _, run_convert_bytes_back w 87 9 5 ⟨k, 0, none⟩ 2 [UInt8.ofNat (48 + n / 10 % 10), UInt8.ofNat (48 + n % 10)] (by kernel_rfl) (by kernel_rfl) (by kernel_rfl) hcell, R, Φ, hs, cx.drop1, fun w G cx => ⟨rfl, cx.left⟩⟩

/-! ### the example, computed -/
def settleF : Nat → List Lev → List Lev
  | 0, _ => []
  | _ + 1, [] => []
  | n + 1, l :: t => if l.length < 4 then l :: settleF n t else [] :: settleF n (addL t (pushR l t))
theorem settleF_eq : ∀ (n : Nat) (ls : List Lev), cntL ls < n → settleL ls = settleF n ls
  | 0, _, h => by omega
  | n + 1, [], _ => by rw [settleL_nil]; rfl
  | n + 1, l :: t, h => by
    have hc : cntL (l :: t) = l.length + 1 + cntL t := by unfold cntL; simp; omega
    show _ = if l.length < 4 then l :: settleF n t else [] :: settleF n (addL t (pushR l t))
    by_cases h4 : l.length < 4
    · rw [settleL_less h4, if_pos h4, settleF_eq n t (by omega)]
    · have ha := addL_cnt t (pushR l t)
      rw [settleL_more h4, if_neg h4, settleF_eq n (addL t (pushR l t)) (by omega)]
def putF (s : StD) (k v : ByteArray) : StD :=
  let t := putK ⟨k, v⟩ s.table
  ⟨if t.length = 8 then [] else t, settleF 100 (if t.length = 8 then addL s.levels t else s.levels), s.seq + 1, s.log ++ [⟨s.seq + 1, k, v⟩], s.cut⟩
theorem putF_eq {s : StD} (h : cntL s.levels ≤ 90) (k v : ByteArray) : putS s k v = putF s k v := by
  have h2 := addL_cnt s.levels (putK ⟨k, v⟩ s.table)
  have h3 : cntL (if (putK ⟨k, v⟩ s.table).length = 8 then addL s.levels (putK ⟨k, v⟩ s.table) else s.levels) < 100 := by split <;> omega
  have e := settleF_eq 100 _ h3
  show (⟨if (putK ⟨k, v⟩ s.table).length = 8 then [] else putK ⟨k, v⟩ s.table, settleL (if (putK ⟨k, v⟩ s.table).length = 8 then addL s.levels (putK ⟨k, v⟩ s.table) else s.levels), s.seq + 1, s.log ++ [⟨s.seq + 1, k, v⟩], s.cut⟩ : StD) = _
  rw [e]
  rfl
abbrev tA : ByteArray := ByteArray.mk #[97]
abbrev tB : ByteArray := ByteArray.mk #[98]
abbrev t1 : ByteArray := ByteArray.mk #[49]
abbrev t2 : ByteArray := ByteArray.mk #[50]
abbrev tX : ByteArray := ByteArray.mk #[120]
def exS : StD := putS (putS (putS stNew tA t1) tB t2) tA tE
def exF : StD := putF (putF (putF stNew tA t1) tB t2) tA tE
def exT : Nat → StD
  | 0 => stNew
  | i + 1 => putS (exT i) (digB i) tX
def exTF : Nat → StD
  | 0 => stNew
  | i + 1 => putF (exTF i) (digB i) tX
theorem exT_b : ∀ i, i ≤ 100 → StB 0 (exT i) i
  | 0, _ => new_b
  | i + 1, h => put_b ⟨by decide, by decide⟩ (by omega) (exT_b i (by omega)) (by show 2 ≤ _; decide) (by show 1 ≤ _; decide)
theorem exT_eq : ∀ i, i ≤ 45 → exT i = exTF i
  | 0, _ => rfl
  | i + 1, h => by
    have hb := (exT_b i (by omega)).c.cnt
    show putS (exT i) (digB i) tX = putF (exTF i) (digB i) tX
    rw [putF_eq (by omega), exT_eq i (by omega)]
theorem exS_b1 : StB 0 (putS stNew tA t1) 1 := put_b ⟨by decide, by decide⟩ (by decide) new_b (by show 1 ≤ _; decide) (by show 1 ≤ _; decide)
theorem exS_b2 : StB 0 (putS (putS stNew tA t1) tB t2) 2 := put_b ⟨by decide, by decide⟩ (by decide) exS_b1 (by show 1 ≤ _; decide) (by show 1 ≤ _; decide)
theorem exS_b : StB 0 exS 3 := put_b ⟨by decide, by decide⟩ (by decide) exS_b2 (by show 1 ≤ _; decide) (by show 0 ≤ _; decide)
theorem exS_eq : exS = exF := by
  have h1 := exS_b1.c.cnt
  have h2 := exS_b2.c.cnt
  unfold exS exF
  rw [putF_eq (by omega), putF_eq (by omega), putF_eq (by show 0 ≤ 90; omega)]
theorem ex_scan : scanS exS tE = [⟨tB, t2⟩] := by rw [exS_eq]; decide +kernel
theorem ex_log : exS.log.map (fun x => x.seq) = [1, 2, 3] := by rw [exS_eq]; decide +kernel
theorem ex_ver : (verP exS).length = 2 ∧ exS.seq = 3 ∧ exS.cut = 0 := by rw [exS_eq]; decide +kernel
theorem ex_runs : runsL (exT 32) = [[], [32]] := by rw [exT_eq 32 (by decide)]; decide +kernel
end Go.Proofs.YtebnciehcnedjaaGreatDoor
end

/-
  The documentation's examples, walked.
-/
section
set_option linter.unusedVariables false
set_option linter.unusedSimpArgs false
namespace Go.Proofs.YtebnciehcnedjaaGreatDoor
open Go.Vc


theorem stO_re (q : TO) (s : StD) (S G : List Own) : stO q s S ++ G = stO q s (S ++ G) := by unfold stO stA; simp only [List.append_assoc, List.cons_append]
instance instStableSt (Φ : PW) [Stable Φ] (q : TO) (s : StD) : Stable (fun M w => Φ M w ∧ stF q s M w) := instStableAnd Φ (fun M w => Elems M w q.gs s.log ∧ LBE q.bs M w)
theorem st_two (a : TO) (s : StD) (b : TO) (t : StD) (S : List Own) : (stO a s (stO b t S)).Perm (stO b t (stO a s S)) := by
  rw [stO_app a s (stO b t S), stO_app b t (stO a s S), stO_app b t S, stO_app a s S]
  exact List.perm_append_comm_assoc _ _ _
/-- a store is laid aside -/
theorem lay {W w : World} {S : List Own} {Φ : PW} [Stable Φ] {q : TO} {s : StD} (hq : StQ q s) (cx : Ctx W w (stO q s S) (fun M w => Φ M w ∧ stF q s M w)) :
    ∃ Ψ : PW, Stable Ψ ∧ (∀ M w, Ψ M w → Φ M w) ∧ (∀ M w, Ψ M w → StR q s M w) ∧ StC q s ∧ (∀ (S : List Own) (w : World), Ctx W w S Ψ → Ctx W w (stO q s S) (fun M w => Φ M w ∧ stF q s M w)) ∧ (∀ (S : List Own) (w : World), Ctx W w (stO q s S) (fun M w => Φ M w ∧ stF q s M w) → Ctx W w S Ψ) :=
  ⟨Aside W (stO q s []) (fun M w => Φ M w ∧ stF q s M w), instStableAside W _ _, fun M w h => h.less.1, fun M w h => st_reads hq (st_bufs cx) h, st_caps hq cx, fun S w c => c.unaside.re (stO_app q s S).symm, fun S w c => (c.re (stO_app q s S)).aside⟩
theorem put_at {W w : World} {S G : List Own} {Φ : PW} [Stable Φ] {q : TO} {b : Nat} (hb : q.sb = b) {s : StD} {n : Nat} {top : Int} (hq : StQ q s) (hB : StB top s n) (hn : n ≤ 400) {k v : ByteArray} (hk : k.size ≤ 1000) (hv : v.size ≤ 1000)
    (cx : Ctx W w (stO q s S ++ G) (fun M w => Φ M w ∧ stF q s M w)) {K : List Own → PW → Prop}
    (hK : ∀ q', q'.sb = b → StQ q' (putS s k v) → K (stO q' (putS s k v) S) (fun M w => Φ M w ∧ stF q' (putS s k v) M w)) :
    Calls Tryz.prog F.store_Store_Put #[.pointer (some ⟨b, 0, none⟩), .string k, .string v] w fun e w' => e = .returned (.tuple #[]) ∧ ∃ R' Φ', Stable Φ' ∧ Ctx W w' (R' ++ G) Φ' ∧ K R' Φ' := by
  subst hb
  exact put_use (S := S ++ G) hq hB.i hB.c hn (by unfold maxLen; omega) (by unfold maxLen; omega) (cx.re (stO_re q s S G)) fun q' w' hb hq' cx2 => ⟨rfl, stO q' (putS s k v) S, _, inferInstance, cx2.re (stO_re q' _ S G).symm, hK q' hb hq'⟩

section
variable {α : Type} [Gv α]
theorem pinl {M : List Nat} {w : World} {g o : Nat} {cs : List (List Value)} {ls : List (List α)} (h : Pin g o cs ls M w) {j : Nat} (hj : j < ls.length) : ∃ p c, cs.getD j [] = [.slice p ls[j].length c] := by
  obtain ⟨_, h1, h2⟩ := h j hj
  obtain ⟨p, c, e, _⟩ := rep_list.1 h2
  exact ⟨p, c, e⟩
theorem pinl_sl {M : List Nat} {w : World} {g o : Nat} {cs : List (List Value)} {ls : List (List α)} (h : Pin g o cs ls M w) {j : Nat} (hj : j < ls.length) {p : Option Addr} {n c : Nat} (e : cs.getD j [] = [.slice p n c]) : Sl M w p ls[j] := by
  obtain ⟨_, h1, h2⟩ := h j hj
  obtain ⟨p', c', e', g1, g2, hs⟩ := rep_list.1 h2
  rw [e] at e'
  simp only [List.cons.injEq, Value.slice.injEq] at e'
  rw [e'.1.1]
  exact hs
theorem pinl_at {M : List Nat} {w : World} {g o : Nat} {cs : List (List Value)} {ls : List (List α)} (h : Pin g o cs ls M w) {j : Nat} (hj : j < ls.length) {p : Option Addr} {n c : Nat} (e : cs.getD j [] = [.slice p n c]) : w.cell? ⟨g, o + j, none⟩ = some (.slice p n c) := by
  obtain ⟨_, h1, h2⟩ := h j hj
  rw [e] at h1
  have := h1 0 (by simp)
  rw [show (Gv.ty (List α)).size = 1 from rfl, Nat.mul_one] at this
  simpa using this
end
theorem sl_int {M : List Nat} {w : World} {p : Option Addr} {l : List Int} (h : Sl M w p l) {j : Nat} (hj : j < l.length) : ∃ b o, p = some ⟨b, o, none⟩ ∧ w.cell? ⟨b, o + j, none⟩ = some (.int .i64 l[j]) := by
  obtain ⟨b', o', cs, e, _, h3, h4⟩ := h j hj
  obtain ⟨rfl, _⟩ := h4
  have := h3 0 (by simp)
  rw [show (Gv.ty Int).size = 1 from rfl, Nat.mul_one] at this
  exact ⟨b', o', e, by simpa using this⟩
theorem sl_chg {M : List Nat} {w : World} {b o : Nat} {l : List ChgD} (h : Sl M w (some ⟨b, o, none⟩) l) {j : Nat} (hj : j < l.length) : RowAt w b (o + j * 3) l[j].cells := by
  obtain ⟨b', o', cs, e, _, h3, h4⟩ := h j hj
  cases e
  obtain rfl := chgD_cells h4
  exact h3

set_option maxHeartbeats 4000000 in
theorem small29_g : Gives Tryz.prog F.erratalaw29_small #[] (.bool true) := by
  refine gives_of (Berratalaw29_small_run) fun W R Φ _ => fun w G cx => ?_
  refine New_use cx fun qs w hqs cx => ⟨_, rfl, stO qs stNew R, _, instStableSt Φ qs stNew, cx.re (stO_re _ _ _ _).symm, fun w G cx => ?_⟩
  refine New_use cx fun qt w hqt cx => ?_
  have hst : Stable (fun M w => Φ M w ∧ stF qt stNew M w) := instStableSt Φ qt stNew
  have cx1 : Ctx W w (stO qs stNew (stO qt stNew R) ++ G) (fun M w => (Φ M w ∧ stF qt stNew M w) ∧ stF qs stNew M w) := ((cx.perm (by
    rw [stO_re qs stNew R G, stO_re qs stNew _ G, stO_re qt stNew R G]
    exact st_two _ _ _ _ _)).weak fun M w h => ⟨⟨h.1.1, h.2⟩, h.1.2⟩)
  refine ⟨_, rfl, stO qs stNew (stO qt stNew R), _, instStableSt _ qs stNew, cx1, fun w G cx => Br.intro (fun h => by cases h) (fun _ => fun w G cx => ?_)⟩
  clear cx1
  refine put_at rfl hqs new_b (by decide) (by show 1 ≤ _; decide) (by show 1 ≤ _; decide) cx fun q1 hb1 hq1 => fun w G cx => ?_
  refine put_at hb1 hq1 exS_b1 (by decide) (by show 1 ≤ _; decide) (by show 1 ≤ _; decide) cx fun q2 hb2 hq2 => fun w G cx => ?_
  refine put_at hb2 hq2 exS_b2 (by decide) (by show 1 ≤ _; decide) (by show 0 ≤ _; decide) cx fun q3 hb3 hq3 => fun w G cx => ?_
  have hqS : StQ q3 exS := hq3
  have cxS : Ctx W w (stO q3 exS (stO qt stNew R ++ G)) (fun M w => (Φ M w ∧ stF qt stNew M w) ∧ stF q3 exS M w) := cx.re (stO_re _ _ _ _)
  clear cx
  obtain ⟨Ψ, stΨ, toΦ, toR, hC, _, hlay⟩ := lay hqS cxS
  have cxa := hlay _ _ cxS
  clear cxS hlay
  rw [← hb3]
  have hlv := exS_b.levels
  have hver := exS_b.c.ver
  obtain ⟨ev1, ev2, ev3⟩ := ex_ver
  have hscan := Scan_sl (Φ := Ψ) (pre := tE) (hΦ := ⟨toR⟩) hC (by omega) (by omega) (by omega) exS_b.szs (by show 0 ≤ _; omega)
  rw [ex_scan] at hscan
  refine hscan.tot cxa fun p1 c1 _ _ ht1 st1 => fun w G cx => ?_
  have hsince := Since_sl (Φ := fun M w => Ψ M w ∧ Sl M w p1 [(⟨tB, t2⟩ : PairD)]) (hΦ := ⟨fun M w h => toR M w h.1⟩) hC exS_b.l (by have := exS_b.c.log; omega) (n := 1) (by rw [ev3]; decide) (by rw [ev2]; decide)
  rw [ev3] at hsince
  have hlg : ((exS.log.drop (1 - 0 : Int).toNat).map fun x => x.seq) = [2, 3] := by rw [List.map_drop, ex_log]; rfl
  obtain ⟨lg, hlgd⟩ : ∃ lg, exS.log.drop (1 - 0 : Int).toNat = lg := ⟨_, rfl⟩
  rw [hlgd] at hsince hlg
  have hlgl : lg.length = 2 := by have := congrArg List.length hlg; rwa [List.length_map] at this
  refine hsince.use cx fun p2 c2 w _ _ cx2 => ?_
  clear cx
  have cx := cx2
  clear cx2
  have ht2 := cx.phi.2.there
  obtain ⟨Ψ2, hΨ2⟩ : ∃ Ψ2 : PW, Ψ2 = (fun M w => (Ψ M w ∧ Sl M w p1 [(⟨tB, t2⟩ : PairD)]) ∧ Sl M w p2 lg) := ⟨_, rfl⟩
  have st2 : Stable Ψ2 := by rw [hΨ2]; exact instStableAnd (fun M w => Ψ M w ∧ Sl M w p1 [(⟨tB, t2⟩ : PairD)]) (fun M w => Sl M w p2 lg)
  have g1 : ∀ M w, Ψ2 M w → Ψ M w := fun M w h => by rw [hΨ2] at h; exact h.1.1
  have g2 : ∀ M w, Ψ2 M w → Sl M w p1 [(⟨tB, t2⟩ : PairD)] := fun M w h => by rw [hΨ2] at h; exact h.1.2
  have g3 : ∀ M w, Ψ2 M w → Sl M w p2 lg := fun M w h => by rw [hΨ2] at h; exact h.2
  rw [← hΨ2] at cx
  rw [hlgl] at ht2 ⊢
  refine ⟨p2, _, c2, _, rfl, stO qt stNew R, Ψ2, st2, cx, fun w G cx => Br.intro (fun h => by simp at h) (fun _ => ?_)⟩
  clear cx
  refine exI_mk (fun iI R' Φ' k => ∃ (i : Nat) (q' : TO), iI = i ∧ i ≤ 32 ∧ q'.sb = qt.sb ∧ StQ q' (exT i) ∧ R' = stO q' (exT i) R ∧ Φ' = (fun M w => Ψ2 M w ∧ stF q' (exT i) M w) ∧ k = 32 - i)
    ⟨⟨_, _, _, instStableSt Ψ2 qt stNew, fun w G cx => cx.weak fun M w h => ⟨h, (toΦ _ _ (g1 _ _ h)).2⟩, 0, qt, rfl, by decide, rfl, hqt, rfl, rfl, rfl⟩, ?_⟩
  rintro iI R1 Φ1 k _ ⟨i, q', rfl, hi, hbq, hq', rfl, rfl, rfl⟩
  refine Br.intro (fun hlt => fun w G cx => ?_) (fun hge => fun w G cx => ?_)
  · have hlt : i < 32 := by have := of_decide_eq_true hlt; omega
    refine ((digits29_g i (by omega)).in).toS cx fun w G cx => ?_
    refine put_at hbq hq' (exT_b i (by omega)) (by omega) (by show 2 ≤ _; decide) (by show 1 ≤ _; decide) cx fun q2 hb2 hq2 => ⟨by unfold I64; omega, _, _, 32 - (i + 1), instStableSt Ψ2 q2 _, fun w G cx => cx, ⟨i + 1, q2, by omega, by omega, hb2, hq2, rfl, rfl, rfl⟩, by omega⟩
  have hge : i = 32 := by have := of_decide_eq_false hge; omega
  subst hge
  have cxT := cx.re (stO_re q' (exT 32) R G)
  obtain ⟨Ψ3, st3, toΨ2, toT, hCT, _, hlayT⟩ := lay hq' cxT
  have cxb := hlayT _ _ cxT
  clear cx cxT hlayT
  have hlt := (exT_b 32 (by decide)).levels
  have hvt := (exT_b 32 (by decide)).c.ver
  rw [← hbq]
  have hruns := Runs_sl (Φ := Ψ3) (hΦ := ⟨toT⟩) (by omega) (fun l hl => by have := hlt.2.2 l hl; omega) (fun l hl r hr => by
    have h1 := List.sublist_flatten_of_mem hr |>.length_le
    have h2 := List.sublist_flatten_of_mem (List.mem_map_of_mem (f := List.flatten) hl) |>.length_le
    have h3 : ((exT 32).levels.map List.flatten).flatten.length ≤ 32 := by
      have e : ((exT 32).levels.map List.flatten).flatten = allRuns (exT 32).levels := by
        unfold allRuns
        rw [List.flatten_flatten]
      rw [e]
      unfold verP at hvt
      rw [List.length_append] at hvt
      omega
    omega)
  rw [ex_runs] at hruns
  refine hruns.use cxb fun p3 c3 w _ _ cx => ?_
  clear cxb
  obtain ⟨b3, o3, cs3, hp3, cx⟩ := cx.pin cx.phi.2
  obtain rfl := hp3 (by decide)
  obtain ⟨pa, ca, ea⟩ := pinl cx.phi.2 (j := 0) (by decide)
  obtain ⟨pb, cb, eb⟩ := pinl cx.phi.2 (j := 1) (by decide)
  obtain ⟨b4, o4, hpb, _⟩ := sl_int (pinl_sl cx.phi.2 (j := 1) (by decide) eb) (j := 0) (by decide)
  subst hpb
  obtain ⟨Ψ4, hΨ4⟩ : ∃ Ψ4 : PW, Ψ4 = (fun M w => (Ψ3 M w ∧ Sl M w (some ⟨b3, o3, none⟩) ([[], [32]] : List (List Int))) ∧ Pin b3 o3 cs3 ([[], [32]] : List (List Int)) M w) := ⟨_, rfl⟩
  have st4 : Stable Ψ4 := by rw [hΨ4]; exact instStableAnd (fun M w => Ψ3 M w ∧ Sl M w (some ⟨b3, o3, none⟩) ([[], [32]] : List (List Int))) (fun M w => Pin b3 o3 cs3 ([[], [32]] : List (List Int)) M w)
  have k1 : ∀ M w, Ψ4 M w → Ψ2 M w := fun M w h => by rw [hΨ4] at h; exact toΨ2 _ _ h.1.1
  have k2 : ∀ M w, Ψ4 M w → Pin b3 o3 cs3 ([[], [32]] : List (List Int)) M w := fun M w h => by rw [hΨ4] at h; exact h.2
  have toS : ∀ M w, Ψ4 M w → StR q3 exS M w := fun M w h => toR _ _ (g1 _ _ (k1 _ _ h))
  have toF : ∀ M w, Ψ4 M w → Φ M w := fun M w h => (toΦ _ _ (g1 _ _ (k1 _ _ h))).1
  rw [← hΨ4] at cx
  obtain ⟨b1, o1, hp1⟩ := ht1 (by decide)
  obtain ⟨b2, o2, hp2⟩ := ht2 (by decide)
  subst hp1 hp2
  refine ⟨_, _, c3, rfl, R, Ψ4, st4, cx, Br.intro (fun h => by simp at h) (fun _ => fun w G cx => ⟨by decide, ptrK_intro b3 o3 rfl ⟨pa, _, ca, pinl_at (k2 _ _ cx.phi) (j := 0) (by decide) ea, fun _ => by decide, ptrK_intro b3 o3 rfl ⟨_, _, cb, fun _ => pinl_at (k2 _ _ cx.phi) (j := 1) (by decide) eb, Br.intro (fun h => by simp at h) (fun _ => ⟨by decide, ptrK_intro b1 o1 rfl fun w G cx => ⟨tB, t2, ?_, by kernel_rfl, Br.intro (fun _ => fun w G cx => ?_) (fun h => by simp at h)⟩⟩)⟩⟩⟩)⟩
  · have := sl_pair (g2 _ _ (k1 _ _ cx.phi)) (j := 0) (by decide)
    rwa [Nat.zero_mul, Nat.add_zero] at this
  have hlen := Len_in (Φ := Ψ4) (hΦ := ⟨toS⟩) hC (by omega) (by omega) (by omega) exS_b.szs
  rw [ex_scan] at hlen
  refine hlen.toI cx (Br.intro (fun _ => fun w G cx => ?_) (fun h => by simp at h))
  have hvs := Versions_in (Φ := Ψ4) (hΦ := ⟨toS⟩) hC (by omega) (by omega) (by omega)
  rw [ev1] at hvs
  refine hvs.toI cx (Br.intro (fun _ => fun w G cx => ?_) (fun h => by simp at h))
  have hsq := Seq_in (Φ := Ψ4) (q := q3) (s := exS) (hΦ := ⟨toS⟩)
  rw [ev2] at hsq
  refine hsq.toI cx (Br.intro (fun _ => ⟨by decide, ptrK_intro b2 o2 rfl fun w G cx => ⟨2, ?_, Br.intro (fun _ => ⟨by decide, ptrK_intro b3 o3 rfl fun w G cx => ⟨_, _, cb, pinl_at (k2 _ _ cx.phi) (j := 1) (by decide) eb, by decide, ptrK_intro b4 o4 rfl fun w G cx => ?_⟩⟩) (fun h => by simp at h)⟩⟩) (fun h => by simp at h))
  · have h := sl_chg (g3 _ _ (k1 _ _ cx.phi)) (j := 0) (by rw [hlgl]; decide)
    have h2 := h 0 (by show 0 < 3; decide)
    have h3 : lg[0].seq = 2 := by
      have := List.getElem_of_eq hlg (i := 0) (by rw [hlg]; decide)
      simpa using this
    rw [Nat.zero_mul, Nat.add_zero] at h2
    rw [← h3]
    exact h2
  obtain ⟨b5, o5, e5, h5⟩ := sl_int (pinl_sl (k2 _ _ cx.phi) (j := 1) (by decide) eb) (j := 0) (by decide)
  cases e5
  exact ⟨32, h5, fun w G cx => ⟨rfl, cx.left.weak toF⟩⟩
end Go.Proofs.YtebnciehcnedjaaGreatDoor
end

/-
  How great levels and runs become, in plain Lean.
-/
section
set_option linter.unusedVariables false
set_option linter.unusedSimpArgs false
namespace Go.Proofs.YtebnciehcnedjaaGreatDoor
open Go.Vc


/-- a run of the level i weighs 4^i -/
def lvW : Nat → List Lev → Nat
  | _, [] => 0
  | i, l :: t => l.length * 4 ^ i + lvW (i + 1) t
structure WtB (s : StD) (n : Nat) : Prop where
  wt : lvW 0 s.levels ≤ n + 4
  len : s.levels ≠ [] → 4 ^ (s.levels.length - 1) ≤ n + 4
theorem WtB.more {s : StD} {n : Nat} (h : WtB s n) : WtB s (n + 1) := ⟨by have := h.wt; omega, fun hn => by have := h.len hn; omega⟩
theorem WtB.few {s : StD} {n : Nat} (h : WtB s n) (hn : n ≤ 400) : s.levels.length ≤ 5 := by
  rcases Nat.lt_or_ge 5 s.levels.length with h1 | h1
  · exfalso
    have h2 := h.len (fun e => by rw [e] at h1; simp at h1)
    have h3 : 4 ^ 5 ≤ 4 ^ (s.levels.length - 1) := Nat.pow_le_pow_right (by decide) (by omega)
    have h4 : (4 : Nat) ^ 5 = 1024 := by decide
    omega
  · exact h1

/-! ### the sizes of runs -/
/-! ### what the sizes come to -/
end Go.Proofs.YtebnciehcnedjaaGreatDoor
end

/-
  What was put last, in plain Lean.
-/
section
set_option linter.unusedVariables false
set_option linter.unusedSimpArgs false
namespace Go.Proofs.YtebnciehcnedjaaGreatDoor
open Go.Vc


theorem and_seven (a : Int) : 0 ≤ andZ a 7 ∧ andZ a 7 ≤ 7 := by
  have h : (BitVec.ofInt 64 a &&& BitVec.ofInt 64 7).toNat = (BitVec.ofInt 64 a).toNat % 8 := by
    rw [BitVec.toNat_and]
    exact Nat.and_two_pow_sub_one_eq_mod (BitVec.ofInt 64 a).toNat 3
  unfold andZ
  rw [h]
  have h2 : (BitVec.ofInt 64 a).toNat % 8 < 8 := Nat.mod_lt _ (by decide)
  generalize (BitVec.ofInt 64 a).toNat % 8 = z at h2
  have e : IntKind.i64.wrap (z : Int) = z := by
    simp [IntKind.wrap, IntKind.signed, IntKind.bits]
    omega
  rw [e]; omega

/-- the changes so far, as pairs -/
def isPut (s : StD) (x : OpD) : Bool := decide (andZ x.dop 7 < 5) || (decide (andZ x.dop 7 = 6) && decide ((stepS s x).2 = 0))
def stepH (s : StD) (h : Run) (x : OpD) : Run := if isPut s x = true then h ++ [⟨x.key, x.val⟩] else h
/-- a store has what was put last -/
structure Last (s : StD) (h : Run) : Prop where
  get : ∀ k, getS s k = valK h.reverse k
  seq : s.seq = h.length
theorem new_last : Last stNew [] := ⟨fun k => rfl, rfl⟩
theorem valK_snoc (h : Run) (x : PairD) (k : ByteArray) : valK (h ++ [x]).reverse k = if x.key = k then x.val else valK h.reverse k := by
  rw [List.reverse_append, List.reverse_singleton, List.singleton_append]
  unfold valK
  show ((if x.key = k then some x.val else lookV h.reverse k)).getD tE = _
  split <;> rfl
theorem put_last {s : StD} (hI : StI s) {h : Run} (hL : Last s h) (k v : ByteArray) : Last (putS s k v) (h ++ [⟨k, v⟩]) :=
  ⟨fun q => by rw [put_get hI, valK_snoc, hL.get], by show s.seq + 1 = _; rw [hL.seq, List.length_append]; rfl⟩
theorem step_last {s : StD} (hI : StI s) {h : Run} (hL : Last s h) (x : OpD) : Last (stepS s x).1 (stepH s h x) := by
  have h7 := and_seven x.dop
  by_cases h5 : andZ x.dop 7 = 5
  · have e : isPut s x = false := by unfold isPut; rw [h5]; simp
    rw [show stepH s h x = h from if_neg (by rw [e]; simp), show stepS s x = (trimS s x.n, 0) from if_pos h5]
    exact ⟨hL.get, hL.seq⟩
  by_cases h6 : andZ x.dop 7 = 6
  · have e1 : stepS s x = ((applyS s x.n x.key x.val).2, (applyS s x.n x.key x.val).1) := by unfold stepS; rw [if_neg h5, if_pos h6]
    by_cases e : x.n = s.seq + 1
    · have ea : applyS s x.n x.key x.val = (0, putS s x.key x.val) := if_pos e
      have e2 : isPut s x = true := by unfold isPut; rw [h6, e1, ea]; rfl
      rw [show stepH s h x = h ++ [⟨x.key, x.val⟩] from if_pos e2, e1, ea]
      exact put_last hI hL _ _
    · have ea : applyS s x.n x.key x.val = (25, s) := if_neg e
      have e2 : isPut s x = false := by unfold isPut; rw [h6, e1, ea]; simp
      rw [show stepH s h x = h from if_neg (by rw [e2]; simp), e1, ea]
      exact hL
  by_cases he : andZ x.dop 7 = 7
  · have e2 : isPut s x = false := by unfold isPut; rw [he]; simp
    rw [show stepH s h x = h from if_neg (by rw [e2]; simp)]
    have e1 : stepS s x = if andZ x.n 1 = 0 then (s, 0) else (restS s.seq (allS s), 0) := by unfold stepS; rw [if_neg h5, if_neg h6, if_pos he]
    rw [e1]
    split
    · exact hL
    · refine ⟨fun k => ?_, hL.seq⟩
      rw [← hL.get, ← all_val s]
      show valK (verP (restS s.seq (allS s))) k = _
      rw [rest_ver]
  · have e1 : stepS s x = (putS s x.key x.val, 0) := by unfold stepS; rw [if_neg h5, if_neg h6, if_neg he]
    have e2 : isPut s x = true := by unfold isPut; rw [decide_eq_true (show andZ x.dop 7 < 5 by omega)]; rfl
    rw [show stepH s h x = h ++ [⟨x.key, x.val⟩] from if_pos e2, e1]
    exact put_last hI hL _ _

/-! ### counting -/
instance instDecMem (k : ByteArray) (l : List ByteArray) : Decidable (k ∈ l) := decidable_of_iff (l.any (fun y => decide (y = k)) = true) (by simp)
theorem look_mem {l : Run} {k : ByteArray} (h : valK l k ≠ tE) : k ∈ l.map PairD.key := by
  unfold valK at h
  cases e : lookV l k with
  | none => rw [e] at h; exact absurd rfl h
  | some v => exact List.mem_map.2 ⟨⟨k, v⟩, lookV_some e, rfl⟩
theorem all_keys {s : StD} {k : ByteArray} : k ∈ (allS s).map PairD.key ↔ getS s k ≠ tE := by
  constructor
  · intro h
    obtain ⟨x, hx, rfl⟩ := List.mem_map.1 h
    rw [all_get s x hx]
    exact all_ne s x hx
  · intro h
    exact List.mem_map.2 ⟨_, all_mem h, rfl⟩
theorem all_nodup (s : StD) : ((allS s).map PairD.key).Nodup := by
  refine List.pairwise_map.2 ((all_asc s).imp fun {a b} h e => ?_)
  rw [e, cmpT_cmp.refl] at h
  omega
/-- the keys that come up first among the first ones, and have a value -/
def firsts (s : StD) (h : Run) : Nat → List ByteArray
  | 0 => []
  | i + 1 => match h[i]? with
    | none => firsts s h i
    | some x => if x.key ∉ (h.take i).map PairD.key ∧ getS s x.key ≠ tE then firsts s h i ++ [x.key] else firsts s h i
theorem firsts_mem (s : StD) (h : Run) : ∀ i, i ≤ h.length → ∀ k, k ∈ firsts s h i ↔ k ∈ (h.take i).map PairD.key ∧ getS s k ≠ tE
  | 0, _, k => by simp [firsts]
  | i + 1, hi, k => by
    have ih := firsts_mem s h i (by omega) k
    have e : (h.take (i + 1)).map PairD.key = (h.take i).map PairD.key ++ [h[i].key] := by
      rw [List.take_succ_eq_append_getElem (by omega), List.map_append]; rfl
    unfold firsts
    rw [List.getElem?_eq_getElem (by omega), e]
    simp only [List.mem_append, List.mem_singleton]
    by_cases hc : h[i].key ∉ (h.take i).map PairD.key ∧ getS s h[i].key ≠ tE
    · rw [if_pos hc]
      simp only [List.mem_append, List.mem_singleton]
      rw [ih]
      constructor
      · rintro (⟨a, b⟩ | rfl)
        · exact ⟨.inl a, b⟩
        · exact ⟨.inr rfl, hc.2⟩
      · rintro ⟨a | rfl, b⟩
        · exact .inl ⟨a, b⟩
        · exact .inr rfl
    · rw [if_neg hc, ih]
      constructor
      · rintro ⟨a, b⟩
        exact ⟨.inl a, b⟩
      · rintro ⟨a | rfl, b⟩
        · exact ⟨a, b⟩
        · refine ⟨Decidable.byContradiction fun hn => hc ⟨hn, b⟩, b⟩
theorem firsts_nodup (s : StD) (h : Run) : ∀ i, i ≤ h.length → (firsts s h i).Nodup
  | 0, _ => .nil
  | i + 1, hi => by
    have ih := firsts_nodup s h i (by omega)
    unfold firsts
    rw [List.getElem?_eq_getElem (by omega)]
    simp only
    split
    · rename_i hc
      refine List.nodup_append.2 ⟨ih, List.nodup_cons.2 ⟨by simp, .nil⟩, fun a ha b hb e => ?_⟩
      rw [List.mem_singleton.1 hb] at e
      subst e
      exact hc.1 ((firsts_mem s h i (by omega) _).1 ha).1
    · exact ih
theorem firsts_all {s : StD} {h : Run} (hL : Last s h) : (firsts s h h.length).length = (allS s).length := by
  have hp : (firsts s h h.length).Perm ((allS s).map PairD.key) := (List.perm_ext_iff_of_nodup (firsts_nodup s h _ (Nat.le_refl _)) (all_nodup s)).2 fun k => by
    rw [firsts_mem s h _ (Nat.le_refl _), all_keys, List.take_length]
    constructor
    · exact fun h => h.2
    · intro hk
      refine ⟨?_, hk⟩
      rw [hL.get] at hk
      have := look_mem hk
      rw [List.map_reverse, List.mem_reverse] at this
      exact this
  rw [hp.length_eq, List.length_map]
theorem firsts_le (s : StD) (h : Run) : ∀ i, (firsts s h i).length ≤ i
  | 0 => Nat.le_refl _
  | i + 1 => by
    have := firsts_le s h i
    unfold firsts
    split
    · omega
    · split
      · rw [List.length_append, List.length_singleton]; omega
      · omega

/-- where an element stands among those that are kept -/
theorem filter_at {α : Type} (p : α → Bool) : ∀ (l : List α) (i : Nat) (h : i < l.length), p l[i] = true → (l.filter p)[((l.take i).filter p).length]? = some l[i]
  | x :: l, 0, _, hp => by
    have hx : p x = true := hp
    rw [List.filter_cons_of_pos hx]
    rfl
  | x :: l, i + 1, h, hp => by
    have ih := filter_at p l i (by simpa using h) hp
    rw [List.take_succ_cons]
    by_cases hx : p x = true
    · rw [List.filter_cons_of_pos hx, List.filter_cons_of_pos hx, List.length_cons, List.getElem?_cons_succ]
      exact ih
    · rw [List.filter_cons_of_neg hx, List.filter_cons_of_neg hx]
      exact ih
end Go.Proofs.YtebnciehcnedjaaGreatDoor
end

section
namespace Go.Proofs.YtebnciehcnedjaaGreatDoor
set_option linter.unusedVariables false
set_option linter.unusedSimpArgs false
set_option maxRecDepth 100000
open Go.Vc

end Go.Proofs.YtebnciehcnedjaaGreatDoor
end

section
namespace Go.Proofs.YtebnciehcnedjaaGreatDoor
set_option linter.unusedVariables false
set_option linter.unusedSimpArgs false
set_option maxRecDepth 100000
open Go.Vc

/-- erratalaw29.StorePlain -/
-- loop at region 43: 23 first, 24 k; blocks 
-- loop at region 39: 21 count, 22 i; blocks 
-- loop at region 27: 19 n, 20 i; blocks 
-- loop at region 9: 8 s, 9 keys, 10 values, 11 seq, 12 i; blocks 
-- cut 20: 9 keys, 10 values, 11 seq; blocks 
-- cut 31: ; blocks 
-- cut 48: 21 count; blocks 
def Merratalaw29_StorePlain (lP : Option Addr) (lN lC : Nat) (prefixx : ByteArray) (key : ByteArray) (W : World) (R : List Own) (Φ : PW) (J : Value → World → Prop) : Prop :=
  ∀ (w0 : World) (R1 : List Own), Ctx W w0 (R ++ R1) Φ → Calls Tryz.prog F.erratalaw29_small #[] w0 fun (e2 : Ending) (w3 : World) => ∃ (c4 : Bool), e2 = Ending.returned (Value.bool c4) ∧ ∃
  (R5 : List Own), ∃ (Φ6 : PW), Stable Φ6 ∧ Ctx W w3 (R5 ++ R1) Φ6 ∧ ∀ (w7 : World) (R8 : List Own), Ctx W w7 (R5 ++ R8) Φ6 → Calls Tryz.prog F.store_New #[] w7 fun (e9 : Ending) (w10 :
  World) => ∃ (p11 : Option Addr), e9 = Ending.returned (Value.pointer p11) ∧ ∃ (R12 : List Own), ∃ (Φ13 : PW), Stable Φ13 ∧ Ctx W w10 (R12 ++ R8) Φ13 ∧ ∀ (w14 : World) (R15 : List Own), Ctx
  W w14 (R12 ++ R15) Φ13 → Calls Tryz.prog F.erratalaw29_few #[Value.slice lP lN lC, Value.int IntKind.i64 200] w14 fun (e16 : Ending) (w17 : World) => ∃ (c18 : Bool), e16 = Ending.returned
  (Value.bool c18) ∧ ∃ (R19 : List Own), ∃ (Φ20 : PW), Stable Φ20 ∧ Ctx W w17 (R19 ++ R15) Φ20 ∧ Br (!c18) (∀ (w21 : World) (R22 : List Own), Ctx W w21 (R19 ++ R22) Φ20 → ∀ (w23 : World) (R24
  : List Own), Ctx W w23 (R19 ++ R24) Φ20 → J (Value.bool (c4 && !p11.isNone)) w23) (Br p11.isNone (∀ (w25 : World) (R26 : List Own), Ctx W w25 (R19 ++ R26) Φ20 → ∀ (w27 : World) (R28 : List
  Own), Ctx W w27 (R19 ++ R28) Φ20 → J (Value.bool (c4 && !p11.isNone)) w27) (exI fun (I29 : Option Addr → Option Addr → Nat → Nat → Option Addr → Nat → Nat → Int → Int → List Own → PW → Nat
  → Prop) => (∃ (R30 : List Own), ∃ (Φ31 : PW), ∃ (k32 : Nat), Stable Φ31 ∧ (∀ (w33 : World) (R34 : List Own), Ctx W w33 (R19 ++ R34) Φ20 → Ctx W w33 (R30 ++ R34) Φ31) ∧ I29 p11 none 0 0 none
  0 0 0 0 R30 Φ31 k32) ∧ ∀ (p35 p36 : Option Addr) (k37 k38 : Nat) (p39 : Option Addr) (k40 k41 : Nat) (n42 n43 : Int) (R44 : List Own) (I45 : List Nat → World → Prop) (k46 : Nat), Stable I45
  → I29 p35 p36 k37 k38 p39 k40 k41 n42 n43 R44 I45 k46 → Br (decide (n43 < (↑lN : Int))) ((0 ≤ n43 ∧ n43 < (↑lN : Int)) ∧ ptrK none lP fun (k47 k48 : Nat) => ∀ (w49 : World) (R50 : List
  Own), Ctx W w49 (R44 ++ R50) I45 → ∃ (n51 : Int), ∃ (n52 : Int), ∃ (s53 : ByteArray), ∃ (s54 : ByteArray), RowAt w49 k47 (k48 + n43.toNat * 4) [Value.int IntKind.i64 n51, Value.int
  IntKind.i64 n52, Value.string s53, Value.string s54] ∧ ∀ (w55 : World) (R56 : List Own), Ctx W w55 (R44 ++ R56) I45 → Calls Tryz.prog F.erratalaw29_do #[Value.pointer p35, Value.agg
  #[Value.int IntKind.i64 n51, Value.int IntKind.i64 n52, Value.string s53, Value.string s54]] w55 fun (e57 : Ending) (w58 : World) => ∃ (p59 : Option Addr), ∃ (n60 : Int), e57 =
  Ending.returned (Value.tuple #[Value.pointer p59, Value.int IntKind.i64 n60]) ∧ ∃ (R61 : List Own), ∃ (Φ62 : PW), Stable Φ62 ∧ Ctx W w58 (R61 ++ R56) Φ62 ∧ Br p59.isNone (∀ (w63 : World)
  (R64 : List Own), Ctx W w63 (R61 ++ R64) Φ62 → J (Value.bool false) w63) ((0 ≤ n43 ∧ n43 < (↑lN : Int)) ∧ ptrK none lP fun (k65 k66 : Nat) => ∀ (w67 : World) (R68 : List Own), Ctx W w67
  (R61 ++ R68) Φ62 → ∃ (n69 : Int), w67.cell? (Addr.mk k65 (k66 + n43.toNat * 4) none) = some (Value.int IntKind.i64 n69) ∧ ∃ (n70 : Int), (∀ (w71 : World), Sem.run Tryz.prog (binOp BinOp.and
  3 (Value.int IntKind.i64 n69) (Value.int IntKind.i64 7)) w71 = Result.ok (Value.int IntKind.i64 n70) w71) ∧ exI fun (I72 : Option Addr → Nat → Nat → Option Addr → Nat → Nat → Int → List Own
  → PW → Prop) => (∀ (w73 : World) (R74 : List Own), Ctx W w73 (R61 ++ R74) Φ62 → Br (decide (n70 < 5) || decide (n70 = 6) && decide (n60 = 0)) (I64 (n42 + 1) ∧ (0 ≤ n43 ∧ n43 < (↑lN : Int))
  ∧ ptrK none lP fun (k75 k76 : Nat) => ∀ (w77 : World) (R78 : List Own), Ctx W w77 (R61 ++ R78) Φ62 → ∃ (s79 : ByteArray), w77.cell? (Addr.mk k75 (k76 + n43.toNat * 4 + 2) none) = some
  (Value.string s79) ∧ ∀ (k80 : Nat) (w81 : World) (R82 : List Own), Ctx W w81 (Own.blk k80 [Value.string s79] 9 :: R61 ++ R82) Φ62 → ∃ (p83 : Option Addr), ∃ (k84 : Nat), ∃ (k85 : Nat), ∃
  (w86 : World), Sem.run Tryz.prog (builtin Builtin.append #[66, 66] 66 #[false, false] #[Value.slice p36 k37 k38, Value.slice (some (Addr.mk k80 0 none)) 1 1]) w81 = Result.ok (Next.value
  (Value.slice p83 k84 k85)) w86 ∧ ∃ (R87 : List Own), ∃ (Φ88 : PW), Stable Φ88 ∧ Ctx W w86 (R87 ++ R82) Φ88 ∧ (0 ≤ n43 ∧ n43 < (↑lN : Int)) ∧ ptrK none lP fun (k89 k90 : Nat) => ∀ (w91 :
  World) (R92 : List Own), Ctx W w91 (R87 ++ R92) Φ88 → ∃ (s93 : ByteArray), w91.cell? (Addr.mk k89 (k90 + n43.toNat * 4 + 3) none) = some (Value.string s93) ∧ ∀ (k94 : Nat) (w95 : World)
  (R96 : List Own), Ctx W w95 (Own.blk k94 [Value.string s93] 9 :: R87 ++ R96) Φ88 → ∃ (p97 : Option Addr), ∃ (k98 : Nat), ∃ (k99 : Nat), ∃ (w100 : World), Sem.run Tryz.prog (builtin
  Builtin.append #[66, 66] 66 #[false, false] #[Value.slice p39 k40 k41, Value.slice (some (Addr.mk k94 0 none)) 1 1]) w95 = Result.ok (Next.value (Value.slice p97 k98 k99)) w100 ∧ ∃ (R101 :
  List Own), ∃ (Φ102 : PW), Stable Φ102 ∧ Ctx W w100 (R101 ++ R96) Φ102 ∧ ∃ (R103 : List Own), ∃ (Φ104 : PW), Stable Φ104 ∧ (∀ (w105 : World) (R106 : List Own), Ctx W w105 (R101 ++ R106) Φ102
  → Ctx W w105 (R103 ++ R106) Φ104) ∧ I72 p83 k84 k85 p97 k98 k99 (n42 + 1) R103 Φ104) (∃ (R107 : List Own), ∃ (Φ108 : PW), Stable Φ108 ∧ (∀ (w109 : World) (R110 : List Own), Ctx W w109 (R61
  ++ R110) Φ62 → Ctx W w109 (R107 ++ R110) Φ108) ∧ I72 p36 k37 k38 p39 k40 k41 n42 R107 Φ108)) ∧ ∀ (p111 : Option Addr) (k112 k113 : Nat) (p114 : Option Addr) (k115 k116 : Nat) (n117 : Int)
  (R118 : List Own) (I119 : List Nat → World → Prop), Stable I119 → I72 p111 k112 k113 p114 k115 k116 n117 R118 I119 → ∀ (w120 : World) (R121 : List Own), Ctx W w120 (R118 ++ R121) I119 →
  Calls Tryz.prog F.store_Store_Seq #[Value.pointer p59] w120 fun (e122 : Ending) (w123 : World) => ∃ (n124 : Int), e122 = Ending.returned (Value.int IntKind.i64 n124) ∧ ∃ (R125 : List Own),
  ∃ (Φ126 : PW), Stable Φ126 ∧ Ctx W w123 (R125 ++ R121) Φ126 ∧ Br (decide (n124 ≠ n117)) (∀ (w127 : World) (R128 : List Own), Ctx W w127 (R125 ++ R128) Φ126 → J (Value.bool false) w127) (I64
  (n43 + 1) ∧ ∃ (R129 : List Own), ∃ (Φ130 : PW), ∃ (k131 : Nat), Stable Φ130 ∧ (∀ (w132 : World) (R133 : List Own), Ctx W w132 (R125 ++ R133) Φ126 → Ctx W w132 (R129 ++ R133) Φ130) ∧ I29 p59
  p111 k112 k113 p114 k115 k116 n117 (n43 + 1) R129 Φ130 k131 ∧ k131 < k46))) (∀ (w134 : World) (R135 : List Own), Ctx W w134 (R44 ++ R135) I45 → Calls Tryz.prog F.erratalaw29_latest
  #[Value.slice p36 k37 k38, Value.slice p39 k40 k41, Value.string key] w134 fun (e136 : Ending) (w137 : World) => ∃ (s138 : ByteArray), e136 = Ending.returned (Value.string s138) ∧ ∃ (R139 :
  List Own), ∃ (Φ140 : PW), Stable Φ140 ∧ Ctx W w137 (R139 ++ R135) Φ140 ∧ ∀ (w141 : World) (R142 : List Own), Ctx W w141 (R139 ++ R142) Φ140 → Calls Tryz.prog F.store_Store_Scan
  #[Value.pointer p35, Value.string (ByteArray.mk #[])] w141 fun (e143 : Ending) (w144 : World) => ∃ (p145 : Option Addr), ∃ (k146 : Nat), ∃ (k147 : Nat), e143 = Ending.returned (Value.slice
  p145 k146 k147) ∧ ∃ (R148 : List Own), ∃ (Φ149 : PW), Stable Φ149 ∧ Ctx W w144 (R148 ++ R142) Φ149 ∧ ∀ (w150 : World) (R151 : List Own), Ctx W w150 (R148 ++ R151) Φ149 → Calls Tryz.prog
  F.store_Store_Scan #[Value.pointer p35, Value.string prefixx] w150 fun (e152 : Ending) (w153 : World) => ∃ (p154 : Option Addr), ∃ (k155 : Nat), ∃ (k156 : Nat), e152 = Ending.returned
  (Value.slice p154 k155 k156) ∧ ∃ (R157 : List Own), ∃ (Φ158 : PW), Stable Φ158 ∧ Ctx W w153 (R157 ++ R151) Φ158 ∧ exI fun (I159 : Int → Int → List Own → PW → Nat → Prop) => (∃ (R160 : List
  Own), ∃ (Φ161 : PW), ∃ (k162 : Nat), Stable Φ161 ∧ (∀ (w163 : World) (R164 : List Own), Ctx W w163 (R157 ++ R164) Φ158 → Ctx W w163 (R160 ++ R164) Φ161) ∧ I159 0 0 R160 Φ161 k162) ∧ ∀ (n165
  n166 : Int) (R167 : List Own) (I168 : List Nat → World → Prop) (k169 : Nat), Stable I168 → I159 n165 n166 R167 I168 k169 → Br (decide (n166 < (↑k146 : Int))) (exI fun (I170 : List Own → PW
  → Prop) => (∃ (R171 : List Own), ∃ (Φ172 : PW), Stable Φ172 ∧ (∀ (w173 : World) (R174 : List Own), Ctx W w173 (R167 ++ R174) I168 → Ctx W w173 (R171 ++ R174) Φ172) ∧ (0 ≤ n166 ∧ n166 <
  (↑k146 : Int)) ∧ ptrK none p145 fun (k175 k176 : Nat) => ∃ (s177 : ByteArray), (∀ (w178 : World) (R179 : List Own), Ctx W w178 (R171 ++ R179) Φ172 → ∃ (s180 : ByteArray), w178.cell?
  (Addr.mk k175 (k176 + n166.toNat * 2 + 1) none) = some (Value.string s180) ∧ Value.string s180 = Value.string s177) ∧ Br (decide (s177 = ByteArray.mk #[])) (∀ (w181 : World) (R182 : List
  Own), Ctx W w181 (R167 ++ R182) I168 → J (Value.bool false) w181) (Br (decide (0 < n166)) (I64 (n166 - 1) ∧ (0 ≤ n166 ∧ n166 < (↑k146 : Int)) ∧ ptrK none p145 fun (k183 k184 : Nat) => (0 ≤
  max (n166 - 1) 0 ∧ max (n166 - 1) 0 < (↑k146 : Int)) ∧ ptrK none p145 fun (k185 k186 : Nat) => ∃ (s187 : ByteArray), (∀ (w188 : World) (R189 : List Own), Ctx W w188 (R171 ++ R189) Φ172 → ∃
  (s190 : ByteArray), w188.cell? (Addr.mk k183 (k184 + n166.toNat * 2) none) = some (Value.string s190) ∧ Value.string s190 = Value.string s187) ∧ ∃ (s191 : ByteArray), (∀ (w192 : World)
  (R193 : List Own), Ctx W w192 (R171 ++ R193) Φ172 → ∃ (s194 : ByteArray), w192.cell? (Addr.mk k185 (k186 + (max (n166 - 1) 0).toNat * 2) none) = some (Value.string s194) ∧ Value.string s194
  = Value.string s191) ∧ ∃ (c195 : Bool), (∀ (w196 : World), Sem.run Tryz.prog (binOp BinOp.geq 9 (Value.string s191) (Value.string s187)) w196 = Result.ok (Value.bool c195) w196) ∧ Br c195
  (∀ (w197 : World) (R198 : List Own), Ctx W w197 (R167 ++ R198) I168 → J (Value.bool false) w197) ((0 ≤ n166 ∧ n166 < (↑k146 : Int)) ∧ ptrK none p145 fun (k199 k200 : Nat) => (0 ≤ n166 ∧
  n166 < (↑k146 : Int)) ∧ ptrK none p145 fun (k201 k202 : Nat) => ∃ (s203 : ByteArray), (∀ (w204 : World) (R205 : List Own), Ctx W w204 (R171 ++ R205) Φ172 → ∃ (s206 : ByteArray), w204.cell?
  (Addr.mk k199 (k200 + n166.toNat * 2) none) = some (Value.string s206) ∧ Value.string s206 = Value.string s203) ∧ ∃ (s207 : ByteArray), (∀ (w208 : World) (R209 : List Own), Ctx W w208 (R171
  ++ R209) Φ172 → ∃ (s210 : ByteArray), w208.cell? (Addr.mk k201 (k202 + n166.toNat * 2 + 1) none) = some (Value.string s210) ∧ Value.string s210 = Value.string s207) ∧ ∀ (w211 : World) (R212
  : List Own), Ctx W w211 (R167 ++ R212) I168 → Calls Tryz.prog F.erratalaw29_latest #[Value.slice p36 k37 k38, Value.slice p39 k40 k41, Value.string s203] w211 fun (e213 : Ending) (w214 :
  World) => ∃ (s215 : ByteArray), e213 = Ending.returned (Value.string s215) ∧ ∃ (R216 : List Own), ∃ (Φ217 : PW), Stable Φ217 ∧ Ctx W w214 (R216 ++ R212) Φ217 ∧ (∀ (w218 : World) (R219 :
  List Own), Ctx W w218 (R216 ++ R219) Φ217 → Ctx W w218 (R171 ++ R219) Φ172) ∧ Br (decide (s215 ≠ s207)) (∀ (w220 : World) (R221 : List Own), Ctx W w220 (R216 ++ R221) Φ217 → J (Value.bool
  false) w220) (∃ (R222 : List Own), ∃ (Φ223 : PW), Stable Φ223 ∧ (∀ (w224 : World) (R225 : List Own), Ctx W w224 (R216 ++ R225) Φ217 → Ctx W w224 (R222 ++ R225) Φ223) ∧ I170 R222 Φ223))) ((0
  ≤ n166 ∧ n166 < (↑k146 : Int)) ∧ ptrK none p145 fun (k226 k227 : Nat) => (0 ≤ n166 ∧ n166 < (↑k146 : Int)) ∧ ptrK none p145 fun (k228 k229 : Nat) => ∃ (s230 : ByteArray), (∀ (w231 : World)
  (R232 : List Own), Ctx W w231 (R171 ++ R232) Φ172 → ∃ (s233 : ByteArray), w231.cell? (Addr.mk k226 (k227 + n166.toNat * 2) none) = some (Value.string s233) ∧ Value.string s233 =
  Value.string s230) ∧ ∃ (s234 : ByteArray), (∀ (w235 : World) (R236 : List Own), Ctx W w235 (R171 ++ R236) Φ172 → ∃ (s237 : ByteArray), w235.cell? (Addr.mk k228 (k229 + n166.toNat * 2 + 1)
  none) = some (Value.string s237) ∧ Value.string s237 = Value.string s234) ∧ ∀ (w238 : World) (R239 : List Own), Ctx W w238 (R167 ++ R239) I168 → Calls Tryz.prog F.erratalaw29_latest
  #[Value.slice p36 k37 k38, Value.slice p39 k40 k41, Value.string s230] w238 fun (e240 : Ending) (w241 : World) => ∃ (s242 : ByteArray), e240 = Ending.returned (Value.string s242) ∧ ∃ (R243
  : List Own), ∃ (Φ244 : PW), Stable Φ244 ∧ Ctx W w241 (R243 ++ R239) Φ244 ∧ (∀ (w245 : World) (R246 : List Own), Ctx W w245 (R243 ++ R246) Φ244 → Ctx W w245 (R171 ++ R246) Φ172) ∧ Br (decide
  (s242 ≠ s234)) (∀ (w247 : World) (R248 : List Own), Ctx W w247 (R243 ++ R248) Φ244 → J (Value.bool false) w247) (∃ (R249 : List Own), ∃ (Φ250 : PW), Stable Φ250 ∧ (∀ (w251 : World) (R252 :
  List Own), Ctx W w251 (R243 ++ R252) Φ244 → Ctx W w251 (R249 ++ R252) Φ250) ∧ I170 R249 Φ250)))) ∧ ∀ (R253 : List Own) (I254 : List Nat → World → Prop), Stable I254 → I170 R253 I254 → ∀
  (w255 : World) (R256 : List Own), Ctx W w255 (R253 ++ R256) I254 → (0 ≤ n166 ∧ n166 < (↑k146 : Int)) ∧ ptrK none p145 fun (k257 k258 : Nat) => ∃ (s259 : ByteArray), w255.cell? (Addr.mk k257
  (k258 + n166.toNat * 2) none) = some (Value.string s259) ∧ (decide ((↑prefixx.size : Int) ≤ (↑s259.size : Int)) = true → 0 ≤ n166 ∧ n166 < (↑k146 : Int)) ∧ ptrK (some (decide
  ((↑prefixx.size : Int) ≤ (↑s259.size : Int)))) p145 fun (k260 k261 : Nat) => ∃ (s262 : ByteArray), (decide ((↑prefixx.size : Int) ≤ (↑s259.size : Int)) = true → w255.cell? (Addr.mk k260
  (k261 + n166.toNat * 2) none) = some (Value.string s262)) ∧ (decide ((↑prefixx.size : Int) ≤ (↑s259.size : Int)) = true → 0 ≤ n166 ∧ n166 < (↑k146 : Int)) ∧ ptrK (some (decide
  ((↑prefixx.size : Int) ≤ (↑s259.size : Int)))) p145 fun (k263 k264 : Nat) => ∃ (s265 : ByteArray), (decide ((↑prefixx.size : Int) ≤ (↑s259.size : Int)) = true → w255.cell? (Addr.mk k263
  (k264 + n166.toNat * 2) none) = some (Value.string s265)) ∧ (decide ((↑prefixx.size : Int) ≤ (↑s259.size : Int)) = true → 0 ≤ min (↑prefixx.size : Int) (↑s265.size : Int) ∧ min
  (↑prefixx.size : Int) (↑s265.size : Int) ≤ (↑s262.size : Int)) ∧ Br (decide ((↑prefixx.size : Int) ≤ (↑s259.size : Int)) && decide (s262.extract 0 (min (↑prefixx.size : Int) (↑s265.size :
  Int)).toNat = prefixx)) (Br (decide ((↑k155 : Int) ≤ n165)) (∀ (w266 : World) (R267 : List Own), Ctx W w266 (R253 ++ R267) I254 → J (Value.bool false) w266) (∀ (w268 : World) (R269 : List
  Own), Ctx W w268 (R253 ++ R269) I254 → (0 ≤ n165 ∧ n165 < (↑k155 : Int)) ∧ ptrK none p154 fun (k270 k271 : Nat) => ∃ (s272 : ByteArray), ∃ (s273 : ByteArray), RowAt w268 k270 (k271 +
  n165.toNat * 2) [Value.string s272, Value.string s273] ∧ (0 ≤ n166 ∧ n166 < (↑k146 : Int)) ∧ ptrK none p145 fun (k274 k275 : Nat) => ∃ (s276 : ByteArray), ∃ (s277 : ByteArray), RowAt w268
  k274 (k275 + n166.toNat * 2) [Value.string s276, Value.string s277] ∧ okAgg Tryz.prog 69 = true ∧ Br (!(decide (s272 = s276) && (decide (s273 = s277) && true))) (∀ (w278 : World) (R279 :
  List Own), Ctx W w278 (R253 ++ R279) I254 → J (Value.bool false) w278) (I64 (n165 + 1) ∧ I64 (n166 + 1) ∧ ∃ (R280 : List Own), ∃ (Φ281 : PW), ∃ (k282 : Nat), Stable Φ281 ∧ (∀ (w283 : World)
  (R284 : List Own), Ctx W w283 (R253 ++ R284) I254 → Ctx W w283 (R280 ++ R284) Φ281) ∧ I159 (n165 + 1) (n166 + 1) R280 Φ281 k282 ∧ k282 < k169))) (I64 (n166 + 1) ∧ ∃ (R285 : List Own), ∃
  (Φ286 : PW), ∃ (k287 : Nat), Stable Φ286 ∧ (∀ (w288 : World) (R289 : List Own), Ctx W w288 (R253 ++ R289) I254 → Ctx W w288 (R285 ++ R289) Φ286) ∧ I159 n165 (n166 + 1) R285 Φ286 k287 ∧ k287
  < k169)) (exI fun (I290 : Int → Int → List Own → PW → Nat → Prop) => (∃ (R291 : List Own), ∃ (Φ292 : PW), ∃ (k293 : Nat), Stable Φ292 ∧ (∀ (w294 : World) (R295 : List Own), Ctx W w294 (R167
  ++ R295) I168 → Ctx W w294 (R291 ++ R295) Φ292) ∧ I290 0 0 R291 Φ292 k293) ∧ ∀ (n296 n297 : Int) (R298 : List Own) (I299 : List Nat → World → Prop) (k300 : Nat), Stable I299 → I290 n296
  n297 R298 I299 k300 → Br (decide (n297 < (↑k37 : Int))) (exI fun (I301 : Bool → Int → List Own → PW → Nat → Prop) => (∃ (R302 : List Own), ∃ (Φ303 : PW), ∃ (k304 : Nat), Stable Φ303 ∧ (∀
  (w305 : World) (R306 : List Own), Ctx W w305 (R298 ++ R306) I299 → Ctx W w305 (R302 ++ R306) Φ303) ∧ I301 true 0 R302 Φ303 k304) ∧ ∀ (c307 : Bool) (n308 : Int) (R309 : List Own) (I310 :
  List Nat → World → Prop) (k311 : Nat), Stable I310 → I301 c307 n308 R309 I310 k311 → Br (decide (n308 < n297)) (∀ (w312 : World) (R313 : List Own), Ctx W w312 (R309 ++ R313) I310 → (c307 =
  true → 0 ≤ n308 ∧ n308 < (↑k37 : Int)) ∧ ptrK (some c307) p36 fun (k314 k315 : Nat) => ∃ (s316 : ByteArray), (c307 = true → w312.cell? (Addr.mk k314 (k315 + n308.toNat) none) = some
  (Value.string s316)) ∧ (c307 = true → 0 ≤ n297 ∧ n297 < (↑k37 : Int)) ∧ ptrK (some c307) p36 fun (k317 k318 : Nat) => ∃ (s319 : ByteArray), (c307 = true → w312.cell? (Addr.mk k317 (k318 +
  n297.toNat) none) = some (Value.string s319)) ∧ I64 (n308 + 1) ∧ ∃ (R320 : List Own), ∃ (Φ321 : PW), ∃ (k322 : Nat), Stable Φ321 ∧ (∀ (w323 : World) (R324 : List Own), Ctx W w323 (R309 ++
  R324) I310 → Ctx W w323 (R320 ++ R324) Φ321) ∧ I301 (c307 && decide (s316 ≠ s319)) (n308 + 1) R320 Φ321 k322 ∧ k322 < k311) (exI fun (I325 : Int → List Own → PW → Prop) => Br c307 ((0 ≤
  n297 ∧ n297 < (↑k37 : Int)) ∧ ptrK none p36 fun (k326 k327 : Nat) => ∀ (w328 : World) (R329 : List Own), Ctx W w328 (R309 ++ R329) I310 → ∃ (s330 : ByteArray), w328.cell? (Addr.mk k326
  (k327 + n297.toNat) none) = some (Value.string s330) ∧ ∀ (w331 : World) (R332 : List Own), Ctx W w331 (R309 ++ R332) I310 → Calls Tryz.prog F.erratalaw29_latest #[Value.slice p36 k37 k38,
  Value.slice p39 k40 k41, Value.string s330] w331 fun (e333 : Ending) (w334 : World) => ∃ (s335 : ByteArray), e333 = Ending.returned (Value.string s335) ∧ ∃ (R336 : List Own), ∃ (Φ337 : PW),
  Stable Φ337 ∧ Ctx W w334 (R336 ++ R332) Φ337 ∧ Br (decide (s335 ≠ ByteArray.mk #[])) (I64 (n296 + 1) ∧ ∃ (R338 : List Own), ∃ (Φ339 : PW), Stable Φ339 ∧ (∀ (w340 : World) (R341 : List Own),
  Ctx W w340 (R336 ++ R341) Φ337 → Ctx W w340 (R338 ++ R341) Φ339) ∧ I325 (n296 + 1) R338 Φ339) (∃ (R342 : List Own), ∃ (Φ343 : PW), Stable Φ343 ∧ (∀ (w344 : World) (R345 : List Own), Ctx W
  w344 (R336 ++ R345) Φ337 → Ctx W w344 (R342 ++ R345) Φ343) ∧ I325 n296 R342 Φ343)) (∃ (R346 : List Own), ∃ (Φ347 : PW), Stable Φ347 ∧ (∀ (w348 : World) (R349 : List Own), Ctx W w348 (R309
  ++ R349) I310 → Ctx W w348 (R346 ++ R349) Φ347) ∧ I325 n296 R346 Φ347) ∧ ∀ (n350 : Int) (R351 : List Own) (I352 : List Nat → World → Prop), Stable I352 → I325 n350 R351 I352 → ∃ (R353 :
  List Own), ∃ (Φ354 : PW), Stable Φ354 ∧ (∀ (w355 : World) (R356 : List Own), Ctx W w355 (R351 ++ R356) I352 → Ctx W w355 (R353 ++ R356) Φ354) ∧ (0 ≤ n297 ∧ n297 < (↑k37 : Int)) ∧ ptrK none
  p36 fun (k357 k358 : Nat) => (0 ≤ n297 ∧ n297 < (↑k37 : Int)) ∧ ptrK none p36 fun (k359 k360 : Nat) => ∃ (s361 : ByteArray), (∀ (w362 : World) (R363 : List Own), Ctx W w362 (R353 ++ R363)
  Φ354 → ∃ (s364 : ByteArray), w362.cell? (Addr.mk k357 (k358 + n297.toNat) none) = some (Value.string s364) ∧ Value.string s364 = Value.string s361) ∧ ∃ (s365 : ByteArray), (∀ (w366 : World)
  (R367 : List Own), Ctx W w366 (R353 ++ R367) Φ354 → ∃ (s368 : ByteArray), w366.cell? (Addr.mk k359 (k360 + n297.toNat) none) = some (Value.string s368) ∧ Value.string s368 = Value.string
  s365) ∧ ∀ (w369 : World) (R370 : List Own), Ctx W w369 (R351 ++ R370) I352 → Calls Tryz.prog F.store_Store_Get #[Value.pointer p35, Value.string s361] w369 fun (e371 : Ending) (w372 :
  World) => ∃ (s373 : ByteArray), e371 = Ending.returned (Value.string s373) ∧ ∃ (R374 : List Own), ∃ (Φ375 : PW), Stable Φ375 ∧ Ctx W w372 (R374 ++ R370) Φ375 ∧ (∀ (w376 : World) (R377 :
  List Own), Ctx W w376 (R374 ++ R377) Φ375 → Ctx W w376 (R353 ++ R377) Φ354) ∧ ∀ (w378 : World) (R379 : List Own), Ctx W w378 (R374 ++ R379) Φ375 → Calls Tryz.prog F.erratalaw29_latest
  #[Value.slice p36 k37 k38, Value.slice p39 k40 k41, Value.string s365] w378 fun (e380 : Ending) (w381 : World) => ∃ (s382 : ByteArray), e380 = Ending.returned (Value.string s382) ∧ ∃ (R383
  : List Own), ∃ (Φ384 : PW), Stable Φ384 ∧ Ctx W w381 (R383 ++ R379) Φ384 ∧ Br (decide (s373 ≠ s382)) (∀ (w385 : World) (R386 : List Own), Ctx W w385 (R383 ++ R386) Φ384 → J (Value.bool
  false) w385) (I64 (n297 + 1) ∧ ∃ (R387 : List Own), ∃ (Φ388 : PW), ∃ (k389 : Nat), Stable Φ388 ∧ (∀ (w390 : World) (R391 : List Own), Ctx W w390 (R383 ++ R391) Φ384 → Ctx W w390 (R387 ++
  R391) Φ388) ∧ I290 n350 (n297 + 1) R387 Φ388 k389 ∧ k389 < k300))) (Br c4 (∀ (w392 : World) (R393 : List Own), Ctx W w392 (R298 ++ R393) I299 → Calls Tryz.prog F.store_Store_Get
  #[Value.pointer p35, Value.string key] w392 fun (e394 : Ending) (w395 : World) => ∃ (s396 : ByteArray), e394 = Ending.returned (Value.string s396) ∧ ∃ (R397 : List Own), ∃ (Φ398 : PW),
  Stable Φ398 ∧ Ctx W w395 (R397 ++ R393) Φ398 ∧ Br (decide (s396 = s138)) (Br (decide (n165 = (↑k155 : Int))) (Br (decide ((↑k146 : Int) = n296)) (∀ (w399 : World) (R400 : List Own), Ctx W
  w399 (R397 ++ R400) Φ398 → Calls Tryz.prog F.store_Store_Len #[Value.pointer p35] w399 fun (e401 : Ending) (w402 : World) => ∃ (n403 : Int), e401 = Ending.returned (Value.int IntKind.i64
  n403) ∧ ∃ (R404 : List Own), ∃ (Φ405 : PW), Stable Φ405 ∧ Ctx W w402 (R404 ++ R400) Φ405 ∧ ∀ (w406 : World) (R407 : List Own), Ctx W w406 (R404 ++ R407) Φ405 → J (Value.bool (decide (n403 =
  n296))) w406) (∀ (w408 : World) (R409 : List Own), Ctx W w408 (R397 ++ R409) Φ398 → J (Value.bool false) w408)) (∀ (w410 : World) (R411 : List Own), Ctx W w410 (R397 ++ R411) Φ398 → J
  (Value.bool false) w410)) (∀ (w412 : World) (R413 : List Own), Ctx W w412 (R397 ++ R413) Φ398 → J (Value.bool false) w412)) (∀ (w414 : World) (R415 : List Own), Ctx W w414 (R298 ++ R415)
  I299 → J (Value.bool false) w414))))))

theorem Merratalaw29_StorePlain_run (lP : Option Addr) (lN lC : Nat) (prefixx : ByteArray) (key : ByteArray) {W w : World} {R : List Own} {Φ : PW} [Stable Φ] {J : Value → World → Prop} (c : Ctx W w R Φ) (h : Merratalaw29_StorePlain lP lN lC prefixx key W R Φ J) : Calls Tryz.prog F.erratalaw29_StorePlain #[.slice lP lN lC, .string prefixx, .string key] w fun e w' => ∃ v, e = .returned v ∧ J v w' :=
  vcFS_sound (H := { keep := some [0, 1, 2, 6, 7, 8, 9, 10, 11, 12, 13, 14, 15, 16, 17, 18, 19, 20, 21, 22, 23, 24, 33, 42, 55, 72, 94, 107, 150, 178, 182, 191, 197, 202, 227, 243], stages := [(29, [.held [(0, true), (1, true), (2, true), (3, true), (4, true), (5, true), (6, true), (7, true), (8, true), (9, true), (10, true), (11, true), (17, true), (18, true), (12, true), (19, true), (13, true), (20, true), (14, true), (21, true), (15, true), (16, true), (22, true), (23, true), (24, true), (25, true), (26, true), (27, true), (28, true), (29, true), (34, true), (35, true), (30, true), (36, true), (31, true), (37, true), (32, true), (38, true), (33, false)], .stage [39, 40] none]), (48, [.held [(0, true), (1, true), (2, true), (6, true), (7, true), (8, true), (9, true), (3, true), (10, true), (4, true), (11, true), (5, false)], .stage [] (some 12), .stage [13] none])], split := [3, 46, 50], loops := [(43, [(23, .one (.bool)), (24, .one (.int .i64))], []), (39, [(21, .one (.int .i64)), (22, .one (.int .i64))], []), (27, [(19, .one (.int .i64)), (20, .one (.int .i64))], []), (9, [(8, .one (.ptr)), (9, .one (.slice)), (10, .one (.slice)), (11, .one (.int .i64)), (12, .one (.int .i64))], [])], cuts := [(20, [(9, .one (.slice)), (10, .one (.slice)), (11, .one (.int .i64))], []), (31, [], []), (48, [(21, .one (.int .i64))], [])] }) (by rw [show vcFS Tryz.prog W { keep := some [0, 1, 2, 6, 7, 8, 9, 10, 11, 12, 13, 14, 15, 16, 17, 18, 19, 20, 21, 22, 23, 24, 33, 42, 55, 72, 94, 107, 150, 178, 182, 191, 197, 202, 227, 243], stages := [(29, [.held [(0, true), (1, true), (2, true), (3, true), (4, true), (5, true), (6, true), (7, true), (8, true), (9, true), (10, true), (11, true), (17, true), (18, true), (12, true), (19, true), (13, true), (20, true), (14, true), (21, true), (15, true), (16, true), (22, true), (23, true), (24, true), (25, true), (26, true), (27, true), (28, true), (29, true), (34, true), (35, true), (30, true), (36, true), (31, true), (37, true), (32, true), (38, true), (33, false)], .stage [39, 40] none]), (48, [.held [(0, true), (1, true), (2, true), (6, true), (7, true), (8, true), (9, true), (3, true), (10, true), (4, true), (11, true), (5, false)], .stage [] (some 12), .stage [13] none])], split := [3, 46, 50], loops := [(43, [(23, .one (.bool)), (24, .one (.int .i64))], []), (39, [(21, .one (.int .i64)), (22, .one (.int .i64))], []), (27, [(19, .one (.int .i64)), (20, .one (.int .i64))], []), (9, [(8, .one (.ptr)), (9, .one (.slice)), (10, .one (.slice)), (11, .one (.int .i64)), (12, .one (.int .i64))], [])], cuts := [(20, [(9, .one (.slice)), (10, .one (.slice)), (11, .one (.int .i64))], []), (31, [], []), (48, [(21, .one (.int .i64))], [])] } F.erratalaw29_StorePlain #[.slice lP lN lC, .string prefixx, .string key] R Φ J = Merratalaw29_StorePlain lP lN lC prefixx key W R Φ J by kernel_rfl]; exact h) c

end Go.Proofs.YtebnciehcnedjaaGreatDoor
end

/-
  What was put last, walked.
-/
section
set_option linter.unusedVariables false
set_option linter.unusedSimpArgs false
namespace Go.Proofs.YtebnciehcnedjaaGreatDoor
open Go.Vc


theorem sl_s {M : List Nat} {w : World} {b o : Nat} {l : List ByteArray} (h : Sl M w (some ⟨b, o, none⟩) l) {j : Nat} (hj : j < l.length) : w.cell? ⟨b, o + j, none⟩ = some (.string l[j]) := by
  obtain ⟨b', o', cs, e, _, h3, h4⟩ := h j hj
  cases e
  obtain ⟨rfl, _⟩ := h4
  have := h3 0 (by simp)
  rw [show (Gv.ty ByteArray).size = 1 from rfl, Nat.mul_one] at this
  simpa using this
abbrev keysH (h : Run) : List ByteArray := h.map PairD.key
abbrev valsH (h : Run) : List ByteArray := h.map PairD.val
theorem last_snoc {h : Run} {i : Nat} (hi : i < h.length) (k : ByteArray) : valK (h.take (i + 1)).reverse k = if h[i].key = k then h[i].val else valK (h.take i).reverse k := by
  rw [List.take_succ_eq_append_getElem hi, valK_snoc]
theorem latest_in {Φ : PW} [Stable Φ] {p q : Option Addr} {c d : Nat} {h : Run} (h1 : ∀ M w, Φ M w → Sl M w p (keysH h)) (h2 : ∀ M w, Φ M w → Sl M w q (valsH h)) (hl : h.length ≤ 1000000) (key : ByteArray) :
    GivesIn Φ Tryz.prog F.erratalaw29_latest #[.slice p h.length c, .slice q h.length d, .string key] (.string (valK h.reverse key)) := by
  refine .there (fun M w x => (h1 M w x).there) fun ht1 => .there (fun M w x => (h2 M w x).there) fun ht2 => ?_
  rw [List.length_map] at ht1 ht2
  refine gives_in (Berratalaw29_latest_run p h.length c q h.length d key) fun W R => ⟨by unfold I64; omega, ?_⟩
  refine exI_mk (fun n R' Φ' k => ∃ i : Nat, n = (i : Int) - 1 ∧ i ≤ h.length ∧ valK h.reverse key = valK (h.take i).reverse key ∧ R' = R ∧ Φ' = Φ ∧ k = i) ⟨⟨R, Φ, _, inferInstance, fun w G cx => cx, h.length, rfl, Nat.le_refl _, by rw [List.take_length], rfl, rfl, rfl⟩, ?_⟩
  rintro n R1 Φ1 k _ ⟨i, rfl, hi, he, rfl, rfl, rfl⟩
  refine Br.intro (fun hlt => ?_) (fun hge => fun w G cx => ⟨?_, cx.left⟩)
  · have hlt : 0 < k := by have := of_decide_eq_true hlt; omega
    obtain ⟨j, rfl⟩ : ∃ j, k = j + 1 := ⟨k - 1, by omega⟩
    obtain ⟨b1, o1, rfl⟩ := ht1 (by omega)
    obtain ⟨b2, o2, rfl⟩ := ht2 (by omega)
    have hj : j < h.length := by omega
    have hls := last_snoc hj key
    have e1 : (((j + 1 : Nat) : Int) - 1).toNat = j := by omega
    refine ⟨⟨by omega, by omega⟩, ptrK_intro b1 o1 rfl fun w G cx => ⟨h[j].key, ?_, Br.intro (fun hk => ⟨⟨by omega, by omega⟩, ptrK_intro b2 o2 rfl fun w G cx => ⟨h[j].val, ?_, fun w G cx => ⟨?_, cx.left⟩⟩⟩) (fun hk => ⟨by unfold I64; omega, R1, Φ1, j, inferInstance, fun w G cx => cx, ⟨j, by omega, by omega, ?_, rfl, rfl, rfl⟩, by omega⟩)⟩⟩
    · rw [e1]
      have := sl_s (h1 _ _ cx.phi) (j := j) (by rw [List.length_map]; exact hj)
      rwa [List.getElem_map] at this
    · rw [e1]
      have := sl_s (h2 _ _ cx.phi) (j := j) (by rw [List.length_map]; exact hj)
      rwa [List.getElem_map] at this
    · rw [he, hls, if_pos (of_decide_eq_true hk)]
    · rw [he, hls, if_neg (of_decide_eq_false hk)]
  · have hge : k = 0 := by have := of_decide_eq_false hge; omega
    subst hge
    rw [he]
    rfl
end Go.Proofs.YtebnciehcnedjaaGreatDoor
end

/-
  StoreBounds, walked.
-/
section
set_option linter.unusedVariables false
set_option linter.unusedSimpArgs false
namespace Go.Proofs.YtebnciehcnedjaaGreatDoor
open Go.Vc


theorem st_drop {W w : World} {R G : List Own} {Φ : PW} [Stable Φ] {q : TO} {s : StD} (cx : Ctx W w (stO q s R ++ G) (fun M w => Φ M w ∧ stF q s M w)) : Ctx W w R Φ := by
  have c1 : Ctx W w (stO q s [] ++ (R ++ G)) (fun M w => Φ M w ∧ stF q s M w) := (cx.re (stO_re q s R G)).re (stO_app q s (R ++ G))
  have hst : Stable (fun M w => Φ M w ∧ stF q s M w) := instStableSt Φ q s
  have c2 := Ctx.right c1
  exact (c2.weak (Ψ := Φ) fun M w h => h.1).left

end Go.Proofs.YtebnciehcnedjaaGreatDoor
end

