/-
  The conditions of the walks of some functions, one formula each; 'B<f>_run' says that they suffice. The formulas are printed by a program; the kernel compares them with the functions' code.
-/
import Derived.Test.YtebnciehcnedjaaGreatDoorSRs6
import Derived.Test.YtebnciehcnedjaaGreatDoorSRs8
import Derived.Test.YtebnciehcnedjaaGreatDoorSRs7
import Derived.Laws.IdiomStrings

section
namespace Go.Proofs.YtebnciehcnedjaaGreatDoor
set_option linter.unusedVariables false
set_option linter.unusedSimpArgs false
set_option maxRecDepth 100000
open Go.Vc

/-- erratalaw29.StoreRestores -/
-- loop at region 16: 15 i; blocks 
def Berratalaw29_StoreRestores (s : ByteArray) (lP : Option Addr) (lN lC : Nat) (W : World) (R : List Own) (Φ : PW) (J : Value → World → Prop) : Prop :=
  ∀ (w0 : World) (R1 : List Own), Ctx W w0 (R ++ R1) Φ → Calls Tryz.prog F.erratalaw29_small #[] w0 fun (e2 : Ending) (w3 : World) => ∃ (c4 : Bool), e2 = Ending.returned (Value.bool c4) ∧ ∃
  (R5 : List Own), ∃ (Φ6 : PW), Stable Φ6 ∧ Ctx W w3 (R5 ++ R1) Φ6 ∧ Br (decide (300 < (↑s.size : Int))) (∀ (w7 : World) (R8 : List Own), Ctx W w7 (R5 ++ R8) Φ6 → J (Value.bool c4) w7) (∀ (w9
  : World) (R10 : List Own), Ctx W w9 (R5 ++ R10) Φ6 → Calls Tryz.prog F.erratalaw29_few #[Value.slice lP lN lC, Value.int IntKind.i64 50] w9 fun (e11 : Ending) (w12 : World) => ∃ (c13 :
  Bool), e11 = Ending.returned (Value.bool c13) ∧ ∃ (R14 : List Own), ∃ (Φ15 : PW), Stable Φ15 ∧ Ctx W w12 (R14 ++ R10) Φ15 ∧ Br (!c13) (∀ (w16 : World) (R17 : List Own), Ctx W w16 (R14 ++
  R17) Φ15 → J (Value.bool c4) w16) (∀ (w18 : World) (R19 : List Own), Ctx W w18 (R14 ++ R19) Φ15 → Calls Tryz.prog F.store_Restore #[Value.string s] w18 fun (e20 : Ending) (w21 : World) => ∃
  (p22 : Option Addr), ∃ (c23 : Bool), e20 = Ending.returned (Value.tuple #[Value.pointer p22, Value.bool c23]) ∧ ∃ (R24 : List Own), ∃ (Φ25 : PW), Stable Φ25 ∧ Ctx W w21 (R24 ++ R19) Φ25 ∧ ∀
  (w26 : World) (R27 : List Own), Ctx W w26 (R24 ++ R27) Φ25 → Calls Tryz.prog F.errataref29_Restore #[Value.string s] w26 fun (e28 : Ending) (w29 : World) => ∃ (p30 : Option Addr), ∃ (c31 :
  Bool), e28 = Ending.returned (Value.tuple #[Value.pointer p30, Value.bool c31]) ∧ ∃ (R32 : List Own), ∃ (Φ33 : PW), Stable Φ33 ∧ Ctx W w29 (R32 ++ R27) Φ33 ∧ ∀ (w34 : World) (R35 : List
  Own), Ctx W w34 (R32 ++ R35) Φ33 → Br (c23 != c31 || c23 != !p22.isNone) (∀ (w36 : World) (R37 : List Own), Ctx W w36 (R32 ++ R37) Φ33 → J (Value.bool false) w36) (Br p22.isNone (∀ (w38 :
  World) (R39 : List Own), Ctx W w38 (R32 ++ R39) Φ33 → J (Value.bool c4) w38) (∀ (w40 : World) (R41 : List Own), Ctx W w40 (R32 ++ R41) Φ33 → Calls Tryz.prog F.store_Store_Seq
  #[Value.pointer p22] w40 fun (e42 : Ending) (w43 : World) => ∃ (n44 : Int), e42 = Ending.returned (Value.int IntKind.i64 n44) ∧ ∃ (R45 : List Own), ∃ (Φ46 : PW), Stable Φ46 ∧ Ctx W w43 (R45
  ++ R41) Φ46 ∧ I64 (n44 - 1) ∧ ∀ (w47 : World) (R48 : List Own), Ctx W w47 (R45 ++ R48) Φ46 → Calls Tryz.prog F.store_Store_Since #[Value.pointer p22, Value.int IntKind.i64 (n44 - 1)] w47
  fun (e49 : Ending) (w50 : World) => ∃ (p51 : Option Addr), ∃ (k52 : Nat), ∃ (k53 : Nat), ∃ (n54 : Int), e49 = Ending.returned (Value.tuple #[Value.slice p51 k52 k53, Value.int IntKind.i64
  n54]) ∧ ∃ (R55 : List Own), ∃ (Φ56 : PW), Stable Φ56 ∧ Ctx W w50 (R55 ++ R48) Φ56 ∧ ∀ (w57 : World) (R58 : List Own), Ctx W w57 (R55 ++ R58) Φ56 → Calls Tryz.prog F.store_Store_Seq
  #[Value.pointer p22] w57 fun (e59 : Ending) (w60 : World) => ∃ (n61 : Int), e59 = Ending.returned (Value.int IntKind.i64 n61) ∧ ∃ (R62 : List Own), ∃ (Φ63 : PW), Stable Φ63 ∧ Ctx W w60 (R62
  ++ R58) Φ63 ∧ ∀ (w64 : World) (R65 : List Own), Ctx W w64 (R62 ++ R65) Φ63 → Calls Tryz.prog F.store_Store_Since #[Value.pointer p22, Value.int IntKind.i64 n61] w64 fun (e66 : Ending) (w67
  : World) => ∃ (p68 : Option Addr), ∃ (k69 : Nat), ∃ (k70 : Nat), ∃ (n71 : Int), e66 = Ending.returned (Value.tuple #[Value.slice p68 k69 k70, Value.int IntKind.i64 n71]) ∧ ∃ (R72 : List
  Own), ∃ (Φ73 : PW), Stable Φ73 ∧ Ctx W w67 (R72 ++ R65) Φ73 ∧ ∀ (w74 : World) (R75 : List Own), Ctx W w74 (R72 ++ R75) Φ73 → Calls Tryz.prog F.store_Store_Copy #[Value.pointer p22] w74 fun
  (e76 : Ending) (w77 : World) => ∃ (p78 : Option Addr), e76 = Ending.returned (Value.pointer p78) ∧ ∃ (R79 : List Own), ∃ (Φ80 : PW), Stable Φ80 ∧ Ctx W w77 (R79 ++ R75) Φ80 ∧ Br p78.isNone
  (∀ (w81 : World) (R82 : List Own), Ctx W w81 (R79 ++ R82) Φ80 → J (Value.bool false) w81) (∀ (w83 : World) (R84 : List Own), Ctx W w83 (R79 ++ R84) Φ80 → Calls Tryz.prog
  F.store_Store_Snapshot #[Value.pointer p22] w83 fun (e85 : Ending) (w86 : World) => ∃ (s87 : ByteArray), e85 = Ending.returned (Value.string s87) ∧ ∃ (R88 : List Own), ∃ (Φ89 : PW), Stable
  Φ89 ∧ Ctx W w86 (R88 ++ R84) Φ89 ∧ Br (decide (s87 ≠ s)) (∀ (w90 : World) (R91 : List Own), Ctx W w90 (R88 ++ R91) Φ89 → J (Value.bool false) w90) (Br (decide (n54 ≠ 3)) (∀ (w92 : World)
  (R93 : List Own), Ctx W w92 (R88 ++ R93) Φ89 → J (Value.bool false) w92) (Br (decide (n71 ≠ 0)) (∀ (w94 : World) (R95 : List Own), Ctx W w94 (R88 ++ R95) Φ89 → J (Value.bool false) w94) (Br
  (decide ((↑k69 : Int) ≠ 0)) (∀ (w96 : World) (R97 : List Own), Ctx W w96 (R88 ++ R97) Φ89 → J (Value.bool false) w96) (exI fun (I98 : Int → List Own → PW → Nat → Prop) => (∃ (R99 : List
  Own), ∃ (Φ100 : PW), ∃ (k101 : Nat), Stable Φ100 ∧ (∀ (w102 : World) (R103 : List Own), Ctx W w102 (R88 ++ R103) Φ89 → Ctx W w102 (R99 ++ R103) Φ100) ∧ I98 0 R99 Φ100 k101) ∧ ∀ (n104 : Int)
  (R105 : List Own) (I106 : List Nat → World → Prop) (k107 : Nat), Stable I106 → I98 n104 R105 I106 k107 → Br (decide (n104 < (↑lN : Int))) (∃ (R108 : List Own), ∃ (Φ109 : PW), Stable Φ109 ∧
  (∀ (w110 : World) (R111 : List Own), Ctx W w110 (R105 ++ R111) I106 → Ctx W w110 (R108 ++ R111) Φ109) ∧ (0 ≤ n104 ∧ n104 < (↑lN : Int)) ∧ ptrK none lP fun (k112 k113 : Nat) => (0 ≤ n104 ∧
  n104 < (↑lN : Int)) ∧ ptrK none lP fun (k114 k115 : Nat) => ∃ (s116 : ByteArray), (∀ (w117 : World) (R118 : List Own), Ctx W w117 (R108 ++ R118) Φ109 → ∃ (s119 : ByteArray), w117.cell?
  (Addr.mk k112 (k113 + n104.toNat * 4 + 2) none) = some (Value.string s119) ∧ Value.string s119 = Value.string s116) ∧ ∃ (s120 : ByteArray), (∀ (w121 : World) (R122 : List Own), Ctx W w121
  (R108 ++ R122) Φ109 → ∃ (s123 : ByteArray), w121.cell? (Addr.mk k114 (k115 + n104.toNat * 4 + 3) none) = some (Value.string s123) ∧ Value.string s123 = Value.string s120) ∧ ∀ (w124 : World)
  (R125 : List Own), Ctx W w124 (R105 ++ R125) I106 → Calls Tryz.prog F.store_Store_Put #[Value.pointer p22, Value.string s116, Value.string s120] w124 fun (e126 : Ending) (w127 : World) =>
  e126 = Ending.returned (Value.tuple #[]) ∧ ∃ (R128 : List Own), ∃ (Φ129 : PW), Stable Φ129 ∧ Ctx W w127 (R128 ++ R125) Φ129 ∧ I64 (n104 + 1) ∧ ∃ (R130 : List Own), ∃ (Φ131 : PW), ∃ (k132 :
  Nat), Stable Φ131 ∧ (∀ (w133 : World) (R134 : List Own), Ctx W w133 (R128 ++ R134) Φ129 → Ctx W w133 (R130 ++ R134) Φ131) ∧ I98 (n104 + 1) R130 Φ131 k132 ∧ k132 < k107) (Br c4 (∀ (w135 :
  World) (R136 : List Own), Ctx W w135 (R105 ++ R136) I106 → Calls Tryz.prog F.store_Store_Snapshot #[Value.pointer p78] w135 fun (e137 : Ending) (w138 : World) => ∃ (s139 : ByteArray), e137
  = Ending.returned (Value.string s139) ∧ ∃ (R140 : List Own), ∃ (Φ141 : PW), Stable Φ141 ∧ Ctx W w138 (R140 ++ R136) Φ141 ∧ Br (decide (s139 = s)) (∀ (w142 : World) (R143 : List Own), Ctx W
  w142 (R140 ++ R143) Φ141 → Calls Tryz.prog F.store_Store_Seq #[Value.pointer p78] w142 fun (e144 : Ending) (w145 : World) => ∃ (n146 : Int), e144 = Ending.returned (Value.int IntKind.i64
  n146) ∧ ∃ (R147 : List Own), ∃ (Φ148 : PW), Stable Φ148 ∧ Ctx W w145 (R147 ++ R143) Φ148 ∧ I64 (n146 + (↑lN : Int)) ∧ ∀ (w149 : World) (R150 : List Own), Ctx W w149 (R147 ++ R150) Φ148 →
  Calls Tryz.prog F.store_Store_Seq #[Value.pointer p22] w149 fun (e151 : Ending) (w152 : World) => ∃ (n153 : Int), e151 = Ending.returned (Value.int IntKind.i64 n153) ∧ ∃ (R154 : List Own),
  ∃ (Φ155 : PW), Stable Φ155 ∧ Ctx W w152 (R154 ++ R150) Φ155 ∧ ∀ (w156 : World) (R157 : List Own), Ctx W w156 (R154 ++ R157) Φ155 → J (Value.bool (decide (n146 + (↑lN : Int) = n153))) w156)
  (∀ (w158 : World) (R159 : List Own), Ctx W w158 (R140 ++ R159) Φ141 → J (Value.bool false) w158)) (∀ (w160 : World) (R161 : List Own), Ctx W w160 (R105 ++ R161) I106 → J (Value.bool false)
  w160)))))))))))

theorem Berratalaw29_StoreRestores_run (s : ByteArray) (lP : Option Addr) (lN lC : Nat) {W w : World} {R : List Own} {Φ : PW} [Stable Φ] {J : Value → World → Prop} (c : Ctx W w R Φ) (h : Berratalaw29_StoreRestores s lP lN lC W R Φ J) : Calls Tryz.prog F.erratalaw29_StoreRestores #[.string s, .slice lP lN lC] w fun e w' => ∃ v, e = .returned v ∧ J v w' :=
  vcFS_sound (H := { keep := some [0, 1, 4, 5, 6, 7, 9, 11, 12, 13, 14, 15, 24, 44, 46, 85, 89], stages := [(18, [.held [(0, true), (1, true), (2, true), (6, true), (7, true), (3, true), (8, true), (4, true), (9, true), (5, true), (10, true)], .stage [] (some 11)])], split := [2, 13, 19], loops := [(16, [(15, .one (.int .i64))], [])] }) (by rw [show vcFS Tryz.prog W { keep := some [0, 1, 4, 5, 6, 7, 9, 11, 12, 13, 14, 15, 24, 44, 46, 85, 89], stages := [(18, [.held [(0, true), (1, true), (2, true), (6, true), (7, true), (3, true), (8, true), (4, true), (9, true), (5, true), (10, true)], .stage [] (some 11)])], split := [2, 13, 19], loops := [(16, [(15, .one (.int .i64))], [])] } F.erratalaw29_StoreRestores #[.string s, .slice lP lN lC] R Φ J = Berratalaw29_StoreRestores s lP lN lC W R Φ J by kernel_rfl]; exact h) c

/-- erratalaw29.small -/
-- loop at region 13: 6 i; blocks 
def Berratalaw29_small  (W : World) (R : List Own) (Φ : PW) (J : Value → World → Prop) : Prop :=
  ∀ (w0 : World) (R1 : List Own), Ctx W w0 (R ++ R1) Φ → Calls Tryz.prog F.store_New #[] w0 fun (e2 : Ending) (w3 : World) => ∃ (p4 : Option Addr), e2 = Ending.returned (Value.pointer p4) ∧ ∃
  (R5 : List Own), ∃ (Φ6 : PW), Stable Φ6 ∧ Ctx W w3 (R5 ++ R1) Φ6 ∧ ∀ (w7 : World) (R8 : List Own), Ctx W w7 (R5 ++ R8) Φ6 → Calls Tryz.prog F.store_New #[] w7 fun (e9 : Ending) (w10 :
  World) => ∃ (p11 : Option Addr), e9 = Ending.returned (Value.pointer p11) ∧ ∃ (R12 : List Own), ∃ (Φ13 : PW), Stable Φ13 ∧ Ctx W w10 (R12 ++ R8) Φ13 ∧ ∀ (w14 : World) (R15 : List Own), Ctx
  W w14 (R12 ++ R15) Φ13 → Br (p4.isNone || p11.isNone) (∀ (w16 : World) (R17 : List Own), Ctx W w16 (R12 ++ R17) Φ13 → J (Value.bool false) w16) (∀ (w18 : World) (R19 : List Own), Ctx W w18
  (R12 ++ R19) Φ13 → Calls Tryz.prog F.store_Store_Put #[Value.pointer p4, Value.string (ByteArray.mk #[OfNat.ofNat 97]), Value.string (ByteArray.mk #[OfNat.ofNat 49])] w18 fun (e20 : Ending)
  (w21 : World) => e20 = Ending.returned (Value.tuple #[]) ∧ ∃ (R22 : List Own), ∃ (Φ23 : PW), Stable Φ23 ∧ Ctx W w21 (R22 ++ R19) Φ23 ∧ ∀ (w24 : World) (R25 : List Own), Ctx W w24 (R22 ++
  R25) Φ23 → Calls Tryz.prog F.store_Store_Put #[Value.pointer p4, Value.string (ByteArray.mk #[OfNat.ofNat 98]), Value.string (ByteArray.mk #[OfNat.ofNat 50])] w24 fun (e26 : Ending) (w27 :
  World) => e26 = Ending.returned (Value.tuple #[]) ∧ ∃ (R28 : List Own), ∃ (Φ29 : PW), Stable Φ29 ∧ Ctx W w27 (R28 ++ R25) Φ29 ∧ ∀ (w30 : World) (R31 : List Own), Ctx W w30 (R28 ++ R31) Φ29
  → Calls Tryz.prog F.store_Store_Put #[Value.pointer p4, Value.string (ByteArray.mk #[OfNat.ofNat 97]), Value.string (ByteArray.mk #[])] w30 fun (e32 : Ending) (w33 : World) => e32 =
  Ending.returned (Value.tuple #[]) ∧ ∃ (R34 : List Own), ∃ (Φ35 : PW), Stable Φ35 ∧ Ctx W w33 (R34 ++ R31) Φ35 ∧ ∀ (w36 : World) (R37 : List Own), Ctx W w36 (R34 ++ R37) Φ35 → Calls
  Tryz.prog F.store_Store_Scan #[Value.pointer p4, Value.string (ByteArray.mk #[])] w36 fun (e38 : Ending) (w39 : World) => ∃ (p40 : Option Addr), ∃ (k41 : Nat), ∃ (k42 : Nat), e38 =
  Ending.returned (Value.slice p40 k41 k42) ∧ ∃ (R43 : List Own), ∃ (Φ44 : PW), Stable Φ44 ∧ Ctx W w39 (R43 ++ R37) Φ44 ∧ ∀ (w45 : World) (R46 : List Own), Ctx W w45 (R43 ++ R46) Φ44 → Calls
  Tryz.prog F.store_Store_Since #[Value.pointer p4, Value.int IntKind.i64 1] w45 fun (e47 : Ending) (w48 : World) => ∃ (p49 : Option Addr), ∃ (k50 : Nat), ∃ (k51 : Nat), ∃ (n52 : Int), e47 =
  Ending.returned (Value.tuple #[Value.slice p49 k50 k51, Value.int IntKind.i64 n52]) ∧ ∃ (R53 : List Own), ∃ (Φ54 : PW), Stable Φ54 ∧ Ctx W w48 (R53 ++ R46) Φ54 ∧ ∀ (w55 : World) (R56 : List
  Own), Ctx W w55 (R53 ++ R56) Φ54 → Br (decide ((↑k41 : Int) ≠ 1) || decide ((↑k50 : Int) ≠ 2) || decide (n52 ≠ 0)) (∀ (w57 : World) (R58 : List Own), Ctx W w57 (R53 ++ R58) Φ54 → J
  (Value.bool false) w57) (exI fun (I59 : Int → List Own → PW → Nat → Prop) => (∃ (R60 : List Own), ∃ (Φ61 : PW), ∃ (k62 : Nat), Stable Φ61 ∧ (∀ (w63 : World) (R64 : List Own), Ctx W w63 (R53
  ++ R64) Φ54 → Ctx W w63 (R60 ++ R64) Φ61) ∧ I59 0 R60 Φ61 k62) ∧ ∀ (n65 : Int) (R66 : List Own) (I67 : List Nat → World → Prop) (k68 : Nat), Stable I67 → I59 n65 R66 I67 k68 → Br (decide
  (n65 < 32)) (∀ (w69 : World) (R70 : List Own), Ctx W w69 (R66 ++ R70) I67 → Calls Tryz.prog F.erratalaw29_digits #[Value.int IntKind.i64 n65] w69 fun (e71 : Ending) (w72 : World) => ∃ (s73
  : ByteArray), e71 = Ending.returned (Value.string s73) ∧ ∃ (R74 : List Own), ∃ (Φ75 : PW), Stable Φ75 ∧ Ctx W w72 (R74 ++ R70) Φ75 ∧ ∀ (w76 : World) (R77 : List Own), Ctx W w76 (R74 ++ R77)
  Φ75 → Calls Tryz.prog F.store_Store_Put #[Value.pointer p11, Value.string s73, Value.string (ByteArray.mk #[OfNat.ofNat 120])] w76 fun (e78 : Ending) (w79 : World) => e78 = Ending.returned
  (Value.tuple #[]) ∧ ∃ (R80 : List Own), ∃ (Φ81 : PW), Stable Φ81 ∧ Ctx W w79 (R80 ++ R77) Φ81 ∧ I64 (n65 + 1) ∧ ∃ (R82 : List Own), ∃ (Φ83 : PW), ∃ (k84 : Nat), Stable Φ83 ∧ (∀ (w85 :
  World) (R86 : List Own), Ctx W w85 (R80 ++ R86) Φ81 → Ctx W w85 (R82 ++ R86) Φ83) ∧ I59 (n65 + 1) R82 Φ83 k84 ∧ k84 < k68) (∀ (w87 : World) (R88 : List Own), Ctx W w87 (R66 ++ R88) I67 →
  Calls Tryz.prog F.store_Store_Runs #[Value.pointer p11] w87 fun (e89 : Ending) (w90 : World) => ∃ (p91 : Option Addr), ∃ (k92 : Nat), ∃ (k93 : Nat), e89 = Ending.returned (Value.slice p91
  k92 k93) ∧ ∃ (R94 : List Own), ∃ (Φ95 : PW), Stable Φ95 ∧ Ctx W w90 (R94 ++ R88) Φ95 ∧ Br (decide ((↑k92 : Int) ≠ 2)) (∀ (w96 : World) (R97 : List Own), Ctx W w96 (R94 ++ R97) Φ95 → J
  (Value.bool false) w96) (∀ (w98 : World) (R99 : List Own), Ctx W w98 (R94 ++ R99) Φ95 → ((0 : Int) ≤ 0 ∧ 0 < (↑k92 : Int)) ∧ ptrK none p91 fun (k100 k101 : Nat) => ∃ (p102 : Option Addr), ∃
  (k103 : Nat), ∃ (k104 : Nat), w98.cell? (Addr.mk k100 k101 none) = some (Value.slice p102 k103 k104) ∧ ((!decide ((↑k103 : Int) ≠ 0)) = true → (0 : Int) ≤ 1 ∧ 1 < (↑k92 : Int)) ∧ ptrK (some
  !decide ((↑k103 : Int) ≠ 0)) p91 fun (k105 k106 : Nat) => ∃ (p107 : Option Addr), ∃ (k108 : Nat), ∃ (k109 : Nat), ((!decide ((↑k103 : Int) ≠ 0)) = true → w98.cell? (Addr.mk k105 k106.succ
  none) = some (Value.slice p107 k108 k109)) ∧ Br (decide ((↑k103 : Int) ≠ 0) || decide ((↑k108 : Int) ≠ 1)) (∀ (w110 : World) (R111 : List Own), Ctx W w110 (R94 ++ R111) Φ95 → J (Value.bool
  false) w110) (((0 : Int) ≤ 0 ∧ 0 < (↑k41 : Int)) ∧ ptrK none p40 fun (k112 k113 : Nat) => ∀ (w114 : World) (R115 : List Own), Ctx W w114 (R94 ++ R115) Φ95 → ∃ (s116 : ByteArray), ∃ (s117 :
  ByteArray), RowAt w114 k112 k113 [Value.string s116, Value.string s117] ∧ okAgg Tryz.prog 69 = true ∧ Br (decide (s116 = ByteArray.mk #[OfNat.ofNat 98]) && (decide (s117 = ByteArray.mk
  #[OfNat.ofNat 50]) && true)) (∀ (w118 : World) (R119 : List Own), Ctx W w118 (R94 ++ R119) Φ95 → Calls Tryz.prog F.store_Store_Len #[Value.pointer p4] w118 fun (e120 : Ending) (w121 :
  World) => ∃ (n122 : Int), e120 = Ending.returned (Value.int IntKind.i64 n122) ∧ ∃ (R123 : List Own), ∃ (Φ124 : PW), Stable Φ124 ∧ Ctx W w121 (R123 ++ R119) Φ124 ∧ Br (decide (n122 = 1)) (∀
  (w125 : World) (R126 : List Own), Ctx W w125 (R123 ++ R126) Φ124 → Calls Tryz.prog F.store_Store_Versions #[Value.pointer p4] w125 fun (e127 : Ending) (w128 : World) => ∃ (n129 : Int), e127
  = Ending.returned (Value.int IntKind.i64 n129) ∧ ∃ (R130 : List Own), ∃ (Φ131 : PW), Stable Φ131 ∧ Ctx W w128 (R130 ++ R126) Φ131 ∧ Br (decide (n129 = 2)) (∀ (w132 : World) (R133 : List
  Own), Ctx W w132 (R130 ++ R133) Φ131 → Calls Tryz.prog F.store_Store_Seq #[Value.pointer p4] w132 fun (e134 : Ending) (w135 : World) => ∃ (n136 : Int), e134 = Ending.returned (Value.int
  IntKind.i64 n136) ∧ ∃ (R137 : List Own), ∃ (Φ138 : PW), Stable Φ138 ∧ Ctx W w135 (R137 ++ R133) Φ138 ∧ Br (decide (n136 = 3)) (((0 : Int) ≤ 0 ∧ 0 < (↑k50 : Int)) ∧ ptrK none p49 fun (k139
  k140 : Nat) => ∀ (w141 : World) (R142 : List Own), Ctx W w141 (R137 ++ R142) Φ138 → ∃ (n143 : Int), w141.cell? (Addr.mk k139 k140 none) = some (Value.int IntKind.i64 n143) ∧ Br (decide
  (n143 = 2)) (((0 : Int) ≤ 1 ∧ 1 < (↑k92 : Int)) ∧ ptrK none p91 fun (k144 k145 : Nat) => ∀ (w146 : World) (R147 : List Own), Ctx W w146 (R137 ++ R147) Φ138 → ∃ (p148 : Option Addr), ∃ (k149
  : Nat), ∃ (k150 : Nat), w146.cell? (Addr.mk k144 k145.succ none) = some (Value.slice p148 k149 k150) ∧ ((0 : Int) ≤ 0 ∧ 0 < (↑k149 : Int)) ∧ ptrK none p148 fun (k151 k152 : Nat) => ∀ (w153
  : World) (R154 : List Own), Ctx W w153 (R137 ++ R154) Φ138 → ∃ (n155 : Int), w153.cell? (Addr.mk k151 k152 none) = some (Value.int IntKind.i64 n155) ∧ ∀ (w156 : World) (R157 : List Own),
  Ctx W w156 (R137 ++ R157) Φ138 → J (Value.bool (decide (n155 = 32))) w156) (∀ (w158 : World) (R159 : List Own), Ctx W w158 (R137 ++ R159) Φ138 → J (Value.bool false) w158)) (∀ (w160 :
  World) (R161 : List Own), Ctx W w160 (R137 ++ R161) Φ138 → J (Value.bool false) w160)) (∀ (w162 : World) (R163 : List Own), Ctx W w162 (R130 ++ R163) Φ131 → J (Value.bool false) w162)) (∀
  (w164 : World) (R165 : List Own), Ctx W w164 (R123 ++ R165) Φ124 → J (Value.bool false) w164)) (∀ (w166 : World) (R167 : List Own), Ctx W w166 (R94 ++ R167) Φ95 → J (Value.bool false)
  w166))))))

theorem Berratalaw29_small_run  {W w : World} {R : List Own} {Φ : PW} [Stable Φ] {J : Value → World → Prop} (c : Ctx W w R Φ) (h : Berratalaw29_small  W R Φ J) : Calls Tryz.prog F.erratalaw29_small #[] w fun e w' => ∃ v, e = .returned v ∧ J v w' :=
  vcFS_sound (H := { keep := some [0, 1, 2, 3, 4, 5, 6, 7, 15, 40, 42, 53, 65], split := [21], loops := [(13, [(6, .one (.int .i64))], [])] }) (by rw [show vcFS Tryz.prog W { keep := some [0, 1, 2, 3, 4, 5, 6, 7, 15, 40, 42, 53, 65], split := [21], loops := [(13, [(6, .one (.int .i64))], [])] } F.erratalaw29_small #[] R Φ J = Berratalaw29_small  W R Φ J by kernel_rfl]; exact h) c

/-- erratalaw29.few -/
-- loop at region 2: 5 i; blocks 
def Berratalaw29_few (lP : Option Addr) (lN lC : Nat) (n : Int) (W : World) (R : List Own) (Φ : PW) (J : Value → World → Prop) : Prop :=
  exI fun (I0 : Int → List Own → PW → Nat → Prop) => (∃ (R1 : List Own), ∃ (Φ2 : PW), ∃ (k3 : Nat), Stable Φ2 ∧ (∀ (w4 : World) (R5 : List Own), Ctx W w4 (R ++ R5) Φ → Ctx W w4 (R1 ++ R5) Φ2)
  ∧ I0 0 R1 Φ2 k3) ∧ ∀ (n6 : Int) (R7 : List Own) (I8 : List Nat → World → Prop) (k9 : Nat), Stable I8 → I0 n6 R7 I8 k9 → Br (decide (n6 < (↑lN : Int))) (∀ (w10 : World) (R11 : List Own), Ctx
  W w10 (R7 ++ R11) I8 → (0 ≤ n6 ∧ n6 < (↑lN : Int)) ∧ ptrK none lP fun (k12 k13 : Nat) => ∃ (s14 : ByteArray), w10.cell? (Addr.mk k12 (k13 + n6.toNat * 4 + 2) none) = some (Value.string s14)
  ∧ ((!decide (20 < (↑s14.size : Int))) = true → 0 ≤ n6 ∧ n6 < (↑lN : Int)) ∧ ptrK (some !decide (20 < (↑s14.size : Int))) lP fun (k15 k16 : Nat) => ∃ (s17 : ByteArray), ((!decide (20 <
  (↑s14.size : Int))) = true → w10.cell? (Addr.mk k15 (k16 + n6.toNat * 4 + 3) none) = some (Value.string s17)) ∧ Br (decide (20 < (↑s14.size : Int)) || decide (20 < (↑s17.size : Int))) (∀
  (w18 : World) (R19 : List Own), Ctx W w18 (R7 ++ R19) I8 → J (Value.bool false) w18) (I64 (n6 + 1) ∧ ∃ (R20 : List Own), ∃ (Φ21 : PW), ∃ (k22 : Nat), Stable Φ21 ∧ (∀ (w23 : World) (R24 :
  List Own), Ctx W w23 (R7 ++ R24) I8 → Ctx W w23 (R20 ++ R24) Φ21) ∧ I0 (n6 + 1) R20 Φ21 k22 ∧ k22 < k9)) (∀ (w25 : World) (R26 : List Own), Ctx W w25 (R7 ++ R26) I8 → J (Value.bool (decide
  ((↑lN : Int) ≤ n))) w25)

theorem Berratalaw29_few_run (lP : Option Addr) (lN lC : Nat) (n : Int) {W w : World} {R : List Own} {Φ : PW} [Stable Φ] {J : Value → World → Prop} (c : Ctx W w R Φ) (h : Berratalaw29_few lP lN lC n W R Φ J) : Calls Tryz.prog F.erratalaw29_few #[.slice lP lN lC, .int .i64 n] w fun e w' => ∃ v, e = .returned v ∧ J v w' :=
  vcFS_sound (H := { keep := some [0, 1, 4, 5, 9, 27], loops := [(2, [(5, .one (.int .i64))], [])] }) (by rw [show vcFS Tryz.prog W { keep := some [0, 1, 4, 5, 9, 27], loops := [(2, [(5, .one (.int .i64))], [])] } F.erratalaw29_few #[.slice lP lN lC, .int .i64 n] R Φ J = Berratalaw29_few lP lN lC n W R Φ J by kernel_rfl]; exact h) c

/-- store.Restore -/
-- loop at region 5: 6 l; blocks 
-- known blocks: 8 p
def Bstore_Restore (x : ByteArray) (W : World) (R : List Own) (Φ : PW) (J : Value → World → Prop) : Prop :=
  ∀ (w0 : World) (R1 : List Own), Ctx W w0 (R ++ R1) Φ → Calls Tryz.prog F.wire_Open #[Value.string x] w0 fun (e2 : Ending) (w3 : World) => ∃ (p4 : Option Addr), e2 = Ending.returned
  (Value.pointer p4) ∧ ∃ (R5 : List Own), ∃ (Φ6 : PW), Stable Φ6 ∧ Ctx W w3 (R5 ++ R1) Φ6 ∧ ∀ (w7 : World) (R8 : List Own), Ctx W w7 (R5 ++ R8) Φ6 → Calls Tryz.prog F.wire_Reader_Int
  #[Value.pointer p4] w7 fun (e9 : Ending) (w10 : World) => ∃ (n11 : Int), e9 = Ending.returned (Value.int IntKind.i64 n11) ∧ ∃ (R12 : List Own), ∃ (Φ13 : PW), Stable Φ13 ∧ Ctx W w10 (R12 ++
  R8) Φ13 ∧ ∀ (k14 : Nat) (w15 : World) (R16 : List Own), Ctx W w15 (Own.blk k14 [Value.slice none 0 0, Value.slice none 0 0, Value.int IntKind.i64 n11, Value.slice none 0 0, Value.int
  IntKind.i64 0] 77 :: R12 ++ R16) Φ13 → Calls Tryz.prog F.wire_Reader_Num #[Value.pointer p4] w15 fun (e17 : Ending) (w18 : World) => ∃ (n19 : Int), e17 = Ending.returned (Value.int
  IntKind.i64 n19) ∧ ∃ (R20 : List Own), ∃ (Φ21 : PW), Stable Φ21 ∧ Ctx W w18 (R20 ++ R16) Φ21 ∧ exI fun (I22 : Option Addr → Nat → Nat → List Own → PW → Nat → Prop) => (∃ (R23 : List Own), ∃
  (Φ24 : PW), ∃ (k25 : Nat), Stable Φ24 ∧ (∀ (w26 : World) (R27 : List Own), Ctx W w26 (R20 ++ R27) Φ21 → Ctx W w26 (R23 ++ R27) Φ24) ∧ I22 none 0 0 R23 Φ24 k25) ∧ ∀ (p28 : Option Addr) (k29
  k30 : Nat) (R31 : List Own) (I32 : List Nat → World → Prop) (k33 : Nat), Stable I32 → I22 p28 k29 k30 R31 I32 k33 → Br (decide ((↑k29 : Int) < n19)) (∀ (w34 : World) (R35 : List Own), Ctx W
  w34 (R31 ++ R35) I32 → Calls Tryz.prog F.wire_Reader_Text #[Value.pointer p4] w34 fun (e36 : Ending) (w37 : World) => ∃ (s38 : ByteArray), e36 = Ending.returned (Value.string s38) ∧ ∃ (R39
  : List Own), ∃ (Φ40 : PW), Stable Φ40 ∧ Ctx W w37 (R39 ++ R35) Φ40 ∧ ∀ (w41 : World) (R42 : List Own), Ctx W w41 (R39 ++ R42) Φ40 → Calls Tryz.prog F.wire_Reader_Text #[Value.pointer p4]
  w41 fun (e43 : Ending) (w44 : World) => ∃ (s45 : ByteArray), e43 = Ending.returned (Value.string s45) ∧ ∃ (R46 : List Own), ∃ (Φ47 : PW), Stable Φ47 ∧ Ctx W w44 (R46 ++ R42) Φ47 ∧ ∀ (b :
  Nat) (w48 : World) (R49 : List Own), Ctx W w48 (R46 ++ R49) Φ47 → ((!decide (s45 = ByteArray.mk #[]) && decide (0 < (↑k29 : Int))) = true → I64 ((↑k29 : Int) - 1)) ∧ ((!decide (s45 =
  ByteArray.mk #[]) && decide (0 < (↑k29 : Int))) = true → 0 ≤ (↑k29 : Int) - 1 ∧ (↑k29 : Int) - 1 < (↑k29 : Int)) ∧ ptrK (some (!decide (s45 = ByteArray.mk #[]) && decide (0 < (↑k29 :
  Int)))) p28 fun (k50 k51 : Nat) => ∃ (s52 : ByteArray), ((!decide (s45 = ByteArray.mk #[]) && decide (0 < (↑k29 : Int))) = true → w48.cell? (Addr.mk k50 (k51 + ((↑k29 : Int) - 1).toNat * 2)
  none) = some (Value.string s52)) ∧ ∃ (c53 : Bool), ((!decide (s45 = ByteArray.mk #[]) && decide (0 < (↑k29 : Int))) = true → ∀ (w54 : World), Sem.run Tryz.prog (binOp BinOp.geq 9
  (Value.string s52) (Value.string s38)) w54 = Result.ok (Value.bool c53) w54) ∧ Br (decide (s45 = ByteArray.mk #[]) || decide (0 < (↑k29 : Int)) && c53) (∀ (w55 : World) (R56 : List Own),
  Ctx W w55 (R46 ++ R56) Φ47 → J (Value.tuple #[Value.pointer none, Value.bool false]) w55) (∀ (k57 : Nat) (w58 : World) (R59 : List Own), Ctx W w58 (Own.blk k57 [Value.string s38,
  Value.string s45] 69 :: R46 ++ R59) Φ47 → ∃ (p60 : Option Addr), ∃ (k61 : Nat), ∃ (k62 : Nat), ∃ (w63 : World), Sem.run Tryz.prog (builtin Builtin.append #[74, 74] 74 #[false, false]
  #[Value.slice p28 k29 k30, Value.slice (some (Addr.mk k57 0 none)) 1 1]) w58 = Result.ok (Next.value (Value.slice p60 k61 k62)) w63 ∧ ∃ (R64 : List Own), ∃ (Φ65 : PW), Stable Φ65 ∧ Ctx W
  w63 (R64 ++ R59) Φ65 ∧ ∃ (R66 : List Own), ∃ (Φ67 : PW), ∃ (k68 : Nat), Stable Φ67 ∧ (∀ (w69 : World) (R70 : List Own), Ctx W w69 (R64 ++ R70) Φ65 → Ctx W w69 (R66 ++ R70) Φ67) ∧ I22 p60
  k61 k62 R66 Φ67 k68 ∧ k68 < k33)) (∀ (w71 : World) (R72 : List Own), Ctx W w71 (R31 ++ R72) I32 → Calls Tryz.prog F.wire_Reader_Done #[Value.pointer p4] w71 fun (e73 : Ending) (w74 : World)
  => ∃ (c75 : Bool), e73 = Ending.returned (Value.bool c75) ∧ ∃ (R76 : List Own), ∃ (Φ77 : PW), Stable Φ77 ∧ Ctx W w74 (R76 ++ R72) Φ77 ∧ Br (!c75) (∀ (w78 : World) (R79 : List Own), Ctx W
  w78 (R76 ++ R79) Φ77 → J (Value.tuple #[Value.pointer none, Value.bool false]) w78) (∀ (w80 : World) (R81 : List Own), Ctx W w80 (R76 ++ R81) Φ77 → ∃ (n82 : Int), w80.cell? (Addr.mk k14 2
  none) = some (Value.int IntKind.i64 n82) ∧ Br (decide (n82 < 0)) (∀ (w83 : World) (R84 : List Own), Ctx W w83 (R76 ++ R84) Φ77 → J (Value.tuple #[Value.pointer none, Value.bool false]) w83)
  (∀ (w85 : World) (R86 : List Own), Ctx W w85 (R76 ++ R86) Φ77 → ∃ (n87 : Int), w85.cell? (Addr.mk k14 2 none) = some (Value.int IntKind.i64 n87) ∧ Br (decide (1099511627776 < n87)) (∀ (w88
  : World) (R89 : List Own), Ctx W w88 (R76 ++ R89) Φ77 → J (Value.tuple #[Value.pointer none, Value.bool false]) w88) (∀ (w90 : World) (R91 : List Own), Ctx W w90 (R76 ++ R91) Φ77 → ∃ (n92 :
  Int), w90.cell? (Addr.mk k14 2 none) = some (Value.int IntKind.i64 n92) ∧ ∀ (w93 : World) (R94 : List Own), Ctx W w93 (R76 ++ R94) Φ77 → CanWrite w93 k14 4 1 ∧ ∀ (w95 : World), w95 =
  w93.setCell (Addr.mk k14 4 none) (Value.int IntKind.i64 n92) → ∃ (R96 : List Own), ∃ (Φ97 : PW), Stable Φ97 ∧ Ctx W w95 (R96 ++ R94) Φ97 ∧ ∀ (w98 : World) (R99 : List Own), Ctx W w98 (R96
  ++ R99) Φ97 → Calls Tryz.prog F.store_Store_add #[Value.pointer (some (Addr.mk k14 0 none)), Value.int IntKind.i64 1, Value.slice p28 k29 k30] w98 fun (e100 : Ending) (w101 : World) => e100
  = Ending.returned (Value.tuple #[]) ∧ ∃ (R102 : List Own), ∃ (Φ103 : PW), Stable Φ103 ∧ Ctx W w101 (R102 ++ R99) Φ103 ∧ ∀ (w104 : World) (R105 : List Own), Ctx W w104 (R102 ++ R105) Φ103 →
  J (Value.tuple #[Value.pointer (some (Addr.mk k14 0 none)), Value.bool true]) w104))))

theorem Bstore_Restore_run (x : ByteArray) {W w : World} {R : List Own} {Φ : PW} [Stable Φ] {J : Value → World → Prop} (c : Ctx W w R Φ) (h : Bstore_Restore x W R Φ J) : Calls Tryz.prog F.store_Restore #[.string x] w fun e w' => ∃ v, e = .returned v ∧ J v w' :=
  vcFS_sound (H := { keep := some [0, 2, 3, 4, 5, 6, 7, 8, 20, 45, 66], track := [8], split := [10], loops := [(5, [(6, .one (.slice))], [])] }) (by rw [show vcFS Tryz.prog W { keep := some [0, 2, 3, 4, 5, 6, 7, 8, 20, 45, 66], track := [8], split := [10], loops := [(5, [(6, .one (.slice))], [])] } F.store_Restore #[.string x] R Φ J = Bstore_Restore x W R Φ J by kernel_rfl]; exact h) c

/-- (*store.Store).Snapshot -/
-- loop at region 5: 21 ; blocks 
-- known blocks: 6 p
def Bstore_Store_Snapshot (sB sO : Nat) (W : World) (R : List Own) (Φ : PW) (J : Value → World → Prop) : Prop :=
  ∀ (w0 : World) (R1 : List Own), Ctx W w0 (R ++ R1) Φ → Calls Tryz.prog F.store_Store_Scan #[Value.pointer (some (Addr.mk sB sO none)), Value.string (ByteArray.mk #[])] w0 fun (e2 : Ending)
  (w3 : World) => ∃ (p4 : Option Addr), ∃ (k5 : Nat), ∃ (k6 : Nat), e2 = Ending.returned (Value.slice p4 k5 k6) ∧ ∃ (R7 : List Own), ∃ (Φ8 : PW), Stable Φ8 ∧ Ctx W w3 (R7 ++ R1) Φ8 ∧ ∀ (k9 :
  Nat) (w10 : World) (R11 : List Own), Ctx W w10 (Own.blk k9 [Value.pointer none, Value.slice none 0 0] 89 :: R7 ++ R11) Φ8 → ∃ (n12 : Int), w10.cell? (Addr.mk sB (sO + 2) none) = some
  (Value.int IntKind.i64 n12) ∧ ∀ (w13 : World) (R14 : List Own), Ctx W w13 (Own.blk k9 [Value.pointer none, Value.slice none 0 0] 89 :: R7 ++ R14) Φ8 → Calls Tryz.prog F.wire_Int #[Value.int
  IntKind.i64 n12] w13 fun (e15 : Ending) (w16 : World) => ∃ (s17 : ByteArray), e15 = Ending.returned (Value.string s17) ∧ ∃ (R18 : List Own), ∃ (Φ19 : PW), Stable Φ19 ∧ Ctx W w16 (R18 ++
  R14) Φ19 ∧ ∀ (w20 : World) (R21 : List Own), Ctx W w20 (R18 ++ R21) Φ19 → Calls Tryz.prog F.wire_Num #[Value.int IntKind.i64 (↑k5 : Int)] w20 fun (e22 : Ending) (w23 : World) => ∃ (s24 :
  ByteArray), e22 = Ending.returned (Value.string s24) ∧ ∃ (R25 : List Own), ∃ (Φ26 : PW), Stable Φ26 ∧ Ctx W w23 (R25 ++ R21) Φ26 ∧ (s17.size + s24.size).le 9223372036854775807 ∧ ∀ (w27 :
  World) (R28 : List Own), Ctx W w27 (R25 ++ R28) Φ26 → Calls Tryz.prog F.strings_Builder_WriteString #[Value.pointer (some (Addr.mk k9 0 none)), Value.string (s17 ++ s24)] w27 fun (e29 :
  Ending) (w30 : World) => ∃ (n31 : Int), ∃ (v32 : Value), e29 = Ending.returned (Value.tuple #[Value.int IntKind.i64 n31, v32]) ∧ ∃ (R33 : List Own), ∃ (Φ34 : PW), Stable Φ34 ∧ Ctx W w30
  (R33 ++ R28) Φ34 ∧ exI fun (I35 : Int → List Own → PW → Nat → Prop) => (∃ (R36 : List Own), ∃ (Φ37 : PW), ∃ (k38 : Nat), Stable Φ37 ∧ (∀ (w39 : World) (R40 : List Own), Ctx W w39 (R33 ++
  R40) Φ34 → Ctx W w39 (R36 ++ R40) Φ37) ∧ I35 0 R36 Φ37 k38) ∧ ∀ (n41 : Int) (R42 : List Own) (I43 : List Nat → World → Prop) (k44 : Nat), Stable I43 → I35 n41 R42 I43 k44 → Br (decide (n41
  < (↑k5 : Int))) ((0 ≤ n41 ∧ n41 < (↑k5 : Int)) ∧ ptrK none p4 fun (k45 k46 : Nat) => ∀ (w47 : World) (R48 : List Own), Ctx W w47 (R42 ++ R48) I43 → ∃ (s49 : ByteArray), ∃ (s50 : ByteArray),
  RowAt w47 k45 (k46 + n41.toNat * 2) [Value.string s49, Value.string s50] ∧ ∀ (b : Nat), ∃ (R51 : List Own), ∃ (Φ52 : PW), Stable Φ52 ∧ (∀ (w53 : World) (R54 : List Own), Ctx W w53 (R42 ++
  R54) I43 → Ctx W w53 (R51 ++ R54) Φ52) ∧ ∀ (w55 : World) (R56 : List Own), Ctx W w55 (R42 ++ R56) I43 → Calls Tryz.prog F.wire_Text #[Value.string s49] w55 fun (e57 : Ending) (w58 : World)
  => ∃ (s59 : ByteArray), e57 = Ending.returned (Value.string s59) ∧ ∃ (R60 : List Own), ∃ (Φ61 : PW), Stable Φ61 ∧ Ctx W w58 (R60 ++ R56) Φ61 ∧ (∀ (w62 : World) (R63 : List Own), Ctx W w62
  (R60 ++ R63) Φ61 → Ctx W w62 (R51 ++ R63) Φ52) ∧ ∀ (w64 : World) (R65 : List Own), Ctx W w64 (R60 ++ R65) Φ61 → Calls Tryz.prog F.wire_Text #[Value.string s50] w64 fun (e66 : Ending) (w67 :
  World) => ∃ (s68 : ByteArray), e66 = Ending.returned (Value.string s68) ∧ ∃ (R69 : List Own), ∃ (Φ70 : PW), Stable Φ70 ∧ Ctx W w67 (R69 ++ R65) Φ70 ∧ (s59.size + s68.size).le
  9223372036854775807 ∧ ∀ (w71 : World) (R72 : List Own), Ctx W w71 (R69 ++ R72) Φ70 → Calls Tryz.prog F.strings_Builder_WriteString #[Value.pointer (some (Addr.mk k9 0 none)), Value.string
  (s59 ++ s68)] w71 fun (e73 : Ending) (w74 : World) => ∃ (n75 : Int), ∃ (v76 : Value), e73 = Ending.returned (Value.tuple #[Value.int IntKind.i64 n75, v76]) ∧ ∃ (R77 : List Own), ∃ (Φ78 :
  PW), Stable Φ78 ∧ Ctx W w74 (R77 ++ R72) Φ78 ∧ I64 (n41 + 1) ∧ ∃ (R79 : List Own), ∃ (Φ80 : PW), ∃ (k81 : Nat), Stable Φ80 ∧ (∀ (w82 : World) (R83 : List Own), Ctx W w82 (R77 ++ R83) Φ78 →
  Ctx W w82 (R79 ++ R83) Φ80) ∧ I35 (n41 + 1) R79 Φ80 k81 ∧ k81 < k44) (∀ (w84 : World) (R85 : List Own), Ctx W w84 (R42 ++ R85) I43 → Calls Tryz.prog F.strings_Builder_String #[Value.pointer
  (some (Addr.mk k9 0 none))] w84 fun (e86 : Ending) (w87 : World) => ∃ (s88 : ByteArray), e86 = Ending.returned (Value.string s88) ∧ ∃ (R89 : List Own), ∃ (Φ90 : PW), Stable Φ90 ∧ Ctx W w87
  (R89 ++ R85) Φ90 ∧ ∀ (w91 : World) (R92 : List Own), Ctx W w91 (R89 ++ R92) Φ90 → J (Value.string s88) w91)

theorem Bstore_Store_Snapshot_run (sB sO : Nat) {W w : World} {R : List Own} {Φ : PW} [Stable Φ] {J : Value → World → Prop} (c : Ctx W w R Φ) (h : Bstore_Store_Snapshot sB sO W R Φ J) : Calls Tryz.prog F.store_Store_Snapshot #[.pointer (some ⟨sB, sO, none⟩)] w fun e w' => ∃ v, e = .returned v ∧ J v w' :=
  vcFS_sound (H := { keep := some [0, 2, 3, 4, 6, 19, 20, 21, 22], track := [6], stages := [(7, [.held [(0, true), (3, true), (1, true), (4, true), (2, false)], .stage [] (some 5), .stage [6] (some 7)])], loops := [(5, [(21, .one (.int .i64))], [])] }) (by rw [show vcFS Tryz.prog W { keep := some [0, 2, 3, 4, 6, 19, 20, 21, 22], track := [6], stages := [(7, [.held [(0, true), (3, true), (1, true), (4, true), (2, false)], .stage [] (some 5), .stage [6] (some 7)])], loops := [(5, [(21, .one (.int .i64))], [])] } F.store_Store_Snapshot #[.pointer (some ⟨sB, sO, none⟩)] R Φ J = Bstore_Store_Snapshot sB sO W R Φ J by kernel_rfl]; exact h) c

/-- erratalaw29.digits -/
def Berratalaw29_digits (n : Int) (W : World) (R : List Own) (Φ : PW) (J : Value → World → Prop) : Prop :=
  ((10 : Int) = 0 → False) ∧ I64 (n.tdiv 10) ∧ ((10 : Int) = 0 → False) ∧ I64 (48 + (n.tdiv 10).tmod 10) ∧ ((10 : Int) = 0 → False) ∧ I64 (48 + n.tmod 10) ∧ ∀ (k0 : Nat) (w1 : World) (R2 :
  List Own), Ctx W w1 (Own.blk k0 [Value.int IntKind.u8 (IntKind.u8.wrap (48 + (n.tdiv 10).tmod 10)), Value.int IntKind.u8 (IntKind.u8.wrap (48 + n.tmod 10))] 5 :: R ++ R2) Φ → ∃ (s3 :
  ByteArray), ∃ (w4 : World), Sem.run Tryz.prog (convert 87 9 (Value.slice (some (Addr.mk k0 0 none)) 2 2)) w1 = Result.ok (Value.string s3) w4 ∧ ∃ (R5 : List Own), ∃ (Φ6 : PW), Stable Φ6 ∧
  Ctx W w4 (R5 ++ R2) Φ6 ∧ ∀ (w7 : World) (R8 : List Own), Ctx W w7 (R5 ++ R8) Φ6 → J (Value.string s3) w7

theorem Berratalaw29_digits_run (n : Int) {W w : World} {R : List Own} {Φ : PW} [Stable Φ] {J : Value → World → Prop} (c : Ctx W w R Φ) (h : Berratalaw29_digits n W R Φ J) : Calls Tryz.prog F.erratalaw29_digits #[.int .i64 n] w fun e w' => ∃ v, e = .returned v ∧ J v w' :=
  vcFS_sound (H := { keep := some [0, 2] }) (by rw [show vcFS Tryz.prog W { keep := some [0, 2] } F.erratalaw29_digits #[.int .i64 n] R Φ J = Berratalaw29_digits n W R Φ J by kernel_rfl]; exact h) c

end Go.Proofs.YtebnciehcnedjaaGreatDoor
end

/-
  Snapshot, walked.
-/
section
set_option linter.unusedVariables false
set_option linter.unusedSimpArgs false
namespace Go.Proofs.YtebnciehcnedjaaGreatDoor
open Go.Vc


def pairL (x : PairD) : List UInt8 := (textB x.key ++ textB x.val).data.toList
def pairsL (l : Run) : List UInt8 := l.flatMap pairL
def headL (seq : Int) (n : Nat) : List UInt8 := (intB seq ++ natB n).data.toList
def snapL (seq : Int) (l : Run) : List UInt8 := headL seq l.length ++ pairsL l
def snapB (s : StD) : ByteArray := ⟨(snapL s.seq (scanS s tE)).toArray⟩
abbrev Fit1 (l : Run) : Prop := ∀ x ∈ l, x.key.size ≤ 1000 ∧ x.val.size ≤ 1000

theorem pairsL_app (a b : Run) : pairsL (a ++ b) = pairsL a ++ pairsL b := List.flatMap_append
theorem pairsL_one (x : PairD) : pairsL [x] = pairL x := by simp [pairsL]
theorem pairL_len {x : PairD} (h : x.key.size ≤ 1000 ∧ x.val.size ≤ 1000) : (pairL x).length ≤ 2044 := by
  have h1 := textB_size (s := x.key) (by omega)
  have h2 := textB_size (s := x.val) (by omega)
  unfold pairL
  rw [list_size, size_app]
  omega
theorem pairsL_len : ∀ {l : Run}, Fit1 l → (pairsL l).length ≤ l.length * 2044
  | [], _ => by simp [pairsL]
  | x :: l, h => by
    have h1 := pairL_len (h x (by simp))
    have h2 := pairsL_len (l := l) fun y hy => h y (by simp [hy])
    rw [show x :: l = [x] ++ l from rfl, pairsL_app, pairsL_one, List.length_append, List.length_append]
    simp only [List.length_cons, List.length_nil]
    omega
theorem pairsL_pre {l : Run} (h : Fit1 l) (hl : l.length ≤ 1000000) (i : Nat) : (pairsL (l.take i)).length ≤ 2044000000 := by
  have h1 := pairsL_len (l := l.take i) fun y hy => h y (List.mem_of_mem_take hy)
  rw [List.length_take] at h1
  omega
theorem headL_len {seq : Int} (h : I64 seq) {n : Nat} (hn : n ≤ 1000000) : (headL seq n).length ≤ 42 := by
  have h1 := intB_size h
  have h2 := natB_size (n := n) (by unfold I64; omega)
  unfold headL
  rw [list_size, size_app]
  omega

section
variable {Φ : PW} {q : TO} {s : StD}
set_option maxHeartbeats 1000000 in
theorem Snapshot_in [Stable Φ] [hΦ : Has Φ (StR q s)] (hT : ∀ M w, Φ M w → TabI M w) (hC : StC q s) (hn : s.levels.length ≤ 900000) (hl : s.levels.flatten.length ≤ 900000) (hv : (verP s).length ≤ 1000000) (hz : Fit1 (verP s)) (hs : I64 s.seq) :
    GivesIn Φ Tryz.prog F.store_Store_Snapshot #[.pointer (some ⟨q.sb, 0, none⟩)] (.string (snapB s)) := by
  have hz1 : Szs (verP s) := fun x hx => by have := hz x hx; unfold maxLen; omega
  obtain ⟨l, hL⟩ : ∃ l, scanS s tE = l := ⟨_, rfl⟩
  have hsub : l.length ≤ (verP s).length ∧ Fit1 l := by
    have h1 : (scanS s tE).length ≤ (verP s).length := Nat.le_trans (List.length_filter_le _ _) (Nat.le_trans (List.length_filter_le _ _) (normK_len _))
    rw [hL] at h1
    refine ⟨h1, fun x hx => hz x ?_⟩
    rw [← hL] at hx
    exact normK_mem x (List.mem_filter.1 (List.mem_filter.1 hx).1).1
  have hll : l.length ≤ 1000000 := by omega
  have hpre := pairsL_pre hsub.2 hll
  have hhd := headL_len hs hll
  refine gives_in (Bstore_Store_Snapshot_run q.sb 0) fun W R => fun w G cx => ?_
  refine (Scan_sl (pre := tE) hC hn hl (by omega) hz1 (by show 0 ≤ _; omega)).use cx fun p c w g1 g2 cx => ?_
  have hth := cx.phi.2.there
  rw [hL] at cx hth ⊢
  have st : Stable (fun M w => Φ M w ∧ Sl M w p l) := instStableAnd Φ (fun M w => Sl M w p l)
  obtain ⟨Φ1, hΦ1⟩ : ∃ Φ1 : PW, Φ1 = (fun M w => Φ M w ∧ Sl M w p l) := ⟨_, rfl⟩
  rw [← hΦ1] at cx st
  have r1 : ∀ M w, Φ1 M w → Φ M w := fun M w h => by rw [hΦ1] at h; exact h.1
  have r2 : ∀ M w, Φ1 M w → Sl M w p l := fun M w h => by rw [hΦ1] at h; exact h.2
  have hT1 : ∀ M w, Φ1 M w → TabI M w := fun M w h => hT M w (r1 M w h)
  refine ⟨p, _, c, rfl, R, Φ1, st, cx, fun b w G cx => ⟨s.seq, (hΦ.go _ _ (r1 _ _ cx.phi)).1.2.1 2 (by show 2 < 5; decide), fun w G cx => ?_⟩⟩
  have hi1 := intB_size hs
  have hn1 := natB_size (n := l.length) (by unfold I64; omega)
  refine (Int_in (.inl ⟨hT1, hs⟩)).use cx fun w cx => ⟨_, rfl, .blk b [.pointer none, .slice none 0 0] 89 :: R, Φ1, st, cx, fun w G cx => ?_⟩
  refine (Num_in (.inl ⟨hT1, by unfold I64; omega⟩)).use cx fun w cx => ⟨_, rfl, .blk b [.pointer none, .slice none 0 0] 89 :: R, Φ1, st, cx, by show (intB s.seq).size + (natB l.length).size ≤ _; omega, fun w G cx => ?_⟩
  refine WriteString_use (intB s.seq ++ natB l.length) Bd.nil (Bd.fresh cx) (by rw [size_app]; simp only [List.length_nil]; omega) fun R1 w hB cx => ⟨_, _, rfl, R1 ++ R, Φ1, st, by rw [List.append_assoc]; exact cx, ?_⟩
  rw [List.nil_append] at hB
  clear cx
  refine exI_mk (fun iI R' Φ' k => ∃ (i : Nat) (Q : List Own), iI = i ∧ i ≤ l.length ∧ BdT b (headL s.seq l.length ++ pairsL (l.take i)) Q ∧ R' = Q ++ R ∧ Φ' = Φ1 ∧ k = l.length - i) ⟨⟨_, Φ1, _, st, fun w G cx => cx, 0, R1, rfl, Nat.zero_le _, by rw [List.take_zero, show pairsL [] = [] from rfl, List.append_nil]; exact hB, rfl, rfl, rfl⟩, ?_⟩
  rintro iI R2 Φ2 k _ ⟨i, Q, rfl, hi, hQ, rfl, rfl, rfl⟩
  refine Br.intro (fun hlt => ?_) (fun hge => fun w G cx => ?_)
  · have hlt : i < l.length := by have := of_decide_eq_true hlt; omega
    obtain ⟨g, o, rfl⟩ := hth (by omega)
    have hx := hsub.2 _ (List.getElem_mem hlt)
    have hk1 := textB_size (s := l[i].key) (by omega)
    have hk2 := textB_size (s := l[i].val) (by omega)
    have hstep : pairsL (l.take (i + 1)) = pairsL (l.take i) ++ pairL l[i] := by rw [List.take_succ_eq_append_getElem hlt, pairsL_app, pairsL_one]
    have hp1 := hpre i
    have any : ∀ {w : World} {R G : List Own} {Ψ : PW} [Stable Ψ], Ctx W w (R ++ G) Ψ → Ctx W w ([] ++ G) (fun _ _ => True) := fun cx => (Ctx.right cx).weak fun _ _ _ => trivial
    refine ⟨by omega, ptrK_intro g o rfl fun w G cx => ⟨l[i].key, l[i].val, by rw [Int.toNat_natCast]; exact sl_pair (r2 _ _ cx.phi) hlt, fun _ => ⟨[], fun _ _ => True, inferInstance, fun w G cx => any cx, fun w G cx => ?_⟩⟩⟩
    refine (Text_in (.inl ⟨hT1, by unfold I64; omega⟩) (by omega)).use cx fun w cx => ⟨_, rfl, Q ++ R, Φ2, inferInstance, cx, fun w G cx => any cx, fun w G cx => ?_⟩
    refine (Text_in (.inl ⟨hT1, by unfold I64; omega⟩) (by omega)).use cx fun w cx => ⟨_, rfl, Q ++ R, Φ2, inferInstance, cx, by show (textB l[i].key).size + (textB l[i].val).size ≤ _; omega, fun w G cx => ?_⟩
    refine WriteString_use (textB l[i].key ++ textB l[i].val) hQ (cx.re (List.append_assoc _ _ _)) (by rw [List.length_append, size_app]; omega) fun Q' w hQ' cx => ⟨_, _, rfl, Q' ++ R, Φ2, inferInstance, by rw [List.append_assoc]; exact cx, by unfold I64; omega, _, Φ2, l.length - (i + 1), inferInstance, fun w G cx => cx, ⟨i + 1, Q', by omega, hlt, ?_, rfl, rfl, rfl⟩, by omega⟩
    rw [hstep, ← List.append_assoc]; exact hQ'
  · have hge : i = l.length := by have := of_decide_eq_false hge; omega
    subst hge
    rw [List.take_length] at hQ
    exact String_use hQ (cx.re (List.append_assoc _ _ _)) fun w cx => ⟨_, rfl, R, Φ2, inferInstance, cx, fun w G cx => ⟨by unfold snapB; rw [hL]; rfl, cx.left.weak r1⟩⟩
end
end Go.Proofs.YtebnciehcnedjaaGreatDoor
end

/-
  Restore, walked.
-/
section
set_option linter.unusedVariables false
set_option linter.unusedSimpArgs false
namespace Go.Proofs.YtebnciehcnedjaaGreatDoor
open Go.Vc


theorem geq_run (a b : ByteArray) (t : TypeId) (w : World) : Sem.run Tryz.prog (binOp BinOp.geq t (.string a) (.string b)) w = .ok (.bool (decide (0 ≤ cmpT a b))) w := by
  have e : binOp .geq t (.string a) (.string b) = pure (.bool !(Op.bytesLess a.toList b.toList)) := by simp [binOp, Op.stringOp]
  rw [e, Sem.run_pure]
  have h1 : Op.bytesLess a.toList b.toList = decide (cmpT a b < 0) := bl_cmp a b
  rw [h1]
  congr 2
  by_cases h : cmpT a b < 0
  · rw [decide_eq_true h, decide_eq_false (show ¬ 0 ≤ cmpT a b by omega)]; rfl
  · rw [decide_eq_false h, decide_eq_true (show 0 ≤ cmpT a b by omega)]; rfl

abbrev keyT (st : RdS) : ByteArray := (stepT st).1
abbrev valT (st : RdS) : ByteArray := (stepT (stepT st).2).1
abbrev nextT (st : RdS) : RdS := (stepT (stepT st).2).2
def lastKey (acc : Run) : ByteArray := (acc.getLast?.map PairD.key).getD tE
def stopB (acc : Run) (st : RdS) : Bool := decide (valT st = tE) || (decide ((0 : Int) < acc.length) && decide (0 ≤ cmpT (lastKey acc) (keyT st)))
def pairsK : Nat → RdS → Run → Option (Run × RdS)
  | 0, st, acc => some (acc, st)
  | k + 1, st, acc => if stopB acc st = true then none else pairsK k (nextT st) (acc ++ [⟨keyT st, valT st⟩])
def restS (n : Int) (ps : Run) : StD := ⟨[], addAt 1 [] ps, n, [], n⟩
def restL (l : List UInt8) : Option StD :=
  match pairsK (rdNat (rdInt (l, false)).2).1.toNat (rdNat (rdInt (l, false)).2).2 [] with
  | none => none
  | some (ps, st) => if (rdDone st = true ∧ 0 ≤ (rdInt (l, false)).1) ∧ (rdInt (l, false)).1 ≤ 1099511627776 then some (restS (rdInt (l, false)).1 ps) else none

theorem stepT_eats (st : RdS) : (stepT st).1.data.toList = [] ∨ (stepT st).2.1.length + 3 + (stepT st).1.size ≤ st.1.length := by
  unfold stepT
  simp only
  split
  · exact .inl rfl
  · rename_i h
    by_cases hc : (stepC 44 ((stepN 58 0 st).2.1.drop (stepN 58 0 st).1.toNat, (stepN 58 0 st).2.2)).2 = true
    · left
      rw [if_pos hc]
    · right
      simp only
      rw [if_neg hc, bs_size, List.length_take]
      unfold stepN at hc ⊢
      split at hc
      · rename_i n r hn
        obtain ⟨⟨h1, _⟩, h2⟩ := (numP_iff (.inl rfl)).1 hn
        have := itoa_len h1
        simp only at hc ⊢
        unfold stepC at hc ⊢
        simp only at hc ⊢
        split at hc
        · exact absurd rfl hc
        · rename_i x r2 hx
          have hlen := congrArg List.length hx
          rw [List.length_drop, List.length_cons] at hlen
          split at hc
          · rename_i hxe
            rw [if_pos hxe, h2, List.length_append, List.length_cons]
            simp only; omega
          · exact absurd rfl hc
      · exfalso
        apply hc
        rfl
/-- a pair that is read -/
theorem pair_eats {acc : Run} {st : RdS} (h : stopB acc st = false) : (nextT st).1.length + 3 ≤ st.1.length ∧ (keyT st).size ≤ st.1.length ∧ (valT st).size ≤ st.1.length := by
  unfold stopB at h
  rw [Bool.or_eq_false_iff] at h
  have h1 := of_decide_eq_false h.1
  have a := stepT_len st
  have b := stepT_len (stepT st).2
  have c := stepT_eats (stepT st).2
  rcases c with c | c
  · exfalso
    apply h1
    show (stepT (stepT st).2).1 = tE
    refine ByteArray.ext ?_
    exact Array.toList_inj.1 c
  · exact ⟨by show (stepT (stepT st).2).2.1.length + 3 ≤ _; omega, by show (stepT st).1.size ≤ _; omega, by show (stepT (stepT st).2).1.size ≤ _; omega⟩
theorem lastKey_at {acc : Run} (h : 0 < acc.length) : lastKey acc = (acc[acc.length - 1]'(by omega)).key := by
  unfold lastKey
  rw [List.getLast?_eq_getElem?, List.getElem?_eq_getElem (by omega)]
  rfl
theorem idxL_at : ∀ (n : Nat) (a : Run) (i : Nat) (h : i < a.length), (idxL n a)[i]? = some ⟨a[i], n + i⟩
  | n, x :: a, 0, _ => rfl
  | n, x :: a, i + 1, h => by
    rw [idxL, List.getElem?_cons_succ, idxL_at (n + 1) a i (by simpa using h), List.getElem_cons_succ, show n + 1 + i = n + (i + 1) by omega]

set_option maxHeartbeats 4000000 in
theorem Restore_use {W w : World} {S : List Own} {Φ : PW} [Stable Φ] (hΦ : ∀ M w, Φ M w → NumI M w) (l : List UInt8) (hl : l.length ≤ 1000000) (cx : Ctx W w S Φ) {K : Ending → World → Prop}
    (h0 : ∀ w', restL l = none → Ctx W w' S Φ → K (.returned (.tuple #[.pointer none, .bool false])) w')
    (h1 : ∀ q s w', restL l = some s → StQ q s → Ctx W w' (stO q s S) (fun M w => Φ M w ∧ stF q s M w) → K (.returned (.tuple #[.pointer (some ⟨q.sb, 0, none⟩), .bool true])) w') :
    Calls Tryz.prog F.store_Restore #[.string (bs l)] w K := by
  refine (Bstore_Restore_run (bs l) (J := fun u w' => K (.returned u) w') cx ?_).mono fun e w' ⟨v, he, hj⟩ => by rw [he]; exact hj
  clear cx
  refine fun w G cx => Open_use l cx fun b w cx => ⟨_, rfl, rd b (l, false) :: S, Φ, inferInstance, cx, fun w G cx => ?_⟩
  refine RInt_to hΦ (by show l.length ≤ _; omega) cx ?_
  have hlen1 : (rdInt (l, false)).2.1.length ≤ l.length := stepN_len 59 (-9223372036854775808) (l, false)
  unfold restL at h0 h1
  have hsq := rdInt_i64 (l, false)
  obtain ⟨⟨sq, st1⟩, e1⟩ : ∃ x, rdInt (l, false) = x := ⟨_, rfl⟩
  rw [e1] at h0 h1 hlen1 hsq ⊢
  simp only at h0 h1 hlen1 hsq ⊢
  refine fun kb w G cx => ?_
  have cx1 : Ctx W w (rd b st1 :: (Own.blk kb [.slice none 0 0, .slice none 0 0, .int .i64 sq, .slice none 0 0, .int .i64 0] 77 :: S) ++ G) Φ := cx.swap
  clear cx
  refine RNum_to hΦ (by omega) cx1 ?_
  clear cx1
  have hlen2 : (rdNat st1).2.1.length ≤ st1.1.length := stepN_len 59 0 st1
  have hN : 0 ≤ (rdNat st1).1 := (stepN_nonneg (e := 59) (.inr (.inl rfl)) st1).1
  obtain ⟨⟨N, st2⟩, e2⟩ : ∃ x, rdNat st1 = x := ⟨_, rfl⟩
  rw [e2] at h0 h1 hlen2 hN ⊢
  simp only at h0 h1 hlen2 hN ⊢
  obtain ⟨B, hB⟩ : ∃ B, Own.blk kb [.slice none 0 0, .slice none 0 0, .int .i64 sq, .slice none 0 0, .int .i64 0] 77 = B := ⟨_, rfl⟩
  rw [hB]
  refine exI_mk (fun p n c R' Φ' k => ∃ (acc : Run) (st : RdS), n = acc.length ∧ pairsK (N.toNat - acc.length) st acc = pairsK N.toNat st2 [] ∧ acc.length ≤ N.toNat ∧ acc.length + st.1.length ≤ l.length ∧ (∀ x ∈ acc, x.key.size ≤ l.length ∧ x.val.size ≤ l.length) ∧ R' = rd b st :: tabO p c acc :: B :: S ∧ Φ' = Φ ∧ k = N.toNat - acc.length)
    ⟨⟨rd b st2 :: tabO none 0 [] :: B :: S, Φ, _, inferInstance, fun w G cx => (Ctx.nobuf cx 69 2).swap, [], st2, rfl, by rw [List.length_nil, Nat.sub_zero], by simp, by simp only [List.length_nil]; omega, fun x hx => (by cases hx), rfl, rfl, rfl⟩, ?_⟩
  rintro p n c R1 Φ1 k _ ⟨acc, st, rfl, hK, hle, hlen, hsz, rfl, rfl, rfl⟩
  refine Br.intro (fun hlt => fun w G cx => ?_) (fun hge => fun w G cx => ?_)
  · have hlt : acc.length < N.toNat := by have := of_decide_eq_true hlt; omega
    obtain ⟨m, hm⟩ : ∃ m, N.toNat - acc.length = m + 1 := ⟨N.toNat - acc.length - 1, by omega⟩
    rw [hm, show pairsK (m + 1) st acc = if stopB acc st = true then none else pairsK m (nextT st) (acc ++ [⟨keyT st, valT st⟩]) from rfl] at hK
    have ha := stepT_len st
    have hb := stepT_len (stepT st).2
    refine Text_to hΦ (by omega) cx fun w G cx => Text_to hΦ (by omega) cx fun b1 w G cx => ?_
    refine ⟨fun _ => by unfold I64; omega, fun hc => ?_, ?_⟩
    · have := (Bool.and_eq_true _ _).mp hc
      have := of_decide_eq_true this.2
      omega
    have hptr : ∀ (w : World) (G : List Own), Ctx W w (rd b (nextT st) :: tabO p c acc :: B :: S ++ G) Φ1 → 0 < acc.length → ∃ g, p = some ⟨g, 0, none⟩ := fun w G cx h => e_ptr cx.swap (by rw [idxL_len]; exact h)
    have body : ∀ s52 : ByteArray, (0 < acc.length → s52 = lastKey acc) → ∃ c53 : Bool, ((!decide (valT st = ByteArray.mk #[]) && decide ((0 : Int) < acc.length)) = true → ∀ w, Sem.run Tryz.prog (binOp BinOp.geq 9 (.string s52) (.string (keyT st))) w = .ok (.bool c53) w) ∧ (decide (valT st = ByteArray.mk #[]) || decide ((0 : Int) < acc.length) && c53) = stopB acc st := fun s52 hs => ⟨decide (0 ≤ cmpT s52 (keyT st)), fun _ w => geq_run _ _ _ _, by
      unfold stopB
      by_cases h : (0 : Int) < acc.length
      · rw [hs (by omega)]
      · rw [decide_eq_false h]; rfl⟩
    have tail : ∀ c0 : Bool, (c0 = stopB acc st) → c0 = true → K (.returned (.tuple #[.pointer none, .bool false])) w ∨ True := fun _ _ _ => .inr trivial
    clear tail
    have hptrK : ∀ {X : Nat → Nat → Prop}, (∀ g o, (0 < acc.length → p = some ⟨g, o, none⟩ ∧ o = 0) → X g o) → ptrK (some (!decide (valT st = ByteArray.mk #[]) && decide ((0 : Int) < acc.length))) p X := fun {X} hX => by
      by_cases h : 0 < acc.length
      · obtain ⟨g, hg⟩ := hptr _ _ cx h
        exact ptrK_intro g 0 hg (hX g 0 fun _ => ⟨hg, rfl⟩)
      · exact ptrK_off (by rw [decide_eq_false (show ¬ (0 : Int) < acc.length by omega), Bool.and_false]) fun g o => hX g o fun h2 => absurd h2 h
    refine hptrK fun g o hg => ⟨lastKey acc, fun hc => ?_, ?_⟩
    · have h3 := of_decide_eq_true ((Bool.and_eq_true _ _).mp hc).2
      obtain ⟨rfl, rfl⟩ := hg (by omega)
      have h4 := e_row cx.swap (idxL_at 0 acc (acc.length - 1) (by omega))
      rw [lastKey_at (by omega)]
      have h5 := h4 0 (by show 0 < 2; decide)
      rw [show ((acc.length : Int) - 1).toNat = acc.length - 1 by omega, Nat.zero_add]
      exact h5
    obtain ⟨c53, hc1, hc2⟩ := body (lastKey acc) fun _ => rfl
    refine ⟨c53, hc1, ?_⟩
    rw [hc2]
    clear hc1 hc2 body hptrK hg
    refine Br.intro (fun hs => fun w G cx => ?_) (fun hs => ?_)
    · rw [hs, if_pos rfl] at hK
      have cx2 : Ctx W w (S ++ G) Φ1 := cx.drop1.drop1.drop1
      exact h0 w (by rw [← hK]) cx2.left
    · rw [if_neg (by rw [hs]; simp)] at hK
      obtain ⟨h3, h4, h5⟩ := pair_eats hs
      refine fun k2 w G cx => ?_
      have hsw : (Own.blk k2 [.string (keyT st), .string (valT st)] 69 :: tabO p c acc :: (rd b (nextT st) :: (B :: S ++ G))).Perm (Own.blk k2 [.string (keyT st), .string (valT st)] 69 :: rd b (nextT st) :: tabO p c acc :: (B :: S ++ G)) := List.Perm.cons _ (List.Perm.swap _ _ _)
      have cx2 := Ctx.perm cx hsw.symm
      have hil := idxL_len 0 acc
      obtain ⟨p', cap', w', hr, _, cx3⟩ := cx2.app1 (ts := 74) (ty := 74) (kb := #[false, false]) (bytes := 32) (P := Tryz.prog) (by kernel_rfl) (by omega) rfl rfl (by omega) (by omega)
      have ea : (acc ++ [(⟨keyT st, valT st⟩ : PairD)]).length = acc.length + 1 := by rw [List.length_append]; rfl
      have eb : cellsE (idxL 0 acc) ++ [Value.string (keyT st), Value.string (valT st)] = cellsE (idxL 0 (acc ++ [(⟨keyT st, valT st⟩ : PairD)])) := by
        rw [idxL_app, cellsE_app]
        rfl
      rw [hil] at hr
      have cx4 : Ctx W w' (rd b (nextT st) :: tabO p' cap' (acc ++ [(⟨keyT st, valT st⟩ : PairD)]) :: (B :: S ++ G)) Φ1 := by
        have h6 := cx3.swap
        rw [eb, hil] at h6
        show Ctx W w' (rd b (nextT st) :: Own.buf p' (idxL 0 (acc ++ [(⟨keyT st, valT st⟩ : PairD)])).length cap' (cellsE (idxL 0 (acc ++ [(⟨keyT st, valT st⟩ : PairD)]))) _ 2 :: (B :: S ++ G)) Φ1
        rw [idxL_len, ea]
        exact h6
      refine ⟨p', _, cap', w', hr, rd b (nextT st) :: tabO p' cap' (acc ++ [(⟨keyT st, valT st⟩ : PairD)]) :: B :: S, Φ1, inferInstance, cx4, _, Φ1, N.toNat - (acc.length + 1), inferInstance, fun w G cx => cx, ⟨acc ++ [(⟨keyT st, valT st⟩ : PairD)], nextT st, by rw [ea], ?_, by rw [ea]; omega, by rw [ea]; omega, fun x hx => ?_, rfl, rfl, by rw [ea]⟩, by omega⟩
      · rw [ea, show N.toNat - (acc.length + 1) = m by omega]
        exact hK
      · rcases List.mem_append.1 hx with hx | hx
        · exact hsz x hx
        · rw [List.mem_singleton.1 hx]
          exact ⟨by show (keyT st).size ≤ _; omega, by show (valT st).size ≤ _; omega⟩
  · have hge : N.toNat - acc.length = 0 := by have := of_decide_eq_false hge; omega
    rw [hge, show pairsK 0 st acc = some (acc, st) from rfl] at hK
    rw [← hK] at h0 h1
    simp only at h0 h1
    have drop : ∀ (w : World) (G : List Own), Ctx W w (rd b st :: tabO p c acc :: B :: S ++ G) Φ1 → Ctx W w S Φ1 := fun w G cx => by
      have cx2 : Ctx W w (S ++ G) Φ1 := cx.drop1.drop1.drop1
      exact cx2.left
    refine Done_to cx ?_
    refine Br.intro (fun hd => fun w G cx => h0 w (if_neg fun h => by rw [h.1.1] at hd; cases hd) (drop w G cx)) (fun hd => fun w G cx => ⟨sq, by rw [← hB] at cx; exact cx.get 2 rfl rfl, Br.intro (fun hn => fun w G cx => h0 w (if_neg fun h => by have := of_decide_eq_true hn; omega) (drop w G cx)) (fun hn => fun w G cx => ⟨sq, by rw [← hB] at cx; exact cx.get 2 rfl rfl, Br.intro (fun hx => fun w G cx => h0 w (if_neg fun h => by have := of_decide_eq_true hx; omega) (drop w G cx)) (fun hx => fun w G cx => ⟨sq, by rw [← hB] at cx; exact cx.get 2 rfl rfl, fun w G cx => ⟨by rw [← hB] at cx; exact cx.can 2 rfl (by show 0 + 4 + 1 ≤ 5; omega), fun w' hw' => ?_⟩⟩)⟩)⟩)
    have hn := of_decide_eq_false hn
    have hx := of_decide_eq_false hx
    have hd : rdDone st = true := by cases hr : rdDone st with
      | true => rfl
      | false => rw [hr] at hd; cases hd
    rw [← hB] at cx
    have cx1 := cx.put 2 hw' rfl
    have hel : restS sq acc = ⟨[], addAt 1 [] acc, sq, [], sq⟩ := rfl
    refine ⟨rd b st :: tabO p c acc :: Own.blk kb [.slice none 0 0, .slice none 0 0, .int .i64 sq, .slice none 0 0, .int .i64 sq] 77 :: S, Φ1, inferInstance, cx1, fun w G cx => ?_⟩
    have cx2 := cx.drop1
    have hz1 : Szs acc := fun x hx => by have := hsz x hx; unfold maxLen; omega
    obtain ⟨c1, c2, c3⟩ := freezeE (S := Own.blk kb [.slice none 0 0, .slice none 0 0, .int .i64 sq, .slice none 0 0, .int .i64 sq] 77 :: S ++ G) cx2 (by rw [idxL_d]; exact hz1)
    rw [idxL_d] at c1 c2
    have st1 : Stable (fun M w => Φ1 M w ∧ Sl M w p acc) := instStableAnd Φ1 (fun M w => Sl M w p acc)
    have c4 := ((c1.nobuf 84 1).swap).weak (Ψ := fun M w => (Φ1 M w ∧ Sl M w p acc) ∧ LBE [] M w) fun M w h => ⟨h, fun x hx => by cases hx⟩
    refine add_use (Φ := fun M w => Φ1 M w ∧ Sl M w p acc) (hR := ⟨fun M w h => h.2⟩) (i := 1) (sb := kb) (tS := 77) (a := .slice none 0 0) (lp := none) (lc := 0) (c := .int .i64 sq) (d := .slice none 0 0) (e := .int .i64 sq) (bs := []) (S := S ++ G) c2 c3 (by omega) (by simp) (fun x hx => by cases hx) c4 fun lp' lc' bs' w' hb' cx5 => ?_
    have stL : Stable (fun M w => (Φ1 M w ∧ Sl M w p acc) ∧ LBE bs' M w) := instStableAnd (fun M w => Φ1 M w ∧ Sl M w p acc) (LBE bs')
    refine ⟨rfl, stA kb 77 (.slice none 0 0) lp' lc' (.int .i64 sq) (.slice none 0 0) (.int .i64 sq) bs' S, _, stL, cx5.re (by unfold stA; simp only [List.append_assoc, List.cons_append]), fun w G cx => ?_⟩
    have cx6 := (cx.left.nobuf 46 3).nobuf 69 2
    refine h1 ⟨kb, none, 0, lp', lc', bs', none, 0, []⟩ (restS sq acc) w (if_pos ⟨⟨hd, by omega⟩, by omega⟩) ⟨hb', fun x hx => by cases hx⟩ ((cx6.perm ?_).weak fun M w h => ⟨h.1.1, Elems.nil, h.2⟩)
    unfold stO stA
    show (Own.buf none 0 0 [] 69 2 :: Own.buf none 0 0 [] 46 3 :: (Own.blk kb [.slice none 0 0, .slice lp' bs'.length lc', .int .i64 sq, .slice none 0 0, .int .i64 sq] 77 :: Own.buf lp' bs'.length lc' (bs'.map LB.cell) 84 1 :: (bs'.map LB.own ++ S))).Perm (Own.blk kb [.slice none 0 0, .slice lp' bs'.length lc', .int .i64 sq, .slice none 0 0, .int .i64 sq] 77 :: Own.buf lp' bs'.length lc' (bs'.map LB.cell) 84 1 :: (bs'.map LB.own ++ (Own.buf none 0 0 [] 69 2 :: Own.buf none 0 0 [] 46 3 :: S)))
    have h := List.perm_append_comm_assoc [Own.buf none 0 0 [] 69 2, Own.buf none 0 0 [] 46 3] (Own.blk kb [.slice none 0 0, .slice lp' bs'.length lc', .int .i64 sq, .slice none 0 0, .int .i64 sq] 77 :: Own.buf lp' bs'.length lc' (bs'.map LB.cell) 84 1 :: bs'.map LB.own) S
    simp only [List.cons_append, List.nil_append, List.append_assoc] at h
    exact h
end Go.Proofs.YtebnciehcnedjaaGreatDoor
end

/-
  What was read stands in the string: the readers' results, read backwards.
-/
section
set_option linter.unusedVariables false
set_option linter.unusedSimpArgs false
namespace Go.Proofs.YtebnciehcnedjaaGreatDoor
open Go.Vc

theorem stepN_is {e : UInt8} (he : e.toNat = 58 ∨ e.toNat = 59 ∨ e.toNat = 91) {least : Int} {st : RdS} (h : (stepN e least st).2.2 = false) :
    st.2 = false ∧ I64 (stepN e least st).1 ∧ least ≤ (stepN e least st).1 ∧ st.1 = Lib.itoa (stepN e least st).1 ++ e :: (stepN e least st).2.1 := by
  unfold stepN at h ⊢
  split at h
  · rename_i n r hn
    obtain ⟨⟨h1, h2⟩, h3⟩ := (numP_iff he).1 hn
    exact ⟨h, h1, h2, h3⟩
  · cases h
theorem int_is {st : RdS} (h : (rdInt st).2.2 = false) : st.2 = false ∧ I64 (rdInt st).1 ∧ st.1 = (intB (rdInt st).1).data.toList ++ (rdInt st).2.1 := by
  obtain ⟨h1, h2, _, h3⟩ := stepN_is (e := 59) (.inr (.inl rfl)) h
  refine ⟨h1, h2, ?_⟩
  rw [intB_list, List.append_assoc, List.singleton_append]
  exact h3
theorem nat_is {st : RdS} (h : (rdNat st).2.2 = false) : st.2 = false ∧ I64 (rdNat st).1 ∧ 0 ≤ (rdNat st).1 ∧ st.1 = (natB (rdNat st).1).data.toList ++ (rdNat st).2.1 := by
  obtain ⟨h1, h2, h4, h3⟩ := stepN_is (e := 59) (.inr (.inl rfl)) h
  have h4 : 0 ≤ (rdNat st).1 := h4
  refine ⟨h1, h2, h4, ?_⟩
  rw [show natB (rdNat st).1 = intB (rdNat st).1 from if_neg (by omega), intB_list, List.append_assoc, List.singleton_append]
  exact h3
theorem stepC_is {c : UInt8} {st : RdS} (h : (stepC c st).2 = false) : st.2 = false ∧ st.1 = c :: (stepC c st).1 := by
  obtain ⟨l, bad⟩ := st
  unfold stepC at h ⊢
  cases l with
  | nil => cases h
  | cons x r =>
    simp only at h ⊢
    by_cases hx : x = c
    · rw [if_pos hx] at h ⊢
      exact ⟨h, by rw [hx]⟩
    · rw [if_neg hx] at h
      cases h
theorem text_is {st : RdS} (h : (stepT st).2.2 = false) : st.2 = false ∧ st.1 = (textB (stepT st).1).data.toList ++ (stepT st).2.1 := by
  unfold stepT at h ⊢
  simp only at h ⊢
  split at h
  · cases h
  rename_i hlt
  rw [if_neg hlt]
  simp only at h ⊢
  rw [if_neg (by rw [h]; simp)]
  obtain ⟨h1, h2⟩ := stepC_is h
  simp only at h1 h2
  obtain ⟨h3, h4, h5, h6⟩ := stepN_is (e := 58) (.inl rfl) h1
  refine ⟨h3, ?_⟩
  have hl : ((stepN 58 0 st).2.1.take (stepN 58 0 st).1.toNat).length = (stepN 58 0 st).1.toNat := by rw [List.length_take]; omega
  rw [textB_list, bs_list, bs_size, hl, show (((stepN 58 0 st).1.toNat : Nat) : Int) = (stepN 58 0 st).1 by omega, List.append_assoc, List.cons_append, List.append_assoc, List.singleton_append, ← h2, List.take_append_drop]
  exact h6
theorem done_is {st : RdS} (h : rdDone st = true) : st = ([], false) := by
  unfold rdDone at h
  rw [Bool.and_eq_true] at h
  obtain ⟨l, bad⟩ := st
  have h1 := of_decide_eq_true h.2
  have h2 := h.1
  simp only at h1 h2
  cases bad with
  | true => cases h2
  | false => rw [h1]
end Go.Proofs.YtebnciehcnedjaaGreatDoor
end

/-
  Snapshots, in plain Lean: what Restore makes of them; what it accepts.
-/
section
set_option linter.unusedVariables false
set_option linter.unusedSimpArgs false
namespace Go.Proofs.YtebnciehcnedjaaGreatDoor
open Go.Vc


abbrev NeV (l : Run) : Prop := ∀ x ∈ l, x.val ≠ tE
theorem pairsK_zero (st : RdS) (acc : Run) : pairsK 0 st acc = some (acc, st) := rfl
theorem pairsK_succ (k : Nat) (st : RdS) (acc : Run) : pairsK (k + 1) st acc = if stopB acc st = true then none else pairsK k (nextT st) (acc ++ [⟨keyT st, valT st⟩]) := rfl

theorem headL_app (seq : Int) (n : Nat) (t : List UInt8) : headL seq n ++ t = (intB seq).data.toList ++ ((natB n).data.toList ++ t) := by
  unfold headL
  simp [ByteArray.data_append]
/-- what is read is what stands there -/
theorem pairsK_is : ∀ (k : Nat) (st : RdS) (acc ps : Run) (st' : RdS), pairsK k st acc = some (ps, st') → AscK acc → NeV acc → st'.2 = false → ∃ l, ps = acc ++ l ∧ l.length = k ∧ AscK ps ∧ NeV ps ∧ st.2 = false ∧ st.1 = pairsL l ++ st'.1
  | 0, st, acc, ps, st', h, ha, hv, hb => by
    rw [pairsK_zero] at h
    cases h
    exact ⟨[], by rw [List.append_nil], rfl, ha, hv, hb, rfl⟩
  | k + 1, st, acc, ps, st', h, ha, hv, hb => by
    rw [pairsK_succ] at h
    by_cases hs : stopB acc st = true
    · rw [if_pos hs] at h; cases h
    rw [if_neg hs] at h
    have hs2 : stopB acc st = false := by cases hh : stopB acc st with
      | true => exact absurd hh hs
      | false => rfl
    unfold stopB at hs2
    rw [Bool.or_eq_false_iff] at hs2
    have hv1 : valT st ≠ tE := of_decide_eq_false hs2.1
    have ha2 : AscK (acc ++ [(⟨keyT st, valT st⟩ : PairD)]) := by
      refine List.pairwise_append.2 ⟨ha, List.pairwise_singleton _ _, fun x hx y hy => ?_⟩
      rw [List.mem_singleton.1 hy]
      have h0 : 0 < acc.length := List.length_pos_of_mem hx
      have h3 := hs2.2
      rw [decide_eq_true (show (0 : Int) < acc.length by omega), Bool.true_and] at h3
      have h3 := of_decide_eq_false h3
      have h4 : cmpT (lastKey acc) (keyT st) < 0 := by omega
      rw [lastKey_at h0] at h4
      obtain ⟨i, hi, rfl⟩ := List.getElem_of_mem hx
      by_cases e : i = acc.length - 1
      · subst e; exact h4
      · exact cmpT_cmp.trans _ _ _ (List.pairwise_iff_getElem.1 ha i (acc.length - 1) hi (by omega) (by omega)) h4
    obtain ⟨l, h1, h2, h3, h4, h5, h6⟩ := pairsK_is k _ _ _ _ h ha2 (fun x hx => by
      rcases List.mem_append.1 hx with hx | hx
      · exact hv x hx
      · rw [List.mem_singleton.1 hx]; exact hv1) hb
    obtain ⟨h7, h8⟩ := text_is h5
    obtain ⟨h9, h10⟩ := text_is h7
    refine ⟨⟨keyT st, valT st⟩ :: l, by rw [h1, List.append_assoc]; rfl, by rw [List.length_cons, h2], h3, h4, h9, ?_⟩
    rw [show (⟨keyT st, valT st⟩ : PairD) :: l = [⟨keyT st, valT st⟩] ++ l from rfl, pairsL_app, pairsL_one, List.append_assoc, ← h6]
    unfold pairL
    rw [ByteArray.data_append, Array.toList_append, List.append_assoc, ← h8]
    exact h10
theorem pairsL_mem : ∀ {l : Run} {x : PairD}, x ∈ l → x.key.size ≤ (pairsL l).length ∧ x.val.size ≤ (pairsL l).length
  | y :: l, x, h => by
    rw [show y :: l = [y] ++ l from rfl, pairsL_app, pairsL_one, List.length_append]
    rcases List.mem_cons.1 h with rfl | h
    · have e : (pairL x).length = (textB x.key).data.toList.length + (textB x.val).data.toList.length := by
        unfold pairL
        rw [ByteArray.data_append, Array.toList_append, List.length_append]
      have e1 : x.key.size ≤ (textB x.key).data.toList.length := by
        rw [textB_list]
        have := list_size x.key
        simp only [List.length_append, List.length_cons]; omega
      have e2 : x.val.size ≤ (textB x.val).data.toList.length := by
        rw [textB_list]
        have := list_size x.val
        simp only [List.length_append, List.length_cons]; omega
      omega
    · have := pairsL_mem h
      omega
theorem pairsL_many : ∀ l : Run, l.length ≤ (pairsL l).length
  | [] => Nat.le_refl _
  | y :: l => by
    have h := pairsL_many l
    rw [show y :: l = [y] ++ l from rfl, pairsL_app, pairsL_one, List.length_append, List.length_append]
    have e : 1 ≤ (pairL y).length := by
      unfold pairL
      rw [ByteArray.data_append, Array.toList_append, List.length_append, textB_list]
      simp only [List.length_append, List.length_cons]; omega
    simp only [List.length_cons, List.length_nil]; omega
structure RestOk (seq : Int) (ps : Run) (l : List UInt8) : Prop where
  snap : snapL seq ps = l
  asc : AscK ps
  ne : NeV ps
  pos : 0 ≤ seq
  top : seq ≤ 1099511627776
  fit : ∀ x ∈ ps, x.key.size ≤ l.length ∧ x.val.size ≤ l.length
  len : ps.length ≤ l.length
theorem rest_is {l : List UInt8} {s : StD} (h : restL l = some s) : ∃ seq ps, s = restS seq ps ∧ RestOk seq ps l := by
  unfold restL at h
  split at h
  · cases h
  rename_i ps st hp
  split at h
  · rename_i hc
    cases h
    obtain ⟨⟨h1, h2⟩, h3⟩ := hc
    have hst := done_is h1
    obtain ⟨k, e1, e2, e3, e4, e5, e6⟩ := pairsK_is _ _ _ _ _ hp .nil (fun x hx => by cases hx) (by rw [hst])
    rw [List.nil_append] at e1
    subst e1
    rw [hst, List.append_nil] at e6
    obtain ⟨n1, n2, n3, n4⟩ := nat_is e5
    obtain ⟨i1, i2, i3⟩ := int_is n1
    have e7 : snapL (rdInt (l, false)).1 ps = l := by
      have i4 : l = (intB (rdInt (l, false)).1).data.toList ++ (rdInt (l, false)).2.1 := i3
      unfold snapL
      rw [headL_app, e2, show (((rdNat (rdInt (l, false)).2).1.toNat : Nat) : Int) = (rdNat (rdInt (l, false)).2).1 by omega, ← e6, ← n4]
      exact i4.symm
    have hle : (pairsL ps).length ≤ l.length := by
      conv => rhs; rw [← e7]
      unfold snapL
      rw [List.length_append]; omega
    refine ⟨_, _, rfl, e7, e3, e4, h2, h3, fun x hx => ?_, ?_⟩
    · have := pairsL_mem hx; omega
    · have := pairsL_many ps; omega
  · cases h

/-! ### a restored store -/
theorem filt_true {l : Run} : (l.filter fun x => preP tE x.key) = l := by
  rw [List.filter_eq_self]
  intro x _
  unfold preP
  rw [Bool.and_eq_true, decide_eq_true_eq, decide_eq_true_eq]
  refine ⟨by show (0 : Int) ≤ _; omega, ?_⟩
  show x.key.extract 0 0 = _
  apply ByteArray.ext
  simp [ByteArray.data_extract]
theorem scan_all (s : StD) : scanS s tE = allS s := filt_true
theorem there_ne {l : Run} (h : NeV l) : thereP l = l := by
  unfold thereP
  rw [List.filter_eq_self]
  exact fun x hx => decide_eq_true (h x hx)
theorem rest_ver (seq : Int) (ps : Run) : verP (restS seq ps) = ps := by
  show [] ++ allRuns (addAt 1 [] ps) = ps
  rw [addAt_nil, List.nil_append]
  unfold allRuns
  by_cases e : ps = []
  · rw [if_pos e, e]; rfl
  · rw [if_neg e]; simp
theorem rest_all {seq : Int} {ps : Run} (ha : AscK ps) (hv : NeV ps) : allS (restS seq ps) = ps := by
  unfold allS
  rw [rest_ver, normK_self ha, there_ne hv]
theorem rest_i {seq : Int} {ps : Run} (ha : AscK ps) : StI (restS seq ps) := by
  have e : (restS seq ps).levels = [[], if ps = [] then [] else [ps]] := addAt_nil 1 ps
  refine ⟨.nil, by show 0 < 8; decide, ?_, ?_⟩
  · rw [e]
    by_cases h : ps = []
    · rw [if_pos h]
      have no : ∀ l ∈ ([[], []] : List Lev), ∀ r ∈ l, False := fun l hl r hr => by
        simp at hl
        rw [hl] at hr
        cases hr
      exact ⟨fun l hl r hr => (no l hl r hr).elim, fun l hl r hr => (no l hl r hr).elim⟩
    · rw [if_neg h]
      refine ⟨fun l hl r hr => ?_, fun l hl r hr => ?_⟩
      · simp at hl
        rcases hl with rfl | rfl
        · cases hr
        · rw [List.mem_singleton.1 hr]; exact ha
      · simp at hl
        rcases hl with rfl | rfl
        · cases hr
        · rw [List.mem_singleton.1 hr]; exact h
  · rw [e]
    intro l hl
    simp at hl
    rcases hl with rfl | rfl
    · decide
    · split <;> simp
theorem rest_l (seq : Int) (ps : Run) : StL (restS seq ps) := ⟨Int.le_refl _, by show ((0 : Nat) : Int) = seq - seq; omega, fun j h => by cases h⟩
end Go.Proofs.YtebnciehcnedjaaGreatDoor
end

/-
  An operation of the laws, walked.
-/
section
set_option linter.unusedVariables false
set_option linter.unusedSimpArgs false
namespace Go.Proofs.YtebnciehcnedjaaGreatDoor
open Go.Vc


structure OpD where
  dop : Int
  n : Int
  key : ByteArray
  val : ByteArray
instance : Gv OpD := Gv.via (β := Int × Int × ByteArray × ByteArray) (fun x => (x.dop, x.n, x.key, x.val)) (fun y => ⟨y.1, y.2.1, y.2.2.1, y.2.2.2⟩) (fun _ => rfl)
abbrev OpD.cells (x : OpD) : List Value := [.int .i64 x.dop, .int .i64 x.n, .string x.key, .string x.val]
abbrev OpD.v (x : OpD) : Value := .agg #[.int .i64 x.dop, .int .i64 x.n, .string x.key, .string x.val]

/-- what holds of a store after so many operations -/
structure StB (top : Int) (s : StD) (n : Nat) : Prop where
  i : StI s
  l : StL s
  c : StS s n
  f : Fit1 (verP s)
  lo : 0 ≤ s.seq
  hi : s.seq ≤ top + n

theorem new_b : StB 0 stNew 0 := ⟨new_i, new_l, ⟨by show cntL [] ≤ _; decide, by show 0 ≤ 0; decide, by show 0 ≤ 0; decide, by show I64 1; unfold I64; decide⟩, fun x hx => (by cases hx), by show (0 : Int) ≤ 0; decide, by show (0 : Int) ≤ 0 + 0; decide⟩
theorem StB.more {top : Int} {s : StD} {n : Nat} (h : StB top s n) : StB top s (n + 1) :=
  ⟨h.i, h.l, ⟨by have := h.c.cnt; omega, by have := h.c.ver; omega, by have := h.c.log; omega, h.c.seq⟩, h.f, h.lo, by have := h.hi; omega⟩
theorem put_b {top : Int} (ht : 0 ≤ top ∧ top ≤ 1099511627776) {s : StD} {n : Nat} (hn : n ≤ 1000) (h : StB top s n) {k v : ByteArray} (hk : k.size ≤ 1000) (hv : v.size ≤ 1000) : StB top (putS s k v) (n + 1) := by
  have h1 := h.hi
  have h2 := h.lo
  refine ⟨put_i h.i k v, put_l h.l k v, put_s h.c k v (by unfold I64; omega), fun x hx => ?_, by show 0 ≤ s.seq + 1; omega, by show s.seq + 1 ≤ top + ((n + 1 : Nat) : Int); omega⟩
  rcases put_mem x hx with rfl | hx
  · exact ⟨hk, hv⟩
  · exact h.f x hx
section
variable {top : Int} {s : StD} {n : Nat}
theorem StB.levels (h : StB top s n) : s.levels.length ≤ 2 * n ∧ s.levels.flatten.length ≤ 2 * n ∧ ∀ l ∈ s.levels, l.length ≤ 2 * n := by
  have h1 := h.c.cnt
  unfold cntL at h1
  have h2 : s.levels.flatten.length = (s.levels.map List.length).sum := List.length_flatten
  refine ⟨by omega, by omega, fun l hl => ?_⟩
  have := List.sublist_flatten_of_mem hl |>.length_le
  omega
theorem StB.szs (h : StB top s n) : Szs (verP s) := fun x hx => by have := h.f x hx; unfold maxLen; omega
end

end Go.Proofs.YtebnciehcnedjaaGreatDoor
end

/-
  The laws' helpers: digits, few; what the example's store becomes.
-/
section
set_option linter.unusedVariables false
set_option linter.unusedSimpArgs false
namespace Go.Proofs.YtebnciehcnedjaaGreatDoor
open Go.Vc


theorem op_cells {M : List Nat} {w : World} {cs : List Value} {x : OpD} (h : Gv.rep M w cs x) : cs = x.cells ∧ x.key.size ≤ maxLen ∧ x.val.size ≤ maxLen := by
  obtain ⟨_, _, rfl, ⟨rfl, _⟩, _, _, rfl, ⟨rfl, _⟩, _, _, rfl, ⟨rfl, h1⟩, rfl, h2⟩ := h
  exact ⟨rfl, h1, h2⟩
theorem sl_op {M : List Nat} {w : World} {b o : Nat} {l : List OpD} (h : Sl M w (some ⟨b, o, none⟩) l) {j : Nat} (hj : j < l.length) : RowAt w b (o + j * 4) l[j].cells := by
  obtain ⟨b', o', cs, e, _, h3, h4⟩ := h j hj
  cases e
  obtain ⟨rfl, _⟩ := op_cells h4
  exact h3
def fewP (x : OpD) : Bool := decide ((x.key.size : Int) ≤ 20) && decide ((x.val.size : Int) ≤ 20)
def fewO (l : List OpD) (n : Int) : Bool := decide ((l.length : Int) ≤ n) && l.all fewP
theorem fewO_len {l : List OpD} {n : Int} (h : fewO l n = true) : (l.length : Int) ≤ n := of_decide_eq_true ((Bool.and_eq_true _ _).mp h).1
theorem fewO_fit {l : List OpD} {n : Int} (h : fewO l n = true) : ∀ x ∈ l, x.key.size ≤ 1000 ∧ x.val.size ≤ 1000 := fun x hx => by
  have h1 := List.all_eq_true.1 ((Bool.and_eq_true _ _).mp h).2 x hx
  unfold fewP at h1
  rw [Bool.and_eq_true] at h1
  have h2 := of_decide_eq_true h1.1
  have h3 := of_decide_eq_true h1.2
  omega
theorem few_in {Φ : PW} [Stable Φ] {p : Option Addr} {cap : Nat} {l : List OpD} {n : Int} (hΦ : ∀ M w, Φ M w → Sl M w p l) (hl : l.length ≤ maxLen) : GivesIn Φ Tryz.prog F.erratalaw29_few #[.slice p l.length cap, .int .i64 n] (.bool (fewO l n)) := by
  refine .there (fun M w h => (hΦ M w h).there) fun hth => ?_
  refine gives_in (Berratalaw29_few_run p l.length cap n) fun W R => ?_
  refine exI_mk (fun iI R' Φ' k => ∃ i : Nat, iI = i ∧ i ≤ l.length ∧ (l.take i).all fewP = true ∧ R' = R ∧ Φ' = Φ ∧ k = l.length - i) ⟨⟨R, Φ, _, inferInstance, fun w G cx => cx, 0, rfl, Nat.zero_le _, rfl, rfl, rfl, rfl⟩, ?_⟩
  rintro iI R1 Φ1 k _ ⟨i, rfl, hi, hs, rfl, rfl, rfl⟩
  refine Br.intro (fun hlt => ?_) (fun hge => fun w G cx => ?_)
  · have hlt : i < l.length := by have := of_decide_eq_true hlt; omega
    obtain ⟨g, o, rfl⟩ := hth (by omega)
    refine fun w G cx => ⟨⟨by omega, by omega⟩, ptrK_intro g o rfl ⟨l[i].key, ?_, fun _ => ⟨by omega, by omega⟩, ptrK_intro g o rfl ⟨l[i].val, fun _ => ?_, Br.intro (fun hb => fun w G cx => ⟨?_, cx.left⟩) (fun hb => ⟨by unfold I64; unfold maxLen at hl; omega, R1, Φ1, l.length - (i + 1), inferInstance, fun w G cx => cx, ⟨i + 1, rfl, hlt, ?_, rfl, rfl, rfl⟩, by omega⟩)⟩⟩⟩
    · rw [Int.toNat_natCast]; exact sl_op (hΦ _ _ cx.phi) hlt 2 (by show 2 < 4; decide)
    · rw [Int.toNat_natCast]; exact sl_op (hΦ _ _ cx.phi) hlt 3 (by show 3 < 4; decide)
    · have : fewP l[i] = false := by
        unfold fewP
        rw [Bool.or_eq_true] at hb
        rcases hb with hb | hb
        · have := of_decide_eq_true hb
          rw [decide_eq_false (show ¬ (l[i].key.size : Int) ≤ 20 by omega)]; rfl
        · have := of_decide_eq_true hb
          rw [decide_eq_false (show ¬ (l[i].val.size : Int) ≤ 20 by omega), Bool.and_false]
      unfold fewO
      rw [List.all_eq_false.2 ⟨l[i], List.getElem_mem _, by rw [this]; simp⟩, Bool.and_false]
    · rw [Bool.or_eq_false_iff] at hb
      have h1 := of_decide_eq_false hb.1
      have h2 := of_decide_eq_false hb.2
      have : fewP l[i] = true := by
        unfold fewP
        rw [decide_eq_true (show (l[i].key.size : Int) ≤ 20 by omega), decide_eq_true (show (l[i].val.size : Int) ≤ 20 by omega)]; rfl
      rw [List.take_succ_eq_append_getElem hlt, List.all_append, hs]
      simp [this]
  · have hge : i = l.length := by have := of_decide_eq_false hge; omega
    subst hge
    rw [List.take_length] at hs
    refine ⟨?_, cx.left⟩
    unfold fewO
    rw [hs, Bool.and_true]

def digB (n : Nat) : ByteArray := ⟨[UInt8.ofNat (48 + n / 10 % 10), UInt8.ofNat (48 + n % 10)].toArray⟩
theorem wrap_dig2 (d : Nat) (h : d < 10) : IntKind.u8.wrap (48 + (d : Int)) = ((UInt8.ofNat (48 + d)).toNat : Int) := by
  have e : (UInt8.ofNat (48 + d)).toNat = 48 + d := by
    rw [UInt8.toNat_ofNat']
    exact Nat.mod_eq_of_lt (by omega)
  rw [e]
  simp [IntKind.wrap, IntKind.signed, IntKind.bits]
  omega
theorem digits29_g (n : Nat) (hn : n ≤ 1000) : Gives Tryz.prog F.erratalaw29_digits #[.int .i64 (n : Int)] (.string (digB n)) := by
  refine gives_of (Berratalaw29_digits_run (n : Int)) fun W R Φ hs => ?_
  have e0 : ((n : Int).tdiv 10).tmod 10 = ((n / 10 % 10 : Nat) : Int) := by rw [Int.tdiv_eq_ediv_of_nonneg (by omega), Int.tmod_eq_emod_of_nonneg (by omega)]; omega
  have e1 : (n : Int).tmod 10 = ((n % 10 : Nat) : Int) := by rw [Int.tmod_eq_emod_of_nonneg (by omega)]; omega
  have e2 : (n : Int).tdiv 10 = ((n / 10 : Nat) : Int) := by rw [Int.tdiv_eq_ediv_of_nonneg (by omega)]; omega
  refine ⟨by omega, by rw [e2]; unfold I64; omega, by omega, by rw [e0]; unfold I64; omega, by omega, by rw [e1]; unfold I64; omega, fun k w G cx => ?_⟩
  rw [e0, e1, wrap_dig2 _ (by omega), wrap_dig2 _ (by omega)] at cx
  have hcell : ∀ j, (hj : j < [UInt8.ofNat (48 + n / 10 % 10), UInt8.ofNat (48 + n % 10)].length) → w.cell? ((⟨k, 0, none⟩ : Addr).add j) = some (.int .u8 ([UInt8.ofNat (48 + n / 10 % 10), UInt8.ofNat (48 + n % 10)][j].toNat : Int)) := fun j hj => by
    match j, hj with
    | 0, _ => exact cx.get 0 rfl rfl
    | 1, _ => exact cx.get 0 rfl rfl
  exact ⟨_, _, run_convert_bytes_back w 87 9 5 ⟨k, 0, none⟩ 2 [UInt8.ofNat (48 + n / 10 % 10), UInt8.ofNat (48 + n % 10)] (by kernel_rfl) (by kernel_rfl) (by kernel_rfl) hcell, R, Φ, hs, cx.drop1, fun w G cx => ⟨rfl, cx.left⟩⟩

/-! ### the example, computed -/
def settleF : Nat → List Lev → List Lev
  | 0, _ => []
  | _ + 1, [] => []
  | n + 1, l :: t => if l.length < 4 then l :: settleF n t else [] :: settleF n (addL t (pushR l t))
theorem settleF_eq : ∀ (n : Nat) (ls : List Lev), cntL ls < n → settleL ls = settleF n ls
  | 0, _, h => by omega
  | n + 1, [], _ => by rw [settleL_nil]; rfl
  | n + 1, l :: t, h => by
    have hc : cntL (l :: t) = l.length + 1 + cntL t := by unfold cntL; simp; omega
    show _ = if l.length < 4 then l :: settleF n t else [] :: settleF n (addL t (pushR l t))
    by_cases h4 : l.length < 4
    · rw [settleL_less h4, if_pos h4, settleF_eq n t (by omega)]
    · have ha := addL_cnt t (pushR l t)
      rw [settleL_more h4, if_neg h4, settleF_eq n (addL t (pushR l t)) (by omega)]
def putF (s : StD) (k v : ByteArray) : StD :=
  let t := putK ⟨k, v⟩ s.table
  ⟨if t.length = 8 then [] else t, settleF 100 (if t.length = 8 then addL s.levels t else s.levels), s.seq + 1, s.log ++ [⟨s.seq + 1, k, v⟩], s.cut⟩
theorem putF_eq {s : StD} (h : cntL s.levels ≤ 90) (k v : ByteArray) : putS s k v = putF s k v := by
  have h2 := addL_cnt s.levels (putK ⟨k, v⟩ s.table)
  have h3 : cntL (if (putK ⟨k, v⟩ s.table).length = 8 then addL s.levels (putK ⟨k, v⟩ s.table) else s.levels) < 100 := by split <;> omega
  have e := settleF_eq 100 _ h3
  show (⟨if (putK ⟨k, v⟩ s.table).length = 8 then [] else putK ⟨k, v⟩ s.table, settleL (if (putK ⟨k, v⟩ s.table).length = 8 then addL s.levels (putK ⟨k, v⟩ s.table) else s.levels), s.seq + 1, s.log ++ [⟨s.seq + 1, k, v⟩], s.cut⟩ : StD) = _
  rw [e]
  rfl
abbrev tA : ByteArray := ByteArray.mk #[97]
abbrev tB : ByteArray := ByteArray.mk #[98]
abbrev t1 : ByteArray := ByteArray.mk #[49]
abbrev t2 : ByteArray := ByteArray.mk #[50]
abbrev tX : ByteArray := ByteArray.mk #[120]
def exS : StD := putS (putS (putS stNew tA t1) tB t2) tA tE
def exF : StD := putF (putF (putF stNew tA t1) tB t2) tA tE
def exT : Nat → StD
  | 0 => stNew
  | i + 1 => putS (exT i) (digB i) tX
def exTF : Nat → StD
  | 0 => stNew
  | i + 1 => putF (exTF i) (digB i) tX
theorem exT_b : ∀ i, i ≤ 100 → StB 0 (exT i) i
  | 0, _ => new_b
  | i + 1, h => put_b ⟨by decide, by decide⟩ (by omega) (exT_b i (by omega)) (by show 2 ≤ _; decide) (by show 1 ≤ _; decide)
theorem exT_eq : ∀ i, i ≤ 45 → exT i = exTF i
  | 0, _ => rfl
  | i + 1, h => by
    have hb := (exT_b i (by omega)).c.cnt
    show putS (exT i) (digB i) tX = putF (exTF i) (digB i) tX
    rw [putF_eq (by omega), exT_eq i (by omega)]
theorem exS_b1 : StB 0 (putS stNew tA t1) 1 := put_b ⟨by decide, by decide⟩ (by decide) new_b (by show 1 ≤ _; decide) (by show 1 ≤ _; decide)
theorem exS_b2 : StB 0 (putS (putS stNew tA t1) tB t2) 2 := put_b ⟨by decide, by decide⟩ (by decide) exS_b1 (by show 1 ≤ _; decide) (by show 1 ≤ _; decide)
theorem exS_b : StB 0 exS 3 := put_b ⟨by decide, by decide⟩ (by decide) exS_b2 (by show 1 ≤ _; decide) (by show 0 ≤ _; decide)
theorem exS_eq : exS = exF := by
  have h1 := exS_b1.c.cnt
  have h2 := exS_b2.c.cnt
  unfold exS exF
  rw [putF_eq (by omega), putF_eq (by omega), putF_eq (by show 0 ≤ 90; omega)]
theorem ex_scan : scanS exS tE = [⟨tB, t2⟩] := by rw [exS_eq]; decide +kernel
theorem ex_log : exS.log.map (fun x => x.seq) = [1, 2, 3] := by rw [exS_eq]; decide +kernel
theorem ex_ver : (verP exS).length = 2 ∧ exS.seq = 3 ∧ exS.cut = 0 := by rw [exS_eq]; decide +kernel
theorem ex_runs : runsL (exT 32) = [[], [32]] := by rw [exT_eq 32 (by decide)]; decide +kernel
end Go.Proofs.YtebnciehcnedjaaGreatDoor
end

/-
  The documentation's examples, walked.
-/
section
set_option linter.unusedVariables false
set_option linter.unusedSimpArgs false
namespace Go.Proofs.YtebnciehcnedjaaGreatDoor
open Go.Vc


theorem stO_re (q : TO) (s : StD) (S G : List Own) : stO q s S ++ G = stO q s (S ++ G) := by unfold stO stA; simp only [List.append_assoc, List.cons_append]
instance instStableSt (Φ : PW) [Stable Φ] (q : TO) (s : StD) : Stable (fun M w => Φ M w ∧ stF q s M w) := instStableAnd Φ (fun M w => Elems M w q.gs s.log ∧ LBE q.bs M w)
theorem st_two (a : TO) (s : StD) (b : TO) (t : StD) (S : List Own) : (stO a s (stO b t S)).Perm (stO b t (stO a s S)) := by
  rw [stO_app a s (stO b t S), stO_app b t (stO a s S), stO_app b t S, stO_app a s S]
  exact List.perm_append_comm_assoc _ _ _
/-- a store is laid aside -/
theorem lay {W w : World} {S : List Own} {Φ : PW} [Stable Φ] {q : TO} {s : StD} (hq : StQ q s) (cx : Ctx W w (stO q s S) (fun M w => Φ M w ∧ stF q s M w)) :
    ∃ Ψ : PW, Stable Ψ ∧ (∀ M w, Ψ M w → Φ M w) ∧ (∀ M w, Ψ M w → StR q s M w) ∧ StC q s ∧ (∀ (S : List Own) (w : World), Ctx W w S Ψ → Ctx W w (stO q s S) (fun M w => Φ M w ∧ stF q s M w)) ∧ (∀ (S : List Own) (w : World), Ctx W w (stO q s S) (fun M w => Φ M w ∧ stF q s M w) → Ctx W w S Ψ) :=
  ⟨Aside W (stO q s []) (fun M w => Φ M w ∧ stF q s M w), instStableAside W _ _, fun M w h => h.less.1, fun M w h => st_reads hq (st_bufs cx) h, st_caps hq cx, fun S w c => c.unaside.re (stO_app q s S).symm, fun S w c => (c.re (stO_app q s S)).aside⟩
theorem put_at {W w : World} {S G : List Own} {Φ : PW} [Stable Φ] {q : TO} {b : Nat} (hb : q.sb = b) {s : StD} {n : Nat} {top : Int} (hq : StQ q s) (hB : StB top s n) (hn : n ≤ 400) {k v : ByteArray} (hk : k.size ≤ 1000) (hv : v.size ≤ 1000)
    (cx : Ctx W w (stO q s S ++ G) (fun M w => Φ M w ∧ stF q s M w)) {K : List Own → PW → Prop}
    (hK : ∀ q', q'.sb = b → StQ q' (putS s k v) → K (stO q' (putS s k v) S) (fun M w => Φ M w ∧ stF q' (putS s k v) M w)) :
    Calls Tryz.prog F.store_Store_Put #[.pointer (some ⟨b, 0, none⟩), .string k, .string v] w fun e w' => e = .returned (.tuple #[]) ∧ ∃ R' Φ', Stable Φ' ∧ Ctx W w' (R' ++ G) Φ' ∧ K R' Φ' := by
  subst hb
  exact put_use (S := S ++ G) hq hB.i hB.c hn (by unfold maxLen; omega) (by unfold maxLen; omega) (cx.re (stO_re q s S G)) fun q' w' hb hq' cx2 => ⟨rfl, stO q' (putS s k v) S, _, inferInstance, cx2.re (stO_re q' _ S G).symm, hK q' hb hq'⟩

section
variable {α : Type} [Gv α]
theorem pinl {M : List Nat} {w : World} {g o : Nat} {cs : List (List Value)} {ls : List (List α)} (h : Pin g o cs ls M w) {j : Nat} (hj : j < ls.length) : ∃ p c, cs.getD j [] = [.slice p ls[j].length c] := by
  obtain ⟨_, h1, h2⟩ := h j hj
  obtain ⟨p, c, e, _⟩ := rep_list.1 h2
  exact ⟨p, c, e⟩
theorem pinl_sl {M : List Nat} {w : World} {g o : Nat} {cs : List (List Value)} {ls : List (List α)} (h : Pin g o cs ls M w) {j : Nat} (hj : j < ls.length) {p : Option Addr} {n c : Nat} (e : cs.getD j [] = [.slice p n c]) : Sl M w p ls[j] := by
  obtain ⟨_, h1, h2⟩ := h j hj
  obtain ⟨p', c', e', g1, g2, hs⟩ := rep_list.1 h2
  rw [e] at e'
  simp only [List.cons.injEq, Value.slice.injEq] at e'
  rw [e'.1.1]
  exact hs
theorem pinl_at {M : List Nat} {w : World} {g o : Nat} {cs : List (List Value)} {ls : List (List α)} (h : Pin g o cs ls M w) {j : Nat} (hj : j < ls.length) {p : Option Addr} {n c : Nat} (e : cs.getD j [] = [.slice p n c]) : w.cell? ⟨g, o + j, none⟩ = some (.slice p n c) := by
  obtain ⟨_, h1, h2⟩ := h j hj
  rw [e] at h1
  have := h1 0 (by simp)
  rw [show (Gv.ty (List α)).size = 1 from rfl, Nat.mul_one] at this
  simpa using this
end
theorem sl_int {M : List Nat} {w : World} {p : Option Addr} {l : List Int} (h : Sl M w p l) {j : Nat} (hj : j < l.length) : ∃ b o, p = some ⟨b, o, none⟩ ∧ w.cell? ⟨b, o + j, none⟩ = some (.int .i64 l[j]) := by
  obtain ⟨b', o', cs, e, _, h3, h4⟩ := h j hj
  obtain ⟨rfl, _⟩ := h4
  have := h3 0 (by simp)
  rw [show (Gv.ty Int).size = 1 from rfl, Nat.mul_one] at this
  exact ⟨b', o', e, by simpa using this⟩
theorem sl_chg {M : List Nat} {w : World} {b o : Nat} {l : List ChgD} (h : Sl M w (some ⟨b, o, none⟩) l) {j : Nat} (hj : j < l.length) : RowAt w b (o + j * 3) l[j].cells := by
  obtain ⟨b', o', cs, e, _, h3, h4⟩ := h j hj
  cases e
  obtain rfl := chgD_cells h4
  exact h3

set_option maxHeartbeats 4000000 in
theorem small29_g : Gives Tryz.prog F.erratalaw29_small #[] (.bool true) := by
  refine gives_of (Berratalaw29_small_run) fun W R Φ _ => fun w G cx => ?_
  refine New_use cx fun qs w hqs cx => ⟨_, rfl, stO qs stNew R, _, instStableSt Φ qs stNew, cx.re (stO_re _ _ _ _).symm, fun w G cx => ?_⟩
  refine New_use cx fun qt w hqt cx => ?_
  have hst : Stable (fun M w => Φ M w ∧ stF qt stNew M w) := instStableSt Φ qt stNew
  have cx1 : Ctx W w (stO qs stNew (stO qt stNew R) ++ G) (fun M w => (Φ M w ∧ stF qt stNew M w) ∧ stF qs stNew M w) := ((cx.perm (by
    rw [stO_re qs stNew R G, stO_re qs stNew _ G, stO_re qt stNew R G]
    exact st_two _ _ _ _ _)).weak fun M w h => ⟨⟨h.1.1, h.2⟩, h.1.2⟩)
  refine ⟨_, rfl, stO qs stNew (stO qt stNew R), _, instStableSt _ qs stNew, cx1, fun w G cx => Br.intro (fun h => by cases h) (fun _ => fun w G cx => ?_)⟩
  clear cx1
  refine put_at rfl hqs new_b (by decide) (by show 1 ≤ _; decide) (by show 1 ≤ _; decide) cx fun q1 hb1 hq1 => fun w G cx => ?_
  refine put_at hb1 hq1 exS_b1 (by decide) (by show 1 ≤ _; decide) (by show 1 ≤ _; decide) cx fun q2 hb2 hq2 => fun w G cx => ?_
  refine put_at hb2 hq2 exS_b2 (by decide) (by show 1 ≤ _; decide) (by show 0 ≤ _; decide) cx fun q3 hb3 hq3 => fun w G cx => ?_
  have hqS : StQ q3 exS := hq3
  have cxS : Ctx W w (stO q3 exS (stO qt stNew R ++ G)) (fun M w => (Φ M w ∧ stF qt stNew M w) ∧ stF q3 exS M w) := cx.re (stO_re _ _ _ _)
  clear cx
  obtain ⟨Ψ, stΨ, toΦ, toR, hC, _, hlay⟩ := lay hqS cxS
  have cxa := hlay _ _ cxS
  clear cxS hlay
  rw [← hb3]
  have hlv := exS_b.levels
  have hver := exS_b.c.ver
  obtain ⟨ev1, ev2, ev3⟩ := ex_ver
  have hscan := Scan_sl (Φ := Ψ) (pre := tE) (hΦ := ⟨toR⟩) hC (by omega) (by omega) (by omega) exS_b.szs (by show 0 ≤ _; omega)
  rw [ex_scan] at hscan
  refine hscan.tot cxa fun p1 c1 _ _ ht1 st1 => fun w G cx => ?_
  have hsince := Since_sl (Φ := fun M w => Ψ M w ∧ Sl M w p1 [(⟨tB, t2⟩ : PairD)]) (hΦ := ⟨fun M w h => toR M w h.1⟩) hC exS_b.l (by have := exS_b.c.log; omega) (n := 1) (by rw [ev3]; decide) (by rw [ev2]; decide)
  rw [ev3] at hsince
  have hlg : ((exS.log.drop (1 - 0 : Int).toNat).map fun x => x.seq) = [2, 3] := by rw [List.map_drop, ex_log]; rfl
  obtain ⟨lg, hlgd⟩ : ∃ lg, exS.log.drop (1 - 0 : Int).toNat = lg := ⟨_, rfl⟩
  rw [hlgd] at hsince hlg
  have hlgl : lg.length = 2 := by have := congrArg List.length hlg; rwa [List.length_map] at this
  refine hsince.use cx fun p2 c2 w _ _ cx2 => ?_
  clear cx
  have cx := cx2
  clear cx2
  have ht2 := cx.phi.2.there
  obtain ⟨Ψ2, hΨ2⟩ : ∃ Ψ2 : PW, Ψ2 = (fun M w => (Ψ M w ∧ Sl M w p1 [(⟨tB, t2⟩ : PairD)]) ∧ Sl M w p2 lg) := ⟨_, rfl⟩
  have st2 : Stable Ψ2 := by rw [hΨ2]; exact instStableAnd (fun M w => Ψ M w ∧ Sl M w p1 [(⟨tB, t2⟩ : PairD)]) (fun M w => Sl M w p2 lg)
  have g1 : ∀ M w, Ψ2 M w → Ψ M w := fun M w h => by rw [hΨ2] at h; exact h.1.1
  have g2 : ∀ M w, Ψ2 M w → Sl M w p1 [(⟨tB, t2⟩ : PairD)] := fun M w h => by rw [hΨ2] at h; exact h.1.2
  have g3 : ∀ M w, Ψ2 M w → Sl M w p2 lg := fun M w h => by rw [hΨ2] at h; exact h.2
  rw [← hΨ2] at cx
  rw [hlgl] at ht2 ⊢
  refine ⟨p2, _, c2, _, rfl, stO qt stNew R, Ψ2, st2, cx, fun w G cx => Br.intro (fun h => by simp at h) (fun _ => ?_)⟩
  clear cx
  refine exI_mk (fun iI R' Φ' k => ∃ (i : Nat) (q' : TO), iI = i ∧ i ≤ 32 ∧ q'.sb = qt.sb ∧ StQ q' (exT i) ∧ R' = stO q' (exT i) R ∧ Φ' = (fun M w => Ψ2 M w ∧ stF q' (exT i) M w) ∧ k = 32 - i)
    ⟨⟨_, _, _, instStableSt Ψ2 qt stNew, fun w G cx => cx.weak fun M w h => ⟨h, (toΦ _ _ (g1 _ _ h)).2⟩, 0, qt, rfl, by decide, rfl, hqt, rfl, rfl, rfl⟩, ?_⟩
  rintro iI R1 Φ1 k _ ⟨i, q', rfl, hi, hbq, hq', rfl, rfl, rfl⟩
  refine Br.intro (fun hlt => fun w G cx => ?_) (fun hge => fun w G cx => ?_)
  · have hlt : i < 32 := by have := of_decide_eq_true hlt; omega
    refine ((digits29_g i (by omega)).in).toS cx fun w G cx => ?_
    refine put_at hbq hq' (exT_b i (by omega)) (by omega) (by show 2 ≤ _; decide) (by show 1 ≤ _; decide) cx fun q2 hb2 hq2 => ⟨by unfold I64; omega, _, _, 32 - (i + 1), instStableSt Ψ2 q2 _, fun w G cx => cx, ⟨i + 1, q2, by omega, by omega, hb2, hq2, rfl, rfl, rfl⟩, by omega⟩
  have hge : i = 32 := by have := of_decide_eq_false hge; omega
  subst hge
  have cxT := cx.re (stO_re q' (exT 32) R G)
  obtain ⟨Ψ3, st3, toΨ2, toT, hCT, _, hlayT⟩ := lay hq' cxT
  have cxb := hlayT _ _ cxT
  clear cx cxT hlayT
  have hlt := (exT_b 32 (by decide)).levels
  have hvt := (exT_b 32 (by decide)).c.ver
  rw [← hbq]
  have hruns := Runs_sl (Φ := Ψ3) (hΦ := ⟨toT⟩) (by omega) (fun l hl => by have := hlt.2.2 l hl; omega) (fun l hl r hr => by
    have h1 := List.sublist_flatten_of_mem hr |>.length_le
    have h2 := List.sublist_flatten_of_mem (List.mem_map_of_mem (f := List.flatten) hl) |>.length_le
    have h3 : ((exT 32).levels.map List.flatten).flatten.length ≤ 32 := by
      have e : ((exT 32).levels.map List.flatten).flatten = allRuns (exT 32).levels := by
        unfold allRuns
        rw [List.flatten_flatten]
      rw [e]
      unfold verP at hvt
      rw [List.length_append] at hvt
      omega
    omega)
  rw [ex_runs] at hruns
  refine hruns.use cxb fun p3 c3 w _ _ cx => ?_
  clear cxb
  obtain ⟨b3, o3, cs3, hp3, cx⟩ := cx.pin cx.phi.2
  obtain rfl := hp3 (by decide)
  obtain ⟨pa, ca, ea⟩ := pinl cx.phi.2 (j := 0) (by decide)
  obtain ⟨pb, cb, eb⟩ := pinl cx.phi.2 (j := 1) (by decide)
  obtain ⟨b4, o4, hpb, _⟩ := sl_int (pinl_sl cx.phi.2 (j := 1) (by decide) eb) (j := 0) (by decide)
  subst hpb
  obtain ⟨Ψ4, hΨ4⟩ : ∃ Ψ4 : PW, Ψ4 = (fun M w => (Ψ3 M w ∧ Sl M w (some ⟨b3, o3, none⟩) ([[], [32]] : List (List Int))) ∧ Pin b3 o3 cs3 ([[], [32]] : List (List Int)) M w) := ⟨_, rfl⟩
  have st4 : Stable Ψ4 := by rw [hΨ4]; exact instStableAnd (fun M w => Ψ3 M w ∧ Sl M w (some ⟨b3, o3, none⟩) ([[], [32]] : List (List Int))) (fun M w => Pin b3 o3 cs3 ([[], [32]] : List (List Int)) M w)
  have k1 : ∀ M w, Ψ4 M w → Ψ2 M w := fun M w h => by rw [hΨ4] at h; exact toΨ2 _ _ h.1.1
  have k2 : ∀ M w, Ψ4 M w → Pin b3 o3 cs3 ([[], [32]] : List (List Int)) M w := fun M w h => by rw [hΨ4] at h; exact h.2
  have toS : ∀ M w, Ψ4 M w → StR q3 exS M w := fun M w h => toR _ _ (g1 _ _ (k1 _ _ h))
  have toF : ∀ M w, Ψ4 M w → Φ M w := fun M w h => (toΦ _ _ (g1 _ _ (k1 _ _ h))).1
  rw [← hΨ4] at cx
  obtain ⟨b1, o1, hp1⟩ := ht1 (by decide)
  obtain ⟨b2, o2, hp2⟩ := ht2 (by decide)
  subst hp1 hp2
  refine ⟨_, _, c3, rfl, R, Ψ4, st4, cx, Br.intro (fun h => by simp at h) (fun _ => fun w G cx => ⟨by decide, ptrK_intro b3 o3 rfl ⟨pa, _, ca, pinl_at (k2 _ _ cx.phi) (j := 0) (by decide) ea, fun _ => by decide, ptrK_intro b3 o3 rfl ⟨_, _, cb, fun _ => pinl_at (k2 _ _ cx.phi) (j := 1) (by decide) eb, Br.intro (fun h => by simp at h) (fun _ => ⟨by decide, ptrK_intro b1 o1 rfl fun w G cx => ⟨tB, t2, ?_, by kernel_rfl, Br.intro (fun _ => fun w G cx => ?_) (fun h => by simp at h)⟩⟩)⟩⟩⟩)⟩
  · have := sl_pair (g2 _ _ (k1 _ _ cx.phi)) (j := 0) (by decide)
    rwa [Nat.zero_mul, Nat.add_zero] at this
  have hlen := Len_in (Φ := Ψ4) (hΦ := ⟨toS⟩) hC (by omega) (by omega) (by omega) exS_b.szs
  rw [ex_scan] at hlen
  refine hlen.toI cx (Br.intro (fun _ => fun w G cx => ?_) (fun h => by simp at h))
  have hvs := Versions_in (Φ := Ψ4) (hΦ := ⟨toS⟩) hC (by omega) (by omega) (by omega)
  rw [ev1] at hvs
  refine hvs.toI cx (Br.intro (fun _ => fun w G cx => ?_) (fun h => by simp at h))
  have hsq := Seq_in (Φ := Ψ4) (q := q3) (s := exS) (hΦ := ⟨toS⟩)
  rw [ev2] at hsq
  refine hsq.toI cx (Br.intro (fun _ => ⟨by decide, ptrK_intro b2 o2 rfl fun w G cx => ⟨2, ?_, Br.intro (fun _ => ⟨by decide, ptrK_intro b3 o3 rfl fun w G cx => ⟨_, _, cb, pinl_at (k2 _ _ cx.phi) (j := 1) (by decide) eb, by decide, ptrK_intro b4 o4 rfl fun w G cx => ?_⟩⟩) (fun h => by simp at h)⟩⟩) (fun h => by simp at h))
  · have h := sl_chg (g3 _ _ (k1 _ _ cx.phi)) (j := 0) (by rw [hlgl]; decide)
    have h2 := h 0 (by show 0 < 3; decide)
    have h3 : lg[0].seq = 2 := by
      have := List.getElem_of_eq hlg (i := 0) (by rw [hlg]; decide)
      simpa using this
    rw [Nat.zero_mul, Nat.add_zero] at h2
    rw [← h3]
    exact h2
  obtain ⟨b5, o5, e5, h5⟩ := sl_int (pinl_sl (k2 _ _ cx.phi) (j := 1) (by decide) eb) (j := 0) (by decide)
  cases e5
  exact ⟨32, h5, fun w G cx => ⟨rfl, cx.left.weak toF⟩⟩
end Go.Proofs.YtebnciehcnedjaaGreatDoor
end

/-
  How great levels and runs become, in plain Lean.
-/
section
set_option linter.unusedVariables false
set_option linter.unusedSimpArgs false
namespace Go.Proofs.YtebnciehcnedjaaGreatDoor
open Go.Vc


/-- a run of the level i weighs 4^i -/
def lvW : Nat → List Lev → Nat
  | _, [] => 0
  | i, l :: t => l.length * 4 ^ i + lvW (i + 1) t
structure WtB (s : StD) (n : Nat) : Prop where
  wt : lvW 0 s.levels ≤ n + 4
  len : s.levels ≠ [] → 4 ^ (s.levels.length - 1) ≤ n + 4
theorem WtB.more {s : StD} {n : Nat} (h : WtB s n) : WtB s (n + 1) := ⟨by have := h.wt; omega, fun hn => by have := h.len hn; omega⟩
theorem WtB.few {s : StD} {n : Nat} (h : WtB s n) (hn : n ≤ 400) : s.levels.length ≤ 5 := by
  rcases Nat.lt_or_ge 5 s.levels.length with h1 | h1
  · exfalso
    have h2 := h.len (fun e => by rw [e] at h1; simp at h1)
    have h3 : 4 ^ 5 ≤ 4 ^ (s.levels.length - 1) := Nat.pow_le_pow_right (by decide) (by omega)
    have h4 : (4 : Nat) ^ 5 = 1024 := by decide
    omega
  · exact h1

/-! ### the sizes of runs -/
/-! ### what the sizes come to -/
end Go.Proofs.YtebnciehcnedjaaGreatDoor
end

/-
  What was put last, in plain Lean.
-/
section
set_option linter.unusedVariables false
set_option linter.unusedSimpArgs false
namespace Go.Proofs.YtebnciehcnedjaaGreatDoor
open Go.Vc


/-- a store has what was put last -/
structure Last (s : StD) (h : Run) : Prop where
  get : ∀ k, getS s k = valK h.reverse k
  seq : s.seq = h.length
/-! ### counting -/
instance instDecMem (k : ByteArray) (l : List ByteArray) : Decidable (k ∈ l) := decidable_of_iff (l.any (fun y => decide (y = k)) = true) (by simp)
end Go.Proofs.YtebnciehcnedjaaGreatDoor
end

section
namespace Go.Proofs.YtebnciehcnedjaaGreatDoor
set_option linter.unusedVariables false
set_option linter.unusedSimpArgs false
set_option maxRecDepth 100000
open Go.Vc

/-- errataref01.Back -/
-- loop at region 6: 5 n, 6 i; blocks 
def Merrataref01_Back (s : ByteArray) (W : World) (R : List Own) (Φ : PW) (J : Value → World → Prop) : Prop :=
  ∀ (w0 : World) (R1 : List Own), Ctx W w0 (R ++ R1) Φ → ∃ (u2 : UInt8), (decide (0 < (↑s.size : Int)) = true → (0 : Int) ≤ 0 ∧ s.data.toList.get?Internal 0 = some u2) ∧ Br (decide (0 <
  (↑s.size : Int)) && decide ((↑u2.toNat : Int) = 45)) (exI fun (I3 : Int → Int → List Own → PW → Nat → Prop) => (∃ (R4 : List Own), ∃ (Φ5 : PW), ∃ (k6 : Nat), Stable Φ5 ∧ (∀ (w7 : World) (R8
  : List Own), Ctx W w7 (R ++ R8) Φ → Ctx W w7 (R4 ++ R8) Φ5) ∧ I3 0 1 R4 Φ5 k6) ∧ ∀ (n9 n10 : Int) (R11 : List Own) (I12 : List Nat → World → Prop) (k13 : Nat), Stable I12 → I3 n9 n10 R11
  I12 k13 → Br (decide (n10 < (↑s.size : Int))) (∀ (w14 : World) (R15 : List Own), Ctx W w14 (R11 ++ R15) I12 → ∃ (u16 : UInt8), (0 ≤ n10 ∧ s.data.toList.get?Internal n10.toNat = some u16) ∧
  ∃ (u17 : UInt8), ((!decide ((↑u16.toNat : Int) < 48)) = true → 0 ≤ n10 ∧ s.data.toList.get?Internal n10.toNat = some u17) ∧ Br (decide ((↑u16.toNat : Int) < 48) || decide (57 < (↑u17.toNat
  : Int)) || decide (20 < n10)) (∀ (w18 : World) (R19 : List Own), Ctx W w18 (R11 ++ R19) I12 → J (Value.tuple #[Value.int IntKind.i64 0, Value.bool false]) w18) (∃ (u20 : UInt8), (0 ≤ n10 ∧
  s.data.toList.get?Internal n10.toNat = some u20) ∧ I64 (n10 + 1) ∧ ∃ (R21 : List Own), ∃ (Φ22 : PW), ∃ (k23 : Nat), Stable Φ22 ∧ (∀ (w24 : World) (R25 : List Own), Ctx W w24 (R11 ++ R25)
  I12 → Ctx W w24 (R21 ++ R25) Φ22) ∧ I3 (IntKind.i64.wrap (IntKind.i64.wrap (10 * n9) - IntKind.i64.wrap (IntKind.u8.wrap ((↑u20.toNat : Int) - 48)))) (n10 + 1) R21 Φ22 k23 ∧ k23 < k13)) (∀
  (w26 : World) (R27 : List Own), Ctx W w26 (R11 ++ R27) I12 → Calls Tryz.prog F.errataref01_Int #[Value.int IntKind.i64 n9] w26 fun (e28 : Ending) (w29 : World) => ∃ (s30 : ByteArray), e28 =
  Ending.returned (Value.string s30) ∧ ∃ (R31 : List Own), ∃ (Φ32 : PW), Stable Φ32 ∧ Ctx W w29 (R31 ++ R27) Φ32 ∧ (s.size + (ByteArray.mk #[OfNat.ofNat 59]).size).le 9223372036854775807 ∧ ∀
  (w33 : World) (R34 : List Own), Ctx W w33 (R31 ++ R34) Φ32 → J (Value.tuple #[Value.int IntKind.i64 n9, Value.bool (decide (s30 = s ++ ByteArray.mk #[OfNat.ofNat 59]))]) w33)) (exI fun (I35
  : Int → Int → List Own → PW → Nat → Prop) => (∃ (R36 : List Own), ∃ (Φ37 : PW), ∃ (k38 : Nat), Stable Φ37 ∧ (∀ (w39 : World) (R40 : List Own), Ctx W w39 (R ++ R40) Φ → Ctx W w39 (R36 ++
  R40) Φ37) ∧ I35 0 0 R36 Φ37 k38) ∧ ∀ (n41 n42 : Int) (R43 : List Own) (I44 : List Nat → World → Prop) (k45 : Nat), Stable I44 → I35 n41 n42 R43 I44 k45 → Br (decide (n42 < (↑s.size : Int)))
  (∀ (w46 : World) (R47 : List Own), Ctx W w46 (R43 ++ R47) I44 → ∃ (u48 : UInt8), (0 ≤ n42 ∧ s.data.toList.get?Internal n42.toNat = some u48) ∧ ∃ (u49 : UInt8), ((!decide ((↑u48.toNat : Int)
  < 48)) = true → 0 ≤ n42 ∧ s.data.toList.get?Internal n42.toNat = some u49) ∧ Br (decide ((↑u48.toNat : Int) < 48) || decide (57 < (↑u49.toNat : Int)) || decide (20 < n42)) (∀ (w50 : World)
  (R51 : List Own), Ctx W w50 (R43 ++ R51) I44 → J (Value.tuple #[Value.int IntKind.i64 0, Value.bool false]) w50) (∃ (u52 : UInt8), (0 ≤ n42 ∧ s.data.toList.get?Internal n42.toNat = some
  u52) ∧ I64 (n42 + 1) ∧ ∃ (R53 : List Own), ∃ (Φ54 : PW), ∃ (k55 : Nat), Stable Φ54 ∧ (∀ (w56 : World) (R57 : List Own), Ctx W w56 (R43 ++ R57) I44 → Ctx W w56 (R53 ++ R57) Φ54) ∧ I35
  (IntKind.i64.wrap (IntKind.i64.wrap (10 * n41) - IntKind.i64.wrap (IntKind.u8.wrap ((↑u52.toNat : Int) - 48)))) (n42 + 1) R53 Φ54 k55 ∧ k55 < k45)) (∀ (w58 : World) (R59 : List Own), Ctx W
  w58 (R43 ++ R59) I44 → Calls Tryz.prog F.errataref01_Int #[Value.int IntKind.i64 (IntKind.i64.wrap (0 - n41))] w58 fun (e60 : Ending) (w61 : World) => ∃ (s62 : ByteArray), e60 =
  Ending.returned (Value.string s62) ∧ ∃ (R63 : List Own), ∃ (Φ64 : PW), Stable Φ64 ∧ Ctx W w61 (R63 ++ R59) Φ64 ∧ (s.size + (ByteArray.mk #[OfNat.ofNat 59]).size).le 9223372036854775807 ∧ ∀
  (w65 : World) (R66 : List Own), Ctx W w65 (R63 ++ R66) Φ64 → J (Value.tuple #[Value.int IntKind.i64 (IntKind.i64.wrap (0 - n41)), Value.bool (decide (s62 = s ++ ByteArray.mk #[OfNat.ofNat
  59]))]) w65))

theorem Merrataref01_Back_run (s : ByteArray) {W w : World} {R : List Own} {Φ : PW} [Stable Φ] {J : Value → World → Prop} (c : Ctx W w R Φ) (h : Merrataref01_Back s W R Φ J) : Calls Tryz.prog F.errataref01_Back #[.string s] w fun e w' => ∃ v, e = .returned v ∧ J v w' :=
  vcFS_sound (H := { keep := some [0, 2, 3, 4, 5, 6, 14, 19, 35, 45], wrap := [37, 43, 47], loops := [(6, [(5, .one (.int .i64)), (6, .one (.int .i64))], [])] }) (by rw [show vcFS Tryz.prog W { keep := some [0, 2, 3, 4, 5, 6, 14, 19, 35, 45], wrap := [37, 43, 47], loops := [(6, [(5, .one (.int .i64)), (6, .one (.int .i64))], [])] } F.errataref01_Back #[.string s] R Φ J = Merrataref01_Back s W R Φ J by kernel_rfl]; exact h) c

end Go.Proofs.YtebnciehcnedjaaGreatDoor
end

section
namespace Go.Proofs.YtebnciehcnedjaaGreatDoor
set_option linter.unusedVariables false
set_option linter.unusedSimpArgs false
set_option maxRecDepth 100000
open Go.Vc

end Go.Proofs.YtebnciehcnedjaaGreatDoor
end

/-
  What was put last, walked.
-/
section
set_option linter.unusedVariables false
set_option linter.unusedSimpArgs false
namespace Go.Proofs.YtebnciehcnedjaaGreatDoor
open Go.Vc


end Go.Proofs.YtebnciehcnedjaaGreatDoor
end

/-
  StoreBounds, walked.
-/
section
set_option linter.unusedVariables false
set_option linter.unusedSimpArgs false
namespace Go.Proofs.YtebnciehcnedjaaGreatDoor
open Go.Vc


theorem st_drop {W w : World} {R G : List Own} {Φ : PW} [Stable Φ] {q : TO} {s : StD} (cx : Ctx W w (stO q s R ++ G) (fun M w => Φ M w ∧ stF q s M w)) : Ctx W w R Φ := by
  have c1 : Ctx W w (stO q s [] ++ (R ++ G)) (fun M w => Φ M w ∧ stF q s M w) := (cx.re (stO_re q s R G)).re (stO_app q s (R ++ G))
  have hst : Stable (fun M w => Φ M w ∧ stF q s M w) := instStableSt Φ q s
  have c2 := Ctx.right c1
  exact (c2.weak (Ψ := Φ) fun M w h => h.1).left

end Go.Proofs.YtebnciehcnedjaaGreatDoor
end

/-
  Changes that are done again, in plain Lean; equal lists of cells.
-/
section
set_option linter.unusedVariables false
set_option linter.unusedSimpArgs false
namespace Go.Proofs.YtebnciehcnedjaaGreatDoor
open Go.Vc


theorem few_yes {l : List OpD} {n : Int} (h : (!fewO l n) = false) : fewO l n = true := by cases e : fewO l n with
  | true => rfl
  | false => rw [e] at h; cases h

def putAll (s : StD) (ps : Run) : StD := ps.foldl (fun s x => putS s x.key x.val) s
theorem putAll_cons (s : StD) (x : PairD) (ps : Run) : putAll s (x :: ps) = putAll (putS s x.key x.val) ps := rfl
end Go.Proofs.YtebnciehcnedjaaGreatDoor
end

section
namespace Go.Proofs.YtebnciehcnedjaaGreatDoor
set_option linter.unusedVariables false
set_option linter.unusedSimpArgs false
set_option maxRecDepth 100000
open Go.Vc

/-- errataref29.Restore -/
-- loop at region 6: 7 l, 8 i; blocks 
-- cut 13: 7 l; blocks 
-- known blocks: 9 p
def Merrataref29_Restore (s : ByteArray) (W : World) (R : List Own) (Φ : PW) (J : Value → World → Prop) : Prop :=
  ∀ (w0 : World) (R1 : List Own), Ctx W w0 (R ++ R1) Φ → Calls Tryz.prog F.errataref01_Open #[Value.string s] w0 fun (e2 : Ending) (w3 : World) => ∃ (p4 : Option Addr), e2 = Ending.returned
  (Value.pointer p4) ∧ ∃ (R5 : List Own), ∃ (Φ6 : PW), Stable Φ6 ∧ Ctx W w3 (R5 ++ R1) Φ6 ∧ ∀ (w7 : World) (R8 : List Own), Ctx W w7 (R5 ++ R8) Φ6 → Calls Tryz.prog F.errataref01_Reader_Int
  #[Value.pointer p4] w7 fun (e9 : Ending) (w10 : World) => ∃ (n11 : Int), e9 = Ending.returned (Value.int IntKind.i64 n11) ∧ ∃ (R12 : List Own), ∃ (Φ13 : PW), Stable Φ13 ∧ Ctx W w10 (R12 ++
  R8) Φ13 ∧ ∀ (k14 : Nat) (w15 : World) (R16 : List Own), Ctx W w15 (Own.blk k14 [Value.slice none 0 0, Value.slice none 0 0, Value.int IntKind.i64 n11, Value.slice none 0 0, Value.int
  IntKind.i64 0] 60 :: R12 ++ R16) Φ13 → Calls Tryz.prog F.errataref01_Reader_Num #[Value.pointer p4] w15 fun (e17 : Ending) (w18 : World) => ∃ (n19 : Int), e17 = Ending.returned (Value.int
  IntKind.i64 n19) ∧ ∃ (R20 : List Own), ∃ (Φ21 : PW), Stable Φ21 ∧ Ctx W w18 (R20 ++ R16) Φ21 ∧ exI fun (I22 : Option Addr → Nat → Nat → List Own → PW → Prop) => (exI fun (I23 : Option Addr
  → Nat → Nat → Int → List Own → PW → Nat → Prop) => (∃ (R24 : List Own), ∃ (Φ25 : PW), ∃ (k26 : Nat), Stable Φ25 ∧ (∀ (w27 : World) (R28 : List Own), Ctx W w27 (R20 ++ R28) Φ21 → Ctx W w27
  (R24 ++ R28) Φ25) ∧ I23 none 0 0 0 R24 Φ25 k26) ∧ ∀ (p29 : Option Addr) (k30 k31 : Nat) (n32 : Int) (R33 : List Own) (I34 : List Nat → World → Prop) (k35 : Nat), Stable I34 → I23 p29 k30
  k31 n32 R33 I34 k35 → Br (decide (n32 < n19)) (∀ (w36 : World) (R37 : List Own), Ctx W w36 (R33 ++ R37) I34 → Calls Tryz.prog F.errataref01_Reader_Left #[Value.pointer p4] w36 fun (e38 :
  Ending) (w39 : World) => ∃ (n40 : Int), e38 = Ending.returned (Value.int IntKind.i64 n40) ∧ ∃ (R41 : List Own), ∃ (Φ42 : PW), Stable Φ42 ∧ Ctx W w39 (R41 ++ R37) Φ42 ∧ Br (decide (0 < n40))
  (∀ (w43 : World) (R44 : List Own), Ctx W w43 (R41 ++ R44) Φ42 → Calls Tryz.prog F.errataref01_Reader_Text #[Value.pointer p4] w43 fun (e45 : Ending) (w46 : World) => ∃ (s47 : ByteArray),
  e45 = Ending.returned (Value.string s47) ∧ ∃ (R48 : List Own), ∃ (Φ49 : PW), Stable Φ49 ∧ Ctx W w46 (R48 ++ R44) Φ49 ∧ ∀ (b : Nat) (w50 : World) (R51 : List Own), Ctx W w50 (R48 ++ R51) Φ49
  → Calls Tryz.prog F.errataref01_Reader_Text #[Value.pointer p4] w50 fun (e52 : Ending) (w53 : World) => ∃ (s54 : ByteArray), e52 = Ending.returned (Value.string s54) ∧ ∃ (R55 : List Own), ∃
  (Φ56 : PW), Stable Φ56 ∧ Ctx W w53 (R55 ++ R51) Φ56 ∧ ∀ (w57 : World) (R58 : List Own), Ctx W w57 (R55 ++ R58) Φ56 → ((!decide (s54 = ByteArray.mk #[]) && decide (0 < (↑k30 : Int))) = true
  → I64 ((↑k30 : Int) - 1)) ∧ ((!decide (s54 = ByteArray.mk #[]) && decide (0 < (↑k30 : Int))) = true → 0 ≤ max ((↑k30 : Int) - 1) 0 ∧ max ((↑k30 : Int) - 1) 0 < (↑k30 : Int)) ∧ ptrK (some
  (!decide (s54 = ByteArray.mk #[]) && decide (0 < (↑k30 : Int)))) p29 fun (k59 k60 : Nat) => ∃ (s61 : ByteArray), ((!decide (s54 = ByteArray.mk #[]) && decide (0 < (↑k30 : Int))) = true →
  w57.cell? (Addr.mk k59 (k60 + (max ((↑k30 : Int) - 1) 0).toNat * 2) none) = some (Value.string s61)) ∧ ∃ (c62 : Bool), ((!decide (s54 = ByteArray.mk #[]) && decide (0 < (↑k30 : Int))) =
  true → ∀ (w63 : World), Sem.run Tryz.prog (binOp BinOp.geq 9 (Value.string s61) (Value.string s47)) w63 = Result.ok (Value.bool c62) w63) ∧ Br (decide (s54 = ByteArray.mk #[]) || decide (0
  < (↑k30 : Int)) && c62) (∀ (w64 : World) (R65 : List Own), Ctx W w64 (R55 ++ R65) Φ56 → J (Value.tuple #[Value.pointer none, Value.bool false]) w64) (∀ (k66 : Nat) (w67 : World) (R68 : List
  Own), Ctx W w67 (Own.blk k66 [Value.string s47, Value.string s54] 69 :: R55 ++ R68) Φ56 → ∃ (p69 : Option Addr), ∃ (k70 : Nat), ∃ (k71 : Nat), ∃ (w72 : World), Sem.run Tryz.prog (builtin
  Builtin.append #[48, 48] 48 #[false, false] #[Value.slice p29 k30 k31, Value.slice (some (Addr.mk k66 0 none)) 1 1]) w67 = Result.ok (Next.value (Value.slice p69 k70 k71)) w72 ∧ ∃ (R73 :
  List Own), ∃ (Φ74 : PW), Stable Φ74 ∧ Ctx W w72 (R73 ++ R68) Φ74 ∧ I64 (n32 + 1) ∧ ∃ (R75 : List Own), ∃ (Φ76 : PW), ∃ (k77 : Nat), Stable Φ76 ∧ (∀ (w78 : World) (R79 : List Own), Ctx W w78
  (R73 ++ R79) Φ74 → Ctx W w78 (R75 ++ R79) Φ76) ∧ I23 p69 k70 k71 (n32 + 1) R75 Φ76 k77 ∧ k77 < k35)) (∃ (R80 : List Own), ∃ (Φ81 : PW), Stable Φ81 ∧ (∀ (w82 : World) (R83 : List Own), Ctx W
  w82 (R41 ++ R83) Φ42 → Ctx W w82 (R80 ++ R83) Φ81) ∧ I22 p29 k30 k31 R80 Φ81)) (∃ (R84 : List Own), ∃ (Φ85 : PW), Stable Φ85 ∧ (∀ (w86 : World) (R87 : List Own), Ctx W w86 (R33 ++ R87) I34
  → Ctx W w86 (R84 ++ R87) Φ85) ∧ I22 p29 k30 k31 R84 Φ85)) ∧ ∀ (p88 : Option Addr) (k89 k90 : Nat) (R91 : List Own) (I92 : List Nat → World → Prop), Stable I92 → I22 p88 k89 k90 R91 I92 → ∀
  (w93 : World) (R94 : List Own), Ctx W w93 (R91 ++ R94) I92 → Calls Tryz.prog F.errataref01_Reader_Done #[Value.pointer p4] w93 fun (e95 : Ending) (w96 : World) => ∃ (c97 : Bool), e95 =
  Ending.returned (Value.bool c97) ∧ ∃ (R98 : List Own), ∃ (Φ99 : PW), Stable Φ99 ∧ Ctx W w96 (R98 ++ R94) Φ99 ∧ Br (!c97) (∀ (w100 : World) (R101 : List Own), Ctx W w100 (R98 ++ R101) Φ99 →
  J (Value.tuple #[Value.pointer none, Value.bool false]) w100) (Br (decide ((↑k89 : Int) ≠ n19)) (∀ (w102 : World) (R103 : List Own), Ctx W w102 (R98 ++ R103) Φ99 → J (Value.tuple
  #[Value.pointer none, Value.bool false]) w102) (∀ (w104 : World) (R105 : List Own), Ctx W w104 (R98 ++ R105) Φ99 → ∃ (n106 : Int), w104.cell? (Addr.mk k14 2 none) = some (Value.int
  IntKind.i64 n106) ∧ Br (decide (n106 < 0)) (∀ (w107 : World) (R108 : List Own), Ctx W w107 (R98 ++ R108) Φ99 → J (Value.tuple #[Value.pointer none, Value.bool false]) w107) (∀ (w109 :
  World) (R110 : List Own), Ctx W w109 (R98 ++ R110) Φ99 → ∃ (n111 : Int), w109.cell? (Addr.mk k14 2 none) = some (Value.int IntKind.i64 n111) ∧ Br (decide (1099511627776 < n111)) (∀ (w112 :
  World) (R113 : List Own), Ctx W w112 (R98 ++ R113) Φ99 → J (Value.tuple #[Value.pointer none, Value.bool false]) w112) (∀ (w114 : World) (R115 : List Own), Ctx W w114 (R98 ++ R115) Φ99 → ∃
  (n116 : Int), w114.cell? (Addr.mk k14 2 none) = some (Value.int IntKind.i64 n116) ∧ ∀ (w117 : World) (R118 : List Own), Ctx W w117 (R98 ++ R118) Φ99 → CanWrite w117 k14 4 1 ∧ ∀ (w119 :
  World), w119 = w117.setCell (Addr.mk k14 4 none) (Value.int IntKind.i64 n116) → ∃ (R120 : List Own), ∃ (Φ121 : PW), Stable Φ121 ∧ Ctx W w119 (R120 ++ R118) Φ121 ∧ ∀ (w122 : World) (R123 :
  List Own), Ctx W w122 (R120 ++ R123) Φ121 → Calls Tryz.prog F.errataref29_Store_add #[Value.pointer (some (Addr.mk k14 0 none)), Value.int IntKind.i64 1, Value.slice p88 k89 k90] w122 fun
  (e124 : Ending) (w125 : World) => e124 = Ending.returned (Value.tuple #[]) ∧ ∃ (R126 : List Own), ∃ (Φ127 : PW), Stable Φ127 ∧ Ctx W w125 (R126 ++ R123) Φ127 ∧ ∀ (w128 : World) (R129 : List
  Own), Ctx W w128 (R126 ++ R129) Φ127 → J (Value.tuple #[Value.pointer (some (Addr.mk k14 0 none)), Value.bool true]) w128))))

theorem Merrataref29_Restore_run (s : ByteArray) {W w : World} {R : List Own} {Φ : PW} [Stable Φ] {J : Value → World → Prop} (c : Ctx W w R Φ) (h : Merrataref29_Restore s W R Φ J) : Calls Tryz.prog F.errataref29_Restore #[.string s] w fun e w' => ∃ v, e = .returned v ∧ J v w' :=
  vcFS_sound (H := { keep := some [0, 2, 3, 4, 5, 6, 7, 8, 9, 25, 54, 81], track := [9], split := [6, 13], loops := [(6, [(7, .one (.slice)), (8, .one (.int .i64))], [])], cuts := [(13, [(7, .one (.slice))], [])] }) (by rw [show vcFS Tryz.prog W { keep := some [0, 2, 3, 4, 5, 6, 7, 8, 9, 25, 54, 81], track := [9], split := [6, 13], loops := [(6, [(7, .one (.slice)), (8, .one (.int .i64))], [])], cuts := [(13, [(7, .one (.slice))], [])] } F.errataref29_Restore #[.string s] R Φ J = Merrataref29_Restore s W R Φ J by kernel_rfl]; exact h) c

end Go.Proofs.YtebnciehcnedjaaGreatDoor
end

/-
  The reference's store: where it lies; New, add.
-/
section
set_option linter.unusedVariables false
set_option linter.unusedSimpArgs false
namespace Go.Proofs.YtebnciehcnedjaaGreatDoor
open Go.Vc


/-- the block, and the buffer of levels -/
abbrev rlO (sb : Nat) (a : Value) (lp : Option Addr) (lc : Nat) (ls : List Value) (n : Nat) (c d e : Value) (S : List Own) : List Own :=
  .blk sb [a, .slice lp n lc, c, d, e] 60 :: .buf lp n lc ls 103 1 :: S
theorem lev_cell {M : List Nat} {w : World} {cs : List Value} {B : List Lev} (h : Elems M w cs B) {i : Nat} (hi : i < B.length) : ∃ p c, cs[i]? = some (.slice p B[i].length c) ∧ B[i].length ≤ c ∧ c ≤ maxLen ∧ Sl M w p B[i] := by
  have hs : (Gv.ty Lev).size = 1 := rfl
  have h1 := h.2 i hi
  rw [hs, Nat.mul_one] at h1
  obtain ⟨p, c, e, g1, g2, g3⟩ := rep_list.1 h1
  refine ⟨p, c, ?_, g1, g2, g3⟩
  have hl : i < cs.length := by have := h.1; rw [hs] at this; omega
  rw [List.drop_eq_getElem_cons hl] at e
  simp only [List.take_succ_cons, List.take_zero, List.cons.injEq, and_true] at e
  rw [List.getElem?_eq_getElem hl, e]
theorem lev_len {M : List Nat} {w : World} {cs : List Value} {B : List Lev} (h : Elems M w cs B) : cs.length = B.length := by
  have := h.1
  rw [show (Gv.ty Lev).size = 1 from rfl] at this
  omega
theorem nil_rep {M : List Nat} {w : World} : Gv.rep M w [Value.slice none 0 0] ([] : Lev) := rep_list.2 ⟨none, 0, rfl, Nat.le_refl _, Nat.zero_le _, Sl.nil⟩

set_option maxHeartbeats 4000000 in
theorem add29_use {W w : World} {S : List Own} {Φ : PW} [Stable Φ] {sb : Nat} {a c d e : Value} {lp : Option Addr} {lc : Nat} {ls : List Value} {L : List Lev} {i : Nat} {rp : Option Addr} {rc : Nat} {r : Run} [hR : Has Φ (fun M w => Sl M w rp r)] (hr1 : r.length ≤ rc) (hr2 : rc ≤ maxLen) (hi : i ≤ 1000) (hL : L.length ≤ 1000) (hlv : ∀ l ∈ L, l.length ≤ 1000)
    (cx : Ctx W w (rlO sb a lp lc ls L.length c d e S) (fun M w => Φ M w ∧ Elems M w ls L)) {K : Ending → World → Prop}
    (hK : ∀ lp' lc' ls' w', Ctx W w' (rlO sb a lp' lc' ls' (addAt i L r).length c d e S) (fun M w => Φ M w ∧ Elems M w ls' (addAt i L r)) → K (.returned (.tuple #[])) w') :
    Calls Tryz.prog F.errataref29_Store_add #[.pointer (some ⟨sb, 0, none⟩), .int .i64 i, .slice rp r.length rc] w K := by
  have stE : ∀ (ls : List Value) (L : List Lev), Stable (fun M w => Φ M w ∧ Elems M w ls L) := fun ls L => instStableAnd Φ (fun M w => Elems M w ls L)
  have hst := stE ls L
  refine (Berrataref29_Store_add_run sb 0 i rp r.length rc (J := fun u w' => K (.returned u) w') cx ?_).mono fun e w' ⟨v, he, hj⟩ => by rw [he]; exact hj
  clear cx
  refine exI_mk (fun R' Φ' k => ∃ (lq : Option Addr) (ld : Nat) (cs : List Value) (m : Nat), (m = 0 ∨ L.length + m ≤ i + 1) ∧ R' = rlO sb a lq ld cs (L ++ List.replicate m ([] : Lev)).length c d e S ∧ Φ' = (fun M w => Φ M w ∧ Elems M w cs (L ++ List.replicate m ([] : Lev))) ∧ k = i + 1 - (L.length + m))
    ⟨⟨_, _, _, hst, fun w G cx => cx, lp, lc, ls, 0, .inl rfl, by rw [List.replicate_zero, List.append_nil], by rw [List.replicate_zero, List.append_nil], rfl⟩, ?_⟩
  rintro R1 Φ1 k _ ⟨lq, ld, cs, m, hm, rfl, rfl, rfl⟩
  obtain ⟨B, hB⟩ : ∃ B, L ++ List.replicate m ([] : Lev) = B := ⟨_, rfl⟩
  have hBl : B.length = L.length + m := by rw [← hB, List.length_append, List.length_replicate]
  have hBx : ∀ l ∈ B, l.length ≤ 1000 := fun l hl => by
    rw [← hB] at hl
    rcases List.mem_append.1 hl with hl | hl
    · exact hlv l hl
    · rw [List.eq_of_mem_replicate hl]; simp
  rw [hB]
  have hst1 := stE cs B
  refine fun w G cx => ⟨lq, B.length, ld, cx.get 0 rfl rfl, Br.intro (fun hle => ?_) (fun hgt => ?_)⟩
  · have hle : B.length ≤ i := by have := of_decide_eq_true hle; omega
    clear cx
    refine fun w G cx => ⟨lq, B.length, ld, cx.get 0 rfl rfl, fun k w G cx => ?_⟩
    have cx1 : Ctx W w (.blk k [Value.slice none 0 0] 103 :: .buf lq B.length ld cs 103 1 :: Own.blk sb [a, .slice lq B.length ld, c, d, e] 60 :: (S ++ G)) (fun M w => Φ M w ∧ Elems M w cs B) := cx.perm (List.Perm.cons _ (List.Perm.swap _ _ _))
    obtain ⟨p', cap', w', hr, _, cx2⟩ := cx1.app1 (ts := 58) (ty := 58) (kb := #[false, false]) (bytes := 24) (P := Tryz.prog) (by kernel_rfl) (by omega) rfl rfl (by omega) (by omega)
    refine ⟨p', _, cap', w', hr, .blk sb [a, .slice lq B.length ld, c, d, e] 60 :: .buf p' (B.length + 1) cap' (cs ++ [Value.slice none 0 0]) 103 1 :: S, _, hst1, cx2.swap, fun w G cx => ⟨cx.can 0 rfl (by show 0 + 1 + 1 ≤ 5; omega), fun w' hw' => ?_⟩⟩
    have cx4 := cx.put 0 hw' rfl
    have eB : L ++ List.replicate (m + 1) ([] : Lev) = B ++ [[]] := by rw [List.replicate_succ', ← List.append_assoc, hB]
    have eL : (B ++ [([] : Lev)]).length = B.length + 1 := by rw [List.length_append]; rfl
    refine ⟨.blk sb [a, .slice p' (B.length + 1) cap', c, d, e] 60 :: .buf p' (B.length + 1) cap' (cs ++ [Value.slice none 0 0]) 103 1 :: S, _, hst1, cx4, rlO sb a p' cap' (cs ++ [Value.slice none 0 0]) (B ++ [([] : Lev)]).length c d e S, _, i + 1 - (L.length + (m + 1)), stE (cs ++ [Value.slice none 0 0]) (B ++ [[]]), fun w G cx => ?_, ⟨p', cap', cs ++ [Value.slice none 0 0], m + 1, .inr (by omega), by rw [eB], by rw [eB], rfl⟩, by omega⟩
    rw [eL]
    exact cx.weak (Ψ := fun M w => Φ M w ∧ Elems M w (cs ++ [Value.slice none 0 0]) (B ++ [[]])) fun M w h => ⟨h.1, h.2.snoc nil_rep⟩
  have hgt : i < B.length := by have := of_decide_eq_false hgt; omega
  have hmm : m = i + 1 - L.length := by omega
  have hcl := lev_len cx.phi.2
  obtain ⟨g, hg, _⟩ := cx.bufCell 1 rfl (by omega)
  subst hg
  refine Br.intro (fun hrn => ?_) (fun hrn => fun w G cx => ?_)
  rotate_left
  · have hr0 : r = [] := List.eq_nil_of_length_eq_zero (by have := of_decide_eq_false hrn; omega)
    have e1 : addAt i L r = B := by rw [addAt_eq, if_pos hr0, ← hmm, hB]
    refine hK (some ⟨g, 0, none⟩) ld cs w ?_
    rw [e1]
    exact cx.left
  have hrn : r ≠ [] := fun h => by rw [h] at hrn; have := of_decide_eq_true hrn; simp at this
  obtain ⟨q0, c0, hcell, hc1, hc2, _⟩ := lev_cell cx.phi.2 hgt
  clear cx
  obtain ⟨l, hl⟩ : ∃ l, B[i] = l := ⟨_, rfl⟩
  rw [hl] at hcell hc1
  have hll := hBx l (by rw [← hl]; exact List.getElem_mem hgt)
  have ti : ((i : Int)).toNat = i := Int.toNat_natCast i
  have hsub : ∀ (G : List Own), ([Own.blk sb [a, .slice (some ⟨g, 0, none⟩) B.length ld, c, d, e] 60, Own.buf (some ⟨g, 0, none⟩) B.length ld cs 103 1] ++ G).Sublist (rlO sb a (some ⟨g, 0, none⟩) ld cs B.length c d e S ++ G) := fun G =>
    (((List.nil_sublist S).cons_cons _).cons_cons _).append_right G
  refine ⟨[Own.blk sb [a, .slice (some ⟨g, 0, none⟩) B.length ld, c, d, e] 60, Own.buf (some ⟨g, 0, none⟩) B.length ld cs 103 1], fun _ _ => True, inferInstance, fun w G cx => (cx.sub (hsub G)).weak fun _ _ _ => trivial, _, B.length, ld, fun w G cx => ⟨_, _, _, cx.get 0 rfl rfl, rfl⟩, _, B.length, ld, fun w G cx => ⟨_, _, _, cx.get 0 rfl rfl, rfl⟩, ⟨by omega, by omega⟩, ptrK_intro g 0 rfl ⟨q0, l.length, c0, fun w G cx => ⟨_, _, _, by rw [Nat.zero_add, ti]; exact cx.bufGet 1 rfl rfl hcell, rfl⟩, fun k => ⟨fun w G cx => (cx.drop1.sub (hsub G)).weak fun _ _ _ => trivial, fun w G cx => ?_⟩⟩⟩
  have cx1 : Ctx W w (.buf (some ⟨k, 0, none⟩) 1 1 [.slice rp r.length rc] 48 1 :: (rlO sb a (some ⟨g, 0, none⟩) ld cs B.length c d e S ++ G)) (fun M w => Φ M w ∧ Elems M w cs B) := Ctx.toBuf cx 0 1 1 rfl rfl (by simp [maxLen])
  have hsl : ∀ M w, Φ M w ∧ Elems M w cs B → Sl M w q0 l := fun M w h => by
    obtain ⟨q1, c1, e1, _, _, h1⟩ := lev_cell h.2 hgt
    rw [hl] at h1 e1
    rw [hcell] at e1
    cases e1
    exact h1
  obtain ⟨p', cap', w', news, hrun, cx2⟩ := Ctx.appAnyV (α := Run) (P := Tryz.prog) (ts := 103) (tv := 103) (ty := 103) (u := 48) (kb := #[false, false]) (bytes := 24) (c2 := c0) (l := l) (q := q0) cx1 (by kernel_rfl) (by kernel_rfl) run_one hsl (by omega) (by omega)
  have he : Elems (dom (Own.buf p' (1 + l.length) cap' ([.slice rp r.length rc] ++ news) 48 1 :: (rlO sb a (some ⟨g, 0, none⟩) ld cs B.length c d e S ++ G))) w' (Value.slice rp r.length rc :: news) (r :: l) := elems_cons (rep_list.2 ⟨rp, rc, rfl, hr1, hr2, hR.go _ _ cx2.phi.1.1⟩) cx2.phi.2
  obtain ⟨c1, hs, eln, h2, h3⟩ := Ctx.freeze (α := Run) (l := r :: l) cx2 he
  have cx3 := (c1.add (Ψ := fun M w => Sl M w p' (r :: l)) hs).weak (Ψ := fun M w => (Φ M w ∧ Elems M w cs B) ∧ Sl M w p' (r :: l)) fun M w h => ⟨h.1.1, h.2⟩
  have st3 : Stable (fun M w => (Φ M w ∧ Elems M w cs B) ∧ Sl M w p' (r :: l)) := instStableAnd (fun M w => Φ M w ∧ Elems M w cs B) (fun M w => Sl M w p' (r :: l))
  refine ⟨p', _, cap', w', hrun, rlO sb a (some ⟨g, 0, none⟩) ld cs B.length c d e S, _, st3, cx3, fun w G cx => (cx.sub (hsub G)).weak fun _ _ _ => trivial, ⟨by omega, by omega⟩, ptrK_intro g 0 rfl fun w G cx => ⟨by rw [Nat.zero_add, ti]; exact cx.bufCan 1 rfl rfl (by omega), fun w' hw' => ?_⟩⟩
  rw [Nat.zero_add, ti] at hw'
  have cx5 := cx.bufPuts 1 (vs := [.slice p' (1 + l.length) cap']) (b := g) (o := i) (w' := w') rfl rfl (by omega) (by show i + 1 ≤ _; omega) hw'
  have cx6 := cx5.weak (Ψ := fun M w => Φ M w ∧ Elems M w (setL cs i [.slice p' (1 + l.length) cap']) (B.set i (r :: l))) fun M w h => ⟨h.1.1, by
    have h4 := Elems.setAt (α := Lev) (d := [.slice p' (1 + l.length) cap']) (x := r :: l) h.1.2 i hgt (rep_list.2 ⟨p', cap', by rw [List.length_cons, Nat.add_comm], by rw [List.length_cons]; omega, h3, h.2⟩)
    rw [show (Gv.ty Lev).size = 1 from rfl, Nat.mul_one] at h4
    exact h4⟩
  have e1 : addAt i L r = B.set i (r :: l) := by
    have eg : B.getD i [] = l := by rw [List.getD_eq_getElem?_getD, List.getElem?_eq_getElem hgt, hl, Option.getD_some]
    rw [addAt_eq, if_neg hrn, ← hmm, hB, eg]
  refine ⟨rlO sb a (some ⟨g, 0, none⟩) ld (setL cs i [.slice p' (1 + l.length) cap']) B.length c d e S, _, stE _ _, cx6, fun w G cx => hK (some ⟨g, 0, none⟩) ld (setL cs i [.slice p' (1 + l.length) cap']) w ?_⟩
  rw [e1, List.length_set]
  exact cx.left

/-- where the reference's store lies -/
structure RO where
  sb : Nat
  tp : Option Addr
  tc : Nat
  lp : Option Addr
  lc : Nat
  ls : List Value
  gp : Option Addr
  gc : Nat
  gs : List Value
abbrev rfO (q : RO) (s : StD) (S : List Own) : List Own :=
  rlO q.sb (.slice q.tp s.table.length q.tc) q.lp q.lc q.ls s.levels.length (.int .i64 s.seq) (.slice q.gp s.log.length q.gc) (.int .i64 s.cut) (.buf q.gp s.log.length q.gc q.gs 46 3 :: S)
abbrev rfF (q : RO) (s : StD) : PW := fun M w => (Sl M w q.tp s.table ∧ Elems M w q.gs s.log) ∧ Elems M w q.ls s.levels
structure RfQ (q : RO) (s : StD) : Prop where
  tab : s.table.length ≤ q.tc ∧ q.tc ≤ maxLen
instance instStableRf (Φ : PW) [Stable Φ] (q : RO) (s : StD) : Stable (fun M w => Φ M w ∧ rfF q s M w) :=
  instStableAnd Φ (fun M w => (Sl M w q.tp s.table ∧ Elems M w q.gs s.log) ∧ Elems M w q.ls s.levels)
theorem rfO_app (q : RO) (s : StD) (S : List Own) : rfO q s S = rfO q s [] ++ S := rfl

end Go.Proofs.YtebnciehcnedjaaGreatDoor
end

/-
  The reference's writer of encodings, walked.
-/
section
set_option linter.unusedVariables false
set_option linter.unusedSimpArgs false
namespace Go.Proofs.YtebnciehcnedjaaGreatDoor
open Go.Vc


theorem neg_tmod10 (n : Nat) : (-(n : Int)).tmod 10 = -((n % 10 : Nat) : Int) := by
  rw [Int.neg_tmod]; rfl
theorem neg_tdiv10 (n : Nat) : (-(n : Int)).tdiv 10 = -((n / 10 : Nat) : Int) := by
  rw [Int.neg_tdiv]; rfl
theorem wrap_dig (d : Nat) (h : d < 10) : IntKind.u8.wrap (48 - -(d : Int)) = ((UInt8.ofNat (48 + d)).toNat : Int) := by
  have : ∀ d : Fin 10, IntKind.u8.wrap (48 - -((d.val : Nat) : Int)) = ((UInt8.ofNat (48 + d.val)).toNat : Int) := by decide
  exact this ⟨d, h⟩
theorem mk_app (l : List UInt8) (b : ByteArray) : (⟨l.toArray⟩ : ByteArray) ++ b = ⟨(l ++ b.data.toList).toArray⟩ := by
  apply ByteArray.ext
  rw [ByteArray.data_append]
  apply Array.toList_inj.1
  simp

theorem digits_g : ∀ (n : Nat), n ≤ 9223372036854775808 → Gives Tryz.prog F.errataref01_digits #[.int .i64 (-(n : Int))] (.string ⟨(Lib.decDigits n).toArray⟩) := by
  intro n
  induction n using Nat.strongRecOn with
  | _ n ih =>
    intro hn
    refine gives_of (Berrataref01_digits_run (-(n : Int))) fun W R Φ hs => ?_
    have e0 : (48 : Int) - (-(n : Int)).tmod 10 = 48 - -((n % 10 : Nat) : Int) := by rw [neg_tmod10]
    refine ⟨by omega, by rw [e0]; unfold I64; omega, fun k w G cx => ?_⟩
    rw [e0, wrap_dig _ (by omega)] at cx
    have hcell : ∀ j, (hj : j < [UInt8.ofNat (48 + n % 10)].length) → w.cell? ((⟨k, 0, none⟩ : Addr).add j) = some (.int .u8 ([UInt8.ofNat (48 + n % 10)][j].toNat : Int)) := fun j hj => by
      obtain rfl : j = 0 := by simpa using hj
      exact cx.get 0 rfl rfl
    refine ⟨_, _, run_convert_bytes_back w 87 9 5 ⟨k, 0, none⟩ 1 [UInt8.ofNat (48 + n % 10)] (by kernel_rfl) (by kernel_rfl) (by kernel_rfl) hcell, R, Φ, hs, cx.drop1, ?_⟩
    clear cx
    refine Br.intro (fun h => fun w G cx => ⟨?_, cx.left⟩) (fun h => ?_)
    · have h := of_decide_eq_true h
      rw [Lib.decDigits, dif_pos (by omega), show n % 10 = n by omega]
    · have h := of_decide_eq_false h
      have e1 := neg_tdiv10 n
      refine ⟨by omega, by rw [e1]; unfold I64; omega, fun w G cx => ?_⟩
      rw [e1]
      have hl := nDigits_le 19 (n / 10) (by omega) (by decide)
      have hd := Lib.decDigits_length (n / 10)
      refine ((ih (n / 10) (by omega) (by omega)).in).toS cx ⟨?_, fun w G cx => ⟨?_, cx.left⟩⟩
      · show (ByteArray.mk (Lib.decDigits (n / 10)).toArray).size + 1 ≤ _
        rw [size_list, hd]; omega
      · conv => rhs; rw [Lib.decDigits, dif_neg (by omega)]
        rw [mk_app]

theorem Int01_g (n : Int) (h : I64 n) : Gives Tryz.prog F.errataref01_Int #[.int .i64 n] (.string (intB n)) := by
  have hs := intB_size h
  unfold intB numB at hs
  rw [size_app, size_list, show (ByteArray.mk #[59]).size = 1 from rfl] at hs
  unfold I64 at h
  refine gives_of (Berrataref01_Int_run n) fun W R Φ _ => Br.intro (fun hn => ?_) (fun hn => ?_)
  · have hn := of_decide_eq_true hn
    have e : n = -((n.natAbs : Nat) : Int) := by omega
    have hi : Lib.itoa n = 45 :: Lib.decDigits n.natAbs := by unfold Lib.itoa; rw [if_pos hn]
    have hg := digits_g n.natAbs (by omega)
    rw [← e] at hg
    rw [hi, List.length_cons] at hs
    have e45 : (ByteArray.mk #[45]) ++ ByteArray.mk (Lib.decDigits n.natAbs).toArray = numB n := by
      unfold numB
      rw [show (ByteArray.mk #[45]) = ⟨[(45 : UInt8)].toArray⟩ from rfl, mk_app, hi]
      rfl
    refine fun w G cx => (hg.in).toS cx ⟨?_, ?_, fun w G cx => ⟨?_, cx.left⟩⟩
    · show 1 + (ByteArray.mk (Lib.decDigits n.natAbs).toArray).size ≤ _
      rw [size_list]; omega
    · show ((ByteArray.mk #[45]) ++ ByteArray.mk (Lib.decDigits n.natAbs).toArray).size + 1 ≤ _
      have e1 : (ByteArray.mk #[45]).size = 1 := rfl
      rw [size_app, size_list (Lib.decDigits n.natAbs), e1]
      omega
    · unfold intB
      rw [← e45]
  · have hn := of_decide_eq_false hn
    have e : 0 - n = -((n.toNat : Nat) : Int) := by omega
    have hi : Lib.itoa n = Lib.decDigits n.toNat := by unfold Lib.itoa; rw [if_neg hn]
    have hg := digits_g n.toNat (by omega)
    rw [← e, ← hi] at hg
    refine ⟨by unfold I64; omega, fun w G cx => (hg.in).toS cx ⟨?_, fun w G cx => ⟨rfl, cx.left⟩⟩⟩
    show (ByteArray.mk (Lib.itoa n).toArray).size + 1 ≤ _
    rw [size_list]; omega

end Go.Proofs.YtebnciehcnedjaaGreatDoor
end

/-
  The reference's reader of encodings, walked: it does what the program's reader does.
-/
section
set_option linter.unusedVariables false
set_option linter.unusedSimpArgs false
namespace Go.Proofs.YtebnciehcnedjaaGreatDoor
open Go.Vc


/-! ### plain -/
theorem getI : ∀ (l : List UInt8) (i : Nat), l.get?Internal i = l[i]?
  | [], _ => rfl
  | _ :: _, 0 => rfl
  | x :: l, i + 1 => by
    show l.get?Internal i = (x :: l)[i + 1]?
    rw [getI l i]; rfl
/-- a reader that has failed has nothing left -/
def RdOk (st : RdS) : Prop := st.2 = true → st.1 = []
theorem rdOk0 (l : List UInt8) : RdOk (l, false) := fun h => by cases h
theorem rdOkF : RdOk ([], true) := fun _ => rfl
theorem numP_nil (e : UInt8) (least : Int) : numP e least [] = none := by
  unfold numP
  simp [Lib.indexByte]
theorem stepN_ok {e : UInt8} {least : Int} {st : RdS} (h : RdOk st) : RdOk (stepN e least st).2 := by
  unfold stepN
  cases hn : numP e least st.1 with
  | none => exact rdOkF
  | some x =>
    obtain ⟨n, r⟩ := x
    intro hb
    have hb : st.2 = true := hb
    rw [h hb, numP_nil] at hn
    cases hn
theorem stepC_ok {c : UInt8} {st : RdS} (h : RdOk st) : RdOk (stepC c st) := by
  obtain ⟨l, b⟩ := st
  cases l with
  | nil => exact rdOkF
  | cons x r =>
    unfold stepC
    simp only
    split
    · intro hb
      have := h hb
      cases this
    · exact rdOkF
theorem rdInt_ok {st : RdS} (h : RdOk st) : RdOk (rdInt st).2 := stepN_ok h
theorem rdNat_ok {st : RdS} (h : RdOk st) : RdOk (rdNat st).2 := stepN_ok h
theorem stepT_ok {st : RdS} (h : RdOk st) : RdOk (stepT st).2 := by
  unfold stepT
  simp only
  split
  · exact rdOkF
  · refine stepC_ok fun hb => ?_
    have := stepN_ok (e := 58) (least := 0) h hb
    simp only
    rw [this, List.drop_nil]

/-- the digits of a number behind its sign -/
theorem itoa_digs {l : List UInt8} {f : Nat} (hf : f = 1 ∧ l[0]? = some 45 ∨ f = 0 ∧ l[0]? ≠ some 45) {n : Int} (hn : I64 n) (e : l = Lib.itoa n) : ∃ u : Nat, l.drop f = Lib.decDigits u ∧ u ≤ 9223372036854775808 ∧ n = (if f = 1 then -(u : Int) else u) := by
  unfold I64 at hn
  unfold Lib.itoa at e
  split at e
  · rename_i h
    rcases hf with ⟨rfl, h0⟩ | ⟨rfl, h0⟩
    · exact ⟨n.natAbs, by rw [e]; rfl, by omega, by rw [if_pos rfl]; omega⟩
    · rw [e] at h0; exact absurd rfl h0
  · rename_i h
    rcases hf with ⟨rfl, h0⟩ | ⟨rfl, h0⟩
    · have hd := digits_chars n.toNat 45 (by rw [← e]; exact List.mem_of_getElem? h0)
      exact absurd hd.1 (by decide)
    · exact ⟨n.toNat, by rw [e]; rfl, by omega, by rw [if_neg (by decide)]; omega⟩
theorem digV_pre (D : List UInt8) (k : Nat) : digV 0 (D.take k) ≤ digV 0 D := by
  have h := digV_mono (D.drop k) (digV 0 (D.take k))
  have e : digV (digV 0 (D.take k)) (D.drop k) = digV 0 D := by
    unfold digV
    rw [← List.foldl_append, List.take_append_drop]
  omega
theorem u8_dig {c : UInt8} (h : 48 ≤ c.toNat ∧ c.toNat ≤ 57) : IntKind.i64.wrap (IntKind.u8.wrap ((c.toNat : Int) - 48)) = ((c.toNat - 48 : Nat) : Int) := by
  have e : ((c.toNat : Int) - 48) = ((c.toNat - 48 : Nat) : Int) := by omega
  rw [e]
  have h2 : IntKind.u8.wrap ((c.toNat - 48 : Nat) : Int) = ((c.toNat - 48 : Nat) : Int) := by simp [IntKind.wrap, IntKind.signed, IntKind.bits]; omega
  rw [h2, i64_wrap (by unfold I64; omega)]
theorem wrap_i64 (x : Int) : I64 (IntKind.i64.wrap x) := by
  unfold I64
  simp [IntKind.wrap, IntKind.signed, IntKind.bits]
  split <;> omega

/-- what is known while a number's digits are added -/
def BackI (l : List UInt8) (f j : Nat) (acc : Int) : Prop := f ≤ j ∧ j ≤ l.length ∧ I64 acc ∧ ∀ n, I64 n → l = Lib.itoa n → acc = -((digV 0 ((l.drop f).take (j - f)) : Nat) : Int)
theorem backI0 {l : List UInt8} {f : Nat} (h : f ≤ l.length) : BackI l f f 0 := ⟨Nat.le_refl _, h, by unfold I64; decide, fun n _ _ => by rw [Nat.sub_self, List.take_zero]; rfl⟩
theorem back_dig {l : List UInt8} {f j : Nat} (hf : f = 1 ∧ l[0]? = some 45 ∨ f = 0 ∧ l[0]? ≠ some 45) (hfj : f ≤ j) {c : UInt8} (hc : l[j]? = some c) {n : Int} (hn : I64 n) (e : l = Lib.itoa n) : (48 ≤ c.toNat ∧ c.toNat ≤ 57) ∧ j ≤ 20 := by
  obtain ⟨u, hu, _, _⟩ := itoa_digs hf hn e
  refine ⟨digits_chars u c ?_, ?_⟩
  · rw [← hu]
    refine List.mem_of_getElem? (i := j - f) ?_
    rw [List.getElem?_drop, show f + (j - f) = j by omega]
    exact hc
  · have := itoa_len hn
    rw [← e] at this
    have := (List.getElem?_eq_some_iff.1 hc).1
    omega
theorem backI_step {l : List UInt8} {f j : Nat} {acc : Int} (hf : f = 1 ∧ l[0]? = some 45 ∨ f = 0 ∧ l[0]? ≠ some 45) (h : BackI l f j acc) {c : UInt8} (hc : l[j]? = some c) : BackI l f (j + 1) (IntKind.i64.wrap (IntKind.i64.wrap (10 * acc) - IntKind.i64.wrap (IntKind.u8.wrap ((c.toNat : Int) - 48)))) := by
  obtain ⟨h1, h2, h3, h4⟩ := h
  have hjl := (List.getElem?_eq_some_iff.1 hc).1
  refine ⟨by omega, by omega, wrap_i64 _, fun n hn e => ?_⟩
  have h5 := h4 n hn e
  obtain ⟨u, hu, hub, _⟩ := itoa_digs hf hn e
  obtain ⟨hd, _⟩ := back_dig hf h1 hc hn e
  have hs : (l.drop f).take (j + 1 - f) = (l.drop f).take (j - f) ++ [c] := by
    rw [show j + 1 - f = (j - f) + 1 by omega, List.take_add_one, List.getElem?_drop, show f + (j - f) = j by omega, hc]
    rfl
  have hpre := digV_pre (l.drop f) (j + 1 - f)
  rw [hu] at hpre
  rw [digV_dec u] at hpre
  rw [← hu, hs, digV_snoc] at hpre
  rw [hs, digV_snoc, h5, u8_dig hd]
  rw [i64_wrap (n := 10 * -((digV 0 ((l.drop f).take (j - f)) : Nat) : Int)) (by unfold I64; omega)]
  rw [i64_wrap (by unfold I64; omega)]
  omega
theorem backI_end {l : List UInt8} {f j : Nat} {acc : Int} (hf : f = 1 ∧ l[0]? = some 45 ∨ f = 0 ∧ l[0]? ≠ some 45) (h : BackI l f j acc) (hj : l.length ≤ j) {n : Int} (hn : I64 n) (e : l = Lib.itoa n) : n = (if f = 1 then acc else IntKind.i64.wrap (0 - acc)) := by
  obtain ⟨h1, h2, h3, h4⟩ := h
  have h5 := h4 n hn e
  obtain ⟨u, hu, hub, hn2⟩ := itoa_digs hf hn e
  rw [List.take_of_length_le (by rw [List.length_drop]; omega), hu, digV_dec] at h5
  rcases hf with ⟨rfl, _⟩ | ⟨rfl, _⟩
  · rw [if_pos rfl] at hn2 ⊢
    omega
  · rw [if_neg (by decide)] at hn2 ⊢
    unfold I64 at hn
    rw [h5, i64_wrap (by unfold I64; omega)]
    omega
theorem intB_semi {n : Int} {l : List UInt8} : (intB n = bs l ++ ByteArray.mk #[59]) ↔ l = Lib.itoa n := by
  have e1 : (intB n).data.toList = Lib.itoa n ++ [59] := by unfold intB numB; simp [ByteArray.data_append]
  have e2 : (bs l ++ ByteArray.mk #[59]).data.toList = l ++ [59] := by simp [bs, ByteArray.data_append]
  constructor
  · intro h
    have h2 : (intB n).data.toList = (bs l ++ ByteArray.mk #[59]).data.toList := by rw [h]
    rw [e1, e2] at h2
    exact (List.append_cancel_right h2).symm
  · intro h
    apply ByteArray.ext
    apply Array.toList_inj.1
    rw [e1, e2, h]

section
variable {W w : World} {R G S : List Own} {Φ : PW} {b : Nat} {st : RdS}

theorem Back_to [Stable Φ] (l : List UInt8) (hl : l.length ≤ 1000000000) (c : Ctx W w (R ++ G) Φ) {K : Int → Bool → List Own → PW → Prop}
    (h1 : ∀ n, I64 n → l = Lib.itoa n → K n true R Φ) (h0 : (∀ n, I64 n → l ≠ Lib.itoa n) → ∀ m, K m false R Φ) :
    Calls Tryz.prog F.errataref01_Back #[.string (bs l)] w fun e w' => ∃ n ok, e = .returned (.tuple #[.int .i64 n, .bool ok]) ∧ ∃ R' Φ', Stable Φ' ∧ Ctx W w' (R' ++ G) Φ' ∧ K n ok R' Φ' := by
  refine (Merrataref01_Back_run (bs l) (J := fun u w' => ∃ n ok, (Ending.returned u) = .returned (.tuple #[.int .i64 n, .bool ok]) ∧ ∃ R' Φ', Stable Φ' ∧ Ctx W w' (R' ++ G) Φ' ∧ K n ok R' Φ') (R := R ++ G) c ?_).mono fun e w' ⟨v, he, hj⟩ => by rw [he]; exact hj
  clear c
  have hsz : (bs l).size = l.length := bs_size l
  have body : ∀ (f : Nat), (f = 1 ∧ l[0]? = some 45 ∨ f = 0 ∧ l[0]? ≠ some 45) → ∀ (n : Int), I64 n → (∀ m, I64 m → l = Lib.itoa m → m = n) → ∀ {w : World} {G2 : List Own}, Ctx W w ((R ++ G) ++ G2) Φ →
      Calls Tryz.prog F.errataref01_Int #[.int .i64 n] w fun e28 w29 => ∃ (s30 : ByteArray), e28 = .returned (.string s30) ∧ ∃ (R31 : List Own), ∃ (Φ32 : PW), Stable Φ32 ∧ Ctx W w29 (R31 ++ G2) Φ32 ∧ ((bs l).size + (ByteArray.mk #[OfNat.ofNat 59]).size).le 9223372036854775807 ∧ ∀ (w33 : World) (R34 : List Own), Ctx W w33 (R31 ++ R34) Φ32 →
        ∃ n' ok, (Ending.returned (Value.tuple #[.int .i64 n, .bool (decide (s30 = bs l ++ ByteArray.mk #[OfNat.ofNat 59]))])) = .returned (.tuple #[.int .i64 n', .bool ok]) ∧ ∃ R' Φ', Stable Φ' ∧ Ctx W w33 (R' ++ G) Φ' ∧ K n' ok R' Φ' := fun f hf n hn hu {w G2} cx =>
    (Gives.in (Int01_g n hn)).toS cx ⟨by rw [hsz]; show l.length + 1 ≤ 9223372036854775807; omega, fun w G3 cx => ⟨n, _, rfl, R, Φ, inferInstance, cx.left, by
      by_cases he : l = Lib.itoa n
      · rw [decide_eq_true (intB_semi.2 he)]; exact h1 n hn he
      · rw [decide_eq_false fun h => he (intB_semi.1 h)]
        exact h0 (fun m hm e => he (by rw [← hu m hm e]; exact e)) n⟩⟩
  have bad : (∀ n, I64 n → l ≠ Lib.itoa n) → ∀ {w : World} {G2 : List Own}, Ctx W w ((R ++ G) ++ G2) Φ → ∃ n' ok, (Ending.returned (Value.tuple #[.int .i64 0, .bool false])) = .returned (.tuple #[.int .i64 n', .bool ok]) ∧ ∃ R' Φ', Stable Φ' ∧ Ctx W w (R' ++ G) Φ' ∧ K n' ok R' Φ' := fun h {w G2} cx => ⟨0, false, rfl, R, Φ, inferInstance, cx.left, h0 h 0⟩
  refine fun w G2 cx => ⟨l[0]?.getD 0, fun h => ⟨by decide, ?_⟩, ?_⟩
  · have h := of_decide_eq_true h
    rw [hsz] at h
    rw [bs_list, getI, List.getElem?_eq_getElem (by omega)]; rfl
  clear cx
  have hbyte : ∀ {j : Nat}, j < l.length → (bs l).data.toList.get?Internal ((j : Int)).toNat = some (l[j]?.getD 0) ∧ l[j]? = some (l[j]?.getD 0) := fun {j} hj => by
    rw [bs_list, getI, Int.toNat_natCast, List.getElem?_eq_getElem hj]
    exact ⟨rfl, rfl⟩
  refine Br.intro (fun hs => ?_) (fun hs => ?_)
  · rw [Bool.and_eq_true, hsz] at hs
    have h0l := of_decide_eq_true hs.1
    have hc0 := of_decide_eq_true hs.2
    have hf : (1 = 1 ∧ l[0]? = some 45 ∨ 1 = 0 ∧ l[0]? ≠ some 45) := .inl ⟨rfl, by
      rw [List.getElem?_eq_getElem (by omega)] at hc0 ⊢
      congr 1
      apply UInt8.toNat_inj.1
      simp only [Option.getD_some] at hc0
      exact Int.ofNat.inj hc0⟩
    refine exI_mk (fun acc jI R' Φ' k => ∃ j : Nat, jI = j ∧ BackI l 1 j acc ∧ R' = R ++ G ∧ Φ' = Φ ∧ k = l.length - j) ⟨⟨_, _, _, inferInstance, fun w G cx => cx, 1, rfl, backI0 (by omega), rfl, rfl, rfl⟩, ?_⟩
    rintro acc jI R1 Φ1 k _ ⟨j, rfl, hB, rfl, rfl, rfl⟩
    rw [hsz]
    refine Br.intro (fun hlt => fun w G2 cx => ?_) (fun hge => fun w G2 cx => ?_)
    · have hlt : j < l.length := by have := of_decide_eq_true hlt; omega
      obtain ⟨hb1, hb2⟩ := hbyte hlt
      refine ⟨_, ⟨by omega, hb1⟩, _, fun _ => ⟨by omega, hb1⟩, Br.intro (fun h => fun w G2 cx => bad (fun n hn e => ?_) cx) (fun h => ⟨_, ⟨by omega, hb1⟩, by unfold I64; omega, _, _, l.length - (j + 1), inferInstance, fun w G cx => cx, ⟨j + 1, by omega, backI_step hf hB hb2, rfl, rfl, rfl⟩, by omega⟩)⟩
      obtain ⟨⟨g1, g2⟩, g3⟩ := back_dig hf hB.1 hb2 hn e
      rw [decide_eq_false (by omega), decide_eq_false (by omega), decide_eq_false (by omega)] at h
      cases h
    · have hge := of_decide_eq_false hge
      exact body 1 hf acc hB.2.2.1 (fun m hm e => by have := backI_end hf hB (by omega) hm e; rw [if_pos rfl] at this; exact this) cx
  · have hf : (0 = 1 ∧ l[0]? = some 45 ∨ 0 = 0 ∧ l[0]? ≠ some 45) := .inr ⟨rfl, fun e => by
      have h0l := (List.getElem?_eq_some_iff.1 e).1
      rw [hsz, e, decide_eq_true (by omega), decide_eq_true (by rfl)] at hs
      cases hs⟩
    refine exI_mk (fun acc jI R' Φ' k => ∃ j : Nat, jI = j ∧ BackI l 0 j acc ∧ R' = R ++ G ∧ Φ' = Φ ∧ k = l.length - j) ⟨⟨_, _, _, inferInstance, fun w G cx => cx, 0, rfl, backI0 (Nat.zero_le _), rfl, rfl, rfl⟩, ?_⟩
    rintro acc jI R1 Φ1 k _ ⟨j, rfl, hB, rfl, rfl, rfl⟩
    rw [hsz]
    refine Br.intro (fun hlt => fun w G2 cx => ?_) (fun hge => ?_)
    · have hlt : j < l.length := by have := of_decide_eq_true hlt; omega
      obtain ⟨hb1, hb2⟩ := hbyte hlt
      refine ⟨_, ⟨by omega, hb1⟩, _, fun _ => ⟨by omega, hb1⟩, Br.intro (fun h => fun w G2 cx => bad (fun n hn e => ?_) cx) (fun h => ⟨_, ⟨by omega, hb1⟩, by unfold I64; omega, _, _, l.length - (j + 1), inferInstance, fun w G cx => cx, ⟨j + 1, by omega, backI_step hf hB hb2, rfl, rfl, rfl⟩, by omega⟩)⟩
      obtain ⟨⟨g1, g2⟩, g3⟩ := back_dig hf hB.1 hb2 hn e
      rw [decide_eq_false (by omega), decide_eq_false (by omega), decide_eq_false (by omega)] at h
      cases h
    · have hge := of_decide_eq_false hge
      exact fun w G2 cx => body 0 hf (IntKind.i64.wrap (0 - acc)) (wrap_i64 _) (fun m hm e => by have := backI_end hf hB (by omega) hm e; rw [if_neg (by decide)] at this; exact this) cx
end
end Go.Proofs.YtebnciehcnedjaaGreatDoor
end

