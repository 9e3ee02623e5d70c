/-
  The conditions of the walks of some functions, one formula each; 'B<f>_run' says that they suffice. The formulas are printed by a program; the kernel compares them with the functions' code.
-/
import Derived.Test.YtnapfhbibikbiaaGreatDoorBy85
import Derived.Test.YtnapfhbibikbiaaGreatDoorBy84
import Derived.Lib.Bytealg

section
namespace Go.Proofs.YtnapfhbibikbiaaGreatDoor
set_option linter.unusedVariables false
set_option linter.unusedSimpArgs false
set_option maxRecDepth 100000
open Go.Vc

/-- erratalaw28.DeltaBytes -/
def Berratalaw28_DeltaBytes (aP : Option Addr) (aN aC : Nat) (bP : Option Addr) (bN bC : Nat) (s : ByteArray) (W : World) (R : List Own) (Φ : PW) (J : Value → World → Prop) : Prop :=
  ∀ (w0 : World) (R1 : List Own), Ctx W w0 (R ++ R1) Φ → Calls Tryz.prog F.erratalaw28_small #[] w0 fun (e2 : Ending) (w3 : World) => ∃ (c4 : Bool), e2 = Ending.returned (Value.bool c4) ∧ ∃
  (R5 : List Own), ∃ (Φ6 : PW), Stable Φ6 ∧ Ctx W w3 (R5 ++ R1) Φ6 ∧ ∀ (w7 : World) (R8 : List Own), Ctx W w7 (R5 ++ R8) Φ6 → Calls Tryz.prog F.erratalaw28_few #[Value.slice aP aN aC,
  Value.int IntKind.i64 100] w7 fun (e9 : Ending) (w10 : World) => ∃ (c11 : Bool), e9 = Ending.returned (Value.bool c11) ∧ ∃ (R12 : List Own), ∃ (Φ13 : PW), Stable Φ13 ∧ Ctx W w10 (R12 ++ R8)
  Φ13 ∧ Br (!c11) (∀ (w14 : World) (R15 : List Own), Ctx W w14 (R12 ++ R15) Φ13 → J (Value.bool c4) w14) (∀ (w16 : World) (R17 : List Own), Ctx W w16 (R12 ++ R17) Φ13 → Calls Tryz.prog
  F.erratalaw28_few #[Value.slice bP bN bC, Value.int IntKind.i64 100] w16 fun (e18 : Ending) (w19 : World) => ∃ (c20 : Bool), e18 = Ending.returned (Value.bool c20) ∧ ∃ (R21 : List Own), ∃
  (Φ22 : PW), Stable Φ22 ∧ Ctx W w19 (R21 ++ R17) Φ22 ∧ Br (!c20) (∀ (w23 : World) (R24 : List Own), Ctx W w23 (R21 ++ R24) Φ22 → J (Value.bool c4) w23) (Br (decide (2000 < (↑s.size : Int)))
  (∀ (w25 : World) (R26 : List Own), Ctx W w25 (R21 ++ R26) Φ22 → J (Value.bool c4) w25) (∀ (w27 : World) (R28 : List Own), Ctx W w27 (R21 ++ R28) Φ22 → Calls Tryz.prog F.delta_Bytes
  #[Value.slice aP aN aC] w27 fun (e29 : Ending) (w30 : World) => ∃ (s31 : ByteArray), e29 = Ending.returned (Value.string s31) ∧ ∃ (R32 : List Own), ∃ (Φ33 : PW), Stable Φ33 ∧ Ctx W w30 (R32
  ++ R28) Φ33 ∧ ∀ (w34 : World) (R35 : List Own), Ctx W w34 (R32 ++ R35) Φ33 → Calls Tryz.prog F.delta_Read #[Value.string s31] w34 fun (e36 : Ending) (w37 : World) => ∃ (p38 : Option Addr),
  ∃ (k39 : Nat), ∃ (k40 : Nat), ∃ (c41 : Bool), e36 = Ending.returned (Value.tuple #[Value.slice p38 k39 k40, Value.bool c41]) ∧ ∃ (R42 : List Own), ∃ (Φ43 : PW), Stable Φ43 ∧ Ctx W w37 (R42
  ++ R35) Φ43 ∧ Br (!c41) (∀ (w44 : World) (R45 : List Own), Ctx W w44 (R42 ++ R45) Φ43 → J (Value.bool false) w44) (∀ (w46 : World) (R47 : List Own), Ctx W w46 (R42 ++ R47) Φ43 → Calls
  Tryz.prog F.delta_Consolidate #[Value.slice aP aN aC] w46 fun (e48 : Ending) (w49 : World) => ∃ (p50 : Option Addr), ∃ (k51 : Nat), ∃ (k52 : Nat), e48 = Ending.returned (Value.slice p50 k51
  k52) ∧ ∃ (R53 : List Own), ∃ (Φ54 : PW), Stable Φ54 ∧ Ctx W w49 (R53 ++ R47) Φ54 ∧ ∀ (w55 : World) (R56 : List Own), Ctx W w55 (R53 ++ R56) Φ54 → Calls Tryz.prog F.errataref28_Equal
  #[Value.slice p38 k39 k40, Value.slice p50 k51 k52] w55 fun (e57 : Ending) (w58 : World) => ∃ (c59 : Bool), e57 = Ending.returned (Value.bool c59) ∧ ∃ (R60 : List Own), ∃ (Φ61 : PW), Stable
  Φ61 ∧ Ctx W w58 (R60 ++ R56) Φ61 ∧ Br (!c59) (∀ (w62 : World) (R63 : List Own), Ctx W w62 (R60 ++ R63) Φ61 → J (Value.bool false) w62) (∀ (w64 : World) (R65 : List Own), Ctx W w64 (R60 ++
  R65) Φ61 → Calls Tryz.prog F.delta_Bytes #[Value.slice bP bN bC] w64 fun (e66 : Ending) (w67 : World) => ∃ (s68 : ByteArray), e66 = Ending.returned (Value.string s68) ∧ ∃ (R69 : List Own),
  ∃ (Φ70 : PW), Stable Φ70 ∧ Ctx W w67 (R69 ++ R65) Φ70 ∧ ∀ (w71 : World) (R72 : List Own), Ctx W w71 (R69 ++ R72) Φ70 → Calls Tryz.prog F.delta_Same #[Value.slice aP aN aC, Value.slice bP bN
  bC] w71 fun (e73 : Ending) (w74 : World) => ∃ (c75 : Bool), e73 = Ending.returned (Value.bool c75) ∧ ∃ (R76 : List Own), ∃ (Φ77 : PW), Stable Φ77 ∧ Ctx W w74 (R76 ++ R72) Φ77 ∧ Br (decide
  (s31 = s68) != c75) (∀ (w78 : World) (R79 : List Own), Ctx W w78 (R76 ++ R79) Φ77 → J (Value.bool false) w78) (∀ (w80 : World) (R81 : List Own), Ctx W w80 (R76 ++ R81) Φ77 → Calls Tryz.prog
  F.delta_Read #[Value.string s] w80 fun (e82 : Ending) (w83 : World) => ∃ (p84 : Option Addr), ∃ (k85 : Nat), ∃ (k86 : Nat), ∃ (c87 : Bool), e82 = Ending.returned (Value.tuple #[Value.slice
  p84 k85 k86, Value.bool c87]) ∧ ∃ (R88 : List Own), ∃ (Φ89 : PW), Stable Φ89 ∧ Ctx W w83 (R88 ++ R81) Φ89 ∧ Br c87 (Br c4 (∀ (w90 : World) (R91 : List Own), Ctx W w90 (R88 ++ R91) Φ89 →
  Calls Tryz.prog F.delta_Consolidated #[Value.slice p84 k85 k86] w90 fun (e92 : Ending) (w93 : World) => ∃ (c94 : Bool), e92 = Ending.returned (Value.bool c94) ∧ ∃ (R95 : List Own), ∃ (Φ96 :
  PW), Stable Φ96 ∧ Ctx W w93 (R95 ++ R91) Φ96 ∧ Br c94 (∀ (w97 : World) (R98 : List Own), Ctx W w97 (R95 ++ R98) Φ96 → Calls Tryz.prog F.delta_Bytes #[Value.slice p84 k85 k86] w97 fun (e99 :
  Ending) (w100 : World) => ∃ (s101 : ByteArray), e99 = Ending.returned (Value.string s101) ∧ ∃ (R102 : List Own), ∃ (Φ103 : PW), Stable Φ103 ∧ Ctx W w100 (R102 ++ R98) Φ103 ∧ ∀ (w104 :
  World) (R105 : List Own), Ctx W w104 (R102 ++ R105) Φ103 → J (Value.bool (decide (s101 = s))) w104) (∀ (w106 : World) (R107 : List Own), Ctx W w106 (R95 ++ R107) Φ96 → J (Value.bool false)
  w106)) (∀ (w108 : World) (R109 : List Own), Ctx W w108 (R88 ++ R109) Φ89 → J (Value.bool false) w108)) (∀ (w110 : World) (R111 : List Own), Ctx W w110 (R88 ++ R111) Φ89 → ∀ (w112 : World)
  (R113 : List Own), Ctx W w112 (R88 ++ R113) Φ89 → J (Value.bool (c4 && decide ((↑k85 : Int) = 0))) w112)))))))

theorem Berratalaw28_DeltaBytes_run (aP : Option Addr) (aN aC : Nat) (bP : Option Addr) (bN bC : Nat) (s : ByteArray) {W w : World} {R : List Own} {Φ : PW} [Stable Φ] {J : Value → World → Prop} (c : Ctx W w R Φ) (h : Berratalaw28_DeltaBytes aP aN aC bP bN bC s W R Φ J) : Calls Tryz.prog F.erratalaw28_DeltaBytes #[.slice aP aN aC, .slice bP bN bC, .string s] w fun e w' => ∃ v, e = .returned v ∧ J v w' :=
  vcFS_sound (H := { keep := some [0, 1, 2, 6, 7, 8, 9, 10, 11, 12, 26, 53, 59], split := [2, 6, 10] }) (by rw [show vcFS Tryz.prog W { keep := some [0, 1, 2, 6, 7, 8, 9, 10, 11, 12, 26, 53, 59], split := [2, 6, 10] } F.erratalaw28_DeltaBytes #[.slice aP aN aC, .slice bP bN bC, .string s] R Φ J = Berratalaw28_DeltaBytes aP aN aC bP bN bC s W R Φ J by kernel_rfl]; exact h) c

/-- erratalaw28.small -/
def Berratalaw28_small  (W : World) (R : List Own) (Φ : PW) (J : Value → World → Prop) : Prop :=
  ∀ (k0 k1 k2 k3 : Nat) (w4 : World) (R5 : List Own), Ctx W w4 (Own.blk k3 [Value.int IntKind.i64 3, Value.slice (some (Addr.mk k2 0 none)) 1 1, Value.int IntKind.i64 (-1)] 36 :: Own.blk k2
  [Value.int IntKind.i64 0, Value.int IntKind.i64 7, Value.string (ByteArray.mk #[])] 33 :: Own.blk k1 [Value.int IntKind.i64 3, Value.slice (some (Addr.mk k0 0 none)) 1 1, Value.int
  IntKind.i64 1] 36 :: Own.blk k0 [Value.int IntKind.i64 0, Value.int IntKind.i64 7, Value.string (ByteArray.mk #[])] 33 :: R ++ R5) Φ → Calls Tryz.prog F.delta_Add #[Value.slice (some
  (Addr.mk k1 0 none)) 1 1, Value.slice (some (Addr.mk k1 0 none)) 1 1] w4 fun (e6 : Ending) (w7 : World) => ∃ (p8 : Option Addr), ∃ (k9 : Nat), ∃ (k10 : Nat), e6 = Ending.returned
  (Value.slice p8 k9 k10) ∧ ∃ (R11 : List Own), ∃ (Φ12 : PW), Stable Φ12 ∧ Ctx W w7 (R11 ++ R5) Φ12 ∧ Br (decide ((↑k9 : Int) = 1)) (∀ (k13 : Nat) (w14 : World) (R15 : List Own), Ctx W w14
  (Own.blk k13 [Value.int IntKind.i64 0, Value.int IntKind.i64 7, Value.string (ByteArray.mk #[])] 33 :: R11 ++ R15) Φ12 → Calls Tryz.prog F.delta_Find #[Value.slice p8 k9 k10, Value.int
  IntKind.i64 3, Value.slice (some (Addr.mk k13 0 none)) 1 1] w14 fun (e16 : Ending) (w17 : World) => ∃ (n18 : Int), e16 = Ending.returned (Value.int IntKind.i64 n18) ∧ ∃ (R19 : List Own), ∃
  (Φ20 : PW), Stable Φ20 ∧ Ctx W w17 (R19 ++ R15) Φ20 ∧ Br (decide (n18 = 2)) (∀ (w21 : World) (R22 : List Own), Ctx W w21 (R19 ++ R22) Φ20 → Calls Tryz.prog F.delta_Add #[Value.slice (some
  (Addr.mk k1 0 none)) 1 1, Value.slice (some (Addr.mk k3 0 none)) 1 1] w21 fun (e23 : Ending) (w24 : World) => ∃ (p25 : Option Addr), ∃ (k26 : Nat), ∃ (k27 : Nat), e23 = Ending.returned
  (Value.slice p25 k26 k27) ∧ ∃ (R28 : List Own), ∃ (Φ29 : PW), Stable Φ29 ∧ Ctx W w24 (R28 ++ R22) Φ29 ∧ Br (decide ((↑k26 : Int) = 0)) (∀ (w30 : World) (R31 : List Own), Ctx W w30 (R28 ++
  R31) Φ29 → Calls Tryz.prog F.delta_Upto #[Value.slice (some (Addr.mk k1 0 none)) 1 1, Value.int IntKind.i64 2] w30 fun (e32 : Ending) (w33 : World) => ∃ (p34 : Option Addr), ∃ (k35 : Nat),
  ∃ (k36 : Nat), e32 = Ending.returned (Value.slice p34 k35 k36) ∧ ∃ (R37 : List Own), ∃ (Φ38 : PW), Stable Φ38 ∧ Ctx W w33 (R37 ++ R31) Φ38 ∧ Br (decide ((↑k35 : Int) = 0)) (∀ (w39 : World)
  (R40 : List Own), Ctx W w39 (R37 ++ R40) Φ38 → Calls Tryz.prog F.delta_After #[Value.slice (some (Addr.mk k1 0 none)) 1 1, Value.int IntKind.i64 2] w39 fun (e41 : Ending) (w42 : World) => ∃
  (p43 : Option Addr), ∃ (k44 : Nat), ∃ (k45 : Nat), e41 = Ending.returned (Value.slice p43 k44 k45) ∧ ∃ (R46 : List Own), ∃ (Φ47 : PW), Stable Φ47 ∧ Ctx W w42 (R46 ++ R40) Φ47 ∧ ∀ (w48 :
  World) (R49 : List Own), Ctx W w48 (R46 ++ R49) Φ47 → Calls Tryz.prog F.errataref28_Equal #[Value.slice p43 k44 k45, Value.slice (some (Addr.mk k1 0 none)) 1 1] w48 fun (e50 : Ending) (w51
  : World) => ∃ (c52 : Bool), e50 = Ending.returned (Value.bool c52) ∧ ∃ (R53 : List Own), ∃ (Φ54 : PW), Stable Φ54 ∧ Ctx W w51 (R53 ++ R49) Φ54 ∧ Br c52 (∀ (w55 : World) (R56 : List Own),
  Ctx W w55 (R53 ++ R56) Φ54 → Calls Tryz.prog F.delta_Bytes #[Value.slice none 0 0] w55 fun (e57 : Ending) (w58 : World) => ∃ (s59 : ByteArray), e57 = Ending.returned (Value.string s59) ∧ ∃
  (R60 : List Own), ∃ (Φ61 : PW), Stable Φ61 ∧ Ctx W w58 (R60 ++ R56) Φ61 ∧ ∀ (w62 : World) (R63 : List Own), Ctx W w62 (R60 ++ R63) Φ61 → J (Value.bool (decide (0 < (↑s59.size : Int)))) w62)
  (∀ (w64 : World) (R65 : List Own), Ctx W w64 (R53 ++ R65) Φ54 → J (Value.bool false) w64)) (∀ (w66 : World) (R67 : List Own), Ctx W w66 (R37 ++ R67) Φ38 → J (Value.bool false) w66)) (∀ (w68
  : World) (R69 : List Own), Ctx W w68 (R28 ++ R69) Φ29 → J (Value.bool false) w68)) (∀ (w70 : World) (R71 : List Own), Ctx W w70 (R19 ++ R71) Φ20 → J (Value.bool false) w70)) (∀ (w72 :
  World) (R73 : List Own), Ctx W w72 (R11 ++ R73) Φ12 → J (Value.bool false) w72)

theorem Berratalaw28_small_run  {W w : World} {R : List Own} {Φ : PW} [Stable Φ] {J : Value → World → Prop} (c : Ctx W w R Φ) (h : Berratalaw28_small  W R Φ J) : Calls Tryz.prog F.erratalaw28_small #[] w fun e w' => ∃ v, e = .returned v ∧ J v w' :=
  vcFS_sound (H := { keep := some [0, 1, 2, 3], split := [4] }) (by rw [show vcFS Tryz.prog W { keep := some [0, 1, 2, 3], split := [4] } F.erratalaw28_small #[] R Φ J = Berratalaw28_small  W R Φ J by kernel_rfl]; exact h) c

/-- erratalaw28.few -/
-- loop at region 5: 6 k; blocks 
-- loop at region 2: 5 i; blocks 
def Berratalaw28_few (lP : Option Addr) (lN lC : Nat) (n : Int) (W : World) (R : List Own) (Φ : PW) (J : Value → World → Prop) : Prop :=
  exI fun (I0 : Int → List Own → PW → Nat → Prop) => (∃ (R1 : List Own), ∃ (Φ2 : PW), ∃ (k3 : Nat), Stable Φ2 ∧ (∀ (w4 : World) (R5 : List Own), Ctx W w4 (R ++ R5) Φ → Ctx W w4 (R1 ++ R5) Φ2)
  ∧ I0 0 R1 Φ2 k3) ∧ ∀ (n6 : Int) (R7 : List Own) (I8 : List Nat → World → Prop) (k9 : Nat), Stable I8 → I0 n6 R7 I8 k9 → ∀ (w10 : World) (R11 : List Own), Ctx W w10 (R7 ++ R11) I8 → Br
  (decide (n6 < (↑lN : Int)) && decide (n6 ≤ n)) (exI fun (I12 : Int → List Own → PW → Nat → Prop) => (∃ (R13 : List Own), ∃ (Φ14 : PW), ∃ (k15 : Nat), Stable Φ14 ∧ (∀ (w16 : World) (R17 :
  List Own), Ctx W w16 (R7 ++ R17) I8 → Ctx W w16 (R13 ++ R17) Φ14) ∧ I12 0 R13 Φ14 k15) ∧ ∀ (n18 : Int) (R19 : List Own) (I20 : List Nat → World → Prop) (k21 : Nat), Stable I20 → I12 n18 R19
  I20 k21 → (0 ≤ n6 ∧ n6 < (↑lN : Int)) ∧ ptrK none lP fun (k22 k23 : Nat) => ∀ (w24 : World) (R25 : List Own), Ctx W w24 (R19 ++ R25) I20 → ∃ (p26 : Option Addr), ∃ (k27 : Nat), ∃ (k28 :
  Nat), w24.cell? (Addr.mk k22 (k23 + n6.toNat * 3 + 1) none) = some (Value.slice p26 k27 k28) ∧ Br (decide (n18 < (↑k27 : Int))) ((0 ≤ n6 ∧ n6 < (↑lN : Int)) ∧ ptrK none lP fun (k29 k30 :
  Nat) => ∀ (w31 : World) (R32 : List Own), Ctx W w31 (R19 ++ R32) I20 → ∃ (p33 : Option Addr), ∃ (k34 : Nat), ∃ (k35 : Nat), w31.cell? (Addr.mk k29 (k30 + n6.toNat * 3 + 1) none) = some
  (Value.slice p33 k34 k35) ∧ (0 ≤ n18 ∧ n18 < (↑k34 : Int)) ∧ ptrK none p33 fun (k36 k37 : Nat) => ∀ (w38 : World) (R39 : List Own), Ctx W w38 (R19 ++ R39) I20 → ∃ (s40 : ByteArray),
  w38.cell? (Addr.mk k36 (k37 + n18.toNat * 3 + 2) none) = some (Value.string s40) ∧ Br (decide (200 < (↑s40.size : Int))) (∀ (w41 : World) (R42 : List Own), Ctx W w41 (R19 ++ R42) I20 → J
  (Value.bool false) w41) (I64 (n18 + 1) ∧ ∃ (R43 : List Own), ∃ (Φ44 : PW), ∃ (k45 : Nat), Stable Φ44 ∧ (∀ (w46 : World) (R47 : List Own), Ctx W w46 (R19 ++ R47) I20 → Ctx W w46 (R43 ++ R47)
  Φ44) ∧ I12 (n18 + 1) R43 Φ44 k45 ∧ k45 < k21)) ((0 ≤ n6 ∧ n6 < (↑lN : Int)) ∧ ptrK none lP fun (k48 k49 : Nat) => ∀ (w50 : World) (R51 : List Own), Ctx W w50 (R19 ++ R51) I20 → ∃ (p52 :
  Option Addr), ∃ (k53 : Nat), ∃ (k54 : Nat), w50.cell? (Addr.mk k48 (k49 + n6.toNat * 3 + 1) none) = some (Value.slice p52 k53 k54) ∧ Br (decide (10 < (↑k53 : Int))) (∀ (w55 : World) (R56 :
  List Own), Ctx W w55 (R19 ++ R56) I20 → J (Value.bool false) w55) ((0 ≤ n6 ∧ n6 < (↑lN : Int)) ∧ ptrK none lP fun (k57 k58 : Nat) => ∀ (w59 : World) (R60 : List Own), Ctx W w59 (R19 ++ R60)
  I20 → ∃ (p61 : Option Addr), ∃ (k62 : Nat), ∃ (k63 : Nat), w59.cell? (Addr.mk k57 (k58 + n6.toNat * 3 + 1) none) = some (Value.slice p61 k62 k63) ∧ ∀ (w64 : World) (R65 : List Own), Ctx W
  w64 (R19 ++ R65) I20 → Calls Tryz.prog F.errataref03_RightRow #[Value.slice p61 k62 k63] w64 fun (e66 : Ending) (w67 : World) => ∃ (c68 : Bool), e66 = Ending.returned (Value.bool c68) ∧ ∃
  (R69 : List Own), ∃ (Φ70 : PW), Stable Φ70 ∧ Ctx W w67 (R69 ++ R65) Φ70 ∧ Br (!c68) (∀ (w71 : World) (R72 : List Own), Ctx W w71 (R69 ++ R72) Φ70 → J (Value.bool false) w71) (I64 (n6 + 1) ∧
  ∃ (R73 : List Own), ∃ (Φ74 : PW), ∃ (k75 : Nat), Stable Φ74 ∧ (∀ (w76 : World) (R77 : List Own), Ctx W w76 (R69 ++ R77) Φ70 → Ctx W w76 (R73 ++ R77) Φ74) ∧ I0 (n6 + 1) R73 Φ74 k75 ∧ k75 <
  k9)))) (∀ (w78 : World) (R79 : List Own), Ctx W w78 (R7 ++ R79) I8 → J (Value.bool (decide ((↑lN : Int) ≤ n))) w78)

theorem Berratalaw28_few_run (lP : Option Addr) (lN lC : Nat) (n : Int) {W w : World} {R : List Own} {Φ : PW} [Stable Φ] {J : Value → World → Prop} (c : Ctx W w R Φ) (h : Berratalaw28_few lP lN lC n W R Φ J) : Calls Tryz.prog F.erratalaw28_few #[.slice lP lN lC, .int .i64 n] w fun e w' => ∃ v, e = .returned v ∧ J v w' :=
  vcFS_sound (H := { keep := some [0, 1, 4, 5, 6, 15, 25, 38, 54], split := [9], loops := [(5, [(6, .one (.int .i64))], []), (2, [(5, .one (.int .i64))], [])] }) (by rw [show vcFS Tryz.prog W { keep := some [0, 1, 4, 5, 6, 15, 25, 38, 54], split := [9], loops := [(5, [(6, .one (.int .i64))], []), (2, [(5, .one (.int .i64))], [])] } F.erratalaw28_few #[.slice lP lN lC, .int .i64 n] R Φ J = Berratalaw28_few lP lN lC n W R Φ J by kernel_rfl]; exact h) c

/-- delta.Bytes -/
-- loop at region 5: 15 ; blocks 
-- known blocks: 6 d
def Bdelta_Bytes (lP : Option Addr) (lN lC : Nat) (W : World) (R : List Own) (Φ : PW) (J : Value → World → Prop) : Prop :=
  ∀ (w0 : World) (R1 : List Own), Ctx W w0 (R ++ R1) Φ → Calls Tryz.prog F.delta_Consolidate #[Value.slice lP lN lC] w0 fun (e2 : Ending) (w3 : World) => ∃ (p4 : Option Addr), ∃ (k5 : Nat), ∃
  (k6 : Nat), e2 = Ending.returned (Value.slice p4 k5 k6) ∧ ∃ (R7 : List Own), ∃ (Φ8 : PW), Stable Φ8 ∧ Ctx W w3 (R7 ++ R1) Φ8 ∧ ∀ (k9 : Nat) (w10 : World) (R11 : List Own), Ctx W w10
  (Own.blk k9 [Value.pointer none, Value.slice none 0 0] 44 :: R7 ++ R11) Φ8 → Calls Tryz.prog F.wire_Num #[Value.int IntKind.i64 (↑k5 : Int)] w10 fun (e12 : Ending) (w13 : World) => ∃ (s14 :
  ByteArray), e12 = Ending.returned (Value.string s14) ∧ ∃ (R15 : List Own), ∃ (Φ16 : PW), Stable Φ16 ∧ Ctx W w13 (R15 ++ R11) Φ16 ∧ ∀ (w17 : World) (R18 : List Own), Ctx W w17 (R15 ++ R18)
  Φ16 → Calls Tryz.prog F.strings_Builder_WriteString #[Value.pointer (some (Addr.mk k9 0 none)), Value.string s14] w17 fun (e19 : Ending) (w20 : World) => ∃ (n21 : Int), ∃ (v22 : Value), e19
  = Ending.returned (Value.tuple #[Value.int IntKind.i64 n21, v22]) ∧ ∃ (R23 : List Own), ∃ (Φ24 : PW), Stable Φ24 ∧ Ctx W w20 (R23 ++ R18) Φ24 ∧ exI fun (I25 : Int → List Own → PW → Nat →
  Prop) => (∃ (R26 : List Own), ∃ (Φ27 : PW), ∃ (k28 : Nat), Stable Φ27 ∧ (∀ (w29 : World) (R30 : List Own), Ctx W w29 (R23 ++ R30) Φ24 → Ctx W w29 (R26 ++ R30) Φ27) ∧ I25 0 R26 Φ27 k28) ∧ ∀
  (n31 : Int) (R32 : List Own) (I33 : List Nat → World → Prop) (k34 : Nat), Stable I33 → I25 n31 R32 I33 k34 → Br (decide (n31 < (↑k5 : Int))) ((0 ≤ n31 ∧ n31 < (↑k5 : Int)) ∧ ptrK none p4
  fun (k35 k36 : Nat) => ∀ (w37 : World) (R38 : List Own), Ctx W w37 (R32 ++ R38) I33 → ∃ (n39 : Int), ∃ (p40 : Option Addr), ∃ (k41 : Nat), ∃ (k42 : Nat), ∃ (n43 : Int), RowAt w37 k35 (k36 +
  n31.toNat * 3) [Value.int IntKind.i64 n39, Value.slice p40 k41 k42, Value.int IntKind.i64 n43] ∧ ∀ (b : Nat), ∃ (R44 : List Own), ∃ (Φ45 : PW), Stable Φ45 ∧ (∀ (w46 : World) (R47 : List
  Own), Ctx W w46 (R32 ++ R47) I33 → Ctx W w46 (R44 ++ R47) Φ45) ∧ ∀ (w48 : World) (R49 : List Own), Ctx W w48 (R32 ++ R49) I33 → Calls Tryz.prog F.wire_Int #[Value.int IntKind.i64 n39] w48
  fun (e50 : Ending) (w51 : World) => ∃ (s52 : ByteArray), e50 = Ending.returned (Value.string s52) ∧ ∃ (R53 : List Own), ∃ (Φ54 : PW), Stable Φ54 ∧ Ctx W w51 (R53 ++ R49) Φ54 ∧ (∀ (w55 :
  World) (R56 : List Own), Ctx W w55 (R53 ++ R56) Φ54 → Ctx W w55 (R44 ++ R56) Φ45) ∧ ∀ (w57 : World) (R58 : List Own), Ctx W w57 (R53 ++ R58) Φ54 → Calls Tryz.prog F.value_RowBytes
  #[Value.slice p40 k41 k42] w57 fun (e59 : Ending) (w60 : World) => ∃ (s61 : ByteArray), e59 = Ending.returned (Value.string s61) ∧ ∃ (R62 : List Own), ∃ (Φ63 : PW), Stable Φ63 ∧ Ctx W w60
  (R62 ++ R58) Φ63 ∧ (∀ (w64 : World) (R65 : List Own), Ctx W w64 (R62 ++ R65) Φ63 → Ctx W w64 (R44 ++ R65) Φ45) ∧ ∀ (w66 : World) (R67 : List Own), Ctx W w66 (R62 ++ R67) Φ63 → Calls
  Tryz.prog F.wire_Text #[Value.string s61] w66 fun (e68 : Ending) (w69 : World) => ∃ (s70 : ByteArray), e68 = Ending.returned (Value.string s70) ∧ ∃ (R71 : List Own), ∃ (Φ72 : PW), Stable
  Φ72 ∧ Ctx W w69 (R71 ++ R67) Φ72 ∧ (∀ (w73 : World) (R74 : List Own), Ctx W w73 (R71 ++ R74) Φ72 → Ctx W w73 (R44 ++ R74) Φ45) ∧ (s52.size + s70.size).le 9223372036854775807 ∧ ∀ (w75 :
  World) (R76 : List Own), Ctx W w75 (R71 ++ R76) Φ72 → Calls Tryz.prog F.wire_Int #[Value.int IntKind.i64 n43] w75 fun (e77 : Ending) (w78 : World) => ∃ (s79 : ByteArray), e77 =
  Ending.returned (Value.string s79) ∧ ∃ (R80 : List Own), ∃ (Φ81 : PW), Stable Φ81 ∧ Ctx W w78 (R80 ++ R76) Φ81 ∧ (∀ (w82 : World) (R83 : List Own), Ctx W w82 (R80 ++ R83) Φ81 → Ctx W w82
  (R44 ++ R83) Φ45) ∧ ((s52 ++ s70).size + s79.size).le 9223372036854775807 ∧ ∀ (w84 : World) (R85 : List Own), Ctx W w84 (R80 ++ R85) Φ81 → Calls Tryz.prog F.strings_Builder_WriteString
  #[Value.pointer (some (Addr.mk k9 0 none)), Value.string (s52 ++ s70 ++ s79)] w84 fun (e86 : Ending) (w87 : World) => ∃ (n88 : Int), ∃ (v89 : Value), e86 = Ending.returned (Value.tuple
  #[Value.int IntKind.i64 n88, v89]) ∧ ∃ (R90 : List Own), ∃ (Φ91 : PW), Stable Φ91 ∧ Ctx W w87 (R90 ++ R85) Φ91 ∧ I64 (n31 + 1) ∧ ∃ (R92 : List Own), ∃ (Φ93 : PW), ∃ (k94 : Nat), Stable Φ93
  ∧ (∀ (w95 : World) (R96 : List Own), Ctx W w95 (R90 ++ R96) Φ91 → Ctx W w95 (R92 ++ R96) Φ93) ∧ I25 (n31 + 1) R92 Φ93 k94 ∧ k94 < k34) (∀ (w97 : World) (R98 : List Own), Ctx W w97 (R32 ++
  R98) I33 → Calls Tryz.prog F.strings_Builder_String #[Value.pointer (some (Addr.mk k9 0 none))] w97 fun (e99 : Ending) (w100 : World) => ∃ (s101 : ByteArray), e99 = Ending.returned
  (Value.string s101) ∧ ∃ (R102 : List Own), ∃ (Φ103 : PW), Stable Φ103 ∧ Ctx W w100 (R102 ++ R98) Φ103 ∧ ∀ (w104 : World) (R105 : List Own), Ctx W w104 (R102 ++ R105) Φ103 → J (Value.string
  s101) w104)

theorem Bdelta_Bytes_run (lP : Option Addr) (lN lC : Nat) {W w : World} {R : List Own} {Φ : PW} [Stable Φ] {J : Value → World → Prop} (c : Ctx W w R Φ) (h : Bdelta_Bytes lP lN lC W R Φ J) : Calls Tryz.prog F.delta_Bytes #[.slice lP lN lC] w fun e w' => ∃ v, e = .returned v ∧ J v w' :=
  vcFS_sound (H := { keep := some [0, 2, 3, 4, 6, 13, 14, 15, 16], track := [6], stages := [(7, [.held [(0, true), (3, true), (8, true), (1, true), (4, true), (9, true), (2, false), (5, false), (6, false), (7, true), (10, false)], .stage [11] (some 12)])], loops := [(5, [(15, .one (.int .i64))], [])] }) (by rw [show vcFS Tryz.prog W { keep := some [0, 2, 3, 4, 6, 13, 14, 15, 16], track := [6], stages := [(7, [.held [(0, true), (3, true), (8, true), (1, true), (4, true), (9, true), (2, false), (5, false), (6, false), (7, true), (10, false)], .stage [11] (some 12)])], loops := [(5, [(15, .one (.int .i64))], [])] } F.delta_Bytes #[.slice lP lN lC] R Φ J = Bdelta_Bytes lP lN lC W R Φ J by kernel_rfl]; exact h) c

/-- delta.Read -/
-- loop at region 4: 5 out, 15 ; blocks 
-- known blocks: 6 d
def Bdelta_Read (s : ByteArray) (W : World) (R : List Own) (Φ : PW) (J : Value → World → Prop) : Prop :=
  ∀ (w0 : World) (R1 : List Own), Ctx W w0 (R ++ R1) Φ → Calls Tryz.prog F.wire_Open #[Value.string s] w0 fun (e2 : Ending) (w3 : World) => ∃ (p4 : Option Addr), e2 = Ending.returned
  (Value.pointer p4) ∧ ∃ (R5 : List Own), ∃ (Φ6 : PW), Stable Φ6 ∧ Ctx W w3 (R5 ++ R1) Φ6 ∧ ∀ (w7 : World) (R8 : List Own), Ctx W w7 (R5 ++ R8) Φ6 → Calls Tryz.prog F.wire_Reader_Num
  #[Value.pointer p4] w7 fun (e9 : Ending) (w10 : World) => ∃ (n11 : Int), e9 = Ending.returned (Value.int IntKind.i64 n11) ∧ ∃ (R12 : List Own), ∃ (Φ13 : PW), Stable Φ13 ∧ Ctx W w10 (R12 ++
  R8) Φ13 ∧ exI fun (I14 : Option Addr → Nat → Nat → Int → List Own → PW → Nat → Prop) => (∃ (R15 : List Own), ∃ (Φ16 : PW), ∃ (k17 : Nat), Stable Φ16 ∧ (∀ (w18 : World) (R19 : List Own), Ctx
  W w18 (R12 ++ R19) Φ13 → Ctx W w18 (R15 ++ R19) Φ16) ∧ I14 none 0 0 0 R15 Φ16 k17) ∧ ∀ (p20 : Option Addr) (k21 k22 : Nat) (n23 : Int) (R24 : List Own) (I25 : List Nat → World → Prop) (k26
  : Nat), Stable I25 → I14 p20 k21 k22 n23 R24 I25 k26 → Br (decide (n23 < min n11 (↑s.size : Int))) (∀ (w27 : World) (R28 : List Own), Ctx W w27 (R24 ++ R28) I25 → Calls Tryz.prog
  F.wire_Reader_Int #[Value.pointer p4] w27 fun (e29 : Ending) (w30 : World) => ∃ (n31 : Int), e29 = Ending.returned (Value.int IntKind.i64 n31) ∧ ∃ (R32 : List Own), ∃ (Φ33 : PW), Stable Φ33
  ∧ Ctx W w30 (R32 ++ R28) Φ33 ∧ ∀ (b : Nat) (w34 : World) (R35 : List Own), Ctx W w34 (R32 ++ R35) Φ33 → Calls Tryz.prog F.wire_Reader_Text #[Value.pointer p4] w34 fun (e36 : Ending) (w37 :
  World) => ∃ (s38 : ByteArray), e36 = Ending.returned (Value.string s38) ∧ ∃ (R39 : List Own), ∃ (Φ40 : PW), Stable Φ40 ∧ Ctx W w37 (R39 ++ R35) Φ40 ∧ ∀ (w41 : World) (R42 : List Own), Ctx W
  w41 (R39 ++ R42) Φ40 → Calls Tryz.prog F.value_ReadRow #[Value.string s38] w41 fun (e43 : Ending) (w44 : World) => ∃ (p45 : Option Addr), ∃ (k46 : Nat), ∃ (k47 : Nat), ∃ (c48 : Bool), e43 =
  Ending.returned (Value.tuple #[Value.slice p45 k46 k47, Value.bool c48]) ∧ ∃ (R49 : List Own), ∃ (Φ50 : PW), Stable Φ50 ∧ Ctx W w44 (R49 ++ R42) Φ50 ∧ Br (!c48) (∀ (w51 : World) (R52 : List
  Own), Ctx W w51 (R49 ++ R52) Φ50 → J (Value.tuple #[Value.slice none 0 0, Value.bool false]) w51) (∀ (w53 : World) (R54 : List Own), Ctx W w53 (R49 ++ R54) Φ50 → Calls Tryz.prog
  F.wire_Reader_Int #[Value.pointer p4] w53 fun (e55 : Ending) (w56 : World) => ∃ (n57 : Int), e55 = Ending.returned (Value.int IntKind.i64 n57) ∧ ∃ (R58 : List Own), ∃ (Φ59 : PW), Stable Φ59
  ∧ Ctx W w56 (R58 ++ R54) Φ59 ∧ ∀ (k60 : Nat) (w61 : World) (R62 : List Own), Ctx W w61 (Own.blk k60 [Value.int IntKind.i64 n31, Value.slice p45 k46 k47, Value.int IntKind.i64 n57] 36 :: R58
  ++ R62) Φ59 → ∃ (p63 : Option Addr), ∃ (k64 : Nat), ∃ (k65 : Nat), ∃ (w66 : World), Sem.run Tryz.prog (builtin Builtin.append #[22, 22] 22 #[false, false] #[Value.slice p20 k21 k22,
  Value.slice (some (Addr.mk k60 0 none)) 1 1]) w61 = Result.ok (Next.value (Value.slice p63 k64 k65)) w66 ∧ ∃ (R67 : List Own), ∃ (Φ68 : PW), Stable Φ68 ∧ Ctx W w66 (R67 ++ R62) Φ68 ∧ I64
  (n23 + 1) ∧ ∃ (R69 : List Own), ∃ (Φ70 : PW), ∃ (k71 : Nat), Stable Φ70 ∧ (∀ (w72 : World) (R73 : List Own), Ctx W w72 (R67 ++ R73) Φ68 → Ctx W w72 (R69 ++ R73) Φ70) ∧ I14 p63 k64 k65 (n23
  + 1) R69 Φ70 k71 ∧ k71 < k26)) (∀ (w74 : World) (R75 : List Own), Ctx W w74 (R24 ++ R75) I25 → Calls Tryz.prog F.delta_Consolidated #[Value.slice p20 k21 k22] w74 fun (e76 : Ending) (w77 :
  World) => ∃ (c78 : Bool), e76 = Ending.returned (Value.bool c78) ∧ ∃ (R79 : List Own), ∃ (Φ80 : PW), Stable Φ80 ∧ Ctx W w77 (R79 ++ R75) Φ80 ∧ Br (!c78) (∀ (w81 : World) (R82 : List Own),
  Ctx W w81 (R79 ++ R82) Φ80 → J (Value.tuple #[Value.slice none 0 0, Value.bool false]) w81) (∀ (w83 : World) (R84 : List Own), Ctx W w83 (R79 ++ R84) Φ80 → Calls Tryz.prog F.delta_Bytes
  #[Value.slice p20 k21 k22] w83 fun (e85 : Ending) (w86 : World) => ∃ (s87 : ByteArray), e85 = Ending.returned (Value.string s87) ∧ ∃ (R88 : List Own), ∃ (Φ89 : PW), Stable Φ89 ∧ Ctx W w86
  (R88 ++ R84) Φ89 ∧ Br (decide (s87 ≠ s)) (∀ (w90 : World) (R91 : List Own), Ctx W w90 (R88 ++ R91) Φ89 → J (Value.tuple #[Value.slice none 0 0, Value.bool false]) w90) (∀ (w92 : World) (R93
  : List Own), Ctx W w92 (R88 ++ R93) Φ89 → J (Value.tuple #[Value.slice p20 k21 k22, Value.bool true]) w92)))

theorem Bdelta_Read_run (s : ByteArray) {W w : World} {R : List Own} {Φ : PW} [Stable Φ] {J : Value → World → Prop} (c : Ctx W w R Φ) (h : Bdelta_Read s W R Φ J) : Calls Tryz.prog F.delta_Read #[.string s] w fun e w' => ∃ v, e = .returned v ∧ J v w' :=
  vcFS_sound (H := { keep := some [0, 2, 3, 4, 5, 6, 7, 14, 15, 16, 28, 45], track := [6], split := [13], loops := [(4, [(5, .one (.slice)), (15, .one (.int .i64))], [])] }) (by rw [show vcFS Tryz.prog W { keep := some [0, 2, 3, 4, 5, 6, 7, 14, 15, 16, 28, 45], track := [6], split := [13], loops := [(4, [(5, .one (.slice)), (15, .one (.int .i64))], [])] } F.delta_Read #[.string s] R Φ J = Bdelta_Read s W R Φ J by kernel_rfl]; exact h) c

/-- errataref28.Equal -/
-- loop at region 4: 5 i; blocks 
def Berrataref28_Equal (aP : Option Addr) (aN aC : Nat) (bP : Option Addr) (bN bC : Nat) (W : World) (R : List Own) (Φ : PW) (J : Value → World → Prop) : Prop :=
  Br (decide ((↑aN : Int) ≠ (↑bN : Int))) (∀ (w0 : World) (R1 : List Own), Ctx W w0 (R ++ R1) Φ → J (Value.bool false) w0) (exI fun (I2 : Int → List Own → PW → Nat → Prop) => (∃ (R3 : List
  Own), ∃ (Φ4 : PW), ∃ (k5 : Nat), Stable Φ4 ∧ (∀ (w6 : World) (R7 : List Own), Ctx W w6 (R ++ R7) Φ → Ctx W w6 (R3 ++ R7) Φ4) ∧ I2 0 R3 Φ4 k5) ∧ ∀ (n8 : Int) (R9 : List Own) (I10 : List Nat
  → World → Prop) (k11 : Nat), Stable I10 → I2 n8 R9 I10 k11 → Br (decide (n8 < (↑aN : Int))) (∃ (R12 : List Own), ∃ (Φ13 : PW), Stable Φ13 ∧ (∀ (w14 : World) (R15 : List Own), Ctx W w14 (R9
  ++ R15) I10 → Ctx W w14 (R12 ++ R15) Φ13) ∧ (0 ≤ n8 ∧ n8 < (↑aN : Int)) ∧ ptrK none aP fun (k16 k17 : Nat) => (0 ≤ n8 ∧ n8 < (↑bN : Int)) ∧ ptrK none bP fun (k18 k19 : Nat) => ∃ (n20 :
  Int), ∃ (p21 : Option Addr), ∃ (k22 : Nat), ∃ (k23 : Nat), ∃ (n24 : Int), (∀ (w25 : World) (R26 : List Own), Ctx W w25 (R12 ++ R26) Φ13 → ∃ (n27 : Int), ∃ (p28 : Option Addr), ∃ (k29 :
  Nat), ∃ (k30 : Nat), ∃ (n31 : Int), RowAt w25 k16 (k17 + n8.toNat * 3) [Value.int IntKind.i64 n27, Value.slice p28 k29 k30, Value.int IntKind.i64 n31] ∧ Value.agg #[Value.int IntKind.i64
  n27, Value.slice p28 k29 k30, Value.int IntKind.i64 n31] = Value.agg #[Value.int IntKind.i64 n20, Value.slice p21 k22 k23, Value.int IntKind.i64 n24]) ∧ ∃ (n32 : Int), ∃ (p33 : Option
  Addr), ∃ (k34 : Nat), ∃ (k35 : Nat), ∃ (n36 : Int), (∀ (w37 : World) (R38 : List Own), Ctx W w37 (R12 ++ R38) Φ13 → ∃ (n39 : Int), ∃ (p40 : Option Addr), ∃ (k41 : Nat), ∃ (k42 : Nat), ∃
  (n43 : Int), RowAt w37 k18 (k19 + n8.toNat * 3) [Value.int IntKind.i64 n39, Value.slice p40 k41 k42, Value.int IntKind.i64 n43] ∧ Value.agg #[Value.int IntKind.i64 n39, Value.slice p40 k41
  k42, Value.int IntKind.i64 n43] = Value.agg #[Value.int IntKind.i64 n32, Value.slice p33 k34 k35, Value.int IntKind.i64 n36]) ∧ ∀ (w44 : World) (R45 : List Own), Ctx W w44 (R9 ++ R45) I10 →
  Calls Tryz.prog F.errataref28_Compare #[Value.agg #[Value.int IntKind.i64 n20, Value.slice p21 k22 k23, Value.int IntKind.i64 n24], Value.agg #[Value.int IntKind.i64 n32, Value.slice p33
  k34 k35, Value.int IntKind.i64 n36]] w44 fun (e46 : Ending) (w47 : World) => ∃ (n48 : Int), e46 = Ending.returned (Value.int IntKind.i64 n48) ∧ ∃ (R49 : List Own), ∃ (Φ50 : PW), Stable Φ50
  ∧ Ctx W w47 (R49 ++ R45) Φ50 ∧ Br (decide (n48 ≠ 0)) (∀ (w51 : World) (R52 : List Own), Ctx W w51 (R49 ++ R52) Φ50 → J (Value.bool false) w51) ((0 ≤ n8 ∧ n8 < (↑aN : Int)) ∧ ptrK none aP
  fun (k53 k54 : Nat) => (0 ≤ n8 ∧ n8 < (↑bN : Int)) ∧ ptrK none bP fun (k55 k56 : Nat) => ∀ (w57 : World) (R58 : List Own), Ctx W w57 (R49 ++ R58) Φ50 → ∃ (n59 : Int), w57.cell? (Addr.mk k53
  (k54 + n8.toNat * 3 + 2) none) = some (Value.int IntKind.i64 n59) ∧ ∀ (w60 : World) (R61 : List Own), Ctx W w60 (R49 ++ R61) Φ50 → ∃ (n62 : Int), w60.cell? (Addr.mk k55 (k56 + n8.toNat * 3
  + 2) none) = some (Value.int IntKind.i64 n62) ∧ Br (decide (n59 ≠ n62)) (∀ (w63 : World) (R64 : List Own), Ctx W w63 (R49 ++ R64) Φ50 → J (Value.bool false) w63) (I64 (n8 + 1) ∧ ∃ (R65 :
  List Own), ∃ (Φ66 : PW), ∃ (k67 : Nat), Stable Φ66 ∧ (∀ (w68 : World) (R69 : List Own), Ctx W w68 (R49 ++ R69) Φ50 → Ctx W w68 (R65 ++ R69) Φ66) ∧ I2 (n8 + 1) R65 Φ66 k67 ∧ k67 < k11))) (∀
  (w70 : World) (R71 : List Own), Ctx W w70 (R9 ++ R71) I10 → J (Value.bool true) w70))

theorem Berrataref28_Equal_run (aP : Option Addr) (aN aC : Nat) (bP : Option Addr) (bN bC : Nat) {W w : World} {R : List Own} {Φ : PW} [Stable Φ] {J : Value → World → Prop} (c : Ctx W w R Φ) (h : Berrataref28_Equal aP aN aC bP bN bC W R Φ J) : Calls Tryz.prog F.errataref28_Equal #[.slice aP aN aC, .slice bP bN bC] w fun e w' => ∃ v, e = .returned v ∧ J v w' :=
  vcFS_sound (H := { keep := some [0, 1, 4, 5, 10, 14, 39], stages := [(6, [.held [(0, true), (1, true), (4, true), (5, true), (2, true), (6, true), (3, true), (7, true)], .stage [] (some 8), .stage [9, 10, 11, 12, 16, 17, 13, 18, 14, 19, 15, 20, 21, 22] none])], loops := [(4, [(5, .one (.int .i64))], [])] }) (by rw [show vcFS Tryz.prog W { keep := some [0, 1, 4, 5, 10, 14, 39], stages := [(6, [.held [(0, true), (1, true), (4, true), (5, true), (2, true), (6, true), (3, true), (7, true)], .stage [] (some 8), .stage [9, 10, 11, 12, 16, 17, 13, 18, 14, 19, 15, 20, 21, 22] none])], loops := [(4, [(5, .one (.int .i64))], [])] } F.errataref28_Equal #[.slice aP aN aC, .slice bP bN bC] R Φ J = Berrataref28_Equal aP aN aC bP bN bC W R Φ J by kernel_rfl]; exact h) c

/-- delta.Find -/
-- loop at region 3: 7 n, 12 ; blocks 
-- known blocks: 9 d
def Bdelta_Find (lP : Option Addr) (lN lC : Nat) (time : Int) (rowP : Option Addr) (rowN rowC : Nat) (W : World) (R : List Own) (Φ : PW) (J : Value → World → Prop) : Prop :=
  exI fun (I0 : Int → Int → List Own → PW → Nat → Prop) => (∃ (R1 : List Own), ∃ (Φ2 : PW), ∃ (k3 : Nat), Stable Φ2 ∧ (∀ (w4 : World) (R5 : List Own), Ctx W w4 (R ++ R5) Φ → Ctx W w4 (R1 ++
  R5) Φ2) ∧ I0 0 0 R1 Φ2 k3) ∧ ∀ (n6 n7 : Int) (R8 : List Own) (I9 : List Nat → World → Prop) (k10 : Nat), Stable I9 → I0 n6 n7 R8 I9 k10 → Br (decide (n7 < (↑lN : Int))) ((0 ≤ n7 ∧ n7 < (↑lN
  : Int)) ∧ ptrK none lP fun (k11 k12 : Nat) => ∀ (w13 : World) (R14 : List Own), Ctx W w13 (R8 ++ R14) I9 → ∃ (n15 : Int), ∃ (p16 : Option Addr), ∃ (k17 : Nat), ∃ (k18 : Nat), ∃ (n19 : Int),
  RowAt w13 k11 (k12 + n7.toNat * 3) [Value.int IntKind.i64 n15, Value.slice p16 k17 k18, Value.int IntKind.i64 n19] ∧ ∀ (b : Nat) (w20 : World) (R21 : List Own), Ctx W w20 (R8 ++ R21) I9 →
  Calls Tryz.prog F.delta_compare #[Value.agg #[Value.int IntKind.i64 n15, Value.slice p16 k17 k18, Value.int IntKind.i64 n19], Value.agg #[Value.int IntKind.i64 time, Value.slice rowP rowN
  rowC, Value.int IntKind.i64 0]] w20 fun (e22 : Ending) (w23 : World) => ∃ (n24 : Int), e22 = Ending.returned (Value.int IntKind.i64 n24) ∧ ∃ (R25 : List Own), ∃ (Φ26 : PW), Stable Φ26 ∧ Ctx
  W w23 (R25 ++ R21) Φ26 ∧ Br (decide (n24 = 0)) (I64 (n7 + 1) ∧ ∃ (R27 : List Own), ∃ (Φ28 : PW), ∃ (k29 : Nat), Stable Φ28 ∧ (∀ (w30 : World) (R31 : List Own), Ctx W w30 (R25 ++ R31) Φ26 →
  Ctx W w30 (R27 ++ R31) Φ28) ∧ I0 (IntKind.i64.wrap (n6 + n19)) (n7 + 1) R27 Φ28 k29 ∧ k29 < k10) (I64 (n7 + 1) ∧ ∃ (R32 : List Own), ∃ (Φ33 : PW), ∃ (k34 : Nat), Stable Φ33 ∧ (∀ (w35 :
  World) (R36 : List Own), Ctx W w35 (R25 ++ R36) Φ26 → Ctx W w35 (R32 ++ R36) Φ33) ∧ I0 n6 (n7 + 1) R32 Φ33 k34 ∧ k34 < k10)) (∀ (w37 : World) (R38 : List Own), Ctx W w37 (R8 ++ R38) I9 → J
  (Value.int IntKind.i64 n6) w37)

theorem Bdelta_Find_run (lP : Option Addr) (lN lC : Nat) (time : Int) (rowP : Option Addr) (rowN rowC : Nat) {W w : World} {R : List Own} {Φ : PW} [Stable Φ] {J : Value → World → Prop} (c : Ctx W w R Φ) (h : Bdelta_Find lP lN lC time rowP rowN rowC W R Φ J) : Calls Tryz.prog F.delta_Find #[.slice lP lN lC, .int .i64 time, .slice rowP rowN rowC] w fun e w' => ∃ v, e = .returned v ∧ J v w' :=
  vcFS_sound (H := { keep := some [0, 1, 2, 6, 7, 9, 10, 11, 12, 13, 21], wrap := [25], track := [9], loops := [(3, [(7, .one (.int .i64)), (12, .one (.int .i64))], [])] }) (by rw [show vcFS Tryz.prog W { keep := some [0, 1, 2, 6, 7, 9, 10, 11, 12, 13, 21], wrap := [25], track := [9], loops := [(3, [(7, .one (.int .i64)), (12, .one (.int .i64))], [])] } F.delta_Find #[.slice lP lN lC, .int .i64 time, .slice rowP rowN rowC] R Φ J = Bdelta_Find lP lN lC time rowP rowN rowC W R Φ J by kernel_rfl]; exact h) c

/-- delta.Upto -/
def Bdelta_Upto (lP : Option Addr) (lN lC : Nat) (t : Int) (W : World) (R : List Own) (Φ : PW) (J : Value → World → Prop) : Prop :=
  ∀ (k0 : Nat) (w1 : World) (R2 : List Own), Ctx W w1 (Own.blk k0 [Value.int IntKind.i64 t] 3 :: R ++ R2) Φ → Calls Tryz.prog F.slices_Clone_api_Delta_api_Delta #[Value.slice lP lN lC] w1 fun
  (e3 : Ending) (w4 : World) => ∃ (p5 : Option Addr), ∃ (k6 : Nat), ∃ (k7 : Nat), e3 = Ending.returned (Value.slice p5 k6 k7) ∧ ∃ (R8 : List Own), ∃ (Φ9 : PW), Stable Φ9 ∧ Ctx W w4 (R8 ++ R2)
  Φ9 ∧ ∀ (w10 : World) (R11 : List Own), Ctx W w10 (R8 ++ R11) Φ9 → Calls Tryz.prog F.slices_DeleteFunc_api_Delta_api_Delta #[Value.slice p5 k6 k7, Value.func (Fn.func 36) #[] #[Value.pointer
  (some (Addr.mk k0 0 none))]] w10 fun (e12 : Ending) (w13 : World) => ∃ (p14 : Option Addr), ∃ (k15 : Nat), ∃ (k16 : Nat), e12 = Ending.returned (Value.slice p14 k15 k16) ∧ ∃ (R17 : List
  Own), ∃ (Φ18 : PW), Stable Φ18 ∧ Ctx W w13 (R17 ++ R11) Φ18 ∧ ∀ (w19 : World) (R20 : List Own), Ctx W w19 (R17 ++ R20) Φ18 → Calls Tryz.prog F.delta_Consolidate #[Value.slice p14 k15 k16]
  w19 fun (e21 : Ending) (w22 : World) => ∃ (p23 : Option Addr), ∃ (k24 : Nat), ∃ (k25 : Nat), e21 = Ending.returned (Value.slice p23 k24 k25) ∧ ∃ (R26 : List Own), ∃ (Φ27 : PW), Stable Φ27 ∧
  Ctx W w22 (R26 ++ R20) Φ27 ∧ ∀ (w28 : World) (R29 : List Own), Ctx W w28 (R26 ++ R29) Φ27 → J (Value.slice p23 k24 k25) w28

theorem Bdelta_Upto_run (lP : Option Addr) (lN lC : Nat) (t : Int) {W w : World} {R : List Own} {Φ : PW} [Stable Φ] {J : Value → World → Prop} (c : Ctx W w R Φ) (h : Bdelta_Upto lP lN lC t W R Φ J) : Calls Tryz.prog F.delta_Upto #[.slice lP lN lC, .int .i64 t] w fun e w' => ∃ v, e = .returned v ∧ J v w' :=
  vcFS_sound (H := { keep := some [0, 3, 4, 5] }) (by rw [show vcFS Tryz.prog W { keep := some [0, 3, 4, 5] } F.delta_Upto #[.slice lP lN lC, .int .i64 t] R Φ J = Bdelta_Upto lP lN lC t W R Φ J by kernel_rfl]; exact h) c

/-- delta.After -/
def Bdelta_After (lP : Option Addr) (lN lC : Nat) (t : Int) (W : World) (R : List Own) (Φ : PW) (J : Value → World → Prop) : Prop :=
  ∀ (k0 : Nat) (w1 : World) (R2 : List Own), Ctx W w1 (Own.blk k0 [Value.int IntKind.i64 t] 3 :: R ++ R2) Φ → Calls Tryz.prog F.slices_Clone_api_Delta_api_Delta #[Value.slice lP lN lC] w1 fun
  (e3 : Ending) (w4 : World) => ∃ (p5 : Option Addr), ∃ (k6 : Nat), ∃ (k7 : Nat), e3 = Ending.returned (Value.slice p5 k6 k7) ∧ ∃ (R8 : List Own), ∃ (Φ9 : PW), Stable Φ9 ∧ Ctx W w4 (R8 ++ R2)
  Φ9 ∧ ∀ (w10 : World) (R11 : List Own), Ctx W w10 (R8 ++ R11) Φ9 → Calls Tryz.prog F.slices_DeleteFunc_api_Delta_api_Delta #[Value.slice p5 k6 k7, Value.func (Fn.func 38) #[] #[Value.pointer
  (some (Addr.mk k0 0 none))]] w10 fun (e12 : Ending) (w13 : World) => ∃ (p14 : Option Addr), ∃ (k15 : Nat), ∃ (k16 : Nat), e12 = Ending.returned (Value.slice p14 k15 k16) ∧ ∃ (R17 : List
  Own), ∃ (Φ18 : PW), Stable Φ18 ∧ Ctx W w13 (R17 ++ R11) Φ18 ∧ ∀ (w19 : World) (R20 : List Own), Ctx W w19 (R17 ++ R20) Φ18 → Calls Tryz.prog F.delta_Consolidate #[Value.slice p14 k15 k16]
  w19 fun (e21 : Ending) (w22 : World) => ∃ (p23 : Option Addr), ∃ (k24 : Nat), ∃ (k25 : Nat), e21 = Ending.returned (Value.slice p23 k24 k25) ∧ ∃ (R26 : List Own), ∃ (Φ27 : PW), Stable Φ27 ∧
  Ctx W w22 (R26 ++ R20) Φ27 ∧ ∀ (w28 : World) (R29 : List Own), Ctx W w28 (R26 ++ R29) Φ27 → J (Value.slice p23 k24 k25) w28

theorem Bdelta_After_run (lP : Option Addr) (lN lC : Nat) (t : Int) {W w : World} {R : List Own} {Φ : PW} [Stable Φ] {J : Value → World → Prop} (c : Ctx W w R Φ) (h : Bdelta_After lP lN lC t W R Φ J) : Calls Tryz.prog F.delta_After #[.slice lP lN lC, .int .i64 t] w fun e w' => ∃ v, e = .returned v ∧ J v w' :=
  vcFS_sound (H := { keep := some [0, 3, 4, 5] }) (by rw [show vcFS Tryz.prog W { keep := some [0, 3, 4, 5] } F.delta_After #[.slice lP lN lC, .int .i64 t] R Φ J = Bdelta_After lP lN lC t W R Φ J by kernel_rfl]; exact h) c

/-- (*strings.Builder).WriteString -/
def Bstrings_Builder_WriteString (bB bO : Nat) (s : ByteArray) (W : World) (R : List Own) (Φ : PW) (J : Value → World → Prop) : Prop :=
  ∀ (w0 : World) (R1 : List Own), Ctx W w0 (R ++ R1) Φ → Calls Tryz.prog F.strings_Builder_copyCheck #[Value.pointer (some (Addr.mk bB bO none))] w0 fun (e2 : Ending) (w3 : World) => e2 =
  Ending.returned (Value.tuple #[]) ∧ ∃ (R4 : List Own), ∃ (Φ5 : PW), Stable Φ5 ∧ Ctx W w3 (R4 ++ R1) Φ5 ∧ ∀ (w6 : World) (R7 : List Own), Ctx W w6 (R4 ++ R7) Φ5 → ∃ (p8 : Option Addr), ∃ (k9
  : Nat), ∃ (k10 : Nat), w6.cell? (Addr.mk bB (bO + 1) none) = some (Value.slice p8 k9 k10) ∧ ∀ (w11 : World) (R12 : List Own), Ctx W w11 (R4 ++ R12) Φ5 → ∃ (p13 : Option Addr), ∃ (k14 :
  Nat), ∃ (k15 : Nat), ∃ (w16 : World), Sem.run Tryz.prog (builtin Builtin.append #[42, 9] 42 #[false, false] #[Value.slice p8 k9 k10, Value.string s]) w11 = Result.ok (Next.value
  (Value.slice p13 k14 k15)) w16 ∧ ∃ (R17 : List Own), ∃ (Φ18 : PW), Stable Φ18 ∧ Ctx W w16 (R17 ++ R12) Φ18 ∧ ∀ (w19 : World) (R20 : List Own), Ctx W w19 (R17 ++ R20) Φ18 → CanWrite w19 bB
  (bO + 1) 1 ∧ ∀ (w21 : World), w21 = w19.setCell (Addr.mk bB (bO + 1) none) (Value.slice p13 k14 k15) → ∃ (R22 : List Own), ∃ (Φ23 : PW), Stable Φ23 ∧ Ctx W w21 (R22 ++ R20) Φ23 ∧ ∀ (w24 :
  World) (R25 : List Own), Ctx W w24 (R22 ++ R25) Φ23 → J (Value.tuple #[Value.int IntKind.i64 (↑s.size : Int), Value.nilIface]) w24

theorem Bstrings_Builder_WriteString_run (bB bO : Nat) (s : ByteArray) {W w : World} {R : List Own} {Φ : PW} [Stable Φ] {J : Value → World → Prop} (c : Ctx W w R Φ) (h : Bstrings_Builder_WriteString bB bO s W R Φ J) : Calls Tryz.prog F.strings_Builder_WriteString #[.pointer (some ⟨bB, bO, none⟩), .string s] w fun e w' => ∃ v, e = .returned v ∧ J v w' :=
  vcFS_sound (H := { keep := some [0, 1, 4, 5] }) (by rw [show vcFS Tryz.prog W { keep := some [0, 1, 4, 5] } F.strings_Builder_WriteString #[.pointer (some ⟨bB, bO, none⟩), .string s] R Φ J = Bstrings_Builder_WriteString bB bO s W R Φ J by kernel_rfl]; exact h) c

/-- wire.Num -/
def Bwire_Num (n : Int) (W : World) (R : List Own) (Φ : PW) (J : Value → World → Prop) : Prop :=
  Br (decide (n < 0)) (∀ (w0 : World) (R1 : List Own), Ctx W w0 (R ++ R1) Φ → J (Value.string (ByteArray.mk #[])) w0) (∀ (w2 : World) (R3 : List Own), Ctx W w2 (R ++ R3) Φ → Calls Tryz.prog
  F.wire_Int #[Value.int IntKind.i64 n] w2 fun (e4 : Ending) (w5 : World) => ∃ (s6 : ByteArray), e4 = Ending.returned (Value.string s6) ∧ ∃ (R7 : List Own), ∃ (Φ8 : PW), Stable Φ8 ∧ Ctx W w5
  (R7 ++ R3) Φ8 ∧ ∀ (w9 : World) (R10 : List Own), Ctx W w9 (R7 ++ R10) Φ8 → J (Value.string s6) w9)

theorem Bwire_Num_run (n : Int) {W w : World} {R : List Own} {Φ : PW} [Stable Φ] {J : Value → World → Prop} (c : Ctx W w R Φ) (h : Bwire_Num n W R Φ J) : Calls Tryz.prog F.wire_Num #[.int .i64 n] w fun e w' => ∃ v, e = .returned v ∧ J v w' :=
  vcFS_sound (H := { keep := some [0, 2, 4] }) (by rw [show vcFS Tryz.prog W { keep := some [0, 2, 4] } F.wire_Num #[.int .i64 n] R Φ J = Bwire_Num n W R Φ J by kernel_rfl]; exact h) c

/-- wire.Int -/
def Bwire_Int (n : Int) (W : World) (R : List Own) (Φ : PW) (J : Value → World → Prop) : Prop :=
  ∀ (w0 : World) (R1 : List Own), Ctx W w0 (R ++ R1) Φ → Calls Tryz.prog F.strconv_Itoa #[Value.int IntKind.i64 n] w0 fun (e2 : Ending) (w3 : World) => ∃ (s4 : ByteArray), e2 =
  Ending.returned (Value.string s4) ∧ ∃ (R5 : List Own), ∃ (Φ6 : PW), Stable Φ6 ∧ Ctx W w3 (R5 ++ R1) Φ6 ∧ (s4.size + (ByteArray.mk #[OfNat.ofNat 59]).size).le 9223372036854775807 ∧ ∀ (w7 :
  World) (R8 : List Own), Ctx W w7 (R5 ++ R8) Φ6 → J (Value.string (s4 ++ ByteArray.mk #[OfNat.ofNat 59])) w7

theorem Bwire_Int_run (n : Int) {W w : World} {R : List Own} {Φ : PW} [Stable Φ] {J : Value → World → Prop} (c : Ctx W w R Φ) (h : Bwire_Int n W R Φ J) : Calls Tryz.prog F.wire_Int #[.int .i64 n] w fun e w' => ∃ v, e = .returned v ∧ J v w' :=
  vcFS_sound (H := { keep := some [0, 2] }) (by rw [show vcFS Tryz.prog W { keep := some [0, 2] } F.wire_Int #[.int .i64 n] R Φ J = Bwire_Int n W R Φ J by kernel_rfl]; exact h) c

/-- wire.Text -/
def Bwire_Text (s : ByteArray) (W : World) (R : List Own) (Φ : PW) (J : Value → World → Prop) : Prop :=
  ∀ (w0 : World) (R1 : List Own), Ctx W w0 (R ++ R1) Φ → Calls Tryz.prog F.strconv_Itoa #[Value.int IntKind.i64 (↑s.size : Int)] w0 fun (e2 : Ending) (w3 : World) => ∃ (s4 : ByteArray), e2 =
  Ending.returned (Value.string s4) ∧ ∃ (R5 : List Own), ∃ (Φ6 : PW), Stable Φ6 ∧ Ctx W w3 (R5 ++ R1) Φ6 ∧ (s4.size + (ByteArray.mk #[OfNat.ofNat 58]).size).le 9223372036854775807 ∧ ((s4 ++
  ByteArray.mk #[OfNat.ofNat 58]).size + s.size).le 9223372036854775807 ∧ ((s4 ++ ByteArray.mk #[OfNat.ofNat 58] ++ s).size + (ByteArray.mk #[OfNat.ofNat 44]).size).le 9223372036854775807 ∧ ∀
  (w7 : World) (R8 : List Own), Ctx W w7 (R5 ++ R8) Φ6 → J (Value.string (s4 ++ ByteArray.mk #[OfNat.ofNat 58] ++ s ++ ByteArray.mk #[OfNat.ofNat 44])) w7

theorem Bwire_Text_run (s : ByteArray) {W w : World} {R : List Own} {Φ : PW} [Stable Φ] {J : Value → World → Prop} (c : Ctx W w R Φ) (h : Bwire_Text s W R Φ J) : Calls Tryz.prog F.wire_Text #[.string s] w fun e w' => ∃ v, e = .returned v ∧ J v w' :=
  vcFS_sound (H := { keep := some [0, 2] }) (by rw [show vcFS Tryz.prog W { keep := some [0, 2] } F.wire_Text #[.string s] R Φ J = Bwire_Text s W R Φ J by kernel_rfl]; exact h) c

/-- value.RowBytes -/
-- loop at region 4: 12 ; blocks 
-- known blocks: 5 v
def Bvalue_RowBytes (rP : Option Addr) (rN rC : Nat) (W : World) (R : List Own) (Φ : PW) (J : Value → World → Prop) : Prop :=
  ∀ (k0 : Nat) (w1 : World) (R2 : List Own), Ctx W w1 (Own.blk k0 [Value.pointer none, Value.slice none 0 0] 44 :: R ++ R2) Φ → Calls Tryz.prog F.wire_Num #[Value.int IntKind.i64 (↑rN : Int)]
  w1 fun (e3 : Ending) (w4 : World) => ∃ (s5 : ByteArray), e3 = Ending.returned (Value.string s5) ∧ ∃ (R6 : List Own), ∃ (Φ7 : PW), Stable Φ7 ∧ Ctx W w4 (R6 ++ R2) Φ7 ∧ ∀ (w8 : World) (R9 :
  List Own), Ctx W w8 (R6 ++ R9) Φ7 → Calls Tryz.prog F.strings_Builder_WriteString #[Value.pointer (some (Addr.mk k0 0 none)), Value.string s5] w8 fun (e10 : Ending) (w11 : World) => ∃ (n12
  : Int), ∃ (v13 : Value), e10 = Ending.returned (Value.tuple #[Value.int IntKind.i64 n12, v13]) ∧ ∃ (R14 : List Own), ∃ (Φ15 : PW), Stable Φ15 ∧ Ctx W w11 (R14 ++ R9) Φ15 ∧ exI fun (I16 :
  Int → List Own → PW → Nat → Prop) => (∃ (R17 : List Own), ∃ (Φ18 : PW), ∃ (k19 : Nat), Stable Φ18 ∧ (∀ (w20 : World) (R21 : List Own), Ctx W w20 (R14 ++ R21) Φ15 → Ctx W w20 (R17 ++ R21)
  Φ18) ∧ I16 0 R17 Φ18 k19) ∧ ∀ (n22 : Int) (R23 : List Own) (I24 : List Nat → World → Prop) (k25 : Nat), Stable I24 → I16 n22 R23 I24 k25 → Br (decide (n22 < (↑rN : Int))) ((0 ≤ n22 ∧ n22 <
  (↑rN : Int)) ∧ ptrK none rP fun (k26 k27 : Nat) => ∀ (w28 : World) (R29 : List Own), Ctx W w28 (R23 ++ R29) I24 → ∃ (n30 : Int), ∃ (n31 : Int), ∃ (s32 : ByteArray), RowAt w28 k26 (k27 +
  n22.toNat * 3) [Value.int IntKind.i64 n30, Value.int IntKind.i64 n31, Value.string s32] ∧ ∀ (b : Nat) (w33 : World) (R34 : List Own), Ctx W w33 (R23 ++ R34) I24 → Calls Tryz.prog
  F.value_Bytes #[Value.agg #[Value.int IntKind.i64 n30, Value.int IntKind.i64 n31, Value.string s32]] w33 fun (e35 : Ending) (w36 : World) => ∃ (s37 : ByteArray), e35 = Ending.returned
  (Value.string s37) ∧ ∃ (R38 : List Own), ∃ (Φ39 : PW), Stable Φ39 ∧ Ctx W w36 (R38 ++ R34) Φ39 ∧ ∀ (w40 : World) (R41 : List Own), Ctx W w40 (R38 ++ R41) Φ39 → Calls Tryz.prog
  F.strings_Builder_WriteString #[Value.pointer (some (Addr.mk k0 0 none)), Value.string s37] w40 fun (e42 : Ending) (w43 : World) => ∃ (n44 : Int), ∃ (v45 : Value), e42 = Ending.returned
  (Value.tuple #[Value.int IntKind.i64 n44, v45]) ∧ ∃ (R46 : List Own), ∃ (Φ47 : PW), Stable Φ47 ∧ Ctx W w43 (R46 ++ R41) Φ47 ∧ I64 (n22 + 1) ∧ ∃ (R48 : List Own), ∃ (Φ49 : PW), ∃ (k50 :
  Nat), Stable Φ49 ∧ (∀ (w51 : World) (R52 : List Own), Ctx W w51 (R46 ++ R52) Φ47 → Ctx W w51 (R48 ++ R52) Φ49) ∧ I16 (n22 + 1) R48 Φ49 k50 ∧ k50 < k25) (∀ (w53 : World) (R54 : List Own),
  Ctx W w53 (R23 ++ R54) I24 → Calls Tryz.prog F.strings_Builder_String #[Value.pointer (some (Addr.mk k0 0 none))] w53 fun (e55 : Ending) (w56 : World) => ∃ (s57 : ByteArray), e55 =
  Ending.returned (Value.string s57) ∧ ∃ (R58 : List Own), ∃ (Φ59 : PW), Stable Φ59 ∧ Ctx W w56 (R58 ++ R54) Φ59 ∧ ∀ (w60 : World) (R61 : List Own), Ctx W w60 (R58 ++ R61) Φ59 → J
  (Value.string s57) w60)

theorem Bvalue_RowBytes_run (rP : Option Addr) (rN rC : Nat) {W w : World} {R : List Own} {Φ : PW} [Stable Φ] {J : Value → World → Prop} (c : Ctx W w R Φ) (h : Bvalue_RowBytes rP rN rC W R Φ J) : Calls Tryz.prog F.value_RowBytes #[.slice rP rN rC] w fun e w' => ∃ v, e = .returned v ∧ J v w' :=
  vcFS_sound (H := { keep := some [0, 2, 3, 5, 10, 11, 12, 13], track := [5], loops := [(4, [(12, .one (.int .i64))], [])] }) (by rw [show vcFS Tryz.prog W { keep := some [0, 2, 3, 5, 10, 11, 12, 13], track := [5], loops := [(4, [(12, .one (.int .i64))], [])] } F.value_RowBytes #[.slice rP rN rC] R Φ J = Bvalue_RowBytes rP rN rC W R Φ J by kernel_rfl]; exact h) c

/-- wire.Open -/
def Bwire_Open (s : ByteArray) (W : World) (R : List Own) (Φ : PW) (J : Value → World → Prop) : Prop :=
  ∀ (k0 : Nat) (w1 : World) (R2 : List Own), Ctx W w1 (Own.blk k0 [Value.string s, Value.bool false] 69 :: R ++ R2) Φ → J (Value.pointer (some (Addr.mk k0 0 none))) w1

theorem Bwire_Open_run (s : ByteArray) {W w : World} {R : List Own} {Φ : PW} [Stable Φ] {J : Value → World → Prop} (c : Ctx W w R Φ) (h : Bwire_Open s W R Φ J) : Calls Tryz.prog F.wire_Open #[.string s] w fun e w' => ∃ v, e = .returned v ∧ J v w' :=
  vcFS_sound (H := { keep := some [0, 2] }) (by rw [show vcFS Tryz.prog W { keep := some [0, 2] } F.wire_Open #[.string s] R Φ J = Bwire_Open s W R Φ J by kernel_rfl]; exact h) c

/-- (*wire.Reader).Num -/
def Bwire_Reader_Num (rB rO : Nat) (W : World) (R : List Own) (Φ : PW) (J : Value → World → Prop) : Prop :=
  ∀ (w0 : World) (R1 : List Own), Ctx W w0 (R ++ R1) Φ → Calls Tryz.prog F.wire_Reader_number #[Value.pointer (some (Addr.mk rB rO none)), Value.int IntKind.u8 59, Value.int IntKind.i64 0] w0
  fun (e2 : Ending) (w3 : World) => ∃ (n4 : Int), e2 = Ending.returned (Value.int IntKind.i64 n4) ∧ ∃ (R5 : List Own), ∃ (Φ6 : PW), Stable Φ6 ∧ Ctx W w3 (R5 ++ R1) Φ6 ∧ ∀ (w7 : World) (R8 :
  List Own), Ctx W w7 (R5 ++ R8) Φ6 → J (Value.int IntKind.i64 n4) w7

theorem Bwire_Reader_Num_run (rB rO : Nat) {W w : World} {R : List Own} {Φ : PW} [Stable Φ] {J : Value → World → Prop} (c : Ctx W w R Φ) (h : Bwire_Reader_Num rB rO W R Φ J) : Calls Tryz.prog F.wire_Reader_Num #[.pointer (some ⟨rB, rO, none⟩)] w fun e w' => ∃ v, e = .returned v ∧ J v w' :=
  vcFS_sound (H := { keep := some [0, 2] }) (by rw [show vcFS Tryz.prog W { keep := some [0, 2] } F.wire_Reader_Num #[.pointer (some ⟨rB, rO, none⟩)] R Φ J = Bwire_Reader_Num rB rO W R Φ J by kernel_rfl]; exact h) c

/-- (*wire.Reader).Int -/
def Bwire_Reader_Int (rB rO : Nat) (W : World) (R : List Own) (Φ : PW) (J : Value → World → Prop) : Prop :=
  ∀ (w0 : World) (R1 : List Own), Ctx W w0 (R ++ R1) Φ → Calls Tryz.prog F.wire_Reader_number #[Value.pointer (some (Addr.mk rB rO none)), Value.int IntKind.u8 59, Value.int IntKind.i64
  (-9223372036854775808)] w0 fun (e2 : Ending) (w3 : World) => ∃ (n4 : Int), e2 = Ending.returned (Value.int IntKind.i64 n4) ∧ ∃ (R5 : List Own), ∃ (Φ6 : PW), Stable Φ6 ∧ Ctx W w3 (R5 ++ R1)
  Φ6 ∧ ∀ (w7 : World) (R8 : List Own), Ctx W w7 (R5 ++ R8) Φ6 → J (Value.int IntKind.i64 n4) w7

theorem Bwire_Reader_Int_run (rB rO : Nat) {W w : World} {R : List Own} {Φ : PW} [Stable Φ] {J : Value → World → Prop} (c : Ctx W w R Φ) (h : Bwire_Reader_Int rB rO W R Φ J) : Calls Tryz.prog F.wire_Reader_Int #[.pointer (some ⟨rB, rO, none⟩)] w fun e w' => ∃ v, e = .returned v ∧ J v w' :=
  vcFS_sound (H := { keep := some [0, 2] }) (by rw [show vcFS Tryz.prog W { keep := some [0, 2] } F.wire_Reader_Int #[.pointer (some ⟨rB, rO, none⟩)] R Φ J = Bwire_Reader_Int rB rO W R Φ J by kernel_rfl]; exact h) c

/-- value.ReadRow -/
-- loop at region 4: 5 out, 6 n; blocks 
def Bvalue_ReadRow (s : ByteArray) (W : World) (R : List Own) (Φ : PW) (J : Value → World → Prop) : Prop :=
  ∀ (w0 : World) (R1 : List Own), Ctx W w0 (R ++ R1) Φ → Calls Tryz.prog F.wire_Open #[Value.string s] w0 fun (e2 : Ending) (w3 : World) => ∃ (p4 : Option Addr), e2 = Ending.returned
  (Value.pointer p4) ∧ ∃ (R5 : List Own), ∃ (Φ6 : PW), Stable Φ6 ∧ Ctx W w3 (R5 ++ R1) Φ6 ∧ ∀ (w7 : World) (R8 : List Own), Ctx W w7 (R5 ++ R8) Φ6 → Calls Tryz.prog F.wire_Reader_Num
  #[Value.pointer p4] w7 fun (e9 : Ending) (w10 : World) => ∃ (n11 : Int), e9 = Ending.returned (Value.int IntKind.i64 n11) ∧ ∃ (R12 : List Own), ∃ (Φ13 : PW), Stable Φ13 ∧ Ctx W w10 (R12 ++
  R8) Φ13 ∧ exI fun (I14 : Option Addr → Nat → Nat → Int → List Own → PW → Nat → Prop) => (∃ (R15 : List Own), ∃ (Φ16 : PW), ∃ (k17 : Nat), Stable Φ16 ∧ (∀ (w18 : World) (R19 : List Own), Ctx
  W w18 (R12 ++ R19) Φ13 → Ctx W w18 (R15 ++ R19) Φ16) ∧ I14 none 0 0 n11 R15 Φ16 k17) ∧ ∀ (p20 : Option Addr) (k21 k22 : Nat) (n23 : Int) (R24 : List Own) (I25 : List Nat → World → Prop)
  (k26 : Nat), Stable I25 → I14 p20 k21 k22 n23 R24 I25 k26 → Br (decide (0 < n23)) (∀ (w27 : World) (R28 : List Own), Ctx W w27 (R24 ++ R28) I25 → Calls Tryz.prog F.wire_Reader_Left
  #[Value.pointer p4] w27 fun (e29 : Ending) (w30 : World) => ∃ (n31 : Int), e29 = Ending.returned (Value.int IntKind.i64 n31) ∧ ∃ (R32 : List Own), ∃ (Φ33 : PW), Stable Φ33 ∧ Ctx W w30 (R32
  ++ R28) Φ33 ∧ Br (decide (n31 = 0)) (∀ (w34 : World) (R35 : List Own), Ctx W w34 (R32 ++ R35) Φ33 → J (Value.tuple #[Value.slice none 0 0, Value.bool false]) w34) (∀ (w36 : World) (R37 :
  List Own), Ctx W w36 (R32 ++ R37) Φ33 → Calls Tryz.prog F.value_take #[Value.pointer p4] w36 fun (e38 : Ending) (w39 : World) => ∃ (n40 : Int), ∃ (n41 : Int), ∃ (s42 : ByteArray), e38 =
  Ending.returned (Value.agg #[Value.int IntKind.i64 n40, Value.int IntKind.i64 n41, Value.string s42]) ∧ ∃ (R43 : List Own), ∃ (Φ44 : PW), Stable Φ44 ∧ Ctx W w39 (R43 ++ R37) Φ44 ∧ ∀ (k45 :
  Nat) (w46 : World) (R47 : List Own), Ctx W w46 (Own.blk k45 [Value.int IntKind.i64 n40, Value.int IntKind.i64 n41, Value.string s42] 33 :: R43 ++ R47) Φ44 → ∃ (p48 : Option Addr), ∃ (k49 :
  Nat), ∃ (k50 : Nat), ∃ (w51 : World), Sem.run Tryz.prog (builtin Builtin.append #[34, 34] 34 #[false, false] #[Value.slice p20 k21 k22, Value.slice (some (Addr.mk k45 0 none)) 1 1]) w46 =
  Result.ok (Next.value (Value.slice p48 k49 k50)) w51 ∧ ∃ (R52 : List Own), ∃ (Φ53 : PW), Stable Φ53 ∧ Ctx W w51 (R52 ++ R47) Φ53 ∧ I64 (n23 - 1) ∧ ∃ (R54 : List Own), ∃ (Φ55 : PW), ∃ (k56 :
  Nat), Stable Φ55 ∧ (∀ (w57 : World) (R58 : List Own), Ctx W w57 (R52 ++ R58) Φ53 → Ctx W w57 (R54 ++ R58) Φ55) ∧ I14 p48 k49 k50 (n23 - 1) R54 Φ55 k56 ∧ k56 < k26)) (∀ (w59 : World) (R60 :
  List Own), Ctx W w59 (R24 ++ R60) I25 → Calls Tryz.prog F.wire_Reader_Done #[Value.pointer p4] w59 fun (e61 : Ending) (w62 : World) => ∃ (c63 : Bool), e61 = Ending.returned (Value.bool c63)
  ∧ ∃ (R64 : List Own), ∃ (Φ65 : PW), Stable Φ65 ∧ Ctx W w62 (R64 ++ R60) Φ65 ∧ Br (!c63) (∀ (w66 : World) (R67 : List Own), Ctx W w66 (R64 ++ R67) Φ65 → J (Value.tuple #[Value.slice none 0
  0, Value.bool false]) w66) (∀ (w68 : World) (R69 : List Own), Ctx W w68 (R64 ++ R69) Φ65 → J (Value.tuple #[Value.slice p20 k21 k22, Value.bool true]) w68))

theorem Bvalue_ReadRow_run (s : ByteArray) {W w : World} {R : List Own} {Φ : PW} [Stable Φ] {J : Value → World → Prop} (c : Ctx W w R Φ) (h : Bvalue_ReadRow s W R Φ J) : Calls Tryz.prog F.value_ReadRow #[.string s] w fun e w' => ∃ v, e = .returned v ∧ J v w' :=
  vcFS_sound (H := { keep := some [0, 2, 3, 4, 5, 6, 12, 17, 25], loops := [(4, [(5, .one (.slice)), (6, .one (.int .i64))], [])] }) (by rw [show vcFS Tryz.prog W { keep := some [0, 2, 3, 4, 5, 6, 12, 17, 25], loops := [(4, [(5, .one (.slice)), (6, .one (.int .i64))], [])] } F.value_ReadRow #[.string s] R Φ J = Bvalue_ReadRow s W R Φ J by kernel_rfl]; exact h) c

/-- (*wire.Reader).Text -/
def Bwire_Reader_Text (rB rO : Nat) (W : World) (R : List Own) (Φ : PW) (J : Value → World → Prop) : Prop :=
  ∀ (w0 : World) (R1 : List Own), Ctx W w0 (R ++ R1) Φ → Calls Tryz.prog F.wire_Reader_number #[Value.pointer (some (Addr.mk rB rO none)), Value.int IntKind.u8 58, Value.int IntKind.i64 0] w0
  fun (e2 : Ending) (w3 : World) => ∃ (n4 : Int), e2 = Ending.returned (Value.int IntKind.i64 n4) ∧ ∃ (R5 : List Own), ∃ (Φ6 : PW), Stable Φ6 ∧ Ctx W w3 (R5 ++ R1) Φ6 ∧ ∀ (w7 : World) (R8 :
  List Own), Ctx W w7 (R5 ++ R8) Φ6 → ∃ (s9 : ByteArray), w7.cell? (Addr.mk rB rO none) = some (Value.string s9) ∧ Br (decide ((↑s9.size : Int) < n4)) (∀ (w10 : World) (R11 : List Own), Ctx W
  w10 (R5 ++ R11) Φ6 → Calls Tryz.prog F.wire_Reader_fail #[Value.pointer (some (Addr.mk rB rO none))] w10 fun (e12 : Ending) (w13 : World) => e12 = Ending.returned (Value.tuple #[]) ∧ ∃ (R14
  : List Own), ∃ (Φ15 : PW), Stable Φ15 ∧ Ctx W w13 (R14 ++ R11) Φ15 ∧ ∀ (w16 : World) (R17 : List Own), Ctx W w16 (R14 ++ R17) Φ15 → J (Value.string (ByteArray.mk #[])) w16) (∀ (w18 : World)
  (R19 : List Own), Ctx W w18 (R5 ++ R19) Φ6 → ∃ (s20 : ByteArray), w18.cell? (Addr.mk rB rO none) = some (Value.string s20) ∧ (0 ≤ n4 ∧ n4 ≤ (↑s20.size : Int)) ∧ ∀ (w21 : World) (R22 : List
  Own), Ctx W w21 (R5 ++ R22) Φ6 → ∃ (s23 : ByteArray), w21.cell? (Addr.mk rB rO none) = some (Value.string s23) ∧ (0 ≤ n4 ∧ n4 ≤ (↑s23.size : Int) ∧ s23.size ≤ s23.size) ∧ ∀ (w24 : World)
  (R25 : List Own), Ctx W w24 (R5 ++ R25) Φ6 → CanWrite w24 rB rO 1 ∧ ∀ (w26 : World), w26 = w24.setCell (Addr.mk rB rO none) (Value.string (s23.extract n4.toNat s23.size)) → ∃ (R27 : List
  Own), ∃ (Φ28 : PW), Stable Φ28 ∧ Ctx W w26 (R27 ++ R25) Φ28 ∧ ∀ (w29 : World) (R30 : List Own), Ctx W w29 (R27 ++ R30) Φ28 → Calls Tryz.prog F.wire_Reader_close #[Value.pointer (some
  (Addr.mk rB rO none)), Value.string (ByteArray.mk #[OfNat.ofNat 44])] w29 fun (e31 : Ending) (w32 : World) => e31 = Ending.returned (Value.tuple #[]) ∧ ∃ (R33 : List Own), ∃ (Φ34 : PW),
  Stable Φ34 ∧ Ctx W w32 (R33 ++ R30) Φ34 ∧ ∀ (w35 : World) (R36 : List Own), Ctx W w35 (R33 ++ R36) Φ34 → ∃ (c37 : Bool), w35.cell? (Addr.mk rB (rO + 1) none) = some (Value.bool c37) ∧ Br
  c37 (∀ (w38 : World) (R39 : List Own), Ctx W w38 (R33 ++ R39) Φ34 → J (Value.string (ByteArray.mk #[])) w38) (∀ (w40 : World) (R41 : List Own), Ctx W w40 (R33 ++ R41) Φ34 → J (Value.string
  (s20.extract 0 n4.toNat)) w40))

theorem Bwire_Reader_Text_run (rB rO : Nat) {W w : World} {R : List Own} {Φ : PW} [Stable Φ] {J : Value → World → Prop} (c : Ctx W w R Φ) (h : Bwire_Reader_Text rB rO W R Φ J) : Calls Tryz.prog F.wire_Reader_Text #[.pointer (some ⟨rB, rO, none⟩)] w fun e w' => ∃ v, e = .returned v ∧ J v w' :=
  vcFS_sound (H := { keep := some [0, 2, 3, 4, 13, 36] }) (by rw [show vcFS Tryz.prog W { keep := some [0, 2, 3, 4, 13, 36] } F.wire_Reader_Text #[.pointer (some ⟨rB, rO, none⟩)] R Φ J = Bwire_Reader_Text rB rO W R Φ J by kernel_rfl]; exact h) c

/-- errataref28.Compare -/
-- known blocks: 2 a, 3 b
def Berrataref28_Compare (a0 : Int) (a1P : Option Addr) (a1N a1C : Nat) (a2 : Int) (b0 : Int) (b1P : Option Addr) (b1N b1C : Nat) (b2 : Int) (W : World) (R : List Own) (Φ : PW) (J : Value → World → Prop) : Prop :=
  ∀ (b b : Nat), Br (decide (a0 < b0)) (∀ (w0 : World) (R1 : List Own), Ctx W w0 (R ++ R1) Φ → J (Value.int IntKind.i64 (-1)) w0) (Br (decide (b0 < a0)) (∀ (w2 : World) (R3 : List Own), Ctx W
  w2 (R ++ R3) Φ → J (Value.int IntKind.i64 1) w2) (∀ (w4 : World) (R5 : List Own), Ctx W w4 (R ++ R5) Φ → Calls Tryz.prog F.errataref03_CompareRows #[Value.slice a1P a1N a1C, Value.slice b1P
  b1N b1C] w4 fun (e6 : Ending) (w7 : World) => ∃ (n8 : Int), e6 = Ending.returned (Value.int IntKind.i64 n8) ∧ ∃ (R9 : List Own), ∃ (Φ10 : PW), Stable Φ10 ∧ Ctx W w7 (R9 ++ R5) Φ10 ∧ ∀ (w11
  : World) (R12 : List Own), Ctx W w11 (R9 ++ R12) Φ10 → J (Value.int IntKind.i64 n8) w11))

theorem Berrataref28_Compare_run (a0 : Int) (a1P : Option Addr) (a1N a1C : Nat) (a2 : Int) (b0 : Int) (b1P : Option Addr) (b1N b1C : Nat) (b2 : Int) {W w : World} {R : List Own} {Φ : PW} [Stable Φ] {J : Value → World → Prop} (c : Ctx W w R Φ) (h : Berrataref28_Compare a0 a1P a1N a1C a2 b0 b1P b1N b1C b2 W R Φ J) : Calls Tryz.prog F.errataref28_Compare #[.agg #[.int .i64 a0, .slice a1P a1N a1C, .int .i64 a2], .agg #[.int .i64 b0, .slice b1P b1N b1C, .int .i64 b2]] w fun e w' => ∃ v, e = .returned v ∧ J v w' :=
  vcFS_sound (H := { keep := some [2, 3, 4, 9, 14], track := [2, 3] }) (by rw [show vcFS Tryz.prog W { keep := some [2, 3, 4, 9, 14], track := [2, 3] } F.errataref28_Compare #[.agg #[.int .i64 a0, .slice a1P a1N a1C, .int .i64 a2], .agg #[.int .i64 b0, .slice b1P b1N b1C, .int .i64 b2]] R Φ J = Berrataref28_Compare a0 a1P a1N a1C a2 b0 b1P b1N b1C b2 W R Φ J by kernel_rfl]; exact h) c

/-- delta.Upto$1 -/
-- known blocks: 2 d
def Bdelta_Upto_1 (d0 : Int) (d1P : Option Addr) (d1N d1C : Nat) (d2 : Int) (kB kO : Nat) (W : World) (R : List Own) (Φ : PW) (J : Value → World → Prop) : Prop :=
  ∀ (b : Nat) (w0 : World) (R1 : List Own), Ctx W w0 (R ++ R1) Φ → ∃ (n2 : Int), w0.cell? (Addr.mk kB kO none) = some (Value.int IntKind.i64 n2) ∧ ∀ (w3 : World) (R4 : List Own), Ctx W w3 (R
  ++ R4) Φ → J (Value.bool (decide (n2 < d0))) w3

theorem Bdelta_Upto_1_run (d0 : Int) (d1P : Option Addr) (d1N d1C : Nat) (d2 : Int) (kB kO : Nat) {W w : World} {R : List Own} {Φ : PW} [Stable Φ] {J : Value → World → Prop} (c : Ctx W w R Φ) (h : Bdelta_Upto_1 d0 d1P d1N d1C d2 kB kO W R Φ J) : Calls Tryz.prog F.delta_Upto_1 #[.agg #[.int .i64 d0, .slice d1P d1N d1C, .int .i64 d2], .pointer (some ⟨kB, kO, none⟩)] w fun e w' => ∃ v, e = .returned v ∧ J v w' :=
  vcFS_sound (H := { keep := some [1, 2, 3], track := [2] }) (by rw [show vcFS Tryz.prog W { keep := some [1, 2, 3], track := [2] } F.delta_Upto_1 #[.agg #[.int .i64 d0, .slice d1P d1N d1C, .int .i64 d2], .pointer (some ⟨kB, kO, none⟩)] R Φ J = Bdelta_Upto_1 d0 d1P d1N d1C d2 kB kO W R Φ J by kernel_rfl]; exact h) c

/-- slices.DeleteFunc[[]api.Delta,api.Delta] -/
-- loop at region 5: 5 i, 6 j; blocks 
-- known blocks: 7 v
def Bslices_DeleteFunc_api_Delta_api_Delta (sP : Option Addr) (sN sC : Nat) (delF : FuncId) (delC : Array Value) (W : World) (R : List Own) (Φ : PW) (J : Value → World → Prop) : Prop :=
  ∀ (w0 : World) (R1 : List Own), Ctx W w0 (R ++ R1) Φ → Calls Tryz.prog F.slices_IndexFunc_api_Delta_api_Delta #[Value.slice sP sN sC, Value.func (Fn.func delF) #[] delC] w0 fun (e2 :
  Ending) (w3 : World) => ∃ (n4 : Int), e2 = Ending.returned (Value.int IntKind.i64 n4) ∧ ∃ (R5 : List Own), ∃ (Φ6 : PW), Stable Φ6 ∧ Ctx W w3 (R5 ++ R1) Φ6 ∧ Br (decide (n4 = -1)) (∀ (w7 :
  World) (R8 : List Own), Ctx W w7 (R5 ++ R8) Φ6 → J (Value.slice sP sN sC) w7) (I64 (n4 + 1) ∧ exI fun (I9 : Int → Int → List Own → PW → Nat → Prop) => (∃ (R10 : List Own), ∃ (Φ11 : PW), ∃
  (k12 : Nat), Stable Φ11 ∧ (∀ (w13 : World) (R14 : List Own), Ctx W w13 (R5 ++ R14) Φ6 → Ctx W w13 (R10 ++ R14) Φ11) ∧ I9 n4 (n4 + 1) R10 Φ11 k12) ∧ ∀ (n15 n16 : Int) (R17 : List Own) (I18 :
  List Nat → World → Prop) (k19 : Nat), Stable I18 → I9 n15 n16 R17 I18 k19 → Br (decide (n16 < (↑sN : Int))) ((0 ≤ n16 ∧ n16 < (↑sN : Int)) ∧ ptrK none sP fun (k20 k21 : Nat) => ∀ (w22 :
  World) (R23 : List Own), Ctx W w22 (R17 ++ R23) I18 → ∃ (n24 : Int), ∃ (p25 : Option Addr), ∃ (k26 : Nat), ∃ (k27 : Nat), ∃ (n28 : Int), RowAt w22 k20 (k21 + n16.toNat * 3) [Value.int
  IntKind.i64 n24, Value.slice p25 k26 k27, Value.int IntKind.i64 n28] ∧ ∀ (b : Nat) (w29 : World) (R30 : List Own), Ctx W w29 (R17 ++ R30) I18 → okFun Tryz.prog delF = true ∧ Calls Tryz.prog
  delF (Array.mk (Value.agg #[Value.int IntKind.i64 n24, Value.slice p25 k26 k27, Value.int IntKind.i64 n28] :: delC.toList)) w29 fun (e31 : Ending) (w32 : World) => ∃ (c33 : Bool), e31 =
  Ending.returned (Value.bool c33) ∧ ∃ (R34 : List Own), ∃ (Φ35 : PW), Stable Φ35 ∧ Ctx W w32 (R34 ++ R30) Φ35 ∧ Br (!c33) ((0 ≤ n15 ∧ n15 < (↑sN : Int)) ∧ ptrK none sP fun (k36 k37 : Nat) =>
  ∀ (w38 : World) (R39 : List Own), Ctx W w38 (R34 ++ R39) Φ35 → CanWrite w38 k36 (k37 + n15.toNat * 3) 3 ∧ ∀ (w40 : World), w40 = w38.setCells k36 (k37 + n15.toNat * 3) [Value.int
  IntKind.i64 n24, Value.slice p25 k26 k27, Value.int IntKind.i64 n28] → ∃ (R41 : List Own), ∃ (Φ42 : PW), Stable Φ42 ∧ Ctx W w40 (R41 ++ R39) Φ42 ∧ I64 (n15 + 1) ∧ I64 (n16 + 1) ∧ ∃ (R43 :
  List Own), ∃ (Φ44 : PW), ∃ (k45 : Nat), Stable Φ44 ∧ (∀ (w46 : World) (R47 : List Own), Ctx W w46 (R41 ++ R47) Φ42 → Ctx W w46 (R43 ++ R47) Φ44) ∧ I9 (n15 + 1) (n16 + 1) R43 Φ44 k45 ∧ k45 <
  k19) (I64 (n16 + 1) ∧ ∃ (R48 : List Own), ∃ (Φ49 : PW), ∃ (k50 : Nat), Stable Φ49 ∧ (∀ (w51 : World) (R52 : List Own), Ctx W w51 (R34 ++ R52) Φ35 → Ctx W w51 (R48 ++ R52) Φ49) ∧ I9 n15 (n16
  + 1) R48 Φ49 k50 ∧ k50 < k19)) ((0 ≤ n15 ∧ n15 ≤ (↑sN : Int) ∧ sN ≤ sC) ∧ ∀ (w53 : World) (R54 : List Own), Ctx W w53 (R17 ++ R54) I18 → ∃ (w55 : World), Sem.run Tryz.prog (builtin
  Builtin.clear #[22] 0 #[false] #[Value.slice (subPtr sP 3 n15.toNat sC) (sN - n15.toNat) (sC - n15.toNat)]) w53 = Result.ok (Next.value (Value.tuple #[])) w55 ∧ ∃ (R56 : List Own), ∃ (Φ57 :
  PW), Stable Φ57 ∧ Ctx W w55 (R56 ++ R54) Φ57 ∧ (0 ≤ n15 ∧ n15 ≤ (↑sC : Int)) ∧ ∀ (w58 : World) (R59 : List Own), Ctx W w58 (R56 ++ R59) Φ57 → J (Value.slice (subPtr sP 3 0 sC) n15.toNat sC)
  w58))

theorem Bslices_DeleteFunc_api_Delta_api_Delta_run (sP : Option Addr) (sN sC : Nat) (delF : FuncId) (delC : Array Value) {W w : World} {R : List Own} {Φ : PW} [Stable Φ] {J : Value → World → Prop} (c : Ctx W w R Φ) (h : Bslices_DeleteFunc_api_Delta_api_Delta sP sN sC delF delC W R Φ J) : Calls Tryz.prog F.slices_DeleteFunc_api_Delta_api_Delta #[.slice sP sN sC, .func (.func delF) #[] delC] w fun e w' => ∃ v, e = .returned v ∧ J v w' :=
  vcFS_sound (H := { keep := some [0, 1, 4, 5, 6, 7, 12, 19, 29], wrap := [28], track := [7], loops := [(5, [(5, .one (.int .i64)), (6, .one (.int .i64))], [])] }) (by rw [show vcFS Tryz.prog W { keep := some [0, 1, 4, 5, 6, 7, 12, 19, 29], wrap := [28], track := [7], loops := [(5, [(5, .one (.int .i64)), (6, .one (.int .i64))], [])] } F.slices_DeleteFunc_api_Delta_api_Delta #[.slice sP sN sC, .func (.func delF) #[] delC] R Φ J = Bslices_DeleteFunc_api_Delta_api_Delta sP sN sC delF delC W R Φ J by kernel_rfl]; exact h) c

/-- delta.After$1 -/
-- known blocks: 2 d
def Bdelta_After_1 (d0 : Int) (d1P : Option Addr) (d1N d1C : Nat) (d2 : Int) (kB kO : Nat) (W : World) (R : List Own) (Φ : PW) (J : Value → World → Prop) : Prop :=
  ∀ (b : Nat) (w0 : World) (R1 : List Own), Ctx W w0 (R ++ R1) Φ → ∃ (n2 : Int), w0.cell? (Addr.mk kB kO none) = some (Value.int IntKind.i64 n2) ∧ ∀ (w3 : World) (R4 : List Own), Ctx W w3 (R
  ++ R4) Φ → J (Value.bool (decide (d0 ≤ n2))) w3

theorem Bdelta_After_1_run (d0 : Int) (d1P : Option Addr) (d1N d1C : Nat) (d2 : Int) (kB kO : Nat) {W w : World} {R : List Own} {Φ : PW} [Stable Φ] {J : Value → World → Prop} (c : Ctx W w R Φ) (h : Bdelta_After_1 d0 d1P d1N d1C d2 kB kO W R Φ J) : Calls Tryz.prog F.delta_After_1 #[.agg #[.int .i64 d0, .slice d1P d1N d1C, .int .i64 d2], .pointer (some ⟨kB, kO, none⟩)] w fun e w' => ∃ v, e = .returned v ∧ J v w' :=
  vcFS_sound (H := { keep := some [1, 2, 3], track := [2] }) (by rw [show vcFS Tryz.prog W { keep := some [1, 2, 3], track := [2] } F.delta_After_1 #[.agg #[.int .i64 d0, .slice d1P d1N d1C, .int .i64 d2], .pointer (some ⟨kB, kO, none⟩)] R Φ J = Bdelta_After_1 d0 d1P d1N d1C d2 kB kO W R Φ J by kernel_rfl]; exact h) c

/-- value.Bytes -/
-- known blocks: 1 v
def Bvalue_Bytes (v0 : Int) (v1 : Int) (v2 : ByteArray) (W : World) (R : List Own) (Φ : PW) (J : Value → World → Prop) : Prop :=
  ∀ (b : Nat), ∃ (R0 : List Own), ∃ (Φ1 : PW), Stable Φ1 ∧ (∀ (w2 : World) (R3 : List Own), Ctx W w2 (R ++ R3) Φ → Ctx W w2 (R0 ++ R3) Φ1) ∧ ∀ (w4 : World) (R5 : List Own), Ctx W w4 (R ++ R5)
  Φ → Calls Tryz.prog F.wire_Int #[Value.int IntKind.i64 v0] w4 fun (e6 : Ending) (w7 : World) => ∃ (s8 : ByteArray), e6 = Ending.returned (Value.string s8) ∧ ∃ (R9 : List Own), ∃ (Φ10 : PW),
  Stable Φ10 ∧ Ctx W w7 (R9 ++ R5) Φ10 ∧ (∀ (w11 : World) (R12 : List Own), Ctx W w11 (R9 ++ R12) Φ10 → Ctx W w11 (R0 ++ R12) Φ1) ∧ ∀ (w13 : World) (R14 : List Own), Ctx W w13 (R9 ++ R14) Φ10
  → Calls Tryz.prog F.wire_Int #[Value.int IntKind.i64 v1] w13 fun (e15 : Ending) (w16 : World) => ∃ (s17 : ByteArray), e15 = Ending.returned (Value.string s17) ∧ ∃ (R18 : List Own), ∃ (Φ19 :
  PW), Stable Φ19 ∧ Ctx W w16 (R18 ++ R14) Φ19 ∧ (∀ (w20 : World) (R21 : List Own), Ctx W w20 (R18 ++ R21) Φ19 → Ctx W w20 (R0 ++ R21) Φ1) ∧ (s8.size + s17.size).le 9223372036854775807 ∧ ∀
  (w22 : World) (R23 : List Own), Ctx W w22 (R18 ++ R23) Φ19 → Calls Tryz.prog F.wire_Text #[Value.string v2] w22 fun (e24 : Ending) (w25 : World) => ∃ (s26 : ByteArray), e24 =
  Ending.returned (Value.string s26) ∧ ∃ (R27 : List Own), ∃ (Φ28 : PW), Stable Φ28 ∧ Ctx W w25 (R27 ++ R23) Φ28 ∧ (∀ (w29 : World) (R30 : List Own), Ctx W w29 (R27 ++ R30) Φ28 → Ctx W w29
  (R0 ++ R30) Φ1) ∧ ((s8 ++ s17).size + s26.size).le 9223372036854775807 ∧ ∀ (w31 : World) (R32 : List Own), Ctx W w31 (R27 ++ R32) Φ28 → J (Value.string (s8 ++ s17 ++ s26)) w31

theorem Bvalue_Bytes_run (v0 : Int) (v1 : Int) (v2 : ByteArray) {W w : World} {R : List Own} {Φ : PW} [Stable Φ] {J : Value → World → Prop} (c : Ctx W w R Φ) (h : Bvalue_Bytes v0 v1 v2 W R Φ J) : Calls Tryz.prog F.value_Bytes #[.agg #[.int .i64 v0, .int .i64 v1, .string v2]] w fun e w' => ∃ v, e = .returned v ∧ J v w' :=
  vcFS_sound (H := { keep := some [1, 2], track := [1], stages := [(1, [.held [(0, true), (3, true), (7, true), (1, true), (4, true), (8, true), (2, false), (5, false), (6, true), (9, false)], .stage [10, 11] none])] }) (by rw [show vcFS Tryz.prog W { keep := some [1, 2], track := [1], stages := [(1, [.held [(0, true), (3, true), (7, true), (1, true), (4, true), (8, true), (2, false), (5, false), (6, true), (9, false)], .stage [10, 11] none])] } F.value_Bytes #[.agg #[.int .i64 v0, .int .i64 v1, .string v2]] R Φ J = Bvalue_Bytes v0 v1 v2 W R Φ J by kernel_rfl]; exact h) c

/-- (*wire.Reader).number -/
def Bwire_Reader_number (rB rO : Nat) (endx : Int) (least : Int) (W : World) (R : List Own) (Φ : PW) (J : Value → World → Prop) : Prop :=
  ∀ (w0 : World) (R1 : List Own), Ctx W w0 (R ++ R1) Φ → ∃ (s2 : ByteArray), w0.cell? (Addr.mk rB rO none) = some (Value.string s2) ∧ ∃ (s3 : ByteArray), w0.cell? (Addr.mk rB rO none) = some
  (Value.string s3) ∧ (0 ≤ min (↑s3.size : Int) 21 ∧ min (↑s3.size : Int) 21 ≤ (↑s2.size : Int)) ∧ ∀ (w4 : World) (R5 : List Own), Ctx W w4 (R ++ R5) Φ → Calls Tryz.prog F.strings_IndexByte
  #[Value.string (s2.extract 0 (min (↑s3.size : Int) 21).toNat), Value.int IntKind.u8 endx] w4 fun (e6 : Ending) (w7 : World) => ∃ (n8 : Int), e6 = Ending.returned (Value.int IntKind.i64 n8)
  ∧ ∃ (R9 : List Own), ∃ (Φ10 : PW), Stable Φ10 ∧ Ctx W w7 (R9 ++ R5) Φ10 ∧ Br (decide (n8 < 0)) (∀ (w11 : World) (R12 : List Own), Ctx W w11 (R9 ++ R12) Φ10 → Calls Tryz.prog
  F.wire_Reader_fail #[Value.pointer (some (Addr.mk rB rO none))] w11 fun (e13 : Ending) (w14 : World) => e13 = Ending.returned (Value.tuple #[]) ∧ ∃ (R15 : List Own), ∃ (Φ16 : PW), Stable
  Φ16 ∧ Ctx W w14 (R15 ++ R12) Φ16 ∧ ∀ (w17 : World) (R18 : List Own), Ctx W w17 (R15 ++ R18) Φ16 → J (Value.int IntKind.i64 0) w17) ((0 ≤ n8 ∧ n8 ≤ (↑(s2.extract 0 (min (↑s3.size : Int)
  21).toNat).size : Int)) ∧ ∀ (w19 : World) (R20 : List Own), Ctx W w19 (R9 ++ R20) Φ10 → Calls Tryz.prog F.strconv_Atoi #[Value.string ((s2.extract 0 (min (↑s3.size : Int) 21).toNat).extract
  0 n8.toNat)] w19 fun (e21 : Ending) (w22 : World) => (∃ (n23 : Int), e21 = Ending.returned (Value.tuple #[Value.int IntKind.i64 n23, Value.nilIface]) ∧ ∃ (R24 : List Own), ∃ (Φ25 : PW),
  Stable Φ25 ∧ Ctx W w22 (R24 ++ R20) Φ25 ∧ ∃ (R26 : List Own), ∃ (Φ27 : PW), Stable Φ27 ∧ (∀ (w28 : World) (R29 : List Own), Ctx W w28 (R24 ++ R29) Φ25 → Ctx W w28 (R26 ++ R29) Φ27) ∧ ∃ (c30
  : Bool), (∀ (w31 : World), Sem.run Tryz.prog ((eqGuard BinOp.neq 46 (Operand.tmp 36) (Operand.const Value.nilIface) Value.nilIface Value.nilIface) >>= fun _ => binOp BinOp.neq 46
  Value.nilIface Value.nilIface) w31 = Result.ok (Value.bool c30) w31) ∧ Br c30 (∀ (w33 : World) (R34 : List Own), Ctx W w33 (R24 ++ R34) Φ25 → Calls Tryz.prog F.wire_Reader_fail
  #[Value.pointer (some (Addr.mk rB rO none))] w33 fun (e35 : Ending) (w36 : World) => e35 = Ending.returned (Value.tuple #[]) ∧ ∃ (R37 : List Own), ∃ (Φ38 : PW), Stable Φ38 ∧ Ctx W w36 (R37
  ++ R34) Φ38 ∧ ∀ (w39 : World) (R40 : List Own), Ctx W w39 (R37 ++ R40) Φ38 → J (Value.int IntKind.i64 0) w39) ((0 ≤ n8 ∧ n8 ≤ (↑(s2.extract 0 (min (↑s3.size : Int) 21).toNat).size : Int)) ∧
  ∀ (w41 : World) (R42 : List Own), Ctx W w41 (R24 ++ R42) Φ25 → Calls Tryz.prog F.strconv_Itoa #[Value.int IntKind.i64 n23] w41 fun (e43 : Ending) (w44 : World) => ∃ (s45 : ByteArray), e43 =
  Ending.returned (Value.string s45) ∧ ∃ (R46 : List Own), ∃ (Φ47 : PW), Stable Φ47 ∧ Ctx W w44 (R46 ++ R42) Φ47 ∧ (∀ (w48 : World) (R49 : List Own), Ctx W w48 (R46 ++ R49) Φ47 → Ctx W w48
  (R26 ++ R49) Φ27) ∧ Br (decide (s45 ≠ (s2.extract 0 (min (↑s3.size : Int) 21).toNat).extract 0 n8.toNat)) (∀ (w50 : World) (R51 : List Own), Ctx W w50 (R46 ++ R51) Φ47 → Calls Tryz.prog
  F.wire_Reader_fail #[Value.pointer (some (Addr.mk rB rO none))] w50 fun (e52 : Ending) (w53 : World) => e52 = Ending.returned (Value.tuple #[]) ∧ ∃ (R54 : List Own), ∃ (Φ55 : PW), Stable
  Φ55 ∧ Ctx W w53 (R54 ++ R51) Φ55 ∧ ∀ (w56 : World) (R57 : List Own), Ctx W w56 (R54 ++ R57) Φ55 → J (Value.int IntKind.i64 0) w56) (Br (decide (n23 < least)) (∀ (w58 : World) (R59 : List
  Own), Ctx W w58 (R46 ++ R59) Φ47 → Calls Tryz.prog F.wire_Reader_fail #[Value.pointer (some (Addr.mk rB rO none))] w58 fun (e60 : Ending) (w61 : World) => e60 = Ending.returned (Value.tuple
  #[]) ∧ ∃ (R62 : List Own), ∃ (Φ63 : PW), Stable Φ63 ∧ Ctx W w61 (R62 ++ R59) Φ63 ∧ ∀ (w64 : World) (R65 : List Own), Ctx W w64 (R62 ++ R65) Φ63 → J (Value.int IntKind.i64 0) w64) (∀ (w66 :
  World) (R67 : List Own), Ctx W w66 (R46 ++ R67) Φ47 → ∃ (s68 : ByteArray), w66.cell? (Addr.mk rB rO none) = some (Value.string s68) ∧ I64 (n8 + 1) ∧ (0 ≤ n8 + 1 ∧ n8 + 1 ≤ (↑s68.size : Int)
  ∧ s68.size ≤ s68.size) ∧ ∀ (w69 : World) (R70 : List Own), Ctx W w69 (R46 ++ R70) Φ47 → CanWrite w69 rB rO 1 ∧ ∀ (w71 : World), w71 = w69.setCell (Addr.mk rB rO none) (Value.string
  (s68.extract (n8 + 1).toNat s68.size)) → ∃ (R72 : List Own), ∃ (Φ73 : PW), Stable Φ73 ∧ Ctx W w71 (R72 ++ R70) Φ73 ∧ ∀ (w74 : World) (R75 : List Own), Ctx W w74 (R72 ++ R75) Φ73 → J
  (Value.int IntKind.i64 n23) w74)))) ∨ ∃ (n76 : Int), ∃ (u77 : TypeId), ∃ (v78 : Value), e21 = Ending.returned (Value.tuple #[Value.int IntKind.i64 n76, Value.iface u77 v78]) ∧ ∃ (R79 : List
  Own), ∃ (Φ80 : PW), Stable Φ80 ∧ Ctx W w22 (R79 ++ R20) Φ80 ∧ ∃ (R81 : List Own), ∃ (Φ82 : PW), Stable Φ82 ∧ (∀ (w83 : World) (R84 : List Own), Ctx W w83 (R79 ++ R84) Φ80 → Ctx W w83 (R81
  ++ R84) Φ82) ∧ ∃ (c85 : Bool), (∀ (w86 : World), Sem.run Tryz.prog ((eqGuard BinOp.neq 46 (Operand.tmp 36) (Operand.const Value.nilIface) (Value.iface u77 v78) Value.nilIface) >>= fun _ =>
  binOp BinOp.neq 46 (Value.iface u77 v78) Value.nilIface) w86 = Result.ok (Value.bool c85) w86) ∧ Br c85 (∀ (w88 : World) (R89 : List Own), Ctx W w88 (R79 ++ R89) Φ80 → Calls Tryz.prog
  F.wire_Reader_fail #[Value.pointer (some (Addr.mk rB rO none))] w88 fun (e90 : Ending) (w91 : World) => e90 = Ending.returned (Value.tuple #[]) ∧ ∃ (R92 : List Own), ∃ (Φ93 : PW), Stable
  Φ93 ∧ Ctx W w91 (R92 ++ R89) Φ93 ∧ ∀ (w94 : World) (R95 : List Own), Ctx W w94 (R92 ++ R95) Φ93 → J (Value.int IntKind.i64 0) w94) ((0 ≤ n8 ∧ n8 ≤ (↑(s2.extract 0 (min (↑s3.size : Int)
  21).toNat).size : Int)) ∧ ∀ (w96 : World) (R97 : List Own), Ctx W w96 (R79 ++ R97) Φ80 → Calls Tryz.prog F.strconv_Itoa #[Value.int IntKind.i64 n76] w96 fun (e98 : Ending) (w99 : World) =>
  ∃ (s100 : ByteArray), e98 = Ending.returned (Value.string s100) ∧ ∃ (R101 : List Own), ∃ (Φ102 : PW), Stable Φ102 ∧ Ctx W w99 (R101 ++ R97) Φ102 ∧ (∀ (w103 : World) (R104 : List Own), Ctx W
  w103 (R101 ++ R104) Φ102 → Ctx W w103 (R81 ++ R104) Φ82) ∧ Br (decide (s100 ≠ (s2.extract 0 (min (↑s3.size : Int) 21).toNat).extract 0 n8.toNat)) (∀ (w105 : World) (R106 : List Own), Ctx W
  w105 (R101 ++ R106) Φ102 → Calls Tryz.prog F.wire_Reader_fail #[Value.pointer (some (Addr.mk rB rO none))] w105 fun (e107 : Ending) (w108 : World) => e107 = Ending.returned (Value.tuple
  #[]) ∧ ∃ (R109 : List Own), ∃ (Φ110 : PW), Stable Φ110 ∧ Ctx W w108 (R109 ++ R106) Φ110 ∧ ∀ (w111 : World) (R112 : List Own), Ctx W w111 (R109 ++ R112) Φ110 → J (Value.int IntKind.i64 0)
  w111) (Br (decide (n76 < least)) (∀ (w113 : World) (R114 : List Own), Ctx W w113 (R101 ++ R114) Φ102 → Calls Tryz.prog F.wire_Reader_fail #[Value.pointer (some (Addr.mk rB rO none))] w113
  fun (e115 : Ending) (w116 : World) => e115 = Ending.returned (Value.tuple #[]) ∧ ∃ (R117 : List Own), ∃ (Φ118 : PW), Stable Φ118 ∧ Ctx W w116 (R117 ++ R114) Φ118 ∧ ∀ (w119 : World) (R120 :
  List Own), Ctx W w119 (R117 ++ R120) Φ118 → J (Value.int IntKind.i64 0) w119) (∀ (w121 : World) (R122 : List Own), Ctx W w121 (R101 ++ R122) Φ102 → ∃ (s123 : ByteArray), w121.cell? (Addr.mk
  rB rO none) = some (Value.string s123) ∧ I64 (n8 + 1) ∧ (0 ≤ n8 + 1 ∧ n8 + 1 ≤ (↑s123.size : Int) ∧ s123.size ≤ s123.size) ∧ ∀ (w124 : World) (R125 : List Own), Ctx W w124 (R101 ++ R125)
  Φ102 → CanWrite w124 rB rO 1 ∧ ∀ (w126 : World), w126 = w124.setCell (Addr.mk rB rO none) (Value.string (s123.extract (n8 + 1).toNat s123.size)) → ∃ (R127 : List Own), ∃ (Φ128 : PW), Stable
  Φ128 ∧ Ctx W w126 (R127 ++ R125) Φ128 ∧ ∀ (w129 : World) (R130 : List Own), Ctx W w129 (R127 ++ R130) Φ128 → J (Value.int IntKind.i64 n76) w129))))

theorem Bwire_Reader_number_run (rB rO : Nat) (endx : Int) (least : Int) {W w : World} {R : List Own} {Φ : PW} [Stable Φ] {J : Value → World → Prop} (c : Ctx W w R Φ) (h : Bwire_Reader_number rB rO endx least W R Φ J) : Calls Tryz.prog F.wire_Reader_number #[.pointer (some ⟨rB, rO, none⟩), .int .u8 endx, .int .i64 least] w fun e w' => ∃ v, e = .returned v ∧ J v w' :=
  vcFS_sound (H := { keep := some [0, 1, 2, 6, 7, 8, 9, 10, 26, 50], stages := [(7, [.held [(0, true), (1, true), (2, true), (3, true), (5, true), (6, true), (7, true), (4, false)], .stage [8, 9, 10, 11, 12, 13, 14] none])] }) (by rw [show vcFS Tryz.prog W { keep := some [0, 1, 2, 6, 7, 8, 9, 10, 26, 50], stages := [(7, [.held [(0, true), (1, true), (2, true), (3, true), (5, true), (6, true), (7, true), (4, false)], .stage [8, 9, 10, 11, 12, 13, 14] none])] } F.wire_Reader_number #[.pointer (some ⟨rB, rO, none⟩), .int .u8 endx, .int .i64 least] R Φ J = Bwire_Reader_number rB rO endx least W R Φ J by kernel_rfl]; exact h) c

/-- (*wire.Reader).Left -/
def Bwire_Reader_Left (rB rO : Nat) (W : World) (R : List Own) (Φ : PW) (J : Value → World → Prop) : Prop :=
  ∀ (w0 : World) (R1 : List Own), Ctx W w0 (R ++ R1) Φ → ∃ (s2 : ByteArray), w0.cell? (Addr.mk rB rO none) = some (Value.string s2) ∧ ∀ (w3 : World) (R4 : List Own), Ctx W w3 (R ++ R4) Φ → J
  (Value.int IntKind.i64 (↑s2.size : Int)) w3

theorem Bwire_Reader_Left_run (rB rO : Nat) {W w : World} {R : List Own} {Φ : PW} [Stable Φ] {J : Value → World → Prop} (c : Ctx W w R Φ) (h : Bwire_Reader_Left rB rO W R Φ J) : Calls Tryz.prog F.wire_Reader_Left #[.pointer (some ⟨rB, rO, none⟩)] w fun e w' => ∃ v, e = .returned v ∧ J v w' :=
  vcFS_sound (H := { keep := some [0, 2] }) (by rw [show vcFS Tryz.prog W { keep := some [0, 2] } F.wire_Reader_Left #[.pointer (some ⟨rB, rO, none⟩)] R Φ J = Bwire_Reader_Left rB rO W R Φ J by kernel_rfl]; exact h) c

/-- value.take -/
-- known blocks: 2 , 3 v
def Bvalue_take (rB rO : Nat) (W : World) (R : List Own) (Φ : PW) (J : Value → World → Prop) : Prop :=
  ∀ (b : Nat) (w0 : World) (R1 : List Own), Ctx W w0 (R ++ R1) Φ → Calls Tryz.prog F.wire_Reader_Int #[Value.pointer (some (Addr.mk rB rO none))] w0 fun (e2 : Ending) (w3 : World) => ∃ (n4 :
  Int), e2 = Ending.returned (Value.int IntKind.i64 n4) ∧ ∃ (R5 : List Own), ∃ (Φ6 : PW), Stable Φ6 ∧ Ctx W w3 (R5 ++ R1) Φ6 ∧ ∀ (w7 : World) (R8 : List Own), Ctx W w7 (R5 ++ R8) Φ6 → Calls
  Tryz.prog F.wire_Reader_Int #[Value.pointer (some (Addr.mk rB rO none))] w7 fun (e9 : Ending) (w10 : World) => ∃ (n11 : Int), e9 = Ending.returned (Value.int IntKind.i64 n11) ∧ ∃ (R12 :
  List Own), ∃ (Φ13 : PW), Stable Φ13 ∧ Ctx W w10 (R12 ++ R8) Φ13 ∧ ∀ (b : Nat) (w14 : World) (R15 : List Own), Ctx W w14 (R12 ++ R15) Φ13 → Calls Tryz.prog F.wire_Reader_Text #[Value.pointer
  (some (Addr.mk rB rO none))] w14 fun (e16 : Ending) (w17 : World) => ∃ (s18 : ByteArray), e16 = Ending.returned (Value.string s18) ∧ ∃ (R19 : List Own), ∃ (Φ20 : PW), Stable Φ20 ∧ Ctx W w17
  (R19 ++ R15) Φ20 ∧ ∀ (w21 : World) (R22 : List Own), Ctx W w21 (R19 ++ R22) Φ20 → J (Value.agg #[Value.int IntKind.i64 n4, Value.int IntKind.i64 n11, Value.string s18]) w21

theorem Bvalue_take_run (rB rO : Nat) {W w : World} {R : List Own} {Φ : PW} [Stable Φ] {J : Value → World → Prop} (c : Ctx W w R Φ) (h : Bvalue_take rB rO W R Φ J) : Calls Tryz.prog F.value_take #[.pointer (some ⟨rB, rO, none⟩)] w fun e w' => ∃ v, e = .returned v ∧ J v w' :=
  vcFS_sound (H := { keep := some [0, 2, 3], track := [2, 3] }) (by rw [show vcFS Tryz.prog W { keep := some [0, 2, 3], track := [2, 3] } F.value_take #[.pointer (some ⟨rB, rO, none⟩)] R Φ J = Bvalue_take rB rO W R Φ J by kernel_rfl]; exact h) c

/-- (*wire.Reader).Done -/
def Bwire_Reader_Done (rB rO : Nat) (W : World) (R : List Own) (Φ : PW) (J : Value → World → Prop) : Prop :=
  ∀ (w0 : World) (R1 : List Own), Ctx W w0 (R ++ R1) Φ → ∃ (c2 : Bool), w0.cell? (Addr.mk rB (rO + 1) none) = some (Value.bool c2) ∧ ∃ (s3 : ByteArray), ((!c2) = true → w0.cell? (Addr.mk rB
  rO none) = some (Value.string s3)) ∧ ∀ (w4 : World) (R5 : List Own), Ctx W w4 (R ++ R5) Φ → J (Value.bool (!c2 && decide (s3 = ByteArray.mk #[]))) w4

theorem Bwire_Reader_Done_run (rB rO : Nat) {W w : World} {R : List Own} {Φ : PW} [Stable Φ] {J : Value → World → Prop} (c : Ctx W w R Φ) (h : Bwire_Reader_Done rB rO W R Φ J) : Calls Tryz.prog F.wire_Reader_Done #[.pointer (some ⟨rB, rO, none⟩)] w fun e w' => ∃ v, e = .returned v ∧ J v w' :=
  vcFS_sound (H := { keep := some [0, 2] }) (by rw [show vcFS Tryz.prog W { keep := some [0, 2] } F.wire_Reader_Done #[.pointer (some ⟨rB, rO, none⟩)] R Φ J = Bwire_Reader_Done rB rO W R Φ J by kernel_rfl]; exact h) c

/-- (*wire.Reader).fail -/
def Bwire_Reader_fail (rB rO : Nat) (W : World) (R : List Own) (Φ : PW) (J : Value → World → Prop) : Prop :=
  ∀ (w0 : World) (R1 : List Own), Ctx W w0 (R ++ R1) Φ → CanWrite w0 rB rO 1 ∧ ∀ (w2 : World), w2 = w0.setCell (Addr.mk rB rO none) (Value.string (ByteArray.mk #[])) → ∃ (R3 : List Own), ∃
  (Φ4 : PW), Stable Φ4 ∧ Ctx W w2 (R3 ++ R1) Φ4 ∧ ∀ (w5 : World) (R6 : List Own), Ctx W w5 (R3 ++ R6) Φ4 → CanWrite w5 rB (rO + 1) 1 ∧ ∀ (w7 : World), w7 = w5.setCell (Addr.mk rB (rO + 1)
  none) (Value.bool true) → ∃ (R8 : List Own), ∃ (Φ9 : PW), Stable Φ9 ∧ Ctx W w7 (R8 ++ R6) Φ9 ∧ ∀ (w10 : World) (R11 : List Own), Ctx W w10 (R8 ++ R11) Φ9 → J (Value.tuple #[]) w10

theorem Bwire_Reader_fail_run (rB rO : Nat) {W w : World} {R : List Own} {Φ : PW} [Stable Φ] {J : Value → World → Prop} (c : Ctx W w R Φ) (h : Bwire_Reader_fail rB rO W R Φ J) : Calls Tryz.prog F.wire_Reader_fail #[.pointer (some ⟨rB, rO, none⟩)] w fun e w' => ∃ v, e = .returned v ∧ J v w' :=
  vcFS_sound (H := { keep := some [] }) (by rw [show vcFS Tryz.prog W { keep := some [] } F.wire_Reader_fail #[.pointer (some ⟨rB, rO, none⟩)] R Φ J = Bwire_Reader_fail rB rO W R Φ J by kernel_rfl]; exact h) c

/-- (*wire.Reader).close -/
def Bwire_Reader_close (rB rO : Nat) (endx : ByteArray) (W : World) (R : List Own) (Φ : PW) (J : Value → World → Prop) : Prop :=
  ∀ (w0 : World) (R1 : List Own), Ctx W w0 (R ++ R1) Φ → ∃ (s2 : ByteArray), w0.cell? (Addr.mk rB rO none) = some (Value.string s2) ∧ ∀ (w3 : World) (R4 : List Own), Ctx W w3 (R ++ R4) Φ →
  Calls Tryz.prog F.strings_CutPrefix #[Value.string s2, Value.string endx] w3 fun (e5 : Ending) (w6 : World) => ∃ (s7 : ByteArray), ∃ (c8 : Bool), e5 = Ending.returned (Value.tuple
  #[Value.string s7, Value.bool c8]) ∧ ∃ (R9 : List Own), ∃ (Φ10 : PW), Stable Φ10 ∧ Ctx W w6 (R9 ++ R4) Φ10 ∧ ∀ (w11 : World) (R12 : List Own), Ctx W w11 (R9 ++ R12) Φ10 → CanWrite w11 rB rO
  1 ∧ ∀ (w13 : World), w13 = w11.setCell (Addr.mk rB rO none) (Value.string s7) → ∃ (R14 : List Own), ∃ (Φ15 : PW), Stable Φ15 ∧ Ctx W w13 (R14 ++ R12) Φ15 ∧ Br (!c8) (∀ (w16 : World) (R17 :
  List Own), Ctx W w16 (R14 ++ R17) Φ15 → Calls Tryz.prog F.wire_Reader_fail #[Value.pointer (some (Addr.mk rB rO none))] w16 fun (e18 : Ending) (w19 : World) => e18 = Ending.returned
  (Value.tuple #[]) ∧ ∃ (R20 : List Own), ∃ (Φ21 : PW), Stable Φ21 ∧ Ctx W w19 (R20 ++ R17) Φ21 ∧ ∀ (w22 : World) (R23 : List Own), Ctx W w22 (R20 ++ R23) Φ21 → J (Value.tuple #[]) w22) (∀
  (w24 : World) (R25 : List Own), Ctx W w24 (R14 ++ R25) Φ15 → J (Value.tuple #[]) w24)

theorem Bwire_Reader_close_run (rB rO : Nat) (endx : ByteArray) {W w : World} {R : List Own} {Φ : PW} [Stable Φ] {J : Value → World → Prop} (c : Ctx W w R Φ) (h : Bwire_Reader_close rB rO endx W R Φ J) : Calls Tryz.prog F.wire_Reader_close #[.pointer (some ⟨rB, rO, none⟩), .string endx] w fun e w' => ∃ v, e = .returned v ∧ J v w' :=
  vcFS_sound (H := { keep := some [0, 4, 5, 20] }) (by rw [show vcFS Tryz.prog W { keep := some [0, 4, 5, 20] } F.wire_Reader_close #[.pointer (some ⟨rB, rO, none⟩), .string endx] R Φ J = Bwire_Reader_close rB rO endx W R Φ J by kernel_rfl]; exact h) c

/-- errataref03.CompareRows -/
-- loop at region 2: 5 i; blocks 
def Berrataref03_CompareRows (aP : Option Addr) (aN aC : Nat) (bP : Option Addr) (bN bC : Nat) (W : World) (R : List Own) (Φ : PW) (J : Value → World → Prop) : Prop :=
  exI fun (I0 : Int → List Own → PW → Nat → Prop) => (∃ (R1 : List Own), ∃ (Φ2 : PW), ∃ (k3 : Nat), Stable Φ2 ∧ (∀ (w4 : World) (R5 : List Own), Ctx W w4 (R ++ R5) Φ → Ctx W w4 (R1 ++ R5) Φ2)
  ∧ I0 0 R1 Φ2 k3) ∧ ∀ (n6 : Int) (R7 : List Own) (I8 : List Nat → World → Prop) (k9 : Nat), Stable I8 → I0 n6 R7 I8 k9 → ∀ (w10 : World) (R11 : List Own), Ctx W w10 (R7 ++ R11) I8 → Br
  (decide (n6 < (↑aN : Int)) && decide (n6 < (↑bN : Int))) (∃ (R12 : List Own), ∃ (Φ13 : PW), Stable Φ13 ∧ (∀ (w14 : World) (R15 : List Own), Ctx W w14 (R7 ++ R15) I8 → Ctx W w14 (R12 ++ R15)
  Φ13) ∧ (0 ≤ n6 ∧ n6 < (↑aN : Int)) ∧ ptrK none aP fun (k16 k17 : Nat) => (0 ≤ n6 ∧ n6 < (↑bN : Int)) ∧ ptrK none bP fun (k18 k19 : Nat) => ∃ (n20 : Int), ∃ (n21 : Int), ∃ (s22 : ByteArray),
  (∀ (w23 : World) (R24 : List Own), Ctx W w23 (R12 ++ R24) Φ13 → ∃ (n25 : Int), ∃ (n26 : Int), ∃ (s27 : ByteArray), RowAt w23 k16 (k17 + n6.toNat * 3) [Value.int IntKind.i64 n25, Value.int
  IntKind.i64 n26, Value.string s27] ∧ Value.agg #[Value.int IntKind.i64 n25, Value.int IntKind.i64 n26, Value.string s27] = Value.agg #[Value.int IntKind.i64 n20, Value.int IntKind.i64 n21,
  Value.string s22]) ∧ ∃ (n28 : Int), ∃ (n29 : Int), ∃ (s30 : ByteArray), (∀ (w31 : World) (R32 : List Own), Ctx W w31 (R12 ++ R32) Φ13 → ∃ (n33 : Int), ∃ (n34 : Int), ∃ (s35 : ByteArray),
  RowAt w31 k18 (k19 + n6.toNat * 3) [Value.int IntKind.i64 n33, Value.int IntKind.i64 n34, Value.string s35] ∧ Value.agg #[Value.int IntKind.i64 n33, Value.int IntKind.i64 n34, Value.string
  s35] = Value.agg #[Value.int IntKind.i64 n28, Value.int IntKind.i64 n29, Value.string s30]) ∧ ∀ (w36 : World) (R37 : List Own), Ctx W w36 (R7 ++ R37) I8 → Calls Tryz.prog
  F.errataref03_Compare #[Value.agg #[Value.int IntKind.i64 n20, Value.int IntKind.i64 n21, Value.string s22], Value.agg #[Value.int IntKind.i64 n28, Value.int IntKind.i64 n29, Value.string
  s30]] w36 fun (e38 : Ending) (w39 : World) => ∃ (n40 : Int), e38 = Ending.returned (Value.int IntKind.i64 n40) ∧ ∃ (R41 : List Own), ∃ (Φ42 : PW), Stable Φ42 ∧ Ctx W w39 (R41 ++ R37) Φ42 ∧
  Br (decide (n40 ≠ 0)) (∀ (w43 : World) (R44 : List Own), Ctx W w43 (R41 ++ R44) Φ42 → J (Value.int IntKind.i64 n40) w43) (I64 (n6 + 1) ∧ ∃ (R45 : List Own), ∃ (Φ46 : PW), ∃ (k47 : Nat),
  Stable Φ46 ∧ (∀ (w48 : World) (R49 : List Own), Ctx W w48 (R41 ++ R49) Φ42 → Ctx W w48 (R45 ++ R49) Φ46) ∧ I0 (n6 + 1) R45 Φ46 k47 ∧ k47 < k9)) (Br (decide ((↑aN : Int) < (↑bN : Int))) (∀
  (w50 : World) (R51 : List Own), Ctx W w50 (R7 ++ R51) I8 → J (Value.int IntKind.i64 (-1)) w50) (Br (decide ((↑bN : Int) < (↑aN : Int))) (∀ (w52 : World) (R53 : List Own), Ctx W w52 (R7 ++
  R53) I8 → J (Value.int IntKind.i64 1) w52) (∀ (w54 : World) (R55 : List Own), Ctx W w54 (R7 ++ R55) I8 → J (Value.int IntKind.i64 0) w54)))

theorem Berrataref03_CompareRows_run (aP : Option Addr) (aN aC : Nat) (bP : Option Addr) (bN bC : Nat) {W w : World} {R : List Own} {Φ : PW} [Stable Φ] {J : Value → World → Prop} (c : Ctx W w R Φ) (h : Berrataref03_CompareRows aP aN aC bP bN bC W R Φ J) : Calls Tryz.prog F.errataref03_CompareRows #[.slice aP aN aC, .slice bP bN bC] w fun e w' => ∃ v, e = .returned v ∧ J v w' :=
  vcFS_sound (H := { keep := some [0, 1, 4, 5, 6, 16, 29, 35, 40], stages := [(4, [.held [(0, true), (1, true), (4, true), (5, true), (2, true), (6, true), (3, true), (7, true)], .stage [] (some 8), .stage [9] none])], loops := [(2, [(5, .one (.int .i64))], [])] }) (by rw [show vcFS Tryz.prog W { keep := some [0, 1, 4, 5, 6, 16, 29, 35, 40], stages := [(4, [.held [(0, true), (1, true), (4, true), (5, true), (2, true), (6, true), (3, true), (7, true)], .stage [] (some 8), .stage [9] none])], loops := [(2, [(5, .one (.int .i64))], [])] } F.errataref03_CompareRows #[.slice aP aN aC, .slice bP bN bC] R Φ J = Berrataref03_CompareRows aP aN aC bP bN bC W R Φ J by kernel_rfl]; exact h) c

/-- slices.IndexFunc[[]api.Delta,api.Delta] -/
-- loop at region 2: 8 ; blocks 
def Bslices_IndexFunc_api_Delta_api_Delta (sP : Option Addr) (sN sC : Nat) (fF : FuncId) (fC : Array Value) (W : World) (R : List Own) (Φ : PW) (J : Value → World → Prop) : Prop :=
  exI fun (I0 : Int → List Own → PW → Nat → Prop) => (∃ (R1 : List Own), ∃ (Φ2 : PW), ∃ (k3 : Nat), Stable Φ2 ∧ (∀ (w4 : World) (R5 : List Own), Ctx W w4 (R ++ R5) Φ → Ctx W w4 (R1 ++ R5) Φ2)
  ∧ I0 0 R1 Φ2 k3) ∧ ∀ (n6 : Int) (R7 : List Own) (I8 : List Nat → World → Prop) (k9 : Nat), Stable I8 → I0 n6 R7 I8 k9 → Br (decide (n6 < (↑sN : Int))) ((0 ≤ n6 ∧ n6 < (↑sN : Int)) ∧ ptrK
  none sP fun (k10 k11 : Nat) => ∀ (w12 : World) (R13 : List Own), Ctx W w12 (R7 ++ R13) I8 → ∃ (n14 : Int), ∃ (p15 : Option Addr), ∃ (k16 : Nat), ∃ (k17 : Nat), ∃ (n18 : Int), RowAt w12 k10
  (k11 + n6.toNat * 3) [Value.int IntKind.i64 n14, Value.slice p15 k16 k17, Value.int IntKind.i64 n18] ∧ ∀ (w19 : World) (R20 : List Own), Ctx W w19 (R7 ++ R20) I8 → okFun Tryz.prog fF = true
  ∧ Calls Tryz.prog fF (Array.mk (Value.agg #[Value.int IntKind.i64 n14, Value.slice p15 k16 k17, Value.int IntKind.i64 n18] :: fC.toList)) w19 fun (e21 : Ending) (w22 : World) => ∃ (c23 :
  Bool), e21 = Ending.returned (Value.bool c23) ∧ ∃ (R24 : List Own), ∃ (Φ25 : PW), Stable Φ25 ∧ Ctx W w22 (R24 ++ R20) Φ25 ∧ Br c23 (∀ (w26 : World) (R27 : List Own), Ctx W w26 (R24 ++ R27)
  Φ25 → J (Value.int IntKind.i64 n6) w26) (I64 (n6 + 1) ∧ ∃ (R28 : List Own), ∃ (Φ29 : PW), ∃ (k30 : Nat), Stable Φ29 ∧ (∀ (w31 : World) (R32 : List Own), Ctx W w31 (R24 ++ R32) Φ25 → Ctx W
  w31 (R28 ++ R32) Φ29) ∧ I0 (n6 + 1) R28 Φ29 k30 ∧ k30 < k9)) (∀ (w33 : World) (R34 : List Own), Ctx W w33 (R7 ++ R34) I8 → J (Value.int IntKind.i64 (-1)) w33)

theorem Bslices_IndexFunc_api_Delta_api_Delta_run (sP : Option Addr) (sN sC : Nat) (fF : FuncId) (fC : Array Value) {W w : World} {R : List Own} {Φ : PW} [Stable Φ] {J : Value → World → Prop} (c : Ctx W w R Φ) (h : Bslices_IndexFunc_api_Delta_api_Delta sP sN sC fF fC W R Φ J) : Calls Tryz.prog F.slices_IndexFunc_api_Delta_api_Delta #[.slice sP sN sC, .func (.func fF) #[] fC] w fun e w' => ∃ v, e = .returned v ∧ J v w' :=
  vcFS_sound (H := { keep := some [0, 1, 4, 5, 7, 8, 9, 16], wrap := [16], loops := [(2, [(8, .one (.int .i64))], [])] }) (by rw [show vcFS Tryz.prog W { keep := some [0, 1, 4, 5, 7, 8, 9, 16], wrap := [16], loops := [(2, [(8, .one (.int .i64))], [])] } F.slices_IndexFunc_api_Delta_api_Delta #[.slice sP sN sC, .func (.func fF) #[] fC] R Φ J = Bslices_IndexFunc_api_Delta_api_Delta sP sN sC fF fC W R Φ J by kernel_rfl]; exact h) c

/-- errataref03.Compare -/
-- known blocks: 2 a, 3 b
def Berrataref03_Compare (a0 : Int) (a1 : Int) (a2 : ByteArray) (b0 : Int) (b1 : Int) (b2 : ByteArray) (W : World) (R : List Own) (Φ : PW) (J : Value → World → Prop) : Prop :=
  ∀ (b b : Nat), Br (decide (a0 < b0)) (∀ (w0 : World) (R1 : List Own), Ctx W w0 (R ++ R1) Φ → J (Value.int IntKind.i64 (-1)) w0) (Br (decide (b0 < a0)) (∀ (w2 : World) (R3 : List Own), Ctx W
  w2 (R ++ R3) Φ → J (Value.int IntKind.i64 1) w2) (Br (decide (a1 < b1)) (∀ (w4 : World) (R5 : List Own), Ctx W w4 (R ++ R5) Φ → J (Value.int IntKind.i64 (-1)) w4) (Br (decide (b1 < a1)) (∀
  (w6 : World) (R7 : List Own), Ctx W w6 (R ++ R7) Φ → J (Value.int IntKind.i64 1) w6) (Br (Op.bytesLess (ByteArray.toList.loop a2 0 []) (ByteArray.toList.loop b2 0 [])) (∀ (w8 : World) (R9 :
  List Own), Ctx W w8 (R ++ R9) Φ → J (Value.int IntKind.i64 (-1)) w8) (∃ (c10 : Bool), (∀ (w11 : World), Sem.run Tryz.prog (binOp BinOp.gtr 9 (Value.string a2) (Value.string b2)) w11 =
  Result.ok (Value.bool c10) w11) ∧ Br c10 (∀ (w12 : World) (R13 : List Own), Ctx W w12 (R ++ R13) Φ → J (Value.int IntKind.i64 1) w12) (∀ (w14 : World) (R15 : List Own), Ctx W w14 (R ++ R15)
  Φ → J (Value.int IntKind.i64 0) w14))))))

theorem Berrataref03_Compare_run (a0 : Int) (a1 : Int) (a2 : ByteArray) (b0 : Int) (b1 : Int) (b2 : ByteArray) {W w : World} {R : List Own} {Φ : PW} [Stable Φ] {J : Value → World → Prop} (c : Ctx W w R Φ) (h : Berrataref03_Compare a0 a1 a2 b0 b1 b2 W R Φ J) : Calls Tryz.prog F.errataref03_Compare #[.agg #[.int .i64 a0, .int .i64 a1, .string a2], .agg #[.int .i64 b0, .int .i64 b1, .string b2]] w fun e w' => ∃ v, e = .returned v ∧ J v w' :=
  vcFS_sound (H := { keep := some [2, 3, 4, 9, 14, 19, 24, 29, 34], track := [2, 3] }) (by rw [show vcFS Tryz.prog W { keep := some [2, 3, 4, 9, 14, 19, 24, 29, 34], track := [2, 3] } F.errataref03_Compare #[.agg #[.int .i64 a0, .int .i64 a1, .string a2], .agg #[.int .i64 b0, .int .i64 b1, .string b2]] R Φ J = Berrataref03_Compare a0 a1 a2 b0 b1 b2 W R Φ J by kernel_rfl]; exact h) c

end Go.Proofs.YtnapfhbibikbiaaGreatDoor
end

/-
  The walks of strings.Builder, of the decimal form of ints, and of the encodings of ints and texts.
-/
section
set_option linter.unusedVariables false
set_option linter.unusedSimpArgs false
namespace Go.Proofs.YtnapfhbibikbiaaGreatDoor
open Go.Vc


abbrev BdT (b : Nat) (l : List UInt8) (R : List Own) : Prop := Bd 44 5 b l R

theorem bd_info : ∃ j, Tryz.prog.info? 44 = some j ∧ j.size = 2 := by
  have h : (Tryz.prog.info? 44).map (·.size) = some 2 := by kernel_rfl
  exact Option.map_eq_some_iff.1 h

set_option maxHeartbeats 1000000 in
set_option maxRecDepth 100000 in
theorem copyCheck_used (b : Nat) (w : World) (h0 : w.cell? ⟨b, 0, none⟩ = some (.pointer (some ⟨b, 0, none⟩))) :
    Calls Tryz.prog 40 #[.pointer (some ⟨b, 0, none⟩)] w fun e w' => e = .returned (.tuple #[]) ∧ w' = w := by
  obtain ⟨j, hj, _⟩ := bd_info
  go_enter Tryz.func40, Tryz.ntmps40
  go_wp2
  rw [Lib.run_neq_ptr_same w _ Tryz.underlying41 hj]
  go_wp2
  go_end0
  exact ⟨rfl, rfl⟩

set_option maxHeartbeats 1000000 in
set_option maxRecDepth 100000 in
theorem copyCheck_fresh (b : Nat) (w : World) (h0 : w.cell? ⟨b, 0, none⟩ = some (.pointer none)) (hsh : w.shape? b = some (44, 2)) (hfz : w.frozen? ⟨b, 0, none⟩ = false) :
    Calls Tryz.prog 40 #[.pointer (some ⟨b, 0, none⟩)] w fun e w' => e = .returned (.tuple #[]) ∧ w' = w.setCell ⟨b, 0, none⟩ (.pointer (some ⟨b, 0, none⟩)) := by
  obtain ⟨j, hj, hjs⟩ := bd_info
  go_enter Tryz.func40, Tryz.ntmps40
  go_wp2
  rw [Lib.run_to_unsafe w ⟨b, 0, none⟩ Tryz.underlying41 Tryz.underlying80 hj (by rw [hjs]; decide) hsh (Nat.zero_lt_succ 1)]
  simp only [Result.andThen]
  rw [Oper.upon_value]
  go_wp2
  rw [run_callFunc_extern Tryz.func57 (by kernel_rfl) (by kernel_rfl) (by kernel_rfl) (e := Extern.AbiNoEscape.same) (by kernel_rfl)]
  rw [Lib.run_noEscape]
  simp only [Result.andThen]
  rw [Oper.upon_value]
  go_wp2
  rw [Lib.run_from_unsafe w ⟨b, 0, none⟩ Tryz.underlying80 Tryz.underlying41 hj hsh (by kernel_rfl)]
  simp only [Result.andThen]
  rw [Oper.upon_value]
  go_wp2
  go_end0
  exact ⟨rfl, rfl⟩

theorem copyCheck_use {W w : World} {S : List Own} {Φ : PW} [Stable Φ] {b : Nat} {pa v : Value} (hp : pa = .pointer none ∨ pa = .pointer (some ⟨b, 0, none⟩)) (c : Ctx W w (.blk b [pa, v] 44 :: S) Φ) {K : Ending → World → Prop}
    (hk : ∀ w', Ctx W w' (.blk b [.pointer (some ⟨b, 0, none⟩), v] 44 :: S) Φ → K (.returned (.tuple #[])) w') : Calls Tryz.prog F.strings_Builder_copyCheck #[.pointer (some ⟨b, 0, none⟩)] w K := by
  have hb : w.heap[b]? = some (.cells #[pa, v] 44 (0, 0)) := c.blk 0 rfl
  rcases hp with rfl | rfl
  · exact (copyCheck_fresh b w (c.get 0 rfl rfl) (by simp [World.shape?, hb]) (by simp [World.frozen?, hb])).mono fun e w' ⟨he, hw⟩ => by
      subst he
      exact hk w' (c.put 0 hw rfl)
  · exact (copyCheck_used b w (c.get 0 rfl rfl)).mono fun e w' ⟨he, hw⟩ => by
      subst he; subst hw
      exact hk w' c

theorem byte_info : ∃ i, Tryz.prog.info? 5 = some i ∧ i.zero = some (.int .u8 0) ∧ i.size = 1 ∧ i.bytes = 1 := by
  have h : (Tryz.prog.info? 5).map (fun i => (i.zero, i.size, i.bytes)) = some (some (.int .u8 0), 1, 1) := by kernel_rfl
  obtain ⟨i, hi, he⟩ := Option.map_eq_some_iff.1 h
  simp only [Prod.mk.injEq] at he
  exact ⟨i, hi, he⟩

theorem strCells_bytes (s : ByteArray) : Lib.strCells s = Lib.byteCells s.data.toList := rfl

theorem WriteString_use {W w : World} {S R : List Own} {Φ : PW} [Stable Φ] {b : Nat} {l : List UInt8} (s : ByteArray) (h : BdT b l R) (c : Ctx W w (R ++ S) Φ) (hlen : l.length + s.size ≤ 100000000000) {K : Ending → World → Prop}
    (hk : ∀ R' w', BdT b (l ++ s.data.toList) R' → Ctx W w' (R' ++ S) Φ → K (.returned (.tuple #[.int .i64 s.size, .nilIface])) w') : Calls Tryz.prog F.strings_Builder_WriteString #[.pointer (some ⟨b, 0, none⟩), .string s] w K := by
  obtain ⟨pa, p, cap, hpa, rfl⟩ := h
  obtain ⟨i, hi, hz, hsz, hby⟩ := byte_info
  refine (Bstrings_Builder_WriteString_run b 0 s (J := fun u w' => K (.returned u) w') c ?_).mono fun e w' ⟨v, he, hj⟩ => by rw [he]; exact hj
  refine fun w G c => copyCheck_use hpa c fun w c => ⟨rfl, [.blk b [.pointer (some ⟨b, 0, none⟩), .slice p l.length cap] 44, .buf p l.length cap (Lib.byteCells l) 5 1] ++ S, Φ, inferInstance, c, fun w G c => ⟨p, l.length, cap, c.get 0 rfl rfl, fun w G c => ?_⟩⟩
  obtain ⟨p', cap', w', hrun, c'⟩ := Ctx.appStr (P := Tryz.prog) (t := 42) (u := 9) (ty := 42) (kb := #[false, false]) (c.swap) Tryz.underlying42 Tryz.underlying9 hi hz hsz hby s (by omega) (by unfold maxLen; omega)
  refine ⟨p', _, cap', w', hrun, [.blk b [.pointer (some ⟨b, 0, none⟩), .slice p l.length cap] 44, .buf p' (l.length + s.size) cap' (Lib.byteCells l ++ Lib.strCells s) 5 1] ++ S, Φ, inferInstance, c'.swap, fun w G c => ⟨c.can 0 rfl (by simp), fun w' hw' => ?_⟩⟩
  refine ⟨[.blk b [.pointer (some ⟨b, 0, none⟩), .slice p' (l.length + s.size) cap'] 44, .buf p' (l.length + s.size) cap' (Lib.byteCells l ++ Lib.strCells s) 5 1] ++ S, Φ, inferInstance, c.put 0 hw' rfl, fun w G c => hk [.blk b [.pointer (some ⟨b, 0, none⟩), .slice p' (l.length + s.size) cap'] 44, .buf p' (l.length + s.size) cap' (Lib.byteCells l ++ Lib.strCells s) 5 1] w ⟨_, p', cap', .inr rfl, ?_⟩ c.left⟩
  have hl : (l ++ s.data.toList).length = l.length + s.size := by rw [List.length_append, Array.length_toList]; rfl
  rw [hl, strCells_bytes, Lib.byteCells_append]

theorem String_use {W w : World} {S R : List Own} {Φ : PW} [Stable Φ] {b : Nat} {l : List UInt8} (h : BdT b l R) (c : Ctx W w (R ++ S) Φ) {K : Ending → World → Prop}
    (hk : ∀ w', Ctx W w' S Φ → K (.returned (.string ⟨l.toArray⟩)) w') : Calls Tryz.prog F.strings_Builder_String #[.pointer (some ⟨b, 0, none⟩)] w K :=
  Bd.string Tryz.lays169 Tryz.Builder_Extra_169 h c hk

end Go.Proofs.YtnapfhbibikbiaaGreatDoor
end

/-
  Lists in order: what the steps of a stable sort do (in plain Lean).
-/
section
set_option linter.unusedVariables false
set_option linter.unusedSimpArgs false
namespace Go.Vc

section
variable {ε : Type} {le : ε → ε → Prop}

/-- a total preorder -/
structure Ord (le : ε → ε → Prop) : Prop where
  total : ∀ x y, le x y ∨ le y x
  trans : ∀ x y z, le x y → le y z → le x z

theorem Ord.refl (h : Ord le) (x : ε) : le x x := (h.total x x).elim id id

abbrev Asc (le : ε → ε → Prop) (l : List ε) : Prop := l.Pairwise le

theorem asc_app {a b : List ε} (ha : Asc le a) (hb : Asc le b) (h : ∀ x ∈ a, ∀ y ∈ b, le x y) : Asc le (a ++ b) := List.pairwise_append.2 ⟨ha, hb, h⟩

theorem asc_get {l : List ε} (h : Asc le l) {i j : Nat} (hij : i < j) (hj : j < l.length) : le (l[i]'(by omega)) l[j] := List.pairwise_iff_getElem.1 h i j (by omega) hj hij

theorem asc_le (ho : Ord le) {l : List ε} (h : Asc le l) {i j : Nat} (hij : i ≤ j) (hj : j < l.length) : le (l[i]'(by omega)) l[j] := by
  rcases Nat.eq_or_lt_of_le hij with e | hlt
  · subst e; exact ho.refl _
  · exact asc_get h hlt hj

/-- one element is put where it belongs -/
theorem asc_put {a b : List ε} {x : ε} (h : Asc le (a ++ b)) (h1 : ∀ y ∈ a, le y x) (h2 : ∀ y ∈ b, le x y) : Asc le (a ++ x :: b) := by
  obtain ⟨ha, hb, hab⟩ := List.pairwise_append.1 h
  refine asc_app ha (List.pairwise_cons.2 ⟨h2, hb⟩) fun y hy z hz => ?_
  rcases List.mem_cons.1 hz with rfl | hz
  · exact h1 y hy
  · exact hab y hy z hz

/-- what a symmetric merge knows when it has found where to turn -/
theorem sym_split (ho : Ord le) {x y : List ε} (hx : Asc le x) (hy : Asc le y) (s t : Nat) (hs : s ≤ x.length) (ht : t ≤ y.length)
    (h1 : ∀ (h0 : 0 < s) (ht' : t < y.length), le (x[s - 1]'(by omega)) y[t]) (h2 : ∀ (h0 : 0 < t) (hs' : s < x.length), le (y[t - 1]'(by omega)) x[s]) :
    ∀ a ∈ x.take s ++ y.take t, ∀ b ∈ x.drop s ++ y.drop t, le a b := by
  have xx : ∀ a ∈ x.take s, ∀ b ∈ x.drop s, le a b := by
    have := hx
    rw [← List.take_append_drop s x] at this
    exact (List.pairwise_append.1 this).2.2
  have yy : ∀ a ∈ y.take t, ∀ b ∈ y.drop t, le a b := by
    have := hy
    rw [← List.take_append_drop t y] at this
    exact (List.pairwise_append.1 this).2.2
  have xy : ∀ a ∈ x.take s, ∀ b ∈ y.drop t, le a b := fun a ha b hb => by
    obtain ⟨i, hi, rfl⟩ := List.getElem_of_mem ha
    obtain ⟨j, hj, rfl⟩ := List.getElem_of_mem hb
    rw [List.length_take] at hi
    rw [List.length_drop] at hj
    rw [List.getElem_take, List.getElem_drop]
    exact ho.trans _ _ _ (asc_le ho hx (i := i) (j := s - 1) (by omega) (by omega)) (ho.trans _ _ _ (h1 (by omega) (by omega)) (asc_le ho hy (i := t) (j := t + j) (by omega) (by omega)))
  have yx : ∀ a ∈ y.take t, ∀ b ∈ x.drop s, le a b := fun a ha b hb => by
    obtain ⟨i, hi, rfl⟩ := List.getElem_of_mem ha
    obtain ⟨j, hj, rfl⟩ := List.getElem_of_mem hb
    rw [List.length_take] at hi
    rw [List.length_drop] at hj
    rw [List.getElem_take, List.getElem_drop]
    exact ho.trans _ _ _ (asc_le ho hy (i := i) (j := t - 1) (by omega) (by omega)) (ho.trans _ _ _ (h2 (by omega) (by omega)) (asc_le ho hx (i := s) (j := s + j) (by omega) (by omega)))
  intro a ha b hb
  rcases List.mem_append.1 ha with ha | ha <;> rcases List.mem_append.1 hb with hb | hb
  · exact xx a ha b hb
  · exact xy a ha b hb
  · exact yx a ha b hb
  · exact yy a ha b hb

theorem asc_take {l : List ε} (h : Asc le l) (k : Nat) : Asc le (l.take k) := h.sublist (List.take_sublist k l)
theorem asc_drop {l : List ε} (h : Asc le l) (k : Nat) : Asc le (l.drop k) := h.sublist (List.drop_sublist k l)

/-- two elements change places -/
def swp (l : List ε) (i j : Nat) : List ε := match l[i]?, l[j]? with
  | some x, some y => (l.set i y).set j x
  | _, _ => l

theorem swp_eq {l : List ε} {i j : Nat} (hi : i < l.length) (hj : j < l.length) : swp l i j = (l.set i l[j]).set j l[i] := by
  unfold swp
  rw [List.getElem?_eq_getElem hi, List.getElem?_eq_getElem hj]

theorem swp_next (a : List ε) (x y : ε) (b : List ε) : swp (a ++ x :: y :: b) a.length (a.length + 1) = a ++ y :: x :: b := by
  rw [swp_eq (by simp) (by simp)]
  simp [List.getElem_append_right, List.set_append]

theorem swp_far (a : List ε) (x : ε) (b : List ε) (y : ε) (c : List ε) : swp (a ++ x :: (b ++ y :: c)) a.length (a.length + 1 + b.length) = a ++ y :: (b ++ x :: c) := by
  have e : a ++ x :: (b ++ y :: c) = (a ++ x :: b) ++ y :: c := by simp
  have h1 : a.length < (a ++ x :: (b ++ y :: c)).length := by simp
  have h2 : a.length + 1 + b.length < (a ++ x :: (b ++ y :: c)).length := by simp; omega
  rw [swp_eq h1 h2]
  have g1 : (a ++ x :: (b ++ y :: c))[a.length]'h1 = x := by simp
  have g2 : (a ++ x :: (b ++ y :: c))[a.length + 1 + b.length]'h2 = y := by
    have : (a ++ x :: (b ++ y :: c))[a.length + 1 + b.length]? = some y := by
      rw [e, List.getElem?_append_right (by simp; omega)]
      simp
      rw [show a.length + 1 + b.length - (a.length + (b.length + 1)) = 0 by omega]
      rfl
    rw [List.getElem?_eq_getElem h2] at this
    exact Option.some.inj this
  rw [g1, g2]
  apply List.ext_getElem?
  intro k
  by_cases hk : k = a.length + 1 + b.length
  · subst hk
    rw [List.getElem?_set_self (by simp; omega)]
    have e2 : a ++ y :: (b ++ x :: c) = (a ++ y :: b) ++ x :: c := by simp
    rw [e2, List.getElem?_append_right (by simp; omega)]
    simp
    rw [show a.length + 1 + b.length - (a.length + (b.length + 1)) = 0 by omega]
    rfl
  · rw [List.getElem?_set_ne (by omega)]
    by_cases hk2 : k = a.length
    · subst hk2
      rw [List.getElem?_set_self h1]
      simp
    · rw [List.getElem?_set_ne (by omega)]
      by_cases hk3 : k < a.length
      · rw [List.getElem?_append_left hk3, List.getElem?_append_left hk3]
      · rw [List.getElem?_append_right (by omega), List.getElem?_append_right (by omega)]
        obtain ⟨m, hm⟩ : ∃ m, k - a.length = m + 1 := ⟨k - a.length - 1, by omega⟩
        rw [hm, List.getElem?_cons_succ, List.getElem?_cons_succ]
        by_cases hm2 : m < b.length
        · rw [List.getElem?_append_left hm2, List.getElem?_append_left hm2]
        · rw [List.getElem?_append_right (by omega), List.getElem?_append_right (by omega)]
          obtain ⟨q, hq⟩ : ∃ q, m - b.length = q + 1 := ⟨m - b.length - 1, by omega⟩
          rw [hq, List.getElem?_cons_succ, List.getElem?_cons_succ]

/-- chunks of one length, each in order, and a rest -/
structure Chunks (le : ε → ε → Prop) (bs : Nat) (cs : List (List ε)) (rest : List ε) : Prop where
  len : ∀ c ∈ cs, c.length = bs
  asc : ∀ c ∈ cs, Asc le c
  last : Asc le rest
  short : rest.length < bs

end

end Go.Vc
end

/-
  Values, rows and deltas in order (in plain Lean).
-/
section
set_option linter.unusedVariables false
set_option linter.unusedSimpArgs false
namespace Go.Proofs.YtnapfhbibikbiaaGreatDoor
open Go.Vc

structure ValD where
  kind : Int
  num : Int
  text : ByteArray
instance : Gv ValD := Gv.via (β := Int × Int × ByteArray) (fun x => (x.kind, x.num, x.text)) (fun y => ⟨y.1, y.2.1, y.2.2⟩) (fun _ => rfl)

structure DeltaD where
  time : Int
  row : List ValD
  n : Int
instance : Gv DeltaD := Gv.via (β := Int × List ValD × Int) (fun x => (x.time, x.row, x.n)) (fun y => ⟨y.1, y.2.1, y.2.2⟩) (fun _ => rfl)

abbrev ValD.v (x : ValD) : Value := .agg #[.int .i64 x.kind, .int .i64 x.num, .string x.text]

theorem val_ext {x y : ValD} : x = y ↔ (x.kind = y.kind ∧ (x.num = y.num ∧ x.text = y.text)) := by
  cases x; cases y; simp
instance : DecidableEq ValD := fun _ _ => decidable_of_iff _ val_ext.symm

/-! ### comparisons of three answers -/
structure Cmp {α : Type} (c : α → α → Int) : Prop where
  eq : ∀ x y, c x y = 0 ↔ x = y
  anti : ∀ x y, 0 < c x y ↔ c y x < 0
  trans : ∀ x y z, c x y < 0 → c y z < 0 → c x z < 0
  bd : ∀ x y, -1 ≤ c x y ∧ c x y ≤ 1

theorem Cmp.refl {α : Type} {c : α → α → Int} (h : Cmp c) (x : α) : c x x = 0 := (h.eq x x).2 rfl
theorem Cmp.tri {α : Type} {c : α → α → Int} (h : Cmp c) (x y : α) : c x y < 0 ∨ x = y ∨ c y x < 0 := by
  rcases Int.lt_trichotomy (c x y) 0 with h1 | h1 | h1
  · exact .inl h1
  · exact .inr (.inl ((h.eq x y).1 h1))
  · exact .inr (.inr ((h.anti x y).1 h1))
def cmpI (x y : Int) : Int := if x < y then -1 else if y < x then 1 else 0

theorem cmpI_cmp : Cmp cmpI := by
  refine ⟨fun x y => ?_, fun x y => ?_, fun x y z => ?_, fun x y => ?_⟩
  · unfold cmpI; split
    · constructor <;> intro h <;> omega
    · split
      · constructor <;> intro h <;> omega
      · constructor <;> intro h <;> omega
  · unfold cmpI; split <;> split <;> try split
    all_goals first | omega | (split <;> omega)
  · unfold cmpI; split
    · intro _
      split
      · intro _; rw [if_pos (by omega)]; omega
      · split <;> (intro h; omega)
    · split <;> (intro h; omega)
  · unfold cmpI; split; omega; split <;> omega

theorem bytes_cmp : Cmp Lib.compareBytes := by
  have heq : ∀ a b : List UInt8, Lib.compareBytes a b = 0 ↔ a = b := by
    intro a
    induction a with
    | nil => intro b; cases b <;> simp [Lib.compareBytes]
    | cons x a ih =>
      intro b
      cases b with
      | nil => simp [Lib.compareBytes]
      | cons y b =>
        unfold Lib.compareBytes
        split
        · rename_i h; constructor
          · intro h'; omega
          · intro h'; simp only [List.cons.injEq] at h'; rw [h'.1] at h; exact absurd h (by exact UInt8.lt_irrefl y)
        · split
          · rename_i h; constructor
            · intro h'; omega
            · intro h'; simp only [List.cons.injEq] at h'; rw [h'.1] at h; exact absurd h (by exact UInt8.lt_irrefl y)
          · rename_i h1 h2
            have : x = y := UInt8.le_antisymm (UInt8.not_lt.1 h2) (UInt8.not_lt.1 h1)
            subst this
            rw [ih b]
            simp
  have hanti : ∀ a b : List UInt8, 0 < Lib.compareBytes a b ↔ Lib.compareBytes b a < 0 := by
    intro a
    induction a with
    | nil => intro b; cases b <;> simp [Lib.compareBytes]
    | cons x a ih =>
      intro b
      cases b with
      | nil => simp [Lib.compareBytes]
      | cons y b =>
        unfold Lib.compareBytes
        by_cases h1 : x < y
        · rw [if_pos h1, if_neg (UInt8.lt_asymm h1), if_pos h1]; omega
        · rw [if_neg h1]
          by_cases h2 : y < x
          · rw [if_pos h2, if_pos h2]; omega
          · rw [if_neg h2, if_neg h2, if_neg h1]; exact ih b
  have htrans : ∀ a b c : List UInt8, Lib.compareBytes a b < 0 → Lib.compareBytes b c < 0 → Lib.compareBytes a c < 0 := by
    intro a
    induction a with
    | nil =>
      intro b c h1 h2
      cases c with
      | nil => cases b <;> simp [Lib.compareBytes] at h2
      | cons => simp [Lib.compareBytes]
    | cons x a ih =>
      intro b c h1 h2
      cases b with
      | nil => simp [Lib.compareBytes] at h1
      | cons y b =>
        cases c with
        | nil => simp [Lib.compareBytes] at h2
        | cons z c =>
          unfold Lib.compareBytes at h1 h2 ⊢
          by_cases hxy : x < y
          · by_cases hyz : y < z
            · rw [if_pos (UInt8.lt_trans hxy hyz)]; omega
            · rw [if_neg hyz] at h2
              by_cases hzy : z < y
              · rw [if_pos hzy] at h2; omega
              · have : y = z := UInt8.le_antisymm (UInt8.not_lt.1 hzy) (UInt8.not_lt.1 hyz)
                subst this
                rw [if_pos hxy]; omega
          · rw [if_neg hxy] at h1
            by_cases hyx : y < x
            · rw [if_pos hyx] at h1; omega
            · have : x = y := UInt8.le_antisymm (UInt8.not_lt.1 hyx) (UInt8.not_lt.1 hxy)
              subst this
              rw [if_neg hyx] at h1
              by_cases hyz : x < z
              · rw [if_pos hyz]; omega
              · rw [if_neg hyz] at h2 ⊢
                by_cases hzy : z < x
                · rw [if_pos hzy] at h2; omega
                · rw [if_neg hzy] at h2 ⊢
                  exact ih b c h1 h2
  have hbd : ∀ a b : List UInt8, -1 ≤ Lib.compareBytes a b ∧ Lib.compareBytes a b ≤ 1 := by
    intro a
    induction a with
    | nil => intro b; cases b <;> simp [Lib.compareBytes]
    | cons x a ih =>
      intro b
      cases b with
      | nil => simp [Lib.compareBytes]
      | cons y b =>
        unfold Lib.compareBytes
        split
        · omega
        · split
          · omega
          · exact ih b
  exact ⟨heq, hanti, htrans, hbd⟩

def cmpT (a b : ByteArray) : Int := Lib.compareBytes a.data.toList b.data.toList
theorem cmpT_cmp : Cmp cmpT :=
  ⟨fun x y => (bytes_cmp.eq _ _).trans ⟨fun h => ByteArray.ext (Array.toList_inj.1 h), fun h => by rw [h]⟩, fun x y => bytes_cmp.anti _ _, fun x y z => bytes_cmp.trans _ _ _, fun x y => bytes_cmp.bd _ _⟩

def orI : List Int → Int
  | [] => 0
  | x :: r => if x ≠ 0 then x else orI r

theorem orI_two (a b : Int) : orI [a, b] = if a ≠ 0 then a else b := by
  unfold orI orI orI
  split
  · rfl
  · split
    · rfl
    · omega

/-- first the one, then the other -/
def lex {α β : Type} (c : α → α → Int) (d : β → β → Int) (x y : α × β) : Int := if c x.1 y.1 ≠ 0 then c x.1 y.1 else d x.2 y.2

theorem lex_cmp {α β : Type} {c : α → α → Int} {d : β → β → Int} (hc : Cmp c) (hd : Cmp d) : Cmp (lex c d) := by
  refine ⟨fun x y => ?_, fun x y => ?_, fun x y z h1 h2 => ?_, fun x y => ?_⟩
  · unfold lex
    by_cases h : c x.1 y.1 = 0
    · rw [if_neg (by simp [h]), hd.eq]
      have := (hc.eq _ _).1 h
      constructor
      · intro h'; exact Prod.ext this h'
      · intro h'; rw [h']
    · rw [if_pos h]
      constructor
      · intro h'; exact absurd h' h
      · intro h'; rw [h'] at h; exact absurd (hc.refl _) h
  · unfold lex
    by_cases h : c x.1 y.1 = 0
    · have := (hc.eq _ _).1 h
      rw [if_neg (by simp [h]), if_neg (by rw [this]; simp [hc.refl])]
      exact hd.anti _ _
    · have h2 : c y.1 x.1 ≠ 0 := fun e => h ((hc.eq _ _).2 ((hc.eq _ _).1 e).symm)
      rw [if_pos h, if_pos h2]
      exact hc.anti _ _
  · unfold lex at h1 h2 ⊢
    by_cases e1 : c x.1 y.1 = 0
    · rw [if_neg (by simp [e1])] at h1
      have q := (hc.eq _ _).1 e1
      rw [q]
      by_cases e2 : c y.1 z.1 = 0
      · rw [if_neg (by simp [e2])] at h2 ⊢
        exact hd.trans _ _ _ h1 h2
      · rw [if_pos e2] at h2 ⊢
        exact h2
    · rw [if_pos e1] at h1
      by_cases e2 : c y.1 z.1 = 0
      · have q := (hc.eq _ _).1 e2
        rw [← q, if_pos e1]
        exact h1
      · rw [if_pos e2] at h2
        have := hc.trans _ _ _ h1 h2
        rw [if_pos (by omega)]
        exact this
  · unfold lex
    split
    · exact hc.bd _ _
    · exact hd.bd _ _

theorem Cmp.on {α β : Type} {c : β → β → Int} (h : Cmp c) (f : α → β) (hf : ∀ x y, f x = f y → x = y) : Cmp (fun x y => c (f x) (f y)) :=
  ⟨fun x y => ⟨fun e => hf _ _ ((h.eq _ _).1 e), fun e => by rw [e]; exact h.refl _⟩, fun x y => h.anti _ _, fun x y z => h.trans _ _ _, fun x y => h.bd _ _⟩

abbrev cmpL (x y : ValD) : List Int := [cmpI x.kind y.kind, cmpI x.num y.num, cmpT x.text y.text]
def cmpV (x y : ValD) : Int := orI (cmpL x y)

theorem cmpV_lex (x y : ValD) : cmpV x y = lex cmpI (lex cmpI cmpT) (x.kind, x.num, x.text) (y.kind, y.num, y.text) := by
  unfold cmpV cmpL lex
  rw [orI]
  split
  · rfl
  · rw [orI_two]

theorem cmpV_cmp : Cmp cmpV := by
  have h := (lex_cmp cmpI_cmp (lex_cmp cmpI_cmp cmpT_cmp)).on (fun x : ValD => (x.kind, x.num, x.text)) (fun x y e => by cases x; cases y; simpa using e)
  have e : cmpV = fun x y => lex cmpI (lex cmpI cmpT) (x.kind, x.num, x.text) (y.kind, y.num, y.text) := by funext x y; exact cmpV_lex x y
  rw [e]; exact h

def cmpR : List ValD → List ValD → Int
  | [], [] => 0
  | [], _ :: _ => -1
  | _ :: _, [] => 1
  | a :: ar, b :: br => if cmpV a b ≠ 0 then cmpV a b else cmpR ar br

theorem cmpR_cmp : Cmp cmpR := by
  refine ⟨?_, ?_, ?_, ?_⟩
  · intro x
    induction x with
    | nil => intro y; cases y <;> simp [cmpR]
    | cons a x ih =>
      intro y
      cases y with
      | nil => simp [cmpR]
      | cons b y =>
        unfold cmpR
        by_cases h : cmpV a b = 0
        · rw [if_neg (by simp [h]), ih y, (cmpV_cmp.eq _ _).1 h]; simp
        · rw [if_pos h]
          constructor
          · intro h'; exact absurd h' h
          · intro h'; simp only [List.cons.injEq] at h'; rw [h'.1] at h; exact absurd (cmpV_cmp.refl _) h
  · intro x
    induction x with
    | nil => intro y; cases y <;> simp [cmpR]
    | cons a x ih =>
      intro y
      cases y with
      | nil => simp [cmpR]
      | cons b y =>
        unfold cmpR
        by_cases h : cmpV a b = 0
        · have := (cmpV_cmp.eq _ _).1 h
          rw [if_neg (by simp [h]), if_neg (by rw [this]; simp [cmpV_cmp.refl])]
          exact ih y
        · have h2 : cmpV b a ≠ 0 := fun e => h ((cmpV_cmp.eq _ _).2 ((cmpV_cmp.eq _ _).1 e).symm)
          rw [if_pos h, if_pos h2]
          exact cmpV_cmp.anti _ _
  · intro x
    induction x with
    | nil =>
      intro y z h1 h2
      cases z with
      | nil => cases y <;> simp [cmpR] at h2
      | cons => simp [cmpR]
    | cons a x ih =>
      intro y z h1 h2
      cases y with
      | nil => simp [cmpR] at h1
      | cons b y =>
        cases z with
        | nil => simp [cmpR] at h2
        | cons c z =>
          unfold cmpR at h1 h2 ⊢
          by_cases e1 : cmpV a b = 0
          · rw [if_neg (by simp [e1])] at h1
            have q := (cmpV_cmp.eq _ _).1 e1
            rw [q]
            by_cases e2 : cmpV b c = 0
            · rw [if_neg (by simp [e2])] at h2 ⊢
              exact ih y z h1 h2
            · rw [if_pos e2] at h2 ⊢
              exact h2
          · rw [if_pos e1] at h1
            by_cases e2 : cmpV b c = 0
            · have q := (cmpV_cmp.eq _ _).1 e2
              rw [← q, if_pos e1]
              exact h1
            · rw [if_pos e2] at h2
              have := cmpV_cmp.trans _ _ _ h1 h2
              rw [if_pos (by omega)]
              exact this
  · intro x
    induction x with
    | nil => intro y; cases y <;> simp [cmpR]
    | cons a x ih =>
      intro y
      cases y with
      | nil => simp [cmpR]
      | cons b y =>
        unfold cmpR
        split
        · exact cmpV_cmp.bd _ _
        · exact ih y

theorem cmpR_left {l r : List ValD} {i : Nat} (hi : i < l.length) (hr : r.length ≤ i) : cmpR (l.drop i) (r.drop i) = 1 := by
  rw [List.drop_eq_getElem_cons hi, List.drop_of_length_le hr]; rfl
theorem cmpR_both {l r : List ValD} {i : Nat} (hi : i < l.length) (hr : i < r.length) : cmpR (l.drop i) (r.drop i) = if cmpV l[i] r[i] ≠ 0 then cmpV l[i] r[i] else cmpR (l.drop (i + 1)) (r.drop (i + 1)) := by
  rw [List.drop_eq_getElem_cons hi, List.drop_eq_getElem_cons hr]; rfl

/-! ### deltas -/
abbrev Key : Type := Int × List ValD
abbrev DeltaD.key (x : DeltaD) : Key := (x.time, x.row)
def cmpK (x y : Key) : Int := lex cmpI cmpR x y
theorem cmpK_cmp : Cmp cmpK := lex_cmp cmpI_cmp cmpR_cmp
abbrev cmpDL (x y : DeltaD) : List Int := [cmpI x.time y.time, cmpR x.row y.row]
def cmpD (x y : DeltaD) : Int := orI (cmpDL x y)
theorem cmpD_key (x y : DeltaD) : cmpD x y = cmpK x.key y.key := by
  unfold cmpD cmpDL cmpK lex
  rw [orI_two]
theorem delta_ext {x y : DeltaD} (h1 : x.key = y.key) (h2 : x.n = y.n) : x = y := by
  cases x; cases y
  simp only [DeltaD.key, Prod.mk.injEq] at h1
  simp only at h2
  obtain ⟨rfl, rfl⟩ := h1
  subst h2
  rfl

end Go.Proofs.YtnapfhbibikbiaaGreatDoor
end

/-
  Consolidated lists of deltas (in plain Lean).
-/
section
set_option linter.unusedVariables false
set_option linter.unusedSimpArgs false
namespace Go.Proofs.YtnapfhbibikbiaaGreatDoor
open Go.Vc

/-! ### sums that wrap round -/
abbrev w64 (x : Int) : Int := IntKind.i64.wrap x
theorem w64_eq (x : Int) : w64 x = if 9223372036854775808 ≤ x % 18446744073709551616 then x % 18446744073709551616 - 18446744073709551616 else x % 18446744073709551616 := by
  simp [w64, IntKind.wrap, IntKind.signed, IntKind.bits]
theorem w64_in (x : Int) : I64 (w64 x) := by rw [w64_eq]; unfold I64; split <;> omega
theorem w64_id {x : Int} (h : I64 x) : w64 x = x := by rw [w64_eq]; unfold I64 at h; split <;> omega
theorem w64_mod (x : Int) : (w64 x - x) % 18446744073709551616 = 0 := by rw [w64_eq]; split <;> omega
theorem w64_cong {x y : Int} (h : (x - y) % 18446744073709551616 = 0) : w64 x = w64 y := by
  rw [w64_eq, w64_eq]
  have : x % 18446744073709551616 = y % 18446744073709551616 := by omega
  rw [this]
theorem w64_l (x y : Int) : w64 (w64 x + y) = w64 (x + y) := w64_cong (by have := w64_mod x; omega)
theorem w64_r (x y : Int) : w64 (x + w64 y) = w64 (x + y) := w64_cong (by have := w64_mod y; omega)
theorem w64_w (x : Int) : w64 (w64 x) = w64 x := w64_id (w64_in x)

/-- how often something is there, before it wraps round -/
def sumK : List DeltaD → Key → Int
  | [], _ => 0
  | x :: l, k => (if x.key = k then x.n else 0) + sumK l k

def findP (l : List DeltaD) (k : Key) : Int := w64 (sumK l k)

theorem sumK_app : ∀ (a b : List DeltaD) (k : Key), sumK (a ++ b) k = sumK a k + sumK b k
  | [], b, k => by simp [sumK]
  | x :: a, b, k => by simp only [List.cons_append, sumK, sumK_app a b k]; omega

theorem sumK_perm {a b : List DeltaD} (h : a.Perm b) (k : Key) : sumK a k = sumK b k := by
  induction h with
  | nil => rfl
  | cons x _ ih => simp only [sumK, ih]
  | swap x y l => simp only [sumK]; omega
  | trans _ _ h1 h2 => exact h1.trans h2

theorem findP_perm {a b : List DeltaD} (h : a.Perm b) (k : Key) : findP a k = findP b k := by unfold findP; rw [sumK_perm h]

theorem findP_app (a b : List DeltaD) (k : Key) : findP (a ++ b) k = w64 (findP a k + findP b k) := by
  unfold findP
  rw [w64_l, w64_r, sumK_app]

theorem sumK_none {l : List DeltaD} {k : Key} (h : ∀ x ∈ l, x.key ≠ k) : sumK l k = 0 := by
  induction l with
  | nil => rfl
  | cons x l ih =>
    simp only [sumK]
    rw [if_neg (h x (by simp)), ih fun y hy => h y (by simp [hy])]
    rfl

/-! ### the consolidated form -/
structure Norm (c : List DeltaD) : Prop where
  asc : c.Pairwise fun x y => cmpD x y < 0
  nz : ∀ x ∈ c, x.n ≠ 0
  i64 : ∀ x ∈ c, I64 x.n

theorem Norm.nil : Norm [] := ⟨List.Pairwise.nil, by simp, by simp⟩
theorem Norm.tail {x : DeltaD} {c : List DeltaD} (h : Norm (x :: c)) : Norm c := ⟨(List.pairwise_cons.1 h.asc).2, fun y hy => h.nz y (by simp [hy]), fun y hy => h.i64 y (by simp [hy])⟩
theorem Norm.head {x : DeltaD} {c : List DeltaD} (h : Norm (x :: c)) : ∀ y ∈ c, cmpK x.key y.key < 0 := fun y hy => by
  rw [← cmpD_key]; exact (List.pairwise_cons.1 h.asc).1 y hy
theorem Norm.cons {x : DeltaD} {c : List DeltaD} (h : Norm c) (h1 : ∀ y ∈ c, cmpK x.key y.key < 0) (h2 : x.n ≠ 0) (h3 : I64 x.n) : Norm (x :: c) :=
  ⟨List.pairwise_cons.2 ⟨fun y hy => by rw [cmpD_key]; exact h1 y hy, h.asc⟩, fun y hy => by rcases List.mem_cons.1 hy with rfl | hy; exact h2; exact h.nz y hy, fun y hy => by rcases List.mem_cons.1 hy with rfl | hy; exact h3; exact h.i64 y hy⟩

theorem Norm.head_ne {x : DeltaD} {c : List DeltaD} (h : Norm (x :: c)) : ∀ y ∈ c, y.key ≠ x.key := fun y hy e => by
  have := h.head y hy
  rw [e, cmpK_cmp.refl] at this
  omega

theorem Norm.find_head {x : DeltaD} {c : List DeltaD} (h : Norm (x :: c)) : findP (x :: c) x.key = x.n := by
  unfold findP
  rw [show sumK (x :: c) x.key = (if x.key = x.key then x.n else 0) + sumK c x.key from rfl, if_pos rfl, sumK_none h.head_ne, Int.add_zero]
  exact w64_id (h.i64 x (by simp))

/-- there is one consolidated list alone for what is there -/
theorem norm_unique : ∀ {c d : List DeltaD}, Norm c → Norm d → (∀ k, findP c k = findP d k) → c = d := by
  have none : ∀ {c : List DeltaD} {x : DeltaD} {l : List DeltaD}, Norm (x :: l) → (∀ y ∈ c, y.key ≠ x.key) → findP (x :: l) x.key = findP c x.key → False := fun {c x l} h hc e => by
    rw [h.find_head] at e
    unfold findP at e
    rw [sumK_none hc] at e
    exact h.nz x (by simp) e
  intro c
  induction c with
  | nil =>
    intro d _ hd h
    cases d with
    | nil => rfl
    | cons y d => exact (none (c := []) hd (by simp) (h _).symm).elim
  | cons x c ih =>
    intro d hc hd h
    cases d with
    | nil => exact (none (c := []) hc (by simp) (h _)).elim
    | cons y d =>
      rcases cmpK_cmp.tri x.key y.key with hlt | he | hgt
      · refine (none (c := y :: d) hc (fun z hz e => ?_) (h _)).elim
        rcases List.mem_cons.1 hz with rfl | hz
        · rw [e, cmpK_cmp.refl] at hlt; omega
        · have := cmpK_cmp.trans _ _ _ hlt (hd.head z hz)
          rw [e, cmpK_cmp.refl] at this; omega
      · have hn : x.n = y.n := by rw [← hc.find_head, ← hd.find_head, ← he, h]
        have hxy : x = y := delta_ext he hn
        subst hxy
        congr 1
        refine ih hc.tail hd.tail fun k => ?_
        by_cases hk : x.key = k
        · subst hk
          unfold findP
          rw [sumK_none hc.head_ne, sumK_none hd.head_ne]
        · have := h k
          unfold findP at this ⊢
          simp only [sumK] at this
          rwa [if_neg hk, Int.zero_add, Int.zero_add] at this
      · refine (none (c := x :: c) hd (fun z hz e => ?_) (h _).symm).elim
        rcases List.mem_cons.1 hz with rfl | hz
        · rw [e, cmpK_cmp.refl] at hgt; omega
        · have := cmpK_cmp.trans _ _ _ hgt (hc.head z hz)
          rw [e, cmpK_cmp.refl] at this; omega

/-- one more element -/
def insD (x : DeltaD) : List DeltaD → List DeltaD
  | [] => if w64 x.n = 0 then [] else [⟨x.time, x.row, w64 x.n⟩]
  | y :: t => if cmpD x y < 0 then (if w64 x.n = 0 then y :: t else ⟨x.time, x.row, w64 x.n⟩ :: y :: t)
      else if cmpD x y = 0 then (if w64 (x.n + y.n) = 0 then t else ⟨y.time, y.row, w64 (x.n + y.n)⟩ :: t)
      else y :: insD x t

theorem insD_key (x : DeltaD) : ∀ (c : List DeltaD), ∀ z ∈ insD x c, z.key = x.key ∨ ∃ y ∈ c, y.key = z.key := by
  intro c
  induction c with
  | nil =>
    intro z hz
    unfold insD at hz
    split at hz
    · cases hz
    · rcases List.mem_singleton.1 hz with rfl; exact .inl rfl
  | cons y t ih =>
    intro z hz
    unfold insD at hz
    split at hz
    · split at hz
      · exact .inr ⟨z, hz, rfl⟩
      · rcases List.mem_cons.1 hz with rfl | hz
        · exact .inl rfl
        · exact .inr ⟨z, hz, rfl⟩
    · split at hz
      · split at hz
        · exact .inr ⟨z, by simp [hz], rfl⟩
        · rcases List.mem_cons.1 hz with rfl | hz
          · exact .inr ⟨y, by simp, rfl⟩
          · exact .inr ⟨z, by simp [hz], rfl⟩
      · rcases List.mem_cons.1 hz with rfl | hz
        · exact .inr ⟨z, by simp, rfl⟩
        · rcases ih z hz with h | ⟨y', hy, h⟩
          · exact .inl h
          · exact .inr ⟨y', by simp [hy], h⟩

theorem insD_norm (x : DeltaD) : ∀ {c : List DeltaD}, Norm c → Norm (insD x c) ∧ ∀ k, findP (insD x c) k = findP (x :: c) k := by
  intro c
  induction c with
  | nil =>
    intro _
    unfold insD
    split
    · rename_i h
      refine ⟨Norm.nil, fun k => ?_⟩
      unfold findP
      simp only [sumK]
      split
      · rw [Int.add_zero, h]; rfl
      · rfl
    · rename_i h
      refine ⟨Norm.nil.cons (by simp) h (w64_in _), fun k => ?_⟩
      unfold findP
      simp only [sumK]
      by_cases hk : x.key = k
      · rw [if_pos hk, if_pos (show (⟨x.time, x.row, w64 x.n⟩ : DeltaD).key = k from hk), Int.add_zero, Int.add_zero, w64_w]
      · rw [if_neg hk, if_neg (show ¬ (⟨x.time, x.row, w64 x.n⟩ : DeltaD).key = k from hk)]
  | cons y t ih =>
    intro h
    unfold insD
    by_cases h1 : cmpD x y < 0
    · rw [if_pos h1]
      have hlt : ∀ z ∈ y :: t, cmpK x.key z.key < 0 := fun z hz => by
        rw [cmpD_key] at h1
        rcases List.mem_cons.1 hz with rfl | hz
        · exact h1
        · exact cmpK_cmp.trans _ _ _ h1 (h.head z hz)
      split
      · rename_i hz
        refine ⟨h, fun k => ?_⟩
        unfold findP
        rw [show sumK (x :: y :: t) k = (if x.key = k then x.n else 0) + sumK (y :: t) k from rfl]
        split
        · rw [← w64_l, hz, Int.zero_add]
        · rw [Int.zero_add]
      · rename_i hz
        refine ⟨h.cons hlt hz (w64_in _), fun k => ?_⟩
        unfold findP
        rw [show sumK (x :: y :: t) k = (if x.key = k then x.n else 0) + sumK (y :: t) k from rfl,
          show sumK (⟨x.time, x.row, w64 x.n⟩ :: y :: t) k = (if x.key = k then w64 x.n else 0) + sumK (y :: t) k from rfl]
        split
        · rw [w64_l]
        · rfl
    · rw [if_neg h1]
      by_cases h2 : cmpD x y = 0
      · rw [if_pos h2]
        have hk : x.key = y.key := by rw [cmpD_key] at h2; exact (cmpK_cmp.eq _ _).1 h2
        split
        · rename_i hz
          refine ⟨h.tail, fun k => ?_⟩
          unfold findP
          rw [show sumK (x :: y :: t) k = (if x.key = k then x.n else 0) + ((if y.key = k then y.n else 0) + sumK t k) from rfl, hk]
          split
          · rw [← Int.add_assoc, ← w64_l, hz, Int.zero_add]
          · rw [Int.zero_add, Int.zero_add]
        · rename_i hz
          refine ⟨h.tail.cons (fun z hz' => h.head z hz') hz (w64_in _), fun k => ?_⟩
          unfold findP
          rw [show sumK (x :: y :: t) k = (if x.key = k then x.n else 0) + ((if y.key = k then y.n else 0) + sumK t k) from rfl, hk,
            show sumK (⟨y.time, y.row, w64 (x.n + y.n)⟩ :: t) k = (if y.key = k then w64 (x.n + y.n) else 0) + sumK t k from rfl]
          split
          · rw [w64_l, Int.add_assoc]
          · simp only [Int.zero_add]
      · rw [if_neg h2]
        obtain ⟨ih1, ih2⟩ := ih h.tail
        have hgt : cmpK y.key x.key < 0 := by
          rw [cmpD_key] at h1 h2
          exact (cmpK_cmp.anti _ _).1 (by omega)
        refine ⟨ih1.cons (fun z hz => ?_) (h.nz y (by simp)) (h.i64 y (by simp)), fun k => ?_⟩
        · rcases insD_key x t z hz with e | ⟨y', hy', e⟩
          · rw [e]; exact hgt
          · rw [← e]; exact h.head y' hy'
        · have := ih2 k
          unfold findP at this ⊢
          rw [show sumK (y :: insD x t) k = (if y.key = k then y.n else 0) + sumK (insD x t) k from rfl, show sumK (x :: y :: t) k = (if x.key = k then x.n else 0) + ((if y.key = k then y.n else 0) + sumK t k) from rfl, ← w64_r, this, w64_r]
          rw [show sumK (x :: t) k = (if x.key = k then x.n else 0) + sumK t k from rfl]
          congr 1
          omega

/-- the consolidated list of what is there -/
def consP (l : List DeltaD) : List DeltaD := l.foldr insD []

theorem consP_norm (l : List DeltaD) : Norm (consP l) ∧ ∀ k, findP (consP l) k = findP l k := by
  induction l with
  | nil => exact ⟨Norm.nil, fun k => rfl⟩
  | cons x l ih =>
    obtain ⟨h1, h2⟩ := insD_norm x ih.1
    refine ⟨h1, fun k => ?_⟩
    show findP (insD x (consP l)) k = _
    rw [h2]
    have := ih.2 k
    unfold findP at this ⊢
    rw [show sumK (x :: consP l) k = (if x.key = k then x.n else 0) + sumK (consP l) k from rfl, show sumK (x :: l) k = (if x.key = k then x.n else 0) + sumK l k from rfl, ← w64_r, this, w64_r]

theorem consP_is {l c : List DeltaD} (h : Norm c) (hf : ∀ k, findP c k = findP l k) : consP l = c :=
  norm_unique (consP_norm l).1 h fun k => by rw [(consP_norm l).2, hf]
theorem consP_self {l : List DeltaD} (h : Norm l) : consP l = l := consP_is h fun _ => rfl
theorem consP_cons (l : List DeltaD) : consP (consP l) = consP l := consP_self (consP_norm l).1

theorem insD_len (x : DeltaD) : ∀ c : List DeltaD, (insD x c).length ≤ c.length + 1
  | [] => by unfold insD; split <;> simp
  | y :: t => by
    unfold insD
    split
    · split <;> simp
    · split
      · split <;> simp <;> omega
      · have := insD_len x t
        simp only [List.length_cons]; omega
theorem consP_len : ∀ l : List DeltaD, (consP l).length ≤ l.length
  | [] => Nat.le_refl _
  | x :: l => by
    have h1 := insD_len x (consP l)
    have h2 := consP_len l
    show (insD x (consP l)).length ≤ l.length + 1
    omega

end Go.Proofs.YtnapfhbibikbiaaGreatDoor
end

/-
  Deltas as they lie in memory.
-/
section
set_option linter.unusedVariables false
set_option linter.unusedSimpArgs false
namespace Go.Proofs.YtnapfhbibikbiaaGreatDoor
open Go.Vc

abbrev DeltaD.v (x : DeltaD) (p : Option Addr) (c : Nat) : Value := .agg #[.int .i64 x.time, .slice p x.row.length c, .int .i64 x.n]
abbrev DeltaD.cells (x : DeltaD) (p : Option Addr) (c : Nat) : List Value := [.int .i64 x.time, .slice p x.row.length c, .int .i64 x.n]

theorem delta_cells {M : List Nat} {w : World} {cs : List Value} {x : DeltaD} (h : Gv.rep M w cs x) : ∃ p c, cs = x.cells p c ∧ x.row.length ≤ c ∧ c ≤ maxLen ∧ I64 x.time ∧ I64 x.n ∧ Sl M w p x.row := by
  obtain ⟨_, _, rfl, ⟨rfl, ht⟩, _, _, rfl, ⟨p, c, rfl, h1, h2, h3⟩, rfl, hn⟩ := h
  exact ⟨p, c, rfl, h1, h2, ht, hn, h3⟩

theorem rep_delta {M : List Nat} {w : World} {x : DeltaD} {p : Option Addr} {c : Nat} (h1 : x.row.length ≤ c) (h2 : c ≤ maxLen) (h3 : I64 x.time) (h4 : I64 x.n) (h5 : Sl M w p x.row) : Gv.rep M w (x.cells p c) x :=
  ⟨[.int .i64 x.time], [.slice p x.row.length c, .int .i64 x.n], rfl, ⟨rfl, h3⟩, [.slice p x.row.length c], [.int .i64 x.n], rfl, ⟨p, c, rfl, h1, h2, h5⟩, rfl, h4⟩

theorem delta_row {M : List Nat} {w : World} {x : DeltaD} {p : Option Addr} {c : Nat} (h : Gv.rep M w (x.cells p c) x) : Sl M w p x.row := by
  obtain ⟨p', c', e, _, _, _, _, h1⟩ := delta_cells h
  simp only [DeltaD.cells, List.cons.injEq, Value.slice.injEq] at e
  rw [e.2.1.1]
  exact h1

theorem delta_one (M : List Nat) (w : World) (cs : List Value) (x : DeltaD) (h : Gv.rep M w cs x) : (cs.all fun u => oneC u) = true := by
  obtain ⟨p, c, rfl, _⟩ := delta_cells h
  rfl

/-- a delta, and where its row lies -/
structure DE where
  d : DeltaD
  p : Option Addr
  c : Nat
abbrev DE.cells (x : DE) : List Value := x.d.cells x.p x.c
abbrev DE.v (x : DE) : Value := x.d.v x.p x.c

def cellsE : List DE → List Value
  | [] => []
  | x :: l => .int .i64 x.d.time :: .slice x.p x.d.row.length x.c :: .int .i64 x.d.n :: cellsE l

theorem cellsE_len : ∀ l : List DE, (cellsE l).length = l.length * 3
  | [] => rfl
  | x :: l => by simp only [cellsE, List.length_cons, cellsE_len l]; omega
theorem cellsE_app : ∀ a b : List DE, cellsE (a ++ b) = cellsE a ++ cellsE b
  | [], b => rfl
  | x :: a, b => by simp only [List.cons_append, cellsE, cellsE_app a b]
theorem cellsE_drop : ∀ (l : List DE) (k : Nat), (cellsE l).drop (k * 3) = cellsE (l.drop k)
  | l, 0 => by simp
  | [], k + 1 => by simp [cellsE]
  | x :: l, k + 1 => by
    rw [show (k + 1) * 3 = k * 3 + 1 + 1 + 1 by omega]
    simp only [cellsE, List.drop_succ_cons]
    exact cellsE_drop l k
theorem cellsE_take : ∀ (l : List DE) (k : Nat), (cellsE l).take (k * 3) = cellsE (l.take k)
  | l, 0 => by simp [cellsE]
  | [], k + 1 => by simp [cellsE]
  | x :: l, k + 1 => by
    rw [show (k + 1) * 3 = k * 3 + 1 + 1 + 1 by omega]
    simp only [cellsE, List.take_succ_cons]
    rw [cellsE_take l k]
theorem cellsE_at {l : List DE} {i : Nat} (h : i < l.length) : ((cellsE l).drop (i * 3)).take 3 = l[i].cells := by
  rw [cellsE_drop, List.drop_eq_getElem_cons h]
  rfl
theorem cellsE_set {l : List DE} {i : Nat} (h : i < l.length) (x : DE) : setL (cellsE l) (i * 3) x.cells = cellsE (l.set i x) := by
  induction l generalizing i with
  | nil => simp at h
  | cons y l ih =>
    cases i with
    | zero => rfl
    | succ i =>
      have := ih (i := i) (by simpa using h)
      rw [List.set_cons_succ]
      simp only [cellsE]
      rw [← this]
      apply List.ext_getElem?
      intro k
      have hlen : (cellsE l).length = l.length * 3 := cellsE_len l
      have hi : i < l.length := by simpa using h
      by_cases hk : k < 3
      · rw [setL_get _ _ _ _ (by omega)]
        match k, hk with
        | 0, _ => rfl
        | 1, _ => rfl
        | 2, _ => rfl
      · obtain ⟨m, rfl⟩ : ∃ m, k = m + 3 := ⟨k - 3, by omega⟩
        simp only [List.getElem?_cons_succ]
        by_cases h1 : m < i * 3 ∨ i * 3 + 3 ≤ m
        · rw [setL_get _ _ _ _ (by simp; omega), setL_get _ _ _ _ (by simp; omega)]
          simp only [List.getElem?_cons_succ]
        · obtain ⟨q, rfl⟩ : ∃ q, m = i * 3 + q := ⟨m - i * 3, by omega⟩
          rw [setL_in _ _ _ _ (by simp; omega) (by simp; omega), show i * 3 + q + 3 = (i + 1) * 3 + q by omega, setL_in _ _ _ _ (by simp; omega) (by simp; omega)]

/-- what the elements are -/
def EPhi (es : List DE) : PW := fun M w => ∀ x ∈ es, Gv.rep M w x.cells x.d
instance instStableEPhi (es : List DE) : Stable (EPhi es) := ⟨fun hs h x hx => Gv.stable hs (h x hx)⟩

theorem elems_ex {M : List Nat} {w : World} : ∀ {l : List DeltaD} {cs : List Value}, Elems M w cs l → ∃ es : List DE, cs = cellsE es ∧ es.map DE.d = l := by
  intro l
  induction l with
  | nil =>
    intro cs h
    have := h.1
    simp at this
    exact ⟨[], by rw [this]; rfl, rfl⟩
  | cons x l ih =>
    intro cs h
    have hl := h.1
    rw [show (Gv.ty DeltaD).size = 3 from rfl] at hl
    have h0 := h.2 0 (by simp)
    rw [show (Gv.ty DeltaD).size = 3 from rfl, Nat.zero_mul, List.drop_zero] at h0
    obtain ⟨p, c, e, _⟩ := delta_cells h0
    have hr : Elems M w (cs.drop 3) l := by
      refine ⟨by rw [List.length_drop, hl, show (Gv.ty DeltaD).size = 3 from rfl]; simp; omega, fun j hj => ?_⟩
      have := h.2 (j + 1) (by simp; omega)
      rw [show (Gv.ty DeltaD).size = 3 from rfl] at this ⊢
      rw [List.drop_drop, show 3 + j * 3 = (j + 1) * 3 by omega]
      exact this
    obtain ⟨es, h1, h2⟩ := ih hr
    refine ⟨⟨x, p, c⟩ :: es, ?_, by simp [h2]⟩
    rw [← List.take_append_drop 3 cs]
    have e' : cs.take 3 = x.cells p c := e
    rw [e', h1]
    rfl

theorem elems_e {M : List Nat} {w : World} {es : List DE} (h : Elems M w (cellsE es) (es.map DE.d)) : EPhi es M w := by
  intro x hx
  obtain ⟨i, hi, rfl⟩ := List.getElem_of_mem hx
  have := h.2 i (by simpa using hi)
  rw [show (Gv.ty DeltaD).size = 3 from rfl, cellsE_at hi] at this
  simpa using this

theorem e_elems {M : List Nat} {w : World} {es : List DE} (h : EPhi es M w) : Elems M w (cellsE es) (es.map DE.d) := by
  refine ⟨by rw [cellsE_len]; simp [show (Gv.ty DeltaD).size = 3 from rfl], fun j hj => ?_⟩
  have hj : j < es.length := by simpa using hj
  rw [show (Gv.ty DeltaD).size = 3 from rfl, cellsE_at hj]
  have := h _ (List.getElem_mem hj)
  simpa using this

end Go.Proofs.YtnapfhbibikbiaaGreatDoor
end

/-
  The sort's steps over deltas: swapRange, rotate.
-/
section
set_option linter.unusedVariables false
set_option linter.unusedSimpArgs false
namespace Go.Proofs.YtnapfhbibikbiaaGreatDoor
open Go.Vc


abbrev bufE (p : Option Addr) (cap : Nat) (es : List DE) : Own := .buf p es.length cap (cellsE es) 36 3

theorem e_ptr {W w : World} {S : List Own} {Φ : PW} {p : Option Addr} {cap : Nat} {es : List DE} (cx : Ctx W w (bufE p cap es :: S) Φ) (h : 0 < es.length) : ∃ g, p = some ⟨g, 0, none⟩ := by
  obtain ⟨g, hg, _⟩ := cx.bufCell 0 rfl (by rw [cellsE_len]; omega)
  exact ⟨g, hg⟩

theorem e_row {W w : World} {S : List Own} {Φ : PW} {g cap : Nat} {es : List DE} (cx : Ctx W w (bufE (some ⟨g, 0, none⟩) cap es :: S) Φ) {i : Nat} {X : DE} (hX : es[i]? = some X) : RowAt w g (i * 3) X.cells := by
  obtain ⟨hi, rfl⟩ := List.getElem?_eq_some_iff.1 hX
  exact cx.bufRow 0 rfl rfl (rows_of (cellsE_at hi))

theorem e_can {W w : World} {S : List Own} {Φ : PW} {g cap : Nat} {es : List DE} (cx : Ctx W w (bufE (some ⟨g, 0, none⟩) cap es :: S) Φ) {i : Nat} (hi : i < es.length) : CanWrite w g (i * 3) 3 :=
  cx.bufCan 0 rfl rfl (by rw [cellsE_len]; omega)

theorem e_put {W w w' : World} {S : List Own} {Φ : PW} [Stable Φ] {g cap : Nat} {es : List DE} (cx : Ctx W w (bufE (some ⟨g, 0, none⟩) cap es :: S) Φ) {i : Nat} (hi : i < es.length) (x : DE) (e : w' = w.setCells g (i * 3) x.cells) :
    Ctx W w' (bufE (some ⟨g, 0, none⟩) cap (es.set i x) :: S) Φ := by
  have h := cx.bufPuts 0 rfl rfl (by rw [cellsE_len]; omega) (by rw [cellsE_len]; simp only [List.length_cons, List.length_nil]; omega) e
  rw [cellsE_set hi] at h
  have hl : (es.set i x).length = es.length := by simp
  unfold bufE
  rw [hl]
  exact h

/-! ### swapRange -/
theorem swap_mid (u x v y z : List DE) (i : Nat) (hx : i < x.length) (hy : i < y.length) (hxy : x.length = y.length) :
    swp (u ++ (y.take i ++ x.drop i) ++ v ++ (x.take i ++ y.drop i) ++ z) (u.length + i) (u.length + x.length + v.length + i) = u ++ (y.take (i + 1) ++ x.drop (i + 1)) ++ v ++ (x.take (i + 1) ++ y.drop (i + 1)) ++ z := by
  have h := swp_far (u ++ y.take i) x[i] (x.drop (i + 1) ++ v ++ x.take i) y[i] (y.drop (i + 1) ++ z)
  have e1 : u ++ (y.take i ++ x.drop i) ++ v ++ (x.take i ++ y.drop i) ++ z = (u ++ y.take i) ++ x[i] :: ((x.drop (i + 1) ++ v ++ x.take i) ++ y[i] :: (y.drop (i + 1) ++ z)) := by
    rw [List.drop_eq_getElem_cons hx, List.drop_eq_getElem_cons hy]
    simp only [List.append_assoc, List.cons_append]
  have e2 : u ++ (y.take (i + 1) ++ x.drop (i + 1)) ++ v ++ (x.take (i + 1) ++ y.drop (i + 1)) ++ z = (u ++ y.take i) ++ y[i] :: ((x.drop (i + 1) ++ v ++ x.take i) ++ x[i] :: (y.drop (i + 1) ++ z)) := by
    rw [List.take_succ_eq_append_getElem hx, List.take_succ_eq_append_getElem hy]
    simp only [List.append_assoc, List.cons_append, List.nil_append]
  have e3 : (u ++ y.take i).length = u.length + i := by simp; omega
  have e4 : (u ++ y.take i).length + 1 + (x.drop (i + 1) ++ v ++ x.take i).length = u.length + x.length + v.length + i := by simp; omega
  rw [e4, e3] at h
  rw [e1, e2]
  exact h

/-- two elements are read and written in turn -/
theorem e_swap {W w : World} {S : List Own} {Φ : PW} [Stable Φ] {g cap : Nat} {es : List DE} {i j : Nat} {X Y : DE} (hX : es[i]? = some X) (hY : es[j]? = some Y) {w1 : World} (cx : Ctx W w (bufE (some ⟨g, 0, none⟩) cap es :: S) Φ) (e : w1 = w.setCells g (i * 3) Y.cells) :
    Ctx W w1 (bufE (some ⟨g, 0, none⟩) cap (es.set i Y) :: S) Φ := by
  obtain ⟨hi, rfl⟩ := List.getElem?_eq_some_iff.1 hX
  exact e_put cx hi _ e
theorem e_swap2 {W w2 w3 : World} {S : List Own} {Φ : PW} [Stable Φ] {g cap : Nat} {es : List DE} {i j : Nat} {X Y : DE} (hX : es[i]? = some X) (hY : es[j]? = some Y) (cx : Ctx W w2 (bufE (some ⟨g, 0, none⟩) cap (es.set i Y) :: S) Φ) (e : w3 = w2.setCells g (j * 3) X.cells) :
    Ctx W w3 (bufE (some ⟨g, 0, none⟩) cap (swp es i j) :: S) Φ := by
  obtain ⟨hi, rfl⟩ := List.getElem?_eq_some_iff.1 hX
  obtain ⟨hj, rfl⟩ := List.getElem?_eq_some_iff.1 hY
  rw [swp_eq hi hj]
  exact e_put cx (by simpa using hj) _ e

set_option maxHeartbeats 1000000 in
theorem swapRange_use {W w : World} {S : List Own} {Φ : PW} [Stable Φ] {p : Option Addr} {cap N : Nat} {f : FuncId} {cp : Array Value} (u x v y z : List DE) (hxy : x.length = y.length) (cx : Ctx W w (bufE p cap (u ++ x ++ v ++ y ++ z) :: S) Φ) (hN : N = (u ++ x ++ v ++ y ++ z).length)
    (hlen : (u ++ x ++ v ++ y ++ z).length ≤ 100000000) {a b n : Int} (ha : a = u.length) (hb : b = u.length + x.length + v.length) (hn : n = x.length) {K : Ending → World → Prop}
    (hK : ∀ w', Ctx W w' (bufE p cap (u ++ y ++ v ++ x ++ z) :: S) Φ → K (.returned (.tuple #[])) w') : Calls Tryz.prog F.slices_swapRangeCmpFunc_api_Delta #[.slice p N cap, .int .i64 a, .int .i64 b, .int .i64 n, .func (.func f) #[] cp] w K := by
  subst hN ha hb hn
  have hl : (u ++ x ++ v ++ y ++ z).length = u.length + x.length + v.length + x.length + z.length := by simp; omega
  refine (Bslices_swapRangeCmpFunc_api_Delta_run p (u ++ x ++ v ++ y ++ z).length cap u.length ((u.length : Int) + x.length + v.length) x.length f cp (J := fun u w' => K (.returned u) w') cx ?_).mono fun e w' ⟨v, he, hj⟩ => by rw [he]; exact hj
  obtain ⟨E, hE⟩ : ∃ E : Nat → List DE, ∀ i, E i = u ++ (y.take i ++ x.drop i) ++ v ++ (x.take i ++ y.drop i) ++ z := ⟨_, fun _ => rfl⟩
  have hEl : ∀ i, i ≤ x.length → (E i).length = u.length + x.length + v.length + x.length + z.length := fun i hi => by rw [hE]; simp; omega
  have h0 : E 0 = u ++ x ++ v ++ y ++ z := by rw [hE]; simp
  have hfin : E x.length = u ++ y ++ v ++ x ++ z := by rw [hE]; simp [hxy, List.take_of_length_le, List.drop_of_length_le]
  refine exI_mk (fun iI R' Φ' k => ∃ i : Nat, iI = i ∧ i ≤ x.length ∧ R' = bufE p cap (E i) :: S ∧ Φ' = Φ ∧ k = x.length - i) ⟨⟨_, Φ, _, inferInstance, fun w G cx => by rw [h0]; exact cx, 0, rfl, Nat.zero_le _, rfl, rfl, rfl⟩, ?_⟩
  have hp : 0 < x.length → ∃ g, p = some ⟨g, 0, none⟩ := fun h => e_ptr cx (by omega)
  clear cx
  rintro iI R1 Φ1 k _ ⟨i, rfl, hi, rfl, rfl, rfl⟩
  refine Br.intro (fun hlt => ?_) (fun hge => fun w G cx => ?_)
  · have hlt : i < x.length := by have := of_decide_eq_true hlt; omega
    have hEi := hEl i (by omega)
    have hE1 : swp (E i) (u.length + i) (u.length + x.length + v.length + i) = E (i + 1) := by rw [hE, hE]; exact swap_mid u x v y z i hlt (by omega) hxy
    generalize E i = es at hEi hE1
    obtain ⟨X, hX⟩ : ∃ X, es[u.length + i]? = some X := ⟨_, List.getElem?_eq_getElem (by omega)⟩
    obtain ⟨Y, hY⟩ : ∃ Y, es[u.length + x.length + v.length + i]? = some Y := ⟨_, List.getElem?_eq_getElem (by omega)⟩
    have na : ((u.length : Int) + i).toNat = u.length + i := by omega
    have nb : ((u.length : Int) + x.length + v.length + i).toNat = u.length + x.length + v.length + i := by omega
    obtain ⟨g, rfl⟩ := hp (by omega)
    refine ⟨[], fun _ _ => True, inferInstance, fun w G cx => (cx.weak fun _ _ _ => trivial).right, by unfold I64; omega, by unfold I64; omega, by unfold I64; omega, by unfold I64; omega, by omega, ptrK_intro g 0 rfl ⟨by omega, ptrK_intro g 0 rfl fun w G cx => ⟨Y.d.time, Y.p, Y.d.row.length, Y.c, Y.d.n, by rw [Nat.zero_add, nb]; exact e_row cx hY, fun w G cx => ⟨X.d.time, X.p, X.d.row.length, X.c, X.d.n, by rw [Nat.zero_add, na]; exact e_row cx hX, by omega, ptrK_intro g 0 rfl fun w G cx => ⟨by rw [Nat.zero_add, na]; exact e_can cx (by omega), fun w' hw' => ?_⟩⟩⟩⟩⟩
    rw [Nat.zero_add, na] at hw'
    refine ⟨bufE (some ⟨g, 0, none⟩) cap (es.set (u.length + i) Y) :: S, Φ1, inferInstance, e_swap hX hY cx hw', fun w G cx => (cx.weak fun _ _ _ => trivial).right, by omega, ptrK_intro g 0 rfl fun w G cx => ⟨by rw [Nat.zero_add, nb]; exact e_can cx (by rw [List.length_set]; omega), fun w' hw' => ?_⟩⟩
    rw [Nat.zero_add, nb] at hw'
    have cx2 := e_swap2 hX hY cx hw'
    rw [hE1] at cx2
    exact ⟨bufE (some ⟨g, 0, none⟩) cap (E (i + 1)) :: S, Φ1, inferInstance, cx2, fun w G cx => (cx.weak fun _ _ _ => trivial).right, by unfold I64; omega, _, Φ1, x.length - (i + 1), inferInstance, fun w G cx => cx, ⟨i + 1, by omega, by omega, rfl, rfl, rfl⟩, by omega⟩
  · have hge : i = x.length := by have := of_decide_eq_false hge; omega
    subst hge
    rw [hfin] at cx
    exact hK w cx.left

end Go.Proofs.YtnapfhbibikbiaaGreatDoor
end

