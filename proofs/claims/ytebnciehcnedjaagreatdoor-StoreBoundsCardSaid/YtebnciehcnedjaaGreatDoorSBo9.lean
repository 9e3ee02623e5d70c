/-
  For every input erratalaw29.StoreBounds returns true, does not panic, comes to an end, and leaves what came in as it was; the variables that its row lists are as the program's text lays them.
  Conditions: none beyond the given statement's own (StoreBoundsCardSaid).
-/
import Derived.Test.YtebnciehcnedjaaGreatDoorSBo6
import Derived.Test.YtebnciehcnedjaaGreatDoorSBo8
import Derived.Test.YtebnciehcnedjaaGreatDoorCards
import Derived.MakeChecks
import Derived.Stop.LaidErr
import Derived.Lib.LaidTab
import Derived.Test.YtebnciehcnedjaaGreatDoorTie
import Derived.SevenTiedAt
import Derived.LaidMore
import Derived.ChangeMaps5
import Derived.Test.YtebnciehcnedjaaGreatDoorRows

/-
  The conditions of the walks of some functions, one formula each; 'B<f>_run' says that they suffice. The formulas are printed by a program; the kernel compares them with the functions' code.
-/
section
namespace Go.Proofs.YtebnciehcnedjaaGreatDoor
set_option linter.unusedVariables false
set_option linter.unusedSimpArgs false
set_option maxRecDepth 100000
open Go.Vc

/-- erratalaw29.StoreBounds -/
-- loop at region 23: 11 all, 13 k; blocks 
-- loop at region 18: 10 most, 11 all, 12 n; blocks 
-- loop at region 7: 4 s, 5 restored, 6 i; blocks 
def Berratalaw29_StoreBounds (lP : Option Addr) (lN lC : Nat) (W : World) (R : List Own) (Φ : PW) (J : Value → World → Prop) : Prop :=
  ∀ (w0 : World) (R1 : List Own), Ctx W w0 (R ++ R1) Φ → Calls Tryz.prog F.erratalaw29_small #[] w0 fun (e2 : Ending) (w3 : World) => ∃ (c4 : Bool), e2 = Ending.returned (Value.bool c4) ∧ ∃
  (R5 : List Own), ∃ (Φ6 : PW), Stable Φ6 ∧ Ctx W w3 (R5 ++ R1) Φ6 ∧ ∀ (w7 : World) (R8 : List Own), Ctx W w7 (R5 ++ R8) Φ6 → Calls Tryz.prog F.store_New #[] w7 fun (e9 : Ending) (w10 :
  World) => ∃ (p11 : Option Addr), e9 = Ending.returned (Value.pointer p11) ∧ ∃ (R12 : List Own), ∃ (Φ13 : PW), Stable Φ13 ∧ Ctx W w10 (R12 ++ R8) Φ13 ∧ ∀ (w14 : World) (R15 : List Own), Ctx
  W w14 (R12 ++ R15) Φ13 → Calls Tryz.prog F.erratalaw29_few #[Value.slice lP lN lC, Value.int IntKind.i64 300] w14 fun (e16 : Ending) (w17 : World) => ∃ (c18 : Bool), e16 = Ending.returned
  (Value.bool c18) ∧ ∃ (R19 : List Own), ∃ (Φ20 : PW), Stable Φ20 ∧ Ctx W w17 (R19 ++ R15) Φ20 ∧ Br (!c18) (∀ (w21 : World) (R22 : List Own), Ctx W w21 (R19 ++ R22) Φ20 → ∀ (w23 : World) (R24
  : List Own), Ctx W w23 (R19 ++ R24) Φ20 → J (Value.bool (c4 && !p11.isNone)) w23) (Br p11.isNone (∀ (w25 : World) (R26 : List Own), Ctx W w25 (R19 ++ R26) Φ20 → ∀ (w27 : World) (R28 : List
  Own), Ctx W w27 (R19 ++ R28) Φ20 → J (Value.bool (c4 && !p11.isNone)) w27) (exI fun (I29 : Option Addr → Bool → Int → List Own → PW → Nat → Prop) => (∃ (R30 : List Own), ∃ (Φ31 : PW), ∃
  (k32 : Nat), Stable Φ31 ∧ (∀ (w33 : World) (R34 : List Own), Ctx W w33 (R19 ++ R34) Φ20 → Ctx W w33 (R30 ++ R34) Φ31) ∧ I29 p11 false 0 R30 Φ31 k32) ∧ ∀ (p35 : Option Addr) (c36 : Bool)
  (n37 : Int) (R38 : List Own) (I39 : List Nat → World → Prop) (k40 : Nat), Stable I39 → I29 p35 c36 n37 R38 I39 k40 → Br (decide (n37 < (↑lN : Int))) ((0 ≤ n37 ∧ n37 < (↑lN : Int)) ∧ ptrK
  none lP fun (k41 k42 : Nat) => ∀ (w43 : World) (R44 : List Own), Ctx W w43 (R38 ++ R44) I39 → ∃ (n45 : Int), ∃ (n46 : Int), ∃ (s47 : ByteArray), ∃ (s48 : ByteArray), RowAt w43 k41 (k42 +
  n37.toNat * 4) [Value.int IntKind.i64 n45, Value.int IntKind.i64 n46, Value.string s47, Value.string s48] ∧ ∀ (w49 : World) (R50 : List Own), Ctx W w49 (R38 ++ R50) I39 → Calls Tryz.prog
  F.erratalaw29_do #[Value.pointer p35, Value.agg #[Value.int IntKind.i64 n45, Value.int IntKind.i64 n46, Value.string s47, Value.string s48]] w49 fun (e51 : Ending) (w52 : World) => ∃ (p53 :
  Option Addr), ∃ (n54 : Int), e51 = Ending.returned (Value.tuple #[Value.pointer p53, Value.int IntKind.i64 n54]) ∧ ∃ (R55 : List Own), ∃ (Φ56 : PW), Stable Φ56 ∧ Ctx W w52 (R55 ++ R50) Φ56
  ∧ Br p53.isNone (∀ (w57 : World) (R58 : List Own), Ctx W w57 (R55 ++ R58) Φ56 → J (Value.bool false) w57) (∀ (w59 : World) (R60 : List Own), Ctx W w59 (R55 ++ R60) Φ56 → ((!c36) = true → 0
  ≤ n37 ∧ n37 < (↑lN : Int)) ∧ ptrK (some !c36) lP fun (k61 k62 : Nat) => ∃ (n63 : Int), ((!c36) = true → w59.cell? (Addr.mk k61 (k62 + n37.toNat * 4) none) = some (Value.int IntKind.i64
  n63)) ∧ ∃ (n64 : Int), ((!c36) = true → ∀ (w65 : World), Sem.run Tryz.prog (binOp BinOp.and 3 (Value.int IntKind.i64 n63) (Value.int IntKind.i64 7)) w65 = Result.ok (Value.int IntKind.i64
  n64) w65) ∧ ((!c36 && decide (n64 = 7)) = true → 0 ≤ n37 ∧ n37 < (↑lN : Int)) ∧ ptrK (some (!c36 && decide (n64 = 7))) lP fun (k66 k67 : Nat) => ∃ (n68 : Int), ((!c36 && decide (n64 = 7)) =
  true → w59.cell? (Addr.mk k66 (k67 + n37.toNat * 4 + 1) none) = some (Value.int IntKind.i64 n68)) ∧ ∃ (n69 : Int), ((!c36 && decide (n64 = 7)) = true → ∀ (w70 : World), Sem.run Tryz.prog
  (binOp BinOp.and 3 (Value.int IntKind.i64 n68) (Value.int IntKind.i64 1)) w70 = Result.ok (Value.int IntKind.i64 n69) w70) ∧ ∀ (w71 : World) (R72 : List Own), Ctx W w71 (R55 ++ R72) Φ56 →
  Calls Tryz.prog F.store_Store_Runs #[Value.pointer p53] w71 fun (e73 : Ending) (w74 : World) => ∃ (p75 : Option Addr), ∃ (k76 : Nat), ∃ (k77 : Nat), e73 = Ending.returned (Value.slice p75
  k76 k77) ∧ ∃ (R78 : List Own), ∃ (Φ79 : PW), Stable Φ79 ∧ Ctx W w74 (R78 ++ R72) Φ79 ∧ exI fun (I80 : Int → Int → Int → List Own → PW → Nat → Prop) => (∃ (R81 : List Own), ∃ (Φ82 : PW), ∃
  (k83 : Nat), Stable Φ82 ∧ (∀ (w84 : World) (R85 : List Own), Ctx W w84 (R78 ++ R85) Φ79 → Ctx W w84 (R81 ++ R85) Φ82) ∧ I80 8 0 0 R81 Φ82 k83) ∧ ∀ (n86 n87 n88 : Int) (R89 : List Own) (I90
  : List Nat → World → Prop) (k91 : Nat), Stable I90 → I80 n86 n87 n88 R89 I90 k91 → Br (decide (n88 < (↑k76 : Int))) ((0 ≤ n88 ∧ n88 < (↑k76 : Int)) ∧ ptrK none p75 fun (k92 k93 : Nat) => ∀
  (w94 : World) (R95 : List Own), Ctx W w94 (R89 ++ R95) I90 → ∃ (p96 : Option Addr), ∃ (k97 : Nat), ∃ (k98 : Nat), w94.cell? (Addr.mk k92 (k93 + n88.toNat) none) = some (Value.slice p96 k97
  k98) ∧ Br (decide (4 ≤ (↑k97 : Int))) (∀ (w99 : World) (R100 : List Own), Ctx W w99 (R89 ++ R100) I90 → J (Value.bool false) w99) (exI fun (I101 : Int → Int → List Own → PW → Nat → Prop) =>
  (∃ (R102 : List Own), ∃ (Φ103 : PW), ∃ (k104 : Nat), Stable Φ103 ∧ (∀ (w105 : World) (R106 : List Own), Ctx W w105 (R89 ++ R106) I90 → Ctx W w105 (R102 ++ R106) Φ103) ∧ I101 n87 0 R102 Φ103
  k104) ∧ ∀ (n107 n108 : Int) (R109 : List Own) (I110 : List Nat → World → Prop) (k111 : Nat), Stable I110 → I101 n107 n108 R109 I110 k111 → (0 ≤ n88 ∧ n88 < (↑k76 : Int)) ∧ ptrK none p75 fun
  (k112 k113 : Nat) => ∀ (w114 : World) (R115 : List Own), Ctx W w114 (R109 ++ R115) I110 → ∃ (p116 : Option Addr), ∃ (k117 : Nat), ∃ (k118 : Nat), w114.cell? (Addr.mk k112 (k113 + n88.toNat)
  none) = some (Value.slice p116 k117 k118) ∧ Br (decide (n108 < (↑k117 : Int))) (∀ (w119 : World) (R120 : List Own), Ctx W w119 (R109 ++ R120) I110 → (0 ≤ n88 ∧ n88 < (↑k76 : Int)) ∧ ptrK
  none p75 fun (k121 k122 : Nat) => ∃ (p123 : Option Addr), ∃ (k124 : Nat), ∃ (k125 : Nat), w119.cell? (Addr.mk k121 (k122 + n88.toNat) none) = some (Value.slice p123 k124 k125) ∧ (0 ≤ n108 ∧
  n108 < (↑k124 : Int)) ∧ ptrK none p123 fun (k126 k127 : Nat) => ∃ (n128 : Int), w119.cell? (Addr.mk k126 (k127 + n108.toNat) none) = some (Value.int IntKind.i64 n128) ∧ ((!decide (n128 <
  1)) = true → 0 ≤ n88 ∧ n88 < (↑k76 : Int)) ∧ ptrK (some !decide (n128 < 1)) p75 fun (k129 k130 : Nat) => ∃ (p131 : Option Addr), ∃ (k132 : Nat), ∃ (k133 : Nat), ((!decide (n128 < 1)) = true
  → w119.cell? (Addr.mk k129 (k130 + n88.toNat) none) = some (Value.slice p131 k132 k133)) ∧ ((!decide (n128 < 1)) = true → 0 ≤ n108 ∧ n108 < (↑k132 : Int)) ∧ ptrK (some !decide (n128 < 1))
  p131 fun (k134 k135 : Nat) => ∃ (n136 : Int), ((!decide (n128 < 1)) = true → w119.cell? (Addr.mk k134 (k135 + n108.toNat) none) = some (Value.int IntKind.i64 n136)) ∧ Br (decide (n128 < 1)
  || decide (n86 < n136) && !(c36 || decide (n64 = 7) && decide (n69 = 1))) (∀ (w137 : World) (R138 : List Own), Ctx W w137 (R109 ++ R138) I110 → J (Value.bool false) w137) ((0 ≤ n88 ∧ n88 <
  (↑k76 : Int)) ∧ ptrK none p75 fun (k139 k140 : Nat) => ∀ (w141 : World) (R142 : List Own), Ctx W w141 (R109 ++ R142) I110 → ∃ (p143 : Option Addr), ∃ (k144 : Nat), ∃ (k145 : Nat),
  w141.cell? (Addr.mk k139 (k140 + n88.toNat) none) = some (Value.slice p143 k144 k145) ∧ (0 ≤ n108 ∧ n108 < (↑k144 : Int)) ∧ ptrK none p143 fun (k146 k147 : Nat) => ∀ (w148 : World) (R149 :
  List Own), Ctx W w148 (R109 ++ R149) I110 → ∃ (n150 : Int), w148.cell? (Addr.mk k146 (k147 + n108.toNat) none) = some (Value.int IntKind.i64 n150) ∧ I64 (n107 + n150) ∧ I64 (n108 + 1) ∧ ∃
  (R151 : List Own), ∃ (Φ152 : PW), ∃ (k153 : Nat), Stable Φ152 ∧ (∀ (w154 : World) (R155 : List Own), Ctx W w154 (R109 ++ R155) I110 → Ctx W w154 (R151 ++ R155) Φ152) ∧ I101 (n107 + n150)
  (n108 + 1) R151 Φ152 k153 ∧ k153 < k111)) (I64 (4 * n86) ∧ I64 (n88 + 1) ∧ ∃ (R156 : List Own), ∃ (Φ157 : PW), ∃ (k158 : Nat), Stable Φ157 ∧ (∀ (w159 : World) (R160 : List Own), Ctx W w159
  (R109 ++ R160) I110 → Ctx W w159 (R156 ++ R160) Φ157) ∧ I80 (4 * n86) n107 (n88 + 1) R156 Φ157 k158 ∧ k158 < k91))) (∀ (w161 : World) (R162 : List Own), Ctx W w161 (R89 ++ R162) I90 → Calls
  Tryz.prog F.store_Store_Versions #[Value.pointer p53] w161 fun (e163 : Ending) (w164 : World) => ∃ (n165 : Int), e163 = Ending.returned (Value.int IntKind.i64 n165) ∧ ∃ (R166 : List Own), ∃
  (Φ167 : PW), Stable Φ167 ∧ Ctx W w164 (R166 ++ R162) Φ167 ∧ I64 (n165 - n87) ∧ Br (decide (n165 - n87 < 0)) (∀ (w168 : World) (R169 : List Own), Ctx W w168 (R166 ++ R169) Φ167 → J
  (Value.bool false) w168) (∀ (w170 : World) (R171 : List Own), Ctx W w170 (R166 ++ R171) Φ167 → Calls Tryz.prog F.store_Store_Versions #[Value.pointer p53] w170 fun (e172 : Ending) (w173 :
  World) => ∃ (n174 : Int), e172 = Ending.returned (Value.int IntKind.i64 n174) ∧ ∃ (R175 : List Own), ∃ (Φ176 : PW), Stable Φ176 ∧ Ctx W w173 (R175 ++ R171) Φ176 ∧ I64 (n174 - n87) ∧ Br
  (decide (8 ≤ n174 - n87)) (∀ (w177 : World) (R178 : List Own), Ctx W w177 (R175 ++ R178) Φ176 → J (Value.bool false) w177) (∀ (w179 : World) (R180 : List Own), Ctx W w179 (R175 ++ R180)
  Φ176 → Calls Tryz.prog F.store_Store_Versions #[Value.pointer p53] w179 fun (e181 : Ending) (w182 : World) => ∃ (n183 : Int), e181 = Ending.returned (Value.int IntKind.i64 n183) ∧ ∃ (R184 :
  List Own), ∃ (Φ185 : PW), Stable Φ185 ∧ Ctx W w182 (R184 ++ R180) Φ185 ∧ ∀ (w186 : World) (R187 : List Own), Ctx W w186 (R184 ++ R187) Φ185 → Calls Tryz.prog F.store_Store_Len
  #[Value.pointer p53] w186 fun (e188 : Ending) (w189 : World) => ∃ (n190 : Int), e188 = Ending.returned (Value.int IntKind.i64 n190) ∧ ∃ (R191 : List Own), ∃ (Φ192 : PW), Stable Φ192 ∧ Ctx W
  w189 (R191 ++ R187) Φ192 ∧ Br (decide (n183 < n190)) (∀ (w193 : World) (R194 : List Own), Ctx W w193 (R191 ++ R194) Φ192 → J (Value.bool false) w193) (I64 (n37 + 1) ∧ ∃ (R195 : List Own), ∃
  (Φ196 : PW), ∃ (k197 : Nat), Stable Φ196 ∧ (∀ (w198 : World) (R199 : List Own), Ctx W w198 (R191 ++ R199) Φ192 → Ctx W w198 (R195 ++ R199) Φ196) ∧ I29 p53 (c36 || decide (n64 = 7) && decide
  (n69 = 1)) (n37 + 1) R195 Φ196 k197 ∧ k197 < k40)))))) (∀ (w200 : World) (R201 : List Own), Ctx W w200 (R38 ++ R201) I39 → J (Value.bool c4) w200)))

theorem Berratalaw29_StoreBounds_run (lP : Option Addr) (lN lC : Nat) {W w : World} {R : List Own} {Φ : PW} [Stable Φ] {J : Value → World → Prop} (c : Ctx W w R Φ) (h : Berratalaw29_StoreBounds lP lN lC W R Φ J) : Calls Tryz.prog F.erratalaw29_StoreBounds #[.slice lP lN lC] w fun e w' => ∃ v, e = .returned v ∧ J v w' :=
  vcFS_sound (H := { keep := some [0, 2, 3, 4, 5, 6, 7, 9, 10, 11, 12, 13, 22, 31, 44, 70, 78, 85, 110, 140], split := [3, 29], loops := [(23, [(11, .one (.int .i64)), (13, .one (.int .i64))], []), (18, [(10, .one (.int .i64)), (11, .one (.int .i64)), (12, .one (.int .i64))], []), (7, [(4, .one (.ptr)), (5, .one (.bool)), (6, .one (.int .i64))], [])] }) (by rw [show vcFS Tryz.prog W { keep := some [0, 2, 3, 4, 5, 6, 7, 9, 10, 11, 12, 13, 22, 31, 44, 70, 78, 85, 110, 140], split := [3, 29], loops := [(23, [(11, .one (.int .i64)), (13, .one (.int .i64))], []), (18, [(10, .one (.int .i64)), (11, .one (.int .i64)), (12, .one (.int .i64))], []), (7, [(4, .one (.ptr)), (5, .one (.bool)), (6, .one (.int .i64))], [])] } F.erratalaw29_StoreBounds #[.slice lP lN lC] R Φ J = Berratalaw29_StoreBounds lP lN lC W R Φ J by kernel_rfl]; exact h) c

/-- erratalaw29.small -/
-- loop at region 13: 6 i; blocks 
def Berratalaw29_small  (W : World) (R : List Own) (Φ : PW) (J : Value → World → Prop) : Prop :=
  ∀ (w0 : World) (R1 : List Own), Ctx W w0 (R ++ R1) Φ → Calls Tryz.prog F.store_New #[] w0 fun (e2 : Ending) (w3 : World) => ∃ (p4 : Option Addr), e2 = Ending.returned (Value.pointer p4) ∧ ∃
  (R5 : List Own), ∃ (Φ6 : PW), Stable Φ6 ∧ Ctx W w3 (R5 ++ R1) Φ6 ∧ ∀ (w7 : World) (R8 : List Own), Ctx W w7 (R5 ++ R8) Φ6 → Calls Tryz.prog F.store_New #[] w7 fun (e9 : Ending) (w10 :
  World) => ∃ (p11 : Option Addr), e9 = Ending.returned (Value.pointer p11) ∧ ∃ (R12 : List Own), ∃ (Φ13 : PW), Stable Φ13 ∧ Ctx W w10 (R12 ++ R8) Φ13 ∧ ∀ (w14 : World) (R15 : List Own), Ctx
  W w14 (R12 ++ R15) Φ13 → Br (p4.isNone || p11.isNone) (∀ (w16 : World) (R17 : List Own), Ctx W w16 (R12 ++ R17) Φ13 → J (Value.bool false) w16) (∀ (w18 : World) (R19 : List Own), Ctx W w18
  (R12 ++ R19) Φ13 → Calls Tryz.prog F.store_Store_Put #[Value.pointer p4, Value.string (ByteArray.mk #[OfNat.ofNat 97]), Value.string (ByteArray.mk #[OfNat.ofNat 49])] w18 fun (e20 : Ending)
  (w21 : World) => e20 = Ending.returned (Value.tuple #[]) ∧ ∃ (R22 : List Own), ∃ (Φ23 : PW), Stable Φ23 ∧ Ctx W w21 (R22 ++ R19) Φ23 ∧ ∀ (w24 : World) (R25 : List Own), Ctx W w24 (R22 ++
  R25) Φ23 → Calls Tryz.prog F.store_Store_Put #[Value.pointer p4, Value.string (ByteArray.mk #[OfNat.ofNat 98]), Value.string (ByteArray.mk #[OfNat.ofNat 50])] w24 fun (e26 : Ending) (w27 :
  World) => e26 = Ending.returned (Value.tuple #[]) ∧ ∃ (R28 : List Own), ∃ (Φ29 : PW), Stable Φ29 ∧ Ctx W w27 (R28 ++ R25) Φ29 ∧ ∀ (w30 : World) (R31 : List Own), Ctx W w30 (R28 ++ R31) Φ29
  → Calls Tryz.prog F.store_Store_Put #[Value.pointer p4, Value.string (ByteArray.mk #[OfNat.ofNat 97]), Value.string (ByteArray.mk #[])] w30 fun (e32 : Ending) (w33 : World) => e32 =
  Ending.returned (Value.tuple #[]) ∧ ∃ (R34 : List Own), ∃ (Φ35 : PW), Stable Φ35 ∧ Ctx W w33 (R34 ++ R31) Φ35 ∧ ∀ (w36 : World) (R37 : List Own), Ctx W w36 (R34 ++ R37) Φ35 → Calls
  Tryz.prog F.store_Store_Scan #[Value.pointer p4, Value.string (ByteArray.mk #[])] w36 fun (e38 : Ending) (w39 : World) => ∃ (p40 : Option Addr), ∃ (k41 : Nat), ∃ (k42 : Nat), e38 =
  Ending.returned (Value.slice p40 k41 k42) ∧ ∃ (R43 : List Own), ∃ (Φ44 : PW), Stable Φ44 ∧ Ctx W w39 (R43 ++ R37) Φ44 ∧ ∀ (w45 : World) (R46 : List Own), Ctx W w45 (R43 ++ R46) Φ44 → Calls
  Tryz.prog F.store_Store_Since #[Value.pointer p4, Value.int IntKind.i64 1] w45 fun (e47 : Ending) (w48 : World) => ∃ (p49 : Option Addr), ∃ (k50 : Nat), ∃ (k51 : Nat), ∃ (n52 : Int), e47 =
  Ending.returned (Value.tuple #[Value.slice p49 k50 k51, Value.int IntKind.i64 n52]) ∧ ∃ (R53 : List Own), ∃ (Φ54 : PW), Stable Φ54 ∧ Ctx W w48 (R53 ++ R46) Φ54 ∧ ∀ (w55 : World) (R56 : List
  Own), Ctx W w55 (R53 ++ R56) Φ54 → Br (decide ((↑k41 : Int) ≠ 1) || decide ((↑k50 : Int) ≠ 2) || decide (n52 ≠ 0)) (∀ (w57 : World) (R58 : List Own), Ctx W w57 (R53 ++ R58) Φ54 → J
  (Value.bool false) w57) (exI fun (I59 : Int → List Own → PW → Nat → Prop) => (∃ (R60 : List Own), ∃ (Φ61 : PW), ∃ (k62 : Nat), Stable Φ61 ∧ (∀ (w63 : World) (R64 : List Own), Ctx W w63 (R53
  ++ R64) Φ54 → Ctx W w63 (R60 ++ R64) Φ61) ∧ I59 0 R60 Φ61 k62) ∧ ∀ (n65 : Int) (R66 : List Own) (I67 : List Nat → World → Prop) (k68 : Nat), Stable I67 → I59 n65 R66 I67 k68 → Br (decide
  (n65 < 32)) (∀ (w69 : World) (R70 : List Own), Ctx W w69 (R66 ++ R70) I67 → Calls Tryz.prog F.erratalaw29_digits #[Value.int IntKind.i64 n65] w69 fun (e71 : Ending) (w72 : World) => ∃ (s73
  : ByteArray), e71 = Ending.returned (Value.string s73) ∧ ∃ (R74 : List Own), ∃ (Φ75 : PW), Stable Φ75 ∧ Ctx W w72 (R74 ++ R70) Φ75 ∧ ∀ (w76 : World) (R77 : List Own), Ctx W w76 (R74 ++ R77)
  Φ75 → Calls Tryz.prog F.store_Store_Put #[Value.pointer p11, Value.string s73, Value.string (ByteArray.mk #[OfNat.ofNat 120])] w76 fun (e78 : Ending) (w79 : World) => e78 = Ending.returned
  (Value.tuple #[]) ∧ ∃ (R80 : List Own), ∃ (Φ81 : PW), Stable Φ81 ∧ Ctx W w79 (R80 ++ R77) Φ81 ∧ I64 (n65 + 1) ∧ ∃ (R82 : List Own), ∃ (Φ83 : PW), ∃ (k84 : Nat), Stable Φ83 ∧ (∀ (w85 :
  World) (R86 : List Own), Ctx W w85 (R80 ++ R86) Φ81 → Ctx W w85 (R82 ++ R86) Φ83) ∧ I59 (n65 + 1) R82 Φ83 k84 ∧ k84 < k68) (∀ (w87 : World) (R88 : List Own), Ctx W w87 (R66 ++ R88) I67 →
  Calls Tryz.prog F.store_Store_Runs #[Value.pointer p11] w87 fun (e89 : Ending) (w90 : World) => ∃ (p91 : Option Addr), ∃ (k92 : Nat), ∃ (k93 : Nat), e89 = Ending.returned (Value.slice p91
  k92 k93) ∧ ∃ (R94 : List Own), ∃ (Φ95 : PW), Stable Φ95 ∧ Ctx W w90 (R94 ++ R88) Φ95 ∧ Br (decide ((↑k92 : Int) ≠ 2)) (∀ (w96 : World) (R97 : List Own), Ctx W w96 (R94 ++ R97) Φ95 → J
  (Value.bool false) w96) (∀ (w98 : World) (R99 : List Own), Ctx W w98 (R94 ++ R99) Φ95 → ((0 : Int) ≤ 0 ∧ 0 < (↑k92 : Int)) ∧ ptrK none p91 fun (k100 k101 : Nat) => ∃ (p102 : Option Addr), ∃
  (k103 : Nat), ∃ (k104 : Nat), w98.cell? (Addr.mk k100 k101 none) = some (Value.slice p102 k103 k104) ∧ ((!decide ((↑k103 : Int) ≠ 0)) = true → (0 : Int) ≤ 1 ∧ 1 < (↑k92 : Int)) ∧ ptrK (some
  !decide ((↑k103 : Int) ≠ 0)) p91 fun (k105 k106 : Nat) => ∃ (p107 : Option Addr), ∃ (k108 : Nat), ∃ (k109 : Nat), ((!decide ((↑k103 : Int) ≠ 0)) = true → w98.cell? (Addr.mk k105 k106.succ
  none) = some (Value.slice p107 k108 k109)) ∧ Br (decide ((↑k103 : Int) ≠ 0) || decide ((↑k108 : Int) ≠ 1)) (∀ (w110 : World) (R111 : List Own), Ctx W w110 (R94 ++ R111) Φ95 → J (Value.bool
  false) w110) (((0 : Int) ≤ 0 ∧ 0 < (↑k41 : Int)) ∧ ptrK none p40 fun (k112 k113 : Nat) => ∀ (w114 : World) (R115 : List Own), Ctx W w114 (R94 ++ R115) Φ95 → ∃ (s116 : ByteArray), ∃ (s117 :
  ByteArray), RowAt w114 k112 k113 [Value.string s116, Value.string s117] ∧ okAgg Tryz.prog 69 = true ∧ Br (decide (s116 = ByteArray.mk #[OfNat.ofNat 98]) && (decide (s117 = ByteArray.mk
  #[OfNat.ofNat 50]) && true)) (∀ (w118 : World) (R119 : List Own), Ctx W w118 (R94 ++ R119) Φ95 → Calls Tryz.prog F.store_Store_Len #[Value.pointer p4] w118 fun (e120 : Ending) (w121 :
  World) => ∃ (n122 : Int), e120 = Ending.returned (Value.int IntKind.i64 n122) ∧ ∃ (R123 : List Own), ∃ (Φ124 : PW), Stable Φ124 ∧ Ctx W w121 (R123 ++ R119) Φ124 ∧ Br (decide (n122 = 1)) (∀
  (w125 : World) (R126 : List Own), Ctx W w125 (R123 ++ R126) Φ124 → Calls Tryz.prog F.store_Store_Versions #[Value.pointer p4] w125 fun (e127 : Ending) (w128 : World) => ∃ (n129 : Int), e127
  = Ending.returned (Value.int IntKind.i64 n129) ∧ ∃ (R130 : List Own), ∃ (Φ131 : PW), Stable Φ131 ∧ Ctx W w128 (R130 ++ R126) Φ131 ∧ Br (decide (n129 = 2)) (∀ (w132 : World) (R133 : List
  Own), Ctx W w132 (R130 ++ R133) Φ131 → Calls Tryz.prog F.store_Store_Seq #[Value.pointer p4] w132 fun (e134 : Ending) (w135 : World) => ∃ (n136 : Int), e134 = Ending.returned (Value.int
  IntKind.i64 n136) ∧ ∃ (R137 : List Own), ∃ (Φ138 : PW), Stable Φ138 ∧ Ctx W w135 (R137 ++ R133) Φ138 ∧ Br (decide (n136 = 3)) (((0 : Int) ≤ 0 ∧ 0 < (↑k50 : Int)) ∧ ptrK none p49 fun (k139
  k140 : Nat) => ∀ (w141 : World) (R142 : List Own), Ctx W w141 (R137 ++ R142) Φ138 → ∃ (n143 : Int), w141.cell? (Addr.mk k139 k140 none) = some (Value.int IntKind.i64 n143) ∧ Br (decide
  (n143 = 2)) (((0 : Int) ≤ 1 ∧ 1 < (↑k92 : Int)) ∧ ptrK none p91 fun (k144 k145 : Nat) => ∀ (w146 : World) (R147 : List Own), Ctx W w146 (R137 ++ R147) Φ138 → ∃ (p148 : Option Addr), ∃ (k149
  : Nat), ∃ (k150 : Nat), w146.cell? (Addr.mk k144 k145.succ none) = some (Value.slice p148 k149 k150) ∧ ((0 : Int) ≤ 0 ∧ 0 < (↑k149 : Int)) ∧ ptrK none p148 fun (k151 k152 : Nat) => ∀ (w153
  : World) (R154 : List Own), Ctx W w153 (R137 ++ R154) Φ138 → ∃ (n155 : Int), w153.cell? (Addr.mk k151 k152 none) = some (Value.int IntKind.i64 n155) ∧ ∀ (w156 : World) (R157 : List Own),
  Ctx W w156 (R137 ++ R157) Φ138 → J (Value.bool (decide (n155 = 32))) w156) (∀ (w158 : World) (R159 : List Own), Ctx W w158 (R137 ++ R159) Φ138 → J (Value.bool false) w158)) (∀ (w160 :
  World) (R161 : List Own), Ctx W w160 (R137 ++ R161) Φ138 → J (Value.bool false) w160)) (∀ (w162 : World) (R163 : List Own), Ctx W w162 (R130 ++ R163) Φ131 → J (Value.bool false) w162)) (∀
  (w164 : World) (R165 : List Own), Ctx W w164 (R123 ++ R165) Φ124 → J (Value.bool false) w164)) (∀ (w166 : World) (R167 : List Own), Ctx W w166 (R94 ++ R167) Φ95 → J (Value.bool false)
  w166))))))

theorem Berratalaw29_small_run  {W w : World} {R : List Own} {Φ : PW} [Stable Φ] {J : Value → World → Prop} (c : Ctx W w R Φ) (h : Berratalaw29_small  W R Φ J) : Calls Tryz.prog F.erratalaw29_small #[] w fun e w' => ∃ v, e = .returned v ∧ J v w' :=
  vcFS_sound (H := { keep := some [0, 1, 2, 3, 4, 5, 6, 7, 15, 40, 42, 53, 65], split := [21], loops := [(13, [(6, .one (.int .i64))], [])] }) (by rw [show vcFS Tryz.prog W { keep := some [0, 1, 2, 3, 4, 5, 6, 7, 15, 40, 42, 53, 65], split := [21], loops := [(13, [(6, .one (.int .i64))], [])] } F.erratalaw29_small #[] R Φ J = Berratalaw29_small  W R Φ J by kernel_rfl]; exact h) c

/-- erratalaw29.few -/
-- loop at region 2: 5 i; blocks 
def Berratalaw29_few (lP : Option Addr) (lN lC : Nat) (n : Int) (W : World) (R : List Own) (Φ : PW) (J : Value → World → Prop) : Prop :=
  exI fun (I0 : Int → List Own → PW → Nat → Prop) => (∃ (R1 : List Own), ∃ (Φ2 : PW), ∃ (k3 : Nat), Stable Φ2 ∧ (∀ (w4 : World) (R5 : List Own), Ctx W w4 (R ++ R5) Φ → Ctx W w4 (R1 ++ R5) Φ2)
  ∧ I0 0 R1 Φ2 k3) ∧ ∀ (n6 : Int) (R7 : List Own) (I8 : List Nat → World → Prop) (k9 : Nat), Stable I8 → I0 n6 R7 I8 k9 → Br (decide (n6 < (↑lN : Int))) (∀ (w10 : World) (R11 : List Own), Ctx
  W w10 (R7 ++ R11) I8 → (0 ≤ n6 ∧ n6 < (↑lN : Int)) ∧ ptrK none lP fun (k12 k13 : Nat) => ∃ (s14 : ByteArray), w10.cell? (Addr.mk k12 (k13 + n6.toNat * 4 + 2) none) = some (Value.string s14)
  ∧ ((!decide (20 < (↑s14.size : Int))) = true → 0 ≤ n6 ∧ n6 < (↑lN : Int)) ∧ ptrK (some !decide (20 < (↑s14.size : Int))) lP fun (k15 k16 : Nat) => ∃ (s17 : ByteArray), ((!decide (20 <
  (↑s14.size : Int))) = true → w10.cell? (Addr.mk k15 (k16 + n6.toNat * 4 + 3) none) = some (Value.string s17)) ∧ Br (decide (20 < (↑s14.size : Int)) || decide (20 < (↑s17.size : Int))) (∀
  (w18 : World) (R19 : List Own), Ctx W w18 (R7 ++ R19) I8 → J (Value.bool false) w18) (I64 (n6 + 1) ∧ ∃ (R20 : List Own), ∃ (Φ21 : PW), ∃ (k22 : Nat), Stable Φ21 ∧ (∀ (w23 : World) (R24 :
  List Own), Ctx W w23 (R7 ++ R24) I8 → Ctx W w23 (R20 ++ R24) Φ21) ∧ I0 (n6 + 1) R20 Φ21 k22 ∧ k22 < k9)) (∀ (w25 : World) (R26 : List Own), Ctx W w25 (R7 ++ R26) I8 → J (Value.bool (decide
  ((↑lN : Int) ≤ n))) w25)

theorem Berratalaw29_few_run (lP : Option Addr) (lN lC : Nat) (n : Int) {W w : World} {R : List Own} {Φ : PW} [Stable Φ] {J : Value → World → Prop} (c : Ctx W w R Φ) (h : Berratalaw29_few lP lN lC n W R Φ J) : Calls Tryz.prog F.erratalaw29_few #[.slice lP lN lC, .int .i64 n] w fun e w' => ∃ v, e = .returned v ∧ J v w' :=
  vcFS_sound (H := { keep := some [0, 1, 4, 5, 9, 27], loops := [(2, [(5, .one (.int .i64))], [])] }) (by rw [show vcFS Tryz.prog W { keep := some [0, 1, 4, 5, 9, 27], loops := [(2, [(5, .one (.int .i64))], [])] } F.erratalaw29_few #[.slice lP lN lC, .int .i64 n] R Φ J = Berratalaw29_few lP lN lC n W R Φ J by kernel_rfl]; exact h) c

/-- store.Restore -/
-- loop at region 5: 6 l; blocks 
-- known blocks: 8 p
def Bstore_Restore (x : ByteArray) (W : World) (R : List Own) (Φ : PW) (J : Value → World → Prop) : Prop :=
  ∀ (w0 : World) (R1 : List Own), Ctx W w0 (R ++ R1) Φ → Calls Tryz.prog F.wire_Open #[Value.string x] w0 fun (e2 : Ending) (w3 : World) => ∃ (p4 : Option Addr), e2 = Ending.returned
  (Value.pointer p4) ∧ ∃ (R5 : List Own), ∃ (Φ6 : PW), Stable Φ6 ∧ Ctx W w3 (R5 ++ R1) Φ6 ∧ ∀ (w7 : World) (R8 : List Own), Ctx W w7 (R5 ++ R8) Φ6 → Calls Tryz.prog F.wire_Reader_Int
  #[Value.pointer p4] w7 fun (e9 : Ending) (w10 : World) => ∃ (n11 : Int), e9 = Ending.returned (Value.int IntKind.i64 n11) ∧ ∃ (R12 : List Own), ∃ (Φ13 : PW), Stable Φ13 ∧ Ctx W w10 (R12 ++
  R8) Φ13 ∧ ∀ (k14 : Nat) (w15 : World) (R16 : List Own), Ctx W w15 (Own.blk k14 [Value.slice none 0 0, Value.slice none 0 0, Value.int IntKind.i64 n11, Value.slice none 0 0, Value.int
  IntKind.i64 0] 77 :: R12 ++ R16) Φ13 → Calls Tryz.prog F.wire_Reader_Num #[Value.pointer p4] w15 fun (e17 : Ending) (w18 : World) => ∃ (n19 : Int), e17 = Ending.returned (Value.int
  IntKind.i64 n19) ∧ ∃ (R20 : List Own), ∃ (Φ21 : PW), Stable Φ21 ∧ Ctx W w18 (R20 ++ R16) Φ21 ∧ exI fun (I22 : Option Addr → Nat → Nat → List Own → PW → Nat → Prop) => (∃ (R23 : List Own), ∃
  (Φ24 : PW), ∃ (k25 : Nat), Stable Φ24 ∧ (∀ (w26 : World) (R27 : List Own), Ctx W w26 (R20 ++ R27) Φ21 → Ctx W w26 (R23 ++ R27) Φ24) ∧ I22 none 0 0 R23 Φ24 k25) ∧ ∀ (p28 : Option Addr) (k29
  k30 : Nat) (R31 : List Own) (I32 : List Nat → World → Prop) (k33 : Nat), Stable I32 → I22 p28 k29 k30 R31 I32 k33 → Br (decide ((↑k29 : Int) < n19)) (∀ (w34 : World) (R35 : List Own), Ctx W
  w34 (R31 ++ R35) I32 → Calls Tryz.prog F.wire_Reader_Text #[Value.pointer p4] w34 fun (e36 : Ending) (w37 : World) => ∃ (s38 : ByteArray), e36 = Ending.returned (Value.string s38) ∧ ∃ (R39
  : List Own), ∃ (Φ40 : PW), Stable Φ40 ∧ Ctx W w37 (R39 ++ R35) Φ40 ∧ ∀ (w41 : World) (R42 : List Own), Ctx W w41 (R39 ++ R42) Φ40 → Calls Tryz.prog F.wire_Reader_Text #[Value.pointer p4]
  w41 fun (e43 : Ending) (w44 : World) => ∃ (s45 : ByteArray), e43 = Ending.returned (Value.string s45) ∧ ∃ (R46 : List Own), ∃ (Φ47 : PW), Stable Φ47 ∧ Ctx W w44 (R46 ++ R42) Φ47 ∧ ∀ (b :
  Nat) (w48 : World) (R49 : List Own), Ctx W w48 (R46 ++ R49) Φ47 → ((!decide (s45 = ByteArray.mk #[]) && decide (0 < (↑k29 : Int))) = true → I64 ((↑k29 : Int) - 1)) ∧ ((!decide (s45 =
  ByteArray.mk #[]) && decide (0 < (↑k29 : Int))) = true → 0 ≤ (↑k29 : Int) - 1 ∧ (↑k29 : Int) - 1 < (↑k29 : Int)) ∧ ptrK (some (!decide (s45 = ByteArray.mk #[]) && decide (0 < (↑k29 :
  Int)))) p28 fun (k50 k51 : Nat) => ∃ (s52 : ByteArray), ((!decide (s45 = ByteArray.mk #[]) && decide (0 < (↑k29 : Int))) = true → w48.cell? (Addr.mk k50 (k51 + ((↑k29 : Int) - 1).toNat * 2)
  none) = some (Value.string s52)) ∧ ∃ (c53 : Bool), ((!decide (s45 = ByteArray.mk #[]) && decide (0 < (↑k29 : Int))) = true → ∀ (w54 : World), Sem.run Tryz.prog (binOp BinOp.geq 9
  (Value.string s52) (Value.string s38)) w54 = Result.ok (Value.bool c53) w54) ∧ Br (decide (s45 = ByteArray.mk #[]) || decide (0 < (↑k29 : Int)) && c53) (∀ (w55 : World) (R56 : List Own),
  Ctx W w55 (R46 ++ R56) Φ47 → J (Value.tuple #[Value.pointer none, Value.bool false]) w55) (∀ (k57 : Nat) (w58 : World) (R59 : List Own), Ctx W w58 (Own.blk k57 [Value.string s38,
  Value.string s45] 69 :: R46 ++ R59) Φ47 → ∃ (p60 : Option Addr), ∃ (k61 : Nat), ∃ (k62 : Nat), ∃ (w63 : World), Sem.run Tryz.prog (builtin Builtin.append #[74, 74] 74 #[false, false]
  #[Value.slice p28 k29 k30, Value.slice (some (Addr.mk k57 0 none)) 1 1]) w58 = Result.ok (Next.value (Value.slice p60 k61 k62)) w63 ∧ ∃ (R64 : List Own), ∃ (Φ65 : PW), Stable Φ65 ∧ Ctx W
  w63 (R64 ++ R59) Φ65 ∧ ∃ (R66 : List Own), ∃ (Φ67 : PW), ∃ (k68 : Nat), Stable Φ67 ∧ (∀ (w69 : World) (R70 : List Own), Ctx W w69 (R64 ++ R70) Φ65 → Ctx W w69 (R66 ++ R70) Φ67) ∧ I22 p60
  k61 k62 R66 Φ67 k68 ∧ k68 < k33)) (∀ (w71 : World) (R72 : List Own), Ctx W w71 (R31 ++ R72) I32 → Calls Tryz.prog F.wire_Reader_Done #[Value.pointer p4] w71 fun (e73 : Ending) (w74 : World)
  => ∃ (c75 : Bool), e73 = Ending.returned (Value.bool c75) ∧ ∃ (R76 : List Own), ∃ (Φ77 : PW), Stable Φ77 ∧ Ctx W w74 (R76 ++ R72) Φ77 ∧ Br (!c75) (∀ (w78 : World) (R79 : List Own), Ctx W
  w78 (R76 ++ R79) Φ77 → J (Value.tuple #[Value.pointer none, Value.bool false]) w78) (∀ (w80 : World) (R81 : List Own), Ctx W w80 (R76 ++ R81) Φ77 → ∃ (n82 : Int), w80.cell? (Addr.mk k14 2
  none) = some (Value.int IntKind.i64 n82) ∧ Br (decide (n82 < 0)) (∀ (w83 : World) (R84 : List Own), Ctx W w83 (R76 ++ R84) Φ77 → J (Value.tuple #[Value.pointer none, Value.bool false]) w83)
  (∀ (w85 : World) (R86 : List Own), Ctx W w85 (R76 ++ R86) Φ77 → ∃ (n87 : Int), w85.cell? (Addr.mk k14 2 none) = some (Value.int IntKind.i64 n87) ∧ Br (decide (1099511627776 < n87)) (∀ (w88
  : World) (R89 : List Own), Ctx W w88 (R76 ++ R89) Φ77 → J (Value.tuple #[Value.pointer none, Value.bool false]) w88) (∀ (w90 : World) (R91 : List Own), Ctx W w90 (R76 ++ R91) Φ77 → ∃ (n92 :
  Int), w90.cell? (Addr.mk k14 2 none) = some (Value.int IntKind.i64 n92) ∧ ∀ (w93 : World) (R94 : List Own), Ctx W w93 (R76 ++ R94) Φ77 → CanWrite w93 k14 4 1 ∧ ∀ (w95 : World), w95 =
  w93.setCell (Addr.mk k14 4 none) (Value.int IntKind.i64 n92) → ∃ (R96 : List Own), ∃ (Φ97 : PW), Stable Φ97 ∧ Ctx W w95 (R96 ++ R94) Φ97 ∧ ∀ (w98 : World) (R99 : List Own), Ctx W w98 (R96
  ++ R99) Φ97 → Calls Tryz.prog F.store_Store_add #[Value.pointer (some (Addr.mk k14 0 none)), Value.int IntKind.i64 1, Value.slice p28 k29 k30] w98 fun (e100 : Ending) (w101 : World) => e100
  = Ending.returned (Value.tuple #[]) ∧ ∃ (R102 : List Own), ∃ (Φ103 : PW), Stable Φ103 ∧ Ctx W w101 (R102 ++ R99) Φ103 ∧ ∀ (w104 : World) (R105 : List Own), Ctx W w104 (R102 ++ R105) Φ103 →
  J (Value.tuple #[Value.pointer (some (Addr.mk k14 0 none)), Value.bool true]) w104))))

theorem Bstore_Restore_run (x : ByteArray) {W w : World} {R : List Own} {Φ : PW} [Stable Φ] {J : Value → World → Prop} (c : Ctx W w R Φ) (h : Bstore_Restore x W R Φ J) : Calls Tryz.prog F.store_Restore #[.string x] w fun e w' => ∃ v, e = .returned v ∧ J v w' :=
  vcFS_sound (H := { keep := some [0, 2, 3, 4, 5, 6, 7, 8, 20, 45, 66], track := [8], split := [10], loops := [(5, [(6, .one (.slice))], [])] }) (by rw [show vcFS Tryz.prog W { keep := some [0, 2, 3, 4, 5, 6, 7, 8, 20, 45, 66], track := [8], split := [10], loops := [(5, [(6, .one (.slice))], [])] } F.store_Restore #[.string x] R Φ J = Bstore_Restore x W R Φ J by kernel_rfl]; exact h) c

/-- (*store.Store).Snapshot -/
-- loop at region 5: 21 ; blocks 
-- known blocks: 6 p
def Bstore_Store_Snapshot (sB sO : Nat) (W : World) (R : List Own) (Φ : PW) (J : Value → World → Prop) : Prop :=
  ∀ (w0 : World) (R1 : List Own), Ctx W w0 (R ++ R1) Φ → Calls Tryz.prog F.store_Store_Scan #[Value.pointer (some (Addr.mk sB sO none)), Value.string (ByteArray.mk #[])] w0 fun (e2 : Ending)
  (w3 : World) => ∃ (p4 : Option Addr), ∃ (k5 : Nat), ∃ (k6 : Nat), e2 = Ending.returned (Value.slice p4 k5 k6) ∧ ∃ (R7 : List Own), ∃ (Φ8 : PW), Stable Φ8 ∧ Ctx W w3 (R7 ++ R1) Φ8 ∧ ∀ (k9 :
  Nat) (w10 : World) (R11 : List Own), Ctx W w10 (Own.blk k9 [Value.pointer none, Value.slice none 0 0] 89 :: R7 ++ R11) Φ8 → ∃ (n12 : Int), w10.cell? (Addr.mk sB (sO + 2) none) = some
  (Value.int IntKind.i64 n12) ∧ ∀ (w13 : World) (R14 : List Own), Ctx W w13 (Own.blk k9 [Value.pointer none, Value.slice none 0 0] 89 :: R7 ++ R14) Φ8 → Calls Tryz.prog F.wire_Int #[Value.int
  IntKind.i64 n12] w13 fun (e15 : Ending) (w16 : World) => ∃ (s17 : ByteArray), e15 = Ending.returned (Value.string s17) ∧ ∃ (R18 : List Own), ∃ (Φ19 : PW), Stable Φ19 ∧ Ctx W w16 (R18 ++
  R14) Φ19 ∧ ∀ (w20 : World) (R21 : List Own), Ctx W w20 (R18 ++ R21) Φ19 → Calls Tryz.prog F.wire_Num #[Value.int IntKind.i64 (↑k5 : Int)] w20 fun (e22 : Ending) (w23 : World) => ∃ (s24 :
  ByteArray), e22 = Ending.returned (Value.string s24) ∧ ∃ (R25 : List Own), ∃ (Φ26 : PW), Stable Φ26 ∧ Ctx W w23 (R25 ++ R21) Φ26 ∧ (s17.size + s24.size).le 9223372036854775807 ∧ ∀ (w27 :
  World) (R28 : List Own), Ctx W w27 (R25 ++ R28) Φ26 → Calls Tryz.prog F.strings_Builder_WriteString #[Value.pointer (some (Addr.mk k9 0 none)), Value.string (s17 ++ s24)] w27 fun (e29 :
  Ending) (w30 : World) => ∃ (n31 : Int), ∃ (v32 : Value), e29 = Ending.returned (Value.tuple #[Value.int IntKind.i64 n31, v32]) ∧ ∃ (R33 : List Own), ∃ (Φ34 : PW), Stable Φ34 ∧ Ctx W w30
  (R33 ++ R28) Φ34 ∧ exI fun (I35 : Int → List Own → PW → Nat → Prop) => (∃ (R36 : List Own), ∃ (Φ37 : PW), ∃ (k38 : Nat), Stable Φ37 ∧ (∀ (w39 : World) (R40 : List Own), Ctx W w39 (R33 ++
  R40) Φ34 → Ctx W w39 (R36 ++ R40) Φ37) ∧ I35 0 R36 Φ37 k38) ∧ ∀ (n41 : Int) (R42 : List Own) (I43 : List Nat → World → Prop) (k44 : Nat), Stable I43 → I35 n41 R42 I43 k44 → Br (decide (n41
  < (↑k5 : Int))) ((0 ≤ n41 ∧ n41 < (↑k5 : Int)) ∧ ptrK none p4 fun (k45 k46 : Nat) => ∀ (w47 : World) (R48 : List Own), Ctx W w47 (R42 ++ R48) I43 → ∃ (s49 : ByteArray), ∃ (s50 : ByteArray),
  RowAt w47 k45 (k46 + n41.toNat * 2) [Value.string s49, Value.string s50] ∧ ∀ (b : Nat), ∃ (R51 : List Own), ∃ (Φ52 : PW), Stable Φ52 ∧ (∀ (w53 : World) (R54 : List Own), Ctx W w53 (R42 ++
  R54) I43 → Ctx W w53 (R51 ++ R54) Φ52) ∧ ∀ (w55 : World) (R56 : List Own), Ctx W w55 (R42 ++ R56) I43 → Calls Tryz.prog F.wire_Text #[Value.string s49] w55 fun (e57 : Ending) (w58 : World)
  => ∃ (s59 : ByteArray), e57 = Ending.returned (Value.string s59) ∧ ∃ (R60 : List Own), ∃ (Φ61 : PW), Stable Φ61 ∧ Ctx W w58 (R60 ++ R56) Φ61 ∧ (∀ (w62 : World) (R63 : List Own), Ctx W w62
  (R60 ++ R63) Φ61 → Ctx W w62 (R51 ++ R63) Φ52) ∧ ∀ (w64 : World) (R65 : List Own), Ctx W w64 (R60 ++ R65) Φ61 → Calls Tryz.prog F.wire_Text #[Value.string s50] w64 fun (e66 : Ending) (w67 :
  World) => ∃ (s68 : ByteArray), e66 = Ending.returned (Value.string s68) ∧ ∃ (R69 : List Own), ∃ (Φ70 : PW), Stable Φ70 ∧ Ctx W w67 (R69 ++ R65) Φ70 ∧ (s59.size + s68.size).le
  9223372036854775807 ∧ ∀ (w71 : World) (R72 : List Own), Ctx W w71 (R69 ++ R72) Φ70 → Calls Tryz.prog F.strings_Builder_WriteString #[Value.pointer (some (Addr.mk k9 0 none)), Value.string
  (s59 ++ s68)] w71 fun (e73 : Ending) (w74 : World) => ∃ (n75 : Int), ∃ (v76 : Value), e73 = Ending.returned (Value.tuple #[Value.int IntKind.i64 n75, v76]) ∧ ∃ (R77 : List Own), ∃ (Φ78 :
  PW), Stable Φ78 ∧ Ctx W w74 (R77 ++ R72) Φ78 ∧ I64 (n41 + 1) ∧ ∃ (R79 : List Own), ∃ (Φ80 : PW), ∃ (k81 : Nat), Stable Φ80 ∧ (∀ (w82 : World) (R83 : List Own), Ctx W w82 (R77 ++ R83) Φ78 →
  Ctx W w82 (R79 ++ R83) Φ80) ∧ I35 (n41 + 1) R79 Φ80 k81 ∧ k81 < k44) (∀ (w84 : World) (R85 : List Own), Ctx W w84 (R42 ++ R85) I43 → Calls Tryz.prog F.strings_Builder_String #[Value.pointer
  (some (Addr.mk k9 0 none))] w84 fun (e86 : Ending) (w87 : World) => ∃ (s88 : ByteArray), e86 = Ending.returned (Value.string s88) ∧ ∃ (R89 : List Own), ∃ (Φ90 : PW), Stable Φ90 ∧ Ctx W w87
  (R89 ++ R85) Φ90 ∧ ∀ (w91 : World) (R92 : List Own), Ctx W w91 (R89 ++ R92) Φ90 → J (Value.string s88) w91)

theorem Bstore_Store_Snapshot_run (sB sO : Nat) {W w : World} {R : List Own} {Φ : PW} [Stable Φ] {J : Value → World → Prop} (c : Ctx W w R Φ) (h : Bstore_Store_Snapshot sB sO W R Φ J) : Calls Tryz.prog F.store_Store_Snapshot #[.pointer (some ⟨sB, sO, none⟩)] w fun e w' => ∃ v, e = .returned v ∧ J v w' :=
  vcFS_sound (H := { keep := some [0, 2, 3, 4, 6, 19, 20, 21, 22], track := [6], stages := [(7, [.held [(0, true), (3, true), (1, true), (4, true), (2, false)], .stage [] (some 5), .stage [6] (some 7)])], loops := [(5, [(21, .one (.int .i64))], [])] }) (by rw [show vcFS Tryz.prog W { keep := some [0, 2, 3, 4, 6, 19, 20, 21, 22], track := [6], stages := [(7, [.held [(0, true), (3, true), (1, true), (4, true), (2, false)], .stage [] (some 5), .stage [6] (some 7)])], loops := [(5, [(21, .one (.int .i64))], [])] } F.store_Store_Snapshot #[.pointer (some ⟨sB, sO, none⟩)] R Φ J = Bstore_Store_Snapshot sB sO W R Φ J by kernel_rfl]; exact h) c

/-- erratalaw29.do -/
-- known blocks: 3 x
def Berratalaw29_do (sB sO : Nat) (x0 : Int) (x1 : Int) (x2 : ByteArray) (x3 : ByteArray) (W : World) (R : List Own) (Φ : PW) (J : Value → World → Prop) : Prop :=
  ∀ (b : Nat), ∃ (n0 : Int), (∀ (w1 : World), Sem.run Tryz.prog (binOp BinOp.and 3 (Value.int IntKind.i64 x0) (Value.int IntKind.i64 7)) w1 = Result.ok (Value.int IntKind.i64 n0) w1) ∧ Br
  (decide (n0 = 5)) (∀ (w2 : World) (R3 : List Own), Ctx W w2 (R ++ R3) Φ → Calls Tryz.prog F.store_Store_Trim #[Value.pointer (some (Addr.mk sB sO none)), Value.int IntKind.i64 x1] w2 fun
  (e4 : Ending) (w5 : World) => e4 = Ending.returned (Value.tuple #[]) ∧ ∃ (R6 : List Own), ∃ (Φ7 : PW), Stable Φ7 ∧ Ctx W w5 (R6 ++ R3) Φ7 ∧ ∀ (w8 : World) (R9 : List Own), Ctx W w8 (R6 ++
  R9) Φ7 → J (Value.tuple #[Value.pointer (some (Addr.mk sB sO none)), Value.int IntKind.i64 0]) w8) (Br (decide (n0 = 6)) (∀ (w10 : World) (R11 : List Own), Ctx W w10 (R ++ R11) Φ → Calls
  Tryz.prog F.store_Store_Apply #[Value.pointer (some (Addr.mk sB sO none)), Value.agg #[Value.int IntKind.i64 x1, Value.string x2, Value.string x3]] w10 fun (e12 : Ending) (w13 : World) => ∃
  (n14 : Int), e12 = Ending.returned (Value.int IntKind.i64 n14) ∧ ∃ (R15 : List Own), ∃ (Φ16 : PW), Stable Φ16 ∧ Ctx W w13 (R15 ++ R11) Φ16 ∧ ∀ (w17 : World) (R18 : List Own), Ctx W w17 (R15
  ++ R18) Φ16 → J (Value.tuple #[Value.pointer (some (Addr.mk sB sO none)), Value.int IntKind.i64 n14]) w17) (Br (decide (n0 = 7)) (∃ (n19 : Int), (∀ (w20 : World), Sem.run Tryz.prog (binOp
  BinOp.and 3 (Value.int IntKind.i64 x1) (Value.int IntKind.i64 1)) w20 = Result.ok (Value.int IntKind.i64 n19) w20) ∧ Br (decide (n19 = 0)) (∀ (w21 : World) (R22 : List Own), Ctx W w21 (R ++
  R22) Φ → Calls Tryz.prog F.store_Store_Copy #[Value.pointer (some (Addr.mk sB sO none))] w21 fun (e23 : Ending) (w24 : World) => ∃ (p25 : Option Addr), e23 = Ending.returned (Value.pointer
  p25) ∧ ∃ (R26 : List Own), ∃ (Φ27 : PW), Stable Φ27 ∧ Ctx W w24 (R26 ++ R22) Φ27 ∧ ∀ (w28 : World) (R29 : List Own), Ctx W w28 (R26 ++ R29) Φ27 → J (Value.tuple #[Value.pointer p25,
  Value.int IntKind.i64 0]) w28) (∀ (w30 : World) (R31 : List Own), Ctx W w30 (R ++ R31) Φ → Calls Tryz.prog F.store_Store_Snapshot #[Value.pointer (some (Addr.mk sB sO none))] w30 fun (e32 :
  Ending) (w33 : World) => ∃ (s34 : ByteArray), e32 = Ending.returned (Value.string s34) ∧ ∃ (R35 : List Own), ∃ (Φ36 : PW), Stable Φ36 ∧ Ctx W w33 (R35 ++ R31) Φ36 ∧ ∀ (w37 : World) (R38 :
  List Own), Ctx W w37 (R35 ++ R38) Φ36 → Calls Tryz.prog F.store_Restore #[Value.string s34] w37 fun (e39 : Ending) (w40 : World) => ∃ (p41 : Option Addr), ∃ (c42 : Bool), e39 =
  Ending.returned (Value.tuple #[Value.pointer p41, Value.bool c42]) ∧ ∃ (R43 : List Own), ∃ (Φ44 : PW), Stable Φ44 ∧ Ctx W w40 (R43 ++ R38) Φ44 ∧ Br (!c42) (∀ (w45 : World) (R46 : List Own),
  Ctx W w45 (R43 ++ R46) Φ44 → J (Value.tuple #[Value.pointer none, Value.int IntKind.i64 0]) w45) (∀ (w47 : World) (R48 : List Own), Ctx W w47 (R43 ++ R48) Φ44 → J (Value.tuple
  #[Value.pointer p41, Value.int IntKind.i64 0]) w47))) (∀ (w49 : World) (R50 : List Own), Ctx W w49 (R ++ R50) Φ → Calls Tryz.prog F.store_Store_Put #[Value.pointer (some (Addr.mk sB sO
  none)), Value.string x2, Value.string x3] w49 fun (e51 : Ending) (w52 : World) => e51 = Ending.returned (Value.tuple #[]) ∧ ∃ (R53 : List Own), ∃ (Φ54 : PW), Stable Φ54 ∧ Ctx W w52 (R53 ++
  R50) Φ54 ∧ ∀ (w55 : World) (R56 : List Own), Ctx W w55 (R53 ++ R56) Φ54 → J (Value.tuple #[Value.pointer (some (Addr.mk sB sO none)), Value.int IntKind.i64 0]) w55)))

theorem Berratalaw29_do_run (sB sO : Nat) (x0 : Int) (x1 : Int) (x2 : ByteArray) (x3 : ByteArray) {W w : World} {R : List Own} {Φ : PW} [Stable Φ] {J : Value → World → Prop} (c : Ctx W w R Φ) (h : Berratalaw29_do sB sO x0 x1 x2 x3 W R Φ J) : Calls Tryz.prog F.erratalaw29_do #[.pointer (some ⟨sB, sO, none⟩), .agg #[.int .i64 x0, .int .i64 x1, .string x2, .string x3]] w fun e w' => ∃ v, e = .returned v ∧ J v w' :=
  vcFS_sound (H := { keep := some [0, 3, 4, 5, 6, 7, 10, 17, 23, 35, 40, 50], track := [3] }) (by rw [show vcFS Tryz.prog W { keep := some [0, 3, 4, 5, 6, 7, 10, 17, 23, 35, 40, 50], track := [3] } F.erratalaw29_do #[.pointer (some ⟨sB, sO, none⟩), .agg #[.int .i64 x0, .int .i64 x1, .string x2, .string x3]] R Φ J = Berratalaw29_do sB sO x0 x1 x2 x3 W R Φ J by kernel_rfl]; exact h) c

/-- erratalaw29.digits -/
def Berratalaw29_digits (n : Int) (W : World) (R : List Own) (Φ : PW) (J : Value → World → Prop) : Prop :=
  ((10 : Int) = 0 → False) ∧ I64 (n.tdiv 10) ∧ ((10 : Int) = 0 → False) ∧ I64 (48 + (n.tdiv 10).tmod 10) ∧ ((10 : Int) = 0 → False) ∧ I64 (48 + n.tmod 10) ∧ ∀ (k0 : Nat) (w1 : World) (R2 :
  List Own), Ctx W w1 (Own.blk k0 [Value.int IntKind.u8 (IntKind.u8.wrap (48 + (n.tdiv 10).tmod 10)), Value.int IntKind.u8 (IntKind.u8.wrap (48 + n.tmod 10))] 5 :: R ++ R2) Φ → ∃ (s3 :
  ByteArray), ∃ (w4 : World), Sem.run Tryz.prog (convert 87 9 (Value.slice (some (Addr.mk k0 0 none)) 2 2)) w1 = Result.ok (Value.string s3) w4 ∧ ∃ (R5 : List Own), ∃ (Φ6 : PW), Stable Φ6 ∧
  Ctx W w4 (R5 ++ R2) Φ6 ∧ ∀ (w7 : World) (R8 : List Own), Ctx W w7 (R5 ++ R8) Φ6 → J (Value.string s3) w7

theorem Berratalaw29_digits_run (n : Int) {W w : World} {R : List Own} {Φ : PW} [Stable Φ] {J : Value → World → Prop} (c : Ctx W w R Φ) (h : Berratalaw29_digits n W R Φ J) : Calls Tryz.prog F.erratalaw29_digits #[.int .i64 n] w fun e w' => ∃ v, e = .returned v ∧ J v w' :=
  vcFS_sound (H := { keep := some [0, 2] }) (by rw [show vcFS Tryz.prog W { keep := some [0, 2] } F.erratalaw29_digits #[.int .i64 n] R Φ J = Berratalaw29_digits n W R Φ J by kernel_rfl]; exact h) c

end Go.Proofs.YtebnciehcnedjaaGreatDoor
end

/-
  Snapshot, walked.
-/
section
set_option linter.unusedVariables false
set_option linter.unusedSimpArgs false
namespace Go.Proofs.YtebnciehcnedjaaGreatDoor
open Go.Vc


def pairL (x : PairD) : List UInt8 := (textB x.key ++ textB x.val).data.toList
def pairsL (l : Run) : List UInt8 := l.flatMap pairL
def headL (seq : Int) (n : Nat) : List UInt8 := (intB seq ++ natB n).data.toList
def snapL (seq : Int) (l : Run) : List UInt8 := headL seq l.length ++ pairsL l
def snapB (s : StD) : ByteArray := ⟨(snapL s.seq (scanS s tE)).toArray⟩
abbrev Fit1 (l : Run) : Prop := ∀ x ∈ l, x.key.size ≤ 1000 ∧ x.val.size ≤ 1000

theorem pairsL_app (a b : Run) : pairsL (a ++ b) = pairsL a ++ pairsL b := List.flatMap_append
theorem pairsL_one (x : PairD) : pairsL [x] = pairL x := by simp [pairsL]
theorem pairL_len {x : PairD} (h : x.key.size ≤ 1000 ∧ x.val.size ≤ 1000) : (pairL x).length ≤ 2044 := by
  have h1 := textB_size (s := x.key) (by omega)
  have h2 := textB_size (s := x.val) (by omega)
  unfold pairL
  rw [list_size, size_app]
  omega
theorem pairsL_len : ∀ {l : Run}, Fit1 l → (pairsL l).length ≤ l.length * 2044
  | [], _ => by simp [pairsL]
  | x :: l, h => by
    have h1 := pairL_len (h x (by simp))
    have h2 := pairsL_len (l := l) fun y hy => h y (by simp [hy])
    rw [show x :: l = [x] ++ l from rfl, pairsL_app, pairsL_one, List.length_append, List.length_append]
    simp only [List.length_cons, List.length_nil]
    omega
theorem pairsL_pre {l : Run} (h : Fit1 l) (hl : l.length ≤ 1000000) (i : Nat) : (pairsL (l.take i)).length ≤ 2044000000 := by
  have h1 := pairsL_len (l := l.take i) fun y hy => h y (List.mem_of_mem_take hy)
  rw [List.length_take] at h1
  omega
theorem headL_len {seq : Int} (h : I64 seq) {n : Nat} (hn : n ≤ 1000000) : (headL seq n).length ≤ 42 := by
  have h1 := intB_size h
  have h2 := natB_size (n := n) (by unfold I64; omega)
  unfold headL
  rw [list_size, size_app]
  omega

section
variable {Φ : PW} {q : TO} {s : StD}
set_option maxHeartbeats 1000000 in
theorem Snapshot_in [Stable Φ] [hΦ : Has Φ (StR q s)] (hT : ∀ M w, Φ M w → TabI M w) (hC : StC q s) (hn : s.levels.length ≤ 900000) (hl : s.levels.flatten.length ≤ 900000) (hv : (verP s).length ≤ 1000000) (hz : Fit1 (verP s)) (hs : I64 s.seq) :
    GivesIn Φ Tryz.prog F.store_Store_Snapshot #[.pointer (some ⟨q.sb, 0, none⟩)] (.string (snapB s)) := by
  have hz1 : Szs (verP s) := fun x hx => by have := hz x hx; unfold maxLen; omega
  obtain ⟨l, hL⟩ : ∃ l, scanS s tE = l := ⟨_, rfl⟩
  have hsub : l.length ≤ (verP s).length ∧ Fit1 l := by
    have h1 : (scanS s tE).length ≤ (verP s).length := Nat.le_trans (List.length_filter_le _ _) (Nat.le_trans (List.length_filter_le _ _) (normK_len _))
    rw [hL] at h1
    refine ⟨h1, fun x hx => hz x ?_⟩
    rw [← hL] at hx
    exact normK_mem x (List.mem_filter.1 (List.mem_filter.1 hx).1).1
  have hll : l.length ≤ 1000000 := by omega
  have hpre := pairsL_pre hsub.2 hll
  have hhd := headL_len hs hll
  refine gives_in (Bstore_Store_Snapshot_run q.sb 0) fun W R => fun w G cx => ?_
  refine (Scan_sl (pre := tE) hC hn hl (by omega) hz1 (by show 0 ≤ _; omega)).use cx fun p c w g1 g2 cx => ?_
  have hth := cx.phi.2.there
  rw [hL] at cx hth ⊢
  have st : Stable (fun M w => Φ M w ∧ Sl M w p l) := instStableAnd Φ (fun M w => Sl M w p l)
  obtain ⟨Φ1, hΦ1⟩ : ∃ Φ1 : PW, Φ1 = (fun M w => Φ M w ∧ Sl M w p l) := ⟨_, rfl⟩
  rw [← hΦ1] at cx st
  have r1 : ∀ M w, Φ1 M w → Φ M w := fun M w h => by rw [hΦ1] at h; exact h.1
  have r2 : ∀ M w, Φ1 M w → Sl M w p l := fun M w h => by rw [hΦ1] at h; exact h.2
  have hT1 : ∀ M w, Φ1 M w → TabI M w := fun M w h => hT M w (r1 M w h)
  refine ⟨p, _, c, rfl, R, Φ1, st, cx, fun b w G cx => ⟨s.seq, (hΦ.go _ _ (r1 _ _ cx.phi)).1.2.1 2 (by show 2 < 5; decide), fun w G cx => ?_⟩⟩
  have hi1 := intB_size hs
  have hn1 := natB_size (n := l.length) (by unfold I64; omega)
  refine (Int_in (.inl ⟨hT1, hs⟩)).use cx fun w cx => ⟨_, rfl, .blk b [.pointer none, .slice none 0 0] 89 :: R, Φ1, st, cx, fun w G cx => ?_⟩
  refine (Num_in (.inl ⟨hT1, by unfold I64; omega⟩)).use cx fun w cx => ⟨_, rfl, .blk b [.pointer none, .slice none 0 0] 89 :: R, Φ1, st, cx, by show (intB s.seq).size + (natB l.length).size ≤ _; omega, fun w G cx => ?_⟩
  refine WriteString_use (intB s.seq ++ natB l.length) Bd.nil (Bd.fresh cx) (by rw [size_app]; simp only [List.length_nil]; omega) fun R1 w hB cx => ⟨_, _, rfl, R1 ++ R, Φ1, st, by rw [List.append_assoc]; exact cx, ?_⟩
  rw [List.nil_append] at hB
  clear cx
  refine exI_mk (fun iI R' Φ' k => ∃ (i : Nat) (Q : List Own), iI = i ∧ i ≤ l.length ∧ BdT b (headL s.seq l.length ++ pairsL (l.take i)) Q ∧ R' = Q ++ R ∧ Φ' = Φ1 ∧ k = l.length - i) ⟨⟨_, Φ1, _, st, fun w G cx => cx, 0, R1, rfl, Nat.zero_le _, by rw [List.take_zero, show pairsL [] = [] from rfl, List.append_nil]; exact hB, rfl, rfl, rfl⟩, ?_⟩
  rintro iI R2 Φ2 k _ ⟨i, Q, rfl, hi, hQ, rfl, rfl, rfl⟩
  refine Br.intro (fun hlt => ?_) (fun hge => fun w G cx => ?_)
  · have hlt : i < l.length := by have := of_decide_eq_true hlt; omega
    obtain ⟨g, o, rfl⟩ := hth (by omega)
    have hx := hsub.2 _ (List.getElem_mem hlt)
    have hk1 := textB_size (s := l[i].key) (by omega)
    have hk2 := textB_size (s := l[i].val) (by omega)
    have hstep : pairsL (l.take (i + 1)) = pairsL (l.take i) ++ pairL l[i] := by rw [List.take_succ_eq_append_getElem hlt, pairsL_app, pairsL_one]
    have hp1 := hpre i
    have any : ∀ {w : World} {R G : List Own} {Ψ : PW} [Stable Ψ], Ctx W w (R ++ G) Ψ → Ctx W w ([] ++ G) (fun _ _ => True) := fun cx => (Ctx.right cx).weak fun _ _ _ => trivial
    refine ⟨by omega, ptrK_intro g o rfl fun w G cx => ⟨l[i].key, l[i].val, by rw [Int.toNat_natCast]; exact sl_pair (r2 _ _ cx.phi) hlt, fun _ => ⟨[], fun _ _ => True, inferInstance, fun w G cx => any cx, fun w G cx => ?_⟩⟩⟩
    refine (Text_in (.inl ⟨hT1, by unfold I64; omega⟩) (by omega)).use cx fun w cx => ⟨_, rfl, Q ++ R, Φ2, inferInstance, cx, fun w G cx => any cx, fun w G cx => ?_⟩
    refine (Text_in (.inl ⟨hT1, by unfold I64; omega⟩) (by omega)).use cx fun w cx => ⟨_, rfl, Q ++ R, Φ2, inferInstance, cx, by show (textB l[i].key).size + (textB l[i].val).size ≤ _; omega, fun w G cx => ?_⟩
    refine WriteString_use (textB l[i].key ++ textB l[i].val) hQ (cx.re (List.append_assoc _ _ _)) (by rw [List.length_append, size_app]; omega) fun Q' w hQ' cx => ⟨_, _, rfl, Q' ++ R, Φ2, inferInstance, by rw [List.append_assoc]; exact cx, by unfold I64; omega, _, Φ2, l.length - (i + 1), inferInstance, fun w G cx => cx, ⟨i + 1, Q', by omega, hlt, ?_, rfl, rfl, rfl⟩, by omega⟩
    rw [hstep, ← List.append_assoc]; exact hQ'
  · have hge : i = l.length := by have := of_decide_eq_false hge; omega
    subst hge
    rw [List.take_length] at hQ
    exact String_use hQ (cx.re (List.append_assoc _ _ _)) fun w cx => ⟨_, rfl, R, Φ2, inferInstance, cx, fun w G cx => ⟨by unfold snapB; rw [hL]; rfl, cx.left.weak r1⟩⟩
end
end Go.Proofs.YtebnciehcnedjaaGreatDoor
end

/-
  Restore, walked.
-/
section
set_option linter.unusedVariables false
set_option linter.unusedSimpArgs false
namespace Go.Proofs.YtebnciehcnedjaaGreatDoor
open Go.Vc


theorem geq_run (a b : ByteArray) (t : TypeId) (w : World) : Sem.run Tryz.prog (binOp BinOp.geq t (.string a) (.string b)) w = .ok (.bool (decide (0 ≤ cmpT a b))) w := by
  have e : binOp .geq t (.string a) (.string b) = pure (.bool !(Op.bytesLess a.toList b.toList)) := by simp [binOp, Op.stringOp]
  rw [e, Sem.run_pure]
  have h1 : Op.bytesLess a.toList b.toList = decide (cmpT a b < 0) := bl_cmp a b
  rw [h1]
  congr 2
  by_cases h : cmpT a b < 0
  · rw [decide_eq_true h, decide_eq_false (show ¬ 0 ≤ cmpT a b by omega)]; rfl
  · rw [decide_eq_false h, decide_eq_true (show 0 ≤ cmpT a b by omega)]; rfl

abbrev keyT (st : RdS) : ByteArray := (stepT st).1
abbrev valT (st : RdS) : ByteArray := (stepT (stepT st).2).1
abbrev nextT (st : RdS) : RdS := (stepT (stepT st).2).2
def lastKey (acc : Run) : ByteArray := (acc.getLast?.map PairD.key).getD tE
def stopB (acc : Run) (st : RdS) : Bool := decide (valT st = tE) || (decide ((0 : Int) < acc.length) && decide (0 ≤ cmpT (lastKey acc) (keyT st)))
def pairsK : Nat → RdS → Run → Option (Run × RdS)
  | 0, st, acc => some (acc, st)
  | k + 1, st, acc => if stopB acc st = true then none else pairsK k (nextT st) (acc ++ [⟨keyT st, valT st⟩])
def restS (n : Int) (ps : Run) : StD := ⟨[], addAt 1 [] ps, n, [], n⟩
def restL (l : List UInt8) : Option StD :=
  match pairsK (rdNat (rdInt (l, false)).2).1.toNat (rdNat (rdInt (l, false)).2).2 [] with
  | none => none
  | some (ps, st) => if (rdDone st = true ∧ 0 ≤ (rdInt (l, false)).1) ∧ (rdInt (l, false)).1 ≤ 1099511627776 then some (restS (rdInt (l, false)).1 ps) else none

theorem stepT_eats (st : RdS) : (stepT st).1.data.toList = [] ∨ (stepT st).2.1.length + 3 + (stepT st).1.size ≤ st.1.length := by
  unfold stepT
  simp only
  split
  · exact .inl rfl
  · rename_i h
    by_cases hc : (stepC 44 ((stepN 58 0 st).2.1.drop (stepN 58 0 st).1.toNat, (stepN 58 0 st).2.2)).2 = true
    · left
      rw [if_pos hc]
    · right
      simp only
      rw [if_neg hc, bs_size, List.length_take]
      unfold stepN at hc ⊢
      split at hc
      · rename_i n r hn
        obtain ⟨⟨h1, _⟩, h2⟩ := (numP_iff (.inl rfl)).1 hn
        have := itoa_len h1
        simp only at hc ⊢
        unfold stepC at hc ⊢
        simp only at hc ⊢
        split at hc
        · exact absurd rfl hc
        · rename_i x r2 hx
          have hlen := congrArg List.length hx
          rw [List.length_drop, List.length_cons] at hlen
          split at hc
          · rename_i hxe
            rw [if_pos hxe, h2, List.length_append, List.length_cons]
            simp only; omega
          · exact absurd rfl hc
      · exfalso
        apply hc
        rfl
/-- a pair that is read -/
theorem pair_eats {acc : Run} {st : RdS} (h : stopB acc st = false) : (nextT st).1.length + 3 ≤ st.1.length ∧ (keyT st).size ≤ st.1.length ∧ (valT st).size ≤ st.1.length := by
  unfold stopB at h
  rw [Bool.or_eq_false_iff] at h
  have h1 := of_decide_eq_false h.1
  have a := stepT_len st
  have b := stepT_len (stepT st).2
  have c := stepT_eats (stepT st).2
  rcases c with c | c
  · exfalso
    apply h1
    show (stepT (stepT st).2).1 = tE
    refine ByteArray.ext ?_
    exact Array.toList_inj.1 c
  · exact ⟨by show (stepT (stepT st).2).2.1.length + 3 ≤ _; omega, by show (stepT st).1.size ≤ _; omega, by show (stepT (stepT st).2).1.size ≤ _; omega⟩
theorem lastKey_at {acc : Run} (h : 0 < acc.length) : lastKey acc = (acc[acc.length - 1]'(by omega)).key := by
  unfold lastKey
  rw [List.getLast?_eq_getElem?, List.getElem?_eq_getElem (by omega)]
  rfl
theorem idxL_at : ∀ (n : Nat) (a : Run) (i : Nat) (h : i < a.length), (idxL n a)[i]? = some ⟨a[i], n + i⟩
  | n, x :: a, 0, _ => rfl
  | n, x :: a, i + 1, h => by
    rw [idxL, List.getElem?_cons_succ, idxL_at (n + 1) a i (by simpa using h), List.getElem_cons_succ, show n + 1 + i = n + (i + 1) by omega]

set_option maxHeartbeats 4000000 in
theorem Restore_use {W w : World} {S : List Own} {Φ : PW} [Stable Φ] (hΦ : ∀ M w, Φ M w → NumI M w) (l : List UInt8) (hl : l.length ≤ 1000000) (cx : Ctx W w S Φ) {K : Ending → World → Prop}
    (h0 : ∀ w', restL l = none → Ctx W w' S Φ → K (.returned (.tuple #[.pointer none, .bool false])) w')
    (h1 : ∀ q s w', restL l = some s → StQ q s → Ctx W w' (stO q s S) (fun M w => Φ M w ∧ stF q s M w) → K (.returned (.tuple #[.pointer (some ⟨q.sb, 0, none⟩), .bool true])) w') :
    Calls Tryz.prog F.store_Restore #[.string (bs l)] w K := by
  refine (Bstore_Restore_run (bs l) (J := fun u w' => K (.returned u) w') cx ?_).mono fun e w' ⟨v, he, hj⟩ => by rw [he]; exact hj
  clear cx
  refine fun w G cx => Open_use l cx fun b w cx => ⟨_, rfl, rd b (l, false) :: S, Φ, inferInstance, cx, fun w G cx => ?_⟩
  refine RInt_to hΦ (by show l.length ≤ _; omega) cx ?_
  have hlen1 : (rdInt (l, false)).2.1.length ≤ l.length := stepN_len 59 (-9223372036854775808) (l, false)
  unfold restL at h0 h1
  have hsq := rdInt_i64 (l, false)
  obtain ⟨⟨sq, st1⟩, e1⟩ : ∃ x, rdInt (l, false) = x := ⟨_, rfl⟩
  rw [e1] at h0 h1 hlen1 hsq ⊢
  simp only at h0 h1 hlen1 hsq ⊢
  refine fun kb w G cx => ?_
  have cx1 : Ctx W w (rd b st1 :: (Own.blk kb [.slice none 0 0, .slice none 0 0, .int .i64 sq, .slice none 0 0, .int .i64 0] 77 :: S) ++ G) Φ := cx.swap
  clear cx
  refine RNum_to hΦ (by omega) cx1 ?_
  clear cx1
  have hlen2 : (rdNat st1).2.1.length ≤ st1.1.length := stepN_len 59 0 st1
  have hN : 0 ≤ (rdNat st1).1 := (stepN_nonneg (e := 59) (.inr (.inl rfl)) st1).1
  obtain ⟨⟨N, st2⟩, e2⟩ : ∃ x, rdNat st1 = x := ⟨_, rfl⟩
  rw [e2] at h0 h1 hlen2 hN ⊢
  simp only at h0 h1 hlen2 hN ⊢
  obtain ⟨B, hB⟩ : ∃ B, Own.blk kb [.slice none 0 0, .slice none 0 0, .int .i64 sq, .slice none 0 0, .int .i64 0] 77 = B := ⟨_, rfl⟩
  rw [hB]
  refine exI_mk (fun p n c R' Φ' k => ∃ (acc : Run) (st : RdS), n = acc.length ∧ pairsK (N.toNat - acc.length) st acc = pairsK N.toNat st2 [] ∧ acc.length ≤ N.toNat ∧ acc.length + st.1.length ≤ l.length ∧ (∀ x ∈ acc, x.key.size ≤ l.length ∧ x.val.size ≤ l.length) ∧ R' = rd b st :: tabO p c acc :: B :: S ∧ Φ' = Φ ∧ k = N.toNat - acc.length)
    ⟨⟨rd b st2 :: tabO none 0 [] :: B :: S, Φ, _, inferInstance, fun w G cx => (Ctx.nobuf cx 69 2).swap, [], st2, rfl, by rw [List.length_nil, Nat.sub_zero], by simp, by simp only [List.length_nil]; omega, fun x hx => (by cases hx), rfl, rfl, rfl⟩, ?_⟩
  rintro p n c R1 Φ1 k _ ⟨acc, st, rfl, hK, hle, hlen, hsz, rfl, rfl, rfl⟩
  refine Br.intro (fun hlt => fun w G cx => ?_) (fun hge => fun w G cx => ?_)
  · have hlt : acc.length < N.toNat := by have := of_decide_eq_true hlt; omega
    obtain ⟨m, hm⟩ : ∃ m, N.toNat - acc.length = m + 1 := ⟨N.toNat - acc.length - 1, by omega⟩
    rw [hm, show pairsK (m + 1) st acc = if stopB acc st = true then none else pairsK m (nextT st) (acc ++ [⟨keyT st, valT st⟩]) from rfl] at hK
    have ha := stepT_len st
    have hb := stepT_len (stepT st).2
    refine Text_to hΦ (by omega) cx fun w G cx => Text_to hΦ (by omega) cx fun b1 w G cx => ?_
    refine ⟨fun _ => by unfold I64; omega, fun hc => ?_, ?_⟩
    · have := (Bool.and_eq_true _ _).mp hc
      have := of_decide_eq_true this.2
      omega
    have hptr : ∀ (w : World) (G : List Own), Ctx W w (rd b (nextT st) :: tabO p c acc :: B :: S ++ G) Φ1 → 0 < acc.length → ∃ g, p = some ⟨g, 0, none⟩ := fun w G cx h => e_ptr cx.swap (by rw [idxL_len]; exact h)
    have body : ∀ s52 : ByteArray, (0 < acc.length → s52 = lastKey acc) → ∃ c53 : Bool, ((!decide (valT st = ByteArray.mk #[]) && decide ((0 : Int) < acc.length)) = true → ∀ w, Sem.run Tryz.prog (binOp BinOp.geq 9 (.string s52) (.string (keyT st))) w = .ok (.bool c53) w) ∧ (decide (valT st = ByteArray.mk #[]) || decide ((0 : Int) < acc.length) && c53) = stopB acc st := fun s52 hs => ⟨decide (0 ≤ cmpT s52 (keyT st)), fun _ w => geq_run _ _ _ _, by
      unfold stopB
      by_cases h : (0 : Int) < acc.length
      · rw [hs (by omega)]
      · rw [decide_eq_false h]; rfl⟩
    have tail : ∀ c0 : Bool, (c0 = stopB acc st) → c0 = true → K (.returned (.tuple #[.pointer none, .bool false])) w ∨ True := fun _ _ _ => .inr trivial
    clear tail
    have hptrK : ∀ {X : Nat → Nat → Prop}, (∀ g o, (0 < acc.length → p = some ⟨g, o, none⟩ ∧ o = 0) → X g o) → ptrK (some (!decide (valT st = ByteArray.mk #[]) && decide ((0 : Int) < acc.length))) p X := fun {X} hX => by
      by_cases h : 0 < acc.length
      · obtain ⟨g, hg⟩ := hptr _ _ cx h
        exact ptrK_intro g 0 hg (hX g 0 fun _ => ⟨hg, rfl⟩)
      · exact ptrK_off (by rw [decide_eq_false (show ¬ (0 : Int) < acc.length by omega), Bool.and_false]) fun g o => hX g o fun h2 => absurd h2 h
    refine hptrK fun g o hg => ⟨lastKey acc, fun hc => ?_, ?_⟩
    · have h3 := of_decide_eq_true ((Bool.and_eq_true _ _).mp hc).2
      obtain ⟨rfl, rfl⟩ := hg (by omega)
      have h4 := e_row cx.swap (idxL_at 0 acc (acc.length - 1) (by omega))
      rw [lastKey_at (by omega)]
      have h5 := h4 0 (by show 0 < 2; decide)
      rw [show ((acc.length : Int) - 1).toNat = acc.length - 1 by omega, Nat.zero_add]
      exact h5
    obtain ⟨c53, hc1, hc2⟩ := body (lastKey acc) fun _ => rfl
    refine ⟨c53, hc1, ?_⟩
    rw [hc2]
    clear hc1 hc2 body hptrK hg
    refine Br.intro (fun hs => fun w G cx => ?_) (fun hs => ?_)
    · rw [hs, if_pos rfl] at hK
      have cx2 : Ctx W w (S ++ G) Φ1 := cx.drop1.drop1.drop1
      exact h0 w (by rw [← hK]) cx2.left
    · rw [if_neg (by rw [hs]; simp)] at hK
      obtain ⟨h3, h4, h5⟩ := pair_eats hs
      refine fun k2 w G cx => ?_
      have hsw : (Own.blk k2 [.string (keyT st), .string (valT st)] 69 :: tabO p c acc :: (rd b (nextT st) :: (B :: S ++ G))).Perm (Own.blk k2 [.string (keyT st), .string (valT st)] 69 :: rd b (nextT st) :: tabO p c acc :: (B :: S ++ G)) := List.Perm.cons _ (List.Perm.swap _ _ _)
      have cx2 := Ctx.perm cx hsw.symm
      have hil := idxL_len 0 acc
      obtain ⟨p', cap', w', hr, _, cx3⟩ := cx2.app1 (ts := 74) (ty := 74) (kb := #[false, false]) (bytes := 32) (P := Tryz.prog) (by kernel_rfl) (by omega) rfl rfl (by omega) (by omega)
      have ea : (acc ++ [(⟨keyT st, valT st⟩ : PairD)]).length = acc.length + 1 := by rw [List.length_append]; rfl
      have eb : cellsE (idxL 0 acc) ++ [Value.string (keyT st), Value.string (valT st)] = cellsE (idxL 0 (acc ++ [(⟨keyT st, valT st⟩ : PairD)])) := by
        rw [idxL_app, cellsE_app]
        rfl
      rw [hil] at hr
      have cx4 : Ctx W w' (rd b (nextT st) :: tabO p' cap' (acc ++ [(⟨keyT st, valT st⟩ : PairD)]) :: (B :: S ++ G)) Φ1 := by
        have h6 := cx3.swap
        rw [eb, hil] at h6
        show Ctx W w' (rd b (nextT st) :: Own.buf p' (idxL 0 (acc ++ [(⟨keyT st, valT st⟩ : PairD)])).length cap' (cellsE (idxL 0 (acc ++ [(⟨keyT st, valT st⟩ : PairD)]))) _ 2 :: (B :: S ++ G)) Φ1
        rw [idxL_len, ea]
        exact h6
      refine ⟨p', _, cap', w', hr, rd b (nextT st) :: tabO p' cap' (acc ++ [(⟨keyT st, valT st⟩ : PairD)]) :: B :: S, Φ1, inferInstance, cx4, _, Φ1, N.toNat - (acc.length + 1), inferInstance, fun w G cx => cx, ⟨acc ++ [(⟨keyT st, valT st⟩ : PairD)], nextT st, by rw [ea], ?_, by rw [ea]; omega, by rw [ea]; omega, fun x hx => ?_, rfl, rfl, by rw [ea]⟩, by omega⟩
      · rw [ea, show N.toNat - (acc.length + 1) = m by omega]
        exact hK
      · rcases List.mem_append.1 hx with hx | hx
        · exact hsz x hx
        · rw [List.mem_singleton.1 hx]
          exact ⟨by show (keyT st).size ≤ _; omega, by show (valT st).size ≤ _; omega⟩
  · have hge : N.toNat - acc.length = 0 := by have := of_decide_eq_false hge; omega
    rw [hge, show pairsK 0 st acc = some (acc, st) from rfl] at hK
    rw [← hK] at h0 h1
    simp only at h0 h1
    have drop : ∀ (w : World) (G : List Own), Ctx W w (rd b st :: tabO p c acc :: B :: S ++ G) Φ1 → Ctx W w S Φ1 := fun w G cx => by
      have cx2 : Ctx W w (S ++ G) Φ1 := cx.drop1.drop1.drop1
      exact cx2.left
    refine Done_to cx ?_
    refine Br.intro (fun hd => fun w G cx => h0 w (if_neg fun h => by rw [h.1.1] at hd; cases hd) (drop w G cx)) (fun hd => fun w G cx => ⟨sq, by rw [← hB] at cx; exact cx.get 2 rfl rfl, Br.intro (fun hn => fun w G cx => h0 w (if_neg fun h => by have := of_decide_eq_true hn; omega) (drop w G cx)) (fun hn => fun w G cx => ⟨sq, by rw [← hB] at cx; exact cx.get 2 rfl rfl, Br.intro (fun hx => fun w G cx => h0 w (if_neg fun h => by have := of_decide_eq_true hx; omega) (drop w G cx)) (fun hx => fun w G cx => ⟨sq, by rw [← hB] at cx; exact cx.get 2 rfl rfl, fun w G cx => ⟨by rw [← hB] at cx; exact cx.can 2 rfl (by show 0 + 4 + 1 ≤ 5; omega), fun w' hw' => ?_⟩⟩)⟩)⟩)
    have hn := of_decide_eq_false hn
    have hx := of_decide_eq_false hx
    have hd : rdDone st = true := by cases hr : rdDone st with
      | true => rfl
      | false => rw [hr] at hd; cases hd
    rw [← hB] at cx
    have cx1 := cx.put 2 hw' rfl
    have hel : restS sq acc = ⟨[], addAt 1 [] acc, sq, [], sq⟩ := rfl
    refine ⟨rd b st :: tabO p c acc :: Own.blk kb [.slice none 0 0, .slice none 0 0, .int .i64 sq, .slice none 0 0, .int .i64 sq] 77 :: S, Φ1, inferInstance, cx1, fun w G cx => ?_⟩
    have cx2 := cx.drop1
    have hz1 : Szs acc := fun x hx => by have := hsz x hx; unfold maxLen; omega
    obtain ⟨c1, c2, c3⟩ := freezeE (S := Own.blk kb [.slice none 0 0, .slice none 0 0, .int .i64 sq, .slice none 0 0, .int .i64 sq] 77 :: S ++ G) cx2 (by rw [idxL_d]; exact hz1)
    rw [idxL_d] at c1 c2
    have st1 : Stable (fun M w => Φ1 M w ∧ Sl M w p acc) := instStableAnd Φ1 (fun M w => Sl M w p acc)
    have c4 := ((c1.nobuf 84 1).swap).weak (Ψ := fun M w => (Φ1 M w ∧ Sl M w p acc) ∧ LBE [] M w) fun M w h => ⟨h, fun x hx => by cases hx⟩
    refine add_use (Φ := fun M w => Φ1 M w ∧ Sl M w p acc) (hR := ⟨fun M w h => h.2⟩) (i := 1) (sb := kb) (tS := 77) (a := .slice none 0 0) (lp := none) (lc := 0) (c := .int .i64 sq) (d := .slice none 0 0) (e := .int .i64 sq) (bs := []) (S := S ++ G) c2 c3 (by omega) (by simp) (fun x hx => by cases hx) c4 fun lp' lc' bs' w' hb' cx5 => ?_
    have stL : Stable (fun M w => (Φ1 M w ∧ Sl M w p acc) ∧ LBE bs' M w) := instStableAnd (fun M w => Φ1 M w ∧ Sl M w p acc) (LBE bs')
    refine ⟨rfl, stA kb 77 (.slice none 0 0) lp' lc' (.int .i64 sq) (.slice none 0 0) (.int .i64 sq) bs' S, _, stL, cx5.re (by unfold stA; simp only [List.append_assoc, List.cons_append]), fun w G cx => ?_⟩
    have cx6 := (cx.left.nobuf 46 3).nobuf 69 2
    refine h1 ⟨kb, none, 0, lp', lc', bs', none, 0, []⟩ (restS sq acc) w (if_pos ⟨⟨hd, by omega⟩, by omega⟩) ⟨hb', fun x hx => by cases hx⟩ ((cx6.perm ?_).weak fun M w h => ⟨h.1.1, Elems.nil, h.2⟩)
    unfold stO stA
    show (Own.buf none 0 0 [] 69 2 :: Own.buf none 0 0 [] 46 3 :: (Own.blk kb [.slice none 0 0, .slice lp' bs'.length lc', .int .i64 sq, .slice none 0 0, .int .i64 sq] 77 :: Own.buf lp' bs'.length lc' (bs'.map LB.cell) 84 1 :: (bs'.map LB.own ++ S))).Perm (Own.blk kb [.slice none 0 0, .slice lp' bs'.length lc', .int .i64 sq, .slice none 0 0, .int .i64 sq] 77 :: Own.buf lp' bs'.length lc' (bs'.map LB.cell) 84 1 :: (bs'.map LB.own ++ (Own.buf none 0 0 [] 69 2 :: Own.buf none 0 0 [] 46 3 :: S)))
    have h := List.perm_append_comm_assoc [Own.buf none 0 0 [] 69 2, Own.buf none 0 0 [] 46 3] (Own.blk kb [.slice none 0 0, .slice lp' bs'.length lc', .int .i64 sq, .slice none 0 0, .int .i64 sq] 77 :: Own.buf lp' bs'.length lc' (bs'.map LB.cell) 84 1 :: bs'.map LB.own) S
    simp only [List.cons_append, List.nil_append, List.append_assoc] at h
    exact h
end Go.Proofs.YtebnciehcnedjaaGreatDoor
end

/-
  What was read stands in the string: the readers' results, read backwards.
-/
section
set_option linter.unusedVariables false
set_option linter.unusedSimpArgs false
namespace Go.Proofs.YtebnciehcnedjaaGreatDoor
open Go.Vc

end Go.Proofs.YtebnciehcnedjaaGreatDoor
end

/-
  Snapshots, in plain Lean: what Restore makes of them; what it accepts.
-/
section
set_option linter.unusedVariables false
set_option linter.unusedSimpArgs false
namespace Go.Proofs.YtebnciehcnedjaaGreatDoor
open Go.Vc


abbrev NeV (l : Run) : Prop := ∀ x ∈ l, x.val ≠ tE
theorem pairsK_succ (k : Nat) (st : RdS) (acc : Run) : pairsK (k + 1) st acc = if stopB acc st = true then none else pairsK k (nextT st) (acc ++ [⟨keyT st, valT st⟩]) := rfl

theorem pair_read {x : PairD} {t : List UInt8} (h : x.key.size ≤ 1000 ∧ x.val.size ≤ 1000) : keyT (pairL x ++ t, false) = x.key ∧ valT (pairL x ++ t, false) = x.val ∧ nextT (pairL x ++ t, false) = (t, false) := by
  have e : pairL x ++ t = (textB x.key).data.toList ++ ((textB x.val).data.toList ++ t) := by
    unfold pairL
    simp [ByteArray.data_append]
  have h1 := text_read (s := x.key) (r := (textB x.val).data.toList ++ t) (by omega)
  have h2 := text_read (s := x.val) (r := t) (by omega)
  unfold keyT valT nextT
  rw [e, h1]
  simp only
  rw [h2]
  exact ⟨trivial, rfl, rfl⟩
theorem asc_last {acc : Run} {x : PairD} {l : Run} (h : AscK (acc ++ x :: l)) (h0 : 0 < acc.length) : cmpT (lastKey acc) x.key < 0 := by
  rw [lastKey_at h0]
  exact (List.pairwise_append.1 h).2.2 _ (List.getElem_mem _) x (by simp)
theorem pairsK_read : ∀ (l acc : Run) (t : List UInt8), Fit1 l → NeV l → AscK (acc ++ l) → pairsK l.length (pairsL l ++ t, false) acc = some (acc ++ l, (t, false))
  | [], acc, t, _, _, _ => by rw [List.append_nil]; rfl
  | x :: l, acc, t, hf, hv, ha => by
    obtain ⟨h1, h2, h3⟩ := pair_read (t := pairsL l ++ t) (hf x (by simp))
    have e : pairsL (x :: l) ++ t = pairL x ++ (pairsL l ++ t) := by
      rw [show x :: l = [x] ++ l from rfl, pairsL_app, pairsL_one, List.append_assoc]
    have hs : stopB acc (pairL x ++ (pairsL l ++ t), false) = false := by
      unfold stopB
      rw [h1, h2, Bool.or_eq_false_iff, decide_eq_false_iff_not]
      refine ⟨hv x (by simp), ?_⟩
      by_cases h0 : 0 < acc.length
      · have := asc_last ha h0
        rw [decide_eq_false (show ¬ 0 ≤ cmpT (lastKey acc) x.key by omega), Bool.and_false]
      · rw [decide_eq_false (show ¬ (0 : Int) < acc.length by omega), Bool.false_and]
    rw [List.length_cons, e, pairsK_succ, if_neg (by rw [hs]; simp), h1, h2, h3, show (⟨x.key, x.val⟩ : PairD) = x from rfl, pairsK_read l (acc ++ [x]) t (fun y hy => hf y (by simp [hy])) (fun y hy => hv y (by simp [hy])) (by rw [List.append_assoc]; exact ha), List.append_assoc]
    rfl
theorem headL_app (seq : Int) (n : Nat) (t : List UInt8) : headL seq n ++ t = (intB seq).data.toList ++ ((natB n).data.toList ++ t) := by
  unfold headL
  simp [ByteArray.data_append]
theorem rest_snap {seq : Int} {l : Run} (h0 : 0 ≤ seq) (h1 : seq ≤ 1099511627776) (hf : Fit1 l) (hv : NeV l) (ha : AscK l) (hl : l.length ≤ 1000000) : restL (snapL seq l) = some (restS seq l) := by
  unfold restL snapL
  rw [headL_app, int_read (by unfold I64; omega)]
  simp only
  rw [nat_read (by omega)]
  simp only
  have h2 := pairsK_read l [] [] hf hv ha
  rw [List.append_nil, List.nil_append] at h2
  rw [Int.toNat_natCast, h2]
  exact if_pos ⟨⟨rfl, h0⟩, h1⟩

structure RestOk (seq : Int) (ps : Run) (l : List UInt8) : Prop where
  snap : snapL seq ps = l
  asc : AscK ps
  ne : NeV ps
  pos : 0 ≤ seq
  top : seq ≤ 1099511627776
  fit : ∀ x ∈ ps, x.key.size ≤ l.length ∧ x.val.size ≤ l.length
  len : ps.length ≤ l.length
/-! ### a restored store -/
theorem filt_true {l : Run} : (l.filter fun x => preP tE x.key) = l := by
  rw [List.filter_eq_self]
  intro x _
  unfold preP
  rw [Bool.and_eq_true, decide_eq_true_eq, decide_eq_true_eq]
  refine ⟨by show (0 : Int) ≤ _; omega, ?_⟩
  show x.key.extract 0 0 = _
  apply ByteArray.ext
  simp [ByteArray.data_extract]
theorem scan_all (s : StD) : scanS s tE = allS s := filt_true
theorem rest_ver (seq : Int) (ps : Run) : verP (restS seq ps) = ps := by
  show [] ++ allRuns (addAt 1 [] ps) = ps
  rw [addAt_nil, List.nil_append]
  unfold allRuns
  by_cases e : ps = []
  · rw [if_pos e, e]; rfl
  · rw [if_neg e]; simp
theorem rest_i {seq : Int} {ps : Run} (ha : AscK ps) : StI (restS seq ps) := by
  have e : (restS seq ps).levels = [[], if ps = [] then [] else [ps]] := addAt_nil 1 ps
  refine ⟨.nil, by show 0 < 8; decide, ?_, ?_⟩
  · rw [e]
    by_cases h : ps = []
    · rw [if_pos h]
      have no : ∀ l ∈ ([[], []] : List Lev), ∀ r ∈ l, False := fun l hl r hr => by
        simp at hl
        rw [hl] at hr
        cases hr
      exact ⟨fun l hl r hr => (no l hl r hr).elim, fun l hl r hr => (no l hl r hr).elim⟩
    · rw [if_neg h]
      refine ⟨fun l hl r hr => ?_, fun l hl r hr => ?_⟩
      · simp at hl
        rcases hl with rfl | rfl
        · cases hr
        · rw [List.mem_singleton.1 hr]; exact ha
      · simp at hl
        rcases hl with rfl | rfl
        · cases hr
        · rw [List.mem_singleton.1 hr]; exact h
  · rw [e]
    intro l hl
    simp at hl
    rcases hl with rfl | rfl
    · decide
    · split <;> simp
theorem rest_l (seq : Int) (ps : Run) : StL (restS seq ps) := ⟨Int.le_refl _, by show ((0 : Nat) : Int) = seq - seq; omega, fun j h => by cases h⟩
end Go.Proofs.YtebnciehcnedjaaGreatDoor
end

/-
  An operation of the laws, walked.
-/
section
set_option linter.unusedVariables false
set_option linter.unusedSimpArgs false
namespace Go.Proofs.YtebnciehcnedjaaGreatDoor
open Go.Vc


def andZ (a m : Int) : Int := IntKind.i64.wrap (BitVec.ofInt 64 a &&& BitVec.ofInt 64 m).toNat
theorem and_run (a m : Int) (w : World) : Sem.run Tryz.prog (binOp BinOp.and 3 (.int .i64 a) (.int .i64 m)) w = .ok (.int .i64 (andZ a m)) w := rfl

structure OpD where
  dop : Int
  n : Int
  key : ByteArray
  val : ByteArray
instance : Gv OpD := Gv.via (β := Int × Int × ByteArray × ByteArray) (fun x => (x.dop, x.n, x.key, x.val)) (fun y => ⟨y.1, y.2.1, y.2.2.1, y.2.2.2⟩) (fun _ => rfl)
abbrev OpD.cells (x : OpD) : List Value := [.int .i64 x.dop, .int .i64 x.n, .string x.key, .string x.val]
abbrev OpD.v (x : OpD) : Value := .agg #[.int .i64 x.dop, .int .i64 x.n, .string x.key, .string x.val]

/-- what an operation does -/
def stepS (s : StD) (x : OpD) : StD × Int :=
  if andZ x.dop 7 = 5 then (trimS s x.n, 0)
  else if andZ x.dop 7 = 6 then ((applyS s x.n x.key x.val).2, (applyS s x.n x.key x.val).1)
  else if andZ x.dop 7 = 7 then (if andZ x.n 1 = 0 then (s, 0) else (restS s.seq (allS s), 0))
  else (putS s x.key x.val, 0)

/-- what holds of a store after so many operations -/
structure StB (top : Int) (s : StD) (n : Nat) : Prop where
  i : StI s
  l : StL s
  c : StS s n
  f : Fit1 (verP s)
  lo : 0 ≤ s.seq
  hi : s.seq ≤ top + n

theorem new_b : StB 0 stNew 0 := ⟨new_i, new_l, ⟨by show cntL [] ≤ _; decide, by show 0 ≤ 0; decide, by show 0 ≤ 0; decide, by show I64 1; unfold I64; decide⟩, fun x hx => (by cases hx), by show (0 : Int) ≤ 0; decide, by show (0 : Int) ≤ 0 + 0; decide⟩
theorem StB.more {top : Int} {s : StD} {n : Nat} (h : StB top s n) : StB top s (n + 1) :=
  ⟨h.i, h.l, ⟨by have := h.c.cnt; omega, by have := h.c.ver; omega, by have := h.c.log; omega, h.c.seq⟩, h.f, h.lo, by have := h.hi; omega⟩
theorem put_b {top : Int} (ht : 0 ≤ top ∧ top ≤ 1099511627776) {s : StD} {n : Nat} (hn : n ≤ 1000) (h : StB top s n) {k v : ByteArray} (hk : k.size ≤ 1000) (hv : v.size ≤ 1000) : StB top (putS s k v) (n + 1) := by
  have h1 := h.hi
  have h2 := h.lo
  refine ⟨put_i h.i k v, put_l h.l k v, put_s h.c k v (by unfold I64; omega), fun x hx => ?_, by show 0 ≤ s.seq + 1; omega, by show s.seq + 1 ≤ top + ((n + 1 : Nat) : Int); omega⟩
  rcases put_mem x hx with rfl | hx
  · exact ⟨hk, hv⟩
  · exact h.f x hx
theorem trim_b {top : Int} {s : StD} {n : Nat} (h : StB top s n) (m : Int) : StB top (trimS s m) n :=
  ⟨⟨h.i.tab, h.i.few, h.i.lev, h.i.four⟩, trim_l h.l m, ⟨h.c.cnt, h.c.ver, by
    have := h.c.log
    show (s.log.drop _).length ≤ n
    rw [List.length_drop]; omega, h.c.seq⟩, h.f, h.lo, h.hi⟩
theorem all_sub {s : StD} : (allS s).length ≤ (verP s).length ∧ ∀ x ∈ allS s, x ∈ verP s :=
  ⟨Nat.le_trans (List.length_filter_le _ _) (normK_len _), fun x hx => normK_mem x (List.mem_filter.1 hx).1⟩
theorem restS_b {top : Int} {s : StD} {n : Nat} (h : StB top s n) : StB top (restS s.seq (allS s)) (n + 1) := by
  have h1 := (all_sub (s := s)).1
  have h2 := h.c.ver
  have e : (restS s.seq (allS s)).levels = [[], if allS s = [] then [] else [allS s]] := addAt_nil 1 _
  refine ⟨rest_i (all_asc s), rest_l _ _, ⟨?_, by rw [rest_ver]; omega, Nat.zero_le _, h.c.seq⟩, fun x hx => ?_, h.lo, by have := h.hi; show s.seq ≤ top + ((n + 1 : Nat) : Int); omega⟩
  · rw [e]
    by_cases hn : allS s = []
    · rw [if_pos hn]
      show 2 ≤ _
      omega
    · rw [if_neg hn]
      have : 0 < (allS s).length := Nat.pos_of_ne_zero fun h0 => hn (List.eq_nil_of_length_eq_zero h0)
      show 3 ≤ _
      omega
  · rw [rest_ver] at hx
    exact h.f x (all_sub.2 x hx)
theorem step_b {top : Int} (ht : 0 ≤ top ∧ top ≤ 1099511627776) {s : StD} {n : Nat} (hn : n ≤ 1000) (h : StB top s n) {x : OpD} (hk : x.key.size ≤ 1000) (hv : x.val.size ≤ 1000) : StB top (stepS s x).1 (n + 1) := by
  unfold stepS
  split
  · exact (trim_b h x.n).more
  · split
    · show StB top (applyS s x.n x.key x.val).2 (n + 1)
      unfold applyS
      split
      · exact put_b ht hn h hk hv
      · exact h.more
    · split
      · split
        · exact h.more
        · exact restS_b h
      · exact put_b ht hn h hk hv

section
variable {top : Int} {s : StD} {n : Nat}
theorem StB.levels (h : StB top s n) : s.levels.length ≤ 2 * n ∧ s.levels.flatten.length ≤ 2 * n ∧ ∀ l ∈ s.levels, l.length ≤ 2 * n := by
  have h1 := h.c.cnt
  unfold cntL at h1
  have h2 : s.levels.flatten.length = (s.levels.map List.length).sum := List.length_flatten
  refine ⟨by omega, by omega, fun l hl => ?_⟩
  have := List.sublist_flatten_of_mem hl |>.length_le
  omega
theorem StB.szs (h : StB top s n) : Szs (verP s) := fun x hx => by have := h.f x hx; unfold maxLen; omega
end

set_option maxHeartbeats 2000000 in
theorem do_use {W w : World} {S : List Own} {Φ : PW} [Stable Φ] (hΦ : ∀ M w, Φ M w → NumI M w) {q : TO} {s : StD} {n : Nat} (hq : StQ q s) (hB : StB 0 s n) (hn : n ≤ 400) {x : OpD} (hk : x.key.size ≤ 1000) (hv : x.val.size ≤ 1000)
    (cx : Ctx W w (stO q s S) (fun M w => Φ M w ∧ stF q s M w)) {K : Ending → World → Prop}
    (hK : ∀ q' w', StQ q' (stepS s x).1 → Ctx W w' (stO q' (stepS s x).1 S) (fun M w => Φ M w ∧ stF q' (stepS s x).1 M w) → K (.returned (.tuple #[.pointer (some ⟨q'.sb, 0, none⟩), .int .i64 (stepS s x).2])) w') :
    Calls Tryz.prog F.erratalaw29_do #[.pointer (some ⟨q.sb, 0, none⟩), x.v] w K := by
  have hlv := hB.levels
  have hver := hB.c.ver
  have hlog := hB.c.log
  have st0 : ∀ (q : TO) (s : StD), Stable (fun M w => Φ M w ∧ stF q s M w) := fun q s => instStableAnd Φ (fun M w => Elems M w q.gs s.log ∧ LBE q.bs M w)
  have hst := st0 q s
  have eS : ∀ (q : TO) (s : StD) (G : List Own), stO q s S ++ G = stO q s (S ++ G) := fun q s G => by unfold stO stA; simp only [List.append_assoc, List.cons_append]
  refine (Berratalaw29_do_run q.sb 0 x.dop x.n x.key x.val (J := fun u w' => K (.returned u) w') cx ?_).mono fun e w' ⟨v, he, hj⟩ => by rw [he]; exact hj
  clear cx
  unfold stepS at hK
  refine fun _ => ⟨andZ x.dop 7, fun w => and_run _ _ _, Br.intro (fun h5 => fun w G cx => ?_) (fun h5 => Br.intro (fun h6 => fun w G cx => ?_) (fun h6 => Br.intro (fun h7 => ⟨andZ x.n 1, fun w => and_run _ _ _, Br.intro (fun h1 => fun w G cx => ?_) (fun h1 => fun w G cx => ?_)⟩) (fun h7 => fun w G cx => ?_)))⟩
  · rw [if_pos (of_decide_eq_true h5)] at hK
    refine trim_use (S := S ++ G) hq hB.l (by omega) (cx.re (eS q s G)) fun q' w' hb hq' cx2 => ⟨rfl, stO q' (trimS s x.n) S, _, st0 q' _, cx2.re (eS q' _ G).symm, fun w G cx => ?_⟩
    have h := hK q' w hq' cx.left
    rw [hb] at h
    exact h
  · rw [if_neg (of_decide_eq_false h5), if_pos (of_decide_eq_true h6)] at hK
    refine apply_use (S := S ++ G) hq hB.i hB.c hn (by unfold maxLen; omega) (by unfold maxLen; omega) (cx.re (eS q s G)) fun q' w' hb hq' cx2 => ⟨_, rfl, stO q' (applyS s x.n x.key x.val).2 S, _, st0 q' _, cx2.re (eS q' _ G).symm, fun w G cx => ?_⟩
    have h := hK q' w hq' cx.left
    rw [hb] at h
    exact h
  · rw [if_neg (of_decide_eq_false h5), if_neg (of_decide_eq_false h6), if_pos (of_decide_eq_true h7), if_pos (of_decide_eq_true h1)] at hK
    have hb := st_bufs (S := S ++ G) (cx.re (eS q s G))
    have hC := st_caps (S := S ++ G) hq (cx.re (eS q s G))
    have cx1 := ((cx.re (eS q s G)).re (stO_app q s (S ++ G))).aside
    have hst2 : Stable (Aside W (stO q s []) (fun M w => Φ M w ∧ stF q s M w)) := instStableAside W _ _
    have hz := hB.szs
    refine Copy_use (hΦ := ⟨fun M w h => st_reads hq hb h⟩) hC (fun x hx => hz x (List.mem_append_left _ hx)) (by have := hB.i.few; omega) (by omega) (by omega) (fun l hl => by have := hlv.2.2 l hl; omega) cx1 fun q2 w' hq2 cx2 => ?_
    have cx3 := cx2.weak (Ψ := fun M w => Φ M w ∧ stF q2 s M w) fun M w h => ⟨h.1.less.1, h.2⟩
    exact ⟨_, rfl, stO q2 s S, _, st0 q2 s, cx3.re (eS q2 s G).symm, fun w G cx => hK q2 w hq2 cx.left⟩
  · rw [if_neg (of_decide_eq_false h5), if_neg (of_decide_eq_false h6), if_pos (of_decide_eq_true h7), if_neg (of_decide_eq_false h1)] at hK
    have hC := st_caps (S := S ++ G) hq (cx.re (eS q s G))
    refine look (S := S ++ G) hq (v := .string (snapB s)) (cx.re (eS q s G)) (fun Ψ h1 h2 h3 => Snapshot_in (hΦ := h2) (fun M w h => (hΦ M w (h3.go M w h)).1) hC (by omega) (by omega) (by omega) hB.f (by have := hB.c.seq; have := hB.lo; have := hB.hi; unfold I64 at *; omega)) fun w' cx2 => ⟨_, rfl, stO q s S, _, hst, cx2.re (eS q s G).symm, fun w G cx => ?_⟩
    have hsc : scanS s tE = allS s := scan_all s
    have hsn : snapB s = bs (snapL s.seq (allS s)) := by unfold snapB; rw [hsc]; rfl
    have ha := all_sub (s := s)
    have hfit : Fit1 (allS s) := fun x hx => hB.f x (ha.2 x hx)
    have hrest : restL (snapL s.seq (allS s)) = some (restS s.seq (allS s)) := rest_snap hB.lo (by have := hB.hi; omega) hfit (all_ne s) (all_asc s) (by omega)
    have hlen : (snapL s.seq (allS s)).length ≤ 1000000 := by
      have h1 := pairsL_len hfit
      have h2 := headL_len (seq := s.seq) (by have := hB.lo; have := hB.hi; unfold I64; omega) (n := (allS s).length) (by omega)
      unfold snapL
      rw [List.length_append]; omega
    rw [hsn]
    have cx3 : Ctx W w (S ++ G) Φ := (Ctx.right (S := stO q s []) ((cx.re (eS q s G)).re (stO_app q s (S ++ G)))).weak fun M w h => h.1
    refine Restore_use hΦ (snapL s.seq (allS s)) hlen cx3 (fun w' h => by rw [hrest] at h; cases h) fun q2 s2 w' hr hq2 cx4 => ?_
    rw [hrest] at hr
    cases hr
    refine ⟨_, _, rfl, stO q2 (restS s.seq (allS s)) S, _, st0 q2 _, cx4.re (eS q2 _ G).symm, Br.intro (fun h => by cases h) (fun _ => fun w G cx => hK q2 w hq2 cx.left)⟩
  · rw [if_neg (of_decide_eq_false h5), if_neg (of_decide_eq_false h6), if_neg (of_decide_eq_false h7)] at hK
    refine put_use (S := S ++ G) hq hB.i hB.c hn (by unfold maxLen; omega) (by unfold maxLen; omega) (cx.re (eS q s G)) fun q' w' hb hq' cx2 => ⟨rfl, stO q' (putS s x.key x.val) S, _, st0 q' _, cx2.re (eS q' _ G).symm, fun w G cx => ?_⟩
    have h := hK q' w hq' cx.left
    rw [hb] at h
    exact h
end Go.Proofs.YtebnciehcnedjaaGreatDoor
end

/-
  The laws' helpers: digits, few; what the example's store becomes.
-/
section
set_option linter.unusedVariables false
set_option linter.unusedSimpArgs false
namespace Go.Proofs.YtebnciehcnedjaaGreatDoor
open Go.Vc


theorem op_cells {M : List Nat} {w : World} {cs : List Value} {x : OpD} (h : Gv.rep M w cs x) : cs = x.cells ∧ x.key.size ≤ maxLen ∧ x.val.size ≤ maxLen := by
  obtain ⟨_, _, rfl, ⟨rfl, _⟩, _, _, rfl, ⟨rfl, _⟩, _, _, rfl, ⟨rfl, h1⟩, rfl, h2⟩ := h
  exact ⟨rfl, h1, h2⟩
theorem sl_op {M : List Nat} {w : World} {b o : Nat} {l : List OpD} (h : Sl M w (some ⟨b, o, none⟩) l) {j : Nat} (hj : j < l.length) : RowAt w b (o + j * 4) l[j].cells := by
  obtain ⟨b', o', cs, e, _, h3, h4⟩ := h j hj
  cases e
  obtain ⟨rfl, _⟩ := op_cells h4
  exact h3
def fewP (x : OpD) : Bool := decide ((x.key.size : Int) ≤ 20) && decide ((x.val.size : Int) ≤ 20)
def fewO (l : List OpD) (n : Int) : Bool := decide ((l.length : Int) ≤ n) && l.all fewP
theorem fewO_len {l : List OpD} {n : Int} (h : fewO l n = true) : (l.length : Int) ≤ n := of_decide_eq_true ((Bool.and_eq_true _ _).mp h).1
theorem fewO_fit {l : List OpD} {n : Int} (h : fewO l n = true) : ∀ x ∈ l, x.key.size ≤ 1000 ∧ x.val.size ≤ 1000 := fun x hx => by
  have h1 := List.all_eq_true.1 ((Bool.and_eq_true _ _).mp h).2 x hx
  unfold fewP at h1
  rw [Bool.and_eq_true] at h1
  have h2 := of_decide_eq_true h1.1
  have h3 := of_decide_eq_true h1.2
  omega
theorem few_in {Φ : PW} [Stable Φ] {p : Option Addr} {cap : Nat} {l : List OpD} {n : Int} (hΦ : ∀ M w, Φ M w → Sl M w p l) (hl : l.length ≤ maxLen) : GivesIn Φ Tryz.prog F.erratalaw29_few #[.slice p l.length cap, .int .i64 n] (.bool (fewO l n)) := by
  refine .there (fun M w h => (hΦ M w h).there) fun hth => ?_
  refine gives_in (Berratalaw29_few_run p l.length cap n) fun W R => ?_
  refine exI_mk (fun iI R' Φ' k => ∃ i : Nat, iI = i ∧ i ≤ l.length ∧ (l.take i).all fewP = true ∧ R' = R ∧ Φ' = Φ ∧ k = l.length - i) ⟨⟨R, Φ, _, inferInstance, fun w G cx => cx, 0, rfl, Nat.zero_le _, rfl, rfl, rfl, rfl⟩, ?_⟩
  rintro iI R1 Φ1 k _ ⟨i, rfl, hi, hs, rfl, rfl, rfl⟩
  refine Br.intro (fun hlt => ?_) (fun hge => fun w G cx => ?_)
  · have hlt : i < l.length := by have := of_decide_eq_true hlt; omega
    obtain ⟨g, o, rfl⟩ := hth (by omega)
    refine fun w G cx => ⟨⟨by omega, by omega⟩, ptrK_intro g o rfl ⟨l[i].key, ?_, fun _ => ⟨by omega, by omega⟩, ptrK_intro g o rfl ⟨l[i].val, fun _ => ?_, Br.intro (fun hb => fun w G cx => ⟨?_, cx.left⟩) (fun hb => ⟨by unfold I64; unfold maxLen at hl; omega, R1, Φ1, l.length - (i + 1), inferInstance, fun w G cx => cx, ⟨i + 1, rfl, hlt, ?_, rfl, rfl, rfl⟩, by omega⟩)⟩⟩⟩
    · rw [Int.toNat_natCast]; exact sl_op (hΦ _ _ cx.phi) hlt 2 (by show 2 < 4; decide)
    · rw [Int.toNat_natCast]; exact sl_op (hΦ _ _ cx.phi) hlt 3 (by show 3 < 4; decide)
    · have : fewP l[i] = false := by
        unfold fewP
        rw [Bool.or_eq_true] at hb
        rcases hb with hb | hb
        · have := of_decide_eq_true hb
          rw [decide_eq_false (show ¬ (l[i].key.size : Int) ≤ 20 by omega)]; rfl
        · have := of_decide_eq_true hb
          rw [decide_eq_false (show ¬ (l[i].val.size : Int) ≤ 20 by omega), Bool.and_false]
      unfold fewO
      rw [List.all_eq_false.2 ⟨l[i], List.getElem_mem _, by rw [this]; simp⟩, Bool.and_false]
    · rw [Bool.or_eq_false_iff] at hb
      have h1 := of_decide_eq_false hb.1
      have h2 := of_decide_eq_false hb.2
      have : fewP l[i] = true := by
        unfold fewP
        rw [decide_eq_true (show (l[i].key.size : Int) ≤ 20 by omega), decide_eq_true (show (l[i].val.size : Int) ≤ 20 by omega)]; rfl
      rw [List.take_succ_eq_append_getElem hlt, List.all_append, hs]
      simp [this]
  · have hge : i = l.length := by have := of_decide_eq_false hge; omega
    subst hge
    rw [List.take_length] at hs
    refine ⟨?_, cx.left⟩
    unfold fewO
    rw [hs, Bool.and_true]

def digB (n : Nat) : ByteArray := ⟨[UInt8.ofNat (48 + n / 10 % 10), UInt8.ofNat (48 + n % 10)].toArray⟩
theorem wrap_dig2 (d : Nat) (h : d < 10) : IntKind.u8.wrap (48 + (d : Int)) = ((UInt8.ofNat (48 + d)).toNat : Int) := by
  have e : (UInt8.ofNat (48 + d)).toNat = 48 + d := by
    rw [UInt8.toNat_ofNat']
    exact Nat.mod_eq_of_lt (by omega)
  rw [e]
  simp [IntKind.wrap, IntKind.signed, IntKind.bits]
  omega
theorem digits29_g (n : Nat) (hn : n ≤ 1000) : Gives Tryz.prog F.erratalaw29_digits #[.int .i64 (n : Int)] (.string (digB n)) := by
  refine gives_of (Berratalaw29_digits_run (n : Int)) fun W R Φ hs => ?_
  have e0 : ((n : Int).tdiv 10).tmod 10 = ((n / 10 % 10 : Nat) : Int) := by rw [Int.tdiv_eq_ediv_of_nonneg (by omega), Int.tmod_eq_emod_of_nonneg (by omega)]; omega
  have e1 : (n : Int).tmod 10 = ((n % 10 : Nat) : Int) := by rw [Int.tmod_eq_emod_of_nonneg (by omega)]; omega
  have e2 : (n : Int).tdiv 10 = ((n / 10 : Nat) : Int) := by rw [Int.tdiv_eq_ediv_of_nonneg (by omega)]; omega
  refine ⟨by omega, by rw [e2]; unfold I64; omega, by omega, by rw [e0]; unfold I64; omega, by omega, by rw [e1]; unfold I64; omega, fun k w G cx => ?_⟩
  rw [e0, e1, wrap_dig2 _ (by omega), wrap_dig2 _ (by omega)] at cx
  have hcell : ∀ j, (hj : j < [UInt8.ofNat (48 + n / 10 % 10), UInt8.ofNat (48 + n % 10)].length) → w.cell? ((⟨k, 0, none⟩ : Addr).add j) = some (.int .u8 ([UInt8.ofNat (48 + n / 10 % 10), UInt8.ofNat (48 + n % 10)][j].toNat : Int)) := fun j hj => by
    match j, hj with
    | 0, _ => exact cx.get 0 rfl rfl
    | 1, _ => exact cx.get 0 rfl rfl
  exact ⟨_, _, run_convert_bytes_back w 87 9 5 ⟨k, 0, none⟩ 2 [UInt8.ofNat (48 + n / 10 % 10), UInt8.ofNat (48 + n % 10)] (by kernel_rfl) (by kernel_rfl) (by kernel_rfl) hcell, R, Φ, hs, cx.drop1, fun w G cx => ⟨rfl, cx.left⟩⟩

/-! ### the example, computed -/
def settleF : Nat → List Lev → List Lev
  | 0, _ => []
  | _ + 1, [] => []
  | n + 1, l :: t => if l.length < 4 then l :: settleF n t else [] :: settleF n (addL t (pushR l t))
theorem settleF_eq : ∀ (n : Nat) (ls : List Lev), cntL ls < n → settleL ls = settleF n ls
  | 0, _, h => by omega
  | n + 1, [], _ => by rw [settleL_nil]; rfl
  | n + 1, l :: t, h => by
    have hc : cntL (l :: t) = l.length + 1 + cntL t := by unfold cntL; simp; omega
    show _ = if l.length < 4 then l :: settleF n t else [] :: settleF n (addL t (pushR l t))
    by_cases h4 : l.length < 4
    · rw [settleL_less h4, if_pos h4, settleF_eq n t (by omega)]
    · have ha := addL_cnt t (pushR l t)
      rw [settleL_more h4, if_neg h4, settleF_eq n (addL t (pushR l t)) (by omega)]
def putF (s : StD) (k v : ByteArray) : StD :=
  let t := putK ⟨k, v⟩ s.table
  ⟨if t.length = 8 then [] else t, settleF 100 (if t.length = 8 then addL s.levels t else s.levels), s.seq + 1, s.log ++ [⟨s.seq + 1, k, v⟩], s.cut⟩
theorem putF_eq {s : StD} (h : cntL s.levels ≤ 90) (k v : ByteArray) : putS s k v = putF s k v := by
  have h2 := addL_cnt s.levels (putK ⟨k, v⟩ s.table)
  have h3 : cntL (if (putK ⟨k, v⟩ s.table).length = 8 then addL s.levels (putK ⟨k, v⟩ s.table) else s.levels) < 100 := by split <;> omega
  have e := settleF_eq 100 _ h3
  show (⟨if (putK ⟨k, v⟩ s.table).length = 8 then [] else putK ⟨k, v⟩ s.table, settleL (if (putK ⟨k, v⟩ s.table).length = 8 then addL s.levels (putK ⟨k, v⟩ s.table) else s.levels), s.seq + 1, s.log ++ [⟨s.seq + 1, k, v⟩], s.cut⟩ : StD) = _
  rw [e]
  rfl
abbrev tA : ByteArray := ByteArray.mk #[97]
abbrev tB : ByteArray := ByteArray.mk #[98]
abbrev t1 : ByteArray := ByteArray.mk #[49]
abbrev t2 : ByteArray := ByteArray.mk #[50]
abbrev tX : ByteArray := ByteArray.mk #[120]
def exS : StD := putS (putS (putS stNew tA t1) tB t2) tA tE
def exF : StD := putF (putF (putF stNew tA t1) tB t2) tA tE
def exT : Nat → StD
  | 0 => stNew
  | i + 1 => putS (exT i) (digB i) tX
def exTF : Nat → StD
  | 0 => stNew
  | i + 1 => putF (exTF i) (digB i) tX
theorem exT_b : ∀ i, i ≤ 100 → StB 0 (exT i) i
  | 0, _ => new_b
  | i + 1, h => put_b ⟨by decide, by decide⟩ (by omega) (exT_b i (by omega)) (by show 2 ≤ _; decide) (by show 1 ≤ _; decide)
theorem exT_eq : ∀ i, i ≤ 45 → exT i = exTF i
  | 0, _ => rfl
  | i + 1, h => by
    have hb := (exT_b i (by omega)).c.cnt
    show putS (exT i) (digB i) tX = putF (exTF i) (digB i) tX
    rw [putF_eq (by omega), exT_eq i (by omega)]
theorem exS_b1 : StB 0 (putS stNew tA t1) 1 := put_b ⟨by decide, by decide⟩ (by decide) new_b (by show 1 ≤ _; decide) (by show 1 ≤ _; decide)
theorem exS_b2 : StB 0 (putS (putS stNew tA t1) tB t2) 2 := put_b ⟨by decide, by decide⟩ (by decide) exS_b1 (by show 1 ≤ _; decide) (by show 1 ≤ _; decide)
theorem exS_b : StB 0 exS 3 := put_b ⟨by decide, by decide⟩ (by decide) exS_b2 (by show 1 ≤ _; decide) (by show 0 ≤ _; decide)
theorem exS_eq : exS = exF := by
  have h1 := exS_b1.c.cnt
  have h2 := exS_b2.c.cnt
  unfold exS exF
  rw [putF_eq (by omega), putF_eq (by omega), putF_eq (by show 0 ≤ 90; omega)]
theorem ex_scan : scanS exS tE = [⟨tB, t2⟩] := by rw [exS_eq]; decide +kernel
theorem ex_log : exS.log.map (fun x => x.seq) = [1, 2, 3] := by rw [exS_eq]; decide +kernel
theorem ex_ver : (verP exS).length = 2 ∧ exS.seq = 3 ∧ exS.cut = 0 := by rw [exS_eq]; decide +kernel
theorem ex_runs : runsL (exT 32) = [[], [32]] := by rw [exT_eq 32 (by decide)]; decide +kernel
end Go.Proofs.YtebnciehcnedjaaGreatDoor
end

/-
  The documentation's examples, walked.
-/
section
set_option linter.unusedVariables false
set_option linter.unusedSimpArgs false
namespace Go.Proofs.YtebnciehcnedjaaGreatDoor
open Go.Vc


theorem stO_re (q : TO) (s : StD) (S G : List Own) : stO q s S ++ G = stO q s (S ++ G) := by unfold stO stA; simp only [List.append_assoc, List.cons_append]
instance instStableSt (Φ : PW) [Stable Φ] (q : TO) (s : StD) : Stable (fun M w => Φ M w ∧ stF q s M w) := instStableAnd Φ (fun M w => Elems M w q.gs s.log ∧ LBE q.bs M w)
theorem st_two (a : TO) (s : StD) (b : TO) (t : StD) (S : List Own) : (stO a s (stO b t S)).Perm (stO b t (stO a s S)) := by
  rw [stO_app a s (stO b t S), stO_app b t (stO a s S), stO_app b t S, stO_app a s S]
  exact List.perm_append_comm_assoc _ _ _
/-- a store is laid aside -/
theorem lay {W w : World} {S : List Own} {Φ : PW} [Stable Φ] {q : TO} {s : StD} (hq : StQ q s) (cx : Ctx W w (stO q s S) (fun M w => Φ M w ∧ stF q s M w)) :
    ∃ Ψ : PW, Stable Ψ ∧ (∀ M w, Ψ M w → Φ M w) ∧ (∀ M w, Ψ M w → StR q s M w) ∧ StC q s ∧ (∀ (S : List Own) (w : World), Ctx W w S Ψ → Ctx W w (stO q s S) (fun M w => Φ M w ∧ stF q s M w)) ∧ (∀ (S : List Own) (w : World), Ctx W w (stO q s S) (fun M w => Φ M w ∧ stF q s M w) → Ctx W w S Ψ) :=
  ⟨Aside W (stO q s []) (fun M w => Φ M w ∧ stF q s M w), instStableAside W _ _, fun M w h => h.less.1, fun M w h => st_reads hq (st_bufs cx) h, st_caps hq cx, fun S w c => c.unaside.re (stO_app q s S).symm, fun S w c => (c.re (stO_app q s S)).aside⟩
theorem put_at {W w : World} {S G : List Own} {Φ : PW} [Stable Φ] {q : TO} {b : Nat} (hb : q.sb = b) {s : StD} {n : Nat} {top : Int} (hq : StQ q s) (hB : StB top s n) (hn : n ≤ 400) {k v : ByteArray} (hk : k.size ≤ 1000) (hv : v.size ≤ 1000)
    (cx : Ctx W w (stO q s S ++ G) (fun M w => Φ M w ∧ stF q s M w)) {K : List Own → PW → Prop}
    (hK : ∀ q', q'.sb = b → StQ q' (putS s k v) → K (stO q' (putS s k v) S) (fun M w => Φ M w ∧ stF q' (putS s k v) M w)) :
    Calls Tryz.prog F.store_Store_Put #[.pointer (some ⟨b, 0, none⟩), .string k, .string v] w fun e w' => e = .returned (.tuple #[]) ∧ ∃ R' Φ', Stable Φ' ∧ Ctx W w' (R' ++ G) Φ' ∧ K R' Φ' := by
  subst hb
  exact put_use (S := S ++ G) hq hB.i hB.c hn (by unfold maxLen; omega) (by unfold maxLen; omega) (cx.re (stO_re q s S G)) fun q' w' hb hq' cx2 => ⟨rfl, stO q' (putS s k v) S, _, inferInstance, cx2.re (stO_re q' _ S G).symm, hK q' hb hq'⟩

section
variable {α : Type} [Gv α]
theorem pinl {M : List Nat} {w : World} {g o : Nat} {cs : List (List Value)} {ls : List (List α)} (h : Pin g o cs ls M w) {j : Nat} (hj : j < ls.length) : ∃ p c, cs.getD j [] = [.slice p ls[j].length c] := by
  obtain ⟨_, h1, h2⟩ := h j hj
  obtain ⟨p, c, e, _⟩ := rep_list.1 h2
  exact ⟨p, c, e⟩
theorem pinl_sl {M : List Nat} {w : World} {g o : Nat} {cs : List (List Value)} {ls : List (List α)} (h : Pin g o cs ls M w) {j : Nat} (hj : j < ls.length) {p : Option Addr} {n c : Nat} (e : cs.getD j [] = [.slice p n c]) : Sl M w p ls[j] := by
  obtain ⟨_, h1, h2⟩ := h j hj
  obtain ⟨p', c', e', g1, g2, hs⟩ := rep_list.1 h2
  rw [e] at e'
  simp only [List.cons.injEq, Value.slice.injEq] at e'
  rw [e'.1.1]
  exact hs
theorem pinl_at {M : List Nat} {w : World} {g o : Nat} {cs : List (List Value)} {ls : List (List α)} (h : Pin g o cs ls M w) {j : Nat} (hj : j < ls.length) {p : Option Addr} {n c : Nat} (e : cs.getD j [] = [.slice p n c]) : w.cell? ⟨g, o + j, none⟩ = some (.slice p n c) := by
  obtain ⟨_, h1, h2⟩ := h j hj
  rw [e] at h1
  have := h1 0 (by simp)
  rw [show (Gv.ty (List α)).size = 1 from rfl, Nat.mul_one] at this
  simpa using this
end
theorem sl_int {M : List Nat} {w : World} {p : Option Addr} {l : List Int} (h : Sl M w p l) {j : Nat} (hj : j < l.length) : ∃ b o, p = some ⟨b, o, none⟩ ∧ w.cell? ⟨b, o + j, none⟩ = some (.int .i64 l[j]) := by
  obtain ⟨b', o', cs, e, _, h3, h4⟩ := h j hj
  obtain ⟨rfl, _⟩ := h4
  have := h3 0 (by simp)
  rw [show (Gv.ty Int).size = 1 from rfl, Nat.mul_one] at this
  exact ⟨b', o', e, by simpa using this⟩
theorem sl_chg {M : List Nat} {w : World} {b o : Nat} {l : List ChgD} (h : Sl M w (some ⟨b, o, none⟩) l) {j : Nat} (hj : j < l.length) : RowAt w b (o + j * 3) l[j].cells := by
  obtain ⟨b', o', cs, e, _, h3, h4⟩ := h j hj
  cases e
  obtain rfl := chgD_cells h4
  exact h3

set_option maxHeartbeats 4000000 in
theorem small29_g : Gives Tryz.prog F.erratalaw29_small #[] (.bool true) := by
  refine gives_of (Berratalaw29_small_run) fun W R Φ _ => fun w G cx => ?_
  refine New_use cx fun qs w hqs cx => ⟨_, rfl, stO qs stNew R, _, instStableSt Φ qs stNew, cx.re (stO_re _ _ _ _).symm, fun w G cx => ?_⟩
  refine New_use cx fun qt w hqt cx => ?_
  have hst : Stable (fun M w => Φ M w ∧ stF qt stNew M w) := instStableSt Φ qt stNew
  have cx1 : Ctx W w (stO qs stNew (stO qt stNew R) ++ G) (fun M w => (Φ M w ∧ stF qt stNew M w) ∧ stF qs stNew M w) := ((cx.perm (by
    rw [stO_re qs stNew R G, stO_re qs stNew _ G, stO_re qt stNew R G]
    exact st_two _ _ _ _ _)).weak fun M w h => ⟨⟨h.1.1, h.2⟩, h.1.2⟩)
  refine ⟨_, rfl, stO qs stNew (stO qt stNew R), _, instStableSt _ qs stNew, cx1, fun w G cx => Br.intro (fun h => by cases h) (fun _ => fun w G cx => ?_)⟩
  clear cx1
  refine put_at rfl hqs new_b (by decide) (by show 1 ≤ _; decide) (by show 1 ≤ _; decide) cx fun q1 hb1 hq1 => fun w G cx => ?_
  refine put_at hb1 hq1 exS_b1 (by decide) (by show 1 ≤ _; decide) (by show 1 ≤ _; decide) cx fun q2 hb2 hq2 => fun w G cx => ?_
  refine put_at hb2 hq2 exS_b2 (by decide) (by show 1 ≤ _; decide) (by show 0 ≤ _; decide) cx fun q3 hb3 hq3 => fun w G cx => ?_
  have hqS : StQ q3 exS := hq3
  have cxS : Ctx W w (stO q3 exS (stO qt stNew R ++ G)) (fun M w => (Φ M w ∧ stF qt stNew M w) ∧ stF q3 exS M w) := cx.re (stO_re _ _ _ _)
  clear cx
  obtain ⟨Ψ, stΨ, toΦ, toR, hC, _, hlay⟩ := lay hqS cxS
  have cxa := hlay _ _ cxS
  clear cxS hlay
  rw [← hb3]
  have hlv := exS_b.levels
  have hver := exS_b.c.ver
  obtain ⟨ev1, ev2, ev3⟩ := ex_ver
  have hscan := Scan_sl (Φ := Ψ) (pre := tE) (hΦ := ⟨toR⟩) hC (by omega) (by omega) (by omega) exS_b.szs (by show 0 ≤ _; omega)
  rw [ex_scan] at hscan
  refine hscan.tot cxa fun p1 c1 _ _ ht1 st1 => fun w G cx => ?_
  have hsince := Since_sl (Φ := fun M w => Ψ M w ∧ Sl M w p1 [(⟨tB, t2⟩ : PairD)]) (hΦ := ⟨fun M w h => toR M w h.1⟩) hC exS_b.l (by have := exS_b.c.log; omega) (n := 1) (by rw [ev3]; decide) (by rw [ev2]; decide)
  rw [ev3] at hsince
  have hlg : ((exS.log.drop (1 - 0 : Int).toNat).map fun x => x.seq) = [2, 3] := by rw [List.map_drop, ex_log]; rfl
  obtain ⟨lg, hlgd⟩ : ∃ lg, exS.log.drop (1 - 0 : Int).toNat = lg := ⟨_, rfl⟩
  rw [hlgd] at hsince hlg
  have hlgl : lg.length = 2 := by have := congrArg List.length hlg; rwa [List.length_map] at this
  refine hsince.use cx fun p2 c2 w _ _ cx2 => ?_
  clear cx
  have cx := cx2
  clear cx2
  have ht2 := cx.phi.2.there
  obtain ⟨Ψ2, hΨ2⟩ : ∃ Ψ2 : PW, Ψ2 = (fun M w => (Ψ M w ∧ Sl M w p1 [(⟨tB, t2⟩ : PairD)]) ∧ Sl M w p2 lg) := ⟨_, rfl⟩
  have st2 : Stable Ψ2 := by rw [hΨ2]; exact instStableAnd (fun M w => Ψ M w ∧ Sl M w p1 [(⟨tB, t2⟩ : PairD)]) (fun M w => Sl M w p2 lg)
  have g1 : ∀ M w, Ψ2 M w → Ψ M w := fun M w h => by rw [hΨ2] at h; exact h.1.1
  have g2 : ∀ M w, Ψ2 M w → Sl M w p1 [(⟨tB, t2⟩ : PairD)] := fun M w h => by rw [hΨ2] at h; exact h.1.2
  have g3 : ∀ M w, Ψ2 M w → Sl M w p2 lg := fun M w h => by rw [hΨ2] at h; exact h.2
  rw [← hΨ2] at cx
  rw [hlgl] at ht2 ⊢
  refine ⟨p2, _, c2, _, rfl, stO qt stNew R, Ψ2, st2, cx, fun w G cx => Br.intro (fun h => by simp at h) (fun _ => ?_)⟩
  clear cx
  refine exI_mk (fun iI R' Φ' k => ∃ (i : Nat) (q' : TO), iI = i ∧ i ≤ 32 ∧ q'.sb = qt.sb ∧ StQ q' (exT i) ∧ R' = stO q' (exT i) R ∧ Φ' = (fun M w => Ψ2 M w ∧ stF q' (exT i) M w) ∧ k = 32 - i)
    ⟨⟨_, _, _, instStableSt Ψ2 qt stNew, fun w G cx => cx.weak fun M w h => ⟨h, (toΦ _ _ (g1 _ _ h)).2⟩, 0, qt, rfl, by decide, rfl, hqt, rfl, rfl, rfl⟩, ?_⟩
  rintro iI R1 Φ1 k _ ⟨i, q', rfl, hi, hbq, hq', rfl, rfl, rfl⟩
  refine Br.intro (fun hlt => fun w G cx => ?_) (fun hge => fun w G cx => ?_)
  · have hlt : i < 32 := by have := of_decide_eq_true hlt; omega
    refine ((digits29_g i (by omega)).in).toS cx fun w G cx => ?_
    refine put_at hbq hq' (exT_b i (by omega)) (by omega) (by show 2 ≤ _; decide) (by show 1 ≤ _; decide) cx fun q2 hb2 hq2 => ⟨by unfold I64; omega, _, _, 32 - (i + 1), instStableSt Ψ2 q2 _, fun w G cx => cx, ⟨i + 1, q2, by omega, by omega, hb2, hq2, rfl, rfl, rfl⟩, by omega⟩
  have hge : i = 32 := by have := of_decide_eq_false hge; omega
  subst hge
  have cxT := cx.re (stO_re q' (exT 32) R G)
  obtain ⟨Ψ3, st3, toΨ2, toT, hCT, _, hlayT⟩ := lay hq' cxT
  have cxb := hlayT _ _ cxT
  clear cx cxT hlayT
  have hlt := (exT_b 32 (by decide)).levels
  have hvt := (exT_b 32 (by decide)).c.ver
  rw [← hbq]
  have hruns := Runs_sl (Φ := Ψ3) (hΦ := ⟨toT⟩) (by omega) (fun l hl => by have := hlt.2.2 l hl; omega) (fun l hl r hr => by
    have h1 := List.sublist_flatten_of_mem hr |>.length_le
    have h2 := List.sublist_flatten_of_mem (List.mem_map_of_mem (f := List.flatten) hl) |>.length_le
    have h3 : ((exT 32).levels.map List.flatten).flatten.length ≤ 32 := by
      have e : ((exT 32).levels.map List.flatten).flatten = allRuns (exT 32).levels := by
        unfold allRuns
        rw [List.flatten_flatten]
      rw [e]
      unfold verP at hvt
      rw [List.length_append] at hvt
      omega
    omega)
  rw [ex_runs] at hruns
  refine hruns.use cxb fun p3 c3 w _ _ cx => ?_
  clear cxb
  obtain ⟨b3, o3, cs3, hp3, cx⟩ := cx.pin cx.phi.2
  obtain rfl := hp3 (by decide)
  obtain ⟨pa, ca, ea⟩ := pinl cx.phi.2 (j := 0) (by decide)
  obtain ⟨pb, cb, eb⟩ := pinl cx.phi.2 (j := 1) (by decide)
  obtain ⟨b4, o4, hpb, _⟩ := sl_int (pinl_sl cx.phi.2 (j := 1) (by decide) eb) (j := 0) (by decide)
  subst hpb
  obtain ⟨Ψ4, hΨ4⟩ : ∃ Ψ4 : PW, Ψ4 = (fun M w => (Ψ3 M w ∧ Sl M w (some ⟨b3, o3, none⟩) ([[], [32]] : List (List Int))) ∧ Pin b3 o3 cs3 ([[], [32]] : List (List Int)) M w) := ⟨_, rfl⟩
  have st4 : Stable Ψ4 := by rw [hΨ4]; exact instStableAnd (fun M w => Ψ3 M w ∧ Sl M w (some ⟨b3, o3, none⟩) ([[], [32]] : List (List Int))) (fun M w => Pin b3 o3 cs3 ([[], [32]] : List (List Int)) M w)
  have k1 : ∀ M w, Ψ4 M w → Ψ2 M w := fun M w h => by rw [hΨ4] at h; exact toΨ2 _ _ h.1.1
  have k2 : ∀ M w, Ψ4 M w → Pin b3 o3 cs3 ([[], [32]] : List (List Int)) M w := fun M w h => by rw [hΨ4] at h; exact h.2
  have toS : ∀ M w, Ψ4 M w → StR q3 exS M w := fun M w h => toR _ _ (g1 _ _ (k1 _ _ h))
  have toF : ∀ M w, Ψ4 M w → Φ M w := fun M w h => (toΦ _ _ (g1 _ _ (k1 _ _ h))).1
  rw [← hΨ4] at cx
  obtain ⟨b1, o1, hp1⟩ := ht1 (by decide)
  obtain ⟨b2, o2, hp2⟩ := ht2 (by decide)
  subst hp1 hp2
  refine ⟨_, _, c3, rfl, R, Ψ4, st4, cx, Br.intro (fun h => by simp at h) (fun _ => fun w G cx => ⟨by decide, ptrK_intro b3 o3 rfl ⟨pa, _, ca, pinl_at (k2 _ _ cx.phi) (j := 0) (by decide) ea, fun _ => by decide, ptrK_intro b3 o3 rfl ⟨_, _, cb, fun _ => pinl_at (k2 _ _ cx.phi) (j := 1) (by decide) eb, Br.intro (fun h => by simp at h) (fun _ => ⟨by decide, ptrK_intro b1 o1 rfl fun w G cx => ⟨tB, t2, ?_, by kernel_rfl, Br.intro (fun _ => fun w G cx => ?_) (fun h => by simp at h)⟩⟩)⟩⟩⟩)⟩
  · have := sl_pair (g2 _ _ (k1 _ _ cx.phi)) (j := 0) (by decide)
    rwa [Nat.zero_mul, Nat.add_zero] at this
  have hlen := Len_in (Φ := Ψ4) (hΦ := ⟨toS⟩) hC (by omega) (by omega) (by omega) exS_b.szs
  rw [ex_scan] at hlen
  refine hlen.toI cx (Br.intro (fun _ => fun w G cx => ?_) (fun h => by simp at h))
  have hvs := Versions_in (Φ := Ψ4) (hΦ := ⟨toS⟩) hC (by omega) (by omega) (by omega)
  rw [ev1] at hvs
  refine hvs.toI cx (Br.intro (fun _ => fun w G cx => ?_) (fun h => by simp at h))
  have hsq := Seq_in (Φ := Ψ4) (q := q3) (s := exS) (hΦ := ⟨toS⟩)
  rw [ev2] at hsq
  refine hsq.toI cx (Br.intro (fun _ => ⟨by decide, ptrK_intro b2 o2 rfl fun w G cx => ⟨2, ?_, Br.intro (fun _ => ⟨by decide, ptrK_intro b3 o3 rfl fun w G cx => ⟨_, _, cb, pinl_at (k2 _ _ cx.phi) (j := 1) (by decide) eb, by decide, ptrK_intro b4 o4 rfl fun w G cx => ?_⟩⟩) (fun h => by simp at h)⟩⟩) (fun h => by simp at h))
  · have h := sl_chg (g3 _ _ (k1 _ _ cx.phi)) (j := 0) (by rw [hlgl]; decide)
    have h2 := h 0 (by show 0 < 3; decide)
    have h3 : lg[0].seq = 2 := by
      have := List.getElem_of_eq hlg (i := 0) (by rw [hlg]; decide)
      simpa using this
    rw [Nat.zero_mul, Nat.add_zero] at h2
    rw [← h3]
    exact h2
  obtain ⟨b5, o5, e5, h5⟩ := sl_int (pinl_sl (k2 _ _ cx.phi) (j := 1) (by decide) eb) (j := 0) (by decide)
  cases e5
  exact ⟨32, h5, fun w G cx => ⟨rfl, cx.left.weak toF⟩⟩
end Go.Proofs.YtebnciehcnedjaaGreatDoor
end

/-
  How great levels and runs become, in plain Lean.
-/
section
set_option linter.unusedVariables false
set_option linter.unusedSimpArgs false
namespace Go.Proofs.YtebnciehcnedjaaGreatDoor
open Go.Vc


/-- a run of the level i weighs 4^i -/
def lvW : Nat → List Lev → Nat
  | _, [] => 0
  | i, l :: t => l.length * 4 ^ i + lvW (i + 1) t
theorem addL_w (i : Nat) (t : List Lev) (r : Run) : lvW i (addL t r) ≤ lvW i t + 4 ^ i := by
  cases t with
  | nil =>
    rw [addL_nil]
    split
    · show 0 * 4 ^ i + 0 ≤ 0 + 4 ^ i
      generalize 4 ^ i = z
      omega
    · show 1 * 4 ^ i + 0 ≤ 0 + 4 ^ i
      generalize 4 ^ i = z
      omega
  | cons l t =>
    rw [addL_cons]
    split
    · exact Nat.le_add_right _ _
    · show (l.length + 1) * 4 ^ i + lvW (i + 1) t ≤ l.length * 4 ^ i + lvW (i + 1) t + 4 ^ i
      rw [Nat.add_mul]; omega
theorem settle_w (B : Nat) : ∀ (m : Nat) (ls : List Lev) (i : Nat), cntL ls ≤ m → lvW i ls ≤ B → (ls ≠ [] → 4 ^ (i + ls.length - 1) ≤ B) →
    lvW i (settleL ls) ≤ lvW i ls ∧ (settleL ls ≠ [] → 4 ^ (i + (settleL ls).length - 1) ≤ B)
  | m, [], i, _, h, h2 => by rw [settleL_nil]; exact ⟨Nat.le_refl _, fun h => absurd rfl h⟩
  | 0, l :: t, i, h, _, _ => by
    have : cntL (l :: t) = l.length + 1 + cntL t := by unfold cntL; simp; omega
    omega
  | m + 1, l :: t, i, h, hw, hl => by
    have hc : cntL (l :: t) = l.length + 1 + cntL t := by unfold cntL; simp; omega
    have hl := hl (by simp)
    have e1 : lvW i (l :: t) = l.length * 4 ^ i + lvW (i + 1) t := rfl
    by_cases h4 : l.length < 4
    · obtain ⟨h1, h2⟩ := settle_w B m t (i + 1) (by omega) (by omega) (fun ht => by
        have e : i + 1 + t.length - 1 = i + (l :: t).length - 1 := by rw [List.length_cons]; omega
        rw [e]; exact hl)
      rw [settleL_less h4]
      refine ⟨by show l.length * 4 ^ i + lvW (i + 1) (settleL t) ≤ _; omega, fun _ => ?_⟩
      by_cases ht : settleL t = []
      · rw [ht]
        show 4 ^ (i + 1 - 1) ≤ B
        refine Nat.le_trans (Nat.pow_le_pow_right (by decide) ?_) hl
        rw [List.length_cons]; omega
      · have e : i + 1 + (settleL t).length - 1 = i + (l :: settleL t).length - 1 := by rw [List.length_cons]; omega
        rw [← e]; exact h2 ht
    · have ha := addL_cnt t (pushR l t)
      have hb := addL_w (i + 1) t (pushR l t)
      have hp : 4 ^ (i + 1) ≤ l.length * 4 ^ i := by
        rw [Nat.pow_succ, Nat.mul_comm]
        exact Nat.mul_le_mul_right _ (by omega)
      obtain ⟨h1, h2⟩ := settle_w B m (addL t (pushR l t)) (i + 1) (by omega) (by omega) (fun _ => by
        cases t with
        | nil =>
          rw [addL_nil]
          show 4 ^ (i + 1 + 1 - 1) ≤ B
          rw [show i + 1 + 1 - 1 = i + 1 by omega]
          omega
        | cons y t =>
          rw [addL_cons]
          have e : i + 1 + ((if pushR l (y :: t) = [] then y else pushR l (y :: t) :: y) :: t).length - 1 = i + (l :: y :: t).length - 1 := by rw [List.length_cons, List.length_cons, List.length_cons]; omega
          rw [e]; exact hl)
      rw [settleL_more h4]
      refine ⟨by show 0 * 4 ^ i + lvW (i + 1) (settleL (addL t (pushR l t))) ≤ _; omega, fun _ => ?_⟩
      by_cases ht : settleL (addL t (pushR l t)) = []
      · rw [ht]
        show 4 ^ (i + 1 - 1) ≤ B
        refine Nat.le_trans (Nat.pow_le_pow_right (by decide) ?_) hl
        rw [List.length_cons]; omega
      · have e : i + 1 + (settleL (addL t (pushR l t))).length - 1 = i + ([] :: settleL (addL t (pushR l t))).length - 1 := by rw [List.length_cons]; omega
        rw [← e]; exact h2 ht

structure WtB (s : StD) (n : Nat) : Prop where
  wt : lvW 0 s.levels ≤ n + 4
  len : s.levels ≠ [] → 4 ^ (s.levels.length - 1) ≤ n + 4
theorem new_w : WtB stNew 0 := ⟨Nat.zero_le _, fun h => absurd rfl h⟩
theorem WtB.more {s : StD} {n : Nat} (h : WtB s n) : WtB s (n + 1) := ⟨by have := h.wt; omega, fun hn => by have := h.len hn; omega⟩
theorem put_w {s : StD} {n : Nat} (h : WtB s n) (k v : ByteArray) : WtB (putS s k v) (n + 1) := by
  have hw := h.wt
  have hl := h.len
  have e : (putS s k v).levels = settleL (if (putK ⟨k, v⟩ s.table).length = 8 then addL s.levels (putK ⟨k, v⟩ s.table) else s.levels) := rfl
  obtain ⟨X, hX⟩ : ∃ X, (if (putK ⟨k, v⟩ s.table).length = 8 then addL s.levels (putK ⟨k, v⟩ s.table) else s.levels) = X := ⟨_, rfl⟩
  have h1 : lvW 0 X ≤ n + 1 + 4 := by
    rw [← hX]
    have := addL_w 0 s.levels (putK ⟨k, v⟩ s.table)
    rw [Nat.pow_zero] at this
    split <;> omega
  have h2 : X ≠ [] → 4 ^ (0 + X.length - 1) ≤ n + 1 + 4 := by
    rw [← hX]
    intro hn
    rw [Nat.zero_add]
    split at hn
    · rw [if_pos (by assumption)]
      cases hs : s.levels with
      | nil =>
        rw [addL_nil]
        show 4 ^ 0 ≤ _
        rw [Nat.pow_zero]; omega
      | cons y t =>
        rw [addL_cons]
        rw [hs] at hl
        have := hl (by simp)
        rw [List.length_cons] at this ⊢
        omega
    · rw [if_neg (by assumption)]
      have := hl hn
      omega
  obtain ⟨a, b⟩ := settle_w (n + 1 + 4) _ X 0 (Nat.le_refl _) h1 h2
  rw [hX] at e
  exact ⟨by rw [e]; omega, fun hn => by
    rw [e] at hn ⊢
    have := b hn
    rwa [Nat.zero_add] at this⟩
theorem step_w {s : StD} {n : Nat} (h : WtB s n) (x : OpD) : WtB (stepS s x).1 (n + 1) := by
  unfold stepS
  split
  · exact ⟨h.more.wt, h.more.len⟩
  · split
    · show WtB (applyS s x.n x.key x.val).2 (n + 1)
      unfold applyS
      split
      · exact put_w h _ _
      · exact h.more
    · split
      · split
        · exact h.more
        · have e : (restS s.seq (allS s)).levels = [[], if allS s = [] then [] else [allS s]] := addAt_nil 1 _
          refine ⟨?_, fun _ => ?_⟩
          · show lvW 0 (restS s.seq (allS s)).levels ≤ _
            rw [e]
            split
            · show 0 * 4 ^ 0 + (0 * 4 ^ 1 + 0) ≤ _
              omega
            · show 0 * 4 ^ 0 + (1 * 4 ^ 1 + 0) ≤ _
              omega
          · show 4 ^ ((restS s.seq (allS s)).levels.length - 1) ≤ _
            rw [e]
            show 4 ^ 1 ≤ _
            omega
      · exact put_w h _ _
theorem WtB.few {s : StD} {n : Nat} (h : WtB s n) (hn : n ≤ 400) : s.levels.length ≤ 5 := by
  rcases Nat.lt_or_ge 5 s.levels.length with h1 | h1
  · exfalso
    have h2 := h.len (fun e => by rw [e] at h1; simp at h1)
    have h3 : 4 ^ 5 ≤ 4 ^ (s.levels.length - 1) := Nat.pow_le_pow_right (by decide) (by omega)
    have h4 : (4 : Nat) ^ 5 = 1024 := by decide
    omega
  · exact h1

/-! ### the sizes of runs -/
def bigL : Nat → List Lev → Prop
  | _, [] => True
  | i, l :: t => (∀ r ∈ l, r.length ≤ 8 * 4 ^ i) ∧ bigL (i + 1) t
theorem addL_big {i : Nat} {t : List Lev} {r : Run} (h : bigL i t) (hr : r.length ≤ 8 * 4 ^ i) : bigL i (addL t r) := by
  cases t with
  | nil =>
    rw [addL_nil]
    split
    · exact ⟨fun r h => (by cases h), trivial⟩
    · exact ⟨fun r h => (by rw [List.mem_singleton.1 h]; exact hr), trivial⟩
  | cons l t =>
    rw [addL_cons]
    split
    · exact h
    · exact ⟨fun r h2 => by
        rcases List.mem_cons.1 h2 with rfl | h2
        · exact hr
        · exact h.1 r h2, h.2⟩
theorem flat_big {m : Nat} : ∀ {l : Lev}, (∀ r ∈ l, r.length ≤ m) → l.flatten.length ≤ l.length * m
  | [], _ => by simp
  | r :: l, h => by
    have h1 := h r (by simp)
    have h2 := flat_big (l := l) fun r hr => h r (by simp [hr])
    rw [List.flatten_cons, List.length_append, List.length_cons, Nat.add_mul]
    omega
theorem settle_big : ∀ (m : Nat) (ls : List Lev) (i : Nat), cntL ls ≤ m → bigL i ls → (∀ l t, ls = l :: t → l.length ≤ 4 ∧ ∀ x ∈ t, x.length < 4) → bigL i (settleL ls)
  | m, [], i, _, h, _ => by rw [settleL_nil]; exact h
  | 0, l :: t, i, h, _, _ => by
    have : cntL (l :: t) = l.length + 1 + cntL t := by unfold cntL; simp; omega
    omega
  | m + 1, l :: t, i, h, hb, hh => by
    have hc : cntL (l :: t) = l.length + 1 + cntL t := by unfold cntL; simp; omega
    obtain ⟨h1, h2⟩ := hh l t rfl
    by_cases h4 : l.length < 4
    · rw [settleL_less h4]
      refine ⟨hb.1, settle_big m t (i + 1) (by omega) hb.2 fun l' t' e => ?_⟩
      subst e
      exact ⟨by have := h2 l' (by simp); omega, fun x hx => h2 x (by simp [hx])⟩
    · have ha := addL_cnt t (pushR l t)
      rw [settleL_more h4]
      refine ⟨fun r h => (by cases h), settle_big m _ (i + 1) (by omega) (addL_big hb.2 ?_) fun l' t' e => ?_⟩
      · have h5 := push_len l t
        have h6 := flat_big hb.1
        have h7 : l.length * (8 * 4 ^ i) ≤ 4 * (8 * 4 ^ i) := Nat.mul_le_mul_right _ h1
        rw [Nat.pow_succ]
        omega
      · cases t with
        | nil =>
          rw [addL_nil] at e
          cases e
          refine ⟨?_, fun x hx => by cases hx⟩
          split <;> simp
        | cons y t =>
          rw [addL_cons] at e
          cases e
          have h8 := h2 y (by simp)
          refine ⟨?_, fun x hx => h2 x (by simp [hx])⟩
          split
          · omega
          · rw [List.length_cons]; omega
theorem put_big {s : StD} (hI : StI s) (h : bigL 0 s.levels) (k v : ByteArray) : bigL 0 (putS s k v).levels := by
  show bigL 0 (settleL (if (putK ⟨k, v⟩ s.table).length = 8 then addL s.levels (putK ⟨k, v⟩ s.table) else s.levels))
  split
  · rename_i h8
    refine settle_big _ _ 0 (Nat.le_refl _) (addL_big h (by rw [h8]; decide)) fun l t e => ?_
    cases hs : s.levels with
    | nil =>
      rw [hs, addL_nil] at e
      cases e
      refine ⟨?_, fun x hx => by cases hx⟩
      split <;> simp
    | cons y ys =>
      rw [hs, addL_cons] at e
      cases e
      have h9 := hI.four y (by rw [hs]; simp)
      refine ⟨?_, fun x hx => hI.four x (by rw [hs]; simp [hx])⟩
      split
      · omega
      · rw [List.length_cons]; omega
  · refine settle_big _ _ 0 (Nat.le_refl _) h fun l t e => ?_
    exact ⟨by have := hI.four l (by rw [e]; simp); omega, fun x hx => hI.four x (by rw [e]; simp [hx])⟩
theorem step_big {s : StD} (hI : StI s) (h : bigL 0 s.levels) {x : OpD} (hx : ¬ (andZ x.dop 7 = 7 ∧ andZ x.n 1 = 1)) (h01 : andZ x.n 1 = 0 ∨ andZ x.n 1 = 1) : bigL 0 (stepS s x).1.levels := by
  unfold stepS
  split
  · exact h
  · split
    · show bigL 0 (applyS s x.n x.key x.val).2.levels
      unfold applyS
      split
      · exact put_big hI h _ _
      · exact h
    · split
      · split
        · exact h
        · rename_i h7 h0
          rcases h01 with h1 | h1
          · exact absurd h1 h0
          · exact absurd ⟨h7, h1⟩ hx
      · exact put_big hI h _ _
theorem bigL_at : ∀ {i : Nat} {ls : List Lev}, bigL i ls → ∀ j (hj : j < ls.length), ∀ r ∈ ls[j], r.length ≤ 8 * 4 ^ (i + j)
  | i, l :: t, h, 0, _ => h.1
  | i, l :: t, h, j + 1, hj => by
    have := bigL_at h.2 j (by simpa using hj)
    rw [List.getElem_cons_succ, show i + (j + 1) = i + 1 + j by omega]
    exact this
theorem and_one (a : Int) : andZ a 1 = 0 ∨ andZ a 1 = 1 := by
  have h : (BitVec.ofInt 64 a &&& BitVec.ofInt 64 1).toNat = (BitVec.ofInt 64 a).toNat % 2 := by
    rw [BitVec.toNat_and]
    exact Nat.and_one_is_mod _
  unfold andZ
  rw [h]
  rcases Nat.mod_two_eq_zero_or_one (BitVec.ofInt 64 a).toNat with e | e
  · left; rw [e]; decide
  · right; rw [e]; decide

/-! ### what the sizes come to -/
theorem rest_empty : ∀ (n : Nat) (ls : List Lev), ls.length = n → allRuns (ls.take (lastN ls)) = allRuns ls
  | 0, ls, h => by rw [List.eq_nil_of_length_eq_zero h]; rfl
  | n + 1, ls, h => by
    obtain ⟨a, l, rfl⟩ : ∃ a l, ls = a ++ [l] := ⟨ls.dropLast, ls.getLast (fun e => by rw [e] at h; cases h), (List.dropLast_concat_getLast _).symm⟩
    have ha : a.length = n := by rw [List.length_append] at h; simpa using h
    rw [lastN_snoc]
    by_cases e : l = []
    · rw [if_pos e, List.take_append_of_le_length (lastN_le a), rest_empty n a ha, all_app, e]
      show _ = allRuns a ++ []
      rw [List.append_nil]
    · rw [if_neg e, List.take_of_length_le (by rw [List.length_append]; simp)]
theorem sum_take {ls : List Lev} {j : Nat} (h : j < ls.length) : (allRuns (ls.take (j + 1))).length = (allRuns (ls.take j)).length + ls[j].flatten.length := by
  rw [List.take_succ_eq_append_getElem h, all_app, List.length_append]
  congr 1
  unfold allRuns
  simp
theorem runsL_at {s : StD} {j : Nat} (h : j < (runsL s).length) : ∃ h2 : j < s.levels.length, (runsL s)[j] = sizesL s.levels[j] := by
  have h1 : (runsL s).length ≤ s.levels.length := by unfold runsL; rw [List.length_take, List.length_map]; omega
  refine ⟨by omega, ?_⟩
  have e : runsL s = (s.levels.map sizesL).take (lastN s.levels) := rfl
  rw [List.getElem_of_eq e h, List.getElem_take, List.getElem_map]
theorem runsL_len (s : StD) : (runsL s).length = lastN s.levels := by
  have := lastN_le s.levels
  unfold runsL
  rw [List.length_take, List.length_map]; omega
end Go.Proofs.YtebnciehcnedjaaGreatDoor
end

/-
  StoreBounds, walked.
-/
section
set_option linter.unusedVariables false
set_option linter.unusedSimpArgs false
namespace Go.Proofs.YtebnciehcnedjaaGreatDoor
open Go.Vc


theorem st_drop {W w : World} {R G : List Own} {Φ : PW} [Stable Φ] {q : TO} {s : StD} (cx : Ctx W w (stO q s R ++ G) (fun M w => Φ M w ∧ stF q s M w)) : Ctx W w R Φ := by
  have c1 : Ctx W w (stO q s [] ++ (R ++ G)) (fun M w => Φ M w ∧ stF q s M w) := (cx.re (stO_re q s R G)).re (stO_app q s (R ++ G))
  have hst : Stable (fun M w => Φ M w ∧ stF q s M w) := instStableSt Φ q s
  have c2 := Ctx.right c1
  exact (c2.weak (Ψ := Φ) fun M w h => h.1).left

set_option maxHeartbeats 4000000 in
theorem Bounds_in {Φ : PW} [Stable Φ] {p : Option Addr} {cap : Nat} {l : List OpD} (hN : ∀ M w, Φ M w → NumI M w) (hΦ : ∀ M w, Φ M w → Sl M w p l) (hl : l.length ≤ maxLen) :
    GivesIn Φ Tryz.prog F.erratalaw29_StoreBounds #[.slice p l.length cap] (.bool true) := by
  refine .there (fun M w h => (hΦ M w h).there) fun hth => ?_
  refine gives_in (Berratalaw29_StoreBounds_run p l.length cap) fun W R => fun w G cx => ?_
  refine (small29_g.in).toB cx fun w G cx => ?_
  refine New_use cx fun q0 w hq0 cx => ⟨_, rfl, stO q0 stNew R, _, instStableSt Φ q0 stNew, cx.re (stO_re _ _ _ _).symm, fun w G cx => ?_⟩
  have hst0 : Stable (fun M w => Φ M w ∧ stF q0 stNew M w) := instStableSt Φ q0 stNew
  refine (few_in (Φ := fun M w => Φ M w ∧ stF q0 stNew M w) (fun M w h => hΦ M w h.1) hl).toB cx (Br.intro (fun _ => fun w G cx => fun w G cx => ⟨rfl, st_drop cx⟩) (fun hf => Br.intro (fun h => by cases h) (fun _ => ?_)))
  have hf : fewO l 300 = true := by cases h : fewO l 300 with
    | true => rfl
    | false => rw [h] at hf; cases hf
  have hl3 := fewO_len hf
  have hfit := fewO_fit hf
  clear cx hst0
  refine exI_mk (fun p c nI R' Φ' k => ∃ (i : Nat) (q : TO) (s : StD), nI = i ∧ i ≤ l.length ∧ p = some ⟨q.sb, 0, none⟩ ∧ StQ q s ∧ StB 0 s i ∧ WtB s i ∧ (c = false → bigL 0 s.levels) ∧ R' = stO q s R ∧ Φ' = (fun M w => Φ M w ∧ stF q s M w) ∧ k = l.length - i)
    ⟨⟨_, _, _, instStableSt Φ q0 stNew, fun w G cx => cx, 0, q0, stNew, rfl, Nat.zero_le _, rfl, hq0, new_b, new_w, fun _ => trivial, rfl, rfl, rfl⟩, ?_⟩
  rintro pS c nI R1 Φ1 k _ ⟨i, q, s, rfl, hi, rfl, hq, hB, hW, hbig, rfl, rfl, rfl⟩
  refine Br.intro (fun hlt => ?_) (fun hge => fun w G cx => ⟨rfl, st_drop cx⟩)
  have hlt : i < l.length := by have := of_decide_eq_true hlt; omega
  obtain ⟨g, o, rfl⟩ := hth (by omega)
  refine ⟨⟨by omega, by omega⟩, ptrK_intro g o rfl fun w G cx => ⟨l[i].dop, l[i].n, l[i].key, l[i].val, by rw [Int.toNat_natCast]; exact sl_op (hΦ _ _ cx.phi.1) hlt, fun w G cx => ?_⟩⟩
  have hfx := hfit _ (List.getElem_mem hlt)
  refine do_use (S := R ++ G) hN hq hB (by omega) hfx.1 hfx.2 (cx.re (stO_re q s R G)) fun q' w hq' cx => ?_
  have hB' := step_b (x := l[i]) ⟨by decide, by decide⟩ (by omega) hB hfx.1 hfx.2
  have hW' := step_w hW l[i]
  have hbig' : (c || decide (andZ l[i].dop 7 = 7) && decide (andZ l[i].n 1 = 1)) = false → bigL 0 (stepS s l[i]).1.levels := fun h => by
    rw [Bool.or_eq_false_iff] at h
    refine step_big hB.i (hbig h.1) (fun h2 => ?_) (and_one _)
    rw [decide_eq_true h2.1, decide_eq_true h2.2] at h
    cases h.2
  obtain ⟨s', hs'⟩ : ∃ s', (stepS s l[i]).1 = s' := ⟨_, rfl⟩
  rw [hs'] at hq' hB' hW' hbig' cx
  refine ⟨_, _, rfl, stO q' s' R, _, instStableSt Φ q' s', cx.re (stO_re q' s' R G).symm, Br.intro (fun h => by cases h) (fun _ => fun w G cx => ⟨fun _ => ⟨by omega, by omega⟩, ptrK_intro g o rfl ⟨l[i].dop, fun _ => by rw [Int.toNat_natCast]; exact sl_op (hΦ _ _ cx.phi.1) hlt 0 (by show 0 < 4; decide), andZ l[i].dop 7, fun _ w => and_run _ _ _, fun _ => ⟨by omega, by omega⟩, ptrK_intro g o rfl ⟨l[i].n, fun _ => by rw [Int.toNat_natCast]; exact sl_op (hΦ _ _ cx.phi.1) hlt 1 (by show 1 < 4; decide), andZ l[i].n 1, fun _ w => and_run _ _ _, fun w G cx => ?_⟩⟩⟩)⟩
  obtain ⟨c', hc'⟩ : ∃ c', (c || decide (andZ l[i].dop 7 = 7) && decide (andZ l[i].n 1 = 1)) = c' := ⟨_, rfl⟩
  rw [hc'] at hbig' ⊢
  have cxS := cx.re (stO_re q' s' R G)
  clear cx hs' hq hB hW hbig
  obtain ⟨Ψ, stΨ, toΦ, toR, hC, hunlay, hlay⟩ := lay hq' cxS
  have cxa := hlay _ _ cxS
  clear cxS hlay
  have hlv := hB'.levels
  have hver := hB'.c.ver
  have hfew := hW'.few (by omega)
  have hrunlen : ∀ j (hj : j < s'.levels.length), s'.levels[j].flatten.length ≤ (allRuns s'.levels).length := fun j hj => by
    have h1 := sum_take hj
    have h2 : (allRuns s'.levels) = allRuns (s'.levels.take (j + 1)) ++ allRuns (s'.levels.drop (j + 1)) := by rw [← all_app, List.take_append_drop]
    rw [h2, List.length_append]
    omega
  have hvl : (verP s').length = s'.table.length + (allRuns s'.levels).length := List.length_append
  have hallt : ∀ j, (allRuns (s'.levels.take j)).length ≤ (allRuns s'.levels).length := fun j => by
    have h2 : (allRuns s'.levels) = allRuns (s'.levels.take j) ++ allRuns (s'.levels.drop j) := by rw [← all_app, List.take_append_drop]
    rw [h2, List.length_append]
    omega
  have hruns := Runs_sl (Φ := Ψ) (hΦ := ⟨toR⟩) (by omega) (fun l hl => by have := hlv.2.2 l hl; omega) (fun l hl r hr => by
    obtain ⟨j, hj, rfl⟩ := List.getElem_of_mem hl
    have h1 := List.sublist_flatten_of_mem hr |>.length_le
    have := hrunlen j hj
    omega)
  refine hruns.use cxa fun p3 c3 w _ _ cx => ?_
  clear cxa
  obtain ⟨b3, o3, cs3, hp3, cx⟩ := cx.pin cx.phi.2
  have hth3 := cx.phi.1.2.there
  have hin : ∀ j (hj : j < (runsL s').length), ∃ pj cj, cs3.getD j [] = [.slice pj s'.levels[j]!.length cj] ∧ There pj s'.levels[j]!.length := fun j hj => by
    obtain ⟨h2, e⟩ := runsL_at hj
    obtain ⟨pj, cj, ej⟩ := pinl cx.phi.2 hj
    have hsl := pinl_sl cx.phi.2 hj ej
    rw [e, List.length_map] at ej
    rw [e] at hsl
    have ht := hsl.there
    rw [List.length_map] at ht
    rw [getElem!_pos s'.levels j h2]
    exact ⟨pj, cj, ej, ht⟩
  obtain ⟨Ψ4, hΨ4⟩ : ∃ Ψ4 : PW, Ψ4 = (fun M w => (Ψ M w ∧ Sl M w p3 (runsL s')) ∧ Pin b3 o3 cs3 (runsL s') M w) := ⟨_, rfl⟩
  have st4 : Stable Ψ4 := by rw [hΨ4]; exact instStableAnd (fun M w => Ψ M w ∧ Sl M w p3 (runsL s')) (fun M w => Pin b3 o3 cs3 (runsL s') M w)
  have k1 : ∀ M w, Ψ4 M w → Ψ M w := fun M w h => by rw [hΨ4] at h; exact h.1.1
  have k2 : ∀ M w, Ψ4 M w → Pin b3 o3 cs3 (runsL s') M w := fun M w h => by rw [hΨ4] at h; exact h.2
  have toS : ∀ M w, Ψ4 M w → StR q' s' M w := fun M w h => toR _ _ (k1 _ _ h)
  rw [← hΨ4] at cx
  have hrl := runsL_len s'
  have hll := lastN_le s'.levels
  refine ⟨p3, _, c3, rfl, R, Ψ4, st4, cx, ?_⟩
  clear cx
  refine exI_mk (fun most all nI R' Φ' k => ∃ j : Nat, nI = j ∧ j ≤ (runsL s').length ∧ most = ((8 * 4 ^ j : Nat) : Int) ∧ all = ((allRuns (s'.levels.take j)).length : Int) ∧ R' = R ∧ Φ' = Ψ4 ∧ k = (runsL s').length - j)
    ⟨⟨R, Ψ4, _, st4, fun w G cx => cx, 0, rfl, Nat.zero_le _, rfl, rfl, rfl, rfl, rfl⟩, ?_⟩
  rintro most all nI R2 Φ2 k2' _ ⟨j, rfl, hj, rfl, rfl, rfl, rfl, rfl⟩
  refine Br.intro (fun hltj => ?_) (fun hgej => fun w G cx => ?_)
  rotate_left
  · -- all levels were looked at
    have hgej : j = lastN s'.levels := by have := of_decide_eq_false hgej; omega
    subst hgej
    rw [rest_empty _ _ rfl]
    have hvs := Versions_in (Φ := Φ2) (hΦ := ⟨toS⟩) hC (by omega) (by omega) (by omega)
    have htab := hB'.i.few
    refine hvs.toI cx ⟨by unfold I64; omega, Br.intro (fun h => by have := of_decide_eq_true h; omega) (fun _ => fun w G cx => ?_)⟩
    refine hvs.toI cx ⟨by unfold I64; omega, Br.intro (fun h => by have := of_decide_eq_true h; omega) (fun _ => fun w G cx => ?_)⟩
    refine hvs.toI cx fun w G cx => ?_
    have hlen := Len_in (Φ := Φ2) (hΦ := ⟨toS⟩) hC (by omega) (by omega) (by omega) hB'.szs
    have hsc : (scanS s' tE).length ≤ (verP s').length := by rw [scan_all]; exact all_sub.1
    refine hlen.toI cx (Br.intro (fun h => by have := of_decide_eq_true h; omega) (fun _ => ⟨by unfold I64; omega, _, _, l.length - (i + 1), instStableSt Φ q' s', fun w G cx => ?_, ⟨i + 1, q', s', by omega, by omega, rfl, hq', hB', hW', hbig', rfl, rfl, rfl⟩, by omega⟩))
    exact (hunlay _ _ (cx.weak k1)).re (stO_re q' s' R2 G).symm
  have hltj : j < (runsL s').length := by have := of_decide_eq_true hltj; omega
  have hltl : j < s'.levels.length := by omega
  obtain ⟨b3', o3', e3⟩ := hth3 (by omega)
  have hb3 := hp3 (by omega)
  rw [e3] at hb3
  cases hb3
  obtain ⟨pj, cj, ej, htj⟩ := hin j hltj
  rw [getElem!_pos s'.levels j hltl] at ej htj
  obtain ⟨lv, hlv2⟩ : ∃ lv, s'.levels[j] = lv := ⟨_, rfl⟩
  have hlvm : lv ∈ s'.levels := by rw [← hlv2]; exact List.getElem_mem hltl
  have hatj := (runsL_at hltj).2
  rw [hlv2] at ej htj hatj
  have hfour := hB'.i.four lv hlvm
  have hsumj := sum_take hltl
  have hleA := hallt (j + 1)
  rw [hlv2] at hsumj
  have hmost : 8 * 4 ^ j ≤ 8192 := by
    have : 4 ^ j ≤ 4 ^ 5 := Nat.pow_le_pow_right (by decide) (by omega)
    have e : (4 : Nat) ^ 5 = 1024 := by decide
    omega
  refine ⟨⟨by omega, by omega⟩, ptrK_intro _ _ e3 fun w G cx => ⟨pj, lv.length, cj, by rw [Int.toNat_natCast]; exact pinl_at (k2 _ _ cx.phi) hltj ej, Br.intro (fun h => by have := of_decide_eq_true h; omega) (fun _ => ?_)⟩⟩
  clear cx
  refine exI_mk (fun all nI R' Φ' k => ∃ m : Nat, nI = m ∧ m ≤ lv.length ∧ all = (((allRuns (s'.levels.take j)).length + (lv.take m).flatten.length : Nat) : Int) ∧ R' = R2 ∧ Φ' = Φ2 ∧ k = lv.length - m)
    ⟨⟨R2, Φ2, _, st4, fun w G cx => cx, 0, rfl, Nat.zero_le _, rfl, rfl, rfl, rfl⟩, ?_⟩
  rintro all nI R3 Φ3 k3 _ ⟨m, rfl, hm, rfl, rfl, rfl, rfl⟩
  refine ⟨⟨by omega, by omega⟩, ptrK_intro _ _ e3 fun w G cx => ⟨pj, lv.length, cj, by rw [Int.toNat_natCast]; exact pinl_at (k2 _ _ cx.phi) hltj ej, Br.intro (fun hltm => ?_) (fun hgem => ?_)⟩⟩
  · have hltm : m < lv.length := by have := of_decide_eq_true hltm; omega
    obtain ⟨bj, oj, rfl⟩ := htj (by omega)
    have hcell : ∀ (w : World) (G : List Own), Ctx W w (R3 ++ G) Φ3 → w.cell? ⟨bj, oj + m, none⟩ = some (.int .i64 (lv[m].length : Int)) := fun w G cx => by
      have h1 := pinl_sl (k2 _ _ cx.phi) hltj ej
      rw [hatj] at h1
      obtain ⟨b5, o5, e5, h5⟩ := sl_int h1 (j := m) (by rw [List.length_map]; exact hltm)
      cases e5
      rw [List.getElem_map] at h5
      exact h5
    have hne : 1 ≤ lv[m].length := by
      have := hB'.i.lev.ne lv hlvm lv[m] (List.getElem_mem hltm)
      exact Nat.pos_of_ne_zero fun h0 => this (List.eq_nil_of_length_eq_zero h0)
    have hstep : (lv.take (m + 1)).flatten.length = (lv.take m).flatten.length + lv[m].length := by rw [fl_take lv hltm, List.length_append]
    have hfl : (lv.take (m + 1)).flatten.length ≤ lv.flatten.length := fl_le lv (m + 1)
    refine fun w G cx => ⟨⟨by omega, by omega⟩, ptrK_intro _ _ e3 ⟨_, lv.length, cj, by rw [Int.toNat_natCast]; exact pinl_at (k2 _ _ cx.phi) hltj ej, ⟨by omega, by omega⟩, ptrK_intro bj oj rfl ⟨_, by rw [Int.toNat_natCast]; exact hcell w G cx, fun _ => ⟨by omega, by omega⟩, ptrK_intro _ _ e3 ⟨_, lv.length, cj, fun _ => by rw [Int.toNat_natCast]; exact pinl_at (k2 _ _ cx.phi) hltj ej, fun _ => ⟨by omega, by omega⟩, ptrK_intro bj oj rfl ⟨_, fun _ => by rw [Int.toNat_natCast]; exact hcell w G cx, Br.intro (fun h => ?_) (fun _ => ⟨⟨by omega, by omega⟩, ptrK_intro _ _ e3 fun w G cx => ⟨_, lv.length, cj, by rw [Int.toNat_natCast]; exact pinl_at (k2 _ _ cx.phi) hltj ej, ⟨by omega, by omega⟩, ptrK_intro bj oj rfl fun w G cx => ⟨_, by rw [Int.toNat_natCast]; exact hcell w G cx, by unfold I64; omega, by unfold I64; omega, R3, Φ3, lv.length - (m + 1), st4, fun w G cx => cx, ⟨m + 1, by omega, by omega, by omega, rfl, rfl, rfl⟩, by omega⟩⟩⟩)⟩⟩⟩⟩⟩
    exfalso
    rw [decide_eq_false (show ¬ (lv[m].length : Int) < 1 by omega), Bool.false_or] at h
    cases hcc : c' with
    | true => rw [hcc] at h; simp at h
    | false =>
      have h1 := bigL_at (hbig' hcc) j hltl lv[m] (by rw [hlv2]; exact List.getElem_mem hltm)
      rw [Nat.zero_add] at h1
      rw [decide_eq_false (show ¬ ((8 * 4 ^ j : Nat) : Int) < (lv[m].length : Int) by omega)] at h
      cases h
  · have hgem : m = lv.length := by have := of_decide_eq_false hgem; omega
    subst hgem
    rw [List.take_length]
    have hpw : 4 ^ (j + 1) = 4 * 4 ^ j := by rw [Nat.pow_succ, Nat.mul_comm]
    exact ⟨by unfold I64; omega, by unfold I64; omega, R3, Φ3, (runsL s').length - (j + 1), st4, fun w G cx => cx, ⟨j + 1, by omega, by omega, by rw [hpw]; omega, by rw [hsumj], rfl, rfl, rfl⟩, by omega⟩
end Go.Proofs.YtebnciehcnedjaaGreatDoor
end

/-
  From what a row lists as laid to the facts of the walk.
-/
section
set_option linter.unusedVariables false
set_option linter.unusedSimpArgs false
namespace Go.Proofs.YtebnciehcnedjaaGreatDoor
open Go.Vc Go.RowKit


theorem la_row (u : TypeId) (h : Tryz.prog.typeName? 3 u = some "*errors.errorString") : u = 172 :=
  typeName_ptr_named (nm := "errors.errorString") (by rw [show "*" ++ "errors.errorString" = "*errors.errorString" by decide]; kernel_rfl) (by kernel_rfl) (by decide) u (by rw [show "*" ++ "errors.errorString" = "*errors.errorString" by decide]; exact h)

theorem la_err {n : String} {text : List UInt8} {r : List (String × DataW Unit)} {W : World} {g : Nat} (h : laidMet Tryz.prog ((n, .iface "*errors.errorString" (.ptr (.agg [.lit (.string text)]))) :: r) W)
    (hg : Tryz.prog.globalNamed n = some g) (ht : (Tryz.prog.globals[g]?).map (·.type) = some 91) : ErrAt g [] W := by
  obtain ⟨a, s, hv, _⟩ := laid_sentinel h hg ht Tryz.underlying91 la_row Tryz.underlying172 Tryz.underlying174 rfl rfl Tryz.underlying9 (by kernel_rfl) (by kernel_rfl)
  exact ⟨by simp, _, by have h0 := World.var?_cell hg hv 0; simpa using h0, .inr ⟨_, _, rfl⟩⟩

theorem la_num {W : World} (h : laidMetH Tryz.prog Rows.storeBoundsRow.laid W) : NumI [] W := by
  rw [MakeChecks.laidMetH_plain Tryz.prog Rows.storeBoundsRow.laid W (by kernel_rfl)] at h
  have h2 := h.tail.tail
  exact ⟨Tab.start (Lib.tabIs_of_head (k := .u64) (zs := Lib.pow10Tab) (g := 3) (t := 166) (e := 154) (n := 20) (by kernel_rfl) (by kernel_rfl) (by kernel_rfl) (by kernel_rfl) (by kernel_rfl) (by kernel_rfl) h2),
    la_err h2.tail.tail (by kernel_rfl) (by kernel_rfl), la_err h2.tail (by kernel_rfl) (by kernel_rfl)⟩

end Go.Proofs.YtebnciehcnedjaaGreatDoor
end

section
set_option linter.unusedVariables false
set_option linter.unusedSimpArgs false
namespace Go.Proofs.YtebnciehcnedjaaGreatDoor
open Go.ChangeShapes Go.WideShapes Go.ChangeAt Go.RowKit Go.Vc


theorem df_own : ownKnob Tryz.prog.godebug = none := by kernel_rfl
theorem df_laid : laidOutB Tryz.prog = true := by kernel_rfl

theorem trodAll_n {H : Type} {enc : TypeId × Value → H} {P : Program} {w : World} {base : Nat} {spare : Nat → Bool} {held : Bool} {t0 : TypeId} {args : Array Value} {ds : List (DataW H)} {ps : List MemPlace} (h : DataW.TrodAll enc P w base spare held [t0] args.toList ds ps) :
    ∃ v0 d0 p0, args = #[v0] ∧ ds = [d0] ∧ ps = p0 ∧ DataW.Trod enc P w base spare held t0 v0 d0 p0 := by
  obtain ⟨v0, vs0, d0, ds0, p0, q0, hargs, rfl, rfl, h0, h⟩ := trodAll_cons h
  obtain ⟨rfl, rfl, rfl⟩ := trodAll_nil h
  exact ⟨v0, d0, p0, by cases args; simp_all, rfl, by simp, h0⟩

theorem door_met (os : Os) (args : Array Value) : laidMetH Tryz.prog Rows.storeBoundsRow.laid ((World.doorLaid Tryz.prog 400 os).forCall (fun _ _ => 0) ⟨#[], args, []⟩).memory :=
  laidMetH_of_parts3 (fuel := 8) (laidMet_of_run' 8 (by kernel_rfl) (by kernel_rfl)) (by kernel_rfl) (by kernel_rfl)

set_option maxRecDepth 100000 in
theorem law_lifted (os : Os) (started : os.Started) (H : Type) (enc : TypeId × Value → H) :
    ReturnsInHanded {} Tryz.checked os 5 .any (fun w args => (Rows.storeBoundsSpec.pre enc Tryz.prog Tryz.f5 Rows.storeBoundsRow.domain false w args ∧ laidMetH Tryz.prog Rows.storeBoundsRow.laid w) ∧ sizedMet enc Tryz.prog Tryz.f5 (OpenSpec.ofChange Rows.storeBoundsSpec) false w args) (Rows.storeBoundsSpec.post enc Tryz.prog Tryz.f5 false true false false) := by
  refine lawTrueLaid (C := Tryz.checked) (tb := 4) df_own started (by kernel_rfl) Tryz.func5 df_laid rfl ?_ rfl Tryz.underlying4 (by kernel_rfl)
    (ChangeSpec.witness_shaped (enc := enc) (C := Tryz.checked) (os := os) (X := fun w _ => laidMetH Tryz.prog Rows.storeBoundsRow.laid w) false (World.doorLaid Tryz.prog 400 os) #[.slice none 0 0] 8 rfl (World.shaped_of_RefB (by kernel_rfl) (by kernel_rfl)) (by kernel_rfl) (by kernel_rfl) (by kernel_rfl) (door_met os _)) ?_
  · intro ds hd
    match ds, hd with
    | [_], _ => exact ⟨rfl, rfl, rfl⟩
  · intro W base args ds p hval0 hA0 _ hL
    have hval : ∀ (j : Nat) t v, Tryz.f5.params[j]? = some t → args[j]? = some v → Value.okWide Tryz.prog W .any base t v := hval0
    have hA : DataW.TrodAll enc Tryz.prog W 0 (fun _ => true) true Tryz.f5.params.toList args.toList ds p := hA0
    rw [Tryz.params5] at hA hval
    obtain ⟨v0, d0, p0, rfl, rfl, rfl, h0⟩ := trodAll_n hA
    obtain ⟨lp, lc, l, rfl, la, lb, s0⟩ := open_sl (α := OpD) 12 Tryz.underlying22 (hval 0 22 v0 rfl rfl) (by kernel_rfl) h0
    have st0 : Stable (fun M w => Sl M w lp l) := inferInstance
    have st1 : Stable (fun M w => NumI M w ∧ Sl M w lp l) := instStableAnd (fun M w => NumI M w) (fun M w => Sl M w lp l)
    have fin : GivesIn (fun M w => NumI M w ∧ Sl M w lp l) Tryz.prog 5 _ (.bool true) := Bounds_in (Φ := (fun M w => NumI M w ∧ Sl M w lp l)) (p := lp) (cap := lc) (l := l) (fun _ _ h => h.1) (fun _ _ h => h.2) (by omega)
    exact fin.law ⟨la_num hL, s0⟩

theorem row_holds : Rows.StoreBoundsSaid :=
  OpenClaim.holds_of_wide 5 Tryz.f5 rfl rfl rfl rfl rfl rfl rfl ⟨rfl, rfl, rfl, rfl, rfl⟩ rfl rfl rfl rfl rfl (by kernel_rfl) Tryz.func5 (by kernel_rfl)
    (of_decide_eq_true (by kernel_rfl)) (by unfold Func.isWrapper; first | (rw [if_pos (by decide +kernel)]; kernel_rfl) | (rw [if_neg (by decide +kernel)]; exact ⟨rfl, rfl⟩))
    (fun os started H enc _ => law_lifted os started H enc)

theorem bounds_holds : Rows.StoreBoundsCardSaid :=
  Claim7.holds_tied_plain_at .later [] [.data, .data, .data, .sentinel, .sentinel] true Rows.storeBoundsCard.stood.harness true
    row_holds (fun _ h => by cases h) (by kernel_rfl) (fun _ h => by cases h) storeBounds_row_tie rfl ⟨rfl, rfl⟩ (by kernel_rfl) rfl
    (fun f fn hf hfn => by
      obtain rfl : f = 5 := Option.some.inj ((show Tryz.prog.funcNamed Rows.storeBoundsRow.func = some 5 by kernel_rfl).symm.trans hf) |>.symm
      obtain rfl : fn = Tryz.f5 := (Option.some.inj (Tryz.func5.symm.trans hfn)).symm
      exact ⟨by kernel_rfl, fun j t ht => by
        rw [Tryz.params5] at ht
        have hm := Array.mem_of_getElem? ht
        have hall : ((Tryz.f5.params.toList).all fun u => !Tryz.prog.wantsStandIn u) = true := by kernel_rfl
        rw [Tryz.params5] at hall
        exact (show Tryz.prog.wantsStandIn t = false by simpa using List.all_eq_true.1 hall t (by simpa using hm))⟩)
    (by kernel_rfl)

end Go.Proofs.YtebnciehcnedjaaGreatDoor
end

