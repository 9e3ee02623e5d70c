/-
  The conditions of the walks of some functions, one formula each; 'B<f>_run' says that they suffice. The formulas are printed by a program; the kernel compares them with the functions' code.
-/
import Derived.Test.YtnapfhbibikbiaaDoorPa84
import Derived.Test.YtnapfhbibikbiaaDoorPa86
import Derived.Lib.AppendZeros
import Derived.Test.YtnapfhbibikbiaaDoorPa85
import Derived.Shelf.Strings.Builder1
import Derived.Shelf.Strconv.Itoa3
import Derived.Lib.AppendStr
import Derived.Lib.LaidTab
import Derived.LaidMore
import Derived.OpenShut
import Derived.Stop.Joined
import Derived.Shelf.Small.Strs
import Derived.Shelf.Strings.BuilderF
import Derived.Shelf.Strings.BuilderK
import Derived.Shelf.Strconv.Itoa0
import Derived.Shelf.Strconv.Itoa1
import Derived.Shelf.LaysM
import Derived.Shelf.Strconv.Itoa2
import Derived.Shelf.Slices.CompactI
import Derived.Shelf.Slices.SearchI
import Derived.Shelf.Slices.Cells
import Derived.Test.YtnapfhbibikbiaaDoorRows
import Derived.Lib.ItoaNum
import Derived.Lib.SliceRun
import Derived.Laws.IdiomStrings

section
namespace Go.Proofs.YtnapfhbibikbiaaDoor
set_option linter.unusedVariables false
set_option linter.unusedSimpArgs false
set_option maxRecDepth 100000
open Go.Vc

/-- erratalaw42.DifferenceParts -/
-- loop at region 25: 16 m; blocks 
-- loop at region 20: 15 m; blocks 
-- loop at region 9: 9 now, 11 total, 12 i; blocks 
def Berratalaw42_DifferenceParts (aP : Option Addr) (aN aC : Nat) (bP : Option Addr) (bN bC : Nat) (orderP : Option Addr) (orderN orderC : Nat) (W : World) (R : List Own) (Φ : PW) (J : Value → World → Prop) : Prop :=
  ∀ (w0 : World) (R1 : List Own), Ctx W w0 (R ++ R1) Φ → Calls Tryd.prog F.erratalaw42_small #[] w0 fun (e2 : Ending) (w3 : World) => ∃ (c4 : Bool), e2 = Ending.returned (Value.bool c4) ∧ ∃
  (R5 : List Own), ∃ (Φ6 : PW), Stable Φ6 ∧ Ctx W w3 (R5 ++ R1) Φ6 ∧ ∀ (w7 : World) (R8 : List Own), Ctx W w7 (R5 ++ R8) Φ6 → Calls Tryd.prog F.errataref42_Right #[Value.slice aP aN aC,
  Value.int IntKind.i64 50] w7 fun (e9 : Ending) (w10 : World) => ∃ (c11 : Bool), e9 = Ending.returned (Value.bool c11) ∧ ∃ (R12 : List Own), ∃ (Φ13 : PW), Stable Φ13 ∧ Ctx W w10 (R12 ++ R8)
  Φ13 ∧ Br (!c11) (∀ (w14 : World) (R15 : List Own), Ctx W w14 (R12 ++ R15) Φ13 → J (Value.bool c4) w14) (∀ (w16 : World) (R17 : List Own), Ctx W w16 (R12 ++ R17) Φ13 → Calls Tryd.prog
  F.errataref42_Right #[Value.slice bP bN bC, Value.int IntKind.i64 50] w16 fun (e18 : Ending) (w19 : World) => ∃ (c20 : Bool), e18 = Ending.returned (Value.bool c20) ∧ ∃ (R21 : List Own), ∃
  (Φ22 : PW), Stable Φ22 ∧ Ctx W w19 (R21 ++ R17) Φ22 ∧ Br (!c20) (∀ (w23 : World) (R24 : List Own), Ctx W w23 (R21 ++ R24) Φ22 → J (Value.bool c4) w23) (Br (decide (40 < (↑orderN : Int))) (∀
  (w25 : World) (R26 : List Own), Ctx W w25 (R21 ++ R26) Φ22 → J (Value.bool c4) w25) (∀ (w27 : World) (R28 : List Own), Ctx W w27 (R21 ++ R28) Φ22 → Calls Tryd.prog F.difference_Diff
  #[Value.slice aP aN aC, Value.slice bP bN bC] w27 fun (e29 : Ending) (w30 : World) => ∃ (p31 : Option Addr), ∃ (k32 : Nat), ∃ (k33 : Nat), e29 = Ending.returned (Value.slice p31 k32 k33) ∧
  ∃ (R34 : List Own), ∃ (Φ35 : PW), Stable Φ35 ∧ Ctx W w30 (R34 ++ R28) Φ35 ∧ ∀ (w36 : World) (R37 : List Own), Ctx W w36 (R34 ++ R37) Φ35 → Calls Tryd.prog F.delta_Consolidate #[Value.slice
  aP aN aC] w36 fun (e38 : Ending) (w39 : World) => ∃ (p40 : Option Addr), ∃ (k41 : Nat), ∃ (k42 : Nat), e38 = Ending.returned (Value.slice p40 k41 k42) ∧ ∃ (R43 : List Own), ∃ (Φ44 : PW),
  Stable Φ44 ∧ Ctx W w39 (R43 ++ R37) Φ44 ∧ ((0 : Int) ≤ 16 ∧ (16 : Int) ≤ 16 ∧ (16 : Int) ≤ 281474976710656 ∧ (16 : Int) ≤ 9223372036854775807) ∧ ∀ (k45 : Nat), exI fun (I46 : Option Addr →
  Nat → Nat → Int → Int → List Own → PW → Nat → Prop) => (∃ (R47 : List Own), ∃ (Φ48 : PW), ∃ (k49 : Nat), Stable Φ48 ∧ (∀ (w50 : World) (R51 : List Own), Ctx W w50 (Own.blk k45 [Value.bool
  false, Value.bool false, Value.bool false, Value.bool false, Value.bool false, Value.bool false, Value.bool false, Value.bool false, Value.bool false, Value.bool false, Value.bool false,
  Value.bool false, Value.bool false, Value.bool false, Value.bool false, Value.bool false] 4 :: R43 ++ R51) Φ44 → Ctx W w50 (R47 ++ R51) Φ48) ∧ I46 p40 k41 k42 0 0 R47 Φ48 k49) ∧ ∀ (p52 :
  Option Addr) (k53 k54 : Nat) (n55 n56 : Int) (R57 : List Own) (I58 : List Nat → World → Prop) (k59 : Nat), Stable I58 → I46 p52 k53 k54 n55 n56 R57 I58 k59 → I64 ((↑orderN : Int) + 16) ∧ Br
  (decide (n56 < (↑orderN : Int) + 16)) (I64 (n56 - (↑orderN : Int)) ∧ Br (decide (n56 < (↑orderN : Int))) ((0 ≤ n56 ∧ n56 < (↑orderN : Int)) ∧ ptrK none orderP fun (k60 k61 : Nat) => ∀ (w62
  : World) (R63 : List Own), Ctx W w62 (R57 ++ R63) I58 → ∃ (n64 : Int), w62.cell? (Addr.mk k60 (k61 + n56.toNat) none) = some (Value.int IntKind.i64 n64) ∧ ∃ (n65 : Int), (∀ (w66 : World),
  Sem.run Tryd.prog (binOp BinOp.and 3 (Value.int IntKind.i64 n64) (Value.int IntKind.i64 15)) w66 = Result.ok (Value.int IntKind.i64 n65) w66) ∧ (0 ≤ n65 ∧ n65 < 16) ∧ ∀ (w67 : World) (R68 :
  List Own), Ctx W w67 (R57 ++ R68) I58 → ∃ (c69 : Bool), w67.cell? (Addr.mk k45 (0 + n65.toNat) none) = some (Value.bool c69) ∧ Br c69 (I64 (n56 + 1) ∧ ∃ (R70 : List Own), ∃ (Φ71 : PW), ∃
  (k72 : Nat), Stable Φ71 ∧ (∀ (w73 : World) (R74 : List Own), Ctx W w73 (R57 ++ R74) I58 → Ctx W w73 (R70 ++ R74) Φ71) ∧ I46 p52 k53 k54 n55 (n56 + 1) R70 Φ71 k72 ∧ k72 < k59) ((0 ≤ n65 ∧
  n65 < 16) ∧ ∀ (w75 : World) (R76 : List Own), Ctx W w75 (R57 ++ R76) I58 → CanWrite w75 k45 (0 + n65.toNat) 1 ∧ ∀ (w77 : World), w77 = w75.setCell (Addr.mk k45 (0 + n65.toNat) none)
  (Value.bool true) → ∃ (R78 : List Own), ∃ (Φ79 : PW), Stable Φ79 ∧ Ctx W w77 (R78 ++ R76) Φ79 ∧ ∀ (w80 : World) (R81 : List Own), Ctx W w80 (R78 ++ R81) Φ79 → Calls Tryd.prog
  F.difference_Part #[Value.slice p31 k32 k33, Value.int IntKind.i64 n65] w80 fun (e82 : Ending) (w83 : World) => ∃ (p84 : Option Addr), ∃ (k85 : Nat), ∃ (k86 : Nat), e82 = Ending.returned
  (Value.slice p84 k85 k86) ∧ ∃ (R87 : List Own), ∃ (Φ88 : PW), Stable Φ88 ∧ Ctx W w83 (R87 ++ R81) Φ88 ∧ I64 (n55 + (↑k85 : Int)) ∧ ∀ (w89 : World) (R90 : List Own), Ctx W w89 (R87 ++ R90)
  Φ88 → Calls Tryd.prog F.delta_Add #[Value.slice p52 k53 k54, Value.slice p84 k85 k86] w89 fun (e91 : Ending) (w92 : World) => ∃ (p93 : Option Addr), ∃ (k94 : Nat), ∃ (k95 : Nat), e91 =
  Ending.returned (Value.slice p93 k94 k95) ∧ ∃ (R96 : List Own), ∃ (Φ97 : PW), Stable Φ97 ∧ Ctx W w92 (R96 ++ R90) Φ97 ∧ exI fun (I98 : Int → List Own → PW → Nat → Prop) => (∃ (R99 : List
  Own), ∃ (Φ100 : PW), ∃ (k101 : Nat), Stable Φ100 ∧ (∀ (w102 : World) (R103 : List Own), Ctx W w102 (R96 ++ R103) Φ97 → Ctx W w102 (R99 ++ R103) Φ100) ∧ I98 0 R99 Φ100 k101) ∧ ∀ (n104 : Int)
  (R105 : List Own) (I106 : List Nat → World → Prop) (k107 : Nat), Stable I106 → I98 n104 R105 I106 k107 → Br (decide (n104 < (↑k85 : Int))) ((0 ≤ n104 ∧ n104 < (↑k85 : Int)) ∧ ptrK none p84
  fun (k108 k109 : Nat) => ∀ (w110 : World) (R111 : List Own), Ctx W w110 (R105 ++ R111) I106 → ∃ (p112 : Option Addr), ∃ (k113 : Nat), ∃ (k114 : Nat), w110.cell? (Addr.mk k108 (k109 +
  n104.toNat * 3 + 1) none) = some (Value.slice p112 k113 k114) ∧ ∀ (w115 : World) (R116 : List Own), Ctx W w115 (R105 ++ R116) I106 → Calls Tryd.prog F.place_Bucket #[Value.slice p112 k113
  k114] w115 fun (e117 : Ending) (w118 : World) => ∃ (n119 : Int), e117 = Ending.returned (Value.int IntKind.i64 n119) ∧ ∃ (R120 : List Own), ∃ (Φ121 : PW), Stable Φ121 ∧ Ctx W w118 (R120 ++
  R116) Φ121 ∧ Br (decide (n119 ≠ n65)) (∀ (w122 : World) (R123 : List Own), Ctx W w122 (R120 ++ R123) Φ121 → J (Value.bool false) w122) (I64 (n104 + 1) ∧ ∃ (R124 : List Own), ∃ (Φ125 : PW),
  ∃ (k126 : Nat), Stable Φ125 ∧ (∀ (w127 : World) (R128 : List Own), Ctx W w127 (R120 ++ R128) Φ121 → Ctx W w127 (R124 ++ R128) Φ125) ∧ I98 (n104 + 1) R124 Φ125 k126 ∧ k126 < k107)) (exI fun
  (I129 : Int → List Own → PW → Nat → Prop) => (∃ (R130 : List Own), ∃ (Φ131 : PW), ∃ (k132 : Nat), Stable Φ131 ∧ (∀ (w133 : World) (R134 : List Own), Ctx W w133 (R105 ++ R134) I106 → Ctx W
  w133 (R130 ++ R134) Φ131) ∧ I129 0 R130 Φ131 k132) ∧ ∀ (n135 : Int) (R136 : List Own) (I137 : List Nat → World → Prop) (k138 : Nat), Stable I137 → I129 n135 R136 I137 k138 → Br (decide
  (n135 < 16)) ((0 ≤ n135 ∧ n135 < 16) ∧ ∀ (w139 : World) (R140 : List Own), Ctx W w139 (R136 ++ R140) I137 → ∃ (c141 : Bool), w139.cell? (Addr.mk k45 (0 + n135.toNat) none) = some
  (Value.bool c141) ∧ Br c141 (∀ (w142 : World) (R143 : List Own), Ctx W w142 (R136 ++ R143) I137 → Calls Tryd.prog F.difference_Part #[Value.slice p93 k94 k95, Value.int IntKind.i64 n135]
  w142 fun (e144 : Ending) (w145 : World) => ∃ (p146 : Option Addr), ∃ (k147 : Nat), ∃ (k148 : Nat), e144 = Ending.returned (Value.slice p146 k147 k148) ∧ ∃ (R149 : List Own), ∃ (Φ150 : PW),
  Stable Φ150 ∧ Ctx W w145 (R149 ++ R143) Φ150 ∧ ∀ (w151 : World) (R152 : List Own), Ctx W w151 (R149 ++ R152) Φ150 → Calls Tryd.prog F.difference_Part #[Value.slice bP bN bC, Value.int
  IntKind.i64 n135] w151 fun (e153 : Ending) (w154 : World) => ∃ (p155 : Option Addr), ∃ (k156 : Nat), ∃ (k157 : Nat), e153 = Ending.returned (Value.slice p155 k156 k157) ∧ ∃ (R158 : List
  Own), ∃ (Φ159 : PW), Stable Φ159 ∧ Ctx W w154 (R158 ++ R152) Φ159 ∧ ∀ (w160 : World) (R161 : List Own), Ctx W w160 (R158 ++ R161) Φ159 → Calls Tryd.prog F.delta_Same #[Value.slice p146 k147
  k148, Value.slice p155 k156 k157] w160 fun (e162 : Ending) (w163 : World) => ∃ (c164 : Bool), e162 = Ending.returned (Value.bool c164) ∧ ∃ (R165 : List Own), ∃ (Φ166 : PW), Stable Φ166 ∧
  Ctx W w163 (R165 ++ R161) Φ166 ∧ Br (!c164) (∀ (w167 : World) (R168 : List Own), Ctx W w167 (R165 ++ R168) Φ166 → J (Value.bool false) w167) (I64 (n135 + 1) ∧ ∃ (R169 : List Own), ∃ (Φ170 :
  PW), ∃ (k171 : Nat), Stable Φ170 ∧ (∀ (w172 : World) (R173 : List Own), Ctx W w172 (R165 ++ R173) Φ166 → Ctx W w172 (R169 ++ R173) Φ170) ∧ I129 (n135 + 1) R169 Φ170 k171 ∧ k171 < k138)) (∀
  (w174 : World) (R175 : List Own), Ctx W w174 (R136 ++ R175) I137 → Calls Tryd.prog F.difference_Part #[Value.slice p93 k94 k95, Value.int IntKind.i64 n135] w174 fun (e176 : Ending) (w177 :
  World) => ∃ (p178 : Option Addr), ∃ (k179 : Nat), ∃ (k180 : Nat), e176 = Ending.returned (Value.slice p178 k179 k180) ∧ ∃ (R181 : List Own), ∃ (Φ182 : PW), Stable Φ182 ∧ Ctx W w177 (R181 ++
  R175) Φ182 ∧ ∀ (w183 : World) (R184 : List Own), Ctx W w183 (R181 ++ R184) Φ182 → Calls Tryd.prog F.difference_Part #[Value.slice aP aN aC, Value.int IntKind.i64 n135] w183 fun (e185 :
  Ending) (w186 : World) => ∃ (p187 : Option Addr), ∃ (k188 : Nat), ∃ (k189 : Nat), e185 = Ending.returned (Value.slice p187 k188 k189) ∧ ∃ (R190 : List Own), ∃ (Φ191 : PW), Stable Φ191 ∧ Ctx
  W w186 (R190 ++ R184) Φ191 ∧ ∀ (w192 : World) (R193 : List Own), Ctx W w192 (R190 ++ R193) Φ191 → Calls Tryd.prog F.delta_Same #[Value.slice p178 k179 k180, Value.slice p187 k188 k189] w192
  fun (e194 : Ending) (w195 : World) => ∃ (c196 : Bool), e194 = Ending.returned (Value.bool c196) ∧ ∃ (R197 : List Own), ∃ (Φ198 : PW), Stable Φ198 ∧ Ctx W w195 (R197 ++ R193) Φ198 ∧ Br
  (!c196) (∀ (w199 : World) (R200 : List Own), Ctx W w199 (R197 ++ R200) Φ198 → J (Value.bool false) w199) (I64 (n135 + 1) ∧ ∃ (R201 : List Own), ∃ (Φ202 : PW), ∃ (k203 : Nat), Stable Φ202 ∧
  (∀ (w204 : World) (R205 : List Own), Ctx W w204 (R197 ++ R205) Φ198 → Ctx W w204 (R201 ++ R205) Φ202) ∧ I129 (n135 + 1) R201 Φ202 k203 ∧ k203 < k138))) (I64 (n56 + 1) ∧ ∃ (R206 : List Own),
  ∃ (Φ207 : PW), ∃ (k208 : Nat), Stable Φ207 ∧ (∀ (w209 : World) (R210 : List Own), Ctx W w209 (R136 ++ R210) I137 → Ctx W w209 (R206 ++ R210) Φ207) ∧ I46 p93 k94 k95 (n55 + (↑k85 : Int))
  (n56 + 1) R206 Φ207 k208 ∧ k208 < k59)))) ((0 ≤ n56 - (↑orderN : Int) ∧ n56 - (↑orderN : Int) < 16) ∧ ∀ (w211 : World) (R212 : List Own), Ctx W w211 (R57 ++ R212) I58 → ∃ (c213 : Bool),
  w211.cell? (Addr.mk k45 (0 + (n56 - (↑orderN : Int)).toNat) none) = some (Value.bool c213) ∧ Br c213 (I64 (n56 + 1) ∧ ∃ (R214 : List Own), ∃ (Φ215 : PW), ∃ (k216 : Nat), Stable Φ215 ∧ (∀
  (w217 : World) (R218 : List Own), Ctx W w217 (R57 ++ R218) I58 → Ctx W w217 (R214 ++ R218) Φ215) ∧ I46 p52 k53 k54 n55 (n56 + 1) R214 Φ215 k216 ∧ k216 < k59) ((0 ≤ n56 - (↑orderN : Int) ∧
  n56 - (↑orderN : Int) < 16) ∧ ∀ (w219 : World) (R220 : List Own), Ctx W w219 (R57 ++ R220) I58 → CanWrite w219 k45 (0 + (n56 - (↑orderN : Int)).toNat) 1 ∧ ∀ (w221 : World), w221 =
  w219.setCell (Addr.mk k45 (0 + (n56 - (↑orderN : Int)).toNat) none) (Value.bool true) → ∃ (R222 : List Own), ∃ (Φ223 : PW), Stable Φ223 ∧ Ctx W w221 (R222 ++ R220) Φ223 ∧ ∀ (w224 : World)
  (R225 : List Own), Ctx W w224 (R222 ++ R225) Φ223 → Calls Tryd.prog F.difference_Part #[Value.slice p31 k32 k33, Value.int IntKind.i64 (n56 - (↑orderN : Int))] w224 fun (e226 : Ending)
  (w227 : World) => ∃ (p228 : Option Addr), ∃ (k229 : Nat), ∃ (k230 : Nat), e226 = Ending.returned (Value.slice p228 k229 k230) ∧ ∃ (R231 : List Own), ∃ (Φ232 : PW), Stable Φ232 ∧ Ctx W w227
  (R231 ++ R225) Φ232 ∧ I64 (n55 + (↑k229 : Int)) ∧ ∀ (w233 : World) (R234 : List Own), Ctx W w233 (R231 ++ R234) Φ232 → Calls Tryd.prog F.delta_Add #[Value.slice p52 k53 k54, Value.slice
  p228 k229 k230] w233 fun (e235 : Ending) (w236 : World) => ∃ (p237 : Option Addr), ∃ (k238 : Nat), ∃ (k239 : Nat), e235 = Ending.returned (Value.slice p237 k238 k239) ∧ ∃ (R240 : List Own),
  ∃ (Φ241 : PW), Stable Φ241 ∧ Ctx W w236 (R240 ++ R234) Φ241 ∧ exI fun (I242 : Int → List Own → PW → Nat → Prop) => (∃ (R243 : List Own), ∃ (Φ244 : PW), ∃ (k245 : Nat), Stable Φ244 ∧ (∀
  (w246 : World) (R247 : List Own), Ctx W w246 (R240 ++ R247) Φ241 → Ctx W w246 (R243 ++ R247) Φ244) ∧ I242 0 R243 Φ244 k245) ∧ ∀ (n248 : Int) (R249 : List Own) (I250 : List Nat → World →
  Prop) (k251 : Nat), Stable I250 → I242 n248 R249 I250 k251 → Br (decide (n248 < (↑k229 : Int))) ((0 ≤ n248 ∧ n248 < (↑k229 : Int)) ∧ ptrK none p228 fun (k252 k253 : Nat) => ∀ (w254 : World)
  (R255 : List Own), Ctx W w254 (R249 ++ R255) I250 → ∃ (p256 : Option Addr), ∃ (k257 : Nat), ∃ (k258 : Nat), w254.cell? (Addr.mk k252 (k253 + n248.toNat * 3 + 1) none) = some (Value.slice
  p256 k257 k258) ∧ ∀ (w259 : World) (R260 : List Own), Ctx W w259 (R249 ++ R260) I250 → Calls Tryd.prog F.place_Bucket #[Value.slice p256 k257 k258] w259 fun (e261 : Ending) (w262 : World)
  => ∃ (n263 : Int), e261 = Ending.returned (Value.int IntKind.i64 n263) ∧ ∃ (R264 : List Own), ∃ (Φ265 : PW), Stable Φ265 ∧ Ctx W w262 (R264 ++ R260) Φ265 ∧ Br (decide (n263 ≠ n56 - (↑orderN
  : Int))) (∀ (w266 : World) (R267 : List Own), Ctx W w266 (R264 ++ R267) Φ265 → J (Value.bool false) w266) (I64 (n248 + 1) ∧ ∃ (R268 : List Own), ∃ (Φ269 : PW), ∃ (k270 : Nat), Stable Φ269 ∧
  (∀ (w271 : World) (R272 : List Own), Ctx W w271 (R264 ++ R272) Φ265 → Ctx W w271 (R268 ++ R272) Φ269) ∧ I242 (n248 + 1) R268 Φ269 k270 ∧ k270 < k251)) (exI fun (I273 : Int → List Own → PW →
  Nat → Prop) => (∃ (R274 : List Own), ∃ (Φ275 : PW), ∃ (k276 : Nat), Stable Φ275 ∧ (∀ (w277 : World) (R278 : List Own), Ctx W w277 (R249 ++ R278) I250 → Ctx W w277 (R274 ++ R278) Φ275) ∧
  I273 0 R274 Φ275 k276) ∧ ∀ (n279 : Int) (R280 : List Own) (I281 : List Nat → World → Prop) (k282 : Nat), Stable I281 → I273 n279 R280 I281 k282 → Br (decide (n279 < 16)) ((0 ≤ n279 ∧ n279 <
  16) ∧ ∀ (w283 : World) (R284 : List Own), Ctx W w283 (R280 ++ R284) I281 → ∃ (c285 : Bool), w283.cell? (Addr.mk k45 (0 + n279.toNat) none) = some (Value.bool c285) ∧ Br c285 (∀ (w286 :
  World) (R287 : List Own), Ctx W w286 (R280 ++ R287) I281 → Calls Tryd.prog F.difference_Part #[Value.slice p237 k238 k239, Value.int IntKind.i64 n279] w286 fun (e288 : Ending) (w289 :
  World) => ∃ (p290 : Option Addr), ∃ (k291 : Nat), ∃ (k292 : Nat), e288 = Ending.returned (Value.slice p290 k291 k292) ∧ ∃ (R293 : List Own), ∃ (Φ294 : PW), Stable Φ294 ∧ Ctx W w289 (R293 ++
  R287) Φ294 ∧ ∀ (w295 : World) (R296 : List Own), Ctx W w295 (R293 ++ R296) Φ294 → Calls Tryd.prog F.difference_Part #[Value.slice bP bN bC, Value.int IntKind.i64 n279] w295 fun (e297 :
  Ending) (w298 : World) => ∃ (p299 : Option Addr), ∃ (k300 : Nat), ∃ (k301 : Nat), e297 = Ending.returned (Value.slice p299 k300 k301) ∧ ∃ (R302 : List Own), ∃ (Φ303 : PW), Stable Φ303 ∧ Ctx
  W w298 (R302 ++ R296) Φ303 ∧ ∀ (w304 : World) (R305 : List Own), Ctx W w304 (R302 ++ R305) Φ303 → Calls Tryd.prog F.delta_Same #[Value.slice p290 k291 k292, Value.slice p299 k300 k301] w304
  fun (e306 : Ending) (w307 : World) => ∃ (c308 : Bool), e306 = Ending.returned (Value.bool c308) ∧ ∃ (R309 : List Own), ∃ (Φ310 : PW), Stable Φ310 ∧ Ctx W w307 (R309 ++ R305) Φ310 ∧ Br
  (!c308) (∀ (w311 : World) (R312 : List Own), Ctx W w311 (R309 ++ R312) Φ310 → J (Value.bool false) w311) (I64 (n279 + 1) ∧ ∃ (R313 : List Own), ∃ (Φ314 : PW), ∃ (k315 : Nat), Stable Φ314 ∧
  (∀ (w316 : World) (R317 : List Own), Ctx W w316 (R309 ++ R317) Φ310 → Ctx W w316 (R313 ++ R317) Φ314) ∧ I273 (n279 + 1) R313 Φ314 k315 ∧ k315 < k282)) (∀ (w318 : World) (R319 : List Own),
  Ctx W w318 (R280 ++ R319) I281 → Calls Tryd.prog F.difference_Part #[Value.slice p237 k238 k239, Value.int IntKind.i64 n279] w318 fun (e320 : Ending) (w321 : World) => ∃ (p322 : Option
  Addr), ∃ (k323 : Nat), ∃ (k324 : Nat), e320 = Ending.returned (Value.slice p322 k323 k324) ∧ ∃ (R325 : List Own), ∃ (Φ326 : PW), Stable Φ326 ∧ Ctx W w321 (R325 ++ R319) Φ326 ∧ ∀ (w327 :
  World) (R328 : List Own), Ctx W w327 (R325 ++ R328) Φ326 → Calls Tryd.prog F.difference_Part #[Value.slice aP aN aC, Value.int IntKind.i64 n279] w327 fun (e329 : Ending) (w330 : World) => ∃
  (p331 : Option Addr), ∃ (k332 : Nat), ∃ (k333 : Nat), e329 = Ending.returned (Value.slice p331 k332 k333) ∧ ∃ (R334 : List Own), ∃ (Φ335 : PW), Stable Φ335 ∧ Ctx W w330 (R334 ++ R328) Φ335
  ∧ ∀ (w336 : World) (R337 : List Own), Ctx W w336 (R334 ++ R337) Φ335 → Calls Tryd.prog F.delta_Same #[Value.slice p322 k323 k324, Value.slice p331 k332 k333] w336 fun (e338 : Ending) (w339
  : World) => ∃ (c340 : Bool), e338 = Ending.returned (Value.bool c340) ∧ ∃ (R341 : List Own), ∃ (Φ342 : PW), Stable Φ342 ∧ Ctx W w339 (R341 ++ R337) Φ342 ∧ Br (!c340) (∀ (w343 : World) (R344
  : List Own), Ctx W w343 (R341 ++ R344) Φ342 → J (Value.bool false) w343) (I64 (n279 + 1) ∧ ∃ (R345 : List Own), ∃ (Φ346 : PW), ∃ (k347 : Nat), Stable Φ346 ∧ (∀ (w348 : World) (R349 : List
  Own), Ctx W w348 (R341 ++ R349) Φ342 → Ctx W w348 (R345 ++ R349) Φ346) ∧ I273 (n279 + 1) R345 Φ346 k347 ∧ k347 < k282))) (I64 (n56 + 1) ∧ ∃ (R350 : List Own), ∃ (Φ351 : PW), ∃ (k352 : Nat),
  Stable Φ351 ∧ (∀ (w353 : World) (R354 : List Own), Ctx W w353 (R280 ++ R354) I281 → Ctx W w353 (R350 ++ R354) Φ351) ∧ I46 p237 k238 k239 (n55 + (↑k229 : Int)) (n56 + 1) R350 Φ351 k352 ∧
  k352 < k59))))) (Br c4 (∀ (w355 : World) (R356 : List Own), Ctx W w355 (R57 ++ R356) I58 → Calls Tryd.prog F.delta_Same #[Value.slice p52 k53 k54, Value.slice bP bN bC] w355 fun (e357 :
  Ending) (w358 : World) => ∃ (c359 : Bool), e357 = Ending.returned (Value.bool c359) ∧ ∃ (R360 : List Own), ∃ (Φ361 : PW), Stable Φ361 ∧ Ctx W w358 (R360 ++ R356) Φ361 ∧ Br c359 (∀ (w362 :
  World) (R363 : List Own), Ctx W w362 (R360 ++ R363) Φ361 → J (Value.bool (decide (n55 = (↑k32 : Int)))) w362) (∀ (w364 : World) (R365 : List Own), Ctx W w364 (R360 ++ R365) Φ361 → J
  (Value.bool false) w364)) (∀ (w366 : World) (R367 : List Own), Ctx W w366 (R57 ++ R367) I58 → J (Value.bool false) w366)))))

theorem Berratalaw42_DifferenceParts_run (aP : Option Addr) (aN aC : Nat) (bP : Option Addr) (bN bC : Nat) (orderP : Option Addr) (orderN orderC : Nat) {W w : World} {R : List Own} {Φ : PW} [Stable Φ] {J : Value → World → Prop} (c : Ctx W w R Φ) (h : Berratalaw42_DifferenceParts aP aN aC bP bN bC orderP orderN orderC W R Φ J) : Calls Tryd.prog F.erratalaw42_DifferenceParts #[.slice aP aN aC, .slice bP bN bC, .slice orderP orderN orderC] w fun e w' => ∃ v, e = .returned v ∧ J v w' :=
  vcFS_sound (H := { keep := some [0, 1, 2, 6, 7, 8, 9, 10, 11, 12, 13, 14, 15, 16, 17, 31, 43, 53, 62, 79, 89, 91, 98, 107], split := [2, 32], loops := [(25, [(16, .one (.int .i64))], []), (20, [(15, .one (.int .i64))], []), (9, [(9, .one (.slice)), (11, .one (.int .i64)), (12, .one (.int .i64))], [])] }) (by rw [show vcFS Tryd.prog W { keep := some [0, 1, 2, 6, 7, 8, 9, 10, 11, 12, 13, 14, 15, 16, 17, 31, 43, 53, 62, 79, 89, 91, 98, 107], split := [2, 32], loops := [(25, [(16, .one (.int .i64))], []), (20, [(15, .one (.int .i64))], []), (9, [(9, .one (.slice)), (11, .one (.int .i64)), (12, .one (.int .i64))], [])] } F.erratalaw42_DifferenceParts #[.slice aP aN aC, .slice bP bN bC, .slice orderP orderN orderC] R Φ J = Berratalaw42_DifferenceParts aP aN aC bP bN bC orderP orderN orderC W R Φ J by kernel_rfl]; exact h) c

/-- errataref28.Sub -/
-- loop at region 3: 5 l, 6 i; blocks 
def Berrataref28_Sub (aP : Option Addr) (aN aC : Nat) (bP : Option Addr) (bN bC : Nat) (W : World) (R : List Own) (Φ : PW) (J : Value → World → Prop) : Prop :=
  ∀ (k0 : Nat) (w1 : World) (R2 : List Own), Ctx W w1 (Own.blk k0 [] 39 :: R ++ R2) Φ → ∃ (p3 : Option Addr), ∃ (k4 : Nat), ∃ (k5 : Nat), ∃ (w6 : World), Sem.run Tryd.prog (builtin
  Builtin.append #[22, 22] 22 #[false, false] #[Value.slice (some (Addr.mk k0 0 none)) 0 0, Value.slice aP aN aC]) w1 = Result.ok (Next.value (Value.slice p3 k4 k5)) w6 ∧ ∃ (R7 : List Own), ∃
  (Φ8 : PW), Stable Φ8 ∧ Ctx W w6 (R7 ++ R2) Φ8 ∧ exI fun (I9 : Option Addr → Nat → Nat → Int → List Own → PW → Nat → Prop) => (∃ (R10 : List Own), ∃ (Φ11 : PW), ∃ (k12 : Nat), Stable Φ11 ∧
  (∀ (w13 : World) (R14 : List Own), Ctx W w13 (R7 ++ R14) Φ8 → Ctx W w13 (R10 ++ R14) Φ11) ∧ I9 p3 k4 k5 0 R10 Φ11 k12) ∧ ∀ (p15 : Option Addr) (k16 k17 : Nat) (n18 : Int) (R19 : List Own)
  (I20 : List Nat → World → Prop) (k21 : Nat), Stable I20 → I9 p15 k16 k17 n18 R19 I20 k21 → Br (decide (n18 < (↑bN : Int))) (∃ (R22 : List Own), ∃ (Φ23 : PW), Stable Φ23 ∧ (∀ (w24 : World)
  (R25 : List Own), Ctx W w24 (R19 ++ R25) I20 → Ctx W w24 (R22 ++ R25) Φ23) ∧ (0 ≤ n18 ∧ n18 < (↑bN : Int)) ∧ ptrK none bP fun (k26 k27 : Nat) => (0 ≤ n18 ∧ n18 < (↑bN : Int)) ∧ ptrK none bP
  fun (k28 k29 : Nat) => ∃ (n30 : Int), ∃ (p31 : Option Addr), ∃ (k32 : Nat), ∃ (k33 : Nat), ∃ (n34 : Int), (∀ (w35 : World) (R36 : List Own), Ctx W w35 (R22 ++ R36) Φ23 → ∃ (n37 : Int), ∃
  (p38 : Option Addr), ∃ (k39 : Nat), ∃ (k40 : Nat), ∃ (n41 : Int), RowAt w35 k26 (k27 + n18.toNat * 3) [Value.int IntKind.i64 n37, Value.slice p38 k39 k40, Value.int IntKind.i64 n41] ∧
  Value.agg #[Value.int IntKind.i64 n37, Value.slice p38 k39 k40, Value.int IntKind.i64 n41] = Value.agg #[Value.int IntKind.i64 n30, Value.slice p31 k32 k33, Value.int IntKind.i64 n34]) ∧ ∃
  (n42 : Int), (∀ (w43 : World) (R44 : List Own), Ctx W w43 (R22 ++ R44) Φ23 → ∃ (n45 : Int), w43.cell? (Addr.mk k28 (k29 + n18.toNat * 3 + 2) none) = some (Value.int IntKind.i64 n45) ∧
  Value.int IntKind.i64 n45 = Value.int IntKind.i64 n42) ∧ ∀ (w46 : World) (R47 : List Own), Ctx W w46 (R19 ++ R47) I20 → Calls Tryd.prog F.errataref28_clone #[Value.agg #[Value.int
  IntKind.i64 n30, Value.slice p31 k32 k33, Value.int IntKind.i64 n34], Value.int IntKind.i64 (IntKind.i64.wrap (0 - n42))] w46 fun (e48 : Ending) (w49 : World) => ∃ (n50 : Int), ∃ (p51 :
  Option Addr), ∃ (k52 : Nat), ∃ (k53 : Nat), ∃ (n54 : Int), e48 = Ending.returned (Value.agg #[Value.int IntKind.i64 n50, Value.slice p51 k52 k53, Value.int IntKind.i64 n54]) ∧ ∃ (R55 : List
  Own), ∃ (Φ56 : PW), Stable Φ56 ∧ Ctx W w49 (R55 ++ R47) Φ56 ∧ (∀ (w57 : World) (R58 : List Own), Ctx W w57 (R55 ++ R58) Φ56 → Ctx W w57 (R22 ++ R58) Φ23) ∧ ∀ (k59 : Nat), (∀ (w60 : World)
  (R61 : List Own), Ctx W w60 (Own.blk k59 [Value.int IntKind.i64 n50, Value.slice p51 k52 k53, Value.int IntKind.i64 n54] 39 :: R55 ++ R61) Φ56 → Ctx W w60 (R22 ++ R61) Φ23) ∧ ∀ (w62 :
  World) (R63 : List Own), Ctx W w62 (Own.blk k59 [Value.int IntKind.i64 n50, Value.slice p51 k52 k53, Value.int IntKind.i64 n54] 39 :: R55 ++ R63) Φ56 → ∃ (p64 : Option Addr), ∃ (k65 : Nat),
  ∃ (k66 : Nat), ∃ (w67 : World), Sem.run Tryd.prog (builtin Builtin.append #[22, 22] 22 #[false, false] #[Value.slice p15 k16 k17, Value.slice (some (Addr.mk k59 0 none)) 1 1]) w62 =
  Result.ok (Next.value (Value.slice p64 k65 k66)) w67 ∧ ∃ (R68 : List Own), ∃ (Φ69 : PW), Stable Φ69 ∧ Ctx W w67 (R68 ++ R63) Φ69 ∧ I64 (n18 + 1) ∧ ∃ (R70 : List Own), ∃ (Φ71 : PW), ∃ (k72 :
  Nat), Stable Φ71 ∧ (∀ (w73 : World) (R74 : List Own), Ctx W w73 (R68 ++ R74) Φ69 → Ctx W w73 (R70 ++ R74) Φ71) ∧ I9 p64 k65 k66 (n18 + 1) R70 Φ71 k72 ∧ k72 < k21) (∀ (w75 : World) (R76 :
  List Own), Ctx W w75 (R19 ++ R76) I20 → Calls Tryd.prog F.errataref28_Consolidate #[Value.slice p15 k16 k17] w75 fun (e77 : Ending) (w78 : World) => ∃ (p79 : Option Addr), ∃ (k80 : Nat), ∃
  (k81 : Nat), e77 = Ending.returned (Value.slice p79 k80 k81) ∧ ∃ (R82 : List Own), ∃ (Φ83 : PW), Stable Φ83 ∧ Ctx W w78 (R82 ++ R76) Φ83 ∧ ∀ (w84 : World) (R85 : List Own), Ctx W w84 (R82
  ++ R85) Φ83 → J (Value.slice p79 k80 k81) w84)

/-- difference.Split -/
-- loop at region 3: 10 ; blocks 
-- known blocks: 5 x
def Bdifference_Split (dP : Option Addr) (dN dC : Nat) (W : World) (R : List Own) (Φ : PW) (J : Value → World → Prop) : Prop :=
  ∀ (k0 : Nat) (w1 : World) (R2 : List Own), Ctx W w1 (Own.blk k0 [Value.slice none 0 0, Value.slice none 0 0, Value.slice none 0 0, Value.slice none 0 0, Value.slice none 0 0, Value.slice
  none 0 0, Value.slice none 0 0, Value.slice none 0 0, Value.slice none 0 0, Value.slice none 0 0, Value.slice none 0 0, Value.slice none 0 0, Value.slice none 0 0, Value.slice none 0 0,
  Value.slice none 0 0, Value.slice none 0 0] 63 :: R ++ R2) Φ → Calls Tryd.prog F.delta_Consolidate #[Value.slice dP dN dC] w1 fun (e3 : Ending) (w4 : World) => ∃ (p5 : Option Addr), ∃ (k6 :
  Nat), ∃ (k7 : Nat), e3 = Ending.returned (Value.slice p5 k6 k7) ∧ ∃ (R8 : List Own), ∃ (Φ9 : PW), Stable Φ9 ∧ Ctx W w4 (R8 ++ R2) Φ9 ∧ exI fun (I10 : Int → List Own → PW → Nat → Prop) => (∃
  (R11 : List Own), ∃ (Φ12 : PW), ∃ (k13 : Nat), Stable Φ12 ∧ (∀ (w14 : World) (R15 : List Own), Ctx W w14 (R8 ++ R15) Φ9 → Ctx W w14 (R11 ++ R15) Φ12) ∧ I10 0 R11 Φ12 k13) ∧ ∀ (n16 : Int)
  (R17 : List Own) (I18 : List Nat → World → Prop) (k19 : Nat), Stable I18 → I10 n16 R17 I18 k19 → Br (decide (n16 < (↑k6 : Int))) ((0 ≤ n16 ∧ n16 < (↑k6 : Int)) ∧ ptrK none p5 fun (k20 k21 :
  Nat) => ∀ (w22 : World) (R23 : List Own), Ctx W w22 (R17 ++ R23) I18 → ∃ (n24 : Int), ∃ (p25 : Option Addr), ∃ (k26 : Nat), ∃ (k27 : Nat), ∃ (n28 : Int), RowAt w22 k20 (k21 + n16.toNat * 3)
  [Value.int IntKind.i64 n24, Value.slice p25 k26 k27, Value.int IntKind.i64 n28] ∧ ∀ (b : Nat) (w29 : World) (R30 : List Own), Ctx W w29 (R17 ++ R30) I18 → Calls Tryd.prog F.place_Bucket
  #[Value.slice p25 k26 k27] w29 fun (e31 : Ending) (w32 : World) => ∃ (n33 : Int), e31 = Ending.returned (Value.int IntKind.i64 n33) ∧ ∃ (R34 : List Own), ∃ (Φ35 : PW), Stable Φ35 ∧ Ctx W
  w32 (R34 ++ R30) Φ35 ∧ ∃ (R36 : List Own), ∃ (Φ37 : PW), Stable Φ37 ∧ (∀ (w38 : World) (R39 : List Own), Ctx W w38 (R34 ++ R39) Φ35 → Ctx W w38 (R36 ++ R39) Φ37) ∧ (0 ≤ n33 ∧ n33 < 16) ∧ ∃
  (p40 : Option Addr), ∃ (k41 : Nat), ∃ (k42 : Nat), (∀ (w43 : World) (R44 : List Own), Ctx W w43 (R36 ++ R44) Φ37 → ∃ (p45 : Option Addr), ∃ (k46 : Nat), ∃ (k47 : Nat), w43.cell? (Addr.mk k0
  (0 + n33.toNat) none) = some (Value.slice p45 k46 k47) ∧ Value.slice p45 k46 k47 = Value.slice p40 k41 k42) ∧ ∀ (k48 : Nat), (∀ (w49 : World) (R50 : List Own), Ctx W w49 (Own.blk k48
  [Value.int IntKind.i64 n24, Value.slice p25 k26 k27, Value.int IntKind.i64 n28] 39 :: R34 ++ R50) Φ35 → Ctx W w49 (R36 ++ R50) Φ37) ∧ ∀ (w51 : World) (R52 : List Own), Ctx W w51 (Own.blk
  k48 [Value.int IntKind.i64 n24, Value.slice p25 k26 k27, Value.int IntKind.i64 n28] 39 :: R34 ++ R52) Φ35 → ∃ (p53 : Option Addr), ∃ (k54 : Nat), ∃ (k55 : Nat), ∃ (w56 : World), Sem.run
  Tryd.prog (builtin Builtin.append #[22, 22] 22 #[false, false] #[Value.slice p40 k41 k42, Value.slice (some (Addr.mk k48 0 none)) 1 1]) w51 = Result.ok (Next.value (Value.slice p53 k54
  k55)) w56 ∧ ∃ (R57 : List Own), ∃ (Φ58 : PW), Stable Φ58 ∧ Ctx W w56 (R57 ++ R52) Φ58 ∧ (∀ (w59 : World) (R60 : List Own), Ctx W w59 (R57 ++ R60) Φ58 → Ctx W w59 (R36 ++ R60) Φ37) ∧ (0 ≤
  n33 ∧ n33 < 16) ∧ ∀ (w61 : World) (R62 : List Own), Ctx W w61 (R57 ++ R62) Φ58 → CanWrite w61 k0 (0 + n33.toNat) 1 ∧ ∀ (w63 : World), w63 = w61.setCell (Addr.mk k0 (0 + n33.toNat) none)
  (Value.slice p53 k54 k55) → ∃ (R64 : List Own), ∃ (Φ65 : PW), Stable Φ65 ∧ Ctx W w63 (R64 ++ R62) Φ65 ∧ I64 (n16 + 1) ∧ ∃ (R66 : List Own), ∃ (Φ67 : PW), ∃ (k68 : Nat), Stable Φ67 ∧ (∀ (w69
  : World) (R70 : List Own), Ctx W w69 (R64 ++ R70) Φ65 → Ctx W w69 (R66 ++ R70) Φ67) ∧ I10 (n16 + 1) R66 Φ67 k68 ∧ k68 < k19) (Nat.le 16 16 ∧ ∀ (w71 : World) (R72 : List Own), Ctx W w71 (R17
  ++ R72) I18 → J (Value.slice (subPtr (some (Addr.mk k0 0 none)) 1 0 16) 16 16) w71)

theorem Bdifference_Split_run (dP : Option Addr) (dN dC : Nat) {W w : World} {R : List Own} {Φ : PW} [Stable Φ] {J : Value → World → Prop} (c : Ctx W w R Φ) (h : Bdifference_Split dP dN dC W R Φ J) : Calls Tryd.prog F.difference_Split #[.slice dP dN dC] w fun e w' => ∃ v, e = .returned v ∧ J v w' :=
  vcFS_sound (H := { keep := some [0, 2, 3, 5, 6, 8, 9, 10, 11], track := [5], stages := [(6, [.held [(0, true), (1, true), (4, true), (2, true), (3, true), (5, false), (6, false)], .stage [7] (some 8)])], loops := [(3, [(10, .one (.int .i64))], [])] }) (by rw [show vcFS Tryd.prog W { keep := some [0, 2, 3, 5, 6, 8, 9, 10, 11], track := [5], stages := [(6, [.held [(0, true), (1, true), (4, true), (2, true), (3, true), (5, false), (6, false)], .stage [7] (some 8)])], loops := [(3, [(10, .one (.int .i64))], [])] } F.difference_Split #[.slice dP dN dC] R Φ J = Bdifference_Split dP dN dC W R Φ J by kernel_rfl]; exact h) c

/-- difference.Part -/
-- loop at region 2: 6 ; blocks 
def Bdifference_Part (dP : Option Addr) (dN dC : Nat) (bucket : Int) (W : World) (R : List Own) (Φ : PW) (J : Value → World → Prop) : Prop :=
  exI fun (I0 : Int → List Own → PW → Nat → Prop) => (∃ (R1 : List Own), ∃ (Φ2 : PW), ∃ (k3 : Nat), Stable Φ2 ∧ (∀ (w4 : World) (R5 : List Own), Ctx W w4 (R ++ R5) Φ → Ctx W w4 (R1 ++ R5) Φ2)
  ∧ I0 0 R1 Φ2 k3) ∧ ∀ (n6 : Int) (R7 : List Own) (I8 : List Nat → World → Prop) (k9 : Nat), Stable I8 → I0 n6 R7 I8 k9 → Br (decide (n6 < 16)) (Br (decide (n6 = bucket)) (∀ (w10 : World)
  (R11 : List Own), Ctx W w10 (R7 ++ R11) I8 → Calls Tryd.prog F.difference_Split #[Value.slice dP dN dC] w10 fun (e12 : Ending) (w13 : World) => ∃ (p14 : Option Addr), ∃ (k15 : Nat), ∃ (k16
  : Nat), e12 = Ending.returned (Value.slice p14 k15 k16) ∧ ∃ (R17 : List Own), ∃ (Φ18 : PW), Stable Φ18 ∧ Ctx W w13 (R17 ++ R11) Φ18 ∧ (0 ≤ n6 ∧ n6 < (↑k15 : Int)) ∧ ptrK none p14 fun (k19
  k20 : Nat) => ∀ (w21 : World) (R22 : List Own), Ctx W w21 (R17 ++ R22) Φ18 → ∃ (p23 : Option Addr), ∃ (k24 : Nat), ∃ (k25 : Nat), w21.cell? (Addr.mk k19 (k20 + n6.toNat) none) = some
  (Value.slice p23 k24 k25) ∧ ∀ (w26 : World) (R27 : List Own), Ctx W w26 (R17 ++ R27) Φ18 → J (Value.slice p23 k24 k25) w26) (I64 (n6 + 1) ∧ ∃ (R28 : List Own), ∃ (Φ29 : PW), ∃ (k30 : Nat),
  Stable Φ29 ∧ (∀ (w31 : World) (R32 : List Own), Ctx W w31 (R7 ++ R32) I8 → Ctx W w31 (R28 ++ R32) Φ29) ∧ I0 (n6 + 1) R28 Φ29 k30 ∧ k30 < k9)) (∀ (w33 : World) (R34 : List Own), Ctx W w33
  (R7 ++ R34) I8 → J (Value.slice none 0 0) w33)

theorem Bdifference_Part_run (dP : Option Addr) (dN dC : Nat) (bucket : Int) {W w : World} {R : List Own} {Φ : PW} [Stable Φ] {J : Value → World → Prop} (c : Ctx W w R Φ) (h : Bdifference_Part dP dN dC bucket W R Φ J) : Calls Tryd.prog F.difference_Part #[.slice dP dN dC, .int .i64 bucket] w fun e w' => ∃ v, e = .returned v ∧ J v w' :=
  vcFS_sound (H := { keep := some [0, 1, 4, 5, 6, 7, 11], loops := [(2, [(6, .one (.int .i64))], [])] }) (by rw [show vcFS Tryd.prog W { keep := some [0, 1, 4, 5, 6, 7, 11], loops := [(2, [(6, .one (.int .i64))], [])] } F.difference_Part #[.slice dP dN dC, .int .i64 bucket] R Φ J = Bdifference_Part dP dN dC bucket W R Φ J by kernel_rfl]; exact h) c

/-- errataref28.Consolidate -/
-- loop at region 7: 6 n, 7 k; blocks 
-- loop at region 4: 4 out, 5 i; blocks 
def Berrataref28_Consolidate (lP : Option Addr) (lN lC : Nat) (W : World) (R : List Own) (Φ : PW) (J : Value → World → Prop) : Prop :=
  ∀ (w0 : World) (R1 : List Own), Ctx W w0 (R ++ R1) Φ → Calls Tryd.prog F.errataref28_sorted #[Value.slice lP lN lC] w0 fun (e2 : Ending) (w3 : World) => ∃ (p4 : Option Addr), ∃ (k5 : Nat),
  ∃ (k6 : Nat), e2 = Ending.returned (Value.slice p4 k5 k6) ∧ ∃ (R7 : List Own), ∃ (Φ8 : PW), Stable Φ8 ∧ Ctx W w3 (R7 ++ R1) Φ8 ∧ exI fun (I9 : Option Addr → Nat → Nat → Int → List Own → PW
  → Nat → Prop) => (∃ (R10 : List Own), ∃ (Φ11 : PW), ∃ (k12 : Nat), Stable Φ11 ∧ (∀ (w13 : World) (R14 : List Own), Ctx W w13 (R7 ++ R14) Φ8 → Ctx W w13 (R10 ++ R14) Φ11) ∧ I9 none 0 0 0 R10
  Φ11 k12) ∧ ∀ (p15 : Option Addr) (k16 k17 : Nat) (n18 : Int) (R19 : List Own) (I20 : List Nat → World → Prop) (k21 : Nat), Stable I20 → I9 p15 k16 k17 n18 R19 I20 k21 → Br (decide (n18 <
  (↑k5 : Int))) (exI fun (I22 : Int → Int → List Own → PW → Nat → Prop) => (∃ (R23 : List Own), ∃ (Φ24 : PW), ∃ (k25 : Nat), Stable Φ24 ∧ (∀ (w26 : World) (R27 : List Own), Ctx W w26 (R19 ++
  R27) I20 → Ctx W w26 (R23 ++ R27) Φ24) ∧ I22 0 n18 R23 Φ24 k25) ∧ ∀ (n28 n29 : Int) (R30 : List Own) (I31 : List Nat → World → Prop) (k32 : Nat), Stable I31 → I22 n28 n29 R30 I31 k32 → ∃
  (R33 : List Own), ∃ (Φ34 : PW), Stable Φ34 ∧ (∀ (w35 : World) (R36 : List Own), Ctx W w35 (R30 ++ R36) I31 → Ctx W w35 (R33 ++ R36) Φ34) ∧ Br (decide (n29 < (↑k5 : Int))) ((0 ≤ n18 ∧ n18 <
  (↑k5 : Int)) ∧ ptrK none p4 fun (k37 k38 : Nat) => ∃ (n39 : Int), ∃ (p40 : Option Addr), ∃ (k41 : Nat), ∃ (k42 : Nat), ∃ (n43 : Int), (∀ (w44 : World) (R45 : List Own), Ctx W w44 (R33 ++
  R45) Φ34 → ∃ (n46 : Int), ∃ (p47 : Option Addr), ∃ (k48 : Nat), ∃ (k49 : Nat), ∃ (n50 : Int), RowAt w44 k37 (k38 + n18.toNat * 3) [Value.int IntKind.i64 n46, Value.slice p47 k48 k49,
  Value.int IntKind.i64 n50] ∧ Value.agg #[Value.int IntKind.i64 n46, Value.slice p47 k48 k49, Value.int IntKind.i64 n50] = Value.agg #[Value.int IntKind.i64 n39, Value.slice p40 k41 k42,
  Value.int IntKind.i64 n43]) ∧ I64 ((↑k5 : Int) - 1) ∧ (0 ≤ min n29 ((↑k5 : Int) - 1) ∧ min n29 ((↑k5 : Int) - 1) < (↑k5 : Int)) ∧ ptrK none p4 fun (k51 k52 : Nat) => ∃ (n53 : Int), ∃ (p54 :
  Option Addr), ∃ (k55 : Nat), ∃ (k56 : Nat), ∃ (n57 : Int), (∀ (w58 : World) (R59 : List Own), Ctx W w58 (R33 ++ R59) Φ34 → ∃ (n60 : Int), ∃ (p61 : Option Addr), ∃ (k62 : Nat), ∃ (k63 :
  Nat), ∃ (n64 : Int), RowAt w58 k51 (k52 + (min n29 ((↑k5 : Int) - 1)).toNat * 3) [Value.int IntKind.i64 n60, Value.slice p61 k62 k63, Value.int IntKind.i64 n64] ∧ Value.agg #[Value.int
  IntKind.i64 n60, Value.slice p61 k62 k63, Value.int IntKind.i64 n64] = Value.agg #[Value.int IntKind.i64 n53, Value.slice p54 k55 k56, Value.int IntKind.i64 n57]) ∧ ∀ (w65 : World) (R66 :
  List Own), Ctx W w65 (R30 ++ R66) I31 → Calls Tryd.prog F.errataref28_Compare #[Value.agg #[Value.int IntKind.i64 n39, Value.slice p40 k41 k42, Value.int IntKind.i64 n43], Value.agg
  #[Value.int IntKind.i64 n53, Value.slice p54 k55 k56, Value.int IntKind.i64 n57]] w65 fun (e67 : Ending) (w68 : World) => ∃ (n69 : Int), e67 = Ending.returned (Value.int IntKind.i64 n69) ∧
  ∃ (R70 : List Own), ∃ (Φ71 : PW), Stable Φ71 ∧ Ctx W w68 (R70 ++ R66) Φ71 ∧ Br (decide (n69 = 0)) ((0 ≤ n29 ∧ n29 < (↑k5 : Int)) ∧ ptrK none p4 fun (k72 k73 : Nat) => ∀ (w74 : World) (R75 :
  List Own), Ctx W w74 (R70 ++ R75) Φ71 → ∃ (n76 : Int), w74.cell? (Addr.mk k72 (k73 + n29.toNat * 3 + 2) none) = some (Value.int IntKind.i64 n76) ∧ I64 (n29 + 1) ∧ ∃ (R77 : List Own), ∃ (Φ78
  : PW), ∃ (k79 : Nat), Stable Φ78 ∧ (∀ (w80 : World) (R81 : List Own), Ctx W w80 (R70 ++ R81) Φ71 → Ctx W w80 (R77 ++ R81) Φ78) ∧ I22 (IntKind.i64.wrap (n28 + n76)) (n29 + 1) R77 Φ78 k79 ∧
  k79 < k32) (Br (decide (n28 ≠ 0)) ((0 ≤ n18 ∧ n18 < (↑k5 : Int)) ∧ ptrK none p4 fun (k82 k83 : Nat) => ∀ (w84 : World) (R85 : List Own), Ctx W w84 (R70 ++ R85) Φ71 → ∃ (n86 : Int), ∃ (p87 :
  Option Addr), ∃ (k88 : Nat), ∃ (k89 : Nat), ∃ (n90 : Int), RowAt w84 k82 (k83 + n18.toNat * 3) [Value.int IntKind.i64 n86, Value.slice p87 k88 k89, Value.int IntKind.i64 n90] ∧ ∀ (w91 :
  World) (R92 : List Own), Ctx W w91 (R70 ++ R92) Φ71 → Calls Tryd.prog F.errataref28_clone #[Value.agg #[Value.int IntKind.i64 n86, Value.slice p87 k88 k89, Value.int IntKind.i64 n90],
  Value.int IntKind.i64 n28] w91 fun (e93 : Ending) (w94 : World) => ∃ (n95 : Int), ∃ (p96 : Option Addr), ∃ (k97 : Nat), ∃ (k98 : Nat), ∃ (n99 : Int), e93 = Ending.returned (Value.agg
  #[Value.int IntKind.i64 n95, Value.slice p96 k97 k98, Value.int IntKind.i64 n99]) ∧ ∃ (R100 : List Own), ∃ (Φ101 : PW), Stable Φ101 ∧ Ctx W w94 (R100 ++ R92) Φ101 ∧ ∀ (k102 : Nat) (w103 :
  World) (R104 : List Own), Ctx W w103 (Own.blk k102 [Value.int IntKind.i64 n95, Value.slice p96 k97 k98, Value.int IntKind.i64 n99] 39 :: R100 ++ R104) Φ101 → ∃ (p105 : Option Addr), ∃ (k106
  : Nat), ∃ (k107 : Nat), ∃ (w108 : World), Sem.run Tryd.prog (builtin Builtin.append #[22, 22] 22 #[false, false] #[Value.slice p15 k16 k17, Value.slice (some (Addr.mk k102 0 none)) 1 1])
  w103 = Result.ok (Next.value (Value.slice p105 k106 k107)) w108 ∧ ∃ (R109 : List Own), ∃ (Φ110 : PW), Stable Φ110 ∧ Ctx W w108 (R109 ++ R104) Φ110 ∧ ∃ (R111 : List Own), ∃ (Φ112 : PW), ∃
  (k113 : Nat), Stable Φ112 ∧ (∀ (w114 : World) (R115 : List Own), Ctx W w114 (R109 ++ R115) Φ110 → Ctx W w114 (R111 ++ R115) Φ112) ∧ I9 p105 k106 k107 n29 R111 Φ112 k113 ∧ k113 < k21) (∃
  (R116 : List Own), ∃ (Φ117 : PW), ∃ (k118 : Nat), Stable Φ117 ∧ (∀ (w119 : World) (R120 : List Own), Ctx W w119 (R70 ++ R120) Φ71 → Ctx W w119 (R116 ++ R120) Φ117) ∧ I9 p15 k16 k17 n29 R116
  Φ117 k118 ∧ k118 < k21))) (Br (decide (n28 ≠ 0)) ((0 ≤ n18 ∧ n18 < (↑k5 : Int)) ∧ ptrK none p4 fun (k121 k122 : Nat) => ∀ (w123 : World) (R124 : List Own), Ctx W w123 (R30 ++ R124) I31 → ∃
  (n125 : Int), ∃ (p126 : Option Addr), ∃ (k127 : Nat), ∃ (k128 : Nat), ∃ (n129 : Int), RowAt w123 k121 (k122 + n18.toNat * 3) [Value.int IntKind.i64 n125, Value.slice p126 k127 k128,
  Value.int IntKind.i64 n129] ∧ ∀ (w130 : World) (R131 : List Own), Ctx W w130 (R30 ++ R131) I31 → Calls Tryd.prog F.errataref28_clone #[Value.agg #[Value.int IntKind.i64 n125, Value.slice
  p126 k127 k128, Value.int IntKind.i64 n129], Value.int IntKind.i64 n28] w130 fun (e132 : Ending) (w133 : World) => ∃ (n134 : Int), ∃ (p135 : Option Addr), ∃ (k136 : Nat), ∃ (k137 : Nat), ∃
  (n138 : Int), e132 = Ending.returned (Value.agg #[Value.int IntKind.i64 n134, Value.slice p135 k136 k137, Value.int IntKind.i64 n138]) ∧ ∃ (R139 : List Own), ∃ (Φ140 : PW), Stable Φ140 ∧
  Ctx W w133 (R139 ++ R131) Φ140 ∧ ∀ (k141 : Nat) (w142 : World) (R143 : List Own), Ctx W w142 (Own.blk k141 [Value.int IntKind.i64 n134, Value.slice p135 k136 k137, Value.int IntKind.i64
  n138] 39 :: R139 ++ R143) Φ140 → ∃ (p144 : Option Addr), ∃ (k145 : Nat), ∃ (k146 : Nat), ∃ (w147 : World), Sem.run Tryd.prog (builtin Builtin.append #[22, 22] 22 #[false, false]
  #[Value.slice p15 k16 k17, Value.slice (some (Addr.mk k141 0 none)) 1 1]) w142 = Result.ok (Next.value (Value.slice p144 k145 k146)) w147 ∧ ∃ (R148 : List Own), ∃ (Φ149 : PW), Stable Φ149 ∧
  Ctx W w147 (R148 ++ R143) Φ149 ∧ ∃ (R150 : List Own), ∃ (Φ151 : PW), ∃ (k152 : Nat), Stable Φ151 ∧ (∀ (w153 : World) (R154 : List Own), Ctx W w153 (R148 ++ R154) Φ149 → Ctx W w153 (R150 ++
  R154) Φ151) ∧ I9 p144 k145 k146 n29 R150 Φ151 k152 ∧ k152 < k21) (∃ (R155 : List Own), ∃ (Φ156 : PW), ∃ (k157 : Nat), Stable Φ156 ∧ (∀ (w158 : World) (R159 : List Own), Ctx W w158 (R30 ++
  R159) I31 → Ctx W w158 (R155 ++ R159) Φ156) ∧ I9 p15 k16 k17 n29 R155 Φ156 k157 ∧ k157 < k21))) (∀ (w160 : World) (R161 : List Own), Ctx W w160 (R19 ++ R161) I20 → J (Value.slice p15 k16
  k17) w160)

/-- errataref28.Add -/
def Berrataref28_Add (aP : Option Addr) (aN aC : Nat) (bP : Option Addr) (bN bC : Nat) (W : World) (R : List Own) (Φ : PW) (J : Value → World → Prop) : Prop :=
  ∀ (k0 : Nat) (w1 : World) (R2 : List Own), Ctx W w1 (Own.blk k0 [] 39 :: R ++ R2) Φ → ∃ (p3 : Option Addr), ∃ (k4 : Nat), ∃ (k5 : Nat), ∃ (w6 : World), Sem.run Tryd.prog (builtin
  Builtin.append #[22, 22] 22 #[false, false] #[Value.slice (some (Addr.mk k0 0 none)) 0 0, Value.slice aP aN aC]) w1 = Result.ok (Next.value (Value.slice p3 k4 k5)) w6 ∧ ∃ (R7 : List Own), ∃
  (Φ8 : PW), Stable Φ8 ∧ Ctx W w6 (R7 ++ R2) Φ8 ∧ ∀ (w9 : World) (R10 : List Own), Ctx W w9 (R7 ++ R10) Φ8 → ∃ (p11 : Option Addr), ∃ (k12 : Nat), ∃ (k13 : Nat), ∃ (w14 : World), Sem.run
  Tryd.prog (builtin Builtin.append #[22, 22] 22 #[false, false] #[Value.slice p3 k4 k5, Value.slice bP bN bC]) w9 = Result.ok (Next.value (Value.slice p11 k12 k13)) w14 ∧ ∃ (R15 : List Own),
  ∃ (Φ16 : PW), Stable Φ16 ∧ Ctx W w14 (R15 ++ R10) Φ16 ∧ ∀ (w17 : World) (R18 : List Own), Ctx W w17 (R15 ++ R18) Φ16 → Calls Tryd.prog F.errataref28_Consolidate #[Value.slice p11 k12 k13]
  w17 fun (e19 : Ending) (w20 : World) => ∃ (p21 : Option Addr), ∃ (k22 : Nat), ∃ (k23 : Nat), e19 = Ending.returned (Value.slice p21 k22 k23) ∧ ∃ (R24 : List Own), ∃ (Φ25 : PW), Stable Φ25 ∧
  Ctx W w20 (R24 ++ R18) Φ25 ∧ ∀ (w26 : World) (R27 : List Own), Ctx W w26 (R24 ++ R27) Φ25 → J (Value.slice p21 k22 k23) w26

/-- errataref28.Upto -/
-- loop at region 3: 5 out, 6 i; blocks 
def Berrataref28_Upto (lP : Option Addr) (lN lC : Nat) (t : Int) (W : World) (R : List Own) (Φ : PW) (J : Value → World → Prop) : Prop :=
  exI fun (I0 : Option Addr → Nat → Nat → Int → List Own → PW → Nat → Prop) => (∃ (R1 : List Own), ∃ (Φ2 : PW), ∃ (k3 : Nat), Stable Φ2 ∧ (∀ (w4 : World) (R5 : List Own), Ctx W w4 (R ++ R5) Φ
  → Ctx W w4 (R1 ++ R5) Φ2) ∧ I0 none 0 0 0 R1 Φ2 k3) ∧ ∀ (p6 : Option Addr) (k7 k8 : Nat) (n9 : Int) (R10 : List Own) (I11 : List Nat → World → Prop) (k12 : Nat), Stable I11 → I0 p6 k7 k8 n9
  R10 I11 k12 → Br (decide (n9 < (↑lN : Int))) ((0 ≤ n9 ∧ n9 < (↑lN : Int)) ∧ ptrK none lP fun (k13 k14 : Nat) => ∀ (w15 : World) (R16 : List Own), Ctx W w15 (R10 ++ R16) I11 → ∃ (n17 : Int),
  w15.cell? (Addr.mk k13 (k14 + n9.toNat * 3) none) = some (Value.int IntKind.i64 n17) ∧ Br (decide (n17 ≤ t)) ((0 ≤ n9 ∧ n9 < (↑lN : Int)) ∧ ptrK none lP fun (k18 k19 : Nat) => ∀ (w20 :
  World) (R21 : List Own), Ctx W w20 (R10 ++ R21) I11 → ∃ (n22 : Int), ∃ (p23 : Option Addr), ∃ (k24 : Nat), ∃ (k25 : Nat), ∃ (n26 : Int), RowAt w20 k18 (k19 + n9.toNat * 3) [Value.int
  IntKind.i64 n22, Value.slice p23 k24 k25, Value.int IntKind.i64 n26] ∧ ∀ (k27 : Nat) (w28 : World) (R29 : List Own), Ctx W w28 (Own.blk k27 [Value.int IntKind.i64 n22, Value.slice p23 k24
  k25, Value.int IntKind.i64 n26] 39 :: R10 ++ R29) I11 → ∃ (p30 : Option Addr), ∃ (k31 : Nat), ∃ (k32 : Nat), ∃ (w33 : World), Sem.run Tryd.prog (builtin Builtin.append #[22, 22] 22 #[false,
  false] #[Value.slice p6 k7 k8, Value.slice (some (Addr.mk k27 0 none)) 1 1]) w28 = Result.ok (Next.value (Value.slice p30 k31 k32)) w33 ∧ ∃ (R34 : List Own), ∃ (Φ35 : PW), Stable Φ35 ∧ Ctx
  W w33 (R34 ++ R29) Φ35 ∧ I64 (n9 + 1) ∧ ∃ (R36 : List Own), ∃ (Φ37 : PW), ∃ (k38 : Nat), Stable Φ37 ∧ (∀ (w39 : World) (R40 : List Own), Ctx W w39 (R34 ++ R40) Φ35 → Ctx W w39 (R36 ++ R40)
  Φ37) ∧ I0 p30 k31 k32 (n9 + 1) R36 Φ37 k38 ∧ k38 < k12) (I64 (n9 + 1) ∧ ∃ (R41 : List Own), ∃ (Φ42 : PW), ∃ (k43 : Nat), Stable Φ42 ∧ (∀ (w44 : World) (R45 : List Own), Ctx W w44 (R10 ++
  R45) I11 → Ctx W w44 (R41 ++ R45) Φ42) ∧ I0 p6 k7 k8 (n9 + 1) R41 Φ42 k43 ∧ k43 < k12)) (∀ (w46 : World) (R47 : List Own), Ctx W w46 (R10 ++ R47) I11 → Calls Tryd.prog
  F.errataref28_Consolidate #[Value.slice p6 k7 k8] w46 fun (e48 : Ending) (w49 : World) => ∃ (p50 : Option Addr), ∃ (k51 : Nat), ∃ (k52 : Nat), e48 = Ending.returned (Value.slice p50 k51
  k52) ∧ ∃ (R53 : List Own), ∃ (Φ54 : PW), Stable Φ54 ∧ Ctx W w49 (R53 ++ R47) Φ54 ∧ ∀ (w55 : World) (R56 : List Own), Ctx W w55 (R53 ++ R56) Φ54 → J (Value.slice p50 k51 k52) w55)

/-- errataref28.After -/
-- loop at region 3: 5 out, 6 i; blocks 
def Berrataref28_After (lP : Option Addr) (lN lC : Nat) (t : Int) (W : World) (R : List Own) (Φ : PW) (J : Value → World → Prop) : Prop :=
  exI fun (I0 : Option Addr → Nat → Nat → Int → List Own → PW → Nat → Prop) => (∃ (R1 : List Own), ∃ (Φ2 : PW), ∃ (k3 : Nat), Stable Φ2 ∧ (∀ (w4 : World) (R5 : List Own), Ctx W w4 (R ++ R5) Φ
  → Ctx W w4 (R1 ++ R5) Φ2) ∧ I0 none 0 0 0 R1 Φ2 k3) ∧ ∀ (p6 : Option Addr) (k7 k8 : Nat) (n9 : Int) (R10 : List Own) (I11 : List Nat → World → Prop) (k12 : Nat), Stable I11 → I0 p6 k7 k8 n9
  R10 I11 k12 → Br (decide (n9 < (↑lN : Int))) ((0 ≤ n9 ∧ n9 < (↑lN : Int)) ∧ ptrK none lP fun (k13 k14 : Nat) => ∀ (w15 : World) (R16 : List Own), Ctx W w15 (R10 ++ R16) I11 → ∃ (n17 : Int),
  w15.cell? (Addr.mk k13 (k14 + n9.toNat * 3) none) = some (Value.int IntKind.i64 n17) ∧ Br (decide (t < n17)) ((0 ≤ n9 ∧ n9 < (↑lN : Int)) ∧ ptrK none lP fun (k18 k19 : Nat) => ∀ (w20 :
  World) (R21 : List Own), Ctx W w20 (R10 ++ R21) I11 → ∃ (n22 : Int), ∃ (p23 : Option Addr), ∃ (k24 : Nat), ∃ (k25 : Nat), ∃ (n26 : Int), RowAt w20 k18 (k19 + n9.toNat * 3) [Value.int
  IntKind.i64 n22, Value.slice p23 k24 k25, Value.int IntKind.i64 n26] ∧ ∀ (k27 : Nat) (w28 : World) (R29 : List Own), Ctx W w28 (Own.blk k27 [Value.int IntKind.i64 n22, Value.slice p23 k24
  k25, Value.int IntKind.i64 n26] 39 :: R10 ++ R29) I11 → ∃ (p30 : Option Addr), ∃ (k31 : Nat), ∃ (k32 : Nat), ∃ (w33 : World), Sem.run Tryd.prog (builtin Builtin.append #[22, 22] 22 #[false,
  false] #[Value.slice p6 k7 k8, Value.slice (some (Addr.mk k27 0 none)) 1 1]) w28 = Result.ok (Next.value (Value.slice p30 k31 k32)) w33 ∧ ∃ (R34 : List Own), ∃ (Φ35 : PW), Stable Φ35 ∧ Ctx
  W w33 (R34 ++ R29) Φ35 ∧ I64 (n9 + 1) ∧ ∃ (R36 : List Own), ∃ (Φ37 : PW), ∃ (k38 : Nat), Stable Φ37 ∧ (∀ (w39 : World) (R40 : List Own), Ctx W w39 (R34 ++ R40) Φ35 → Ctx W w39 (R36 ++ R40)
  Φ37) ∧ I0 p30 k31 k32 (n9 + 1) R36 Φ37 k38 ∧ k38 < k12) (I64 (n9 + 1) ∧ ∃ (R41 : List Own), ∃ (Φ42 : PW), ∃ (k43 : Nat), Stable Φ42 ∧ (∀ (w44 : World) (R45 : List Own), Ctx W w44 (R10 ++
  R45) I11 → Ctx W w44 (R41 ++ R45) Φ42) ∧ I0 p6 k7 k8 (n9 + 1) R41 Φ42 k43 ∧ k43 < k12)) (∀ (w46 : World) (R47 : List Own), Ctx W w46 (R10 ++ R47) I11 → Calls Tryd.prog
  F.errataref28_Consolidate #[Value.slice p6 k7 k8] w46 fun (e48 : Ending) (w49 : World) => ∃ (p50 : Option Addr), ∃ (k51 : Nat), ∃ (k52 : Nat), e48 = Ending.returned (Value.slice p50 k51
  k52) ∧ ∃ (R53 : List Own), ∃ (Φ54 : PW), Stable Φ54 ∧ Ctx W w49 (R53 ++ R47) Φ54 ∧ ∀ (w55 : World) (R56 : List Own), Ctx W w55 (R53 ++ R56) Φ54 → J (Value.slice p50 k51 k52) w55)

/-- errataref28.Consolidated -/
-- loop at region 2: 3 i; blocks 
def Berrataref28_Consolidated (lP : Option Addr) (lN lC : Nat) (W : World) (R : List Own) (Φ : PW) (J : Value → World → Prop) : Prop :=
  exI fun (I0 : Int → List Own → PW → Nat → Prop) => (∃ (R1 : List Own), ∃ (Φ2 : PW), ∃ (k3 : Nat), Stable Φ2 ∧ (∀ (w4 : World) (R5 : List Own), Ctx W w4 (R ++ R5) Φ → Ctx W w4 (R1 ++ R5) Φ2)
  ∧ I0 0 R1 Φ2 k3) ∧ ∀ (n6 : Int) (R7 : List Own) (I8 : List Nat → World → Prop) (k9 : Nat), Stable I8 → I0 n6 R7 I8 k9 → Br (decide (n6 < (↑lN : Int))) (∃ (R10 : List Own), ∃ (Φ11 : PW),
  Stable Φ11 ∧ (∀ (w12 : World) (R13 : List Own), Ctx W w12 (R7 ++ R13) I8 → Ctx W w12 (R10 ++ R13) Φ11) ∧ (0 ≤ n6 ∧ n6 < (↑lN : Int)) ∧ ptrK none lP fun (k14 k15 : Nat) => ∃ (n16 : Int), (∀
  (w17 : World) (R18 : List Own), Ctx W w17 (R10 ++ R18) Φ11 → ∃ (n19 : Int), w17.cell? (Addr.mk k14 (k15 + n6.toNat * 3 + 2) none) = some (Value.int IntKind.i64 n19) ∧ Value.int IntKind.i64
  n19 = Value.int IntKind.i64 n16) ∧ Br (decide (n16 = 0)) (∀ (w20 : World) (R21 : List Own), Ctx W w20 (R7 ++ R21) I8 → J (Value.bool false) w20) (Br (decide (0 < n6)) (I64 (n6 - 1) ∧ (0 ≤
  n6 ∧ n6 < (↑lN : Int)) ∧ ptrK none lP fun (k22 k23 : Nat) => ∃ (n24 : Int), ∃ (p25 : Option Addr), ∃ (k26 : Nat), ∃ (k27 : Nat), ∃ (n28 : Int), (∀ (w29 : World) (R30 : List Own), Ctx W w29
  (R10 ++ R30) Φ11 → ∃ (n31 : Int), ∃ (p32 : Option Addr), ∃ (k33 : Nat), ∃ (k34 : Nat), ∃ (n35 : Int), RowAt w29 k22 (k23 + n6.toNat * 3) [Value.int IntKind.i64 n31, Value.slice p32 k33 k34,
  Value.int IntKind.i64 n35] ∧ Value.agg #[Value.int IntKind.i64 n31, Value.slice p32 k33 k34, Value.int IntKind.i64 n35] = Value.agg #[Value.int IntKind.i64 n24, Value.slice p25 k26 k27,
  Value.int IntKind.i64 n28]) ∧ (0 ≤ max (n6 - 1) 0 ∧ max (n6 - 1) 0 < (↑lN : Int)) ∧ ptrK none lP fun (k36 k37 : Nat) => ∃ (n38 : Int), ∃ (p39 : Option Addr), ∃ (k40 : Nat), ∃ (k41 : Nat), ∃
  (n42 : Int), (∀ (w43 : World) (R44 : List Own), Ctx W w43 (R10 ++ R44) Φ11 → ∃ (n45 : Int), ∃ (p46 : Option Addr), ∃ (k47 : Nat), ∃ (k48 : Nat), ∃ (n49 : Int), RowAt w43 k36 (k37 + (max (n6
  - 1) 0).toNat * 3) [Value.int IntKind.i64 n45, Value.slice p46 k47 k48, Value.int IntKind.i64 n49] ∧ Value.agg #[Value.int IntKind.i64 n45, Value.slice p46 k47 k48, Value.int IntKind.i64
  n49] = Value.agg #[Value.int IntKind.i64 n38, Value.slice p39 k40 k41, Value.int IntKind.i64 n42]) ∧ ∀ (w50 : World) (R51 : List Own), Ctx W w50 (R7 ++ R51) I8 → Calls Tryd.prog
  F.errataref28_Compare #[Value.agg #[Value.int IntKind.i64 n38, Value.slice p39 k40 k41, Value.int IntKind.i64 n42], Value.agg #[Value.int IntKind.i64 n24, Value.slice p25 k26 k27, Value.int
  IntKind.i64 n28]] w50 fun (e52 : Ending) (w53 : World) => ∃ (n54 : Int), e52 = Ending.returned (Value.int IntKind.i64 n54) ∧ ∃ (R55 : List Own), ∃ (Φ56 : PW), Stable Φ56 ∧ Ctx W w53 (R55 ++
  R51) Φ56 ∧ Br (decide (0 ≤ n54)) (∀ (w57 : World) (R58 : List Own), Ctx W w57 (R55 ++ R58) Φ56 → J (Value.bool false) w57) (I64 (n6 + 1) ∧ ∃ (R59 : List Own), ∃ (Φ60 : PW), ∃ (k61 : Nat),
  Stable Φ60 ∧ (∀ (w62 : World) (R63 : List Own), Ctx W w62 (R55 ++ R63) Φ56 → Ctx W w62 (R59 ++ R63) Φ60) ∧ I0 (n6 + 1) R59 Φ60 k61 ∧ k61 < k9)) (I64 (n6 + 1) ∧ ∃ (R64 : List Own), ∃ (Φ65 :
  PW), ∃ (k66 : Nat), Stable Φ65 ∧ (∀ (w67 : World) (R68 : List Own), Ctx W w67 (R7 ++ R68) I8 → Ctx W w67 (R64 ++ R68) Φ65) ∧ I0 (n6 + 1) R64 Φ65 k66 ∧ k66 < k9))) (∀ (w69 : World) (R70 :
  List Own), Ctx W w69 (R7 ++ R70) I8 → J (Value.bool true) w69)

/-- errataref28.Find -/
-- loop at region 3: 7 n, 8 i; blocks 
def Berrataref28_Find (lP : Option Addr) (lN lC : Nat) (time : Int) (rowP : Option Addr) (rowN rowC : Nat) (W : World) (R : List Own) (Φ : PW) (J : Value → World → Prop) : Prop :=
  exI fun (I0 : Int → Int → List Own → PW → Nat → Prop) => (∃ (R1 : List Own), ∃ (Φ2 : PW), ∃ (k3 : Nat), Stable Φ2 ∧ (∀ (w4 : World) (R5 : List Own), Ctx W w4 (R ++ R5) Φ → Ctx W w4 (R1 ++
  R5) Φ2) ∧ I0 0 0 R1 Φ2 k3) ∧ ∀ (n6 n7 : Int) (R8 : List Own) (I9 : List Nat → World → Prop) (k10 : Nat), Stable I9 → I0 n6 n7 R8 I9 k10 → Br (decide (n7 < (↑lN : Int))) ((0 ≤ n7 ∧ n7 < (↑lN
  : Int)) ∧ ptrK none lP fun (k11 k12 : Nat) => ∀ (w13 : World) (R14 : List Own), Ctx W w13 (R8 ++ R14) I9 → ∃ (n15 : Int), ∃ (p16 : Option Addr), ∃ (k17 : Nat), ∃ (k18 : Nat), ∃ (n19 : Int),
  RowAt w13 k11 (k12 + n7.toNat * 3) [Value.int IntKind.i64 n15, Value.slice p16 k17 k18, Value.int IntKind.i64 n19] ∧ ∀ (w20 : World) (R21 : List Own), Ctx W w20 (R8 ++ R21) I9 → Calls
  Tryd.prog F.errataref28_Compare #[Value.agg #[Value.int IntKind.i64 n15, Value.slice p16 k17 k18, Value.int IntKind.i64 n19], Value.agg #[Value.int IntKind.i64 time, Value.slice rowP rowN
  rowC, Value.int IntKind.i64 0]] w20 fun (e22 : Ending) (w23 : World) => ∃ (n24 : Int), e22 = Ending.returned (Value.int IntKind.i64 n24) ∧ ∃ (R25 : List Own), ∃ (Φ26 : PW), Stable Φ26 ∧ Ctx
  W w23 (R25 ++ R21) Φ26 ∧ Br (decide (n24 = 0)) ((0 ≤ n7 ∧ n7 < (↑lN : Int)) ∧ ptrK none lP fun (k27 k28 : Nat) => ∀ (w29 : World) (R30 : List Own), Ctx W w29 (R25 ++ R30) Φ26 → ∃ (n31 :
  Int), w29.cell? (Addr.mk k27 (k28 + n7.toNat * 3 + 2) none) = some (Value.int IntKind.i64 n31) ∧ I64 (n7 + 1) ∧ ∃ (R32 : List Own), ∃ (Φ33 : PW), ∃ (k34 : Nat), Stable Φ33 ∧ (∀ (w35 :
  World) (R36 : List Own), Ctx W w35 (R25 ++ R36) Φ26 → Ctx W w35 (R32 ++ R36) Φ33) ∧ I0 (IntKind.i64.wrap (n6 + n31)) (n7 + 1) R32 Φ33 k34 ∧ k34 < k10) (I64 (n7 + 1) ∧ ∃ (R37 : List Own), ∃
  (Φ38 : PW), ∃ (k39 : Nat), Stable Φ38 ∧ (∀ (w40 : World) (R41 : List Own), Ctx W w40 (R25 ++ R41) Φ26 → Ctx W w40 (R37 ++ R41) Φ38) ∧ I0 n6 (n7 + 1) R37 Φ38 k39 ∧ k39 < k10)) (∀ (w42 :
  World) (R43 : List Own), Ctx W w42 (R8 ++ R43) I9 → J (Value.int IntKind.i64 n6) w42)

/-- errataref28.Multiset -/
-- loop at region 3: 4 i; blocks 
def Berrataref28_Multiset (lP : Option Addr) (lN lC : Nat) (W : World) (R : List Own) (Φ : PW) (J : Value → World → Prop) : Prop :=
  ∀ (w0 : World) (R1 : List Own), Ctx W w0 (R ++ R1) Φ → Calls Tryd.prog F.errataref28_Consolidate #[Value.slice lP lN lC] w0 fun (e2 : Ending) (w3 : World) => ∃ (p4 : Option Addr), ∃ (k5 :
  Nat), ∃ (k6 : Nat), e2 = Ending.returned (Value.slice p4 k5 k6) ∧ ∃ (R7 : List Own), ∃ (Φ8 : PW), Stable Φ8 ∧ Ctx W w3 (R7 ++ R1) Φ8 ∧ exI fun (I9 : Int → List Own → PW → Nat → Prop) => (∃
  (R10 : List Own), ∃ (Φ11 : PW), ∃ (k12 : Nat), Stable Φ11 ∧ (∀ (w13 : World) (R14 : List Own), Ctx W w13 (R7 ++ R14) Φ8 → Ctx W w13 (R10 ++ R14) Φ11) ∧ I9 0 R10 Φ11 k12) ∧ ∀ (n15 : Int)
  (R16 : List Own) (I17 : List Nat → World → Prop) (k18 : Nat), Stable I17 → I9 n15 R16 I17 k18 → Br (decide (n15 < (↑k5 : Int))) ((0 ≤ n15 ∧ n15 < (↑k5 : Int)) ∧ ptrK none p4 fun (k19 k20 :
  Nat) => ∀ (w21 : World) (R22 : List Own), Ctx W w21 (R16 ++ R22) I17 → ∃ (n23 : Int), w21.cell? (Addr.mk k19 (k20 + n15.toNat * 3 + 2) none) = some (Value.int IntKind.i64 n23) ∧ Br (decide
  (n23 < 0)) (∀ (w24 : World) (R25 : List Own), Ctx W w24 (R16 ++ R25) I17 → J (Value.bool false) w24) (I64 (n15 + 1) ∧ ∃ (R26 : List Own), ∃ (Φ27 : PW), ∃ (k28 : Nat), Stable Φ27 ∧ (∀ (w29 :
  World) (R30 : List Own), Ctx W w29 (R16 ++ R30) I17 → Ctx W w29 (R26 ++ R30) Φ27) ∧ I9 (n15 + 1) R26 Φ27 k28 ∧ k28 < k18)) (∀ (w31 : World) (R32 : List Own), Ctx W w31 (R16 ++ R32) I17 → J
  (Value.bool true) w31)

/-- errataref28.Count -/
-- loop at region 3: 3 n, 4 i; blocks 
def Berrataref28_Count (lP : Option Addr) (lN lC : Nat) (W : World) (R : List Own) (Φ : PW) (J : Value → World → Prop) : Prop :=
  exI fun (I0 : Int → Int → List Own → PW → Nat → Prop) => (∃ (R1 : List Own), ∃ (Φ2 : PW), ∃ (k3 : Nat), Stable Φ2 ∧ (∀ (w4 : World) (R5 : List Own), Ctx W w4 (R ++ R5) Φ → Ctx W w4 (R1 ++
  R5) Φ2) ∧ I0 0 0 R1 Φ2 k3) ∧ ∀ (n6 n7 : Int) (R8 : List Own) (I9 : List Nat → World → Prop) (k10 : Nat), Stable I9 → I0 n6 n7 R8 I9 k10 → Br (decide (n7 < (↑lN : Int))) ((0 ≤ n7 ∧ n7 < (↑lN
  : Int)) ∧ ptrK none lP fun (k11 k12 : Nat) => ∀ (w13 : World) (R14 : List Own), Ctx W w13 (R8 ++ R14) I9 → ∃ (n15 : Int), w13.cell? (Addr.mk k11 (k12 + n7.toNat * 3 + 2) none) = some
  (Value.int IntKind.i64 n15) ∧ I64 (n7 + 1) ∧ ∃ (R16 : List Own), ∃ (Φ17 : PW), ∃ (k18 : Nat), Stable Φ17 ∧ (∀ (w19 : World) (R20 : List Own), Ctx W w19 (R8 ++ R20) I9 → Ctx W w19 (R16 ++
  R20) Φ17) ∧ I0 (IntKind.i64.wrap (n6 + n15)) (n7 + 1) R16 Φ17 k18 ∧ k18 < k10) (∀ (w21 : World) (R22 : List Own), Ctx W w21 (R8 ++ R22) I9 → J (Value.int IntKind.i64 n6) w21)

/-- errataref28.Same -/
def Berrataref28_Same (aP : Option Addr) (aN aC : Nat) (bP : Option Addr) (bN bC : Nat) (W : World) (R : List Own) (Φ : PW) (J : Value → World → Prop) : Prop :=
  ∀ (w0 : World) (R1 : List Own), Ctx W w0 (R ++ R1) Φ → Calls Tryd.prog F.errataref28_Consolidate #[Value.slice aP aN aC] w0 fun (e2 : Ending) (w3 : World) => ∃ (p4 : Option Addr), ∃ (k5 :
  Nat), ∃ (k6 : Nat), e2 = Ending.returned (Value.slice p4 k5 k6) ∧ ∃ (R7 : List Own), ∃ (Φ8 : PW), Stable Φ8 ∧ Ctx W w3 (R7 ++ R1) Φ8 ∧ ∀ (w9 : World) (R10 : List Own), Ctx W w9 (R7 ++ R10)
  Φ8 → Calls Tryd.prog F.errataref28_Consolidate #[Value.slice bP bN bC] w9 fun (e11 : Ending) (w12 : World) => ∃ (p13 : Option Addr), ∃ (k14 : Nat), ∃ (k15 : Nat), e11 = Ending.returned
  (Value.slice p13 k14 k15) ∧ ∃ (R16 : List Own), ∃ (Φ17 : PW), Stable Φ17 ∧ Ctx W w12 (R16 ++ R10) Φ17 ∧ ∀ (w18 : World) (R19 : List Own), Ctx W w18 (R16 ++ R19) Φ17 → Calls Tryd.prog
  F.errataref28_Equal #[Value.slice p4 k5 k6, Value.slice p13 k14 k15] w18 fun (e20 : Ending) (w21 : World) => ∃ (c22 : Bool), e20 = Ending.returned (Value.bool c22) ∧ ∃ (R23 : List Own), ∃
  (Φ24 : PW), Stable Φ24 ∧ Ctx W w21 (R23 ++ R19) Φ24 ∧ ∀ (w25 : World) (R26 : List Own), Ctx W w25 (R23 ++ R26) Φ24 → J (Value.bool c22) w25

/-- errataref28.clone -/
-- known blocks: 2 d, 4 
def Berrataref28_clone (d0 : Int) (d1P : Option Addr) (d1N d1C : Nat) (d2 : Int) (n : Int) (W : World) (R : List Own) (Φ : PW) (J : Value → World → Prop) : Prop :=
  ∀ (b b : Nat), ∃ (R0 : List Own), ∃ (Φ1 : PW), Stable Φ1 ∧ (∀ (w2 : World) (R3 : List Own), Ctx W w2 (R ++ R3) Φ → Ctx W w2 (R0 ++ R3) Φ1) ∧ ∀ (k4 : Nat), (∀ (w5 : World) (R6 : List Own),
  Ctx W w5 (Own.blk k4 [] 65 :: R ++ R6) Φ → Ctx W w5 (R0 ++ R6) Φ1) ∧ ∀ (w7 : World) (R8 : List Own), Ctx W w7 (Own.blk k4 [] 65 :: R ++ R8) Φ → ∃ (p9 : Option Addr), ∃ (k10 : Nat), ∃ (k11 :
  Nat), ∃ (w12 : World), Sem.run Tryd.prog (builtin Builtin.append #[37, 37] 37 #[false, false] #[Value.slice (some (Addr.mk k4 0 none)) 0 0, Value.slice d1P d1N d1C]) w7 = Result.ok
  (Next.value (Value.slice p9 k10 k11)) w12 ∧ ∃ (R13 : List Own), ∃ (Φ14 : PW), Stable Φ14 ∧ Ctx W w12 (R13 ++ R8) Φ14 ∧ (∀ (w15 : World) (R16 : List Own), Ctx W w15 (R13 ++ R16) Φ14 → Ctx W
  w15 (R0 ++ R16) Φ1) ∧ ∀ (w17 : World) (R18 : List Own), Ctx W w17 (R13 ++ R18) Φ14 → J (Value.agg #[Value.int IntKind.i64 d0, Value.slice p9 k10 k11, Value.int IntKind.i64 n]) w17

/-- errataref37.Bucket -/
-- loop at region 4: 4 n, 5 i; blocks 
def Berrataref37_Bucket (valuesP : Option Addr) (valuesN valuesC : Nat) (W : World) (R : List Own) (Φ : PW) (J : Value → World → Prop) : Prop :=
  ∀ (w0 : World) (R1 : List Own), Ctx W w0 (R ++ R1) Φ → Calls Tryd.prog F.errataref03_RowBytes #[Value.slice valuesP valuesN valuesC] w0 fun (e2 : Ending) (w3 : World) => ∃ (s4 : ByteArray),
  e2 = Ending.returned (Value.string s4) ∧ ∃ (R5 : List Own), ∃ (Φ6 : PW), Stable Φ6 ∧ Ctx W w3 (R5 ++ R1) Φ6 ∧ exI fun (I7 : Int → Int → List Own → PW → Nat → Prop) => (∃ (R8 : List Own), ∃
  (Φ9 : PW), ∃ (k10 : Nat), Stable Φ9 ∧ (∀ (w11 : World) (R12 : List Own), Ctx W w11 (R5 ++ R12) Φ6 → Ctx W w11 (R8 ++ R12) Φ9) ∧ I7 0 0 R8 Φ9 k10) ∧ ∀ (n13 n14 : Int) (R15 : List Own) (I16 :
  List Nat → World → Prop) (k17 : Nat), Stable I16 → I7 n13 n14 R15 I16 k17 → Br (decide (n14 < (↑s4.size : Int))) (∃ (u18 : UInt8), (0 ≤ n14 ∧ s4.data.toList.get?Internal n14.toNat = some
  u18) ∧ I64 (n13 + IntKind.i64.wrap (↑u18.toNat : Int)) ∧ ((16 : Int) = 0 → False) ∧ I64 (n14 + 1) ∧ ∃ (R19 : List Own), ∃ (Φ20 : PW), ∃ (k21 : Nat), Stable Φ20 ∧ (∀ (w22 : World) (R23 :
  List Own), Ctx W w22 (R15 ++ R23) I16 → Ctx W w22 (R19 ++ R23) Φ20) ∧ I7 ((n13 + IntKind.i64.wrap (↑u18.toNat : Int)).tmod 16) (n14 + 1) R19 Φ20 k21 ∧ k21 < k17) (∀ (w24 : World) (R25 :
  List Own), Ctx W w24 (R15 ++ R25) I16 → J (Value.int IntKind.i64 n13) w24)

/-- errataref28.sorted -/
-- loop at region 8: 5 out, 6 i, 7 k; blocks 
def Berrataref28_sorted (lP : Option Addr) (lN lC : Nat) (W : World) (R : List Own) (Φ : PW) (J : Value → World → Prop) : Prop :=
  Br (decide ((↑lN : Int) < 2)) (∀ (w0 : World) (R1 : List Own), Ctx W w0 (R ++ R1) Φ → J (Value.slice lP lN lC) w0) (((2 : Int) = 0 → False) ∧ I64 ((↑lN : Int).tdiv 2) ∧ (0 ≤ (↑lN :
  Int).tdiv 2 ∧ (↑lN : Int).tdiv 2 ≤ (↑lC : Int)) ∧ ∀ (w2 : World) (R3 : List Own), Ctx W w2 (R ++ R3) Φ → Calls Tryd.prog F.errataref28_sorted #[Value.slice (subPtr lP 3 0 lC) ((↑lN :
  Int).tdiv 2).toNat lC] w2 fun (e4 : Ending) (w5 : World) => ∃ (p6 : Option Addr), ∃ (k7 : Nat), ∃ (k8 : Nat), e4 = Ending.returned (Value.slice p6 k7 k8) ∧ ∃ (R9 : List Own), ∃ (Φ10 : PW),
  Stable Φ10 ∧ Ctx W w5 (R9 ++ R3) Φ10 ∧ ((2 : Int) = 0 → False) ∧ I64 ((↑lN : Int).tdiv 2) ∧ (0 ≤ (↑lN : Int).tdiv 2 ∧ (↑lN : Int).tdiv 2 ≤ (↑lN : Int) ∧ lN ≤ lC) ∧ ∀ (w11 : World) (R12 :
  List Own), Ctx W w11 (R9 ++ R12) Φ10 → Calls Tryd.prog F.errataref28_sorted #[Value.slice (subPtr lP 3 ((↑lN : Int).tdiv 2).toNat lC) (lN - ((↑lN : Int).tdiv 2).toNat) (lC - ((↑lN :
  Int).tdiv 2).toNat)] w11 fun (e13 : Ending) (w14 : World) => ∃ (p15 : Option Addr), ∃ (k16 : Nat), ∃ (k17 : Nat), e13 = Ending.returned (Value.slice p15 k16 k17) ∧ ∃ (R18 : List Own), ∃
  (Φ19 : PW), Stable Φ19 ∧ Ctx W w14 (R18 ++ R12) Φ19 ∧ exI fun (I20 : Option Addr → Nat → Nat → Int → Int → List Own → PW → Nat → Prop) => (∃ (R21 : List Own), ∃ (Φ22 : PW), ∃ (k23 : Nat),
  Stable Φ22 ∧ (∀ (w24 : World) (R25 : List Own), Ctx W w24 (R18 ++ R25) Φ19 → Ctx W w24 (R21 ++ R25) Φ22) ∧ I20 none 0 0 0 0 R21 Φ22 k23) ∧ ∀ (p26 : Option Addr) (k27 k28 : Nat) (n29 n30 :
  Int) (R31 : List Own) (I32 : List Nat → World → Prop) (k33 : Nat), Stable I32 → I20 p26 k27 k28 n29 n30 R31 I32 k33 → ∀ (w34 : World) (R35 : List Own), Ctx W w34 (R31 ++ R35) I32 → Br
  (decide (n29 < (↑k7 : Int)) || decide (n30 < (↑k16 : Int))) (∀ (w36 : World) (R37 : List Own), Ctx W w36 (R31 ++ R37) I32 → Br (decide (n29 < (↑k7 : Int)) && decide (n30 < (↑k16 : Int))) (∃
  (R38 : List Own), ∃ (Φ39 : PW), Stable Φ39 ∧ (∀ (w40 : World) (R41 : List Own), Ctx W w40 (R31 ++ R41) I32 → Ctx W w40 (R38 ++ R41) Φ39) ∧ (0 ≤ n29 ∧ n29 < (↑k7 : Int)) ∧ ptrK none p6 fun
  (k42 k43 : Nat) => (0 ≤ n30 ∧ n30 < (↑k16 : Int)) ∧ ptrK none p15 fun (k44 k45 : Nat) => ∃ (n46 : Int), ∃ (p47 : Option Addr), ∃ (k48 : Nat), ∃ (k49 : Nat), ∃ (n50 : Int), (∀ (w51 : World)
  (R52 : List Own), Ctx W w51 (R38 ++ R52) Φ39 → ∃ (n53 : Int), ∃ (p54 : Option Addr), ∃ (k55 : Nat), ∃ (k56 : Nat), ∃ (n57 : Int), RowAt w51 k42 (k43 + n29.toNat * 3) [Value.int IntKind.i64
  n53, Value.slice p54 k55 k56, Value.int IntKind.i64 n57] ∧ Value.agg #[Value.int IntKind.i64 n53, Value.slice p54 k55 k56, Value.int IntKind.i64 n57] = Value.agg #[Value.int IntKind.i64
  n46, Value.slice p47 k48 k49, Value.int IntKind.i64 n50]) ∧ ∃ (n58 : Int), ∃ (p59 : Option Addr), ∃ (k60 : Nat), ∃ (k61 : Nat), ∃ (n62 : Int), (∀ (w63 : World) (R64 : List Own), Ctx W w63
  (R38 ++ R64) Φ39 → ∃ (n65 : Int), ∃ (p66 : Option Addr), ∃ (k67 : Nat), ∃ (k68 : Nat), ∃ (n69 : Int), RowAt w63 k44 (k45 + n30.toNat * 3) [Value.int IntKind.i64 n65, Value.slice p66 k67
  k68, Value.int IntKind.i64 n69] ∧ Value.agg #[Value.int IntKind.i64 n65, Value.slice p66 k67 k68, Value.int IntKind.i64 n69] = Value.agg #[Value.int IntKind.i64 n58, Value.slice p59 k60
  k61, Value.int IntKind.i64 n62]) ∧ ∀ (w70 : World) (R71 : List Own), Ctx W w70 (R31 ++ R71) I32 → Calls Tryd.prog F.errataref28_Compare #[Value.agg #[Value.int IntKind.i64 n46, Value.slice
  p47 k48 k49, Value.int IntKind.i64 n50], Value.agg #[Value.int IntKind.i64 n58, Value.slice p59 k60 k61, Value.int IntKind.i64 n62]] w70 fun (e72 : Ending) (w73 : World) => ∃ (n74 : Int),
  e72 = Ending.returned (Value.int IntKind.i64 n74) ∧ ∃ (R75 : List Own), ∃ (Φ76 : PW), Stable Φ76 ∧ Ctx W w73 (R75 ++ R71) Φ76 ∧ Br (decide (n74 ≤ 0)) ((0 ≤ n29 ∧ n29 < (↑k7 : Int)) ∧ ptrK
  none p6 fun (k77 k78 : Nat) => ∀ (w79 : World) (R80 : List Own), Ctx W w79 (R75 ++ R80) Φ76 → ∃ (n81 : Int), ∃ (p82 : Option Addr), ∃ (k83 : Nat), ∃ (k84 : Nat), ∃ (n85 : Int), RowAt w79
  k77 (k78 + n29.toNat * 3) [Value.int IntKind.i64 n81, Value.slice p82 k83 k84, Value.int IntKind.i64 n85] ∧ ∀ (k86 : Nat) (w87 : World) (R88 : List Own), Ctx W w87 (Own.blk k86 [Value.int
  IntKind.i64 n81, Value.slice p82 k83 k84, Value.int IntKind.i64 n85] 39 :: R75 ++ R88) Φ76 → ∃ (p89 : Option Addr), ∃ (k90 : Nat), ∃ (k91 : Nat), ∃ (w92 : World), Sem.run Tryd.prog (builtin
  Builtin.append #[22, 22] 22 #[false, false] #[Value.slice p26 k27 k28, Value.slice (some (Addr.mk k86 0 none)) 1 1]) w87 = Result.ok (Next.value (Value.slice p89 k90 k91)) w92 ∧ ∃ (R93 :
  List Own), ∃ (Φ94 : PW), Stable Φ94 ∧ Ctx W w92 (R93 ++ R88) Φ94 ∧ I64 (n29 + 1) ∧ ∃ (R95 : List Own), ∃ (Φ96 : PW), ∃ (k97 : Nat), Stable Φ96 ∧ (∀ (w98 : World) (R99 : List Own), Ctx W w98
  (R93 ++ R99) Φ94 → Ctx W w98 (R95 ++ R99) Φ96) ∧ I20 p89 k90 k91 (n29 + 1) n30 R95 Φ96 k97 ∧ k97 < k33) ((0 ≤ n30 ∧ n30 < (↑k16 : Int)) ∧ ptrK none p15 fun (k100 k101 : Nat) => ∀ (w102 :
  World) (R103 : List Own), Ctx W w102 (R75 ++ R103) Φ76 → ∃ (n104 : Int), ∃ (p105 : Option Addr), ∃ (k106 : Nat), ∃ (k107 : Nat), ∃ (n108 : Int), RowAt w102 k100 (k101 + n30.toNat * 3)
  [Value.int IntKind.i64 n104, Value.slice p105 k106 k107, Value.int IntKind.i64 n108] ∧ ∀ (k109 : Nat) (w110 : World) (R111 : List Own), Ctx W w110 (Own.blk k109 [Value.int IntKind.i64 n104,
  Value.slice p105 k106 k107, Value.int IntKind.i64 n108] 39 :: R75 ++ R111) Φ76 → ∃ (p112 : Option Addr), ∃ (k113 : Nat), ∃ (k114 : Nat), ∃ (w115 : World), Sem.run Tryd.prog (builtin
  Builtin.append #[22, 22] 22 #[false, false] #[Value.slice p26 k27 k28, Value.slice (some (Addr.mk k109 0 none)) 1 1]) w110 = Result.ok (Next.value (Value.slice p112 k113 k114)) w115 ∧ ∃
  (R116 : List Own), ∃ (Φ117 : PW), Stable Φ117 ∧ Ctx W w115 (R116 ++ R111) Φ117 ∧ I64 (n30 + 1) ∧ ∃ (R118 : List Own), ∃ (Φ119 : PW), ∃ (k120 : Nat), Stable Φ119 ∧ (∀ (w121 : World) (R122 :
  List Own), Ctx W w121 (R116 ++ R122) Φ117 → Ctx W w121 (R118 ++ R122) Φ119) ∧ I20 p112 k113 k114 n29 (n30 + 1) R118 Φ119 k120 ∧ k120 < k33)) (Br (decide ((↑k16 : Int) ≤ n30)) ((0 ≤ n29 ∧
  n29 < (↑k7 : Int)) ∧ ptrK none p6 fun (k123 k124 : Nat) => ∀ (w125 : World) (R126 : List Own), Ctx W w125 (R31 ++ R126) I32 → ∃ (n127 : Int), ∃ (p128 : Option Addr), ∃ (k129 : Nat), ∃ (k130
  : Nat), ∃ (n131 : Int), RowAt w125 k123 (k124 + n29.toNat * 3) [Value.int IntKind.i64 n127, Value.slice p128 k129 k130, Value.int IntKind.i64 n131] ∧ ∀ (k132 : Nat) (w133 : World) (R134 :
  List Own), Ctx W w133 (Own.blk k132 [Value.int IntKind.i64 n127, Value.slice p128 k129 k130, Value.int IntKind.i64 n131] 39 :: R31 ++ R134) I32 → ∃ (p135 : Option Addr), ∃ (k136 : Nat), ∃
  (k137 : Nat), ∃ (w138 : World), Sem.run Tryd.prog (builtin Builtin.append #[22, 22] 22 #[false, false] #[Value.slice p26 k27 k28, Value.slice (some (Addr.mk k132 0 none)) 1 1]) w133 =
  Result.ok (Next.value (Value.slice p135 k136 k137)) w138 ∧ ∃ (R139 : List Own), ∃ (Φ140 : PW), Stable Φ140 ∧ Ctx W w138 (R139 ++ R134) Φ140 ∧ I64 (n29 + 1) ∧ ∃ (R141 : List Own), ∃ (Φ142 :
  PW), ∃ (k143 : Nat), Stable Φ142 ∧ (∀ (w144 : World) (R145 : List Own), Ctx W w144 (R139 ++ R145) Φ140 → Ctx W w144 (R141 ++ R145) Φ142) ∧ I20 p135 k136 k137 (n29 + 1) n30 R141 Φ142 k143 ∧
  k143 < k33) ((0 ≤ n30 ∧ n30 < (↑k16 : Int)) ∧ ptrK none p15 fun (k146 k147 : Nat) => ∀ (w148 : World) (R149 : List Own), Ctx W w148 (R31 ++ R149) I32 → ∃ (n150 : Int), ∃ (p151 : Option
  Addr), ∃ (k152 : Nat), ∃ (k153 : Nat), ∃ (n154 : Int), RowAt w148 k146 (k147 + n30.toNat * 3) [Value.int IntKind.i64 n150, Value.slice p151 k152 k153, Value.int IntKind.i64 n154] ∧ ∀ (k155
  : Nat) (w156 : World) (R157 : List Own), Ctx W w156 (Own.blk k155 [Value.int IntKind.i64 n150, Value.slice p151 k152 k153, Value.int IntKind.i64 n154] 39 :: R31 ++ R157) I32 → ∃ (p158 :
  Option Addr), ∃ (k159 : Nat), ∃ (k160 : Nat), ∃ (w161 : World), Sem.run Tryd.prog (builtin Builtin.append #[22, 22] 22 #[false, false] #[Value.slice p26 k27 k28, Value.slice (some (Addr.mk
  k155 0 none)) 1 1]) w156 = Result.ok (Next.value (Value.slice p158 k159 k160)) w161 ∧ ∃ (R162 : List Own), ∃ (Φ163 : PW), Stable Φ163 ∧ Ctx W w161 (R162 ++ R157) Φ163 ∧ I64 (n30 + 1) ∧ ∃
  (R164 : List Own), ∃ (Φ165 : PW), ∃ (k166 : Nat), Stable Φ165 ∧ (∀ (w167 : World) (R168 : List Own), Ctx W w167 (R162 ++ R168) Φ163 → Ctx W w167 (R164 ++ R168) Φ165) ∧ I20 p158 k159 k160
  n29 (n30 + 1) R164 Φ165 k166 ∧ k166 < k33))) (∀ (w169 : World) (R170 : List Own), Ctx W w169 (R31 ++ R170) I32 → J (Value.slice p26 k27 k28) w169))

/-- errataref01.Num -/
def Berrataref01_Num (n : Int) (W : World) (R : List Own) (Φ : PW) (J : Value → World → Prop) : Prop :=
  Br (decide (n < 0)) (∀ (w0 : World) (R1 : List Own), Ctx W w0 (R ++ R1) Φ → J (Value.string (ByteArray.mk #[])) w0) (∀ (w2 : World) (R3 : List Own), Ctx W w2 (R ++ R3) Φ → Calls Tryd.prog
  F.errataref01_Int #[Value.int IntKind.i64 n] w2 fun (e4 : Ending) (w5 : World) => ∃ (s6 : ByteArray), e4 = Ending.returned (Value.string s6) ∧ ∃ (R7 : List Own), ∃ (Φ8 : PW), Stable Φ8 ∧
  Ctx W w5 (R7 ++ R3) Φ8 ∧ ∀ (w9 : World) (R10 : List Own), Ctx W w9 (R7 ++ R10) Φ8 → J (Value.string s6) w9)

/-- errataref01.Int -/
def Berrataref01_Int (n : Int) (W : World) (R : List Own) (Φ : PW) (J : Value → World → Prop) : Prop :=
  Br (decide (n < 0)) (∀ (w0 : World) (R1 : List Own), Ctx W w0 (R ++ R1) Φ → Calls Tryd.prog F.errataref01_digits #[Value.int IntKind.i64 n] w0 fun (e2 : Ending) (w3 : World) => ∃ (s4 :
  ByteArray), e2 = Ending.returned (Value.string s4) ∧ ∃ (R5 : List Own), ∃ (Φ6 : PW), Stable Φ6 ∧ Ctx W w3 (R5 ++ R1) Φ6 ∧ ((ByteArray.mk #[OfNat.ofNat 45]).size + s4.size).le
  9223372036854775807 ∧ ((ByteArray.mk #[OfNat.ofNat 45] ++ s4).size + (ByteArray.mk #[OfNat.ofNat 59]).size).le 9223372036854775807 ∧ ∀ (w7 : World) (R8 : List Own), Ctx W w7 (R5 ++ R8) Φ6 →
  J (Value.string (ByteArray.mk #[OfNat.ofNat 45] ++ s4 ++ ByteArray.mk #[OfNat.ofNat 59])) w7) (I64 (0 - n) ∧ ∀ (w9 : World) (R10 : List Own), Ctx W w9 (R ++ R10) Φ → Calls Tryd.prog
  F.errataref01_digits #[Value.int IntKind.i64 (0 - n)] w9 fun (e11 : Ending) (w12 : World) => ∃ (s13 : ByteArray), e11 = Ending.returned (Value.string s13) ∧ ∃ (R14 : List Own), ∃ (Φ15 :
  PW), Stable Φ15 ∧ Ctx W w12 (R14 ++ R10) Φ15 ∧ (s13.size + (ByteArray.mk #[OfNat.ofNat 59]).size).le 9223372036854775807 ∧ ∀ (w16 : World) (R17 : List Own), Ctx W w16 (R14 ++ R17) Φ15 → J
  (Value.string (s13 ++ ByteArray.mk #[OfNat.ofNat 59])) w16)

/-- errataref01.Text -/
def Berrataref01_Text (s : ByteArray) (W : World) (R : List Own) (Φ : PW) (J : Value → World → Prop) : Prop :=
  I64 (0 - (↑s.size : Int)) ∧ ∀ (w0 : World) (R1 : List Own), Ctx W w0 (R ++ R1) Φ → Calls Tryd.prog F.errataref01_digits #[Value.int IntKind.i64 (0 - (↑s.size : Int))] w0 fun (e2 : Ending)
  (w3 : World) => ∃ (s4 : ByteArray), e2 = Ending.returned (Value.string s4) ∧ ∃ (R5 : List Own), ∃ (Φ6 : PW), Stable Φ6 ∧ Ctx W w3 (R5 ++ R1) Φ6 ∧ (s4.size + (ByteArray.mk #[OfNat.ofNat
  58]).size).le 9223372036854775807 ∧ ((s4 ++ ByteArray.mk #[OfNat.ofNat 58]).size + s.size).le 9223372036854775807 ∧ ((s4 ++ ByteArray.mk #[OfNat.ofNat 58] ++ s).size + (ByteArray.mk
  #[OfNat.ofNat 44]).size).le 9223372036854775807 ∧ ∀ (w7 : World) (R8 : List Own), Ctx W w7 (R5 ++ R8) Φ6 → J (Value.string (s4 ++ ByteArray.mk #[OfNat.ofNat 58] ++ s ++ ByteArray.mk
  #[OfNat.ofNat 44])) w7

/-- errataref03.RowBytes -/
-- loop at region 3: 3 s, 4 i; blocks 
def Berrataref03_RowBytes (rP : Option Addr) (rN rC : Nat) (W : World) (R : List Own) (Φ : PW) (J : Value → World → Prop) : Prop :=
  ∀ (w0 : World) (R1 : List Own), Ctx W w0 (R ++ R1) Φ → Calls Tryd.prog F.errataref01_Num #[Value.int IntKind.i64 (↑rN : Int)] w0 fun (e2 : Ending) (w3 : World) => ∃ (s4 : ByteArray), e2 =
  Ending.returned (Value.string s4) ∧ ∃ (R5 : List Own), ∃ (Φ6 : PW), Stable Φ6 ∧ Ctx W w3 (R5 ++ R1) Φ6 ∧ exI fun (I7 : ByteArray → Int → List Own → PW → Nat → Prop) => (∃ (R8 : List Own), ∃
  (Φ9 : PW), ∃ (k10 : Nat), Stable Φ9 ∧ (∀ (w11 : World) (R12 : List Own), Ctx W w11 (R5 ++ R12) Φ6 → Ctx W w11 (R8 ++ R12) Φ9) ∧ I7 s4 0 R8 Φ9 k10) ∧ ∀ (s13 : ByteArray) (n14 : Int) (R15 :
  List Own) (I16 : List Nat → World → Prop) (k17 : Nat), Stable I16 → I7 s13 n14 R15 I16 k17 → Br (decide (n14 < (↑rN : Int))) ((0 ≤ n14 ∧ n14 < (↑rN : Int)) ∧ ptrK none rP fun (k18 k19 :
  Nat) => ∀ (w20 : World) (R21 : List Own), Ctx W w20 (R15 ++ R21) I16 → ∃ (n22 : Int), ∃ (n23 : Int), ∃ (s24 : ByteArray), RowAt w20 k18 (k19 + n14.toNat * 3) [Value.int IntKind.i64 n22,
  Value.int IntKind.i64 n23, Value.string s24] ∧ ∀ (w25 : World) (R26 : List Own), Ctx W w25 (R15 ++ R26) I16 → Calls Tryd.prog F.errataref03_Bytes #[Value.agg #[Value.int IntKind.i64 n22,
  Value.int IntKind.i64 n23, Value.string s24]] w25 fun (e27 : Ending) (w28 : World) => ∃ (s29 : ByteArray), e27 = Ending.returned (Value.string s29) ∧ ∃ (R30 : List Own), ∃ (Φ31 : PW),
  Stable Φ31 ∧ Ctx W w28 (R30 ++ R26) Φ31 ∧ (s13.size + s29.size).le 9223372036854775807 ∧ I64 (n14 + 1) ∧ ∃ (R32 : List Own), ∃ (Φ33 : PW), ∃ (k34 : Nat), Stable Φ33 ∧ (∀ (w35 : World) (R36
  : List Own), Ctx W w35 (R30 ++ R36) Φ31 → Ctx W w35 (R32 ++ R36) Φ33) ∧ I7 (s13 ++ s29) (n14 + 1) R32 Φ33 k34 ∧ k34 < k17) (∀ (w37 : World) (R38 : List Own), Ctx W w37 (R15 ++ R38) I16 → J
  (Value.string s13) w37)

/-- errataref01.digits -/
def Berrataref01_digits (n : Int) (W : World) (R : List Own) (Φ : PW) (J : Value → World → Prop) : Prop :=
  ((10 : Int) = 0 → False) ∧ I64 (48 - n.tmod 10) ∧ ∀ (k0 : Nat) (w1 : World) (R2 : List Own), Ctx W w1 (Own.blk k0 [Value.int IntKind.u8 (IntKind.u8.wrap (48 - n.tmod 10))] 5 :: R ++ R2) Φ →
  ∃ (s3 : ByteArray), ∃ (w4 : World), Sem.run Tryd.prog (convert 71 9 (Value.slice (some (Addr.mk k0 0 none)) 1 1)) w1 = Result.ok (Value.string s3) w4 ∧ ∃ (R5 : List Own), ∃ (Φ6 : PW),
  Stable Φ6 ∧ Ctx W w4 (R5 ++ R2) Φ6 ∧ Br (decide (-10 < n)) (∀ (w7 : World) (R8 : List Own), Ctx W w7 (R5 ++ R8) Φ6 → J (Value.string s3) w7) (((10 : Int) = 0 → False) ∧ I64 (n.tdiv 10) ∧ ∀
  (w9 : World) (R10 : List Own), Ctx W w9 (R5 ++ R10) Φ6 → Calls Tryd.prog F.errataref01_digits #[Value.int IntKind.i64 (n.tdiv 10)] w9 fun (e11 : Ending) (w12 : World) => ∃ (s13 :
  ByteArray), e11 = Ending.returned (Value.string s13) ∧ ∃ (R14 : List Own), ∃ (Φ15 : PW), Stable Φ15 ∧ Ctx W w12 (R14 ++ R10) Φ15 ∧ (s13.size + s3.size).le 9223372036854775807 ∧ ∀ (w16 :
  World) (R17 : List Own), Ctx W w16 (R14 ++ R17) Φ15 → J (Value.string (s13 ++ s3)) w16)

/-- errataref03.Bytes -/
-- known blocks: 1 v
def Berrataref03_Bytes (v0 : Int) (v1 : Int) (v2 : ByteArray) (W : World) (R : List Own) (Φ : PW) (J : Value → World → Prop) : Prop :=
  ∀ (b : Nat), ∃ (R0 : List Own), ∃ (Φ1 : PW), Stable Φ1 ∧ (∀ (w2 : World) (R3 : List Own), Ctx W w2 (R ++ R3) Φ → Ctx W w2 (R0 ++ R3) Φ1) ∧ ∀ (w4 : World) (R5 : List Own), Ctx W w4 (R ++ R5)
  Φ → Calls Tryd.prog F.errataref01_Int #[Value.int IntKind.i64 v0] w4 fun (e6 : Ending) (w7 : World) => ∃ (s8 : ByteArray), e6 = Ending.returned (Value.string s8) ∧ ∃ (R9 : List Own), ∃ (Φ10
  : PW), Stable Φ10 ∧ Ctx W w7 (R9 ++ R5) Φ10 ∧ (∀ (w11 : World) (R12 : List Own), Ctx W w11 (R9 ++ R12) Φ10 → Ctx W w11 (R0 ++ R12) Φ1) ∧ ∀ (w13 : World) (R14 : List Own), Ctx W w13 (R9 ++
  R14) Φ10 → Calls Tryd.prog F.errataref01_Int #[Value.int IntKind.i64 v1] w13 fun (e15 : Ending) (w16 : World) => ∃ (s17 : ByteArray), e15 = Ending.returned (Value.string s17) ∧ ∃ (R18 :
  List Own), ∃ (Φ19 : PW), Stable Φ19 ∧ Ctx W w16 (R18 ++ R14) Φ19 ∧ (∀ (w20 : World) (R21 : List Own), Ctx W w20 (R18 ++ R21) Φ19 → Ctx W w20 (R0 ++ R21) Φ1) ∧ (s8.size + s17.size).le
  9223372036854775807 ∧ ∀ (w22 : World) (R23 : List Own), Ctx W w22 (R18 ++ R23) Φ19 → Calls Tryd.prog F.errataref01_Text #[Value.string v2] w22 fun (e24 : Ending) (w25 : World) => ∃ (s26 :
  ByteArray), e24 = Ending.returned (Value.string s26) ∧ ∃ (R27 : List Own), ∃ (Φ28 : PW), Stable Φ28 ∧ Ctx W w25 (R27 ++ R23) Φ28 ∧ (∀ (w29 : World) (R30 : List Own), Ctx W w29 (R27 ++ R30)
  Φ28 → Ctx W w29 (R0 ++ R30) Φ1) ∧ ((s8 ++ s17).size + s26.size).le 9223372036854775807 ∧ ∀ (w31 : World) (R32 : List Own), Ctx W w31 (R27 ++ R32) Φ28 → J (Value.string (s8 ++ s17 ++ s26))
  w31

end Go.Proofs.YtnapfhbibikbiaaDoor
end

/-
  Concat, Add, Consolidated, walked.
-/
section
set_option linter.unusedVariables false
set_option linter.unusedSimpArgs false
namespace Go.Vc
section
variable {W w : World} {S : List Own} {Φ : PW}

/-- append of new zeroes to nothing, taken as room -/
theorem Ctx.grow0 [Stable Φ] {P : Program} (c : Ctx W w S Φ) {ts tn ty t : TypeId} {kb : Array Bool} {size bytes : Nat} (hb : appB P ts t size bytes = true) (htn : P.underlying tn = some (.int .i64)) (m : Nat) (h0 : 0 < m) (hm : m ≤ 1000000) (hpos : 0 < size) (hbytes : bytes ≤ 1000) :
    ∃ g cap' w', Sem.run P (builtin Builtin.append #[ts, tn] ty kb #[.slice none 0 0, .int .i64 m]) w = .ok (.value (.slice (some ⟨g, 0, none⟩) m cap')) w' ∧ m ≤ cap' ∧ Ctx W w' (.buf (some ⟨g, 0, none⟩) 0 cap' [] t size :: S) Φ := by
  obtain ⟨i, z, e1, e2, e3, e4, e5, e6⟩ := appB_out hb
  subst e4
  have hmb : m * i.bytes ≤ 1000000 * 1000 := Nat.mul_le_mul hm (by omega)
  have hr := Go.Lib.run_append_nil_zeros (P := P) w ts tn ty t i z .i64 .i64 e1 htn e2 e3 m h0 hpos (by omega) (by omega)
  have hge := grownCap_ge w m 0 t
  have hcm : grownCap w m 0 t ≤ maxLen := grownCap_le_maxLen w m 0 t (by simp only [maxLen]; omega)
  have h := (c.buf0 t i.size).upd (k := 0) (o' := .buf (some ⟨w.heap.size, 0, none⟩) 0 (grownCap w m 0 t) [] t i.size) rfl (((Chg.refl _ _).drewN 1).alloc (.cells (Builtin.zeroCells z.cells m ++ Builtin.zeroCells z.cells (grownCap w m 0 t - m)) t)) (by simp [Own.dom]) (by simp [Own.dom])
    ⟨by simp, .inr ⟨w.heap.size, _, _, rfl, Nat.zero_le _, hp_alloc_new w.drew _, Nat.zero_le _, hcm, by
      simp only [Array.size_append, size_zeroCells, e5, ← Nat.add_mul]
      congr 1
      omega, by simp⟩⟩
  exact ⟨_, _, _, run_app hr, hge, h⟩

/-- append a slice of plain data, perhaps empty -/
theorem Ctx.appAny [Stable Φ] {P : Program} {α : Type} [Gv α] {q : Option Addr} {l : List α} {c2 : Nat} {p : Option Addr} {n cap : Nat} {cs : List Value} {t : TypeId} {bytes : Nat} (c : Ctx W w (.buf p n cap cs t (Gv.ty α).size :: S) Φ)
    {ts ty : TypeId} {kb : Array Bool} (hb : appB P ts t (Gv.ty α).size bytes = true) (h1 : ∀ M w cs (x : α), Gv.rep M w cs x → (cs.all fun u => oneC u) = true) (hsl : ∀ M w, Φ M w → Sl M w q l) (hlen : n + l.length < 100000000) (hbytes : bytes ≤ 1000) :
    ∃ p' cap' w' news, Sem.run P (builtin Builtin.append #[ts, ts] ty kb #[.slice p n cap, .slice q l.length c2]) w = .ok (.value (.slice p' (n + l.length) cap')) w' ∧
      Ctx W w' (.buf p' (n + l.length) cap' (cs ++ news) t (Gv.ty α).size :: S) (fun M w => Φ M w ∧ Elems M w news l) := by
  rcases Nat.eq_zero_or_pos l.length with h0 | h0
  · obtain ⟨i, z, e1, e2, e3, e4, e5, e6⟩ := appB_out hb
    have hl : l = [] := List.eq_nil_of_length_eq_zero h0
    subst hl
    refine ⟨p, cap, w, [], run_app (c.append0 0 rfl e1 e2 q c2), ?_⟩
    rw [List.append_nil]
    exact c.add Elems.nil
  · obtain ⟨p', cap', w', news, h2, _, c3⟩ := c.appSl (ty := ty) (kb := kb) (c2 := c2) hb h1 hsl h0 hlen hbytes
    exact ⟨p', cap', w', news, h2, c3⟩

end
end Go.Vc

namespace Go.Proofs.YtnapfhbibikbiaaDoor
open Go.Vc


theorem pin_ll {M : List Nat} {w : World} {g o : Nat} {cs : List (List Value)} {ls : List (List DeltaD)} (h : Pin g o cs ls M w) {j : Nat} (hj : j < ls.length) : ∃ p c, cs.getD j [] = [.slice p ls[j].length c] ∧ ls[j].length ≤ c ∧ c ≤ maxLen := by
  obtain ⟨_, h1, h2⟩ := h j hj
  obtain ⟨p, c, e, g1, g2, _⟩ := rep_list.1 h2
  exact ⟨p, c, e, g1, g2⟩
theorem pin_llSl {M : List Nat} {w : World} {g o : Nat} {cs : List (List Value)} {ls : List (List DeltaD)} (h : Pin g o cs ls M w) {j : Nat} (hj : j < ls.length) {p : Option Addr} {c : Nat} (e : cs.getD j [] = [.slice p ls[j].length c]) : Sl M w p ls[j] := by
  obtain ⟨_, h1, h2⟩ := h j hj
  obtain ⟨p', c', e', g1, g2, hs⟩ := rep_list.1 h2
  rw [e] at e'
  simp only [List.cons.injEq, Value.slice.injEq] at e'
  rw [e'.1.1]
  exact hs
theorem pin_llAt {M : List Nat} {w : World} {g o : Nat} {cs : List (List Value)} {ls : List (List DeltaD)} (h : Pin g o cs ls M w) {j : Nat} (hj : j < ls.length) {p : Option Addr} {c : Nat} (e : cs.getD j [] = [.slice p ls[j].length c]) : w.cell? ⟨g, o + j, none⟩ = some (.slice p ls[j].length c) := by
  obtain ⟨_, h1, h2⟩ := h j hj
  rw [e] at h1
  have := h1 0 (by simp)
  rw [show (Gv.ty (List DeltaD)).size = 1 from rfl, Nat.mul_one] at this
  simpa using this

theorem flat_take (ls : List (List DeltaD)) {i : Nat} (h : i < ls.length) : (ls.take (i + 1)).flatten = (ls.take i).flatten ++ ls[i] := by
  rw [List.take_succ_eq_append_getElem h, List.flatten_append]
  simp
theorem flat_le (ls : List (List DeltaD)) (i : Nat) : (ls.take i).flatten.length ≤ ls.flatten.length := by
  have h : ls.flatten = (ls.take i).flatten ++ (ls.drop i).flatten := by rw [← List.flatten_append, List.take_append_drop]
  rw [h, List.length_append]
  omega

theorem Grow_use {W w : World} {S : List Own} {Φ : PW} [Stable Φ] (n : Nat) (hn : n ≤ 1000000) (cx : Ctx W w S Φ) {K : Ending → World → Prop}
    (hK : ∀ p cap w', Ctx W w' (.buf p 0 cap [] 39 3 :: S) Φ → K (.returned (.slice p 0 cap)) w') : Calls Tryd.prog F.slices_Grow_api_Delta_api_Delta #[.slice none 0 0, .int .i64 n] w K := by
  refine (Bslices_Grow_api_Delta_api_Delta_run none 0 0 n (J := fun u w' => K (.returned u) w') cx ?_).mono fun e w' ⟨v, he, hj⟩ => by rw [he]; exact hj
  refine Br.intro (fun h => by have := of_decide_eq_true h; omega) (fun _ => ⟨by unfold I64; omega, by unfold I64; omega, Br.intro (fun h => ⟨by omega, fun w G cx => ?_⟩) (fun h => fun w G cx => hK _ _ _ (cx.left.buf0 39 3))⟩)
  have h := of_decide_eq_true h
  obtain ⟨g, cap', w', hrun, hge, cx'⟩ := Ctx.grow0 (P := Tryd.prog) (ts := 22) (tn := 3) (ty := 22) (t := 39) (kb := #[false, false]) (size := 3) (bytes := 40) cx (by kernel_rfl) (by kernel_rfl) n (by omega) hn (by omega) (by omega)
  have e : (n : Int) - (((0 : Nat) : Int) - ((0 : Nat) : Int)) = n := by omega
  rw [e]
  refine ⟨_, _, _, _, hrun, .buf (some ⟨g, 0, none⟩) 0 cap' [] 39 3 :: S, Φ, inferInstance, cx', by omega, fun w G cx => ?_⟩
  have hp : subPtr (some ⟨g, 0, none⟩) 3 0 cap' = some ⟨g, 0, none⟩ := by
    unfold subPtr
    split <;> rfl
  show K (.returned (.slice (subPtr (some ⟨g, 0, none⟩) 3 0 cap') 0 cap')) w
  rw [hp]
  exact hK _ _ _ cx.left

set_option maxHeartbeats 1000000 in
theorem Concat_pin {Φ : PW} [Stable Φ] (q : Option Addr) (cap : Nat) (ls : List (List DeltaD)) (g o : Nat) (cs : List (List Value)) (hq : 0 < ls.length → q = some ⟨g, o, none⟩) (hΦ : ∀ M w, Φ M w → Pin g o cs ls M w) (hn : ls.length ≤ 1000000) (hlen : ls.flatten.length ≤ 1000000) :
    GivesNew Φ Tryd.prog F.slices_Concat_api_Delta_api_Delta #[.slice q ls.length cap] ls.flatten 39 := by
  refine ⟨fun W0 w0 S0 c0 => ?_⟩
  have hcs : ∀ j, (hj : j < ls.length) → ∃ p c, cs.getD j [] = [.slice p ls[j].length c] ∧ ls[j].length ≤ c ∧ c ≤ maxLen := fun j hj => pin_ll (hΦ _ _ c0.phi) hj
  refine GivesNew.go (gives_new (Bslices_Concat_api_Delta_api_Delta_run q ls.length cap) fun W R => ?_) W0 w0 S0 c0
  clear c0
  refine exI_mk (fun n iI R' Φ' k => ∃ i : Nat, iI = i ∧ i ≤ ls.length ∧ n = ((ls.take i).flatten.length : Int) ∧ R' = R ∧ Φ' = Φ ∧ k = ls.length - i) ⟨⟨R, Φ, _, inferInstance, fun w G cx => cx, 0, rfl, Nat.zero_le _, rfl, rfl, rfl, rfl⟩, ?_⟩
  rintro n iI R1 Φ1 k _ ⟨i, rfl, hi, rfl, rfl, rfl, rfl⟩
  refine Br.intro (fun hlt => ?_) (fun hge => ?_)
  · have hlt := of_decide_eq_true hlt
    have hlt : i < ls.length := by omega
    obtain ⟨p, c, he, h1, h2⟩ := hcs i hlt
    have hf := flat_take ls hlt
    have hfl : (ls.take (i + 1)).flatten.length = (ls.take i).flatten.length + ls[i].length := by rw [hf, List.length_append]
    have hle := flat_le ls (i + 1)
    refine ⟨by omega, ptrK_intro g o (hq (by omega)) fun w G cx => ⟨p, ls[i].length, c, by rw [Int.toNat_natCast]; exact pin_llAt (hΦ _ _ cx.phi) hlt he, by unfold I64; omega, Br.intro (fun h => by have := of_decide_eq_true h; omega) (fun _ => ⟨by unfold I64; omega, R1, Φ1, ls.length - (i + 1), inferInstance, fun w G cx => cx, ⟨i + 1, by omega, hlt, by omega, rfl, rfl, rfl⟩, by omega⟩)⟩⟩
  have hge := of_decide_eq_false hge
  have hi : i = ls.length := by omega
  subst hi
  rw [List.take_length]
  clear hge
  refine fun w G cx => Grow_use ls.flatten.length hlen cx fun p0 cap0 w cx => ⟨p0, 0, cap0, rfl, .buf p0 0 cap0 [] 39 3 :: R1, Φ1, inferInstance, cx, ?_⟩
  clear cx
  refine exI_mk (fun sp sn sc iI R' Φ' k => ∃ (i : Nat) (ds : List Value), iI = i ∧ i ≤ ls.length ∧ sn = (ls.take i).flatten.length ∧ R' = .buf sp sn sc ds 39 3 :: R1 ∧ Φ' = (fun M w => Φ1 M w ∧ Elems M w ds (ls.take i).flatten) ∧ k = ls.length - i)
    ⟨⟨.buf p0 0 cap0 [] 39 3 :: R1, fun M w => Φ1 M w ∧ Elems M w [] (ls.take 0).flatten, _, inferInstance, fun w G cx => cx.weak fun M w h => ⟨h, Elems.nil⟩, 0, [], rfl, Nat.zero_le _, rfl, rfl, rfl, rfl⟩, ?_⟩
  rintro sp _ sc iI R2 Φ2 k _ ⟨i, ds, rfl, hi, rfl, rfl, rfl, rfl⟩
  refine Br.intro (fun hlt => ?_) (fun hge => fun w G cx => ?_)
  · have hlt := of_decide_eq_true hlt
    have hlt : i < ls.length := by omega
    obtain ⟨p, c, he, h1, h2⟩ := hcs i hlt
    have hf := flat_take ls hlt
    have hfl : (ls.take (i + 1)).flatten.length = (ls.take i).flatten.length + ls[i].length := by rw [hf, List.length_append]
    have hle := flat_le ls (i + 1)
    refine ⟨by omega, ptrK_intro g o (hq (by omega)) fun w G cx => ⟨p, ls[i].length, c, by rw [Int.toNat_natCast]; exact pin_llAt (hΦ _ _ cx.phi.1) hlt he, fun w G cx => ?_⟩⟩
    have happ := Ctx.appAny (P := Tryd.prog) (ts := 22) (ty := 22) (kb := #[false, false]) (bytes := 40) (c2 := c) (l := ls[i]) (q := p) cx (by kernel_rfl) delta_one (fun M w h => pin_llSl (hΦ M w h.1) hlt he) (by omega) (by omega)
    rw [← hfl] at happ
    obtain ⟨p', cap', w', news, hrun, cx'⟩ := happ
    have hst : Stable (fun M w => Φ1 M w ∧ Elems M w (ds ++ news) (ls.take (i + 1)).flatten) := inferInstance
    exact ⟨p', _, cap', w', hrun, .buf p' (ls.take (i + 1)).flatten.length cap' (ds ++ news) 39 3 :: R1, _, hst, cx'.weak fun M w h => ⟨h.1.1, by rw [hf]; exact h.1.2.append h.2⟩, by unfold I64; omega, _, _, ls.length - (i + 1), hst, fun w G cx => cx, ⟨i + 1, _, by omega, hlt, rfl, rfl, rfl, rfl⟩, by omega⟩
  · have hge := of_decide_eq_false hge
    have hi : i = ls.length := by omega
    subst hi
    rw [List.take_length] at cx ⊢
    exact ⟨sp, sc, ds, rfl, cx.left⟩

def addP (a b : List DeltaD) : List DeltaD := consP (a ++ b)

theorem Add_sl {Φ : PW} [Stable Φ] (p : Option Addr) (cap : Nat) (a : List DeltaD) (q : Option Addr) (cap2 : Nat) (b : List DeltaD) (hΦ : ∀ M w, Φ M w → Sl M w p a) (hΨ : ∀ M w, Φ M w → Sl M w q b) (hc1 : a.length ≤ cap) (hc2 : cap ≤ maxLen) (hc3 : b.length ≤ cap2) (hc4 : cap2 ≤ maxLen)
    (ha : a.length ≤ 400000) (hb : b.length ≤ 400000) (hra : ∀ x ∈ a, x.row.length ≤ 1000000) (hrb : ∀ x ∈ b, x.row.length ≤ 1000000) : GivesSl Φ Tryd.prog F.delta_Add #[.slice p a.length cap, .slice q b.length cap2] (addP a b) id := by
  refine gives_sl (Bdelta_Add_run p a.length cap q b.length cap2) fun W R => ?_
  intro k w G cx
  obtain ⟨cx1, hs⟩ := cx.freezeBlk (α := List DeltaD) (l := [a, b]) (Elems.two (cs := [.slice p a.length cap]) (ds := [.slice q b.length cap2]) (rep_list.2 ⟨p, cap, rfl, hc1, hc2, hΦ _ _ cx.phi⟩) (rep_list.2 ⟨q, cap2, rfl, hc3, hc4, hΨ _ _ cx.phi⟩))
  have hfl : [a, b].flatten = a ++ b := by simp
  have hll : (a ++ b).length ≤ 1000000 := by rw [List.length_append]; omega
  have cx1' : Ctx W w (R ++ G) (fun M w => Φ M w ∧ Sl M w (some ⟨k, 0, none⟩) [a, b]) := cx1.add hs
  obtain ⟨g, o, cs, hq, cx2⟩ := cx1'.pin cx1'.phi.2
  have hcon := Concat_pin (Φ := fun M w => (Φ M w ∧ Sl M w (some ⟨k, 0, none⟩) [a, b]) ∧ Pin g o cs [a, b] M w) (some ⟨k, 0, none⟩) 2 [a, b] g o cs hq (fun M w h => h.2) (by simp) (by rw [hfl]; exact hll)
  rw [hfl] at hcon
  refine hcon.use cx2 fun p1 c1 ds w cx => ?_
  obtain ⟨_, h1, h2⟩ := cx.bufLen 0 rfl
  obtain ⟨cx3, hs3, _⟩ := Ctx.freeze (α := DeltaD) cx.fst cx.phi.2
  refine ⟨p1, _, c1, rfl, R, fun M w => Φ M w ∧ Sl M w p1 (a ++ b), inferInstance, (cx3.add hs3).weak fun M w h => ⟨h.1.1.1, h.2⟩, fun w G cx => ?_⟩
  refine (Consolidate_sl (Φ := fun M w => Φ M w ∧ Sl M w p1 (a ++ b)) p1 c1 (a ++ b) (fun M w h => h.2) hll (fun x hx => ?_)).use cx fun p3 c3 w h1 h2 cx => ⟨p3, _, c3, rfl, R, fun M w => Φ M w ∧ Sl M w p3 (addP a b), inferInstance, cx.weak fun M w h => ⟨h.1.1, h.2⟩, fun w G cx => ⟨p3, c3, rfl, h1, h2, cx.left⟩⟩
  rcases List.mem_append.1 hx with hx | hx
  · exact hra x hx
  · exact hrb x hx

end Go.Proofs.YtnapfhbibikbiaaDoor
end

/-
  Consolidated, walked; DifferenceLeast in plain Lean, and walked.
-/
section
set_option linter.unusedVariables false
set_option linter.unusedSimpArgs false
namespace Go.Proofs.YtnapfhbibikbiaaDoor
open Go.Vc


def consAt (l : List DeltaD) (j : Nat) : Bool := match l[j]? with
  | none => false
  | some y => decide (y.n ≠ 0) && match j with
    | 0 => true
    | i + 1 => match l[i]? with
      | none => false
      | some x => decide (cmpD x y < 0)
def consolidated (l : List DeltaD) : Bool := (List.range l.length).all fun j => consAt l j

theorem sumK_neg (k : Key) : ∀ a : List DeltaD, (sumK (a.map negD) k + sumK a k) % 18446744073709551616 = 0
  | [] => rfl
  | x :: a => by
    have ih := sumK_neg k a
    have h := w64_mod (0 - x.n)
    show ((if (negD x).key = k then (negD x).n else 0) + sumK (a.map negD) k + ((if x.key = k then x.n else 0) + sumK a k)) % 18446744073709551616 = 0
    have e1 : (negD x).key = x.key := rfl
    have e2 : (negD x).n = w64 (0 - x.n) := rfl
    rw [e1, e2]
    by_cases hk : x.key = k
    · rw [if_pos hk, if_pos hk]; omega
    · rw [if_neg hk, if_neg hk]; omega

theorem find_neg (a : List DeltaD) (k : Key) : findP (a.map negD) k = w64 (-(findP a k)) := by
  unfold findP
  apply w64_cong
  have := sumK_neg k a
  have := w64_mod (sumK a k)
  omega

theorem find_cons (l : List DeltaD) (k : Key) : findP (consP l) k = findP l k := (consP_norm l).2 k
theorem find_sub (a b : List DeltaD) (k : Key) : findP (subP a b) k = w64 (findP a k - findP b k) := by
  unfold subP
  rw [find_cons, findP_app, find_neg, w64_r, ← Int.sub_eq_add_neg]
theorem find_add (a b : List DeltaD) (k : Key) : findP (addP a b) k = w64 (findP a k + findP b k) := by
  unfold addP
  rw [find_cons, findP_app]
theorem find_w (a : List DeltaD) (k : Key) : w64 (findP a k) = findP a k := by unfold findP; rw [w64_w]

theorem subP_len (a b : List DeltaD) : (subP a b).length ≤ a.length + b.length := by
  have := consP_len (a ++ b.map negD)
  rw [List.length_append, List.length_map] at this
  exact this
theorem addP_len (a b : List DeltaD) : (addP a b).length ≤ a.length + b.length := by
  have := consP_len (a ++ b)
  rw [List.length_append] at this
  exact this
abbrev Rows1 (l : List DeltaD) : Prop := ∀ x ∈ l, x.row.length ≤ 1000000
end Go.Proofs.YtnapfhbibikbiaaDoor
end

/-
  STRINGS.BUILDER over what a walk owns; tables that a row lays; rows with laid tables; the decimal form of ints.
-/
section
set_option linter.unusedVariables false
set_option linter.unusedSimpArgs false
namespace Go.Vc
open Go.RowKit Go.Shelf

section
variable {P : Program} {W w w' : World} {S R F : List Own} {Φ Ψ : PW}

/-- what is owned changes, and is owned no more -/
theorem Ctx.lose [Stable Φ] (c : Ctx W w (R ++ S) Φ) (h : Chg (dom R) w w') : Ctx W w' S Φ := by
  have hn := c.nodup
  rw [dom_app, List.nodup_append] at hn
  refine c.go ⟨h.mono fun x hx => by rw [dom_app]; exact List.mem_append_left _ hx, fun b hb => .inl (by rw [dom_app]; exact List.mem_append_right _ hb)⟩ (fun o ho => ?_) hn.2.1
  exact Own.at_keep (c.own o (List.mem_append_right _ ho)) fun b hb => h.block b (c.lt (mem_dom (List.mem_append_right _ ho) hb)) fun hm => hn.2.2 b hm b (mem_dom ho hb) rfl

/-- append of a string's bytes -/
theorem Ctx.appStr [Stable Φ] {p : Option Addr} {n cap : Nat} {cs : List Value} {e : TypeId} (c : Ctx W w (.buf p n cap cs e 1 :: S) Φ) {t u ty : TypeId} {kb : Array Bool} {i : TypeInfo}
    (ht : P.underlying t = some (.slice e)) (hu : P.underlying u = some .string) (hi : P.info? e = some i) (hz : i.zero = some (.int .u8 0)) (hsize : i.size = 1) (hby : i.bytes = 1) (s : ByteArray)
    (hb : n + s.size ≤ 140737488355328) (h63 : n + s.size ≤ maxLen) :
    ∃ p' cap' w', Sem.run P (builtin Builtin.append #[t, u] ty kb #[.slice p n cap, .string s]) w = .ok (.value (.slice p' (n + s.size) cap')) w' ∧ Ctx W w' (.buf p' (n + s.size) cap' (cs ++ Lib.strCells s) e 1 :: S) Φ := by
  have hown := c.own _ (List.mem_cons_self)
  obtain ⟨hcl, hown⟩ := hown
  have hxl : cs.length = n := by simpa using hcl
  have hlen : (cs ++ Lib.strCells s).length = (n + s.size) * 1 := by rw [List.length_append, hxl, Lib.strCells_length, Nat.mul_one]
  have grown : ∀ (old : Nat), old < n + s.size →
      Ctx W (w.drew.alloc (.cells (cs.toArray ++ (Lib.strCells s).toArray ++ Builtin.zeroCells (Value.int .u8 0).cells (grownCap w (n + s.size) old e - (n + s.size))) e))
        (.buf (some ⟨w.heap.size, 0, none⟩) (n + s.size) (grownCap w (n + s.size) old e) (cs ++ Lib.strCells s) e 1 :: S) Φ := by
    intro old ho
    have hge := grownCap_ge w (n + s.size) old e
    have hcm : grownCap w (n + s.size) old e ≤ maxLen := grownCap_le_maxLen w (n + s.size) old e h63
    have h := c.upd (k := 0) (o' := .buf (some ⟨w.heap.size, 0, none⟩) (n + s.size) (grownCap w (n + s.size) old e) (cs ++ Lib.strCells s) e 1) rfl (((Chg.refl _ _).drewN 1).alloc (.cells (cs.toArray ++ (Lib.strCells s).toArray ++ Builtin.zeroCells (Value.int .u8 0).cells (grownCap w (n + s.size) old e - (n + s.size))) e)) (by simp [Own.dom]) (by simp [Own.dom])
      ⟨hlen, .inr ⟨w.heap.size, _, _, rfl, Nat.zero_le _, hp_alloc_new w.drew _, hge, hcm, ?_, ?_⟩⟩
    · exact h
    · have hz1 : (Value.int IntKind.u8 0).cells.size = 1 := rfl
      simp only [Array.size_append, List.size_toArray, size_zeroCells, hz1, hxl, Lib.strCells_length]
      omega
    · simp only [Array.toList_append, List.append_assoc]
      rw [← List.append_assoc, ← hlen]
      exact List.take_left
  rcases hown with ⟨e1, rfl⟩ | ⟨g, cap', cur, e1, _, hg, hnc, hcm, hcs, htake⟩
  · cases e1
    have hx : cs = [] := List.eq_nil_of_length_eq_zero hxl
    subst hx
    by_cases hm : s.size = 0
    · have hn : Lib.strCells s = [] := List.eq_nil_of_length_eq_zero (by rw [Lib.strCells_length]; exact hm)
      refine ⟨none, 0, w, run_app ?_, by rw [hm, hn]; exact c⟩
      have hf := Lib.run_firstCells_string (P := P) w 1 s
      rw [hm] at hf
      simp [Builtin.append_, run_underlying ht, run_underlying hu, sizeOf, typeInfo, hi, hsize, Builtin.lenOf, hm, hf]
    · have hr := run_append_nil_string (P := P) w t u ty e i (.int .u8 0) ht hu hi hz s (by omega) (by omega) (by rw [hby]; omega)
      have hgr := grown 0 (by omega)
      simp only [Nat.zero_add, List.nil_append, Array.empty_append] at hgr ⊢
      have e1 : (s.data.map fun b => Value.int .u8 b.toNat) = (Lib.strCells s).toArray := by
        apply Array.ext'
        simp [Lib.strCells]
      rw [e1] at hr
      exact ⟨_, _, _, run_app hr, hgr⟩
  · cases e1
    have hcs' : cur.size = cap := by simpa using hcs
    have ht' : cur.toList.take n = cs := by simpa using htake
    by_cases hroom : n + s.size ≤ cap
    · have hr := Lib.run_append_room_string (P := P) w t u ty e i ht hu hi hsize g n cap cur hg s hroom (by omega)
      refine ⟨_, _, _, run_app hr, ?_⟩
      have h := c.upd (k := 0) (w' := w.setRow g (cur.toList.take n ++ Lib.strCells s ++ cur.toList.drop (n + s.size)).toArray) (o' := .buf (some ⟨g, 0, none⟩) (n + s.size) cap (cs ++ Lib.strCells s) e 1) rfl ⟨rfl, rfl, rfl, by simp, fun b _ hb => setRow_other w g b _ (by simpa [Own.dom] using hb)⟩ (by simp [Own.dom]) (by simp [Own.dom])
        ⟨hlen, .inr ⟨g, cap, _, rfl, Nat.zero_le _, setRow_heap w g cur _ e _ hg, hroom, hcm, ?_, ?_⟩⟩
      · exact h
      · simp only [List.size_toArray, List.length_append, List.length_take, List.length_drop, Array.length_toList, Lib.strCells_length]
        omega
      · rw [ht', ← hlen]
        exact List.take_left
    · have holds : ∀ j u, cs[j]? = some u → w.cell? ((⟨g, 0, none⟩ : Addr).add j) = some u := by
        intro j u hj
        have hlt : j < cs.length := (List.getElem?_eq_some_iff.1 hj).1
        have h2 : cur[j]? = some u := by
          rw [← ht', List.getElem?_take_of_lt (by omega)] at hj
          simpa using hj
        rw [addr_add, Nat.zero_add]
        simp [World.cell?, hg, h2]
      have hr := Lib.run_append_grow_string (P := P) w t u ty e i (.int .u8 0) ht hu hi hz ⟨g, 0, none⟩ n cap cs (by rw [hsize]; simpa using hxl) holds s (by omega) (by omega) (by rw [hby]; exact growslice_fits (by omega) (by omega))
      exact ⟨_, _, _, run_app hr, grown cap (by omega)⟩

/-- a strings.Builder (of type T, in block b) that holds these bytes (of type e) -/
def Bd (T e : TypeId) (b : Nat) (l : List UInt8) (R : List Own) : Prop :=
  ∃ (pa : Value) (p : Option Addr) (cap : Nat), (pa = .pointer none ∨ pa = .pointer (some ⟨b, 0, none⟩)) ∧ R = [.blk b [pa, .slice p l.length cap] T, .buf p l.length cap (Lib.byteCells l) e 1]

theorem Bd.fresh [Stable Φ] {T e : TypeId} {b : Nat} (c : Ctx W w (.blk b [.pointer none, .slice none 0 0] T :: S) Φ) : Ctx W w ([.blk b [.pointer none, .slice none 0 0] T, .buf none 0 0 [] e 1] ++ S) Φ :=
  ((c.buf0 e 1).perm (List.Perm.swap _ _ _))
theorem Bd.nil {T e : TypeId} {b : Nat} : Bd T e b [] [.blk b [.pointer none, .slice none 0 0] T, .buf none 0 0 [] e 1] := ⟨.pointer none, none, 0, .inl rfl, rfl⟩

end

/-! ### String -/
section
open Go.Proofs
variable {P : Program} {ρ : Ren}

theorem chg_freeze {a w : World} {D : List Nat} (h : Chg D a w) {p : Addr} (hp : p.block ∈ D) (n : Nat) : Chg D a (w.freeze p n) := by
  refine h.trans (T := D) ?_ (fun x hx => .inl hx)
  unfold World.freeze
  split
  · exact Chg.refl _ _
  · refine ⟨rfl, rfl, rfl, by simp, fun k hk hn => ?_⟩
    simp only [Array.getElem?_modify]
    rw [if_neg (fun e => hn (by rw [← e]; exact hp))]

set_option maxHeartbeats 1000000 in
set_option maxRecDepth 100000 in
theorem builder_String_some (L : Lays.n169 P ρ) (X : Builder.Extra P ρ) (b g cap : Nat) (pa : Value) (l : List UInt8) (w : World) (h0 : l ≠ []) (hbk : w.heap[b]? = some (.cells #[pa, .slice (some ⟨g, 0, none⟩) l.length cap] (ρ.t 72) (0, 0)))
    (hown : w.ownsRow 0 (ρ.t 5) 1 (.slice (some ⟨g, 0, none⟩) l.length cap) l.length (Lib.byteCells l)) :
    Calls P (ρ.f 169) #[.pointer (some ⟨b, 0, none⟩)] w fun e w' => e = .returned (.string ⟨l.toArray⟩) ∧ Chg [g] w w' := by
  have hl0 : l.length ≠ 0 := by simpa using h0
  obtain ⟨cur, hg, hnc, hcm, hcs, htake⟩ : ∃ cur, w.heap[g]? = some (.cells cur (ρ.t 5) (0, 0)) ∧ l.length ≤ cap ∧ cap ≤ maxLen ∧ cur.size = cap * 1 ∧ cur.toList.take (l.length * 1) = Lib.byteCells l := by
    rcases hown.2 with ⟨hv, _⟩ | ⟨g', cap', cur, hv, _, r⟩
    · cases hv
    · cases hv; exact ⟨cur, r⟩
  have c1 : w.drew.cell? ⟨b, 1, none⟩ = some (.slice (some ⟨g, 0, none⟩) l.length cap) := by
    have : w.drew.heap[b]? = some (.cells #[pa, .slice (some ⟨g, 0, none⟩) l.length cap] (ρ.t 72) (0, 0)) := hbk
    rw [Lib.cell_of_heap this]; rfl
  have hSD : (Builtin.unsafeSliceData_ #[(ρ.t 37)] (ρ.t 127) #[.slice (some ⟨g, 0, none⟩) l.length cap]).run P w.drew = .ok (.pointer (some ⟨g, 0, none⟩)) w.drew :=
    Lib.run_unsafeSliceData_row _ _ _ _ _ _ (by omega)
  have hUS : (Builtin.unsafeString_ #[(ρ.t 127), (ρ.t 3)] (ρ.t 9) #[.pointer (some ⟨g, 0, none⟩), .int .i64 l.length]).run P w.drew = .ok (.string ⟨l.toArray⟩) (w.drew.freeze ⟨g, 0, none⟩ l.length) := by
    refine Lib.run_unsafeString_row w.drew (ρ.t 127) (ρ.t 3) (ρ.t 9) (ρ.t 5) L.t127 X.cellsByte g cur.size (by have hg' : w.drew.heap[g]? = some (.cells cur (ρ.t 5) (0, 0)) := hg; simp [World.shape?, hg']) l h0 (by omega) (by unfold maxLen at hcm; omega) ?_
    intro j x hx
    have := hown.cells (g := g) rfl j (.int .u8 x.toNat) (by simp [Lib.byteCells, hx])
    exact this
  have mixed := L.mixed
  have t72 := L.t72; have a72 := L.a72; have z72 := L.z72; have v72 := L.v72; have u72 := run_underlying L.t72
  have t70 := L.t70; have a70 := L.a70; have z70 := L.z70; have v70 := L.v70; have u70 := run_underlying L.t70
  have t37 := L.t37; have a37 := L.a37; have z37 := L.z37; have v37 := L.v37; have u37 := run_underlying L.t37
  have t127 := L.t127; have a127 := L.a127; have z127 := L.z127; have v127 := L.v127; have u127 := run_underlying L.t127
  have t3 := L.t3; have a3 := L.a3; have z3 := L.z3; have v3 := L.v3; have u3 := run_underlying L.t3
  have t9 := L.t9; have a9 := L.a9; have z9 := L.z9; have v9 := L.v9; have u9 := run_underlying L.t9
  have t5 := X.t5; have a5 := X.a5; have z5 := X.z5; have v5 := X.v5; have u5 := run_underlying X.t5
  go_enter L.f169, Body.n169_ntmps ρ
  go_wp2
  go_region_o
  all_goals (go_wp2; go_ret; exact ⟨rfl, chg_freeze ((Chg.refl _ _).drewN 1) (p := ⟨g, 0, none⟩) (by simp) _⟩)

set_option maxHeartbeats 2000000 in
set_option maxRecDepth 100000 in
theorem builder_String_nil (L : Lays.n169 P ρ) (X : Builder.Extra P ρ) (b : Nat) (p : Value) (w : World) (hbk : w.heap[b]? = some (.cells #[p, .slice none 0 0] (ρ.t 72) (0, 0))) :
    Calls P (ρ.f 169) #[.pointer (some ⟨b, 0, none⟩)] w fun e w' => e = .returned (.string ⟨#[]⟩) ∧ Chg [] w w' := by
  have hUS := Any.unsafeString_none L X
  have c1 : w.drew.cell? ⟨b, 1, none⟩ = some (.slice none 0 0) := by
    have : w.drew.heap[b]? = some (.cells #[p, .slice none 0 0] (ρ.t 72) (0, 0)) := hbk
    rw [Lib.cell_of_heap this]; rfl
  have hSD : (Builtin.unsafeSliceData_ #[(ρ.t 37)] (ρ.t 127) #[.slice none 0 0]).run P w.drew = .ok (.pointer none) w.drew := rfl
  have mixed := L.mixed
  have t72 := L.t72; have a72 := L.a72; have z72 := L.z72; have v72 := L.v72; have u72 := run_underlying L.t72
  have t70 := L.t70; have a70 := L.a70; have z70 := L.z70; have v70 := L.v70; have u70 := run_underlying L.t70
  have t37 := L.t37; have a37 := L.a37; have z37 := L.z37; have v37 := L.v37; have u37 := run_underlying L.t37
  have t127 := L.t127; have a127 := L.a127; have z127 := L.z127; have v127 := L.v127; have u127 := run_underlying L.t127
  have t3 := L.t3; have a3 := L.a3; have z3 := L.z3; have v3 := L.v3; have u3 := run_underlying L.t3
  have t9 := L.t9; have a9 := L.a9; have z9 := L.z9; have v9 := L.v9; have u9 := run_underlying L.t9
  have t5 := X.t5; have a5 := X.a5; have z5 := X.z5; have v5 := X.v5; have u5 := run_underlying X.t5
  go_enter L.f169, Body.n169_ntmps ρ
  go_wp2
  go_region_o
  all_goals (go_wp2; go_ret; exact ⟨rfl, (Chg.refl _ _).drewN 1⟩)

set_option maxHeartbeats 2000000 in
set_option maxRecDepth 100000 in
theorem builder_String_noroom (L : Lays.n169 P ρ) (X : Builder.Extra P ρ) (b g : Nat) (p : Value) (cur : Array Value) (w : World) (hbk : w.heap[b]? = some (.cells #[p, .slice (some ⟨g, 0, none⟩) 0 0] (ρ.t 72) (0, 0))) (hg : w.heap[g]? = some (.cells cur (ρ.t 5) (0, 0))) :
    Calls P (ρ.f 169) #[.pointer (some ⟨b, 0, none⟩)] w fun e w' => e = .returned (.string ⟨#[]⟩) ∧ Chg [] w w' := by
  have hUS := Any.unsafeString_none L X
  have hlt : b < w.heap.size := by
    rcases Nat.lt_or_ge b w.heap.size with h' | h'
    · exact h'
    · simp [Array.getElem?_eq_none h'] at hbk
  have c1 : w.drew.cell? ⟨b, 1, none⟩ = some (.slice (some ⟨g, 0, none⟩) 0 0) := by
    have : w.drew.heap[b]? = some (.cells #[p, .slice (some ⟨g, 0, none⟩) 0 0] (ρ.t 72) (0, 0)) := hbk
    rw [Lib.cell_of_heap this]; rfl
  have hSD : (Builtin.unsafeSliceData_ #[(ρ.t 37)] (ρ.t 127) #[.slice (some ⟨g, 0, none⟩) 0 0]).run P w.drew = .ok (.pointer (some ⟨w.drew.heap.size, 0, none⟩)) (w.drew.alloc (.view ⟨g, 0, none⟩ (ρ.t 5))) :=
    Lib.run_unsafeSliceData_zero w.drew _ _ (ρ.t 5) L.t127 ⟨g, 0, none⟩ 0 ((ρ.t 5), cur.size) (by have hg' : w.drew.heap[g]? = some (.cells cur (ρ.t 5) (0, 0)) := hg; simp [World.shape?, hg'])
  have c2 : (w.drew.alloc (.view ⟨g, 0, none⟩ (ρ.t 5))).cell? ⟨b, 1, none⟩ = some (.slice (some ⟨g, 0, none⟩) 0 0) := by
    have : (w.drew.alloc (.view ⟨g, 0, none⟩ (ρ.t 5))).heap[b]? = _ := (Lib.alloc_old w.drew _ b hlt).trans hbk
    rw [Lib.cell_of_heap this]; rfl
  have c3 : (w.alloc (.view ⟨g, 0, none⟩ (ρ.t 5))).drew.cell? ⟨b, 1, none⟩ = some (.slice (some ⟨g, 0, none⟩) 0 0) := c2
  have c0 : w.cell? ⟨b, 1, none⟩ = some (.slice (some ⟨g, 0, none⟩) 0 0) := c1
  have mixed := L.mixed
  have t72 := L.t72; have a72 := L.a72; have z72 := L.z72; have v72 := L.v72; have u72 := run_underlying L.t72
  have t70 := L.t70; have a70 := L.a70; have z70 := L.z70; have v70 := L.v70; have u70 := run_underlying L.t70
  have t37 := L.t37; have a37 := L.a37; have z37 := L.z37; have v37 := L.v37; have u37 := run_underlying L.t37
  have t127 := L.t127; have a127 := L.a127; have z127 := L.z127; have v127 := L.v127; have u127 := run_underlying L.t127
  have t3 := L.t3; have a3 := L.a3; have z3 := L.z3; have v3 := L.v3; have u3 := run_underlying L.t3
  have t9 := L.t9; have a9 := L.a9; have z9 := L.z9; have v9 := L.v9; have u9 := run_underlying L.t9
  have t5 := X.t5; have a5 := X.a5; have z5 := X.z5; have v5 := X.v5; have u5 := run_underlying X.t5
  go_enter L.f169, Body.n169_ntmps ρ
  go_wp2
  go_region_o
  all_goals (go_wp2; go_ret; exact ⟨rfl, ((Chg.refl _ _).drewN 1).alloc _⟩)

set_option maxHeartbeats 2000000 in
set_option maxRecDepth 100000 in
theorem builder_String_room (L : Lays.n169 P ρ) (X : Builder.Extra P ρ) (b g cap : Nat) (p : Value) (w : World) (hc0 : cap ≠ 0) (hbk : w.heap[b]? = some (.cells #[p, .slice (some ⟨g, 0, none⟩) 0 cap] (ρ.t 72) (0, 0))) :
    Calls P (ρ.f 169) #[.pointer (some ⟨b, 0, none⟩)] w fun e w' => e = .returned (.string ⟨#[]⟩) ∧ Chg [] w w' := by
  have hUS := Any.unsafeString_none L X
  have c1 : w.drew.cell? ⟨b, 1, none⟩ = some (.slice (some ⟨g, 0, none⟩) 0 cap) := by
    have : w.drew.heap[b]? = some (.cells #[p, .slice (some ⟨g, 0, none⟩) 0 cap] (ρ.t 72) (0, 0)) := hbk
    rw [Lib.cell_of_heap this]; rfl
  have hSD : (Builtin.unsafeSliceData_ #[(ρ.t 37)] (ρ.t 127) #[.slice (some ⟨g, 0, none⟩) 0 cap]).run P w.drew = .ok (.pointer (some ⟨g, 0, none⟩)) w.drew :=
    Lib.run_unsafeSliceData_row _ _ _ _ _ _ hc0
  clear hc0
  have mixed := L.mixed
  have t72 := L.t72; have a72 := L.a72; have z72 := L.z72; have v72 := L.v72; have u72 := run_underlying L.t72
  have t70 := L.t70; have a70 := L.a70; have z70 := L.z70; have v70 := L.v70; have u70 := run_underlying L.t70
  have t37 := L.t37; have a37 := L.a37; have z37 := L.z37; have v37 := L.v37; have u37 := run_underlying L.t37
  have t127 := L.t127; have a127 := L.a127; have z127 := L.z127; have v127 := L.v127; have u127 := run_underlying L.t127
  have t3 := L.t3; have a3 := L.a3; have z3 := L.z3; have v3 := L.v3; have u3 := run_underlying L.t3
  have t9 := L.t9; have a9 := L.a9; have z9 := L.z9; have v9 := L.v9; have u9 := run_underlying L.t9
  have t5 := X.t5; have a5 := X.a5; have z5 := X.z5; have v5 := X.v5; have u5 := run_underlying X.t5
  go_enter L.f169, Body.n169_ntmps ρ
  go_wp2
  go_region_o
  all_goals (go_wp2; go_ret; exact ⟨rfl, (Chg.refl _ _).drewN 1⟩)

/-- (*strings.Builder).String: the builder is given up -/
theorem Bd.string {W w : World} {S R : List Own} {Φ : PW} [Stable Φ] {b : Nat} {l : List UInt8} (L : Lays.n169 P ρ) (X : Builder.Extra P ρ) (h : Bd (ρ.t 72) (ρ.t 5) b l R) (c : Ctx W w (R ++ S) Φ) {K : Ending → World → Prop}
    (hk : ∀ w', Ctx W w' S Φ → K (.returned (.string ⟨l.toArray⟩)) w') : Calls P (ρ.f 169) #[.pointer (some ⟨b, 0, none⟩)] w K := by
  obtain ⟨pa, p, cap, hpa, rfl⟩ := h
  have hbk : w.heap[b]? = some (.cells #[pa, .slice p l.length cap] (ρ.t 72) (0, 0)) := c.blk 0 rfl
  have hown : w.ownsRow 0 (ρ.t 5) 1 (.slice p l.length cap) l.length (Lib.byteCells l) := c.own _ (List.mem_cons_of_mem _ List.mem_cons_self)
  by_cases h0 : l = []
  · subst h0
    rcases hown.2 with ⟨e, _⟩ | ⟨g, cap', cur, e, _, hg, _⟩
    · cases e
      exact (builder_String_nil L X b pa w hbk).mono fun e w' ⟨he, hc⟩ => by subst he; exact hk w' (c.lose (hc.mono (by simp)))
    · cases e
      by_cases hc0 : cap = 0
      · subst hc0
        exact (builder_String_noroom L X b g pa cur w hbk hg).mono fun e w' ⟨he, hc⟩ => by subst he; exact hk w' (c.lose (hc.mono (by simp)))
      · exact (builder_String_room L X b g cap pa w hc0 hbk).mono fun e w' ⟨he, hc⟩ => by subst he; exact hk w' (c.lose (hc.mono (by simp)))
  · have hl0 : l.length ≠ 0 := by simpa using h0
    obtain ⟨g, rfl⟩ : ∃ g, p = some ⟨g, 0, none⟩ := by
      rcases hown.2 with ⟨_, hz⟩ | ⟨g, cap', cur, hv, _⟩
      · exact absurd hz hl0
      · cases hv; exact ⟨g, rfl⟩
    exact (builder_String_some L X b g cap pa l w h0 hbk hown).mono fun e w' ⟨he, hc⟩ => by subst he; exact hk w' (c.lose (hc.mono (by simp [dom, Own.dom])))

end

/-! ### tables -/
/-- a table of the library's, in a block that nobody writes -/
def Tab (P : Program) (name : String) (k : IntKind) (zs : List Int) : PW := fun M w => Lib.TabIs P w name k zs ∧ ∀ g, P.globalNamed name = some g → g ∉ M

instance instStableTab (P : Program) (name : String) (k : IntKind) (zs : List Int) : Stable (Tab P name k zs) := ⟨fun {M M' w w'} hs h => by
  obtain ⟨h1, h2⟩ := h
  unfold Lib.TabIs World.var? at h1
  cases hg : P.globalNamed name with
  | none => simp [hg] at h1
  | some g =>
    simp only [hg, Option.bind_some] at h1
    have hlt : g < w.heap.size := by
      rcases Nat.lt_or_ge g w.heap.size with h' | h'
      · exact h'
      · rw [Array.getElem?_eq_none h'] at h1; simp at h1
    refine ⟨?_, fun g' hg' hm => ?_⟩
    · unfold Lib.TabIs World.var?
      simp only [hg, Option.bind_some]
      rw [hs.chg.block g hlt (h2 g hg)]
      exact h1
    · rw [hg] at hg'
      cases hg'
      rcases hs.sub g hm with h | h
      · exact h2 g hg h
      · omega⟩

theorem Tab.start {P : Program} {name : String} {k : IntKind} {zs : List Int} {w : World} (h : Lib.TabIs P w name k zs) : Tab P name k zs [] w := ⟨h, fun _ _ => by simp⟩

theorem chg_grow {w : World} {k : Nat} {os : Array Obj} : Chg [] w (Sort.grow (w.drewN k) os) :=
  ⟨rfl, rfl, rfl, by show w.heap.size ≤ (w.heap ++ os).size; rw [Array.size_append]; omega, fun j hj _ => by
    show (w.heap ++ os)[j]? = w.heap[j]?
    rw [Array.getElem?_append_left hj]⟩

/-- strconv.Itoa -/
theorem itoa_in {P : Program} {f : FuncId} {Φ : PW} [Stable Φ] {name : String} (hI : ∀ (n : Int), -9223372036854775808 ≤ n → n ≤ 9223372036854775807 → ∀ w, Lib.TabIs P w name .u64 Lib.pow10Tab →
      Calls P f #[.int .i64 n] w fun e w' => e = .returned (.string ⟨(Lib.itoa n).toArray⟩) ∧ ∃ k os, w' = Sort.grow (w.drewN k) os)
    (hΦ : ∀ M w, Φ M w → Tab P name .u64 Lib.pow10Tab M w) (n : Int) (h : I64 n) : GivesIn Φ P f #[.int .i64 n] (.string ⟨(Lib.itoa n).toArray⟩) :=
  ⟨fun W w S c => (hI n (by unfold I64 at h; omega) (by unfold I64 at h; omega) w (hΦ _ _ c.phi).1).mono fun e w' ⟨he, k, os, hw⟩ => ⟨he, by rw [hw]; exact c.call chg_grow⟩⟩

/-! ### rows with laid tables -/
open Go.ChangeShapes Go.WideShapes Go.ChangeAt

/-- the row: true, and what came in reads as it did; tables are laid -/
theorem lawTrueLaid {H : Type} {enc : TypeId × Value → H} {C : Checked} {os : Os} {f : FuncId} {fn : Func} {s : ChangeSpec} {conds : List PathCond} {apart fresh handsOn : Bool} {tb : TypeId} {ld : List (String × DataW Unit)}
    (own : ownKnob C.prog.godebug = none) (started : os.Started) (noInit : C.prog.inits.idxOf? f = none) (hfn : C.prog.funcs[f]? = some fn)
    (laid : laidOutB C.prog = true) (hvars : s.vars = []) (hspec : ∀ ds : List (DataW H), ds.length = fn.params.toList.length → (s.fn H (ds ++ [])).results = [.lit (.bool true)] ∧ (s.fn H (ds ++ [])).args = ds ∧ (s.fn H (ds ++ [])).vars = [])
    (hres : fn.resultTypes = #[tb]) (htb : C.prog.underlying tb = some .bool)
    (types : (fn.params.toList.all fun t => C.prog.readableRec t && decide (t < C.prog.types.size)) = true)
    (witness : ∃ (w : World) (tape : Tape) (i : Input), w.os = os ∧ (w.forCall tape i).Shaped C.prog ∧ i.vars = [] ∧ Input.okWide C.prog (w.forCall tape i) .any w.heap.size f i ∧
      ((s.pre enc C.prog fn conds apart (w.forCall tape i).memory i.args ∧ laidMetH C.prog ld (w.forCall tape i).memory) ∧ sizedMet enc C.prog fn (OpenSpec.ofChange s) apart (w.forCall tape i).memory i.args) ∧ Assume.holds {} C.prog (lone (Frame.enter C.prog f i.args .normal) [] (w.forCall tape i)))
    (contract : ∀ (W : World) (base : Nat) (args : Array Value) (ds : List (DataW H)) (p : List MemPlace),
      (∀ (j : Nat) t v, fn.params[j]? = some t → args[j]? = some v → Value.okWide C.prog W .any base t v) →
      DataW.TrodAll enc C.prog W 0 (fun _ => true) true fn.params.toList args.toList ds p →
      conds.all (PathCond.test C.prog ⟨fn.params.toList, ds, s.plain.varTypes C.prog, []⟩) = true → laidMetH C.prog ld W →
      Calls C.prog f args W fun e W' => ∃ u, e = .returned u ∧ (u = .bool true ∧ Chg [] W W')) :
    ReturnsInHanded {} C os f .any (fun w args => (s.pre enc C.prog fn conds apart w args ∧ laidMetH C.prog ld w) ∧ sizedMet enc C.prog fn (OpenSpec.ofChange s) apart w args) (s.post enc C.prog fn apart fresh handsOn false) := by
  refine returnsInHanded_of_change_and (X := fun w _ => laidMetH C.prog ld w) (fun _ _ _ hh h => h.of_heap hh) own started noInit hfn witness ?_
  intro W base args ds gs before hval hW hcnd _ hL _
  have hW' := hW
  obtain ⟨p, q, hA, hV, rfl, _, _⟩ := hW
  rw [hvars] at hV
  obtain ⟨rfl, rfl⟩ := trodVars_none hV
  simp only [List.append_nil] at hW'
  refine (contract W base args ds p hval hA hcnd hL).mono fun e W' ⟨u, he, hu, hc⟩ => ?_
  subst he; subst hu
  have hb : Below W.heap.size W W' := hc.below (Nat.le_refl _) (by simp)
  obtain ⟨e1, e2, e3⟩ := hspec ds (trodAll_length hA).2
  refine ⟨_, rfl, ds, [], p, [], p, [], hW', ?_, ?_, ?_, hb.frame _, fun h => by cases h⟩
  · rw [e1, hres]
    exact trodAll_mk1 (t := tb) (v := .bool true) ⟨1, by simp [DataW.trod, Value.cells, htb]⟩
  · rw [e2]
    exact trodAll_below laid hb types hA (fun x hx => by simpa using hW'.lt x hx)
  · rw [e3, hvars]
    rfl

end Go.Vc
end

/-
  STEPS of a walk: a call whose contract is known, and what follows it.
-/
section
set_option linter.unusedVariables false
set_option linter.unusedSimpArgs false
namespace Go.Vc

section
variable {P : Program} {W w : World} {R G : List Own} {Φ Ψ : PW} {f : FuncId} {args : Array Value}

/-- what is known holds this, too -/
class Has (Φ Ψ : PW) : Prop where
  go : ∀ M w, Φ M w → Ψ M w
instance (priority := 2000) hasRefl (Φ : PW) : Has Φ Φ := ⟨fun _ _ h => h⟩
instance (priority := 900) hasL (A B Ψ : PW) [h : Has A Ψ] : Has (fun M w => A M w ∧ B M w) Ψ := ⟨fun M w x => h.go M w x.1⟩
instance (priority := 1000) hasR (A B Ψ : PW) [h : Has B Ψ] : Has (fun M w => A M w ∧ B M w) Ψ := ⟨fun M w x => h.go M w x.2⟩
instance hasTrue (Φ : PW) : Has Φ (fun _ _ => True) := ⟨fun _ _ _ => trivial⟩
instance (priority := 800) hasAnd (Φ A B : PW) [h : Has Φ A] [k : Has Φ B] : Has Φ (fun M w => A M w ∧ B M w) := ⟨fun M w x => ⟨h.go M w x, k.go M w x⟩⟩

theorem Ctx.has (c : Ctx W w R Φ) [h : Has Φ Ψ] : Ctx W w R Ψ := c.weak h.go

theorem GivesSl.to [Stable Φ] {α : Type} [Gv α] {l : List α} (h : GivesSl Φ P f args l id) (c : Ctx W w (R ++ G) Φ) {K : Option Addr → Nat → Nat → List Own → PW → Prop}
    (hk : ∀ p cap, l.length ≤ cap → cap ≤ maxLen → Stable (fun M w => Φ M w ∧ Sl M w p l) → K p l.length cap R (fun M w => Φ M w ∧ Sl M w p l)) :
    Calls P f args w fun e w' => ∃ p n c, e = .returned (.slice p n c) ∧ ∃ R' Φ', Stable Φ' ∧ Ctx W w' (R' ++ G) Φ' ∧ K p n c R' Φ' :=
  h.use c fun p cap w' h1 h2 c => ⟨p, _, cap, rfl, R, _, inferInstance, c, hk p cap h1 h2 inferInstance⟩

theorem GivesIn.toB [Stable Φ] {b : Bool} (h : GivesIn Φ P f args (.bool b)) (c : Ctx W w (R ++ G) Φ) {K : Bool → List Own → PW → Prop} (hk : K b R Φ) :
    Calls P f args w fun e w' => ∃ c, e = .returned (.bool c) ∧ ∃ R' Φ', Stable Φ' ∧ Ctx W w' (R' ++ G) Φ' ∧ K c R' Φ' :=
  h.use c fun w' c => ⟨b, rfl, R, Φ, inferInstance, c, hk⟩
theorem GivesIn.toI [Stable Φ] {n : Int} {k : IntKind} (h : GivesIn Φ P f args (.int k n)) (c : Ctx W w (R ++ G) Φ) {K : Int → List Own → PW → Prop} (hk : K n R Φ) :
    Calls P f args w fun e w' => ∃ c, e = .returned (.int k c) ∧ ∃ R' Φ', Stable Φ' ∧ Ctx W w' (R' ++ G) Φ' ∧ K c R' Φ' :=
  h.use c fun w' c => ⟨n, rfl, R, Φ, inferInstance, c, hk⟩
theorem GivesIn.toS [Stable Φ] {s : ByteArray} (h : GivesIn Φ P f args (.string s)) (c : Ctx W w (R ++ G) Φ) {K : ByteArray → List Own → PW → Prop} (hk : K s R Φ) :
    Calls P f args w fun e w' => ∃ c, e = .returned (.string c) ∧ ∃ R' Φ', Stable Φ' ∧ Ctx W w' (R' ++ G) Φ' ∧ K c R' Φ' :=
  h.use c fun w' c => ⟨s, rfl, R, Φ, inferInstance, c, hk⟩

theorem GivesIn.toBW [hs : Stable Ψ] {b : Bool} (h : GivesIn Φ P f args (.bool b)) (c : Ctx W w (R ++ G) Φ) [hw : Has Φ Ψ] {K : Bool → List Own → PW → Prop} (hk : K b R Ψ) :
    Calls P f args w fun e w' => ∃ c, e = .returned (.bool c) ∧ ∃ R' Φ', Stable Φ' ∧ Ctx W w' (R' ++ G) Φ' ∧ K c R' Φ' :=
  h.use c fun w' c => ⟨b, rfl, R, Ψ, inferInstance, c.has, hk⟩

/-- .. with the place of the slice -/
theorem GivesSl.tot [Stable Φ] {α : Type} [Gv α] {l : List α} (h : GivesSl Φ P f args l id) (c : Ctx W w (R ++ G) Φ) {K : Option Addr → Nat → Nat → List Own → PW → Prop}
    (hk : ∀ p cap, l.length ≤ cap → cap ≤ maxLen → There p l.length → Stable (fun M w => Φ M w ∧ Sl M w p l) → K p l.length cap R (fun M w => Φ M w ∧ Sl M w p l)) :
    Calls P f args w fun e w' => ∃ p n c, e = .returned (.slice p n c) ∧ ∃ R' Φ', Stable Φ' ∧ Ctx W w' (R' ++ G) Φ' ∧ K p n c R' Φ' :=
  h.use c fun p cap w' h1 h2 c => ⟨p, _, cap, rfl, R, _, inferInstance, c, hk p cap h1 h2 c.phi.2.there inferInstance⟩
/-- the end -/
theorem fin [Stable Φ] [Stable Ψ] [hw : Has Ψ Φ] {v : Value} (c : Ctx W w (R ++ G) Ψ) : v = v ∧ Ctx W w R Φ := ⟨rfl, (Ctx.has c).left⟩

end
end Go.Vc
end

/-
  The reference's sorting: in plain Lean, and walked.
-/
section
set_option linter.unusedVariables false
set_option linter.unusedSimpArgs false
namespace Go.Proofs.YtnapfhbibikbiaaDoor
open Go.Vc


/-! ### in plain Lean -/
def leD (x y : DeltaD) : Bool := decide (cmpD x y ≤ 0)
def srt : Nat → List DeltaD → List DeltaD
  | 0, l => l
  | f + 1, l => if l.length < 2 then l else List.merge (srt f (l.take (l.length / 2))) (srt f (l.drop (l.length / 2))) leD

/-! ### walked -/
/-- the cells of a pinned list -/
theorem Ctx.cells {W w : World} {S : List Own} {Φ : PW} {g o : Nat} {cs : List (List Value)} {l : List DeltaD} (c : Ctx W w S Φ) (h : ∀ M w, Φ M w → Pin g o cs l M w) :
    ∀ j, (hj : j < l.length) → ∃ p c, cs.getD j [] = l[j].cells p c ∧ l[j].row.length ≤ c ∧ c ≤ maxLen ∧ I64 l[j].time ∧ I64 l[j].n := fun j hj => by
  obtain ⟨p, q, h1, h2, h3, h4, h5, _⟩ := pin_delta (h _ _ c.phi) hj
  exact ⟨p, q, h1, h2, h3, h4, h5⟩

end Go.Proofs.YtnapfhbibikbiaaDoor
end

/-
  The reference's consolidation, and what is built upon it, walked.
-/
section
set_option linter.unusedVariables false
set_option linter.unusedSimpArgs false
namespace Go.Proofs.YtnapfhbibikbiaaDoor
open Go.Vc


/-! ### in plain Lean -/
def dz (x : DeltaD) : DE := ⟨x, none, 0⟩
theorem dz_d (s : List DeltaD) : (s.map dz).map DE.d = s := by
  rw [List.map_map]
  exact List.map_id s
abbrev CO (l s outs : List DeltaD) (i : Nat) : Prop := COuter l (s.map dz) (outs.map dz) i
theorem CO.start {l s : List DeltaD} (h : s.Perm l) : CO l s [] 0 :=
  ⟨Nat.zero_le _, Norm.nil, by simp, fun k => by rw [List.drop_zero, dz_d, dz_d]; exact findP_perm h k, Nat.le_refl _⟩
theorem CO.step {l s outs : List DeltaD} {i : Nat} (h : CO l s outs i) {X : DeltaD} (hX : X ∈ s.drop i) {j : Nat} (hij : i + j ≤ s.length) (hj : 1 ≤ j) (hk : ∀ y ∈ (s.drop i).take j, y.key = X.key) {N : Int} (hN : N = findP ((s.drop i).take j) X.key)
    (hgt : ∀ y ∈ s.drop (i + j), cmpK X.key y.key < 0) : (N = 0 → CO l s outs (i + j)) ∧ (N ≠ 0 → CO l s (outs ++ [⟨X.time, X.row, N⟩]) (i + j)) := by
  have h1 := COuter.step h (X := dz X) (by rw [← List.map_drop]; exact List.mem_map_of_mem hX) (j := j) (by rw [List.length_map]; exact hij) hj
    (fun y hy => by rw [← List.map_drop, ← List.map_take] at hy; obtain ⟨z, hz, rfl⟩ := List.mem_map.1 hy; exact hk z hz) (N := N) (by rw [← List.map_drop, ← List.map_take, dz_d]; exact hN)
    (fun y hy => by rw [← List.map_drop] at hy; obtain ⟨z, hz, rfl⟩ := List.mem_map.1 hy; exact hgt z hz)
  refine ⟨h1.1, fun h0 => ?_⟩
  have := h1.2 h0 none 0
  unfold CO
  rw [List.map_append]
  exact this
theorem CO.end {l s outs : List DeltaD} (h : CO l s outs s.length) : consP l = outs := by
  have h1 := h.norm
  have h2 := h.find
  rw [dz_d] at h1 h2
  refine consP_is h1 fun k => ?_
  have := h2 k
  rwa [← List.map_drop, List.drop_length, List.map_nil, List.map_nil, List.append_nil] at this
theorem CO.few {l s outs : List DeltaD} {i : Nat} (h : CO l s outs i) : outs.length ≤ i := by
  have := COuter.few h
  rwa [List.length_map] at this

end Go.Proofs.YtnapfhbibikbiaaDoor
end

/-
  Layings of the kit's shelf at this seat's numbers (printed by the kit's own tools).
-/
section
set_option linter.unusedVariables false
namespace Go.Proofs
open Go.Shelf

def Tryd.lays169_ren : Go.Shelf.Ren := ⟨fun | 169 => 79 | n => n, fun | 70 => 77 | 9 => 9 | 0 => 0 | 72 => 79 | 37 => 71 | 127 => 93 | 3 => 3 | 5 => 5 | n => n, fun | n => n⟩
theorem Tryd.lays169 : Go.Proofs.Lays.n169 Tryd.prog Tryd.lays169_ren := {
  mixed := by kernel_rfl
  f169 := Tryd.func79.trans (congrArg some (by kernel_rfl))
  t0 := Tryd.underlying0
  a0 := Tryd.isAgg0
  z0 := Tryd.sizeOf0
  v0 := Tryd.zeroValue0
  t3 := Tryd.underlying3
  a3 := Tryd.isAgg3
  z3 := Tryd.sizeOf3
  v3 := Tryd.zeroValue3
  t9 := Tryd.underlying9
  a9 := Tryd.isAgg9
  z9 := Tryd.sizeOf9
  v9 := Tryd.zeroValue9
  t37 := Tryd.underlying71
  a37 := Tryd.isAgg71
  z37 := Tryd.sizeOf71
  v37 := Tryd.zeroValue71
  t70 := Tryd.underlying77
  a70 := Tryd.isAgg77
  z70 := Tryd.sizeOf77
  v70 := Tryd.zeroValue77
  t72 := Tryd.underlying79
  a72 := Tryd.isAgg79
  z72 := Tryd.sizeOf79
  v72 := Tryd.zeroValue79
  t127 := Tryd.underlying93
  a127 := Tryd.isAgg93
  z127 := Tryd.sizeOf93
  v127 := Tryd.zeroValue93 }
theorem Tryd.Builder_Extra_169 : Builder.Extra Tryd.prog Tryd.lays169_ren := {
  sizeBuilder := by kernel_rfl
  liesBuilder := by kernel_rfl
  t5 := Tryd.underlying5
  a5 := Tryd.isAgg5
  z5 := Tryd.sizeOf5
  v5 := Tryd.zeroValue5
  infoByte := by kernel_rfl
  cellsByte := by kernel_rfl
  sizeByte := by kernel_rfl
  neB5 := by decide }
def Tryd.laysM171_ren : Go.Shelf.Ren := ⟨fun | 171 => 94 | 243 => 104 | 246 => 107 | 283 => 110 | 284 => 111 | 285 => 112 | 286 => 113 | 129 => 116 | 317 => 115 | 318 => 117 | 319 => 118 | 320 => 119 | 337 => 120 | 338 => 121 | n => n, fun | 3 => 3 | 9 => 9 | 2 => 2 | 4 => 4 | 171 => 104 | 0 => 0 | 53 => 105 | 37 => 71 | 5 => 5 | 173 => 108 | 212 => 112 | 51 => 113 | 20 => 20 | 213 => 114 | 46 => 102 | 232 => 117 | 233 => 118 | n => n, fun | 17 => 1 | 18 => 2 | 19 => 3 | n => n⟩
theorem Tryd.laysM171 : Go.Proofs.LaysM.n171 Tryd.prog Tryd.laysM171_ren := {
  mixed := by kernel_rfl
  f129 := Tryd.func116.trans (congrArg some (by kernel_rfl))
  f171 := Tryd.func94.trans (congrArg some (by kernel_rfl))
  f243 := Tryd.func104.trans (congrArg some (by kernel_rfl))
  f246 := Tryd.func107.trans (congrArg some (by kernel_rfl))
  f283 := Tryd.func110.trans (congrArg some (by kernel_rfl))
  f284 := Tryd.func111.trans (congrArg some (by kernel_rfl))
  f285 := Tryd.func112.trans (congrArg some (by kernel_rfl))
  f286 := Tryd.func113.trans (congrArg some (by kernel_rfl))
  f317 := Tryd.func115.trans (congrArg some (by kernel_rfl))
  f318 := Tryd.func117.trans (congrArg some (by kernel_rfl))
  f319 := Tryd.func118.trans (congrArg some (by kernel_rfl))
  f320 := Tryd.func119.trans (congrArg some (by kernel_rfl))
  f337 := Tryd.func120.trans (congrArg some (by kernel_rfl))
  f338 := Tryd.func121.trans (congrArg some (by kernel_rfl))
  t0 := Tryd.underlying0
  a0 := Tryd.isAgg0
  z0 := Tryd.sizeOf0
  v0 := Tryd.zeroValue0
  t2 := Tryd.underlying2
  a2 := Tryd.isAgg2
  z2 := Tryd.sizeOf2
  v2 := Tryd.zeroValue2
  t3 := Tryd.underlying3
  a3 := Tryd.isAgg3
  z3 := Tryd.sizeOf3
  v3 := Tryd.zeroValue3
  t4 := Tryd.underlying4
  a4 := Tryd.isAgg4
  z4 := Tryd.sizeOf4
  v4 := Tryd.zeroValue4
  t5 := Tryd.underlying5
  a5 := Tryd.isAgg5
  z5 := Tryd.sizeOf5
  v5 := Tryd.zeroValue5
  t9 := Tryd.underlying9
  a9 := Tryd.isAgg9
  z9 := Tryd.sizeOf9
  v9 := Tryd.zeroValue9
  t20 := Tryd.underlying20
  a20 := Tryd.isAgg20
  z20 := Tryd.sizeOf20
  v20 := Tryd.zeroValue20
  t37 := Tryd.underlying71
  a37 := Tryd.isAgg71
  z37 := Tryd.sizeOf71
  v37 := Tryd.zeroValue71
  t46 := Tryd.underlying102
  a46 := Tryd.isAgg102
  z46 := Tryd.sizeOf102
  v46 := Tryd.zeroValue102
  t51 := Tryd.underlying113
  a51 := Tryd.isAgg113
  z51 := Tryd.sizeOf113
  v51 := Tryd.zeroValue113
  t53 := Tryd.underlying105
  a53 := Tryd.isAgg105
  z53 := Tryd.sizeOf105
  v53 := Tryd.zeroValue105
  t171 := Tryd.underlying104
  a171 := Tryd.isAgg104
  z171 := Tryd.sizeOf104
  v171 := Tryd.zeroValue104
  t173 := Tryd.underlying108
  a173 := Tryd.isAgg108
  z173 := Tryd.sizeOf108
  v173 := Tryd.zeroValue108
  t212 := Tryd.underlying112
  a212 := Tryd.isAgg112
  z212 := Tryd.sizeOf112
  v212 := Tryd.zeroValue112
  t213 := Tryd.underlying114
  a213 := Tryd.isAgg114
  z213 := Tryd.sizeOf114
  t232 := Tryd.underlying117
  a232 := Tryd.isAgg117
  z232 := Tryd.sizeOf117
  v232 := Tryd.zeroValue117
  t233 := Tryd.underlying118
  a233 := Tryd.isAgg118
  z233 := Tryd.sizeOf118
  v233 := Tryd.zeroValue118
  g17 := by kernel_rfl
  g18 := by kernel_rfl
  g19 := by kernel_rfl
  i0 := by kernel_rfl
  i2 := by kernel_rfl
  i3 := by kernel_rfl
  i4 := by kernel_rfl
  i5 := by kernel_rfl
  i9 := by kernel_rfl
  i20 := by kernel_rfl
  i37 := by kernel_rfl
  i46 := by kernel_rfl
  i51 := by kernel_rfl
  i53 := by kernel_rfl
  i171 := by kernel_rfl
  i173 := by kernel_rfl
  i212 := by kernel_rfl
  i232 := by kernel_rfl
  i233 := by kernel_rfl
  m17 := by kernel_rfl
  m18 := by kernel_rfl
  m19 := by kernel_rfl }
def Tryd.lays171_ren : Go.Shelf.Ren := ⟨fun | 171 => 94 | 243 => 104 | 246 => 107 | 283 => 110 | 284 => 111 | 285 => 112 | 286 => 113 | 129 => 116 | 317 => 115 | 318 => 117 | 319 => 118 | 320 => 119 | 337 => 120 | 338 => 121 | n => n, fun | 3 => 3 | 9 => 9 | 2 => 2 | 4 => 4 | 171 => 104 | 0 => 0 | 53 => 105 | 37 => 71 | 5 => 5 | 173 => 108 | 212 => 112 | 51 => 113 | 20 => 20 | 213 => 114 | 46 => 102 | 232 => 117 | 233 => 118 | n => n, fun | 17 => 1 | 18 => 2 | 19 => 3 | n => n⟩
theorem Tryd.lays171 : Go.Proofs.Lays.n171 Tryd.prog Tryd.lays171_ren := {
  mixed := by kernel_rfl
  f129 := Tryd.func116.trans (congrArg some (by kernel_rfl))
  f171 := Tryd.func94.trans (congrArg some (by kernel_rfl))
  f243 := Tryd.func104.trans (congrArg some (by kernel_rfl))
  f246 := Tryd.func107.trans (congrArg some (by kernel_rfl))
  f283 := Tryd.func110.trans (congrArg some (by kernel_rfl))
  f284 := Tryd.func111.trans (congrArg some (by kernel_rfl))
  f285 := Tryd.func112.trans (congrArg some (by kernel_rfl))
  f286 := Tryd.func113.trans (congrArg some (by kernel_rfl))
  f317 := Tryd.func115.trans (congrArg some (by kernel_rfl))
  f318 := Tryd.func117.trans (congrArg some (by kernel_rfl))
  f319 := Tryd.func118.trans (congrArg some (by kernel_rfl))
  f320 := Tryd.func119.trans (congrArg some (by kernel_rfl))
  f337 := Tryd.func120.trans (congrArg some (by kernel_rfl))
  f338 := Tryd.func121.trans (congrArg some (by kernel_rfl))
  t0 := Tryd.underlying0
  a0 := Tryd.isAgg0
  z0 := Tryd.sizeOf0
  v0 := Tryd.zeroValue0
  t2 := Tryd.underlying2
  a2 := Tryd.isAgg2
  z2 := Tryd.sizeOf2
  v2 := Tryd.zeroValue2
  t3 := Tryd.underlying3
  a3 := Tryd.isAgg3
  z3 := Tryd.sizeOf3
  v3 := Tryd.zeroValue3
  t4 := Tryd.underlying4
  a4 := Tryd.isAgg4
  z4 := Tryd.sizeOf4
  v4 := Tryd.zeroValue4
  t5 := Tryd.underlying5
  a5 := Tryd.isAgg5
  z5 := Tryd.sizeOf5
  v5 := Tryd.zeroValue5
  t9 := Tryd.underlying9
  a9 := Tryd.isAgg9
  z9 := Tryd.sizeOf9
  v9 := Tryd.zeroValue9
  t20 := Tryd.underlying20
  a20 := Tryd.isAgg20
  z20 := Tryd.sizeOf20
  v20 := Tryd.zeroValue20
  t37 := Tryd.underlying71
  a37 := Tryd.isAgg71
  z37 := Tryd.sizeOf71
  v37 := Tryd.zeroValue71
  t46 := Tryd.underlying102
  a46 := Tryd.isAgg102
  z46 := Tryd.sizeOf102
  v46 := Tryd.zeroValue102
  t51 := Tryd.underlying113
  a51 := Tryd.isAgg113
  z51 := Tryd.sizeOf113
  v51 := Tryd.zeroValue113
  t53 := Tryd.underlying105
  a53 := Tryd.isAgg105
  z53 := Tryd.sizeOf105
  v53 := Tryd.zeroValue105
  t171 := Tryd.underlying104
  a171 := Tryd.isAgg104
  z171 := Tryd.sizeOf104
  v171 := Tryd.zeroValue104
  t173 := Tryd.underlying108
  a173 := Tryd.isAgg108
  z173 := Tryd.sizeOf108
  v173 := Tryd.zeroValue108
  t212 := Tryd.underlying112
  a212 := Tryd.isAgg112
  z212 := Tryd.sizeOf112
  v212 := Tryd.zeroValue112
  t213 := Tryd.underlying114
  a213 := Tryd.isAgg114
  z213 := Tryd.sizeOf114
  t232 := Tryd.underlying117
  a232 := Tryd.isAgg117
  z232 := Tryd.sizeOf117
  v232 := Tryd.zeroValue117
  t233 := Tryd.underlying118
  a233 := Tryd.isAgg118
  z233 := Tryd.sizeOf118
  v233 := Tryd.zeroValue118
  g17 := by kernel_rfl
  g18 := by kernel_rfl
  g19 := by kernel_rfl }
def Tryd.laysNm220_ren : Go.Shelf.Ren := ⟨fun | 20 => 71 | n => n, fun | 22 => 43 | 3 => 3 | 4 => 4 | 0 => 0 | n => n, fun | n => n⟩
end Go.Proofs
end

/-
  The walks of strings.Builder, of the decimal form of ints, and of the encodings of ints and texts.
-/
section
set_option linter.unusedVariables false
set_option linter.unusedSimpArgs false
namespace Go.Proofs.YtnapfhbibikbiaaDoor
open Go.Vc


abbrev BdT (b : Nat) (l : List UInt8) (R : List Own) : Prop := Bd 79 5 b l R

theorem bd_info : ∃ j, Tryd.prog.info? 79 = some j ∧ j.size = 2 := by
  have h : (Tryd.prog.info? 79).map (·.size) = some 2 := by kernel_rfl
  exact Option.map_eq_some_iff.1 h

set_option maxHeartbeats 1000000 in
set_option maxRecDepth 100000 in
theorem copyCheck_used (b : Nat) (w : World) (h0 : w.cell? ⟨b, 0, none⟩ = some (.pointer (some ⟨b, 0, none⟩))) :
    Calls Tryd.prog 93 #[.pointer (some ⟨b, 0, none⟩)] w fun e w' => e = .returned (.tuple #[]) ∧ w' = w := by
  obtain ⟨j, hj, _⟩ := bd_info
  go_enter Tryd.func93, Tryd.ntmps93
  go_wp2
  rw [Lib.run_neq_ptr_same w _ Tryd.underlying77 hj]
  go_wp2
  go_end0
  exact ⟨rfl, rfl⟩

set_option maxHeartbeats 1000000 in
set_option maxRecDepth 100000 in
theorem copyCheck_fresh (b : Nat) (w : World) (h0 : w.cell? ⟨b, 0, none⟩ = some (.pointer none)) (hsh : w.shape? b = some (79, 2)) (hfz : w.frozen? ⟨b, 0, none⟩ = false) :
    Calls Tryd.prog 93 #[.pointer (some ⟨b, 0, none⟩)] w fun e w' => e = .returned (.tuple #[]) ∧ w' = w.setCell ⟨b, 0, none⟩ (.pointer (some ⟨b, 0, none⟩)) := by
  obtain ⟨j, hj, hjs⟩ := bd_info
  go_enter Tryd.func93, Tryd.ntmps93
  go_wp2
  rw [Lib.run_to_unsafe w ⟨b, 0, none⟩ Tryd.underlying77 Tryd.underlying99 hj (by rw [hjs]; decide) hsh (Nat.zero_lt_succ 1)]
  simp only [Result.andThen]
  rw [Oper.upon_value]
  go_wp2
  rw [run_callFunc_extern Tryd.func103 (by kernel_rfl) (by kernel_rfl) (by kernel_rfl) (e := Extern.AbiNoEscape.same) (by kernel_rfl)]
  rw [Lib.run_noEscape]
  simp only [Result.andThen]
  rw [Oper.upon_value]
  go_wp2
  rw [Lib.run_from_unsafe w ⟨b, 0, none⟩ Tryd.underlying99 Tryd.underlying77 hj hsh (by kernel_rfl)]
  simp only [Result.andThen]
  rw [Oper.upon_value]
  go_wp2
  go_end0
  exact ⟨rfl, rfl⟩

theorem copyCheck_use {W w : World} {S : List Own} {Φ : PW} [Stable Φ] {b : Nat} {pa v : Value} (hp : pa = .pointer none ∨ pa = .pointer (some ⟨b, 0, none⟩)) (c : Ctx W w (.blk b [pa, v] 79 :: S) Φ) {K : Ending → World → Prop}
    (hk : ∀ w', Ctx W w' (.blk b [.pointer (some ⟨b, 0, none⟩), v] 79 :: S) Φ → K (.returned (.tuple #[])) w') : Calls Tryd.prog F.strings_Builder_copyCheck #[.pointer (some ⟨b, 0, none⟩)] w K := by
  have hb : w.heap[b]? = some (.cells #[pa, v] 79 (0, 0)) := c.blk 0 rfl
  rcases hp with rfl | rfl
  · exact (copyCheck_fresh b w (c.get 0 rfl rfl) (by simp [World.shape?, hb]) (by simp [World.frozen?, hb])).mono fun e w' ⟨he, hw⟩ => by
      subst he
      exact hk w' (c.put 0 hw rfl)
  · exact (copyCheck_used b w (c.get 0 rfl rfl)).mono fun e w' ⟨he, hw⟩ => by
      subst he; subst hw
      exact hk w' c

theorem byte_info : ∃ i, Tryd.prog.info? 5 = some i ∧ i.zero = some (.int .u8 0) ∧ i.size = 1 ∧ i.bytes = 1 := by
  have h : (Tryd.prog.info? 5).map (fun i => (i.zero, i.size, i.bytes)) = some (some (.int .u8 0), 1, 1) := by kernel_rfl
  obtain ⟨i, hi, he⟩ := Option.map_eq_some_iff.1 h
  simp only [Prod.mk.injEq] at he
  exact ⟨i, hi, he⟩

theorem strCells_bytes (s : ByteArray) : Lib.strCells s = Lib.byteCells s.data.toList := rfl

theorem WriteString_use {W w : World} {S R : List Own} {Φ : PW} [Stable Φ] {b : Nat} {l : List UInt8} (s : ByteArray) (h : BdT b l R) (c : Ctx W w (R ++ S) Φ) (hlen : l.length + s.size ≤ 100000000000) {K : Ending → World → Prop}
    (hk : ∀ R' w', BdT b (l ++ s.data.toList) R' → Ctx W w' (R' ++ S) Φ → K (.returned (.tuple #[.int .i64 s.size, .nilIface])) w') : Calls Tryd.prog F.strings_Builder_WriteString #[.pointer (some ⟨b, 0, none⟩), .string s] w K := by
  obtain ⟨pa, p, cap, hpa, rfl⟩ := h
  obtain ⟨i, hi, hz, hsz, hby⟩ := byte_info
  refine (Bstrings_Builder_WriteString_run b 0 s (J := fun u w' => K (.returned u) w') c ?_).mono fun e w' ⟨v, he, hj⟩ => by rw [he]; exact hj
  refine fun w G c => copyCheck_use hpa c fun w c => ⟨rfl, [.blk b [.pointer (some ⟨b, 0, none⟩), .slice p l.length cap] 79, .buf p l.length cap (Lib.byteCells l) 5 1] ++ S, Φ, inferInstance, c, fun w G c => ⟨p, l.length, cap, c.get 0 rfl rfl, fun w G c => ?_⟩⟩
  obtain ⟨p', cap', w', hrun, c'⟩ := Ctx.appStr (P := Tryd.prog) (t := 71) (u := 9) (ty := 71) (kb := #[false, false]) (c.swap) Tryd.underlying71 Tryd.underlying9 hi hz hsz hby s (by omega) (by unfold maxLen; omega)
  refine ⟨p', _, cap', w', hrun, [.blk b [.pointer (some ⟨b, 0, none⟩), .slice p l.length cap] 79, .buf p' (l.length + s.size) cap' (Lib.byteCells l ++ Lib.strCells s) 5 1] ++ S, Φ, inferInstance, c'.swap, fun w G c => ⟨c.can 0 rfl (by simp), fun w' hw' => ?_⟩⟩
  refine ⟨[.blk b [.pointer (some ⟨b, 0, none⟩), .slice p' (l.length + s.size) cap'] 79, .buf p' (l.length + s.size) cap' (Lib.byteCells l ++ Lib.strCells s) 5 1] ++ S, Φ, inferInstance, c.put 0 hw' rfl, fun w G c => hk [.blk b [.pointer (some ⟨b, 0, none⟩), .slice p' (l.length + s.size) cap'] 79, .buf p' (l.length + s.size) cap' (Lib.byteCells l ++ Lib.strCells s) 5 1] w ⟨_, p', cap', .inr rfl, ?_⟩ c.left⟩
  have hl : (l ++ s.data.toList).length = l.length + s.size := by rw [List.length_append, Array.length_toList]; rfl
  rw [hl, strCells_bytes, Lib.byteCells_append]

theorem String_use {W w : World} {S R : List Own} {Φ : PW} [Stable Φ] {b : Nat} {l : List UInt8} (h : BdT b l R) (c : Ctx W w (R ++ S) Φ) {K : Ending → World → Prop}
    (hk : ∀ w', Ctx W w' S Φ → K (.returned (.string ⟨l.toArray⟩)) w') : Calls Tryd.prog F.strings_Builder_String #[.pointer (some ⟨b, 0, none⟩)] w K :=
  Bd.string Tryd.lays169 Tryd.Builder_Extra_169 h c hk

end Go.Proofs.YtnapfhbibikbiaaDoor
end

/-
  The encodings of ints, texts, values and rows: in plain Lean, and walked.
-/
section
set_option linter.unusedVariables false
set_option linter.unusedSimpArgs false
namespace Go.Vc
theorem GivesIn.know {Φ : PW} {P : Program} {f : FuncId} {args : Array Value} {v : Value} {p : Prop} (hΦ : ∀ M w, Φ M w → p) (h : p → GivesIn Φ P f args v) : GivesIn Φ P f args v :=
  ⟨fun W w S c => (h (hΦ _ _ c.phi)).go W w S c⟩
theorem GivesSl.know {Φ : PW} {P : Program} {f : FuncId} {args : Array Value} {α : Type} [Gv α] {l : List α} {mk : Value → Value} {p : Prop} (hΦ : ∀ M w, Φ M w → p) (h : p → GivesSl Φ P f args l mk) : GivesSl Φ P f args l mk :=
  ⟨fun W w S c => (h (hΦ _ _ c.phi)).go W w S c⟩
theorem GivesNew.know {Φ : PW} {P : Program} {f : FuncId} {args : Array Value} {α : Type} [Gv α] {l : List α} {t : TypeId} {p : Prop} (hΦ : ∀ M w, Φ M w → p) (h : p → GivesNew Φ P f args l t) : GivesNew Φ P f args l t :=
  ⟨fun W w S c => (h (hΦ _ _ c.phi)).go W w S c⟩
end Go.Vc
namespace Go.Proofs.YtnapfhbibikbiaaDoor
open Go.Vc

/-! ### in plain Lean -/
def numB (n : Int) : ByteArray := ⟨(Lib.itoa n).toArray⟩
def intB (n : Int) : ByteArray := numB n ++ ByteArray.mk #[59]
def natB (n : Int) : ByteArray := if n < 0 then ByteArray.mk #[] else intB n
def textB (s : ByteArray) : ByteArray := numB s.size ++ ByteArray.mk #[58] ++ s ++ ByteArray.mk #[44]
def valB (v : ValD) : ByteArray := intB v.kind ++ intB v.num ++ textB v.text
def valsL (r : List ValD) : List UInt8 := r.flatMap fun v => (valB v).data.toList
def rowL (r : List ValD) : List UInt8 := (natB r.length).data.toList ++ valsL r
def rowB (r : List ValD) : ByteArray := ⟨(rowL r).toArray⟩

theorem size_app (a b : ByteArray) : (a ++ b).size = a.size + b.size := ByteArray.size_append
theorem size_list (l : List UInt8) : (ByteArray.mk l.toArray).size = l.length := by simp [ByteArray.size]
theorem list_size (a : ByteArray) : a.data.toList.length = a.size := by rw [Array.length_toList]; rfl

theorem nDigits_le : ∀ (k u : Nat), u < 10 ^ k → 0 < k → Lib.nDigits u ≤ k
  | 0, u, _, h => by omega
  | k + 1, u, h, _ => by
    by_cases h1 : u < 10
    · rw [Lib.nDigits_small h1]; omega
    · rw [Lib.nDigits_big h1]
      have hk : 0 < k := by
        rcases Nat.eq_zero_or_pos k with rfl | h2
        · simp at h; omega
        · exact h2
      have := nDigits_le k (u / 10) (by rw [Nat.pow_succ] at h; omega) hk
      omega

theorem itoa_len {n : Int} (h : I64 n) : 1 ≤ (Lib.itoa n).length ∧ (Lib.itoa n).length ≤ 20 := by
  unfold I64 at h
  unfold Lib.itoa
  split
  · have h1 := nDigits_le 19 n.natAbs (by omega) (by decide)
    have h2 := Lib.nDigits_pos n.natAbs
    rw [List.length_cons, Lib.decDigits_length]; omega
  · have h1 := nDigits_le 19 n.toNat (by omega) (by decide)
    have h2 := Lib.nDigits_pos n.toNat
    rw [Lib.decDigits_length]; omega

theorem numB_size {n : Int} (h : I64 n) : 1 ≤ (numB n).size ∧ (numB n).size ≤ 20 := by
  unfold numB; rw [size_list]; exact itoa_len h
theorem intB_size {n : Int} (h : I64 n) : 2 ≤ (intB n).size ∧ (intB n).size ≤ 21 := by
  have := numB_size h
  have e : (ByteArray.mk #[59]).size = 1 := rfl
  unfold intB; rw [size_app, e]; omega
theorem natB_size {n : Int} (h : I64 n) : (natB n).size ≤ 21 := by
  unfold natB
  split
  · exact Nat.zero_le _
  · exact (intB_size h).2
theorem textB_size {s : ByteArray} (h : s.size ≤ 9223372036854775807) : (textB s).size ≤ s.size + 22 ∧ s.size + 3 ≤ (textB s).size := by
  have := numB_size (n := s.size) (by unfold I64; omega)
  have e : (ByteArray.mk #[58]).size = 1 := rfl
  have e2 : (ByteArray.mk #[44]).size = 1 := rfl
  unfold textB; rw [size_app, size_app, size_app, e, e2]; omega
theorem valB_size {v : ValD} (h1 : I64 v.kind) (h2 : I64 v.num) (h : v.text.size ≤ 9223372036854775807) : (valB v).size ≤ v.text.size + 64 := by
  have a := intB_size h1
  have b := intB_size h2
  have c := textB_size h
  unfold valB; rw [size_app, size_app]; omega

theorem valsL_app (a b : List ValD) : valsL (a ++ b) = valsL a ++ valsL b := by simp [valsL]
theorem valsL_one (v : ValD) : valsL [v] = (valB v).data.toList := by simp [valsL]
theorem valsL_len {m : Nat} : ∀ {r : List ValD}, (∀ v ∈ r, (I64 v.kind ∧ I64 v.num) ∧ v.text.size ≤ m) → m ≤ 9223372036854775807 → (valsL r).length ≤ r.length * (m + 64)
  | [], _, _ => by simp [valsL]
  | v :: r, h, hm => by
    have h1 := valsL_len (r := r) (fun u hu => h u (List.mem_cons_of_mem _ hu)) hm
    obtain ⟨⟨a, b⟩, c⟩ := h v List.mem_cons_self
    have h2 := valB_size a b (by omega)
    have e : valsL (v :: r) = (valB v).data.toList ++ valsL r := by simp [valsL]
    rw [e, List.length_append, list_size, List.length_cons, Nat.add_mul]
    omega
theorem rowL_len {m : Nat} {r : List ValD} (h : ∀ v ∈ r, (I64 v.kind ∧ I64 v.num) ∧ v.text.size ≤ m) (hm : m ≤ 9223372036854775807) (hr : r.length ≤ 1000000) : (rowL r).length ≤ 21 + r.length * (m + 64) := by
  have h1 := valsL_len h hm
  have h2 := natB_size (n := (r.length : Int)) (by unfold I64; omega)
  unfold rowL; rw [List.length_append, list_size]; omega

/-! ### walked -/
theorem rep_val {M : List Nat} {w : World} {cs : List Value} {v : ValD} (h : Gv.rep M w cs v) : cs = [.int .i64 v.kind, .int .i64 v.num, .string v.text] ∧ I64 v.kind ∧ I64 v.num ∧ v.text.size ≤ maxLen := by
  obtain ⟨_, _, rfl, ⟨rfl, h1⟩, _, _, rfl, ⟨rfl, h2⟩, rfl, h3⟩ := h
  exact ⟨rfl, h1, h2, h3⟩

theorem sl_i64 {M : List Nat} {w : World} {p : Option Addr} {l : List ValD} (h : Sl M w p l) : ∀ v ∈ l, (I64 v.kind ∧ I64 v.num) ∧ v.text.size ≤ maxLen := by
  intro v hv
  obtain ⟨i, hi, rfl⟩ := List.getElem_of_mem hv
  obtain ⟨_, _, _, _, _, _, hr⟩ := h i hi
  obtain ⟨_, h1, h2, h3⟩ := rep_val hr
  exact ⟨⟨h1, h2⟩, h3⟩

abbrev tabN : String := ((Rows.deltaGroupRow.laid.map Prod.fst).drop 2).headD default
/-- the table of the powers of ten lies there -/
abbrev TabI : PW := Tab Tryd.prog tabN .u64 Lib.pow10Tab

theorem Itoa_in {Φ : PW} [Stable Φ] (hΦ : ∀ M w, Φ M w → TabI M w) (n : Int) (h : I64 n) : GivesIn Φ Tryd.prog F.strconv_Itoa #[.int .i64 n] (.string (numB n)) :=
  itoa_in (name := tabN) (fun n h0 h1 w ht => Any.strconv_Itoa Tryd.laysM171 n h0 h1 w ht) hΦ n h

theorem Itoa_small (i : Nat) (hi : i < 100) : Gives Tryd.prog F.strconv_Itoa #[.int .i64 i] (.string (numB i)) :=
  Quiet.gives ⟨fun w => by
    have h := Any.strconv_Itoa_small { Tryd.lays171 with } i hi w
    rw [← Lib.itoa_nonneg] at h
    exact h⟩

/-- ints that the library writes: at these places, or small ones -/
def Dec (Φ : PW) (n : Int) : Prop := (∀ M w, Φ M w → TabI M w) ∧ I64 n ∨ ∃ i : Nat, i < 100 ∧ n = i

theorem Itoa_dec {Φ : PW} [Stable Φ] {n : Int} (h : Dec Φ n) : GivesIn Φ Tryd.prog F.strconv_Itoa #[.int .i64 n] (.string (numB n)) := by
  rcases h with ⟨h1, h2⟩ | ⟨i, hi, rfl⟩
  · exact Itoa_in h1 n h2
  · exact (Itoa_small i hi).in
theorem Dec.i64 {Φ : PW} {n : Int} (h : Dec Φ n) : I64 n := by
  rcases h with ⟨_, h2⟩ | ⟨i, hi, rfl⟩
  · exact h2
  · unfold I64; omega

theorem Int_in {Φ : PW} [Stable Φ] {n : Int} (h : Dec Φ n) : GivesIn Φ Tryd.prog F.wire_Int #[.int .i64 n] (.string (intB n)) := by
  refine gives_in (Bwire_Int_run n) fun W R => ?_
  have := numB_size h.i64
  exact fun w G cx => (Itoa_dec h).use cx fun w cx => ⟨_, rfl, R, Φ, inferInstance, cx, by show (numB n).size + 1 ≤ _; omega, fun w G cx => ⟨rfl, cx.left⟩⟩

theorem Num_in {Φ : PW} [Stable Φ] {n : Int} (h : Dec Φ n) : GivesIn Φ Tryd.prog F.wire_Num #[.int .i64 n] (.string (natB n)) := by
  refine gives_in (Bwire_Num_run n) fun W R => Br.intro (fun hn => fun w G cx => ⟨?_, cx.left⟩) (fun hn => fun w G cx => (Int_in h).use cx fun w cx => ⟨_, rfl, R, Φ, inferInstance, cx, fun w G cx => ⟨?_, cx.left⟩⟩)
  · unfold natB; rw [if_pos (of_decide_eq_true hn)]
  · unfold natB; rw [if_neg (of_decide_eq_false hn)]

theorem Text_in {Φ : PW} [Stable Φ] {s : ByteArray} (h : Dec Φ s.size) (hs : s.size ≤ 1000000000000) : GivesIn Φ Tryd.prog F.wire_Text #[.string s] (.string (textB s)) := by
  refine gives_in (Bwire_Text_run s) fun W R => ?_
  have h1 := numB_size h.i64
  have e : (ByteArray.mk #[58]).size = 1 := rfl
  have e2 : (ByteArray.mk #[44]).size = 1 := rfl
  exact fun w G cx => (Itoa_dec h).use cx fun w cx => ⟨_, rfl, R, Φ, inferInstance, cx, by show (numB s.size).size + 1 ≤ _; omega, by show (numB s.size ++ ByteArray.mk #[58]).size + s.size ≤ _; rw [size_app, e]; omega, by show (numB s.size ++ ByteArray.mk #[58] ++ s).size + 1 ≤ _; rw [size_app, size_app, e]; omega, fun w G cx => ⟨rfl, cx.left⟩⟩

theorem Bytes_in {Φ : PW} [Stable Φ] (v : ValD) (hΦ : ∀ M w, Φ M w → TabI M w) (h1 : I64 v.kind) (h2 : I64 v.num) (hs : v.text.size ≤ 1000000000000) : GivesIn Φ Tryd.prog F.value_Bytes #[v.v] (.string (valB v)) := by
  refine gives_in (Bvalue_Bytes_run v.kind v.num v.text) fun W R => ?_
  have a := intB_size h1
  have b := intB_size h2
  have c := textB_size (s := v.text) (by omega)
  exact fun _ => ⟨R, Φ, inferInstance, fun w G cx => cx, fun w G cx => (Int_in (.inl ⟨hΦ, h1⟩)).use cx fun w cx => ⟨_, rfl, R, Φ, inferInstance, cx, fun w G cx => cx, fun w G cx => (Int_in (.inl ⟨hΦ, h2⟩)).use cx fun w cx => ⟨_, rfl, R, Φ, inferInstance, cx, fun w G cx => cx, by show (intB v.kind).size + (intB v.num).size ≤ _; omega,
    fun w G cx => (Text_in (.inl ⟨hΦ, by unfold I64; omega⟩) hs).use cx fun w cx => ⟨_, rfl, R, Φ, inferInstance, cx, fun w G cx => cx, by show (intB v.kind ++ intB v.num).size + (textB v.text).size ≤ _; rw [size_app]; omega, fun w G cx => ⟨rfl, cx.left⟩⟩⟩⟩⟩

theorem RowBytes_in {Φ : PW} [Stable Φ] (p : Option Addr) (cap : Nat) (r : List ValD) (hT : ∀ M w, Φ M w → TabI M w) (hΦ : ∀ M w, Φ M w → Sl M w p r) (hr : r.length ≤ 1000000) (ht : ∀ v ∈ r, v.text.size ≤ 10000) :
    GivesIn Φ Tryd.prog F.value_RowBytes #[.slice p r.length cap] (.string (rowB r)) := by
  refine .there (fun M w h => (hΦ M w h).there) fun hth => .know (fun M w h => sl_i64 (hΦ M w h)) fun hi => ?_
  have hv : ∀ v ∈ r, (I64 v.kind ∧ I64 v.num) ∧ v.text.size ≤ 10000 := fun v h => ⟨(hi v h).1, ht v h⟩
  have hL := rowL_len hv (by decide) hr
  have hL : (rowL r).length ≤ 20000000000 := by
    have : r.length * (10000 + 64) ≤ 1000000 * 10064 := Nat.mul_le_mul hr (Nat.le_refl _)
    omega
  have hnat : (natB r.length).data.toList.length ≤ 20000000000 := by unfold rowL at hL; rw [List.length_append] at hL; omega
  refine gives_in (Bvalue_RowBytes_run p r.length cap) fun W R => ?_
  refine fun b w G cx => (Num_in (Φ := Φ) (.inl ⟨hT, by unfold I64; omega⟩)).use cx fun w cx => ⟨_, rfl, .blk b [.pointer none, .slice none 0 0] 79 :: R, Φ, inferInstance, cx, fun w G cx => ?_⟩
  refine WriteString_use (natB r.length) Bd.nil (Bd.fresh cx) (by rw [← list_size]; simp only [List.length_nil]; omega) fun R1 w hB cx => ⟨_, _, rfl, R1 ++ R, Φ, inferInstance, by rw [List.append_assoc]; exact cx, ?_⟩
  rw [List.nil_append] at hB
  clear cx
  refine exI_mk (fun iI R' Φ' k => ∃ (i : Nat) (Q : List Own), iI = i ∧ i ≤ r.length ∧ BdT b ((natB r.length).data.toList ++ valsL (r.take i)) Q ∧ R' = Q ++ R ∧ Φ' = Φ ∧ k = r.length - i) ⟨⟨_, Φ, _, inferInstance, fun w G cx => cx, 0, R1, rfl, Nat.zero_le _, by rw [List.take_zero, show valsL [] = [] from rfl, List.append_nil]; exact hB, rfl, rfl, rfl⟩, ?_⟩
  rintro iI R2 Φ2 k _ ⟨i, Q, rfl, hi, hQ, rfl, rfl, rfl⟩
  refine Br.intro (fun hlt => ?_) (fun hge => fun w G cx => ?_)
  · have hlt : i < r.length := by have := of_decide_eq_true hlt; omega
    obtain ⟨g, o, rfl⟩ := hth (by omega)
    obtain ⟨⟨h1, h2⟩, h3⟩ := hv r[i] (List.getElem_mem hlt)
    have hsz := valB_size h1 h2 (by omega)
    have hlen : ((natB r.length).data.toList ++ valsL (r.take (i + 1))).length ≤ 20000000000 := by
      have e : valsL r = valsL (r.take (i + 1)) ++ valsL (r.drop (i + 1)) := by rw [← valsL_app, List.take_append_drop]
      unfold rowL at hL
      rw [e, List.length_append, List.length_append] at hL
      rw [List.length_append]; omega
    have hstep : valsL (r.take (i + 1)) = valsL (r.take i) ++ (valB r[i]).data.toList := by rw [List.take_succ_eq_append_getElem hlt, valsL_app, valsL_one]
    refine ⟨by omega, ptrK_intro g o rfl fun w G cx => ⟨r[i].kind, r[i].num, r[i].text, by rw [Int.toNat_natCast]; exact sl_val (hΦ _ _ cx.phi) hlt, fun _ w G cx => (Bytes_in (Φ := Φ2) r[i] hT h1 h2 (by omega)).use cx fun w cx => ⟨_, rfl, Q ++ R, Φ2, inferInstance, cx, fun w G cx => ?_⟩⟩⟩
    refine WriteString_use (valB r[i]) hQ (cx.re (List.append_assoc _ _ _)) (by rw [hstep, ← List.append_assoc, List.length_append, list_size] at hlen; omega) fun Q' w hQ' cx => ⟨_, _, rfl, Q' ++ R, Φ2, inferInstance, by rw [List.append_assoc]; exact cx, by unfold I64; omega, _, Φ2, r.length - (i + 1), inferInstance, fun w G cx => cx, ⟨i + 1, Q', by omega, hlt, ?_, rfl, rfl, rfl⟩, by omega⟩
    rw [hstep, ← List.append_assoc]; exact hQ'
  · have hge : i = r.length := by have := of_decide_eq_false hge; omega
    subst hge
    rw [List.take_length] at hQ
    exact String_use hQ (cx.re (List.append_assoc _ _ _)) fun w cx => ⟨_, rfl, R, Φ2, inferInstance, cx, fun w G cx => ⟨rfl, cx.left⟩⟩

end Go.Proofs.YtnapfhbibikbiaaDoor
end

/-
  Find, IndexFunc, walked.
-/
section
set_option linter.unusedVariables false
set_option linter.unusedSimpArgs false
namespace Go.Proofs.YtnapfhbibikbiaaDoor
open Go.Vc


/-! ### Find, Count -/
def findI {α : Type} (p : α → Bool) : Nat → List α → Int
  | _, [] => -1
  | i, x :: r => if p x = true then (i : Int) else findI p (i + 1) r

end Go.Proofs.YtnapfhbibikbiaaDoor
end

/-
  DeleteFunc, Upto, After, walked.
-/
section
set_option linter.unusedVariables false
set_option linter.unusedSimpArgs false
namespace Go.Vc
section
variable {P : Program} {W w w' : World} {S F : List Own} {Φ Ψ : PW}

end
end Go.Vc

namespace Go.Proofs.YtnapfhbibikbiaaDoor
open Go.Vc


/-! ### Upto, After -/
abbrev lowP (l : List DeltaD) (t : Int) : List DeltaD := l.filter fun x : DeltaD => decide (x.time ≤ t)
abbrev highP (l : List DeltaD) (t : Int) : List DeltaD := l.filter fun x : DeltaD => decide (t < x.time)
def uptoP (l : List DeltaD) (t : Int) : List DeltaD := consP (lowP l t)
def afterP (l : List DeltaD) (t : Int) : List DeltaD := consP (highP l t)

end Go.Proofs.YtnapfhbibikbiaaDoor
end

/-
  few, Bytes, small, walked.
-/
section
set_option linter.unusedVariables false
set_option linter.unusedSimpArgs false
namespace Go.Proofs.YtnapfhbibikbiaaDoor
open Go.Vc


/-! ### few -/
def shortR (r : List ValD) : Bool := r.all fun v => decide (v.text.size ≤ 200)
def okRow28 (r : List ValD) : Bool := (shortR r && decide ((r.length : Int) ≤ 10)) && rightR r
def fewP (l : List DeltaD) (n : Int) : Bool := decide ((l.length : Int) ≤ n) && l.all fun x => okRow28 x.row

/-! ### Bytes -/
def deltaB (x : DeltaD) : ByteArray := intB x.time ++ textB (rowB x.row) ++ intB x.n
def deltasL (l : List DeltaD) : List UInt8 := l.flatMap fun x => (deltaB x).data.toList
def bytesL (l : List DeltaD) : List UInt8 := (natB (consP l).length).data.toList ++ deltasL (consP l)

/-- what Bytes can write -/
def Fit (x : DeltaD) : Prop := x.row.length ≤ 10000 ∧ ∀ v ∈ x.row, v.text.size ≤ 10000

theorem rowB_size {r : List ValD} (hi : ∀ v ∈ r, (I64 v.kind ∧ I64 v.num) ∧ v.text.size ≤ maxLen) (h1 : r.length ≤ 10000) (h2 : ∀ v ∈ r, v.text.size ≤ 10000) : (rowB r).size ≤ 200000000 := by
  have hv : ∀ v ∈ r, (I64 v.kind ∧ I64 v.num) ∧ v.text.size ≤ 10000 := fun v h => ⟨(hi v h).1, h2 v h⟩
  have hL := rowL_len hv (by decide) (by omega)
  have : r.length * (10000 + 64) ≤ 10000 * 10064 := Nat.mul_le_mul h1 (Nat.le_refl _)
  unfold rowB
  rw [size_list]; omega
/-! ### with answers that are known -/
theorem AddH {Φ : PW} [Stable Φ] {p : Option Addr} {cap : Nat} {a : List DeltaD} {q : Option Addr} {cap2 : Nat} {b : List DeltaD} [hΦ : Has Φ (fun M w => Sl M w p a)] [hΨ : Has Φ (fun M w => Sl M w q b)] (h1 : a.length ≤ cap) (h2 : cap ≤ maxLen) (h3 : b.length ≤ cap2) (h4 : cap2 ≤ maxLen)
    (ha : a.length ≤ 400000) (hb : b.length ≤ 400000) (hra : Rows1 a) (hrb : Rows1 b) : GivesSl Φ Tryd.prog F.delta_Add #[.slice p a.length cap, .slice q b.length cap2] (addP a b) id := Add_sl p cap a q cap2 b hΦ.go hΨ.go h1 h2 h3 h4 ha hb hra hrb
theorem ConH {Φ : PW} [Stable Φ] {p : Option Addr} {cap : Nat} {a : List DeltaD} [hΦ : Has Φ (fun M w => Sl M w p a)] (ha : a.length ≤ 1000000) (hra : Rows1 a) : GivesSl Φ Tryd.prog F.delta_Consolidate #[.slice p a.length cap] (consP a) id := Consolidate_sl p cap a hΦ.go ha hra
/-! ### small -/
abbrev v7 : List ValD := [⟨0, 7, ByteArray.mk #[]⟩]
abbrev sA : List DeltaD := [⟨3, v7, 1⟩]
abbrev sB : List DeltaD := [⟨3, v7, -1⟩]
end Go.Proofs.YtnapfhbibikbiaaDoor
end

/-
  Count, Multiset, Compact, Times, walked.
-/
section
set_option linter.unusedVariables false
set_option linter.unusedSimpArgs false
namespace Go.Proofs.YtnapfhbibikbiaaDoor
open Go.Vc


def sumN : List DeltaD → Int
  | [] => 0
  | x :: l => x.n + sumN l
def countP (l : List DeltaD) : Int := w64 (sumN l)

/-! ### Multiset -/
def multiP (l : List DeltaD) : Bool := !(consP l).any fun x => decide (x.n < 0)

/-! ### Compact -/
abbrev intv (x : Int) : Value := .int .i64 x
abbrev bufZ (p : Option Addr) (cap : Nat) (zs : List Int) : Own := .buf p zs.length cap (zs.map intv) 3 1

/-! ### Times -/
abbrev tmv (x : DeltaD) : Value := intv x.time
def timesP (l : List DeltaD) : List Int := Lib.compact ((consP l).map DeltaD.time)

end Go.Proofs.YtnapfhbibikbiaaDoor
end

/-
  The reference's writer of encodings, walked.
-/
section
set_option linter.unusedVariables false
set_option linter.unusedSimpArgs false
namespace Go.Proofs.YtnapfhbibikbiaaDoor
open Go.Vc


end Go.Proofs.YtnapfhbibikbiaaDoor
end

