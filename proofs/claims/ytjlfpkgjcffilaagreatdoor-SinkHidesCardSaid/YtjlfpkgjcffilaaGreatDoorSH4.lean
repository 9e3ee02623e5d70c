/-
  The conditions of the walks of some functions, one formula each; 'B<f>_run' says that they suffice. The formulas are printed by a program; the kernel compares them with the functions' code.
-/
import Derived.Test.YtjlfpkgjcffilaaGreatDoorSH3

section
namespace Go.Proofs.YtjlfpkgjcffilaaGreatDoor
set_option linter.unusedVariables false
set_option linter.unusedSimpArgs false
set_option maxRecDepth 100000
open Go.Vc

/-- erratalaw43.SinkHides -/
-- loop at region 7: 5 last, 6 i; blocks 
def Berratalaw43_SinkHides (lP : Option Addr) (lN lC : Nat) (W : World) (R : List Own) (Φ : PW) (J : Value → World → Prop) : Prop :=
  ∀ (w0 : World) (R1 : List Own), Ctx W w0 (R ++ R1) Φ → Calls Tryz.prog F.erratalaw43_small #[] w0 fun (e2 : Ending) (w3 : World) => ∃ (c4 : Bool), e2 = Ending.returned (Value.bool c4) ∧ ∃
  (R5 : List Own), ∃ (Φ6 : PW), Stable Φ6 ∧ Ctx W w3 (R5 ++ R1) Φ6 ∧ ∀ (w7 : World) (R8 : List Own), Ctx W w7 (R5 ++ R8) Φ6 → Calls Tryz.prog F.sink_New #[Value.int IntKind.i64 0, Value.slice
  none 0 0] w7 fun (e9 : Ending) (w10 : World) => ∃ (p11 : Option Addr), e9 = Ending.returned (Value.pointer p11) ∧ ∃ (R12 : List Own), ∃ (Φ13 : PW), Stable Φ13 ∧ Ctx W w10 (R12 ++ R8) Φ13 ∧
  ∀ (w14 : World) (R15 : List Own), Ctx W w14 (R12 ++ R15) Φ13 → Calls Tryz.prog F.erratalaw43_few #[Value.slice lP lN lC, Value.int IntKind.i64 60] w14 fun (e16 : Ending) (w17 : World) => ∃
  (c18 : Bool), e16 = Ending.returned (Value.bool c18) ∧ ∃ (R19 : List Own), ∃ (Φ20 : PW), Stable Φ20 ∧ Ctx W w17 (R19 ++ R15) Φ20 ∧ Br (!c18) (∀ (w21 : World) (R22 : List Own), Ctx W w21
  (R19 ++ R22) Φ20 → ∀ (w23 : World) (R24 : List Own), Ctx W w23 (R19 ++ R24) Φ20 → J (Value.bool (c4 && !p11.isNone)) w23) (Br p11.isNone (∀ (w25 : World) (R26 : List Own), Ctx W w25 (R19 ++
  R26) Φ20 → ∀ (w27 : World) (R28 : List Own), Ctx W w27 (R19 ++ R28) Φ20 → J (Value.bool (c4 && !p11.isNone)) w27) (exI fun (I29 : Option Addr → Nat → Nat → Int → List Own → PW → Nat → Prop)
  => (∃ (R30 : List Own), ∃ (Φ31 : PW), ∃ (k32 : Nat), Stable Φ31 ∧ (∀ (w33 : World) (R34 : List Own), Ctx W w33 (R19 ++ R34) Φ20 → Ctx W w33 (R30 ++ R34) Φ31) ∧ I29 none 0 0 0 R30 Φ31 k32) ∧
  ∀ (p35 : Option Addr) (k36 k37 : Nat) (n38 : Int) (R39 : List Own) (I40 : List Nat → World → Prop) (k41 : Nat), Stable I40 → I29 p35 k36 k37 n38 R39 I40 k41 → Br (decide (n38 < (↑lN :
  Int))) ((0 ≤ n38 ∧ n38 < (↑lN : Int)) ∧ ptrK none lP fun (k42 k43 : Nat) => ∀ (w44 : World) (R45 : List Own), Ctx W w44 (R39 ++ R45) I40 → ∃ (n46 : Int), w44.cell? (Addr.mk k42 (k43 +
  n38.toNat * 3) none) = some (Value.int IntKind.i64 n46) ∧ ∃ (n47 : Int), (∀ (w48 : World), Sem.run Tryz.prog (binOp BinOp.and 3 (Value.int IntKind.i64 n46) (Value.int IntKind.i64 7)) w48 =
  Result.ok (Value.int IntKind.i64 n47) w48) ∧ Br (decide (3 < n47)) (I64 (n38 + 1) ∧ ∃ (R49 : List Own), ∃ (Φ50 : PW), ∃ (k51 : Nat), Stable Φ50 ∧ (∀ (w52 : World) (R53 : List Own), Ctx W
  w52 (R39 ++ R53) I40 → Ctx W w52 (R49 ++ R53) Φ50) ∧ I29 p35 k36 k37 (n38 + 1) R49 Φ50 k51 ∧ k51 < k41) (∀ (w54 : World) (R55 : List Own), Ctx W w54 (R39 ++ R55) I40 → Calls Tryz.prog
  F.sink_Sink_List #[Value.pointer p11] w54 fun (e56 : Ending) (w57 : World) => ∃ (p58 : Option Addr), ∃ (k59 : Nat), ∃ (k60 : Nat), e56 = Ending.returned (Value.slice p58 k59 k60) ∧ ∃ (R61 :
  List Own), ∃ (Φ62 : PW), Stable Φ62 ∧ Ctx W w57 (R61 ++ R55) Φ62 ∧ ∀ (w63 : World) (R64 : List Own), Ctx W w63 (R61 ++ R64) Φ62 → Calls Tryz.prog F.sink_Sink_Prepared #[Value.pointer p11]
  w63 fun (e65 : Ending) (w66 : World) => ∃ (n67 : Int), e65 = Ending.returned (Value.int IntKind.i64 n67) ∧ ∃ (R68 : List Own), ∃ (Φ69 : PW), Stable Φ69 ∧ Ctx W w66 (R68 ++ R64) Φ69 ∧ (0 ≤
  n38 ∧ n38 < (↑lN : Int)) ∧ ptrK none lP fun (k70 k71 : Nat) => ∀ (w72 : World) (R73 : List Own), Ctx W w72 (R68 ++ R73) Φ69 → ∃ (n74 : Int), w72.cell? (Addr.mk k70 (k71 + n38.toNat * 3 + 1)
  none) = some (Value.int IntKind.i64 n74) ∧ ∀ (w75 : World) (R76 : List Own), Ctx W w75 (R68 ++ R76) Φ69 → Calls Tryz.prog F.sink_Sink_Has #[Value.pointer p11, Value.int IntKind.i64 n74] w75
  fun (e77 : Ending) (w78 : World) => ∃ (c79 : Bool), e77 = Ending.returned (Value.bool c79) ∧ ∃ (R80 : List Own), ∃ (Φ81 : PW), Stable Φ81 ∧ Ctx W w78 (R80 ++ R76) Φ81 ∧ (0 ≤ n38 ∧ n38 <
  (↑lN : Int)) ∧ ptrK none lP fun (k82 k83 : Nat) => ∀ (w84 : World) (R85 : List Own), Ctx W w84 (R80 ++ R85) Φ81 → ∃ (n86 : Int), ∃ (n87 : Int), ∃ (p88 : Option Addr), ∃ (k89 : Nat), ∃ (k90
  : Nat), RowAt w84 k82 (k83 + n38.toNat * 3) [Value.int IntKind.i64 n86, Value.int IntKind.i64 n87, Value.slice p88 k89 k90] ∧ ∀ (w91 : World) (R92 : List Own), Ctx W w91 (R80 ++ R92) Φ81 →
  Calls Tryz.prog F.erratalaw43_do #[Value.pointer p11, Value.agg #[Value.int IntKind.i64 n86, Value.int IntKind.i64 n87, Value.slice p88 k89 k90]] w91 fun (e93 : Ending) (w94 : World) => ∃
  (p95 : Option Addr), ∃ (n96 : Int), e93 = Ending.returned (Value.tuple #[Value.pointer p95, Value.int IntKind.i64 n96]) ∧ ∃ (R97 : List Own), ∃ (Φ98 : PW), Stable Φ98 ∧ Ctx W w94 (R97 ++
  R92) Φ98 ∧ ∀ (w99 : World) (R100 : List Own), Ctx W w99 (R97 ++ R100) Φ98 → Br (decide (n47 < 2) && decide (n96 = 0) && !c79) ((0 ≤ n38 ∧ n38 < (↑lN : Int)) ∧ ptrK none lP fun (k101 k102 :
  Nat) => ∀ (w103 : World) (R104 : List Own), Ctx W w103 (R97 ++ R104) Φ98 → ∃ (p105 : Option Addr), ∃ (k106 : Nat), ∃ (k107 : Nat), w103.cell? (Addr.mk k101 (k102 + n38.toNat * 3 + 2) none)
  = some (Value.slice p105 k106 k107) ∧ ∃ (R108 : List Own), ∃ (Φ109 : PW), Stable Φ109 ∧ (∀ (w110 : World) (R111 : List Own), Ctx W w110 (R97 ++ R111) Φ98 → Ctx W w110 (R108 ++ R111) Φ109) ∧
  (0 ≤ n38 ∧ n38 < (↑lN : Int)) ∧ ptrK none lP fun (k112 k113 : Nat) => ∃ (n114 : Int), (∀ (w115 : World) (R116 : List Own), Ctx W w115 (R108 ++ R116) Φ109 → ∃ (n117 : Int), w115.cell?
  (Addr.mk k112 (k113 + n38.toNat * 3 + 1) none) = some (Value.int IntKind.i64 n117) ∧ Value.int IntKind.i64 n117 = Value.int IntKind.i64 n114) ∧ ∀ (w118 : World) (R119 : List Own), Ctx W
  w118 (R97 ++ R119) Φ98 → Calls Tryz.prog F.sink_Sink_Prepared #[Value.pointer p11] w118 fun (e120 : Ending) (w121 : World) => ∃ (n122 : Int), e120 = Ending.returned (Value.int IntKind.i64
  n122) ∧ ∃ (R123 : List Own), ∃ (Φ124 : PW), Stable Φ124 ∧ Ctx W w121 (R123 ++ R119) Φ124 ∧ (∀ (w125 : World) (R126 : List Own), Ctx W w125 (R123 ++ R126) Φ124 → Ctx W w125 (R108 ++ R126)
  Φ109) ∧ Br (decide (n122 ≠ n114)) (∀ (w127 : World) (R128 : List Own), Ctx W w127 (R123 ++ R128) Φ124 → J (Value.bool false) w127) (∀ (w129 : World) (R130 : List Own), Ctx W w129 (R123 ++
  R130) Φ124 → Br (decide (n47 = 2) && decide (n96 = 0) && !c79) ((0 ≤ n38 ∧ n38 < (↑lN : Int)) ∧ ptrK none lP fun (k131 k132 : Nat) => ∀ (w133 : World) (R134 : List Own), Ctx W w133 (R123 ++
  R134) Φ124 → ∃ (n135 : Int), w133.cell? (Addr.mk k131 (k132 + n38.toNat * 3 + 1) none) = some (Value.int IntKind.i64 n135) ∧ Br (decide (n67 ≠ n135)) (∀ (w136 : World) (R137 : List Own),
  Ctx W w136 (R123 ++ R137) Φ124 → J (Value.bool false) w136) (∀ (w138 : World) (R139 : List Own), Ctx W w138 (R123 ++ R139) Φ124 → Calls Tryz.prog F.sink_Sink_Prepared #[Value.pointer p11]
  w138 fun (e140 : Ending) (w141 : World) => ∃ (n142 : Int), e140 = Ending.returned (Value.int IntKind.i64 n142) ∧ ∃ (R143 : List Own), ∃ (Φ144 : PW), Stable Φ144 ∧ Ctx W w141 (R143 ++ R139)
  Φ144 ∧ Br (decide (n142 ≠ 0)) (∀ (w145 : World) (R146 : List Own), Ctx W w145 (R143 ++ R146) Φ144 → J (Value.bool false) w145) (∀ (w147 : World) (R148 : List Own), Ctx W w147 (R143 ++ R148)
  Φ144 → Calls Tryz.prog F.sink_Sink_List #[Value.pointer p11] w147 fun (e149 : Ending) (w150 : World) => ∃ (p151 : Option Addr), ∃ (k152 : Nat), ∃ (k153 : Nat), e149 = Ending.returned
  (Value.slice p151 k152 k153) ∧ ∃ (R154 : List Own), ∃ (Φ155 : PW), Stable Φ155 ∧ Ctx W w150 (R154 ++ R148) Φ155 ∧ ∀ (w156 : World) (R157 : List Own), Ctx W w156 (R154 ++ R157) Φ155 → ∃
  (p158 : Option Addr), ∃ (k159 : Nat), ∃ (k160 : Nat), ∃ (w161 : World), Sem.run Tryz.prog (builtin Builtin.append #[33, 33] 33 #[false, false] #[Value.slice p58 k59 k60, Value.slice p105
  k106 k107]) w156 = Result.ok (Next.value (Value.slice p158 k159 k160)) w161 ∧ ∃ (R162 : List Own), ∃ (Φ163 : PW), Stable Φ163 ∧ Ctx W w161 (R162 ++ R157) Φ163 ∧ ∀ (w164 : World) (R165 :
  List Own), Ctx W w164 (R162 ++ R165) Φ163 → Calls Tryz.prog F.errataref43_SameLines #[Value.slice p151 k152 k153, Value.slice p158 k159 k160] w164 fun (e166 : Ending) (w167 : World) => ∃
  (c168 : Bool), e166 = Ending.returned (Value.bool c168) ∧ ∃ (R169 : List Own), ∃ (Φ170 : PW), Stable Φ170 ∧ Ctx W w167 (R169 ++ R165) Φ170 ∧ Br (!c168) (∀ (w171 : World) (R172 : List Own),
  Ctx W w171 (R169 ++ R172) Φ170 → J (Value.bool false) w171) (I64 (n38 + 1) ∧ ∃ (R173 : List Own), ∃ (Φ174 : PW), ∃ (k175 : Nat), Stable Φ174 ∧ (∀ (w176 : World) (R177 : List Own), Ctx W
  w176 (R169 ++ R177) Φ170 → Ctx W w176 (R173 ++ R177) Φ174) ∧ I29 p105 k106 k107 (n38 + 1) R173 Φ174 k175 ∧ k175 < k41)))) (∀ (w178 : World) (R179 : List Own), Ctx W w178 (R123 ++ R179) Φ124
  → Calls Tryz.prog F.sink_Sink_List #[Value.pointer p11] w178 fun (e180 : Ending) (w181 : World) => ∃ (p182 : Option Addr), ∃ (k183 : Nat), ∃ (k184 : Nat), e180 = Ending.returned
  (Value.slice p182 k183 k184) ∧ ∃ (R185 : List Own), ∃ (Φ186 : PW), Stable Φ186 ∧ Ctx W w181 (R185 ++ R179) Φ186 ∧ ∀ (w187 : World) (R188 : List Own), Ctx W w187 (R185 ++ R188) Φ186 → Calls
  Tryz.prog F.errataref43_SameLines #[Value.slice p182 k183 k184, Value.slice p58 k59 k60] w187 fun (e189 : Ending) (w190 : World) => ∃ (c191 : Bool), e189 = Ending.returned (Value.bool c191)
  ∧ ∃ (R192 : List Own), ∃ (Φ193 : PW), Stable Φ193 ∧ Ctx W w190 (R192 ++ R188) Φ193 ∧ Br (!c191) (∀ (w194 : World) (R195 : List Own), Ctx W w194 (R192 ++ R195) Φ193 → J (Value.bool false)
  w194) (Br (decide (n47 = 3)) (Br (decide (n96 = 0)) (∀ (w196 : World) (R197 : List Own), Ctx W w196 (R192 ++ R197) Φ193 → Calls Tryz.prog F.sink_Sink_Prepared #[Value.pointer p11] w196 fun
  (e198 : Ending) (w199 : World) => ∃ (n200 : Int), e198 = Ending.returned (Value.int IntKind.i64 n200) ∧ ∃ (R201 : List Own), ∃ (Φ202 : PW), Stable Φ202 ∧ Ctx W w199 (R201 ++ R197) Φ202 ∧ Br
  (decide (n200 ≠ 0)) (∀ (w203 : World) (R204 : List Own), Ctx W w203 (R201 ++ R204) Φ202 → J (Value.bool false) w203) ((0 ≤ n38 ∧ n38 < (↑lN : Int)) ∧ ptrK none lP fun (k205 k206 : Nat) => ∀
  (w207 : World) (R208 : List Own), Ctx W w207 (R201 ++ R208) Φ202 → ∃ (n209 : Int), w207.cell? (Addr.mk k205 (k206 + n38.toNat * 3 + 1) none) = some (Value.int IntKind.i64 n209) ∧ Br (decide
  (n67 ≠ n209)) (∀ (w210 : World) (R211 : List Own), Ctx W w210 (R201 ++ R211) Φ202 → J (Value.bool false) w210) (I64 (n38 + 1) ∧ ∃ (R212 : List Own), ∃ (Φ213 : PW), ∃ (k214 : Nat), Stable
  Φ213 ∧ (∀ (w215 : World) (R216 : List Own), Ctx W w215 (R201 ++ R216) Φ202 → Ctx W w215 (R212 ++ R216) Φ213) ∧ I29 p105 k106 k107 (n38 + 1) R212 Φ213 k214 ∧ k214 < k41))) (I64 (n38 + 1) ∧ ∃
  (R217 : List Own), ∃ (Φ218 : PW), ∃ (k219 : Nat), Stable Φ218 ∧ (∀ (w220 : World) (R221 : List Own), Ctx W w220 (R192 ++ R221) Φ193 → Ctx W w220 (R217 ++ R221) Φ218) ∧ I29 p105 k106 k107
  (n38 + 1) R217 Φ218 k219 ∧ k219 < k41)) (I64 (n38 + 1) ∧ ∃ (R222 : List Own), ∃ (Φ223 : PW), ∃ (k224 : Nat), Stable Φ223 ∧ (∀ (w225 : World) (R226 : List Own), Ctx W w225 (R192 ++ R226)
  Φ193 → Ctx W w225 (R222 ++ R226) Φ223) ∧ I29 p105 k106 k107 (n38 + 1) R222 Φ223 k224 ∧ k224 < k41))))) (∀ (w227 : World) (R228 : List Own), Ctx W w227 (R97 ++ R228) Φ98 → Br (decide (n47 =
  2) && decide (n96 = 0) && !c79) ((0 ≤ n38 ∧ n38 < (↑lN : Int)) ∧ ptrK none lP fun (k229 k230 : Nat) => ∀ (w231 : World) (R232 : List Own), Ctx W w231 (R97 ++ R232) Φ98 → ∃ (n233 : Int),
  w231.cell? (Addr.mk k229 (k230 + n38.toNat * 3 + 1) none) = some (Value.int IntKind.i64 n233) ∧ Br (decide (n67 ≠ n233)) (∀ (w234 : World) (R235 : List Own), Ctx W w234 (R97 ++ R235) Φ98 →
  J (Value.bool false) w234) (∀ (w236 : World) (R237 : List Own), Ctx W w236 (R97 ++ R237) Φ98 → Calls Tryz.prog F.sink_Sink_Prepared #[Value.pointer p11] w236 fun (e238 : Ending) (w239 :
  World) => ∃ (n240 : Int), e238 = Ending.returned (Value.int IntKind.i64 n240) ∧ ∃ (R241 : List Own), ∃ (Φ242 : PW), Stable Φ242 ∧ Ctx W w239 (R241 ++ R237) Φ242 ∧ Br (decide (n240 ≠ 0)) (∀
  (w243 : World) (R244 : List Own), Ctx W w243 (R241 ++ R244) Φ242 → J (Value.bool false) w243) (∀ (w245 : World) (R246 : List Own), Ctx W w245 (R241 ++ R246) Φ242 → Calls Tryz.prog
  F.sink_Sink_List #[Value.pointer p11] w245 fun (e247 : Ending) (w248 : World) => ∃ (p249 : Option Addr), ∃ (k250 : Nat), ∃ (k251 : Nat), e247 = Ending.returned (Value.slice p249 k250 k251)
  ∧ ∃ (R252 : List Own), ∃ (Φ253 : PW), Stable Φ253 ∧ Ctx W w248 (R252 ++ R246) Φ253 ∧ ∀ (w254 : World) (R255 : List Own), Ctx W w254 (R252 ++ R255) Φ253 → ∃ (p256 : Option Addr), ∃ (k257 :
  Nat), ∃ (k258 : Nat), ∃ (w259 : World), Sem.run Tryz.prog (builtin Builtin.append #[33, 33] 33 #[false, false] #[Value.slice p58 k59 k60, Value.slice p35 k36 k37]) w254 = Result.ok
  (Next.value (Value.slice p256 k257 k258)) w259 ∧ ∃ (R260 : List Own), ∃ (Φ261 : PW), Stable Φ261 ∧ Ctx W w259 (R260 ++ R255) Φ261 ∧ ∀ (w262 : World) (R263 : List Own), Ctx W w262 (R260 ++
  R263) Φ261 → Calls Tryz.prog F.errataref43_SameLines #[Value.slice p249 k250 k251, Value.slice p256 k257 k258] w262 fun (e264 : Ending) (w265 : World) => ∃ (c266 : Bool), e264 =
  Ending.returned (Value.bool c266) ∧ ∃ (R267 : List Own), ∃ (Φ268 : PW), Stable Φ268 ∧ Ctx W w265 (R267 ++ R263) Φ268 ∧ Br (!c266) (∀ (w269 : World) (R270 : List Own), Ctx W w269 (R267 ++
  R270) Φ268 → J (Value.bool false) w269) (I64 (n38 + 1) ∧ ∃ (R271 : List Own), ∃ (Φ272 : PW), ∃ (k273 : Nat), Stable Φ272 ∧ (∀ (w274 : World) (R275 : List Own), Ctx W w274 (R267 ++ R275)
  Φ268 → Ctx W w274 (R271 ++ R275) Φ272) ∧ I29 p35 k36 k37 (n38 + 1) R271 Φ272 k273 ∧ k273 < k41)))) (∀ (w276 : World) (R277 : List Own), Ctx W w276 (R97 ++ R277) Φ98 → Calls Tryz.prog
  F.sink_Sink_List #[Value.pointer p11] w276 fun (e278 : Ending) (w279 : World) => ∃ (p280 : Option Addr), ∃ (k281 : Nat), ∃ (k282 : Nat), e278 = Ending.returned (Value.slice p280 k281 k282)
  ∧ ∃ (R283 : List Own), ∃ (Φ284 : PW), Stable Φ284 ∧ Ctx W w279 (R283 ++ R277) Φ284 ∧ ∀ (w285 : World) (R286 : List Own), Ctx W w285 (R283 ++ R286) Φ284 → Calls Tryz.prog
  F.errataref43_SameLines #[Value.slice p280 k281 k282, Value.slice p58 k59 k60] w285 fun (e287 : Ending) (w288 : World) => ∃ (c289 : Bool), e287 = Ending.returned (Value.bool c289) ∧ ∃ (R290
  : List Own), ∃ (Φ291 : PW), Stable Φ291 ∧ Ctx W w288 (R290 ++ R286) Φ291 ∧ Br (!c289) (∀ (w292 : World) (R293 : List Own), Ctx W w292 (R290 ++ R293) Φ291 → J (Value.bool false) w292) (Br
  (decide (n47 = 3)) (Br (decide (n96 = 0)) (∀ (w294 : World) (R295 : List Own), Ctx W w294 (R290 ++ R295) Φ291 → Calls Tryz.prog F.sink_Sink_Prepared #[Value.pointer p11] w294 fun (e296 :
  Ending) (w297 : World) => ∃ (n298 : Int), e296 = Ending.returned (Value.int IntKind.i64 n298) ∧ ∃ (R299 : List Own), ∃ (Φ300 : PW), Stable Φ300 ∧ Ctx W w297 (R299 ++ R295) Φ300 ∧ Br (decide
  (n298 ≠ 0)) (∀ (w301 : World) (R302 : List Own), Ctx W w301 (R299 ++ R302) Φ300 → J (Value.bool false) w301) ((0 ≤ n38 ∧ n38 < (↑lN : Int)) ∧ ptrK none lP fun (k303 k304 : Nat) => ∀ (w305 :
  World) (R306 : List Own), Ctx W w305 (R299 ++ R306) Φ300 → ∃ (n307 : Int), w305.cell? (Addr.mk k303 (k304 + n38.toNat * 3 + 1) none) = some (Value.int IntKind.i64 n307) ∧ Br (decide (n67 ≠
  n307)) (∀ (w308 : World) (R309 : List Own), Ctx W w308 (R299 ++ R309) Φ300 → J (Value.bool false) w308) (I64 (n38 + 1) ∧ ∃ (R310 : List Own), ∃ (Φ311 : PW), ∃ (k312 : Nat), Stable Φ311 ∧ (∀
  (w313 : World) (R314 : List Own), Ctx W w313 (R299 ++ R314) Φ300 → Ctx W w313 (R310 ++ R314) Φ311) ∧ I29 p35 k36 k37 (n38 + 1) R310 Φ311 k312 ∧ k312 < k41))) (I64 (n38 + 1) ∧ ∃ (R315 : List
  Own), ∃ (Φ316 : PW), ∃ (k317 : Nat), Stable Φ316 ∧ (∀ (w318 : World) (R319 : List Own), Ctx W w318 (R290 ++ R319) Φ291 → Ctx W w318 (R315 ++ R319) Φ316) ∧ I29 p35 k36 k37 (n38 + 1) R315
  Φ316 k317 ∧ k317 < k41)) (I64 (n38 + 1) ∧ ∃ (R320 : List Own), ∃ (Φ321 : PW), ∃ (k322 : Nat), Stable Φ321 ∧ (∀ (w323 : World) (R324 : List Own), Ctx W w323 (R290 ++ R324) Φ291 → Ctx W w323
  (R320 ++ R324) Φ321) ∧ I29 p35 k36 k37 (n38 + 1) R320 Φ321 k322 ∧ k322 < k41)))))) (∀ (w325 : World) (R326 : List Own), Ctx W w325 (R39 ++ R326) I40 → J (Value.bool c4) w325)))

theorem Berratalaw43_SinkHides_run (lP : Option Addr) (lN lC : Nat) {W w : World} {R : List Own} {Φ : PW} [Stable Φ] {J : Value → World → Prop} (c : Ctx W w R Φ) (h : Berratalaw43_SinkHides lP lN lC W R Φ J) : Calls Tryz.prog F.erratalaw43_SinkHides #[.slice lP lN lC] w fun e w' => ∃ v, e = .returned v ∧ J v w' :=
  vcFS_sound (H := { keep := some [0, 2, 3, 4, 5, 6, 7, 8, 9, 10, 12, 21, 30, 40, 70, 83, 93, 114, 141], stages := [(17, [.held [(0, true), (2, true), (3, true), (4, true), (5, true), (6, true), (1, false)], .stage [7] none])], split := [3, 20, 22], loops := [(7, [(5, .one (.slice)), (6, .one (.int .i64))], [])] }) (by rw [show vcFS Tryz.prog W { keep := some [0, 2, 3, 4, 5, 6, 7, 8, 9, 10, 12, 21, 30, 40, 70, 83, 93, 114, 141], stages := [(17, [.held [(0, true), (2, true), (3, true), (4, true), (5, true), (6, true), (1, false)], .stage [7] none])], split := [3, 20, 22], loops := [(7, [(5, .one (.slice)), (6, .one (.int .i64))], [])] } F.erratalaw43_SinkHides #[.slice lP lN lC] R Φ J = Berratalaw43_SinkHides lP lN lC W R Φ J by kernel_rfl]; exact h) c

/-- erratalaw43.small -/
def Berratalaw43_small  (W : World) (R : List Own) (Φ : PW) (J : Value → World → Prop) : Prop :=
  ∀ (w0 : World) (R1 : List Own), Ctx W w0 (R ++ R1) Φ → Calls Tryz.prog F.sink_New #[Value.int IntKind.i64 2, Value.slice none 0 0] w0 fun (e2 : Ending) (w3 : World) => ∃ (p4 : Option Addr),
  e2 = Ending.returned (Value.pointer p4) ∧ ∃ (R5 : List Own), ∃ (Φ6 : PW), Stable Φ6 ∧ Ctx W w3 (R5 ++ R1) Φ6 ∧ ∀ (w7 : World) (R8 : List Own), Ctx W w7 (R5 ++ R8) Φ6 → Calls Tryz.prog
  F.sink_New #[Value.int IntKind.i64 2, Value.slice none 0 0] w7 fun (e9 : Ending) (w10 : World) => ∃ (p11 : Option Addr), e9 = Ending.returned (Value.pointer p11) ∧ ∃ (R12 : List Own), ∃
  (Φ13 : PW), Stable Φ13 ∧ Ctx W w10 (R12 ++ R8) Φ13 ∧ ∀ (w14 : World) (R15 : List Own), Ctx W w14 (R12 ++ R15) Φ13 → Br (p4.isNone || p11.isNone) (∀ (w16 : World) (R17 : List Own), Ctx W w16
  (R12 ++ R17) Φ13 → J (Value.bool false) w16) (∀ (w18 : World) (R19 : List Own), Ctx W w18 (R12 ++ R19) Φ13 → Calls Tryz.prog F.erratalaw43_line #[Value.int IntKind.i64 3, Value.int
  IntKind.i64 5] w18 fun (e20 : Ending) (w21 : World) => ∃ (n22 : Int), ∃ (n23 : Int), ∃ (n24 : Int), ∃ (p25 : Option Addr), ∃ (k26 : Nat), ∃ (k27 : Nat), ∃ (n28 : Int), ∃ (n29 : Int), ∃ (n30
  : Int), e20 = Ending.returned (Value.agg #[Value.int IntKind.i64 n22, Value.int IntKind.i64 n23, Value.int IntKind.i64 n24, Value.slice p25 k26 k27, Value.int IntKind.i64 n28, Value.int
  IntKind.i64 n29, Value.int IntKind.i64 n30]) ∧ ∃ (R31 : List Own), ∃ (Φ32 : PW), Stable Φ32 ∧ Ctx W w21 (R31 ++ R19) Φ32 ∧ ∀ (k33 : Nat) (w34 : World) (R35 : List Own), Ctx W w34 (Own.blk
  k33 [Value.int IntKind.i64 n22, Value.int IntKind.i64 n23, Value.int IntKind.i64 n24, Value.slice p25 k26 k27, Value.int IntKind.i64 n28, Value.int IntKind.i64 n29, Value.int IntKind.i64
  n30] 46 :: R31 ++ R35) Φ32 → Calls Tryz.prog F.sink_Sink_Deliver #[Value.pointer p4, Value.int IntKind.i64 5, Value.slice (some (Addr.mk k33 0 none)) 1 1] w34 fun (e36 : Ending) (w37 :
  World) => ∃ (n38 : Int), e36 = Ending.returned (Value.int IntKind.i64 n38) ∧ ∃ (R39 : List Own), ∃ (Φ40 : PW), Stable Φ40 ∧ Ctx W w37 (R39 ++ R35) Φ40 ∧ ∀ (w41 : World) (R42 : List Own),
  Ctx W w41 (R39 ++ R42) Φ40 → Calls Tryz.prog F.erratalaw43_line #[Value.int IntKind.i64 1, Value.int IntKind.i64 3] w41 fun (e43 : Ending) (w44 : World) => ∃ (n45 : Int), ∃ (n46 : Int), ∃
  (n47 : Int), ∃ (p48 : Option Addr), ∃ (k49 : Nat), ∃ (k50 : Nat), ∃ (n51 : Int), ∃ (n52 : Int), ∃ (n53 : Int), e43 = Ending.returned (Value.agg #[Value.int IntKind.i64 n45, Value.int
  IntKind.i64 n46, Value.int IntKind.i64 n47, Value.slice p48 k49 k50, Value.int IntKind.i64 n51, Value.int IntKind.i64 n52, Value.int IntKind.i64 n53]) ∧ ∃ (R54 : List Own), ∃ (Φ55 : PW),
  Stable Φ55 ∧ Ctx W w44 (R54 ++ R42) Φ55 ∧ ∀ (w56 : World) (R57 : List Own), Ctx W w56 (R54 ++ R57) Φ55 → Calls Tryz.prog F.erratalaw43_line #[Value.int IntKind.i64 2, Value.int IntKind.i64
  3] w56 fun (e58 : Ending) (w59 : World) => ∃ (n60 : Int), ∃ (n61 : Int), ∃ (n62 : Int), ∃ (p63 : Option Addr), ∃ (k64 : Nat), ∃ (k65 : Nat), ∃ (n66 : Int), ∃ (n67 : Int), ∃ (n68 : Int), e58
  = Ending.returned (Value.agg #[Value.int IntKind.i64 n60, Value.int IntKind.i64 n61, Value.int IntKind.i64 n62, Value.slice p63 k64 k65, Value.int IntKind.i64 n66, Value.int IntKind.i64
  n67, Value.int IntKind.i64 n68]) ∧ ∃ (R69 : List Own), ∃ (Φ70 : PW), Stable Φ70 ∧ Ctx W w59 (R69 ++ R57) Φ70 ∧ ∀ (k71 : Nat) (w72 : World) (R73 : List Own), Ctx W w72 (Own.blk k71
  [Value.int IntKind.i64 n45, Value.int IntKind.i64 n46, Value.int IntKind.i64 n47, Value.slice p48 k49 k50, Value.int IntKind.i64 n51, Value.int IntKind.i64 n52, Value.int IntKind.i64 n53,
  Value.int IntKind.i64 n60, Value.int IntKind.i64 n61, Value.int IntKind.i64 n62, Value.slice p63 k64 k65, Value.int IntKind.i64 n66, Value.int IntKind.i64 n67, Value.int IntKind.i64 n68] 46
  :: R69 ++ R73) Φ70 → Calls Tryz.prog F.sink_Sink_Deliver #[Value.pointer p4, Value.int IntKind.i64 3, Value.slice (some (Addr.mk k71 0 none)) 2 2] w72 fun (e74 : Ending) (w75 : World) => ∃
  (n76 : Int), e74 = Ending.returned (Value.int IntKind.i64 n76) ∧ ∃ (R77 : List Own), ∃ (Φ78 : PW), Stable Φ78 ∧ Ctx W w75 (R77 ++ R73) Φ78 ∧ ∀ (w79 : World) (R80 : List Own), Ctx W w79 (R77
  ++ R80) Φ78 → Calls Tryz.prog F.erratalaw43_line #[Value.int IntKind.i64 1, Value.int IntKind.i64 3] w79 fun (e81 : Ending) (w82 : World) => ∃ (n83 : Int), ∃ (n84 : Int), ∃ (n85 : Int), ∃
  (p86 : Option Addr), ∃ (k87 : Nat), ∃ (k88 : Nat), ∃ (n89 : Int), ∃ (n90 : Int), ∃ (n91 : Int), e81 = Ending.returned (Value.agg #[Value.int IntKind.i64 n83, Value.int IntKind.i64 n84,
  Value.int IntKind.i64 n85, Value.slice p86 k87 k88, Value.int IntKind.i64 n89, Value.int IntKind.i64 n90, Value.int IntKind.i64 n91]) ∧ ∃ (R92 : List Own), ∃ (Φ93 : PW), Stable Φ93 ∧ Ctx W
  w82 (R92 ++ R80) Φ93 ∧ ∀ (w94 : World) (R95 : List Own), Ctx W w94 (R92 ++ R95) Φ93 → Calls Tryz.prog F.erratalaw43_line #[Value.int IntKind.i64 2, Value.int IntKind.i64 3] w94 fun (e96 :
  Ending) (w97 : World) => ∃ (n98 : Int), ∃ (n99 : Int), ∃ (n100 : Int), ∃ (p101 : Option Addr), ∃ (k102 : Nat), ∃ (k103 : Nat), ∃ (n104 : Int), ∃ (n105 : Int), ∃ (n106 : Int), e96 =
  Ending.returned (Value.agg #[Value.int IntKind.i64 n98, Value.int IntKind.i64 n99, Value.int IntKind.i64 n100, Value.slice p101 k102 k103, Value.int IntKind.i64 n104, Value.int IntKind.i64
  n105, Value.int IntKind.i64 n106]) ∧ ∃ (R107 : List Own), ∃ (Φ108 : PW), Stable Φ108 ∧ Ctx W w97 (R107 ++ R95) Φ108 ∧ ∀ (k109 : Nat) (w110 : World) (R111 : List Own), Ctx W w110 (Own.blk
  k109 [Value.int IntKind.i64 n83, Value.int IntKind.i64 n84, Value.int IntKind.i64 n85, Value.slice p86 k87 k88, Value.int IntKind.i64 n89, Value.int IntKind.i64 n90, Value.int IntKind.i64
  n91, Value.int IntKind.i64 n98, Value.int IntKind.i64 n99, Value.int IntKind.i64 n100, Value.slice p101 k102 k103, Value.int IntKind.i64 n104, Value.int IntKind.i64 n105, Value.int
  IntKind.i64 n106] 46 :: R107 ++ R111) Φ108 → Calls Tryz.prog F.sink_Sink_Deliver #[Value.pointer p11, Value.int IntKind.i64 3, Value.slice (some (Addr.mk k109 0 none)) 2 2] w110 fun (e112 :
  Ending) (w113 : World) => ∃ (n114 : Int), e112 = Ending.returned (Value.int IntKind.i64 n114) ∧ ∃ (R115 : List Own), ∃ (Φ116 : PW), Stable Φ116 ∧ Ctx W w113 (R115 ++ R111) Φ116 ∧ ∀ (w117 :
  World) (R118 : List Own), Ctx W w117 (R115 ++ R118) Φ116 → Calls Tryz.prog F.erratalaw43_line #[Value.int IntKind.i64 3, Value.int IntKind.i64 5] w117 fun (e119 : Ending) (w120 : World) =>
  ∃ (n121 : Int), ∃ (n122 : Int), ∃ (n123 : Int), ∃ (p124 : Option Addr), ∃ (k125 : Nat), ∃ (k126 : Nat), ∃ (n127 : Int), ∃ (n128 : Int), ∃ (n129 : Int), e119 = Ending.returned (Value.agg
  #[Value.int IntKind.i64 n121, Value.int IntKind.i64 n122, Value.int IntKind.i64 n123, Value.slice p124 k125 k126, Value.int IntKind.i64 n127, Value.int IntKind.i64 n128, Value.int
  IntKind.i64 n129]) ∧ ∃ (R130 : List Own), ∃ (Φ131 : PW), Stable Φ131 ∧ Ctx W w120 (R130 ++ R118) Φ131 ∧ ∀ (k132 : Nat) (w133 : World) (R134 : List Own), Ctx W w133 (Own.blk k132 [Value.int
  IntKind.i64 n121, Value.int IntKind.i64 n122, Value.int IntKind.i64 n123, Value.slice p124 k125 k126, Value.int IntKind.i64 n127, Value.int IntKind.i64 n128, Value.int IntKind.i64 n129] 46
  :: R130 ++ R134) Φ131 → Calls Tryz.prog F.sink_Sink_Deliver #[Value.pointer p11, Value.int IntKind.i64 5, Value.slice (some (Addr.mk k132 0 none)) 1 1] w133 fun (e135 : Ending) (w136 :
  World) => ∃ (n137 : Int), e135 = Ending.returned (Value.int IntKind.i64 n137) ∧ ∃ (R138 : List Own), ∃ (Φ139 : PW), Stable Φ139 ∧ Ctx W w136 (R138 ++ R134) Φ139 ∧ ∀ (w140 : World) (R141 :
  List Own), Ctx W w140 (R138 ++ R141) Φ139 → Calls Tryz.prog F.sink_Sink_Deliver #[Value.pointer p11, Value.int IntKind.i64 4, Value.slice none 0 0] w140 fun (e142 : Ending) (w143 : World)
  => ∃ (n144 : Int), e142 = Ending.returned (Value.int IntKind.i64 n144) ∧ ∃ (R145 : List Own), ∃ (Φ146 : PW), Stable Φ146 ∧ Ctx W w143 (R145 ++ R141) Φ146 ∧ Br (decide (n38 = 25)) (Br
  (decide (n76 = 0)) (Br (decide (n114 = 0)) (Br (decide (n137 = 0)) (Br (decide (n144 = 25)) (∀ (w147 : World) (R148 : List Own), Ctx W w147 (R145 ++ R148) Φ146 → Calls Tryz.prog
  F.sink_Sink_Last #[Value.pointer p11] w147 fun (e149 : Ending) (w150 : World) => ∃ (n151 : Int), e149 = Ending.returned (Value.int IntKind.i64 n151) ∧ ∃ (R152 : List Own), ∃ (Φ153 : PW),
  Stable Φ153 ∧ Ctx W w150 (R152 ++ R148) Φ153 ∧ Br (decide (n151 = 5)) (∀ (w154 : World) (R155 : List Own), Ctx W w154 (R152 ++ R155) Φ153 → Calls Tryz.prog F.sink_Sink_Lines #[Value.pointer
  p11] w154 fun (e156 : Ending) (w157 : World) => ∃ (n158 : Int), e156 = Ending.returned (Value.int IntKind.i64 n158) ∧ ∃ (R159 : List Own), ∃ (Φ160 : PW), Stable Φ160 ∧ Ctx W w157 (R159 ++
  R155) Φ160 ∧ ∀ (w161 : World) (R162 : List Own), Ctx W w161 (R159 ++ R162) Φ160 → J (Value.bool (decide (n158 = 3))) w161) (∀ (w163 : World) (R164 : List Own), Ctx W w163 (R152 ++ R164)
  Φ153 → J (Value.bool false) w163)) (∀ (w165 : World) (R166 : List Own), Ctx W w165 (R145 ++ R166) Φ146 → J (Value.bool false) w165)) (∀ (w167 : World) (R168 : List Own), Ctx W w167 (R145 ++
  R168) Φ146 → J (Value.bool false) w167)) (∀ (w169 : World) (R170 : List Own), Ctx W w169 (R145 ++ R170) Φ146 → J (Value.bool false) w169)) (∀ (w171 : World) (R172 : List Own), Ctx W w171
  (R145 ++ R172) Φ146 → J (Value.bool false) w171)) (∀ (w173 : World) (R174 : List Own), Ctx W w173 (R145 ++ R174) Φ146 → J (Value.bool false) w173))

theorem Berratalaw43_small_run  {W w : World} {R : List Own} {Φ : PW} [Stable Φ] {J : Value → World → Prop} (c : Ctx W w R Φ) (h : Berratalaw43_small  W R Φ J) : Calls Tryz.prog F.erratalaw43_small #[] w fun e w' => ∃ v, e = .returned v ∧ J v w' :=
  vcFS_sound (H := { keep := some [0, 1, 2, 3, 4, 5, 6, 7, 15], split := [10] }) (by rw [show vcFS Tryz.prog W { keep := some [0, 1, 2, 3, 4, 5, 6, 7, 15], split := [10] } F.erratalaw43_small #[] R Φ J = Berratalaw43_small  W R Φ J by kernel_rfl]; exact h) c

/-- erratalaw43.few -/
-- loop at region 2: 5 i; blocks 
def Berratalaw43_few (lP : Option Addr) (lN lC : Nat) (n : Int) (W : World) (R : List Own) (Φ : PW) (J : Value → World → Prop) : Prop :=
  exI fun (I0 : Int → List Own → PW → Nat → Prop) => (∃ (R1 : List Own), ∃ (Φ2 : PW), ∃ (k3 : Nat), Stable Φ2 ∧ (∀ (w4 : World) (R5 : List Own), Ctx W w4 (R ++ R5) Φ → Ctx W w4 (R1 ++ R5) Φ2)
  ∧ I0 0 R1 Φ2 k3) ∧ ∀ (n6 : Int) (R7 : List Own) (I8 : List Nat → World → Prop) (k9 : Nat), Stable I8 → I0 n6 R7 I8 k9 → Br (decide (n6 < (↑lN : Int))) ((0 ≤ n6 ∧ n6 < (↑lN : Int)) ∧ ptrK
  none lP fun (k10 k11 : Nat) => ∀ (w12 : World) (R13 : List Own), Ctx W w12 (R7 ++ R13) I8 → ∃ (p14 : Option Addr), ∃ (k15 : Nat), ∃ (k16 : Nat), w12.cell? (Addr.mk k10 (k11 + n6.toNat * 3 +
  2) none) = some (Value.slice p14 k15 k16) ∧ ∀ (w17 : World) (R18 : List Own), Ctx W w17 (R7 ++ R18) I8 → Calls Tryz.prog F.errataref43_Few #[Value.slice p14 k15 k16, Value.int IntKind.i64
  8] w17 fun (e19 : Ending) (w20 : World) => ∃ (c21 : Bool), e19 = Ending.returned (Value.bool c21) ∧ ∃ (R22 : List Own), ∃ (Φ23 : PW), Stable Φ23 ∧ Ctx W w20 (R22 ++ R18) Φ23 ∧ Br (!c21) (∀
  (w24 : World) (R25 : List Own), Ctx W w24 (R22 ++ R25) Φ23 → J (Value.bool false) w24) (I64 (n6 + 1) ∧ ∃ (R26 : List Own), ∃ (Φ27 : PW), ∃ (k28 : Nat), Stable Φ27 ∧ (∀ (w29 : World) (R30 :
  List Own), Ctx W w29 (R22 ++ R30) Φ23 → Ctx W w29 (R26 ++ R30) Φ27) ∧ I0 (n6 + 1) R26 Φ27 k28 ∧ k28 < k9)) (∀ (w31 : World) (R32 : List Own), Ctx W w31 (R7 ++ R32) I8 → J (Value.bool
  (decide ((↑lN : Int) ≤ n))) w31)

theorem Berratalaw43_few_run (lP : Option Addr) (lN lC : Nat) (n : Int) {W w : World} {R : List Own} {Φ : PW} [Stable Φ] {J : Value → World → Prop} (c : Ctx W w R Φ) (h : Berratalaw43_few lP lN lC n W R Φ J) : Calls Tryz.prog F.erratalaw43_few #[.slice lP lN lC, .int .i64 n] w fun e w' => ∃ v, e = .returned v ∧ J v w' :=
  vcFS_sound (H := { keep := some [0, 1, 4, 5, 9, 18], loops := [(2, [(5, .one (.int .i64))], [])] }) (by rw [show vcFS Tryz.prog W { keep := some [0, 1, 4, 5, 9, 18], loops := [(2, [(5, .one (.int .i64))], [])] } F.erratalaw43_few #[.slice lP lN lC, .int .i64 n] R Φ J = Berratalaw43_few lP lN lC n W R Φ J by kernel_rfl]; exact h) c

/-- erratalaw43.do -/
-- known blocks: 3 x
def Berratalaw43_do (sB sO : Nat) (x0 : Int) (x1 : Int) (x2P : Option Addr) (x2N x2C : Nat) (W : World) (R : List Own) (Φ : PW) (J : Value → World → Prop) : Prop :=
  ∀ (b : Nat), ∃ (n0 : Int), (∀ (w1 : World), Sem.run Tryz.prog (binOp BinOp.and 3 (Value.int IntKind.i64 x0) (Value.int IntKind.i64 7)) w1 = Result.ok (Value.int IntKind.i64 n0) w1) ∧ Br
  (decide (n0 = 0)) (Br (decide (n0 = 0)) (∀ (w2 : World) (R3 : List Own), Ctx W w2 (R ++ R3) Φ → Calls Tryz.prog F.sink_Sink_Prepare #[Value.pointer (some (Addr.mk sB sO none)), Value.int
  IntKind.i64 x1, Value.slice x2P x2N x2C] w2 fun (e4 : Ending) (w5 : World) => ∃ (n6 : Int), e4 = Ending.returned (Value.int IntKind.i64 n6) ∧ ∃ (R7 : List Own), ∃ (Φ8 : PW), Stable Φ8 ∧ Ctx
  W w5 (R7 ++ R3) Φ8 ∧ ∀ (w9 : World) (R10 : List Own), Ctx W w9 (R7 ++ R10) Φ8 → J (Value.tuple #[Value.pointer (some (Addr.mk sB sO none)), Value.int IntKind.i64 n6]) w9) (Br (decide (n0 =
  2)) (∀ (w11 : World) (R12 : List Own), Ctx W w11 (R ++ R12) Φ → Calls Tryz.prog F.sink_Sink_Commit #[Value.pointer (some (Addr.mk sB sO none)), Value.int IntKind.i64 x1] w11 fun (e13 :
  Ending) (w14 : World) => ∃ (n15 : Int), e13 = Ending.returned (Value.int IntKind.i64 n15) ∧ ∃ (R16 : List Own), ∃ (Φ17 : PW), Stable Φ17 ∧ Ctx W w14 (R16 ++ R12) Φ17 ∧ ∀ (w18 : World) (R19
  : List Own), Ctx W w18 (R16 ++ R19) Φ17 → J (Value.tuple #[Value.pointer (some (Addr.mk sB sO none)), Value.int IntKind.i64 n15]) w18) (Br (decide (n0 = 3)) (∀ (w20 : World) (R21 : List
  Own), Ctx W w20 (R ++ R21) Φ → Calls Tryz.prog F.sink_Sink_Abort #[Value.pointer (some (Addr.mk sB sO none)), Value.int IntKind.i64 x1] w20 fun (e22 : Ending) (w23 : World) => ∃ (n24 :
  Int), e22 = Ending.returned (Value.int IntKind.i64 n24) ∧ ∃ (R25 : List Own), ∃ (Φ26 : PW), Stable Φ26 ∧ Ctx W w23 (R25 ++ R21) Φ26 ∧ ∀ (w27 : World) (R28 : List Own), Ctx W w27 (R25 ++
  R28) Φ26 → J (Value.tuple #[Value.pointer (some (Addr.mk sB sO none)), Value.int IntKind.i64 n24]) w27) (Br (decide (n0 = 6)) (∀ (w29 : World) (R30 : List Own), Ctx W w29 (R ++ R30) Φ →
  Calls Tryz.prog F.sink_Sink_Copy #[Value.pointer (some (Addr.mk sB sO none))] w29 fun (e31 : Ending) (w32 : World) => ∃ (p33 : Option Addr), e31 = Ending.returned (Value.pointer p33) ∧ ∃
  (R34 : List Own), ∃ (Φ35 : PW), Stable Φ35 ∧ Ctx W w32 (R34 ++ R30) Φ35 ∧ ∀ (w36 : World) (R37 : List Own), Ctx W w36 (R34 ++ R37) Φ35 → J (Value.tuple #[Value.pointer p33, Value.int
  IntKind.i64 0]) w36) (Br (decide (n0 = 7)) (∀ (w38 : World) (R39 : List Own), Ctx W w38 (R ++ R39) Φ → Calls Tryz.prog F.sink_Sink_Bytes #[Value.pointer (some (Addr.mk sB sO none))] w38 fun
  (e40 : Ending) (w41 : World) => ∃ (s42 : ByteArray), e40 = Ending.returned (Value.string s42) ∧ ∃ (R43 : List Own), ∃ (Φ44 : PW), Stable Φ44 ∧ Ctx W w41 (R43 ++ R39) Φ44 ∧ ∀ (w45 : World)
  (R46 : List Own), Ctx W w45 (R43 ++ R46) Φ44 → Calls Tryz.prog F.sink_Read #[Value.string s42] w45 fun (e47 : Ending) (w48 : World) => ∃ (p49 : Option Addr), ∃ (c50 : Bool), e47 =
  Ending.returned (Value.tuple #[Value.pointer p49, Value.bool c50]) ∧ ∃ (R51 : List Own), ∃ (Φ52 : PW), Stable Φ52 ∧ Ctx W w48 (R51 ++ R46) Φ52 ∧ Br (!c50) (∀ (w53 : World) (R54 : List Own),
  Ctx W w53 (R51 ++ R54) Φ52 → J (Value.tuple #[Value.pointer none, Value.int IntKind.i64 0]) w53) (∀ (w55 : World) (R56 : List Own), Ctx W w55 (R51 ++ R56) Φ52 → J (Value.tuple
  #[Value.pointer p49, Value.int IntKind.i64 0]) w55)) (∀ (w57 : World) (R58 : List Own), Ctx W w57 (R ++ R58) Φ → Calls Tryz.prog F.sink_Sink_Deliver #[Value.pointer (some (Addr.mk sB sO
  none)), Value.int IntKind.i64 x1, Value.slice x2P x2N x2C] w57 fun (e59 : Ending) (w60 : World) => ∃ (n61 : Int), e59 = Ending.returned (Value.int IntKind.i64 n61) ∧ ∃ (R62 : List Own), ∃
  (Φ63 : PW), Stable Φ63 ∧ Ctx W w60 (R62 ++ R58) Φ63 ∧ ∀ (w64 : World) (R65 : List Own), Ctx W w64 (R62 ++ R65) Φ63 → J (Value.tuple #[Value.pointer (some (Addr.mk sB sO none)), Value.int
  IntKind.i64 n61]) w64)))))) (Br (decide (n0 = 1)) (∀ (w66 : World) (R67 : List Own), Ctx W w66 (R ++ R67) Φ → Calls Tryz.prog F.sink_Sink_Prepare #[Value.pointer (some (Addr.mk sB sO
  none)), Value.int IntKind.i64 x1, Value.slice x2P x2N x2C] w66 fun (e68 : Ending) (w69 : World) => ∃ (n70 : Int), e68 = Ending.returned (Value.int IntKind.i64 n70) ∧ ∃ (R71 : List Own), ∃
  (Φ72 : PW), Stable Φ72 ∧ Ctx W w69 (R71 ++ R67) Φ72 ∧ ∀ (w73 : World) (R74 : List Own), Ctx W w73 (R71 ++ R74) Φ72 → J (Value.tuple #[Value.pointer (some (Addr.mk sB sO none)), Value.int
  IntKind.i64 n70]) w73) (Br (decide (n0 = 2)) (∀ (w75 : World) (R76 : List Own), Ctx W w75 (R ++ R76) Φ → Calls Tryz.prog F.sink_Sink_Commit #[Value.pointer (some (Addr.mk sB sO none)),
  Value.int IntKind.i64 x1] w75 fun (e77 : Ending) (w78 : World) => ∃ (n79 : Int), e77 = Ending.returned (Value.int IntKind.i64 n79) ∧ ∃ (R80 : List Own), ∃ (Φ81 : PW), Stable Φ81 ∧ Ctx W w78
  (R80 ++ R76) Φ81 ∧ ∀ (w82 : World) (R83 : List Own), Ctx W w82 (R80 ++ R83) Φ81 → J (Value.tuple #[Value.pointer (some (Addr.mk sB sO none)), Value.int IntKind.i64 n79]) w82) (Br (decide
  (n0 = 3)) (∀ (w84 : World) (R85 : List Own), Ctx W w84 (R ++ R85) Φ → Calls Tryz.prog F.sink_Sink_Abort #[Value.pointer (some (Addr.mk sB sO none)), Value.int IntKind.i64 x1] w84 fun (e86 :
  Ending) (w87 : World) => ∃ (n88 : Int), e86 = Ending.returned (Value.int IntKind.i64 n88) ∧ ∃ (R89 : List Own), ∃ (Φ90 : PW), Stable Φ90 ∧ Ctx W w87 (R89 ++ R85) Φ90 ∧ ∀ (w91 : World) (R92
  : List Own), Ctx W w91 (R89 ++ R92) Φ90 → J (Value.tuple #[Value.pointer (some (Addr.mk sB sO none)), Value.int IntKind.i64 n88]) w91) (Br (decide (n0 = 6)) (∀ (w93 : World) (R94 : List
  Own), Ctx W w93 (R ++ R94) Φ → Calls Tryz.prog F.sink_Sink_Copy #[Value.pointer (some (Addr.mk sB sO none))] w93 fun (e95 : Ending) (w96 : World) => ∃ (p97 : Option Addr), e95 =
  Ending.returned (Value.pointer p97) ∧ ∃ (R98 : List Own), ∃ (Φ99 : PW), Stable Φ99 ∧ Ctx W w96 (R98 ++ R94) Φ99 ∧ ∀ (w100 : World) (R101 : List Own), Ctx W w100 (R98 ++ R101) Φ99 → J
  (Value.tuple #[Value.pointer p97, Value.int IntKind.i64 0]) w100) (Br (decide (n0 = 7)) (∀ (w102 : World) (R103 : List Own), Ctx W w102 (R ++ R103) Φ → Calls Tryz.prog F.sink_Sink_Bytes
  #[Value.pointer (some (Addr.mk sB sO none))] w102 fun (e104 : Ending) (w105 : World) => ∃ (s106 : ByteArray), e104 = Ending.returned (Value.string s106) ∧ ∃ (R107 : List Own), ∃ (Φ108 :
  PW), Stable Φ108 ∧ Ctx W w105 (R107 ++ R103) Φ108 ∧ ∀ (w109 : World) (R110 : List Own), Ctx W w109 (R107 ++ R110) Φ108 → Calls Tryz.prog F.sink_Read #[Value.string s106] w109 fun (e111 :
  Ending) (w112 : World) => ∃ (p113 : Option Addr), ∃ (c114 : Bool), e111 = Ending.returned (Value.tuple #[Value.pointer p113, Value.bool c114]) ∧ ∃ (R115 : List Own), ∃ (Φ116 : PW), Stable
  Φ116 ∧ Ctx W w112 (R115 ++ R110) Φ116 ∧ Br (!c114) (∀ (w117 : World) (R118 : List Own), Ctx W w117 (R115 ++ R118) Φ116 → J (Value.tuple #[Value.pointer none, Value.int IntKind.i64 0]) w117)
  (∀ (w119 : World) (R120 : List Own), Ctx W w119 (R115 ++ R120) Φ116 → J (Value.tuple #[Value.pointer p113, Value.int IntKind.i64 0]) w119)) (∀ (w121 : World) (R122 : List Own), Ctx W w121
  (R ++ R122) Φ → Calls Tryz.prog F.sink_Sink_Deliver #[Value.pointer (some (Addr.mk sB sO none)), Value.int IntKind.i64 x1, Value.slice x2P x2N x2C] w121 fun (e123 : Ending) (w124 : World)
  => ∃ (n125 : Int), e123 = Ending.returned (Value.int IntKind.i64 n125) ∧ ∃ (R126 : List Own), ∃ (Φ127 : PW), Stable Φ127 ∧ Ctx W w124 (R126 ++ R122) Φ127 ∧ ∀ (w128 : World) (R129 : List
  Own), Ctx W w128 (R126 ++ R129) Φ127 → J (Value.tuple #[Value.pointer (some (Addr.mk sB sO none)), Value.int IntKind.i64 n125]) w128))))))

theorem Berratalaw43_do_run (sB sO : Nat) (x0 : Int) (x1 : Int) (x2P : Option Addr) (x2N x2C : Nat) {W w : World} {R : List Own} {Φ : PW} [Stable Φ] {J : Value → World → Prop} (c : Ctx W w R Φ) (h : Berratalaw43_do sB sO x0 x1 x2P x2N x2C W R Φ J) : Calls Tryz.prog F.erratalaw43_do #[.pointer (some ⟨sB, sO, none⟩), .agg #[.int .i64 x0, .int .i64 x1, .slice x2P x2N x2C]] w fun e w' => ∃ v, e = .returned v ∧ J v w' :=
  vcFS_sound (H := { keep := some [0, 3, 4, 5, 6, 7, 10, 11, 21, 28, 35, 39, 48], track := [3] }) (by rw [show vcFS Tryz.prog W { keep := some [0, 3, 4, 5, 6, 7, 10, 11, 21, 28, 35, 39, 48], track := [3] } F.erratalaw43_do #[.pointer (some ⟨sB, sO, none⟩), .agg #[.int .i64 x0, .int .i64 x1, .slice x2P x2N x2C]] R Φ J = Berratalaw43_do sB sO x0 x1 x2P x2N x2C W R Φ J by kernel_rfl]; exact h) c

/-- sink.New -/
def Bsink_New (kind : Int) (keyP : Option Addr) (keyN keyC : Nat) (W : World) (R : List Own) (Φ : PW) (J : Value → World → Prop) : Prop :=
  Br (decide (kind < 0)) (∀ (w0 : World) (R1 : List Own), Ctx W w0 (R ++ R1) Φ → J (Value.pointer none) w0) (Br (decide (3 ≤ kind)) (∀ (w2 : World) (R3 : List Own), Ctx W w2 (R ++ R3) Φ → J
  (Value.pointer none) w2) (Br (decide (0 < (↑keyN : Int))) (Br (decide (kind ≠ 1)) (∀ (w4 : World) (R5 : List Own), Ctx W w4 (R ++ R5) Φ → J (Value.pointer none) w4) (∀ (w6 : World) (R7 :
  List Own), Ctx W w6 (R ++ R7) Φ → Calls Tryz.prog F.slices_Min_int_int #[Value.slice keyP keyN keyC] w6 fun (e8 : Ending) (w9 : World) => ∃ (n10 : Int), e8 = Ending.returned (Value.int
  IntKind.i64 n10) ∧ ∃ (R11 : List Own), ∃ (Φ12 : PW), Stable Φ12 ∧ Ctx W w9 (R11 ++ R7) Φ12 ∧ Br (decide (n10 < 0)) (∀ (w13 : World) (R14 : List Own), Ctx W w13 (R11 ++ R14) Φ12 → J
  (Value.pointer none) w13) (∀ (w15 : World) (R16 : List Own), Ctx W w15 (R11 ++ R16) Φ12 → Calls Tryz.prog F.slices_Clone_int_int #[Value.slice keyP keyN keyC] w15 fun (e17 : Ending) (w18 :
  World) => ∃ (p19 : Option Addr), ∃ (k20 : Nat), ∃ (k21 : Nat), e17 = Ending.returned (Value.slice p19 k20 k21) ∧ ∃ (R22 : List Own), ∃ (Φ23 : PW), Stable Φ23 ∧ Ctx W w18 (R22 ++ R16) Φ23 ∧
  ∀ (k24 : Nat) (w25 : World) (R26 : List Own), Ctx W w25 (Own.blk k24 [Value.int IntKind.i64 kind, Value.slice p19 k20 k21, Value.slice none 0 0, Value.slice none 0 0, Value.int IntKind.i64
  0, Value.slice none 0 0] 69 :: R22 ++ R26) Φ23 → J (Value.pointer (some (Addr.mk k24 0 none))) w25))) (∀ (w27 : World) (R28 : List Own), Ctx W w27 (R ++ R28) Φ → Calls Tryz.prog
  F.slices_Clone_int_int #[Value.slice keyP keyN keyC] w27 fun (e29 : Ending) (w30 : World) => ∃ (p31 : Option Addr), ∃ (k32 : Nat), ∃ (k33 : Nat), e29 = Ending.returned (Value.slice p31 k32
  k33) ∧ ∃ (R34 : List Own), ∃ (Φ35 : PW), Stable Φ35 ∧ Ctx W w30 (R34 ++ R28) Φ35 ∧ ∀ (k36 : Nat) (w37 : World) (R38 : List Own), Ctx W w37 (Own.blk k36 [Value.int IntKind.i64 kind,
  Value.slice p31 k32 k33, Value.slice none 0 0, Value.slice none 0 0, Value.int IntKind.i64 0, Value.slice none 0 0] 69 :: R34 ++ R38) Φ35 → J (Value.pointer (some (Addr.mk k36 0 none)))
  w37)))

theorem Bsink_New_run (kind : Int) (keyP : Option Addr) (keyN keyC : Nat) {W w : World} {R : List Own} {Φ : PW} [Stable Φ] {J : Value → World → Prop} (c : Ctx W w R Φ) (h : Bsink_New kind keyP keyN keyC W R Φ J) : Calls Tryz.prog F.sink_New #[.int .i64 kind, .slice keyP keyN keyC] w fun e w' => ∃ v, e = .returned v ∧ J v w' :=
  vcFS_sound (H := { keep := some [0, 1, 4, 24], split := [1] }) (by rw [show vcFS Tryz.prog W { keep := some [0, 1, 4, 24], split := [1] } F.sink_New #[.int .i64 kind, .slice keyP keyN keyC] R Φ J = Bsink_New kind keyP keyN keyC W R Φ J by kernel_rfl]; exact h) c

/-- (*sink.Sink).List -/
def Bsink_Sink_List (sB sO : Nat) (W : World) (R : List Own) (Φ : PW) (J : Value → World → Prop) : Prop :=
  ∀ (w0 : World) (R1 : List Own), Ctx W w0 (R ++ R1) Φ → ∃ (p2 : Option Addr), ∃ (k3 : Nat), ∃ (k4 : Nat), w0.cell? (Addr.mk sB (sO + 3) none) = some (Value.slice p2 k3 k4) ∧ ∀ (w5 : World)
  (R6 : List Own), Ctx W w5 (R ++ R6) Φ → Calls Tryz.prog F.sink_clone #[Value.slice p2 k3 k4] w5 fun (e7 : Ending) (w8 : World) => ∃ (p9 : Option Addr), ∃ (k10 : Nat), ∃ (k11 : Nat), e7 =
  Ending.returned (Value.slice p9 k10 k11) ∧ ∃ (R12 : List Own), ∃ (Φ13 : PW), Stable Φ13 ∧ Ctx W w8 (R12 ++ R6) Φ13 ∧ ∀ (w14 : World) (R15 : List Own), Ctx W w14 (R12 ++ R15) Φ13 → J
  (Value.slice p9 k10 k11) w14

theorem Bsink_Sink_List_run (sB sO : Nat) {W w : World} {R : List Own} {Φ : PW} [Stable Φ] {J : Value → World → Prop} (c : Ctx W w R Φ) (h : Bsink_Sink_List sB sO W R Φ J) : Calls Tryz.prog F.sink_Sink_List #[.pointer (some ⟨sB, sO, none⟩)] w fun e w' => ∃ v, e = .returned v ∧ J v w' :=
  vcFS_sound (H := { keep := some [0, 2] }) (by rw [show vcFS Tryz.prog W { keep := some [0, 2] } F.sink_Sink_List #[.pointer (some ⟨sB, sO, none⟩)] R Φ J = Bsink_Sink_List sB sO W R Φ J by kernel_rfl]; exact h) c

/-- (*sink.Sink).Last -/
def Bsink_Sink_Last (sB sO : Nat) (W : World) (R : List Own) (Φ : PW) (J : Value → World → Prop) : Prop :=
  ∀ (w0 : World) (R1 : List Own), Ctx W w0 (R ++ R1) Φ → ∃ (p2 : Option Addr), ∃ (k3 : Nat), ∃ (k4 : Nat), w0.cell? (Addr.mk sB (sO + 2) none) = some (Value.slice p2 k3 k4) ∧ Br (decide ((↑k3
  : Int) = 0)) (∀ (w5 : World) (R6 : List Own), Ctx W w5 (R ++ R6) Φ → J (Value.int IntKind.i64 0) w5) (∀ (w7 : World) (R8 : List Own), Ctx W w7 (R ++ R8) Φ → ∃ (p9 : Option Addr), ∃ (k10 :
  Nat), ∃ (k11 : Nat), w7.cell? (Addr.mk sB (sO + 2) none) = some (Value.slice p9 k10 k11) ∧ ∃ (p12 : Option Addr), ∃ (k13 : Nat), ∃ (k14 : Nat), w7.cell? (Addr.mk sB (sO + 2) none) = some
  (Value.slice p12 k13 k14) ∧ I64 ((↑k13 : Int) - 1) ∧ (0 ≤ (↑k13 : Int) - 1 ∧ (↑k13 : Int) - 1 < (↑k10 : Int)) ∧ ptrK none p9 fun (k15 k16 : Nat) => ∃ (n17 : Int), w7.cell? (Addr.mk k15 (k16
  + ((↑k13 : Int) - 1).toNat) none) = some (Value.int IntKind.i64 n17) ∧ ∀ (w18 : World) (R19 : List Own), Ctx W w18 (R ++ R19) Φ → J (Value.int IntKind.i64 n17) w18)

theorem Bsink_Sink_Last_run (sB sO : Nat) {W w : World} {R : List Own} {Φ : PW} [Stable Φ] {J : Value → World → Prop} (c : Ctx W w R Φ) (h : Bsink_Sink_Last sB sO W R Φ J) : Calls Tryz.prog F.sink_Sink_Last #[.pointer (some ⟨sB, sO, none⟩)] w fun e w' => ∃ v, e = .returned v ∧ J v w' :=
  vcFS_sound (H := { keep := some [0, 2, 8] }) (by rw [show vcFS Tryz.prog W { keep := some [0, 2, 8] } F.sink_Sink_Last #[.pointer (some ⟨sB, sO, none⟩)] R Φ J = Bsink_Sink_Last sB sO W R Φ J by kernel_rfl]; exact h) c

/-- (*sink.Sink).Lines -/
def Bsink_Sink_Lines (sB sO : Nat) (W : World) (R : List Own) (Φ : PW) (J : Value → World → Prop) : Prop :=
  ∀ (w0 : World) (R1 : List Own), Ctx W w0 (R ++ R1) Φ → ∃ (p2 : Option Addr), ∃ (k3 : Nat), ∃ (k4 : Nat), w0.cell? (Addr.mk sB (sO + 3) none) = some (Value.slice p2 k3 k4) ∧ ∀ (w5 : World)
  (R6 : List Own), Ctx W w5 (R ++ R6) Φ → J (Value.int IntKind.i64 (↑k3 : Int)) w5

theorem Bsink_Sink_Lines_run (sB sO : Nat) {W w : World} {R : List Own} {Φ : PW} [Stable Φ] {J : Value → World → Prop} (c : Ctx W w R Φ) (h : Bsink_Sink_Lines sB sO W R Φ J) : Calls Tryz.prog F.sink_Sink_Lines #[.pointer (some ⟨sB, sO, none⟩)] w fun e w' => ∃ v, e = .returned v ∧ J v w' :=
  vcFS_sound (H := { keep := some [0, 2] }) (by rw [show vcFS Tryz.prog W { keep := some [0, 2] } F.sink_Sink_Lines #[.pointer (some ⟨sB, sO, none⟩)] R Φ J = Bsink_Sink_Lines sB sO W R Φ J by kernel_rfl]; exact h) c

/-- errataref43.SameLines -/
-- loop at region 4: 5 i; blocks 
-- known blocks: 6 x, 7 y
def Berrataref43_SameLines (aP : Option Addr) (aN aC : Nat) (bP : Option Addr) (bN bC : Nat) (W : World) (R : List Own) (Φ : PW) (J : Value → World → Prop) : Prop :=
  Br (decide ((↑aN : Int) ≠ (↑bN : Int))) (∀ (w0 : World) (R1 : List Own), Ctx W w0 (R ++ R1) Φ → J (Value.bool false) w0) (exI fun (I2 : Int → List Own → PW → Nat → Prop) => (∃ (R3 : List
  Own), ∃ (Φ4 : PW), ∃ (k5 : Nat), Stable Φ4 ∧ (∀ (w6 : World) (R7 : List Own), Ctx W w6 (R ++ R7) Φ → Ctx W w6 (R3 ++ R7) Φ4) ∧ I2 0 R3 Φ4 k5) ∧ ∀ (n8 : Int) (R9 : List Own) (I10 : List Nat
  → World → Prop) (k11 : Nat), Stable I10 → I2 n8 R9 I10 k11 → Br (decide (n8 < (↑aN : Int))) ((0 ≤ n8 ∧ n8 < (↑aN : Int)) ∧ ptrK none aP fun (k12 k13 : Nat) => ∀ (w14 : World) (R15 : List
  Own), Ctx W w14 (R9 ++ R15) I10 → ∃ (n16 : Int), ∃ (n17 : Int), ∃ (n18 : Int), ∃ (p19 : Option Addr), ∃ (k20 : Nat), ∃ (k21 : Nat), ∃ (n22 : Int), ∃ (n23 : Int), ∃ (n24 : Int), RowAt w14
  k12 (k13 + n8.toNat * 7) [Value.int IntKind.i64 n16, Value.int IntKind.i64 n17, Value.int IntKind.i64 n18, Value.slice p19 k20 k21, Value.int IntKind.i64 n22, Value.int IntKind.i64 n23,
  Value.int IntKind.i64 n24] ∧ ∀ (b : Nat), (0 ≤ n8 ∧ n8 < (↑bN : Int)) ∧ ptrK none bP fun (k25 k26 : Nat) => ∀ (w27 : World) (R28 : List Own), Ctx W w27 (R9 ++ R28) I10 → ∃ (n29 : Int), ∃
  (n30 : Int), ∃ (n31 : Int), ∃ (p32 : Option Addr), ∃ (k33 : Nat), ∃ (k34 : Nat), ∃ (n35 : Int), ∃ (n36 : Int), ∃ (n37 : Int), RowAt w27 k25 (k26 + n8.toNat * 7) [Value.int IntKind.i64 n29,
  Value.int IntKind.i64 n30, Value.int IntKind.i64 n31, Value.slice p32 k33 k34, Value.int IntKind.i64 n35, Value.int IntKind.i64 n36, Value.int IntKind.i64 n37] ∧ ∀ (b : Nat), Br (decide
  (n16 ≠ n29)) (∀ (w38 : World) (R39 : List Own), Ctx W w38 (R9 ++ R39) I10 → J (Value.bool false) w38) (Br (decide (n17 ≠ n30)) (∀ (w40 : World) (R41 : List Own), Ctx W w40 (R9 ++ R41) I10 →
  J (Value.bool false) w40) (Br (decide (n18 ≠ n31)) (∀ (w42 : World) (R43 : List Own), Ctx W w42 (R9 ++ R43) I10 → J (Value.bool false) w42) (Br (decide (n22 ≠ n35)) (∀ (w44 : World) (R45 :
  List Own), Ctx W w44 (R9 ++ R45) I10 → J (Value.bool false) w44) (Br (decide (n23 ≠ n36)) (∀ (w46 : World) (R47 : List Own), Ctx W w46 (R9 ++ R47) I10 → J (Value.bool false) w46) (Br
  (decide (n24 ≠ n37)) (∀ (w48 : World) (R49 : List Own), Ctx W w48 (R9 ++ R49) I10 → J (Value.bool false) w48) (∀ (w50 : World) (R51 : List Own), Ctx W w50 (R9 ++ R51) I10 → Calls Tryz.prog
  F.errataref03_Same #[Value.slice p19 k20 k21, Value.slice p32 k33 k34] w50 fun (e52 : Ending) (w53 : World) => ∃ (c54 : Bool), e52 = Ending.returned (Value.bool c54) ∧ ∃ (R55 : List Own), ∃
  (Φ56 : PW), Stable Φ56 ∧ Ctx W w53 (R55 ++ R51) Φ56 ∧ Br (!c54) (∀ (w57 : World) (R58 : List Own), Ctx W w57 (R55 ++ R58) Φ56 → J (Value.bool false) w57) (I64 (n8 + 1) ∧ ∃ (R59 : List Own),
  ∃ (Φ60 : PW), ∃ (k61 : Nat), Stable Φ60 ∧ (∀ (w62 : World) (R63 : List Own), Ctx W w62 (R55 ++ R63) Φ56 → Ctx W w62 (R59 ++ R63) Φ60) ∧ I2 (n8 + 1) R59 Φ60 k61 ∧ k61 < k11)))))))) (∀ (w64 :
  World) (R65 : List Own), Ctx W w64 (R9 ++ R65) I10 → J (Value.bool true) w64))

theorem Berrataref43_SameLines_run (aP : Option Addr) (aN aC : Nat) (bP : Option Addr) (bN bC : Nat) {W w : World} {R : List Own} {Φ : PW} [Stable Φ] {J : Value → World → Prop} (c : Ctx W w R Φ) (h : Berrataref43_SameLines aP aN aC bP bN bC W R Φ J) : Calls Tryz.prog F.errataref43_SameLines #[.slice aP aN aC, .slice bP bN bC] w fun e w' => ∃ v, e = .returned v ∧ J v w' :=
  vcFS_sound (H := { keep := some [0, 1, 4, 5, 6, 7, 12, 16, 74], track := [6, 7], split := [8], loops := [(4, [(5, .one (.int .i64))], [])] }) (by rw [show vcFS Tryz.prog W { keep := some [0, 1, 4, 5, 6, 7, 12, 16, 74], track := [6, 7], split := [8], loops := [(4, [(5, .one (.int .i64))], [])] } F.errataref43_SameLines #[.slice aP aN aC, .slice bP bN bC] R Φ J = Berrataref43_SameLines aP aN aC bP bN bC W R Φ J by kernel_rfl]; exact h) c

/-- (*sink.Sink).Has -/
def Bsink_Sink_Has (sB sO : Nat) (batch : Int) (W : World) (R : List Own) (Φ : PW) (J : Value → World → Prop) : Prop :=
  ∀ (w0 : World) (R1 : List Own), Ctx W w0 (R ++ R1) Φ → ∃ (p2 : Option Addr), ∃ (k3 : Nat), ∃ (k4 : Nat), w0.cell? (Addr.mk sB (sO + 2) none) = some (Value.slice p2 k3 k4) ∧ ∀ (w5 : World)
  (R6 : List Own), Ctx W w5 (R ++ R6) Φ → Calls Tryz.prog F.slices_BinarySearch_int_int #[Value.slice p2 k3 k4, Value.int IntKind.i64 batch] w5 fun (e7 : Ending) (w8 : World) => ∃ (n9 : Int),
  ∃ (c10 : Bool), e7 = Ending.returned (Value.tuple #[Value.int IntKind.i64 n9, Value.bool c10]) ∧ ∃ (R11 : List Own), ∃ (Φ12 : PW), Stable Φ12 ∧ Ctx W w8 (R11 ++ R6) Φ12 ∧ ∀ (w13 : World)
  (R14 : List Own), Ctx W w13 (R11 ++ R14) Φ12 → J (Value.bool c10) w13

theorem Bsink_Sink_Has_run (sB sO : Nat) (batch : Int) {W w : World} {R : List Own} {Φ : PW} [Stable Φ] {J : Value → World → Prop} (c : Ctx W w R Φ) (h : Bsink_Sink_Has sB sO batch W R Φ J) : Calls Tryz.prog F.sink_Sink_Has #[.pointer (some ⟨sB, sO, none⟩), .int .i64 batch] w fun e w' => ∃ v, e = .returned v ∧ J v w' :=
  vcFS_sound (H := { keep := some [0, 1, 4, 6] }) (by rw [show vcFS Tryz.prog W { keep := some [0, 1, 4, 6] } F.sink_Sink_Has #[.pointer (some ⟨sB, sO, none⟩), .int .i64 batch] R Φ J = Bsink_Sink_Has sB sO batch W R Φ J by kernel_rfl]; exact h) c

/-- (*sink.Sink).Prepared -/
def Bsink_Sink_Prepared (sB sO : Nat) (W : World) (R : List Own) (Φ : PW) (J : Value → World → Prop) : Prop :=
  ∀ (w0 : World) (R1 : List Own), Ctx W w0 (R ++ R1) Φ → ∃ (n2 : Int), w0.cell? (Addr.mk sB (sO + 4) none) = some (Value.int IntKind.i64 n2) ∧ ∀ (w3 : World) (R4 : List Own), Ctx W w3 (R ++
  R4) Φ → J (Value.int IntKind.i64 n2) w3

theorem Bsink_Sink_Prepared_run (sB sO : Nat) {W w : World} {R : List Own} {Φ : PW} [Stable Φ] {J : Value → World → Prop} (c : Ctx W w R Φ) (h : Bsink_Sink_Prepared sB sO W R Φ J) : Calls Tryz.prog F.sink_Sink_Prepared #[.pointer (some ⟨sB, sO, none⟩)] w fun e w' => ∃ v, e = .returned v ∧ J v w' :=
  vcFS_sound (H := { keep := some [0, 2] }) (by rw [show vcFS Tryz.prog W { keep := some [0, 2] } F.sink_Sink_Prepared #[.pointer (some ⟨sB, sO, none⟩)] R Φ J = Bsink_Sink_Prepared sB sO W R Φ J by kernel_rfl]; exact h) c

/-- (*sink.Sink).Deliver -/
def Bsink_Sink_Deliver (sB sO : Nat) (batch : Int) (linesP : Option Addr) (linesN linesC : Nat) (W : World) (R : List Own) (Φ : PW) (J : Value → World → Prop) : Prop :=
  ∀ (w0 : World) (R1 : List Own), Ctx W w0 (R ++ R1) Φ → ∃ (n2 : Int), w0.cell? (Addr.mk sB sO none) = some (Value.int IntKind.i64 n2) ∧ Br (decide (n2 = 0)) (∀ (w3 : World) (R4 : List Own),
  Ctx W w3 (R ++ R4) Φ → J (Value.int IntKind.i64 7) w3) (∀ (w5 : World) (R6 : List Own), Ctx W w5 (R ++ R6) Φ → Calls Tryz.prog F.sink_Sink_Has #[Value.pointer (some (Addr.mk sB sO none)),
  Value.int IntKind.i64 batch] w5 fun (e7 : Ending) (w8 : World) => ∃ (c9 : Bool), e7 = Ending.returned (Value.bool c9) ∧ ∃ (R10 : List Own), ∃ (Φ11 : PW), Stable Φ11 ∧ Ctx W w8 (R10 ++ R6)
  Φ11 ∧ Br c9 (∀ (w12 : World) (R13 : List Own), Ctx W w12 (R10 ++ R13) Φ11 → J (Value.int IntKind.i64 0) w12) (∀ (w14 : World) (R15 : List Own), Ctx W w14 (R10 ++ R15) Φ11 → Calls Tryz.prog
  F.sink_Sink_look #[Value.pointer (some (Addr.mk sB sO none)), Value.int IntKind.i64 batch, Value.slice linesP linesN linesC] w14 fun (e16 : Ending) (w17 : World) => ∃ (n18 : Int), e16 =
  Ending.returned (Value.int IntKind.i64 n18) ∧ ∃ (R19 : List Own), ∃ (Φ20 : PW), Stable Φ20 ∧ Ctx W w17 (R19 ++ R15) Φ20 ∧ Br (decide (n18 ≠ 0)) (∀ (w21 : World) (R22 : List Own), Ctx W w21
  (R19 ++ R22) Φ20 → J (Value.int IntKind.i64 n18) w21) (∀ (w23 : World) (R24 : List Own), Ctx W w23 (R19 ++ R24) Φ20 → Calls Tryz.prog F.sink_clone #[Value.slice linesP linesN linesC] w23
  fun (e25 : Ending) (w26 : World) => ∃ (p27 : Option Addr), ∃ (k28 : Nat), ∃ (k29 : Nat), e25 = Ending.returned (Value.slice p27 k28 k29) ∧ ∃ (R30 : List Own), ∃ (Φ31 : PW), Stable Φ31 ∧ Ctx
  W w26 (R30 ++ R24) Φ31 ∧ ∀ (w32 : World) (R33 : List Own), Ctx W w32 (R30 ++ R33) Φ31 → Calls Tryz.prog F.sink_Sink_take #[Value.pointer (some (Addr.mk sB sO none)), Value.int IntKind.i64
  batch, Value.slice p27 k28 k29] w32 fun (e34 : Ending) (w35 : World) => e34 = Ending.returned (Value.tuple #[]) ∧ ∃ (R36 : List Own), ∃ (Φ37 : PW), Stable Φ37 ∧ Ctx W w35 (R36 ++ R33) Φ37 ∧
  ∀ (w38 : World) (R39 : List Own), Ctx W w38 (R36 ++ R39) Φ37 → J (Value.int IntKind.i64 0) w38)))

theorem Bsink_Sink_Deliver_run (sB sO : Nat) (batch : Int) (linesP : Option Addr) (linesN linesC : Nat) {W w : World} {R : List Own} {Φ : PW} [Stable Φ] {J : Value → World → Prop} (c : Ctx W w R Φ) (h : Bsink_Sink_Deliver sB sO batch linesP linesN linesC W R Φ J) : Calls Tryz.prog F.sink_Sink_Deliver #[.pointer (some ⟨sB, sO, none⟩), .int .i64 batch, .slice linesP linesN linesC] w fun e w' => ∃ v, e = .returned v ∧ J v w' :=
  vcFS_sound (H := { keep := some [0, 1, 2, 6, 7, 8, 14, 23] }) (by rw [show vcFS Tryz.prog W { keep := some [0, 1, 2, 6, 7, 8, 14, 23] } F.sink_Sink_Deliver #[.pointer (some ⟨sB, sO, none⟩), .int .i64 batch, .slice linesP linesN linesC] R Φ J = Bsink_Sink_Deliver sB sO batch linesP linesN linesC W R Φ J by kernel_rfl]; exact h) c

/-- erratalaw43.line -/
-- known blocks: 4 
def Berratalaw43_line (no : Int) (batch : Int) (W : World) (R : List Own) (Φ : PW) (J : Value → World → Prop) : Prop :=
  ∀ (b k0 : Nat) (w1 : World) (R2 : List Own), Ctx W w1 (Own.blk k0 [Value.int IntKind.i64 0, Value.int IntKind.i64 no, Value.string (ByteArray.mk #[])] 94 :: R ++ R2) Φ → J (Value.agg
  #[Value.int IntKind.i64 no, Value.int IntKind.i64 batch, Value.int IntKind.i64 no, Value.slice (some (Addr.mk k0 0 none)) 1 1, Value.int IntKind.i64 1, Value.int IntKind.i64 0, Value.int
  IntKind.i64 0]) w1

theorem Berratalaw43_line_run (no : Int) (batch : Int) {W w : World} {R : List Own} {Φ : PW} [Stable Φ] {J : Value → World → Prop} (c : Ctx W w R Φ) (h : Berratalaw43_line no batch W R Φ J) : Calls Tryz.prog F.erratalaw43_line #[.int .i64 no, .int .i64 batch] w fun e w' => ∃ v, e = .returned v ∧ J v w' :=
  vcFS_sound (H := { keep := some [0, 1, 4], track := [4] }) (by rw [show vcFS Tryz.prog W { keep := some [0, 1, 4], track := [4] } F.erratalaw43_line #[.int .i64 no, .int .i64 batch] R Φ J = Berratalaw43_line no batch W R Φ J by kernel_rfl]; exact h) c

/-- errataref43.Few -/
-- loop at region 7: 6 k; blocks 
-- loop at region 2: 5 i; blocks 
def Berrataref43_Few (lP : Option Addr) (lN lC : Nat) (n : Int) (W : World) (R : List Own) (Φ : PW) (J : Value → World → Prop) : Prop :=
  exI fun (I0 : Int → List Own → PW → Nat → Prop) => (∃ (R1 : List Own), ∃ (Φ2 : PW), ∃ (k3 : Nat), Stable Φ2 ∧ (∀ (w4 : World) (R5 : List Own), Ctx W w4 (R ++ R5) Φ → Ctx W w4 (R1 ++ R5) Φ2)
  ∧ I0 0 R1 Φ2 k3) ∧ ∀ (n6 : Int) (R7 : List Own) (I8 : List Nat → World → Prop) (k9 : Nat), Stable I8 → I0 n6 R7 I8 k9 → ∀ (w10 : World) (R11 : List Own), Ctx W w10 (R7 ++ R11) I8 → Br
  (decide (n6 < (↑lN : Int)) && decide (n6 ≤ n)) ((0 ≤ n6 ∧ n6 < (↑lN : Int)) ∧ ptrK none lP fun (k12 k13 : Nat) => ∀ (w14 : World) (R15 : List Own), Ctx W w14 (R7 ++ R15) I8 → ∃ (p16 :
  Option Addr), ∃ (k17 : Nat), ∃ (k18 : Nat), w14.cell? (Addr.mk k12 (k13 + n6.toNat * 7 + 3) none) = some (Value.slice p16 k17 k18) ∧ Br (decide (12 < (↑k17 : Int))) (∀ (w19 : World) (R20 :
  List Own), Ctx W w19 (R7 ++ R20) I8 → J (Value.bool false) w19) (exI fun (I21 : Int → List Own → PW → Nat → Prop) => (∃ (R22 : List Own), ∃ (Φ23 : PW), ∃ (k24 : Nat), Stable Φ23 ∧ (∀ (w25 :
  World) (R26 : List Own), Ctx W w25 (R7 ++ R26) I8 → Ctx W w25 (R22 ++ R26) Φ23) ∧ I21 0 R22 Φ23 k24) ∧ ∀ (n27 : Int) (R28 : List Own) (I29 : List Nat → World → Prop) (k30 : Nat), Stable I29
  → I21 n27 R28 I29 k30 → (0 ≤ n6 ∧ n6 < (↑lN : Int)) ∧ ptrK none lP fun (k31 k32 : Nat) => ∀ (w33 : World) (R34 : List Own), Ctx W w33 (R28 ++ R34) I29 → ∃ (p35 : Option Addr), ∃ (k36 :
  Nat), ∃ (k37 : Nat), w33.cell? (Addr.mk k31 (k32 + n6.toNat * 7 + 3) none) = some (Value.slice p35 k36 k37) ∧ Br (decide (n27 < (↑k36 : Int))) ((0 ≤ n6 ∧ n6 < (↑lN : Int)) ∧ ptrK none lP
  fun (k38 k39 : Nat) => ∀ (w40 : World) (R41 : List Own), Ctx W w40 (R28 ++ R41) I29 → ∃ (p42 : Option Addr), ∃ (k43 : Nat), ∃ (k44 : Nat), w40.cell? (Addr.mk k38 (k39 + n6.toNat * 7 + 3)
  none) = some (Value.slice p42 k43 k44) ∧ (0 ≤ n27 ∧ n27 < (↑k43 : Int)) ∧ ptrK none p42 fun (k45 k46 : Nat) => ∀ (w47 : World) (R48 : List Own), Ctx W w47 (R28 ++ R48) I29 → ∃ (s49 :
  ByteArray), w47.cell? (Addr.mk k45 (k46 + n27.toNat * 3 + 2) none) = some (Value.string s49) ∧ Br (decide (210 < (↑s49.size : Int))) (∀ (w50 : World) (R51 : List Own), Ctx W w50 (R28 ++
  R51) I29 → J (Value.bool false) w50) (I64 (n27 + 1) ∧ ∃ (R52 : List Own), ∃ (Φ53 : PW), ∃ (k54 : Nat), Stable Φ53 ∧ (∀ (w55 : World) (R56 : List Own), Ctx W w55 (R28 ++ R56) I29 → Ctx W w55
  (R52 ++ R56) Φ53) ∧ I21 (n27 + 1) R52 Φ53 k54 ∧ k54 < k30)) (I64 (n6 + 1) ∧ ∃ (R57 : List Own), ∃ (Φ58 : PW), ∃ (k59 : Nat), Stable Φ58 ∧ (∀ (w60 : World) (R61 : List Own), Ctx W w60 (R28
  ++ R61) I29 → Ctx W w60 (R57 ++ R61) Φ58) ∧ I0 (n6 + 1) R57 Φ58 k59 ∧ k59 < k9))) (∀ (w62 : World) (R63 : List Own), Ctx W w62 (R7 ++ R63) I8 → J (Value.bool (decide ((↑lN : Int) ≤ n)))
  w62)

theorem Berrataref43_Few_run (lP : Option Addr) (lN lC : Nat) (n : Int) {W w : World} {R : List Own} {Φ : PW} [Stable Φ] {J : Value → World → Prop} (c : Ctx W w R Φ) (h : Berrataref43_Few lP lN lC n W R Φ J) : Calls Tryz.prog F.errataref43_Few #[.slice lP lN lC, .int .i64 n] w fun e w' => ∃ v, e = .returned v ∧ J v w' :=
  vcFS_sound (H := { keep := some [0, 1, 4, 5, 6, 15, 24, 32, 45], loops := [(7, [(6, .one (.int .i64))], []), (2, [(5, .one (.int .i64))], [])] }) (by rw [show vcFS Tryz.prog W { keep := some [0, 1, 4, 5, 6, 15, 24, 32, 45], loops := [(7, [(6, .one (.int .i64))], []), (2, [(5, .one (.int .i64))], [])] } F.errataref43_Few #[.slice lP lN lC, .int .i64 n] R Φ J = Berrataref43_Few lP lN lC n W R Φ J by kernel_rfl]; exact h) c

/-- (*sink.Sink).look -/
-- loop at region 11: 53 ; blocks 
-- loop at region 4: 22 ; blocks 
-- known blocks: 11 x
def Bsink_Sink_look (sB sO : Nat) (batch : Int) (linesP : Option Addr) (linesN linesC : Nat) (W : World) (R : List Own) (Φ : PW) (J : Value → World → Prop) : Prop :=
  Br (decide (batch < 1)) (∀ (w0 : World) (R1 : List Own), Ctx W w0 (R ++ R1) Φ → J (Value.int IntKind.i64 25) w0) (∀ (w2 : World) (R3 : List Own), Ctx W w2 (R ++ R3) Φ → Calls Tryz.prog
  F.sink_Sink_Last #[Value.pointer (some (Addr.mk sB sO none))] w2 fun (e4 : Ending) (w5 : World) => ∃ (n6 : Int), e4 = Ending.returned (Value.int IntKind.i64 n6) ∧ ∃ (R7 : List Own), ∃ (Φ8 :
  PW), Stable Φ8 ∧ Ctx W w5 (R7 ++ R3) Φ8 ∧ Br (decide (batch ≤ n6)) (∀ (w9 : World) (R10 : List Own), Ctx W w9 (R7 ++ R10) Φ8 → J (Value.int IntKind.i64 25) w9) (exI fun (I11 : Int → List
  Own → PW → Nat → Prop) => (∃ (R12 : List Own), ∃ (Φ13 : PW), ∃ (k14 : Nat), Stable Φ13 ∧ (∀ (w15 : World) (R16 : List Own), Ctx W w15 (R7 ++ R16) Φ8 → Ctx W w15 (R12 ++ R16) Φ13) ∧ I11 0
  R12 Φ13 k14) ∧ ∀ (n17 : Int) (R18 : List Own) (I19 : List Nat → World → Prop) (k20 : Nat), Stable I19 → I11 n17 R18 I19 k20 → Br (decide (n17 < (↑linesN : Int))) ((0 ≤ n17 ∧ n17 < (↑linesN
  : Int)) ∧ ptrK none linesP fun (k21 k22 : Nat) => ∀ (w23 : World) (R24 : List Own), Ctx W w23 (R18 ++ R24) I19 → ∃ (n25 : Int), ∃ (n26 : Int), ∃ (n27 : Int), ∃ (p28 : Option Addr), ∃ (k29 :
  Nat), ∃ (k30 : Nat), ∃ (n31 : Int), ∃ (n32 : Int), ∃ (n33 : Int), RowAt w23 k21 (k22 + n17.toNat * 7) [Value.int IntKind.i64 n25, Value.int IntKind.i64 n26, Value.int IntKind.i64 n27,
  Value.slice p28 k29 k30, Value.int IntKind.i64 n31, Value.int IntKind.i64 n32, Value.int IntKind.i64 n33] ∧ ∀ (k34 : Nat) (w35 : World) (R36 : List Own), Ctx W w35 (Own.blk k34 [Value.int
  IntKind.i64 0, Value.int IntKind.i64 0, Value.int IntKind.i64 0, Value.slice none 0 0, Value.int IntKind.i64 0, Value.int IntKind.i64 0, Value.int IntKind.i64 0] 46 :: R18 ++ R36) I19 →
  CanWrite w35 k34 0 7 ∧ ∀ (w37 : World), w37 = w35.setCells k34 0 [Value.int IntKind.i64 n25, Value.int IntKind.i64 n26, Value.int IntKind.i64 n27, Value.slice p28 k29 k30, Value.int
  IntKind.i64 n31, Value.int IntKind.i64 n32, Value.int IntKind.i64 n33] → ∃ (R38 : List Own), ∃ (Φ39 : PW), Stable Φ39 ∧ Ctx W w37 (R38 ++ R36) Φ39 ∧ ∀ (w40 : World) (R41 : List Own), Ctx W
  w40 (R38 ++ R41) Φ39 → ∃ (p42 : Option Addr), ∃ (k43 : Nat), ∃ (k44 : Nat), w40.cell? (Addr.mk sB (sO + 1) none) = some (Value.slice p42 k43 k44) ∧ ∀ (w45 : World) (R46 : List Own), Ctx W
  w45 (R38 ++ R46) Φ39 → Calls Tryz.prog F.slices_ContainsFunc_int_int #[Value.slice p42 k43 k44, Value.func (Fn.func 84) #[] #[Value.pointer (some (Addr.mk k34 0 none))]] w45 fun (e47 :
  Ending) (w48 : World) => ∃ (c49 : Bool), e47 = Ending.returned (Value.bool c49) ∧ ∃ (R50 : List Own), ∃ (Φ51 : PW), Stable Φ51 ∧ Ctx W w48 (R50 ++ R46) Φ51 ∧ ∀ (w52 : World) (R53 : List
  Own), Ctx W w52 (R50 ++ R53) Φ51 → ∃ (n54 : Int), w52.cell? (Addr.mk k34 1 none) = some (Value.int IntKind.i64 n54) ∧ Br (decide (n54 ≠ batch)) (∀ (w55 : World) (R56 : List Own), Ctx W w55
  (R50 ++ R56) Φ51 → J (Value.int IntKind.i64 1) w55) (∀ (w57 : World) (R58 : List Own), Ctx W w57 (R50 ++ R58) Φ51 → ∃ (n59 : Int), w57.cell? (Addr.mk k34 4 none) = some (Value.int
  IntKind.i64 n59) ∧ Br (decide (n59 = 0)) (∀ (w60 : World) (R61 : List Own), Ctx W w60 (R50 ++ R61) Φ51 → J (Value.int IntKind.i64 1) w60) (∀ (w62 : World) (R63 : List Own), Ctx W w62 (R50
  ++ R63) Φ51 → ∃ (p64 : Option Addr), ∃ (k65 : Nat), ∃ (k66 : Nat), w62.cell? (Addr.mk k34 3 none) = some (Value.slice p64 k65 k66) ∧ ∀ (w67 : World) (R68 : List Own), Ctx W w67 (R50 ++ R68)
  Φ51 → Calls Tryz.prog F.value_RightRow #[Value.slice p64 k65 k66] w67 fun (e69 : Ending) (w70 : World) => ∃ (c71 : Bool), e69 = Ending.returned (Value.bool c71) ∧ ∃ (R72 : List Own), ∃ (Φ73
  : PW), Stable Φ73 ∧ Ctx W w70 (R72 ++ R68) Φ73 ∧ Br (!c71) (∀ (w74 : World) (R75 : List Own), Ctx W w74 (R72 ++ R75) Φ73 → J (Value.int IntKind.i64 1) w74) (Br c49 (∀ (w76 : World) (R77 :
  List Own), Ctx W w76 (R72 ++ R77) Φ73 → J (Value.int IntKind.i64 1) w76) (I64 (n17 + 1) ∧ ∃ (R78 : List Own), ∃ (Φ79 : PW), ∃ (k80 : Nat), Stable Φ79 ∧ (∀ (w81 : World) (R82 : List Own),
  Ctx W w81 (R72 ++ R82) Φ73 → Ctx W w81 (R78 ++ R82) Φ79) ∧ I11 (n17 + 1) R78 Φ79 k80 ∧ k80 < k20))))) (exI fun (I83 : Int → List Own → PW → Nat → Prop) => (∃ (R84 : List Own), ∃ (Φ85 : PW),
  ∃ (k86 : Nat), Stable Φ85 ∧ (∀ (w87 : World) (R88 : List Own), Ctx W w87 (R18 ++ R88) I19 → Ctx W w87 (R84 ++ R88) Φ85) ∧ I83 0 R84 Φ85 k86) ∧ ∀ (n89 : Int) (R90 : List Own) (I91 : List Nat
  → World → Prop) (k92 : Nat), Stable I91 → I83 n89 R90 I91 k92 → Br (decide (n89 < (↑linesN : Int))) ((0 ≤ n89 ∧ n89 < (↑linesN : Int)) ∧ ptrK none linesP fun (k93 k94 : Nat) => ∀ (w95 :
  World) (R96 : List Own), Ctx W w95 (R90 ++ R96) I91 → ∃ (n97 : Int), ∃ (n98 : Int), ∃ (n99 : Int), ∃ (p100 : Option Addr), ∃ (k101 : Nat), ∃ (k102 : Nat), ∃ (n103 : Int), ∃ (n104 : Int), ∃
  (n105 : Int), RowAt w95 k93 (k94 + n89.toNat * 7) [Value.int IntKind.i64 n97, Value.int IntKind.i64 n98, Value.int IntKind.i64 n99, Value.slice p100 k101 k102, Value.int IntKind.i64 n103,
  Value.int IntKind.i64 n104, Value.int IntKind.i64 n105] ∧ ∀ (b : Nat) (w106 : World) (R107 : List Own), Ctx W w106 (R90 ++ R107) I91 → ∃ (p108 : Option Addr), ∃ (k109 : Nat), ∃ (k110 :
  Nat), w106.cell? (Addr.mk sB (sO + 3) none) = some (Value.slice p108 k109 k110) ∧ I64 ((↑k109 : Int) + 1) ∧ I64 ((↑k109 : Int) + 1 + n89) ∧ Br (decide (n97 ≠ (↑k109 : Int) + 1 + n89)) (∀
  (w111 : World) (R112 : List Own), Ctx W w111 (R90 ++ R112) I91 → J (Value.int IntKind.i64 25) w111) (I64 (n89 + 1) ∧ ∃ (R113 : List Own), ∃ (Φ114 : PW), ∃ (k115 : Nat), Stable Φ114 ∧ (∀
  (w116 : World) (R117 : List Own), Ctx W w116 (R90 ++ R117) I91 → Ctx W w116 (R113 ++ R117) Φ114) ∧ I83 (n89 + 1) R113 Φ114 k115 ∧ k115 < k92)) (∀ (w118 : World) (R119 : List Own), Ctx W
  w118 (R90 ++ R119) I91 → J (Value.int IntKind.i64 0) w118))))

theorem Bsink_Sink_look_run (sB sO : Nat) (batch : Int) (linesP : Option Addr) (linesN linesC : Nat) {W w : World} {R : List Own} {Φ : PW} [Stable Φ] {J : Value → World → Prop} (c : Ctx W w R Φ) (h : Bsink_Sink_look sB sO batch linesP linesN linesC W R Φ J) : Calls Tryz.prog F.sink_Sink_look #[.pointer (some ⟨sB, sO, none⟩), .int .i64 batch, .slice linesP linesN linesC] w fun e w' => ∃ v, e = .returned v ∧ J v w' :=
  vcFS_sound (H := { keep := some [0, 1, 2, 6, 8, 9, 10, 11, 19, 20, 21, 22, 23, 49, 51, 52, 53, 54, 68], track := [11], split := [1, 7], loops := [(11, [(53, .one (.int .i64))], []), (4, [(22, .one (.int .i64))], [])] }) (by rw [show vcFS Tryz.prog W { keep := some [0, 1, 2, 6, 8, 9, 10, 11, 19, 20, 21, 22, 23, 49, 51, 52, 53, 54, 68], track := [11], split := [1, 7], loops := [(11, [(53, .one (.int .i64))], []), (4, [(22, .one (.int .i64))], [])] } F.sink_Sink_look #[.pointer (some ⟨sB, sO, none⟩), .int .i64 batch, .slice linesP linesN linesC] R Φ J = Bsink_Sink_look sB sO batch linesP linesN linesC W R Φ J by kernel_rfl]; exact h) c

/-- (*sink.Sink).take -/
def Bsink_Sink_take (sB sO : Nat) (batch : Int) (linesP : Option Addr) (linesN linesC : Nat) (W : World) (R : List Own) (Φ : PW) (J : Value → World → Prop) : Prop :=
  ∀ (w0 : World) (R1 : List Own), Ctx W w0 (R ++ R1) Φ → ∃ (p2 : Option Addr), ∃ (k3 : Nat), ∃ (k4 : Nat), w0.cell? (Addr.mk sB (sO + 2) none) = some (Value.slice p2 k3 k4) ∧ ∀ (k5 : Nat) (w6
  : World) (R7 : List Own), Ctx W w6 (Own.blk k5 [Value.int IntKind.i64 batch] 3 :: R ++ R7) Φ → ∃ (p8 : Option Addr), ∃ (k9 : Nat), ∃ (k10 : Nat), ∃ (w11 : World), Sem.run Tryz.prog (builtin
  Builtin.append #[50, 50] 50 #[false, false] #[Value.slice p2 k3 k4, Value.slice (some (Addr.mk k5 0 none)) 1 1]) w6 = Result.ok (Next.value (Value.slice p8 k9 k10)) w11 ∧ ∃ (R12 : List
  Own), ∃ (Φ13 : PW), Stable Φ13 ∧ Ctx W w11 (R12 ++ R7) Φ13 ∧ ∀ (w14 : World) (R15 : List Own), Ctx W w14 (R12 ++ R15) Φ13 → CanWrite w14 sB (sO + 2) 1 ∧ ∀ (w16 : World), w16 = w14.setCell
  (Addr.mk sB (sO + 2) none) (Value.slice p8 k9 k10) → ∃ (R17 : List Own), ∃ (Φ18 : PW), Stable Φ18 ∧ Ctx W w16 (R17 ++ R15) Φ18 ∧ ∀ (w19 : World) (R20 : List Own), Ctx W w19 (R17 ++ R20) Φ18
  → ∃ (p21 : Option Addr), ∃ (k22 : Nat), ∃ (k23 : Nat), w19.cell? (Addr.mk sB (sO + 3) none) = some (Value.slice p21 k22 k23) ∧ ∀ (w24 : World) (R25 : List Own), Ctx W w24 (R17 ++ R25) Φ18 →
  ∃ (p26 : Option Addr), ∃ (k27 : Nat), ∃ (k28 : Nat), ∃ (w29 : World), Sem.run Tryz.prog (builtin Builtin.append #[33, 33] 33 #[false, false] #[Value.slice p21 k22 k23, Value.slice linesP
  linesN linesC]) w24 = Result.ok (Next.value (Value.slice p26 k27 k28)) w29 ∧ ∃ (R30 : List Own), ∃ (Φ31 : PW), Stable Φ31 ∧ Ctx W w29 (R30 ++ R25) Φ31 ∧ ∀ (w32 : World) (R33 : List Own),
  Ctx W w32 (R30 ++ R33) Φ31 → CanWrite w32 sB (sO + 3) 1 ∧ ∀ (w34 : World), w34 = w32.setCell (Addr.mk sB (sO + 3) none) (Value.slice p26 k27 k28) → ∃ (R35 : List Own), ∃ (Φ36 : PW), Stable
  Φ36 ∧ Ctx W w34 (R35 ++ R33) Φ36 ∧ ∀ (w37 : World) (R38 : List Own), Ctx W w37 (R35 ++ R38) Φ36 → J (Value.tuple #[]) w37

theorem Bsink_Sink_take_run (sB sO : Nat) (batch : Int) (linesP : Option Addr) (linesN linesC : Nat) {W w : World} {R : List Own} {Φ : PW} [Stable Φ] {J : Value → World → Prop} (c : Ctx W w R Φ) (h : Bsink_Sink_take sB sO batch linesP linesN linesC W R Φ J) : Calls Tryz.prog F.sink_Sink_take #[.pointer (some ⟨sB, sO, none⟩), .int .i64 batch, .slice linesP linesN linesC] w fun e w' => ∃ v, e = .returned v ∧ J v w' :=
  vcFS_sound (H := { keep := some [0, 2] }) (by rw [show vcFS Tryz.prog W { keep := some [0, 2] } F.sink_Sink_take #[.pointer (some ⟨sB, sO, none⟩), .int .i64 batch, .slice linesP linesN linesC] R Φ J = Bsink_Sink_take sB sO batch linesP linesN linesC W R Φ J by kernel_rfl]; exact h) c

/-- (*sink.Sink).Prepare -/
def Bsink_Sink_Prepare (sB sO : Nat) (batch : Int) (linesP : Option Addr) (linesN linesC : Nat) (W : World) (R : List Own) (Φ : PW) (J : Value → World → Prop) : Prop :=
  ∀ (w0 : World) (R1 : List Own), Ctx W w0 (R ++ R1) Φ → ∃ (n2 : Int), w0.cell? (Addr.mk sB sO none) = some (Value.int IntKind.i64 n2) ∧ Br (decide (n2 ≠ 0)) (∀ (w3 : World) (R4 : List Own),
  Ctx W w3 (R ++ R4) Φ → J (Value.int IntKind.i64 7) w3) (∀ (w5 : World) (R6 : List Own), Ctx W w5 (R ++ R6) Φ → Calls Tryz.prog F.sink_Sink_Has #[Value.pointer (some (Addr.mk sB sO none)),
  Value.int IntKind.i64 batch] w5 fun (e7 : Ending) (w8 : World) => ∃ (c9 : Bool), e7 = Ending.returned (Value.bool c9) ∧ ∃ (R10 : List Own), ∃ (Φ11 : PW), Stable Φ11 ∧ Ctx W w8 (R10 ++ R6)
  Φ11 ∧ Br c9 (∀ (w12 : World) (R13 : List Own), Ctx W w12 (R10 ++ R13) Φ11 → J (Value.int IntKind.i64 0) w12) (∀ (w14 : World) (R15 : List Own), Ctx W w14 (R10 ++ R15) Φ11 → Calls Tryz.prog
  F.sink_Sink_look #[Value.pointer (some (Addr.mk sB sO none)), Value.int IntKind.i64 batch, Value.slice linesP linesN linesC] w14 fun (e16 : Ending) (w17 : World) => ∃ (n18 : Int), e16 =
  Ending.returned (Value.int IntKind.i64 n18) ∧ ∃ (R19 : List Own), ∃ (Φ20 : PW), Stable Φ20 ∧ Ctx W w17 (R19 ++ R15) Φ20 ∧ Br (decide (n18 ≠ 0)) (∀ (w21 : World) (R22 : List Own), Ctx W w21
  (R19 ++ R22) Φ20 → J (Value.int IntKind.i64 n18) w21) (∀ (w23 : World) (R24 : List Own), Ctx W w23 (R19 ++ R24) Φ20 → Calls Tryz.prog F.sink_clone #[Value.slice linesP linesN linesC] w23
  fun (e25 : Ending) (w26 : World) => ∃ (p27 : Option Addr), ∃ (k28 : Nat), ∃ (k29 : Nat), e25 = Ending.returned (Value.slice p27 k28 k29) ∧ ∃ (R30 : List Own), ∃ (Φ31 : PW), Stable Φ31 ∧ Ctx
  W w26 (R30 ++ R24) Φ31 ∧ ∀ (w32 : World) (R33 : List Own), Ctx W w32 (R30 ++ R33) Φ31 → CanWrite w32 sB (sO + 4) 1 ∧ ∀ (w34 : World), w34 = w32.setCell (Addr.mk sB (sO + 4) none) (Value.int
  IntKind.i64 batch) → ∃ (R35 : List Own), ∃ (Φ36 : PW), Stable Φ36 ∧ Ctx W w34 (R35 ++ R33) Φ36 ∧ ∀ (w37 : World) (R38 : List Own), Ctx W w37 (R35 ++ R38) Φ36 → CanWrite w37 sB (sO + 5) 1 ∧
  ∀ (w39 : World), w39 = w37.setCell (Addr.mk sB (sO + 5) none) (Value.slice p27 k28 k29) → ∃ (R40 : List Own), ∃ (Φ41 : PW), Stable Φ41 ∧ Ctx W w39 (R40 ++ R38) Φ41 ∧ ∀ (w42 : World) (R43 :
  List Own), Ctx W w42 (R40 ++ R43) Φ41 → J (Value.int IntKind.i64 0) w42)))

theorem Bsink_Sink_Prepare_run (sB sO : Nat) (batch : Int) (linesP : Option Addr) (linesN linesC : Nat) {W w : World} {R : List Own} {Φ : PW} [Stable Φ] {J : Value → World → Prop} (c : Ctx W w R Φ) (h : Bsink_Sink_Prepare sB sO batch linesP linesN linesC W R Φ J) : Calls Tryz.prog F.sink_Sink_Prepare #[.pointer (some ⟨sB, sO, none⟩), .int .i64 batch, .slice linesP linesN linesC] w fun e w' => ∃ v, e = .returned v ∧ J v w' :=
  vcFS_sound (H := { keep := some [0, 1, 2, 6, 7, 8, 14, 23] }) (by rw [show vcFS Tryz.prog W { keep := some [0, 1, 2, 6, 7, 8, 14, 23] } F.sink_Sink_Prepare #[.pointer (some ⟨sB, sO, none⟩), .int .i64 batch, .slice linesP linesN linesC] R Φ J = Bsink_Sink_Prepare sB sO batch linesP linesN linesC W R Φ J by kernel_rfl]; exact h) c

/-- slices.Clone[[]int,int] -/
def Bslices_Clone_int_int (sP : Option Addr) (sN sC : Nat) (W : World) (R : List Own) (Φ : PW) (J : Value → World → Prop) : Prop :=
  Br sP.isNone (∀ (w0 : World) (R1 : List Own), Ctx W w0 (R ++ R1) Φ → J (Value.slice none 0 0) w0) (∀ (k2 : Nat) (w3 : World) (R4 : List Own), Ctx W w3 (Own.blk k2 [] 3 :: R ++ R4) Φ → ∃ (p5
  : Option Addr), ∃ (k6 : Nat), ∃ (k7 : Nat), ∃ (w8 : World), Sem.run Tryz.prog (builtin Builtin.append #[50, 50] 50 #[false, false] #[Value.slice (some (Addr.mk k2 0 none)) 0 0, Value.slice
  sP sN sC]) w3 = Result.ok (Next.value (Value.slice p5 k6 k7)) w8 ∧ ∃ (R9 : List Own), ∃ (Φ10 : PW), Stable Φ10 ∧ Ctx W w8 (R9 ++ R4) Φ10 ∧ ∀ (w11 : World) (R12 : List Own), Ctx W w11 (R9 ++
  R12) Φ10 → J (Value.slice p5 k6 k7) w11)

theorem Bslices_Clone_int_int_run (sP : Option Addr) (sN sC : Nat) {W w : World} {R : List Own} {Φ : PW} [Stable Φ] {J : Value → World → Prop} (c : Ctx W w R Φ) (h : Bslices_Clone_int_int sP sN sC W R Φ J) : Calls Tryz.prog F.slices_Clone_int_int #[.slice sP sN sC] w fun e w' => ∃ v, e = .returned v ∧ J v w' :=
  vcFS_sound (H := { keep := some [0, 2, 4] }) (by rw [show vcFS Tryz.prog W { keep := some [0, 2, 4] } F.slices_Clone_int_int #[.slice sP sN sC] R Φ J = Bslices_Clone_int_int sP sN sC W R Φ J by kernel_rfl]; exact h) c

/-- slices.Clone[[]api.Line,api.Line] -/
def Bslices_Clone_api_Line_api_Line (sP : Option Addr) (sN sC : Nat) (W : World) (R : List Own) (Φ : PW) (J : Value → World → Prop) : Prop :=
  Br sP.isNone (∀ (w0 : World) (R1 : List Own), Ctx W w0 (R ++ R1) Φ → J (Value.slice none 0 0) w0) (∀ (k2 : Nat) (w3 : World) (R4 : List Own), Ctx W w3 (Own.blk k2 [] 46 :: R ++ R4) Φ → ∃
  (p5 : Option Addr), ∃ (k6 : Nat), ∃ (k7 : Nat), ∃ (w8 : World), Sem.run Tryz.prog (builtin Builtin.append #[33, 33] 33 #[false, false] #[Value.slice (some (Addr.mk k2 0 none)) 0 0,
  Value.slice sP sN sC]) w3 = Result.ok (Next.value (Value.slice p5 k6 k7)) w8 ∧ ∃ (R9 : List Own), ∃ (Φ10 : PW), Stable Φ10 ∧ Ctx W w8 (R9 ++ R4) Φ10 ∧ ∀ (w11 : World) (R12 : List Own), Ctx
  W w11 (R9 ++ R12) Φ10 → J (Value.slice p5 k6 k7) w11)

theorem Bslices_Clone_api_Line_api_Line_run (sP : Option Addr) (sN sC : Nat) {W w : World} {R : List Own} {Φ : PW} [Stable Φ] {J : Value → World → Prop} (c : Ctx W w R Φ) (h : Bslices_Clone_api_Line_api_Line sP sN sC W R Φ J) : Calls Tryz.prog F.slices_Clone_api_Line_api_Line #[.slice sP sN sC] w fun e w' => ∃ v, e = .returned v ∧ J v w' :=
  vcFS_sound (H := { keep := some [0, 2, 4] }) (by rw [show vcFS Tryz.prog W { keep := some [0, 2, 4] } F.slices_Clone_api_Line_api_Line #[.slice sP sN sC] R Φ J = Bslices_Clone_api_Line_api_Line sP sN sC W R Φ J by kernel_rfl]; exact h) c

/-- (*sink.Sink).Commit -/
def Bsink_Sink_Commit (sB sO : Nat) (batch : Int) (W : World) (R : List Own) (Φ : PW) (J : Value → World → Prop) : Prop :=
  ∀ (w0 : World) (R1 : List Own), Ctx W w0 (R ++ R1) Φ → ∃ (n2 : Int), w0.cell? (Addr.mk sB sO none) = some (Value.int IntKind.i64 n2) ∧ Br (decide (n2 ≠ 0)) (∀ (w3 : World) (R4 : List Own),
  Ctx W w3 (R ++ R4) Φ → J (Value.int IntKind.i64 7) w3) (∀ (w5 : World) (R6 : List Own), Ctx W w5 (R ++ R6) Φ → Calls Tryz.prog F.sink_Sink_Has #[Value.pointer (some (Addr.mk sB sO none)),
  Value.int IntKind.i64 batch] w5 fun (e7 : Ending) (w8 : World) => ∃ (c9 : Bool), e7 = Ending.returned (Value.bool c9) ∧ ∃ (R10 : List Own), ∃ (Φ11 : PW), Stable Φ11 ∧ Ctx W w8 (R10 ++ R6)
  Φ11 ∧ Br c9 (∀ (w12 : World) (R13 : List Own), Ctx W w12 (R10 ++ R13) Φ11 → J (Value.int IntKind.i64 0) w12) (∀ (w14 : World) (R15 : List Own), Ctx W w14 (R10 ++ R15) Φ11 → ∃ (n16 : Int),
  ((!decide (batch < 1)) = true → w14.cell? (Addr.mk sB (sO + 4) none) = some (Value.int IntKind.i64 n16)) ∧ Br (decide (batch < 1) || decide (batch ≠ n16)) (∀ (w17 : World) (R18 : List Own),
  Ctx W w17 (R10 ++ R18) Φ11 → J (Value.int IntKind.i64 4) w17) (∀ (w19 : World) (R20 : List Own), Ctx W w19 (R10 ++ R20) Φ11 → ∃ (p21 : Option Addr), ∃ (k22 : Nat), ∃ (k23 : Nat), w19.cell?
  (Addr.mk sB (sO + 5) none) = some (Value.slice p21 k22 k23) ∧ ∀ (w24 : World) (R25 : List Own), Ctx W w24 (R10 ++ R25) Φ11 → Calls Tryz.prog F.sink_Sink_take #[Value.pointer (some (Addr.mk
  sB sO none)), Value.int IntKind.i64 batch, Value.slice p21 k22 k23] w24 fun (e26 : Ending) (w27 : World) => e26 = Ending.returned (Value.tuple #[]) ∧ ∃ (R28 : List Own), ∃ (Φ29 : PW),
  Stable Φ29 ∧ Ctx W w27 (R28 ++ R25) Φ29 ∧ ∀ (w30 : World) (R31 : List Own), Ctx W w30 (R28 ++ R31) Φ29 → CanWrite w30 sB (sO + 4) 1 ∧ ∀ (w32 : World), w32 = w30.setCell (Addr.mk sB (sO + 4)
  none) (Value.int IntKind.i64 0) → ∃ (R33 : List Own), ∃ (Φ34 : PW), Stable Φ34 ∧ Ctx W w32 (R33 ++ R31) Φ34 ∧ ∀ (w35 : World) (R36 : List Own), Ctx W w35 (R33 ++ R36) Φ34 → CanWrite w35 sB
  (sO + 5) 1 ∧ ∀ (w37 : World), w37 = w35.setCell (Addr.mk sB (sO + 5) none) (Value.slice none 0 0) → ∃ (R38 : List Own), ∃ (Φ39 : PW), Stable Φ39 ∧ Ctx W w37 (R38 ++ R36) Φ39 ∧ ∀ (w40 :
  World) (R41 : List Own), Ctx W w40 (R38 ++ R41) Φ39 → J (Value.int IntKind.i64 0) w40)))

theorem Bsink_Sink_Commit_run (sB sO : Nat) (batch : Int) {W w : World} {R : List Own} {Φ : PW} [Stable Φ] {J : Value → World → Prop} (c : Ctx W w R Φ) (h : Bsink_Sink_Commit sB sO batch W R Φ J) : Calls Tryz.prog F.sink_Sink_Commit #[.pointer (some ⟨sB, sO, none⟩), .int .i64 batch] w fun e w' => ∃ v, e = .returned v ∧ J v w' :=
  vcFS_sound (H := { keep := some [0, 1, 4, 5, 11, 15] }) (by rw [show vcFS Tryz.prog W { keep := some [0, 1, 4, 5, 11, 15] } F.sink_Sink_Commit #[.pointer (some ⟨sB, sO, none⟩), .int .i64 batch] R Φ J = Bsink_Sink_Commit sB sO batch W R Φ J by kernel_rfl]; exact h) c

/-- (*sink.Sink).Abort -/
def Bsink_Sink_Abort (sB sO : Nat) (batch : Int) (W : World) (R : List Own) (Φ : PW) (J : Value → World → Prop) : Prop :=
  ∀ (w0 : World) (R1 : List Own), Ctx W w0 (R ++ R1) Φ → ∃ (n2 : Int), w0.cell? (Addr.mk sB sO none) = some (Value.int IntKind.i64 n2) ∧ Br (decide (n2 ≠ 0)) (∀ (w3 : World) (R4 : List Own),
  Ctx W w3 (R ++ R4) Φ → J (Value.int IntKind.i64 7) w3) (∀ (w5 : World) (R6 : List Own), Ctx W w5 (R ++ R6) Φ → Calls Tryz.prog F.sink_Sink_Has #[Value.pointer (some (Addr.mk sB sO none)),
  Value.int IntKind.i64 batch] w5 fun (e7 : Ending) (w8 : World) => ∃ (c9 : Bool), e7 = Ending.returned (Value.bool c9) ∧ ∃ (R10 : List Own), ∃ (Φ11 : PW), Stable Φ11 ∧ Ctx W w8 (R10 ++ R6)
  Φ11 ∧ Br c9 (∀ (w12 : World) (R13 : List Own), Ctx W w12 (R10 ++ R13) Φ11 → J (Value.int IntKind.i64 7) w12) (∀ (w14 : World) (R15 : List Own), Ctx W w14 (R10 ++ R15) Φ11 → ∃ (n16 : Int),
  ((!decide (batch < 1)) = true → w14.cell? (Addr.mk sB (sO + 4) none) = some (Value.int IntKind.i64 n16)) ∧ Br (decide (batch < 1) || decide (batch ≠ n16)) (∀ (w17 : World) (R18 : List Own),
  Ctx W w17 (R10 ++ R18) Φ11 → J (Value.int IntKind.i64 4) w17) (∀ (w19 : World) (R20 : List Own), Ctx W w19 (R10 ++ R20) Φ11 → CanWrite w19 sB (sO + 4) 1 ∧ ∀ (w21 : World), w21 = w19.setCell
  (Addr.mk sB (sO + 4) none) (Value.int IntKind.i64 0) → ∃ (R22 : List Own), ∃ (Φ23 : PW), Stable Φ23 ∧ Ctx W w21 (R22 ++ R20) Φ23 ∧ ∀ (w24 : World) (R25 : List Own), Ctx W w24 (R22 ++ R25)
  Φ23 → CanWrite w24 sB (sO + 5) 1 ∧ ∀ (w26 : World), w26 = w24.setCell (Addr.mk sB (sO + 5) none) (Value.slice none 0 0) → ∃ (R27 : List Own), ∃ (Φ28 : PW), Stable Φ28 ∧ Ctx W w26 (R27 ++
  R25) Φ28 ∧ ∀ (w29 : World) (R30 : List Own), Ctx W w29 (R27 ++ R30) Φ28 → J (Value.int IntKind.i64 0) w29)))

theorem Bsink_Sink_Abort_run (sB sO : Nat) (batch : Int) {W w : World} {R : List Own} {Φ : PW} [Stable Φ] {J : Value → World → Prop} (c : Ctx W w R Φ) (h : Bsink_Sink_Abort sB sO batch W R Φ J) : Calls Tryz.prog F.sink_Sink_Abort #[.pointer (some ⟨sB, sO, none⟩), .int .i64 batch] w fun e w' => ∃ v, e = .returned v ∧ J v w' :=
  vcFS_sound (H := { keep := some [0, 1, 4, 5, 16], split := [1] }) (by rw [show vcFS Tryz.prog W { keep := some [0, 1, 4, 5, 16], split := [1] } F.sink_Sink_Abort #[.pointer (some ⟨sB, sO, none⟩), .int .i64 batch] R Φ J = Bsink_Sink_Abort sB sO batch W R Φ J by kernel_rfl]; exact h) c

/-- slices.Min[[]int,int] -/
-- loop at region 5: 3 m, 4 i; blocks 
def Bslices_Min_int_int (xP : Option Addr) (xN xC : Nat) (W : World) (R : List Own) (Φ : PW) (J : Value → World → Prop) : Prop :=
  Br (decide ((↑xN : Int) < 1)) (∀ (w0 : World) (R1 : List Own), Ctx W w0 (R ++ R1) Φ → False) (((0 : Int) ≤ 0 ∧ 0 < (↑xN : Int)) ∧ ptrK none xP fun (k2 k3 : Nat) => ∀ (w4 : World) (R5 : List
  Own), Ctx W w4 (R ++ R5) Φ → ∃ (n6 : Int), w4.cell? (Addr.mk k2 k3 none) = some (Value.int IntKind.i64 n6) ∧ exI fun (I7 : Int → Int → List Own → PW → Nat → Prop) => (∃ (R8 : List Own), ∃
  (Φ9 : PW), ∃ (k10 : Nat), Stable Φ9 ∧ (∀ (w11 : World) (R12 : List Own), Ctx W w11 (R ++ R12) Φ → Ctx W w11 (R8 ++ R12) Φ9) ∧ I7 n6 1 R8 Φ9 k10) ∧ ∀ (n13 n14 : Int) (R15 : List Own) (I16 :
  List Nat → World → Prop) (k17 : Nat), Stable I16 → I7 n13 n14 R15 I16 k17 → Br (decide (n14 < (↑xN : Int))) ((0 ≤ n14 ∧ n14 < (↑xN : Int)) ∧ ptrK none xP fun (k18 k19 : Nat) => ∀ (w20 :
  World) (R21 : List Own), Ctx W w20 (R15 ++ R21) I16 → ∃ (n22 : Int), w20.cell? (Addr.mk k18 (k19 + n14.toNat) none) = some (Value.int IntKind.i64 n22) ∧ I64 (n14 + 1) ∧ ∃ (R23 : List Own),
  ∃ (Φ24 : PW), ∃ (k25 : Nat), Stable Φ24 ∧ (∀ (w26 : World) (R27 : List Own), Ctx W w26 (R15 ++ R27) I16 → Ctx W w26 (R23 ++ R27) Φ24) ∧ I7 (min n13 n22) (n14 + 1) R23 Φ24 k25 ∧ k25 < k17)
  (∀ (w28 : World) (R29 : List Own), Ctx W w28 (R15 ++ R29) I16 → J (Value.int IntKind.i64 n13) w28))

theorem Bslices_Min_int_int_run (xP : Option Addr) (xN xC : Nat) {W w : World} {R : List Own} {Φ : PW} [Stable Φ] {J : Value → World → Prop} (c : Ctx W w R Φ) (h : Bslices_Min_int_int xP xN xC W R Φ J) : Calls Tryz.prog F.slices_Min_int_int #[.slice xP xN xC] w fun e w' => ∃ v, e = .returned v ∧ J v w' :=
  vcFS_sound (H := { keep := some [0, 2, 3, 4, 7, 15], loops := [(5, [(3, .one (.int .i64)), (4, .one (.int .i64))], [])] }) (by rw [show vcFS Tryz.prog W { keep := some [0, 2, 3, 4, 7, 15], loops := [(5, [(3, .one (.int .i64)), (4, .one (.int .i64))], [])] } F.slices_Min_int_int #[.slice xP xN xC] R Φ J = Bslices_Min_int_int xP xN xC W R Φ J by kernel_rfl]; exact h) c

/-- sink.clone -/
-- loop at region 3: 10 ; blocks 
-- known blocks: 5 x
def Bsink_clone (lP : Option Addr) (lN lC : Nat) (W : World) (R : List Own) (Φ : PW) (J : Value → World → Prop) : Prop :=
  ∀ (w0 : World) (R1 : List Own), Ctx W w0 (R ++ R1) Φ → Calls Tryz.prog F.slices_Clone_api_Line_api_Line #[Value.slice lP lN lC] w0 fun (e2 : Ending) (w3 : World) => ∃ (p4 : Option Addr), ∃
  (k5 : Nat), ∃ (k6 : Nat), e2 = Ending.returned (Value.slice p4 k5 k6) ∧ ∃ (R7 : List Own), ∃ (Φ8 : PW), Stable Φ8 ∧ Ctx W w3 (R7 ++ R1) Φ8 ∧ exI fun (I9 : Int → List Own → PW → Nat → Prop)
  => (∃ (R10 : List Own), ∃ (Φ11 : PW), ∃ (k12 : Nat), Stable Φ11 ∧ (∀ (w13 : World) (R14 : List Own), Ctx W w13 (R7 ++ R14) Φ8 → Ctx W w13 (R10 ++ R14) Φ11) ∧ I9 0 R10 Φ11 k12) ∧ ∀ (n15 :
  Int) (R16 : List Own) (I17 : List Nat → World → Prop) (k18 : Nat), Stable I17 → I9 n15 R16 I17 k18 → Br (decide (n15 < (↑k5 : Int))) ((0 ≤ n15 ∧ n15 < (↑k5 : Int)) ∧ ptrK none p4 fun (k19
  k20 : Nat) => ∀ (w21 : World) (R22 : List Own), Ctx W w21 (R16 ++ R22) I17 → ∃ (n23 : Int), ∃ (n24 : Int), ∃ (n25 : Int), ∃ (p26 : Option Addr), ∃ (k27 : Nat), ∃ (k28 : Nat), ∃ (n29 : Int),
  ∃ (n30 : Int), ∃ (n31 : Int), RowAt w21 k19 (k20 + n15.toNat * 7) [Value.int IntKind.i64 n23, Value.int IntKind.i64 n24, Value.int IntKind.i64 n25, Value.slice p26 k27 k28, Value.int
  IntKind.i64 n29, Value.int IntKind.i64 n30, Value.int IntKind.i64 n31] ∧ ∀ (b : Nat) (w32 : World) (R33 : List Own), Ctx W w32 (R16 ++ R33) I17 → Calls Tryz.prog
  F.slices_Clone_api_Value_api_Value #[Value.slice p26 k27 k28] w32 fun (e34 : Ending) (w35 : World) => ∃ (p36 : Option Addr), ∃ (k37 : Nat), ∃ (k38 : Nat), e34 = Ending.returned (Value.slice
  p36 k37 k38) ∧ ∃ (R39 : List Own), ∃ (Φ40 : PW), Stable Φ40 ∧ Ctx W w35 (R39 ++ R33) Φ40 ∧ (0 ≤ n15 ∧ n15 < (↑k5 : Int)) ∧ ptrK none p4 fun (k41 k42 : Nat) => ∀ (w43 : World) (R44 : List
  Own), Ctx W w43 (R39 ++ R44) Φ40 → CanWrite w43 k41 (k42 + n15.toNat * 7 + 3) 1 ∧ ∀ (w45 : World), w45 = w43.setCell (Addr.mk k41 (k42 + n15.toNat * 7 + 3) none) (Value.slice p36 k37 k38) →
  ∃ (R46 : List Own), ∃ (Φ47 : PW), Stable Φ47 ∧ Ctx W w45 (R46 ++ R44) Φ47 ∧ I64 (n15 + 1) ∧ ∃ (R48 : List Own), ∃ (Φ49 : PW), ∃ (k50 : Nat), Stable Φ49 ∧ (∀ (w51 : World) (R52 : List Own),
  Ctx W w51 (R46 ++ R52) Φ47 → Ctx W w51 (R48 ++ R52) Φ49) ∧ I9 (n15 + 1) R48 Φ49 k50 ∧ k50 < k18) (∀ (w53 : World) (R54 : List Own), Ctx W w53 (R16 ++ R54) I17 → J (Value.slice p4 k5 k6)
  w53)

theorem Bsink_clone_run (lP : Option Addr) (lN lC : Nat) {W w : World} {R : List Own} {Φ : PW} [Stable Φ] {J : Value → World → Prop} (c : Ctx W w R Φ) (h : Bsink_clone lP lN lC W R Φ J) : Calls Tryz.prog F.sink_clone #[.slice lP lN lC] w fun e w' => ∃ v, e = .returned v ∧ J v w' :=
  vcFS_sound (H := { keep := some [0, 2, 3, 4, 5, 8, 9, 10, 11], track := [5], loops := [(3, [(10, .one (.int .i64))], [])] }) (by rw [show vcFS Tryz.prog W { keep := some [0, 2, 3, 4, 5, 8, 9, 10, 11], track := [5], loops := [(3, [(10, .one (.int .i64))], [])] } F.sink_clone #[.slice lP lN lC] R Φ J = Bsink_clone lP lN lC W R Φ J by kernel_rfl]; exact h) c

/-- errataref03.Same -/
def Berrataref03_Same (aP : Option Addr) (aN aC : Nat) (bP : Option Addr) (bN bC : Nat) (W : World) (R : List Own) (Φ : PW) (J : Value → World → Prop) : Prop :=
  ∀ (w0 : World) (R1 : List Own), Ctx W w0 (R ++ R1) Φ → Calls Tryz.prog F.errataref03_CompareRows #[Value.slice aP aN aC, Value.slice bP bN bC] w0 fun (e2 : Ending) (w3 : World) => ∃ (n4 :
  Int), e2 = Ending.returned (Value.int IntKind.i64 n4) ∧ ∃ (R5 : List Own), ∃ (Φ6 : PW), Stable Φ6 ∧ Ctx W w3 (R5 ++ R1) Φ6 ∧ ∀ (w7 : World) (R8 : List Own), Ctx W w7 (R5 ++ R8) Φ6 → J
  (Value.bool (decide (n4 = 0))) w7

theorem Berrataref03_Same_run (aP : Option Addr) (aN aC : Nat) (bP : Option Addr) (bN bC : Nat) {W w : World} {R : List Own} {Φ : PW} [Stable Φ] {J : Value → World → Prop} (c : Ctx W w R Φ) (h : Berrataref03_Same aP aN aC bP bN bC W R Φ J) : Calls Tryz.prog F.errataref03_Same #[.slice aP aN aC, .slice bP bN bC] w fun e w' => ∃ v, e = .returned v ∧ J v w' :=
  vcFS_sound (H := { keep := some [0, 1, 4] }) (by rw [show vcFS Tryz.prog W { keep := some [0, 1, 4] } F.errataref03_Same #[.slice aP aN aC, .slice bP bN bC] R Φ J = Berrataref03_Same aP aN aC bP bN bC W R Φ J by kernel_rfl]; exact h) c

/-- slices.BinarySearch[[]int,int] -/
-- loop at region 3: 7 i, 8 j; blocks 
def Bslices_BinarySearch_int_int (xP : Option Addr) (xN xC : Nat) (target : Int) (W : World) (R : List Own) (Φ : PW) (J : Value → World → Prop) : Prop :=
  exI fun (I0 : Int → Int → List Own → PW → Nat → Prop) => (∃ (R1 : List Own), ∃ (Φ2 : PW), ∃ (k3 : Nat), Stable Φ2 ∧ (∀ (w4 : World) (R5 : List Own), Ctx W w4 (R ++ R5) Φ → Ctx W w4 (R1 ++
  R5) Φ2) ∧ I0 0 (↑xN : Int) R1 Φ2 k3) ∧ ∀ (n6 n7 : Int) (R8 : List Own) (I9 : List Nat → World → Prop) (k10 : Nat), Stable I9 → I0 n6 n7 R8 I9 k10 → Br (decide (n6 < n7)) (I64 (n6 + n7) ∧ ∃
  (n11 : Int), (∀ (w12 : World), Sem.run Tryz.prog (binOp BinOp.shr 119 (Value.int IntKind.u64 (IntKind.u64.wrap (n6 + n7))) (Value.int IntKind.u64 1)) w12 = Result.ok (Value.int IntKind.u64
  n11) w12) ∧ (0 ≤ IntKind.i64.wrap n11 ∧ IntKind.i64.wrap n11 < (↑xN : Int)) ∧ ptrK none xP fun (k13 k14 : Nat) => ∀ (w15 : World) (R16 : List Own), Ctx W w15 (R8 ++ R16) I9 → ∃ (n17 : Int),
  w15.cell? (Addr.mk k13 (k14 + (IntKind.i64.wrap n11).toNat) none) = some (Value.int IntKind.i64 n17) ∧ ∀ (w18 : World) (R19 : List Own), Ctx W w18 (R8 ++ R19) I9 → Calls Tryz.prog
  F.cmp_Less_int #[Value.int IntKind.i64 n17, Value.int IntKind.i64 target] w18 fun (e20 : Ending) (w21 : World) => ∃ (c22 : Bool), e20 = Ending.returned (Value.bool c22) ∧ ∃ (R23 : List
  Own), ∃ (Φ24 : PW), Stable Φ24 ∧ Ctx W w21 (R23 ++ R19) Φ24 ∧ Br c22 (I64 (IntKind.i64.wrap n11 + 1) ∧ ∃ (R25 : List Own), ∃ (Φ26 : PW), ∃ (k27 : Nat), Stable Φ26 ∧ (∀ (w28 : World) (R29 :
  List Own), Ctx W w28 (R23 ++ R29) Φ24 → Ctx W w28 (R25 ++ R29) Φ26) ∧ I0 (IntKind.i64.wrap n11 + 1) n7 R25 Φ26 k27 ∧ k27 < k10) (∃ (R30 : List Own), ∃ (Φ31 : PW), ∃ (k32 : Nat), Stable Φ31
  ∧ (∀ (w33 : World) (R34 : List Own), Ctx W w33 (R23 ++ R34) Φ24 → Ctx W w33 (R30 ++ R34) Φ31) ∧ I0 n6 (IntKind.i64.wrap n11) R30 Φ31 k32 ∧ k32 < k10)) (∀ (w35 : World) (R36 : List Own), Ctx
  W w35 (R8 ++ R36) I9 → (decide (n6 < (↑xN : Int)) = true → 0 ≤ n6 ∧ n6 < (↑xN : Int)) ∧ ptrK (some (decide (n6 < (↑xN : Int)))) xP fun (k37 k38 : Nat) => ∃ (n39 : Int), (decide (n6 < (↑xN :
  Int)) = true → w35.cell? (Addr.mk k37 (k38 + n6.toNat) none) = some (Value.int IntKind.i64 n39)) ∧ ((decide (n6 < (↑xN : Int)) && !decide (n39 = target)) = true → 0 ≤ n6 ∧ n6 < (↑xN : Int))
  ∧ ptrK (some (decide (n6 < (↑xN : Int)) && !decide (n39 = target))) xP fun (k40 k41 : Nat) => ∃ (n42 : Int), ((decide (n6 < (↑xN : Int)) && !decide (n39 = target)) = true → w35.cell?
  (Addr.mk k40 (k41 + n6.toNat) none) = some (Value.int IntKind.i64 n42)) ∧ ∃ (c43 : Bool), ((decide (n6 < (↑xN : Int)) && !decide (n39 = target)) = true → ∀ (w44 : World), w44 = w35 → Calls
  Tryz.prog F.slices_isNaN_int #[Value.int IntKind.i64 n42] w44 fun (e45 : Ending) (w46 : World) => e45 = Ending.returned (Value.bool c43) ∧ w46 = w35) ∧ ∃ (c47 : Bool), ((decide (n6 < (↑xN :
  Int)) && !decide (n39 = target) && c43) = true → ∀ (w48 : World), w48 = w35 → Calls Tryz.prog F.slices_isNaN_int #[Value.int IntKind.i64 target] w48 fun (e49 : Ending) (w50 : World) => e49
  = Ending.returned (Value.bool c47) ∧ w50 = w35) ∧ ∀ (w51 : World) (R52 : List Own), Ctx W w51 (R8 ++ R52) I9 → J (Value.tuple #[Value.int IntKind.i64 n6, Value.bool (decide (n6 < (↑xN :
  Int)) && (decide (n39 = target) || c43 && c47))]) w51)

theorem Bslices_BinarySearch_int_int_run (xP : Option Addr) (xN xC : Nat) (target : Int) {W w : World} {R : List Own} {Φ : PW} [Stable Φ] {J : Value → World → Prop} (c : Ctx W w R Φ) (h : Bslices_BinarySearch_int_int xP xN xC target W R Φ J) : Calls Tryz.prog F.slices_BinarySearch_int_int #[.slice xP xN xC, .int .i64 target] w fun e w' => ∃ v, e = .returned v ∧ J v w' :=
  vcFS_sound (H := { keep := some [0, 1, 4, 5, 6, 7, 8, 9, 15, 27], loops := [(3, [(7, .one (.int .i64)), (8, .one (.int .i64))], [])] }) (by rw [show vcFS Tryz.prog W { keep := some [0, 1, 4, 5, 6, 7, 8, 9, 15, 27], loops := [(3, [(7, .one (.int .i64)), (8, .one (.int .i64))], [])] } F.slices_BinarySearch_int_int #[.slice xP xN xC, .int .i64 target] R Φ J = Bslices_BinarySearch_int_int xP xN xC target W R Φ J by kernel_rfl]; exact h) c

/-- slices.ContainsFunc[[]int,int] -/
def Bslices_ContainsFunc_int_int (sP : Option Addr) (sN sC : Nat) (fF : FuncId) (fC : Array Value) (W : World) (R : List Own) (Φ : PW) (J : Value → World → Prop) : Prop :=
  ∀ (w0 : World) (R1 : List Own), Ctx W w0 (R ++ R1) Φ → Calls Tryz.prog F.slices_IndexFunc_int_int #[Value.slice sP sN sC, Value.func (Fn.func fF) #[] fC] w0 fun (e2 : Ending) (w3 : World)
  => ∃ (n4 : Int), e2 = Ending.returned (Value.int IntKind.i64 n4) ∧ ∃ (R5 : List Own), ∃ (Φ6 : PW), Stable Φ6 ∧ Ctx W w3 (R5 ++ R1) Φ6 ∧ ∀ (w7 : World) (R8 : List Own), Ctx W w7 (R5 ++ R8)
  Φ6 → J (Value.bool (decide (0 ≤ n4))) w7

theorem Bslices_ContainsFunc_int_int_run (sP : Option Addr) (sN sC : Nat) (fF : FuncId) (fC : Array Value) {W w : World} {R : List Own} {Φ : PW} [Stable Φ] {J : Value → World → Prop} (c : Ctx W w R Φ) (h : Bslices_ContainsFunc_int_int sP sN sC fF fC W R Φ J) : Calls Tryz.prog F.slices_ContainsFunc_int_int #[.slice sP sN sC, .func (.func fF) #[] fC] w fun e w' => ∃ v, e = .returned v ∧ J v w' :=
  vcFS_sound (H := { keep := some [0, 1, 4] }) (by rw [show vcFS Tryz.prog W { keep := some [0, 1, 4] } F.slices_ContainsFunc_int_int #[.slice sP sN sC, .func (.func fF) #[] fC] R Φ J = Bslices_ContainsFunc_int_int sP sN sC fF fC W R Φ J by kernel_rfl]; exact h) c

/-- (*sink.Sink).look$1 -/
def Bsink_Sink_look_1 (k : Int) (kB kO : Nat) (W : World) (R : List Own) (Φ : PW) (J : Value → World → Prop) : Prop :=
  ∀ (w0 : World) (R1 : List Own), Ctx W w0 (R ++ R1) Φ → ∃ (p2 : Option Addr), ∃ (k3 : Nat), ∃ (k4 : Nat), w0.cell? (Addr.mk kB (kO + 3) none) = some (Value.slice p2 k3 k4) ∧ ∀ (w5 : World)
  (R6 : List Own), Ctx W w5 (R ++ R6) Φ → J (Value.bool (decide ((↑k3 : Int) ≤ k))) w5

theorem Bsink_Sink_look_1_run (k : Int) (kB kO : Nat) {W w : World} {R : List Own} {Φ : PW} [Stable Φ] {J : Value → World → Prop} (c : Ctx W w R Φ) (h : Bsink_Sink_look_1 k kB kO W R Φ J) : Calls Tryz.prog F.sink_Sink_look_1 #[.int .i64 k, .pointer (some ⟨kB, kO, none⟩)] w fun e w' => ∃ v, e = .returned v ∧ J v w' :=
  vcFS_sound (H := { keep := some [0, 1, 3] }) (by rw [show vcFS Tryz.prog W { keep := some [0, 1, 3] } F.sink_Sink_look_1 #[.int .i64 k, .pointer (some ⟨kB, kO, none⟩)] R Φ J = Bsink_Sink_look_1 k kB kO W R Φ J by kernel_rfl]; exact h) c

/-- value.RightRow -/
def Bvalue_RightRow (rP : Option Addr) (rN rC : Nat) (W : World) (R : List Own) (Φ : PW) (J : Value → World → Prop) : Prop :=
  Br (decide ((↑rN : Int) ≤ 12)) (∀ (w0 : World) (R1 : List Own), Ctx W w0 (R ++ R1) Φ → Calls Tryz.prog F.value_all #[Value.slice rP rN rC] w0 fun (e2 : Ending) (w3 : World) => ∃ (c4 :
  Bool), e2 = Ending.returned (Value.bool c4) ∧ ∃ (R5 : List Own), ∃ (Φ6 : PW), Stable Φ6 ∧ Ctx W w3 (R5 ++ R1) Φ6 ∧ ∀ (w7 : World) (R8 : List Own), Ctx W w7 (R5 ++ R8) Φ6 → J (Value.bool c4)
  w7) (∀ (w9 : World) (R10 : List Own), Ctx W w9 (R ++ R10) Φ → J (Value.bool false) w9)

theorem Bvalue_RightRow_run (rP : Option Addr) (rN rC : Nat) {W w : World} {R : List Own} {Φ : PW} [Stable Φ] {J : Value → World → Prop} (c : Ctx W w R Φ) (h : Bvalue_RightRow rP rN rC W R Φ J) : Calls Tryz.prog F.value_RightRow #[.slice rP rN rC] w fun e w' => ∃ v, e = .returned v ∧ J v w' :=
  vcFS_sound (H := { keep := some [0, 2], split := [1] }) (by rw [show vcFS Tryz.prog W { keep := some [0, 2], split := [1] } F.value_RightRow #[.slice rP rN rC] R Φ J = Bvalue_RightRow rP rN rC W R Φ J by kernel_rfl]; exact h) c

/-- errataref03.CompareRows -/
-- loop at region 2: 5 i; blocks 
def Berrataref03_CompareRows (aP : Option Addr) (aN aC : Nat) (bP : Option Addr) (bN bC : Nat) (W : World) (R : List Own) (Φ : PW) (J : Value → World → Prop) : Prop :=
  exI fun (I0 : Int → List Own → PW → Nat → Prop) => (∃ (R1 : List Own), ∃ (Φ2 : PW), ∃ (k3 : Nat), Stable Φ2 ∧ (∀ (w4 : World) (R5 : List Own), Ctx W w4 (R ++ R5) Φ → Ctx W w4 (R1 ++ R5) Φ2)
  ∧ I0 0 R1 Φ2 k3) ∧ ∀ (n6 : Int) (R7 : List Own) (I8 : List Nat → World → Prop) (k9 : Nat), Stable I8 → I0 n6 R7 I8 k9 → ∀ (w10 : World) (R11 : List Own), Ctx W w10 (R7 ++ R11) I8 → Br
  (decide (n6 < (↑aN : Int)) && decide (n6 < (↑bN : Int))) (∃ (R12 : List Own), ∃ (Φ13 : PW), Stable Φ13 ∧ (∀ (w14 : World) (R15 : List Own), Ctx W w14 (R7 ++ R15) I8 → Ctx W w14 (R12 ++ R15)
  Φ13) ∧ (0 ≤ n6 ∧ n6 < (↑aN : Int)) ∧ ptrK none aP fun (k16 k17 : Nat) => (0 ≤ n6 ∧ n6 < (↑bN : Int)) ∧ ptrK none bP fun (k18 k19 : Nat) => ∃ (n20 : Int), ∃ (n21 : Int), ∃ (s22 : ByteArray),
  (∀ (w23 : World) (R24 : List Own), Ctx W w23 (R12 ++ R24) Φ13 → ∃ (n25 : Int), ∃ (n26 : Int), ∃ (s27 : ByteArray), RowAt w23 k16 (k17 + n6.toNat * 3) [Value.int IntKind.i64 n25, Value.int
  IntKind.i64 n26, Value.string s27] ∧ Value.agg #[Value.int IntKind.i64 n25, Value.int IntKind.i64 n26, Value.string s27] = Value.agg #[Value.int IntKind.i64 n20, Value.int IntKind.i64 n21,
  Value.string s22]) ∧ ∃ (n28 : Int), ∃ (n29 : Int), ∃ (s30 : ByteArray), (∀ (w31 : World) (R32 : List Own), Ctx W w31 (R12 ++ R32) Φ13 → ∃ (n33 : Int), ∃ (n34 : Int), ∃ (s35 : ByteArray),
  RowAt w31 k18 (k19 + n6.toNat * 3) [Value.int IntKind.i64 n33, Value.int IntKind.i64 n34, Value.string s35] ∧ Value.agg #[Value.int IntKind.i64 n33, Value.int IntKind.i64 n34, Value.string
  s35] = Value.agg #[Value.int IntKind.i64 n28, Value.int IntKind.i64 n29, Value.string s30]) ∧ ∀ (w36 : World) (R37 : List Own), Ctx W w36 (R7 ++ R37) I8 → Calls Tryz.prog
  F.errataref03_Compare #[Value.agg #[Value.int IntKind.i64 n20, Value.int IntKind.i64 n21, Value.string s22], Value.agg #[Value.int IntKind.i64 n28, Value.int IntKind.i64 n29, Value.string
  s30]] w36 fun (e38 : Ending) (w39 : World) => ∃ (n40 : Int), e38 = Ending.returned (Value.int IntKind.i64 n40) ∧ ∃ (R41 : List Own), ∃ (Φ42 : PW), Stable Φ42 ∧ Ctx W w39 (R41 ++ R37) Φ42 ∧
  Br (decide (n40 ≠ 0)) (∀ (w43 : World) (R44 : List Own), Ctx W w43 (R41 ++ R44) Φ42 → J (Value.int IntKind.i64 n40) w43) (I64 (n6 + 1) ∧ ∃ (R45 : List Own), ∃ (Φ46 : PW), ∃ (k47 : Nat),
  Stable Φ46 ∧ (∀ (w48 : World) (R49 : List Own), Ctx W w48 (R41 ++ R49) Φ42 → Ctx W w48 (R45 ++ R49) Φ46) ∧ I0 (n6 + 1) R45 Φ46 k47 ∧ k47 < k9)) (Br (decide ((↑aN : Int) < (↑bN : Int))) (∀
  (w50 : World) (R51 : List Own), Ctx W w50 (R7 ++ R51) I8 → J (Value.int IntKind.i64 (-1)) w50) (Br (decide ((↑bN : Int) < (↑aN : Int))) (∀ (w52 : World) (R53 : List Own), Ctx W w52 (R7 ++
  R53) I8 → J (Value.int IntKind.i64 1) w52) (∀ (w54 : World) (R55 : List Own), Ctx W w54 (R7 ++ R55) I8 → J (Value.int IntKind.i64 0) w54)))

theorem Berrataref03_CompareRows_run (aP : Option Addr) (aN aC : Nat) (bP : Option Addr) (bN bC : Nat) {W w : World} {R : List Own} {Φ : PW} [Stable Φ] {J : Value → World → Prop} (c : Ctx W w R Φ) (h : Berrataref03_CompareRows aP aN aC bP bN bC W R Φ J) : Calls Tryz.prog F.errataref03_CompareRows #[.slice aP aN aC, .slice bP bN bC] w fun e w' => ∃ v, e = .returned v ∧ J v w' :=
  vcFS_sound (H := { keep := some [0, 1, 4, 5, 6, 16, 29, 35, 40], stages := [(4, [.held [(0, true), (1, true), (4, true), (5, true), (2, true), (6, true), (3, true), (7, true)], .stage [] (some 8), .stage [9] none])], loops := [(2, [(5, .one (.int .i64))], [])] }) (by rw [show vcFS Tryz.prog W { keep := some [0, 1, 4, 5, 6, 16, 29, 35, 40], stages := [(4, [.held [(0, true), (1, true), (4, true), (5, true), (2, true), (6, true), (3, true), (7, true)], .stage [] (some 8), .stage [9] none])], loops := [(2, [(5, .one (.int .i64))], [])] } F.errataref03_CompareRows #[.slice aP aN aC, .slice bP bN bC] R Φ J = Berrataref03_CompareRows aP aN aC bP bN bC W R Φ J by kernel_rfl]; exact h) c

/-- cmp.Less[int] -/
def Bcmp_Less_int (x : Int) (y : Int) (W : World) (R : List Own) (Φ : PW) (J : Value → World → Prop) : Prop :=
  ∀ (w0 : World) (R1 : List Own), Ctx W w0 (R ++ R1) Φ → ∃ (c2 : Bool), (∀ (w3 : World), w3 = w0 → Calls Tryz.prog F.cmp_isNaN_int #[Value.int IntKind.i64 x] w3 fun (e4 : Ending) (w5 : World)
  => e4 = Ending.returned (Value.bool c2) ∧ w5 = w0) ∧ ∃ (c6 : Bool), (c2 = true → ∀ (w7 : World), w7 = w0 → Calls Tryz.prog F.cmp_isNaN_int #[Value.int IntKind.i64 y] w7 fun (e8 : Ending)
  (w9 : World) => e8 = Ending.returned (Value.bool c6) ∧ w9 = w0) ∧ ∀ (w10 : World) (R11 : List Own), Ctx W w10 (R ++ R11) Φ → J (Value.bool (c2 && !c6 || decide (x < y))) w10

theorem Bcmp_Less_int_run (x : Int) (y : Int) {W w : World} {R : List Own} {Φ : PW} [Stable Φ] {J : Value → World → Prop} (c : Ctx W w R Φ) (h : Bcmp_Less_int x y W R Φ J) : Calls Tryz.prog F.cmp_Less_int #[.int .i64 x, .int .i64 y] w fun e w' => ∃ v, e = .returned v ∧ J v w' :=
  vcFS_sound (H := { keep := some [0, 1, 4] }) (by rw [show vcFS Tryz.prog W { keep := some [0, 1, 4] } F.cmp_Less_int #[.int .i64 x, .int .i64 y] R Φ J = Bcmp_Less_int x y W R Φ J by kernel_rfl]; exact h) c

/-- slices.IndexFunc[[]int,int] -/
-- loop at region 2: 8 ; blocks 
def Bslices_IndexFunc_int_int (sP : Option Addr) (sN sC : Nat) (fF : FuncId) (fC : Array Value) (W : World) (R : List Own) (Φ : PW) (J : Value → World → Prop) : Prop :=
  exI fun (I0 : Int → List Own → PW → Nat → Prop) => (∃ (R1 : List Own), ∃ (Φ2 : PW), ∃ (k3 : Nat), Stable Φ2 ∧ (∀ (w4 : World) (R5 : List Own), Ctx W w4 (R ++ R5) Φ → Ctx W w4 (R1 ++ R5) Φ2)
  ∧ I0 0 R1 Φ2 k3) ∧ ∀ (n6 : Int) (R7 : List Own) (I8 : List Nat → World → Prop) (k9 : Nat), Stable I8 → I0 n6 R7 I8 k9 → Br (decide (n6 < (↑sN : Int))) ((0 ≤ n6 ∧ n6 < (↑sN : Int)) ∧ ptrK
  none sP fun (k10 k11 : Nat) => ∀ (w12 : World) (R13 : List Own), Ctx W w12 (R7 ++ R13) I8 → ∃ (n14 : Int), w12.cell? (Addr.mk k10 (k11 + n6.toNat) none) = some (Value.int IntKind.i64 n14) ∧
  ∀ (w15 : World) (R16 : List Own), Ctx W w15 (R7 ++ R16) I8 → okFun Tryz.prog fF = true ∧ Calls Tryz.prog fF (Array.mk (Value.int IntKind.i64 n14 :: fC.toList)) w15 fun (e17 : Ending) (w18 :
  World) => ∃ (c19 : Bool), e17 = Ending.returned (Value.bool c19) ∧ ∃ (R20 : List Own), ∃ (Φ21 : PW), Stable Φ21 ∧ Ctx W w18 (R20 ++ R16) Φ21 ∧ Br c19 (∀ (w22 : World) (R23 : List Own), Ctx
  W w22 (R20 ++ R23) Φ21 → J (Value.int IntKind.i64 n6) w22) (I64 (n6 + 1) ∧ ∃ (R24 : List Own), ∃ (Φ25 : PW), ∃ (k26 : Nat), Stable Φ25 ∧ (∀ (w27 : World) (R28 : List Own), Ctx W w27 (R20 ++
  R28) Φ21 → Ctx W w27 (R24 ++ R28) Φ25) ∧ I0 (n6 + 1) R24 Φ25 k26 ∧ k26 < k9)) (∀ (w29 : World) (R30 : List Own), Ctx W w29 (R7 ++ R30) I8 → J (Value.int IntKind.i64 (-1)) w29)

theorem Bslices_IndexFunc_int_int_run (sP : Option Addr) (sN sC : Nat) (fF : FuncId) (fC : Array Value) {W w : World} {R : List Own} {Φ : PW} [Stable Φ] {J : Value → World → Prop} (c : Ctx W w R Φ) (h : Bslices_IndexFunc_int_int sP sN sC fF fC W R Φ J) : Calls Tryz.prog F.slices_IndexFunc_int_int #[.slice sP sN sC, .func (.func fF) #[] fC] w fun e w' => ∃ v, e = .returned v ∧ J v w' :=
  vcFS_sound (H := { keep := some [0, 1, 4, 5, 7, 8, 9, 16], wrap := [16], loops := [(2, [(8, .one (.int .i64))], [])] }) (by rw [show vcFS Tryz.prog W { keep := some [0, 1, 4, 5, 7, 8, 9, 16], wrap := [16], loops := [(2, [(8, .one (.int .i64))], [])] } F.slices_IndexFunc_int_int #[.slice sP sN sC, .func (.func fF) #[] fC] R Φ J = Bslices_IndexFunc_int_int sP sN sC fF fC W R Φ J by kernel_rfl]; exact h) c

/-- value.all -/
def Bvalue_all (rP : Option Addr) (rN rC : Nat) (W : World) (R : List Own) (Φ : PW) (J : Value → World → Prop) : Prop :=
  ∀ (w0 : World) (R1 : List Own), Ctx W w0 (R ++ R1) Φ → Calls Tryz.prog F.slices_ContainsFunc_api_Value_api_Value #[Value.slice rP rN rC, Value.func (Fn.func 137) #[] #[]] w0 fun (e2 :
  Ending) (w3 : World) => ∃ (c4 : Bool), e2 = Ending.returned (Value.bool c4) ∧ ∃ (R5 : List Own), ∃ (Φ6 : PW), Stable Φ6 ∧ Ctx W w3 (R5 ++ R1) Φ6 ∧ ∀ (w7 : World) (R8 : List Own), Ctx W w7
  (R5 ++ R8) Φ6 → J (Value.bool !c4) w7

theorem Bvalue_all_run (rP : Option Addr) (rN rC : Nat) {W w : World} {R : List Own} {Φ : PW} [Stable Φ] {J : Value → World → Prop} (c : Ctx W w R Φ) (h : Bvalue_all rP rN rC W R Φ J) : Calls Tryz.prog F.value_all #[.slice rP rN rC] w fun e w' => ∃ v, e = .returned v ∧ J v w' :=
  vcFS_sound (H := { keep := some [0, 2] }) (by rw [show vcFS Tryz.prog W { keep := some [0, 2] } F.value_all #[.slice rP rN rC] R Φ J = Bvalue_all rP rN rC W R Φ J by kernel_rfl]; exact h) c

/-- errataref03.Compare -/
-- known blocks: 2 a, 3 b
def Berrataref03_Compare (a0 : Int) (a1 : Int) (a2 : ByteArray) (b0 : Int) (b1 : Int) (b2 : ByteArray) (W : World) (R : List Own) (Φ : PW) (J : Value → World → Prop) : Prop :=
  ∀ (b b : Nat), Br (decide (a0 < b0)) (∀ (w0 : World) (R1 : List Own), Ctx W w0 (R ++ R1) Φ → J (Value.int IntKind.i64 (-1)) w0) (Br (decide (b0 < a0)) (∀ (w2 : World) (R3 : List Own), Ctx W
  w2 (R ++ R3) Φ → J (Value.int IntKind.i64 1) w2) (Br (decide (a1 < b1)) (∀ (w4 : World) (R5 : List Own), Ctx W w4 (R ++ R5) Φ → J (Value.int IntKind.i64 (-1)) w4) (Br (decide (b1 < a1)) (∀
  (w6 : World) (R7 : List Own), Ctx W w6 (R ++ R7) Φ → J (Value.int IntKind.i64 1) w6) (Br (Op.bytesLess (ByteArray.toList.loop a2 0 []) (ByteArray.toList.loop b2 0 [])) (∀ (w8 : World) (R9 :
  List Own), Ctx W w8 (R ++ R9) Φ → J (Value.int IntKind.i64 (-1)) w8) (∃ (c10 : Bool), (∀ (w11 : World), Sem.run Tryz.prog (binOp BinOp.gtr 9 (Value.string a2) (Value.string b2)) w11 =
  Result.ok (Value.bool c10) w11) ∧ Br c10 (∀ (w12 : World) (R13 : List Own), Ctx W w12 (R ++ R13) Φ → J (Value.int IntKind.i64 1) w12) (∀ (w14 : World) (R15 : List Own), Ctx W w14 (R ++ R15)
  Φ → J (Value.int IntKind.i64 0) w14))))))

theorem Berrataref03_Compare_run (a0 : Int) (a1 : Int) (a2 : ByteArray) (b0 : Int) (b1 : Int) (b2 : ByteArray) {W w : World} {R : List Own} {Φ : PW} [Stable Φ] {J : Value → World → Prop} (c : Ctx W w R Φ) (h : Berrataref03_Compare a0 a1 a2 b0 b1 b2 W R Φ J) : Calls Tryz.prog F.errataref03_Compare #[.agg #[.int .i64 a0, .int .i64 a1, .string a2], .agg #[.int .i64 b0, .int .i64 b1, .string b2]] w fun e w' => ∃ v, e = .returned v ∧ J v w' :=
  vcFS_sound (H := { keep := some [2, 3, 4, 9, 14, 19, 24, 29, 34], track := [2, 3] }) (by rw [show vcFS Tryz.prog W { keep := some [2, 3, 4, 9, 14, 19, 24, 29, 34], track := [2, 3] } F.errataref03_Compare #[.agg #[.int .i64 a0, .int .i64 a1, .string a2], .agg #[.int .i64 b0, .int .i64 b1, .string b2]] R Φ J = Berrataref03_Compare a0 a1 a2 b0 b1 b2 W R Φ J by kernel_rfl]; exact h) c

/-- slices.ContainsFunc[[]api.Value,api.Value] -/
def Bslices_ContainsFunc_api_Value_api_Value (sP : Option Addr) (sN sC : Nat) (fF : FuncId) (fC : Array Value) (W : World) (R : List Own) (Φ : PW) (J : Value → World → Prop) : Prop :=
  ∀ (w0 : World) (R1 : List Own), Ctx W w0 (R ++ R1) Φ → Calls Tryz.prog F.slices_IndexFunc_api_Value_api_Value #[Value.slice sP sN sC, Value.func (Fn.func fF) #[] fC] w0 fun (e2 : Ending)
  (w3 : World) => ∃ (n4 : Int), e2 = Ending.returned (Value.int IntKind.i64 n4) ∧ ∃ (R5 : List Own), ∃ (Φ6 : PW), Stable Φ6 ∧ Ctx W w3 (R5 ++ R1) Φ6 ∧ ∀ (w7 : World) (R8 : List Own), Ctx W w7
  (R5 ++ R8) Φ6 → J (Value.bool (decide (0 ≤ n4))) w7

theorem Bslices_ContainsFunc_api_Value_api_Value_run (sP : Option Addr) (sN sC : Nat) (fF : FuncId) (fC : Array Value) {W w : World} {R : List Own} {Φ : PW} [Stable Φ] {J : Value → World → Prop} (c : Ctx W w R Φ) (h : Bslices_ContainsFunc_api_Value_api_Value sP sN sC fF fC W R Φ J) : Calls Tryz.prog F.slices_ContainsFunc_api_Value_api_Value #[.slice sP sN sC, .func (.func fF) #[] fC] w fun e w' => ∃ v, e = .returned v ∧ J v w' :=
  vcFS_sound (H := { keep := some [0, 1, 4] }) (by rw [show vcFS Tryz.prog W { keep := some [0, 1, 4] } F.slices_ContainsFunc_api_Value_api_Value #[.slice sP sN sC, .func (.func fF) #[] fC] R Φ J = Bslices_ContainsFunc_api_Value_api_Value sP sN sC fF fC W R Φ J by kernel_rfl]; exact h) c

/-- value.all$1 -/
-- known blocks: 1 v
def Bvalue_all_1 (v0 : Int) (v1 : Int) (v2 : ByteArray) (W : World) (R : List Own) (Φ : PW) (J : Value → World → Prop) : Prop :=
  ∀ (b : Nat) (w0 : World) (R1 : List Own), Ctx W w0 (R ++ R1) Φ → Calls Tryz.prog F.value_Right #[Value.agg #[Value.int IntKind.i64 v0, Value.int IntKind.i64 v1, Value.string v2]] w0 fun (e2
  : Ending) (w3 : World) => ∃ (c4 : Bool), e2 = Ending.returned (Value.bool c4) ∧ ∃ (R5 : List Own), ∃ (Φ6 : PW), Stable Φ6 ∧ Ctx W w3 (R5 ++ R1) Φ6 ∧ ∀ (w7 : World) (R8 : List Own), Ctx W w7
  (R5 ++ R8) Φ6 → J (Value.bool !c4) w7

theorem Bvalue_all_1_run (v0 : Int) (v1 : Int) (v2 : ByteArray) {W w : World} {R : List Own} {Φ : PW} [Stable Φ] {J : Value → World → Prop} (c : Ctx W w R Φ) (h : Bvalue_all_1 v0 v1 v2 W R Φ J) : Calls Tryz.prog F.value_all_1 #[.agg #[.int .i64 v0, .int .i64 v1, .string v2]] w fun e w' => ∃ v, e = .returned v ∧ J v w' :=
  vcFS_sound (H := { keep := some [1, 2], track := [1] }) (by rw [show vcFS Tryz.prog W { keep := some [1, 2], track := [1] } F.value_all_1 #[.agg #[.int .i64 v0, .int .i64 v1, .string v2]] R Φ J = Bvalue_all_1 v0 v1 v2 W R Φ J by kernel_rfl]; exact h) c

/-- value.Right -/
-- known blocks: 1 v
def Bvalue_Right (v0 : Int) (v1 : Int) (v2 : ByteArray) (W : World) (R : List Own) (Φ : PW) (J : Value → World → Prop) : Prop :=
  ∀ (b : Nat), Br (decide (v0 = 0)) (∃ (R0 : List Own), ∃ (Φ1 : PW), Stable Φ1 ∧ (∀ (w2 : World) (R3 : List Own), Ctx W w2 (R ++ R3) Φ → Ctx W w2 (R0 ++ R3) Φ1) ∧ ∀ (w4 : World) (R5 : List
  Own), Ctx W w4 (R ++ R5) Φ → Calls Tryz.prog F.value_Int #[Value.int IntKind.i64 v1] w4 fun (e6 : Ending) (w7 : World) => ∃ (n8 : Int), ∃ (n9 : Int), ∃ (s10 : ByteArray), e6 =
  Ending.returned (Value.agg #[Value.int IntKind.i64 n8, Value.int IntKind.i64 n9, Value.string s10]) ∧ ∃ (R11 : List Own), ∃ (Φ12 : PW), Stable Φ12 ∧ Ctx W w7 (R11 ++ R5) Φ12 ∧ (∀ (w13 :
  World) (R14 : List Own), Ctx W w13 (R11 ++ R14) Φ12 → Ctx W w13 (R0 ++ R14) Φ1) ∧ okAgg Tryz.prog 94 = true ∧ ∀ (w15 : World) (R16 : List Own), Ctx W w15 (R11 ++ R16) Φ12 → J (Value.bool
  (decide (v0 = n8) && (decide (v1 = n9) && (decide (v2 = s10) && true)))) w15) (Br (decide (v0 = 1)) (∃ (R17 : List Own), ∃ (Φ18 : PW), Stable Φ18 ∧ (∀ (w19 : World) (R20 : List Own), Ctx W
  w19 (R ++ R20) Φ → Ctx W w19 (R17 ++ R20) Φ18) ∧ ∀ (w21 : World) (R22 : List Own), Ctx W w21 (R ++ R22) Φ → Calls Tryz.prog F.value_Text #[Value.string v2] w21 fun (e23 : Ending) (w24 :
  World) => ∃ (n25 : Int), ∃ (n26 : Int), ∃ (s27 : ByteArray), e23 = Ending.returned (Value.agg #[Value.int IntKind.i64 n25, Value.int IntKind.i64 n26, Value.string s27]) ∧ ∃ (R28 : List
  Own), ∃ (Φ29 : PW), Stable Φ29 ∧ Ctx W w24 (R28 ++ R22) Φ29 ∧ (∀ (w30 : World) (R31 : List Own), Ctx W w30 (R28 ++ R31) Φ29 → Ctx W w30 (R17 ++ R31) Φ18) ∧ okAgg Tryz.prog 94 = true ∧ Br
  (decide (v0 = n25) && (decide (v1 = n26) && (decide (v2 = s27) && true))) (∀ (w32 : World) (R33 : List Own), Ctx W w32 (R28 ++ R33) Φ29 → J (Value.bool (decide ((↑v2.size : Int) ≤ 200)))
  w32) (∀ (w34 : World) (R35 : List Own), Ctx W w34 (R28 ++ R35) Φ29 → J (Value.bool false) w34)) (∃ (R36 : List Own), ∃ (Φ37 : PW), Stable Φ37 ∧ (∀ (w38 : World) (R39 : List Own), Ctx W w38
  (R ++ R39) Φ → Ctx W w38 (R36 ++ R39) Φ37) ∧ ∀ (w40 : World) (R41 : List Own), Ctx W w40 (R ++ R41) Φ → Calls Tryz.prog F.value_Bool #[Value.bool false] w40 fun (e42 : Ending) (w43 : World)
  => ∃ (n44 : Int), ∃ (n45 : Int), ∃ (s46 : ByteArray), e42 = Ending.returned (Value.agg #[Value.int IntKind.i64 n44, Value.int IntKind.i64 n45, Value.string s46]) ∧ ∃ (R47 : List Own), ∃
  (Φ48 : PW), Stable Φ48 ∧ Ctx W w43 (R47 ++ R41) Φ48 ∧ (∀ (w49 : World) (R50 : List Own), Ctx W w49 (R47 ++ R50) Φ48 → Ctx W w49 (R36 ++ R50) Φ37) ∧ ∃ (R51 : List Own), ∃ (Φ52 : PW), Stable
  Φ52 ∧ (∀ (w53 : World) (R54 : List Own), Ctx W w53 (R47 ++ R54) Φ48 → Ctx W w53 (R51 ++ R54) Φ52) ∧ okAgg Tryz.prog 94 = true ∧ Br (decide (v0 = n44) && (decide (v1 = n45) && (decide (v2 =
  s46) && true))) (∀ (w55 : World) (R56 : List Own), Ctx W w55 (R47 ++ R56) Φ48 → J (Value.bool true) w55) (∀ (w57 : World) (R58 : List Own), Ctx W w57 (R47 ++ R58) Φ48 → Calls Tryz.prog
  F.value_Bool #[Value.bool true] w57 fun (e59 : Ending) (w60 : World) => ∃ (n61 : Int), ∃ (n62 : Int), ∃ (s63 : ByteArray), e59 = Ending.returned (Value.agg #[Value.int IntKind.i64 n61,
  Value.int IntKind.i64 n62, Value.string s63]) ∧ ∃ (R64 : List Own), ∃ (Φ65 : PW), Stable Φ65 ∧ Ctx W w60 (R64 ++ R58) Φ65 ∧ (∀ (w66 : World) (R67 : List Own), Ctx W w66 (R64 ++ R67) Φ65 →
  Ctx W w66 (R51 ++ R67) Φ52) ∧ okAgg Tryz.prog 94 = true ∧ ∀ (w68 : World) (R69 : List Own), Ctx W w68 (R64 ++ R69) Φ65 → J (Value.bool (decide (v0 = n61) && (decide (v1 = n62) && (decide
  (v2 = s63) && true)))) w68)))

theorem Bvalue_Right_run (v0 : Int) (v1 : Int) (v2 : ByteArray) {W w : World} {R : List Own} {Φ : PW} [Stable Φ] {J : Value → World → Prop} (c : Ctx W w R Φ) (h : Bvalue_Right v0 v1 v2 W R Φ J) : Calls Tryz.prog F.value_Right #[.agg #[.int .i64 v0, .int .i64 v1, .string v2]] w fun e w' => ∃ v, e = .returned v ∧ J v w' :=
  vcFS_sound (H := { keep := some [1, 2, 4, 5, 12], track := [1], stages := [(3, [.held [(0, true), (1, true), (2, true), (3, false)], .stage [4, 5] none]), (5, [.held [(0, true), (1, true), (2, true), (3, false)], .stage [4, 5, 6, 7, 8, 9, 10, 11] none]), (6, [.held [(0, true), (1, false)], .held [(2, true), (3, true), (4, true), (5, false)], .stage [6, 7, 8] none])] }) (by rw [show vcFS Tryz.prog W { keep := some [1, 2, 4, 5, 12], track := [1], stages := [(3, [.held [(0, true), (1, true), (2, true), (3, false)], .stage [4, 5] none]), (5, [.held [(0, true), (1, true), (2, true), (3, false)], .stage [4, 5, 6, 7, 8, 9, 10, 11] none]), (6, [.held [(0, true), (1, false)], .held [(2, true), (3, true), (4, true), (5, false)], .stage [6, 7, 8] none])] } F.value_Right #[.agg #[.int .i64 v0, .int .i64 v1, .string v2]] R Φ J = Bvalue_Right v0 v1 v2 W R Φ J by kernel_rfl]; exact h) c

/-- slices.IndexFunc[[]api.Value,api.Value] -/
-- loop at region 2: 8 ; blocks 
def Bslices_IndexFunc_api_Value_api_Value (sP : Option Addr) (sN sC : Nat) (fF : FuncId) (fC : Array Value) (W : World) (R : List Own) (Φ : PW) (J : Value → World → Prop) : Prop :=
  exI fun (I0 : Int → List Own → PW → Nat → Prop) => (∃ (R1 : List Own), ∃ (Φ2 : PW), ∃ (k3 : Nat), Stable Φ2 ∧ (∀ (w4 : World) (R5 : List Own), Ctx W w4 (R ++ R5) Φ → Ctx W w4 (R1 ++ R5) Φ2)
  ∧ I0 0 R1 Φ2 k3) ∧ ∀ (n6 : Int) (R7 : List Own) (I8 : List Nat → World → Prop) (k9 : Nat), Stable I8 → I0 n6 R7 I8 k9 → Br (decide (n6 < (↑sN : Int))) ((0 ≤ n6 ∧ n6 < (↑sN : Int)) ∧ ptrK
  none sP fun (k10 k11 : Nat) => ∀ (w12 : World) (R13 : List Own), Ctx W w12 (R7 ++ R13) I8 → ∃ (n14 : Int), ∃ (n15 : Int), ∃ (s16 : ByteArray), RowAt w12 k10 (k11 + n6.toNat * 3) [Value.int
  IntKind.i64 n14, Value.int IntKind.i64 n15, Value.string s16] ∧ ∀ (w17 : World) (R18 : List Own), Ctx W w17 (R7 ++ R18) I8 → okFun Tryz.prog fF = true ∧ Calls Tryz.prog fF (Array.mk
  (Value.agg #[Value.int IntKind.i64 n14, Value.int IntKind.i64 n15, Value.string s16] :: fC.toList)) w17 fun (e19 : Ending) (w20 : World) => ∃ (c21 : Bool), e19 = Ending.returned (Value.bool
  c21) ∧ ∃ (R22 : List Own), ∃ (Φ23 : PW), Stable Φ23 ∧ Ctx W w20 (R22 ++ R18) Φ23 ∧ Br c21 (∀ (w24 : World) (R25 : List Own), Ctx W w24 (R22 ++ R25) Φ23 → J (Value.int IntKind.i64 n6) w24)
  (I64 (n6 + 1) ∧ ∃ (R26 : List Own), ∃ (Φ27 : PW), ∃ (k28 : Nat), Stable Φ27 ∧ (∀ (w29 : World) (R30 : List Own), Ctx W w29 (R22 ++ R30) Φ23 → Ctx W w29 (R26 ++ R30) Φ27) ∧ I0 (n6 + 1) R26
  Φ27 k28 ∧ k28 < k9)) (∀ (w31 : World) (R32 : List Own), Ctx W w31 (R7 ++ R32) I8 → J (Value.int IntKind.i64 (-1)) w31)

theorem Bslices_IndexFunc_api_Value_api_Value_run (sP : Option Addr) (sN sC : Nat) (fF : FuncId) (fC : Array Value) {W w : World} {R : List Own} {Φ : PW} [Stable Φ] {J : Value → World → Prop} (c : Ctx W w R Φ) (h : Bslices_IndexFunc_api_Value_api_Value sP sN sC fF fC W R Φ J) : Calls Tryz.prog F.slices_IndexFunc_api_Value_api_Value #[.slice sP sN sC, .func (.func fF) #[] fC] w fun e w' => ∃ v, e = .returned v ∧ J v w' :=
  vcFS_sound (H := { keep := some [0, 1, 4, 5, 7, 8, 9, 16], wrap := [16], loops := [(2, [(8, .one (.int .i64))], [])] }) (by rw [show vcFS Tryz.prog W { keep := some [0, 1, 4, 5, 7, 8, 9, 16], wrap := [16], loops := [(2, [(8, .one (.int .i64))], [])] } F.slices_IndexFunc_api_Value_api_Value #[.slice sP sN sC, .func (.func fF) #[] fC] R Φ J = Bslices_IndexFunc_api_Value_api_Value sP sN sC fF fC W R Φ J by kernel_rfl]; exact h) c

/-- value.Int -/
-- known blocks: 2 
def Bvalue_Int (n : Int) (W : World) (R : List Own) (Φ : PW) (J : Value → World → Prop) : Prop :=
  ∀ (b : Nat) (w0 : World) (R1 : List Own), Ctx W w0 (R ++ R1) Φ → J (Value.agg #[Value.int IntKind.i64 0, Value.int IntKind.i64 n, Value.string (ByteArray.mk #[])]) w0

theorem Bvalue_Int_run (n : Int) {W w : World} {R : List Own} {Φ : PW} [Stable Φ] {J : Value → World → Prop} (c : Ctx W w R Φ) (h : Bvalue_Int n W R Φ J) : Calls Tryz.prog F.value_Int #[.int .i64 n] w fun e w' => ∃ v, e = .returned v ∧ J v w' :=
  vcFS_sound (H := { keep := some [0, 2], track := [2] }) (by rw [show vcFS Tryz.prog W { keep := some [0, 2], track := [2] } F.value_Int #[.int .i64 n] R Φ J = Bvalue_Int n W R Φ J by kernel_rfl]; exact h) c

/-- value.Text -/
-- known blocks: 2 
def Bvalue_Text (s : ByteArray) (W : World) (R : List Own) (Φ : PW) (J : Value → World → Prop) : Prop :=
  ∀ (b : Nat) (w0 : World) (R1 : List Own), Ctx W w0 (R ++ R1) Φ → J (Value.agg #[Value.int IntKind.i64 1, Value.int IntKind.i64 0, Value.string s]) w0

theorem Bvalue_Text_run (s : ByteArray) {W w : World} {R : List Own} {Φ : PW} [Stable Φ] {J : Value → World → Prop} (c : Ctx W w R Φ) (h : Bvalue_Text s W R Φ J) : Calls Tryz.prog F.value_Text #[.string s] w fun e w' => ∃ v, e = .returned v ∧ J v w' :=
  vcFS_sound (H := { keep := some [0, 2], track := [2] }) (by rw [show vcFS Tryz.prog W { keep := some [0, 2], track := [2] } F.value_Text #[.string s] R Φ J = Bvalue_Text s W R Φ J by kernel_rfl]; exact h) c

/-- value.Bool -/
-- known blocks: 2 
def Bvalue_Bool (b : Bool) (W : World) (R : List Own) (Φ : PW) (J : Value → World → Prop) : Prop :=
  ∀ (b_1 : Nat), Br b (∀ (w0 : World) (R1 : List Own), Ctx W w0 (R ++ R1) Φ → J (Value.agg #[Value.int IntKind.i64 2, Value.int IntKind.i64 1, Value.string (ByteArray.mk #[])]) w0) (∀ (w2 :
  World) (R3 : List Own), Ctx W w2 (R ++ R3) Φ → J (Value.agg #[Value.int IntKind.i64 2, Value.int IntKind.i64 0, Value.string (ByteArray.mk #[])]) w2)

theorem Bvalue_Bool_run (b : Bool) {W w : World} {R : List Own} {Φ : PW} [Stable Φ] {J : Value → World → Prop} (c : Ctx W w R Φ) (h : Bvalue_Bool b W R Φ J) : Calls Tryz.prog F.value_Bool #[.bool b] w fun e w' => ∃ v, e = .returned v ∧ J v w' :=
  vcFS_sound (H := { keep := some [0, 2, 3], track := [2] }) (by rw [show vcFS Tryz.prog W { keep := some [0, 2, 3], track := [2] } F.value_Bool #[.bool b] R Φ J = Bvalue_Bool b W R Φ J by kernel_rfl]; exact h) c

end Go.Proofs.YtjlfpkgjcffilaaGreatDoor
end

section
namespace Go.Proofs.YtjlfpkgjcffilaaGreatDoor
set_option linter.unusedVariables false
set_option linter.unusedSimpArgs false
open Go.Vc

/-- slices.isNaN[int] -/
def Qslices_isNaN_int (x : Int) (w : World) (J : Value → World → Prop) : Prop :=
  J (Value.bool (decide (x ≠ x))) w

theorem Qslices_isNaN_int_run (x : Int) (w : World) (J : Value → World → Prop) (h : Qslices_isNaN_int x w J) : Calls Tryz.prog F.slices_isNaN_int #[.int .i64 x] w fun e w' => ∃ v, e = .returned v ∧ J v w' :=
  vcF_sound (H := { keep := some [0, 2] }) (by rw [show vcF Tryz.prog { keep := some [0, 2] } F.slices_isNaN_int #[.int .i64 x] w J = Qslices_isNaN_int x w J by kernel_rfl]; exact h)

/-- cmp.isNaN[int] -/
def Qcmp_isNaN_int (x : Int) (w : World) (J : Value → World → Prop) : Prop :=
  J (Value.bool (decide (x ≠ x))) w

theorem Qcmp_isNaN_int_run (x : Int) (w : World) (J : Value → World → Prop) (h : Qcmp_isNaN_int x w J) : Calls Tryz.prog F.cmp_isNaN_int #[.int .i64 x] w fun e w' => ∃ v, e = .returned v ∧ J v w' :=
  vcF_sound (H := { keep := some [0, 2] }) (by rw [show vcF Tryz.prog { keep := some [0, 2] } F.cmp_isNaN_int #[.int .i64 x] w J = Qcmp_isNaN_int x w J by kernel_rfl]; exact h)

end Go.Proofs.YtjlfpkgjcffilaaGreatDoor
end

/-
  CONTRACTS over what a walk owns: a function that hands back a plain value, or plain data.
-/
section
set_option linter.unusedVariables false
set_option linter.unusedSimpArgs false
namespace Go.Vc

section
variable {P : Program} {W w : World} {S F : List Own} {Φ Ψ : PW}

/-- the function only looks: it hands back v, and the world is as it was -/
structure Quiet (P : Program) (f : FuncId) (args : Array Value) (v : Value) : Prop where
  go : ∀ w, Calls P f args w fun e w' => e = .returned v ∧ w' = w

/-- the function hands back v; all that is owned or known stays -/
structure Gives (P : Program) (f : FuncId) (args : Array Value) (v : Value) : Prop where
  go : ∀ (W w : World) (S : List Own) (Φ : PW), Stable Φ → Ctx W w S Φ → Calls P f args w fun e w' => e = .returned v ∧ Ctx W w' S Φ

theorem Quiet.at {f : FuncId} {args : Array Value} {v : Value} (h : Quiet P f args v) {w w0 : World} (e : w = w0) : Calls P f args w fun e w' => e = .returned v ∧ w' = w0 := by subst e; exact h.go w
theorem Quiet.gives {f : FuncId} {args : Array Value} {v : Value} (h : Quiet P f args v) : Gives P f args v :=
  ⟨fun W w S Φ _ c => (h.go w).mono fun e w' ⟨h1, h2⟩ => by subst h2; exact ⟨h1, c⟩⟩

theorem Gives.use {f : FuncId} {args : Array Value} {v : Value} (h : Gives P f args v) [hs : Stable Φ] (c : Ctx W w S Φ) {K : Ending → World → Prop} (hk : ∀ w', Ctx W w' S Φ → K (.returned v) w') : Calls P f args w K :=
  (h.go W w S Φ hs c).mono fun e w' ⟨he, c'⟩ => by subst he; exact hk w' c'

theorem gives_of {f : FuncId} {args : Array Value} {v : Value} {B : World → List Own → PW → (Value → World → Prop) → Prop}
    (run : ∀ {W w : World} {R : List Own} {Φ : PW} [Stable Φ] {J : Value → World → Prop}, Ctx W w R Φ → B W R Φ J → Calls P f args w fun e w' => ∃ v, e = .returned v ∧ J v w')
    (h : ∀ (W : World) (R : List Own) (Φ : PW), Stable Φ → B W R Φ fun u w' => u = v ∧ Ctx W w' R Φ) : Gives P f args v :=
  ⟨fun W w S Φ hs c => calls_of (run c (h W S Φ hs)) fun u w' ⟨h1, h2⟩ => ⟨by rw [h1], h2⟩⟩

/-- .. where Φ is known -/
structure GivesIn (Φ : PW) (P : Program) (f : FuncId) (args : Array Value) (v : Value) : Prop where
  go : ∀ (W w : World) (S : List Own), Ctx W w S Φ → Calls P f args w fun e w' => e = .returned v ∧ Ctx W w' S Φ

theorem GivesIn.use {f : FuncId} {args : Array Value} {v : Value} (h : GivesIn Φ P f args v) (c : Ctx W w S Φ) {K : Ending → World → Prop} (hk : ∀ w', Ctx W w' S Φ → K (.returned v) w') : Calls P f args w K :=
  (h.go W w S c).mono fun e w' ⟨he, c'⟩ => by subst he; exact hk w' c'

theorem Gives.in [hs : Stable Φ] {f : FuncId} {args : Array Value} {v : Value} (h : Gives P f args v) : GivesIn Φ P f args v := ⟨fun W w S c => h.go W w S Φ hs c⟩

theorem gives_in [Stable Φ] {f : FuncId} {args : Array Value} {v : Value} {B : World → List Own → PW → (Value → World → Prop) → Prop}
    (run : ∀ {W w : World} {R : List Own} {Φ : PW} [Stable Φ] {J : Value → World → Prop}, Ctx W w R Φ → B W R Φ J → Calls P f args w fun e w' => ∃ v, e = .returned v ∧ J v w')
    (h : ∀ (W : World) (R : List Own), B W R Φ fun u w' => u = v ∧ Ctx W w' R Φ) : GivesIn Φ P f args v :=
  ⟨fun W w S c => calls_of (run c (h W S)) fun u w' ⟨h1, h2⟩ => ⟨by rw [h1], h2⟩⟩

/-- without the frame -/
theorem Ctx.left [Stable Φ] (c : Ctx W w (S ++ F) Φ) : Ctx W w S Φ := c.sub (List.sublist_append_left _ _)
theorem Ctx.right [Stable Φ] (c : Ctx W w (S ++ F) Φ) : Ctx W w F Φ := c.sub (List.sublist_append_right _ _)
theorem Ctx.fst [Stable Φ] [Stable Ψ] (c : Ctx W w S (fun M w => Φ M w ∧ Ψ M w)) : Ctx W w S Φ := c.weak fun _ _ h => h.1

/-- a row out of cells that are written out -/
theorem rows_of {cs vs : List Value} {o : Nat} (h : (cs.drop o).take vs.length = vs) : ∀ j, (hj : j < vs.length) → cs[o + j]? = some vs[j] := by
  intro j hj
  have h1 : ((cs.drop o).take vs.length)[j]? = vs[j]? := by rw [h]
  rw [List.getElem?_take_of_lt hj, List.getElem?_drop] at h1
  rw [h1, List.getElem?_eq_getElem hj]

theorem quiet_of {f : FuncId} {args : Array Value} {v : Value} {B : World → (Value → World → Prop) → Prop}
    (run : ∀ (w : World) (J : Value → World → Prop), B w J → Calls P f args w fun e w' => ∃ v, e = .returned v ∧ J v w')
    (h : ∀ w, B w fun u w' => u = v ∧ w' = w) : Quiet P f args v :=
  ⟨fun w => calls_of (run w _ (h w)) fun u w' ⟨h1, h2⟩ => ⟨by rw [h1], h2⟩⟩

end

/-! ### data that is read at several points: its cells are named -/
/-- the cells of the elements, at this place -/
def Pin {α : Type} [Gv α] (b o : Nat) (cs : List (List Value)) (l : List α) (M : List Nat) (w : World) : Prop :=
  ∀ j, (hj : j < l.length) → b ∉ M ∧ RowAt w b (o + j * (Gv.ty α).size) (cs.getD j []) ∧ Gv.rep M w (cs.getD j []) l[j]

instance instStablePin {α : Type} [Gv α] (b o : Nat) (cs : List (List Value)) (l : List α) : Stable (fun M w => Pin b o cs l M w) := ⟨fun hs h j hj => by
  obtain ⟨h2, h3, h4⟩ := h j hj
  have hlt := row_lt h3 (by rw [Gv.len h4]; exact Gv.pos)
  exact ⟨fun hm => by rcases hs.sub b hm with h | h; exact h2 h; omega, hs.chg.row h3 h2, Gv.stable hs h4⟩⟩

theorem Sl.pin {α : Type} [Gv α] {M : List Nat} {w : World} {p : Option Addr} {l : List α} (h : Sl M w p l) : ∃ b o cs, (0 < l.length → p = some ⟨b, o, none⟩) ∧ Pin b o cs l M w := by
  by_cases h0 : 0 < l.length
  · obtain ⟨b, o, _, hp, _⟩ := h 0 h0
    have key : ∀ j, j < l.length → ∃ cs : List Value, ∀ hj : j < l.length, b ∉ M ∧ RowAt w b (o + j * (Gv.ty α).size) cs ∧ Gv.rep M w cs l[j] := by
      intro j hj
      obtain ⟨b', o', cs, h1, h2, h3, h4⟩ := h j hj
      rw [hp] at h1
      cases h1
      exact ⟨cs, fun _ => ⟨h2, h3, h4⟩⟩
    obtain ⟨cs, hl, hcs⟩ := list_build l.length key
    refine ⟨b, o, cs, fun _ => hp, fun j hj => ?_⟩
    have := hcs j (by omega) hj
    rw [show cs.getD j [] = cs[j] by simp [List.getD, show j < cs.length by omega]]
    exact this
  · exact ⟨0, 0, [], fun h => absurd h h0, fun j hj => by omega⟩

theorem Ctx.pin {W w : World} {S : List Own} {Φ : PW} (c : Ctx W w S Φ) {α : Type} [Gv α] {p : Option Addr} {l : List α} (h : Sl (dom S) w p l) :
    ∃ b o cs, (0 < l.length → p = some ⟨b, o, none⟩) ∧ Ctx W w S (fun M w => Φ M w ∧ Pin b o cs l M w) := by
  obtain ⟨b, o, cs, hp, hpin⟩ := h.pin
  exact ⟨b, o, cs, hp, c.add hpin⟩

theorem GivesIn.pinned {Φ : PW} [Stable Φ] {P : Program} {f : FuncId} {args : Array Value} {v : Value} {α : Type} [Gv α] {p : Option Addr} {l : List α} (hΦ : ∀ M w, Φ M w → Sl M w p l)
    (h : ∀ b o cs, (0 < l.length → p = some ⟨b, o, none⟩) → GivesIn (fun M w => Φ M w ∧ Pin b o cs l M w) P f args v) : GivesIn Φ P f args v :=
  ⟨fun W w S c => by
    obtain ⟨b, o, cs, hp, c'⟩ := c.pin (hΦ _ _ c.phi)
    exact ((h b o cs hp).go W w S c').mono fun e w' ⟨h1, h2⟩ => ⟨h1, h2.fst⟩⟩

end Go.Vc
end

/-
  What is owned is laid aside while a call reads it; functions that hand back a slice of plain data.
-/
section
set_option linter.unusedVariables false
set_option linter.unusedSimpArgs false
namespace Go.Vc

section
variable {P : Program} {W w : World} {S F : List Own} {Φ Ψ : PW}

/-- what is owned, laid aside: nobody writes it -/
def Parked (W : World) (o : Own) (M : List Nat) (w : World) : Prop := o.at w ∧ ∀ b ∈ o.dom, b ∉ M ∧ W.heap.size ≤ b

instance instStableParked (W : World) (o : Own) : Stable (fun M w => Parked W o M w) := ⟨fun hs h =>
  ⟨Own.at_keep h.1 fun b hb => hs.chg.block b (Own.at_lt h.1 b hb) (h.2 b hb).1, fun b hb => ⟨fun hm => by
    rcases hs.sub b hm with h1 | h1
    · exact (h.2 b hb).1 h1
    · have := Own.at_lt h.1 b hb; omega, (h.2 b hb).2⟩⟩⟩

instance instStableMore (D : List Nat) (Φ : PW) [Stable Φ] : Stable (fun M w => Φ (D ++ M) w) := ⟨fun {M M' w w'} hs h =>
  Stable.step (Φ := Φ) (M := D ++ M) (M' := D ++ M') ⟨hs.chg.mono fun x hx => List.mem_append_right _ hx, fun b hb => by
    rcases List.mem_append.1 hb with h | h
    · exact .inl (List.mem_append_left _ h)
    · rcases hs.sub b h with h | h
      · exact .inl (List.mem_append_right _ h)
      · exact .inr h⟩ h⟩

theorem Own.nodup (o : Own) : o.dom.Nodup := by
  cases o with
  | blk => simp [Own.dom]
  | obj => simp [Own.dom]
  | buf p => cases p <;> simp [Own.dom]

theorem dom_cons (o : Own) (S : List Own) : dom (o :: S) = o.dom ++ dom S := rfl

theorem Ctx.park {o : Own} (c : Ctx W w (o :: S) Φ) : Ctx W w S (fun M w => Φ (o.dom ++ M) w ∧ Parked W o M w) :=
  ⟨c.chg, fun x hx => c.own x (List.mem_cons_of_mem _ hx), fun b hb => c.young b (by rw [dom_cons]; exact List.mem_append_right _ hb),
    (by have := c.nodup; rw [dom_cons, List.nodup_append] at this; exact this.2.1), c.phi, c.own o List.mem_cons_self, fun b hb =>
      ⟨fun hm => by have := c.nodup; rw [dom_cons, List.nodup_append] at this; exact this.2.2 b hb b hm rfl, c.young b (by rw [dom_cons]; exact List.mem_append_left _ hb)⟩⟩

/-- a slice with elements lies somewhere -/
def There (p : Option Addr) (n : Nat) : Prop := 0 < n → ∃ b o, p = some ⟨b, o, none⟩
theorem Sl.there {α : Type} [Gv α] {M : List Nat} {w : World} {p : Option Addr} {l : List α} (h : Sl M w p l) : There p l.length := fun h0 => by
  obtain ⟨b, o, _, h1, _⟩ := h 0 h0
  exact ⟨b, o, h1⟩
theorem Sl.nil {α : Type} [Gv α] {M : List Nat} {w : World} {p : Option Addr} : Sl M w p ([] : List α) := fun j hj => by simp at hj

theorem GivesIn.there {f : FuncId} {args : Array Value} {v : Value} {p : Option Addr} {n : Nat} (hΦ : ∀ M w, Φ M w → There p n) (h : There p n → GivesIn Φ P f args v) : GivesIn Φ P f args v :=
  ⟨fun W w S c => (h (hΦ _ _ c.phi)).go W w S c⟩

/-- the function hands back a slice of plain data, inside mk -/
structure GivesSl (Φ : PW) (P : Program) (f : FuncId) (args : Array Value) {α : Type} [Gv α] (l : List α) (mk : Value → Value) : Prop where
  go : ∀ (W w : World) (S : List Own), Ctx W w S Φ → Calls P f args w fun e w' => ∃ p cap, e = .returned (mk (.slice p l.length cap)) ∧ l.length ≤ cap ∧ cap ≤ maxLen ∧ Ctx W w' S (fun M w => Φ M w ∧ Sl M w p l)

theorem GivesSl.use {f : FuncId} {args : Array Value} {α : Type} [Gv α] {l : List α} {mk : Value → Value} (h : GivesSl Φ P f args l mk) (c : Ctx W w S Φ) {K : Ending → World → Prop}
    (hk : ∀ p cap w', l.length ≤ cap → cap ≤ maxLen → Ctx W w' S (fun M w => Φ M w ∧ Sl M w p l) → K (.returned (mk (.slice p l.length cap))) w') : Calls P f args w K :=
  (h.go W w S c).mono fun e w' ⟨p, cap, he, h1, h2, c'⟩ => by subst he; exact hk p cap w' h1 h2 c'

theorem GivesSl.there {f : FuncId} {args : Array Value} {α : Type} [Gv α] {l : List α} {mk : Value → Value} {p : Option Addr} {n : Nat} (hΦ : ∀ M w, Φ M w → There p n) (h : There p n → GivesSl Φ P f args l mk) : GivesSl Φ P f args l mk :=
  ⟨fun W w S c => (h (hΦ _ _ c.phi)).go W w S c⟩

theorem GivesSl.pinned [Stable Φ] {f : FuncId} {args : Array Value} {β : Type} [Gv β] {r : List β} {mk : Value → Value} {α : Type} [Gv α] {p : Option Addr} {l : List α} (hΦ : ∀ M w, Φ M w → Sl M w p l)
    (h : ∀ b o cs, (0 < l.length → p = some ⟨b, o, none⟩) → GivesSl (fun M w => Φ M w ∧ Pin b o cs l M w) P f args r mk) : GivesSl Φ P f args r mk :=
  ⟨fun W w S c => by
    obtain ⟨b, o, cs, hp, c'⟩ := c.pin (hΦ _ _ c.phi)
    exact ((h b o cs hp).go W w S c').mono fun e w' ⟨p, cap, h1, h2, h3, h4⟩ => ⟨p, cap, h1, h2, h3, h4.weak fun _ _ h => ⟨h.1.1, h.2⟩⟩⟩

/-! ### append -/
def appB (P : Program) (ts t : TypeId) (size bytes : Nat) : Bool :=
  (match P.underlying ts with | some (.slice u) => decide (u = t) | _ => false) && (match P.info? t with
    | some i => (match i.zero with | some z => decide (z.cells.size = size) | none => false) && decide (i.size = size) && decide (i.bytes = bytes)
    | none => false)

theorem appB_out {ts t : TypeId} {size bytes : Nat} (h : appB P ts t size bytes = true) : ∃ i z, P.underlying ts = some (.slice t) ∧ P.info? t = some i ∧ i.zero = some z ∧ i.size = size ∧ z.cells.size = size ∧ i.bytes = bytes := by
  unfold appB at h
  rw [Bool.and_eq_true] at h
  obtain ⟨h1, h2⟩ := h
  split at h1
  · rename_i u hu
    have : u = t := by simpa using h1
    subst this
    split at h2
    · rename_i i hi
      simp only [Bool.and_eq_true] at h2
      obtain ⟨⟨h2, h3⟩, h4⟩ := h2
      split at h2
      · rename_i z hz
        exact ⟨i, z, hu, hi, hz, by simpa using h3, by simpa using h2, by simpa using h4⟩
      · cases h2
    · cases h2
  · cases h1

theorem run_app {ats : Array TypeId} {ty : TypeId} {cs : Array Bool} {args : Array Value} {v : Value} {w w' : World} (h : (Builtin.append_ ats ty args).run P w = .ok v w') : Sem.run P (builtin Builtin.append ats ty cs args) w = .ok (.value v) w' := by
  unfold builtin
  simp only [Sem.run_bind, h, Result.andThen, Sem.run_pure]

/-- append one element that was just made -/
theorem Ctx.app1 [Stable Φ] {b : Nat} {news : List Value} {t' : TypeId} {p : Option Addr} {n cap : Nat} {cs : List Value} {t : TypeId} {size bytes : Nat} (c : Ctx W w (.blk b news t' :: .buf p n cap cs t size :: S) Φ)
    {ts ty : TypeId} {kb : Array Bool} (hb : appB P ts t size bytes = true) (h0 : 0 < size) (hl : news.length = size) (h1 : (news.all fun u => oneC u) = true) (hlen : n < 100000000) (hbytes : bytes ≤ 1000) :
    ∃ p' cap' w', Sem.run P (builtin Builtin.append #[ts, ts] ty kb #[.slice p n cap, .slice (some ⟨b, 0, none⟩) 1 1]) w = .ok (.value (.slice p' (n + 1) cap')) w' ∧ (∃ g, p' = some ⟨g, 0, none⟩) ∧ Ctx W w' (.buf p' (n + 1) cap' (cs ++ news) t size :: S) Φ := by
  obtain ⟨i, z, e1, e2, e3, e4, e5, e6⟩ := appB_out hb
  have hby : (n + 1) * i.bytes ≤ 100000000 * 1000 := Nat.mul_le_mul (by omega) (by omega)
  obtain ⟨p', cap', w', h2, c'⟩ := c.append 1 rfl (ty := ty) e1 e2 e3 e4 e5 (a := ⟨b, 0, none⟩) (m := 1) (c2 := 1) (news := news) (by omega) (by rw [hl, Nat.one_mul]) (fun j u hj => by rw [addr_add, Nat.zero_add]; exact c.get 0 rfl hj)
    (fun u hu => List.all_eq_true.1 h1 u hu) (by omega) (by omega)
  refine ⟨p', cap', w', run_app h2, ?_, c'.drop1⟩
  obtain ⟨g, hg, _⟩ := c'.bufCell 1 rfl (by rw [List.length_append]; omega)
  exact ⟨g, hg⟩

/-- nothing is owned for an empty slice -/
theorem Ctx.nobuf [Stable Φ] (c : Ctx W w S Φ) (t : TypeId) (size : Nat) : Ctx W w (.buf none 0 0 [] t size :: S) Φ := c.buf0 t size

theorem Sl.less {α : Type} [Gv α] {M D : List Nat} {w : World} {p : Option Addr} {l : List α} (h : Sl (D ++ M) w p l) : Sl M w p l :=
  h.stable ⟨Chg.refl _ _, fun b hb => .inl (List.mem_append_right _ hb)⟩

/-- the function hands back a slice that it made, inside mk: the caller owns it -/
structure GivesBuf (Φ : PW) (P : Program) (f : FuncId) (args : Array Value) (n : Nat) (cells : List Value) (t : TypeId) (size : Nat) (mk : Value → Value) : Prop where
  go : ∀ (W w : World) (S : List Own), Ctx W w S Φ → Calls P f args w fun e w' => ∃ p cap, e = .returned (mk (.slice p n cap)) ∧ Ctx W w' (.buf p n cap cells t size :: S) Φ

theorem GivesBuf.use {f : FuncId} {args : Array Value} {n : Nat} {cells : List Value} {t : TypeId} {size : Nat} {mk : Value → Value} (h : GivesBuf Φ P f args n cells t size mk) (c : Ctx W w S Φ) {K : Ending → World → Prop}
    (hk : ∀ p cap w', Ctx W w' (.buf p n cap cells t size :: S) Φ → K (.returned (mk (.slice p n cap))) w') : Calls P f args w K :=
  (h.go W w S c).mono fun e w' ⟨p, cap, he, c'⟩ => by subst he; exact hk p cap w' c'

theorem GivesBuf.pinned [Stable Φ] {f : FuncId} {args : Array Value} {n : Nat} {cells : List Value} {t : TypeId} {size : Nat} {mk : Value → Value} {α : Type} [Gv α] {p : Option Addr} {l : List α} (hΦ : ∀ M w, Φ M w → Sl M w p l)
    (h : ∀ b o cs, (0 < l.length → p = some ⟨b, o, none⟩) → GivesBuf (fun M w => Φ M w ∧ Pin b o cs l M w) P f args n cells t size mk) : GivesBuf Φ P f args n cells t size mk :=
  ⟨fun W w S c => by
    obtain ⟨b, o, cs, hp, c'⟩ := c.pin (hΦ _ _ c.phi)
    exact ((h b o cs hp).go W w S c').mono fun e w' ⟨p, cap, h1, h4⟩ => ⟨p, cap, h1, h4.fst⟩⟩

/-- a block that is laid aside is plain data -/
theorem Parked.blkSl {α : Type} [Gv α] {M : List Nat} {b : Nat} {cs : List Value} {t : TypeId} {l : List α} (h : Parked W (.blk b cs t) M w) (he : Elems M w cs l) : Sl M w (some ⟨b, 0, none⟩) l := by
  obtain ⟨h1, h2⟩ := h
  have h1 : Blk w b cs t := h1
  intro j hj
  have hle : (j + 1) * (Gv.ty α).size ≤ cs.length := by rw [he.1]; exact Nat.mul_le_mul_right _ hj
  rw [Nat.add_mul, Nat.one_mul] at hle
  refine ⟨b, 0, (cs.drop (j * (Gv.ty α).size)).take (Gv.ty α).size, rfl, (h2 b (by simp [Own.dom])).1, fun i hi => ?_, he.2 j hj⟩
  simp only [List.length_take, List.length_drop] at hi
  rw [Nat.zero_add, List.getElem_take, List.getElem_drop]
  exact h1.cell_eq (List.getElem?_eq_getElem (by omega))

/-- a block that is written no more is plain data -/
theorem Ctx.freezeBlk [Stable Φ] {α : Type} [Gv α] {b : Nat} {cs : List Value} {t : TypeId} {l : List α} (c : Ctx W w (.blk b cs t :: S) Φ) (he : Elems (dom (.blk b cs t :: S)) w cs l) : Ctx W w S Φ ∧ Sl (dom S) w (some ⟨b, 0, none⟩) l := by
  have c' := c.park
  refine ⟨c.drop1, c'.phi.2.blkSl ⟨he.1, fun j hj => ?_⟩⟩
  exact Gv.stable ⟨Chg.refl _ _, fun b hb => .inl (by rw [dom_cons]; exact List.mem_append_right _ hb)⟩ (he.2 j hj)

theorem Elems.two {α : Type} [Gv α] {M : List Nat} {cs ds : List Value} {x y : α} (h1 : Gv.rep M w cs x) (h2 : Gv.rep M w ds y) : Elems M w (cs ++ ds) [x, y] := Elems.snoc (l := [x]) (Elems.snoc (l := []) (cs := []) Elems.nil h1) h2
theorem Elems.one {α : Type} [Gv α] {M : List Nat} {cs : List Value} {x : α} (h1 : Gv.rep M w cs x) : Elems M w cs [x] := Elems.snoc (l := []) (cs := []) Elems.nil h1

end

end Go.Vc
end

/-
  Writing into a slice that grows; rows of plain data out of a slice; permuting what is owned.
-/
section
set_option linter.unusedVariables false
set_option linter.unusedSimpArgs false
namespace Go.Vc

section
variable {P : Program} {W w w' : World} {S S' F : List Own} {Φ Ψ : PW}

theorem Ctx.swap [Stable Φ] {a b : Own} (c : Ctx W w (a :: b :: S) Φ) : Ctx W w (b :: a :: S) Φ := c.perm (List.Perm.swap _ _ _)

/-- a slice that grows lies in a block -/
theorem Ctx.bufBlk (c : Ctx W w S Φ) (k : Nat) {p : Option Addr} {n cap : Nat} {cs : List Value} {t : TypeId} {size : Nat} (hk : S[k]? = some (.buf p n cap cs t size)) (h0 : 0 < cs.length) :
    ∃ b cur, p = some ⟨b, 0, none⟩ ∧ Blk w b cur t ∧ cur.take (n * size) = cs ∧ n ≤ cap ∧ cap ≤ maxLen ∧ cur.length = cap * size ∧ cs.length = n * size := by
  obtain ⟨h1, h2⟩ := c.own _ (List.mem_of_getElem? hk)
  rcases h2 with ⟨e, rfl⟩ | ⟨g, cap', cur, e, _, hg, hnc, hcm, hcs, htake⟩
  · rw [Nat.zero_mul] at h1; omega
  · cases e
    exact ⟨g, cur.toList, rfl, by simpa [Blk] using hg, htake, hnc, hcm, by simpa using hcs, h1⟩

theorem Ctx.bufRow (c : Ctx W w S Φ) (k : Nat) {p : Option Addr} {n cap : Nat} {cs : List Value} {t : TypeId} {size : Nat} (hk : S[k]? = some (.buf p n cap cs t size)) {b o : Nat} (hp : p = some ⟨b, 0, none⟩) {vs : List Value}
    (hv : ∀ j, (hj : j < vs.length) → cs[o + j]? = some vs[j]) : RowAt w b o vs := by
  intro j hj
  have hlt : o + j < cs.length := (List.getElem?_eq_some_iff.1 (hv j hj)).1
  obtain ⟨b', h1, _, h2⟩ := c.bufCell k hk (by omega)
  rw [hp] at h1
  cases h1
  exact (h2 _ _ (hv j hj)).1

theorem Ctx.bufCan (c : Ctx W w S Φ) (k : Nat) {p : Option Addr} {n cap : Nat} {cs : List Value} {t : TypeId} {size : Nat} (hk : S[k]? = some (.buf p n cap cs t size)) {b o m : Nat} (hp : p = some ⟨b, 0, none⟩) (hm : o + m ≤ cs.length) : CanWrite w b o m := by
  intro j hj
  obtain ⟨b', h1, _, h2⟩ := c.bufCell k hk (by omega)
  rw [hp] at h1
  cases h1
  have := h2 (o + j) cs[o + j] (List.getElem?_eq_getElem (by omega))
  exact ⟨by rw [this.1]; rfl, this.2⟩

theorem setL_len : ∀ (vs : List Value) (cs : List Value) (o : Nat), (setL cs o vs).length = cs.length
  | [], _, _ => rfl
  | v :: r, cs, o => by unfold setL; rw [setL_len r]; simp

theorem setL_take : ∀ (vs : List Value) (cs : List Value) (o m : Nat), o + vs.length ≤ m → (setL cs o vs).take m = setL (cs.take m) o vs
  | [], _, _, _, _ => rfl
  | v :: r, cs, o, m, h => by
    unfold setL
    simp only [List.length_cons] at h
    rw [setL_take r _ _ _ (by omega), List.take_set]

theorem setL_get : ∀ (vs : List Value) (cs : List Value) (o i : Nat), (i < o ∨ o + vs.length ≤ i) → (setL cs o vs)[i]? = cs[i]?
  | [], _, _, _, _ => rfl
  | v :: r, cs, o, i, h => by
    unfold setL
    simp only [List.length_cons] at h
    rw [setL_get r _ _ _ (by omega), List.getElem?_set_ne (by omega)]

theorem setL_in : ∀ (vs : List Value) (cs : List Value) (o i : Nat), i < vs.length → o + vs.length ≤ cs.length → (setL cs o vs)[o + i]? = vs[i]?
  | [], _, _, _, h, _ => by simp at h
  | v :: r, cs, o, 0, h, hl => by
    unfold setL
    simp only [List.length_cons] at hl
    rw [setL_get r _ _ _ (by omega), Nat.add_zero, List.getElem?_set_self (by omega)]
    rfl
  | v :: r, cs, o, i + 1, h, hl => by
    unfold setL
    simp only [List.length_cons] at hl h
    rw [show o + (i + 1) = o + 1 + i by omega, setL_in r _ _ _ (by omega) (by simp; omega)]
    rfl

/-- write into it -/
theorem Ctx.bufPuts [Stable Φ] (c : Ctx W w S Φ) (k : Nat) {p : Option Addr} {n cap : Nat} {cs vs : List Value} {t : TypeId} {size : Nat} (hk : S[k]? = some (.buf p n cap cs t size)) {b o : Nat} (hp : p = some ⟨b, 0, none⟩) (h0 : 0 < cs.length) (ho : o + vs.length ≤ cs.length)
    (e : w' = w.setCells b o vs) : Ctx W w' (S.set k (.buf p n cap (setL cs o vs) t size)) Φ := by
  obtain ⟨b', cur, h1, hb, htake, hnc, hcm, hcl, hl⟩ := c.bufBlk k hk h0
  rw [hp] at h1
  cases h1
  subst e
  refine c.upd hk ((Chg.refl _ _).setCells (by subst hp; simp [Own.dom]) o vs) (fun x hx => .inl (by subst hp; exact hx)) (by subst hp; simp [Own.dom]) ?_
  have hb' := Blk.sets vs o hb
  refine ⟨by rw [setL_len, hl], .inr ⟨b, cap, (setL cur o vs).toArray, by rw [hp], Nat.zero_le _, hb', hnc, hcm, by simp [setL_len, hcl], ?_⟩⟩
  rw [← htake, setL_take _ _ _ _ (by omega)]

theorem Elems.setAt {α : Type} [Gv α] {M : List Nat} {cs d : List Value} {l : List α} {x : α} (h : Elems M w cs l) (k : Nat) (hk : k < l.length) (hx : Gv.rep M w d x) : Elems M w (setL cs (k * (Gv.ty α).size) d) (l.set k x) := by
  have hd := Gv.len hx
  refine ⟨by rw [setL_len, h.1]; simp, fun j hj => ?_⟩
  have hj : j < l.length := by simpa using hj
  have hle : (k + 1) * (Gv.ty α).size ≤ cs.length := by rw [h.1]; exact Nat.mul_le_mul_right _ hk
  have hlj : (j + 1) * (Gv.ty α).size ≤ cs.length := by rw [h.1]; exact Nat.mul_le_mul_right _ hj
  rw [Nat.add_mul, Nat.one_mul] at hle hlj
  by_cases hjk : k = j
  · subst hjk
    rw [List.getElem_set_self]
    have : ((setL cs (k * (Gv.ty α).size) d).drop (k * (Gv.ty α).size)).take (Gv.ty α).size = d := by
      apply List.ext_getElem?
      intro i
      by_cases hi : i < (Gv.ty α).size
      · rw [List.getElem?_take_of_lt hi, List.getElem?_drop, setL_in _ _ _ _ (by omega) (by omega)]
      · rw [List.getElem?_eq_none (by simp; omega), List.getElem?_eq_none (by omega)]
    rw [this]
    exact hx
  · rw [List.getElem_set_ne hjk]
    have : ((setL cs (k * (Gv.ty α).size) d).drop (j * (Gv.ty α).size)).take (Gv.ty α).size = (cs.drop (j * (Gv.ty α).size)).take (Gv.ty α).size := by
      apply List.ext_getElem?
      intro i
      by_cases hi : i < (Gv.ty α).size
      · rw [List.getElem?_take_of_lt hi, List.getElem?_drop, List.getElem?_take_of_lt hi, List.getElem?_drop]
        refine setL_get _ _ _ _ ?_
        rw [hd]
        rcases Nat.lt_or_gt_of_ne hjk with hlt | hlt
        · right
          have := Nat.mul_le_mul_right (Gv.ty α).size (show k + 1 ≤ j from hlt)
          rw [Nat.add_mul, Nat.one_mul] at this
          omega
        · left
          have := Nat.mul_le_mul_right (Gv.ty α).size (show j + 1 ≤ k from hlt)
          rw [Nat.add_mul, Nat.one_mul] at this
          omega
      · rw [List.getElem?_eq_none (by simp [setL_len]; omega), List.getElem?_eq_none (by simp; omega)]
    rw [this]
    exact h.2 j hj

/-- the cells of the elements of a slice, in a row -/
theorem Sl.cells {α : Type} [Gv α] {M : List Nat} {p : Option Addr} {l : List α} (h : Sl M w p l) (h1 : ∀ M w cs (x : α), Gv.rep M w cs x → (cs.all fun u => oneC u) = true) (h0 : 0 < l.length) :
    ∃ b o news, p = some ⟨b, o, none⟩ ∧ news.length = l.length * (Gv.ty α).size ∧ (∀ j u, news[j]? = some u → w.cell? ⟨b, o + j, none⟩ = some u) ∧ Elems M w news l ∧ (news.all fun u => oneC u) = true := by
  obtain ⟨b, o, _, hp, _⟩ := h 0 h0
  have key : ∀ k, k ≤ l.length → ∃ news : List Value, news.length = k * (Gv.ty α).size ∧ (∀ j u, news[j]? = some u → w.cell? ⟨b, o + j, none⟩ = some u) ∧ Elems M w news (l.take k) ∧ (news.all fun u => oneC u) = true := by
    intro k
    induction k with
    | zero => intro _; exact ⟨[], by simp, fun j u hj => by simp at hj, by rw [List.take_zero]; exact Elems.nil, rfl⟩
    | succ k ih =>
      intro hk
      obtain ⟨news, g1, g2, g3, g4⟩ := ih (by omega)
      obtain ⟨b', o', cs, e1, _, e3, e4⟩ := h k (by omega)
      rw [hp] at e1
      cases e1
      have hlen := Gv.len e4
      refine ⟨news ++ cs, by rw [List.length_append, g1, hlen, Nat.add_mul, Nat.one_mul], fun j u hj => ?_, ?_, by rw [List.all_append, g4, h1 _ _ _ _ e4]; rfl⟩
      · by_cases hlt : j < news.length
        · rw [List.getElem?_append_left hlt] at hj
          exact g2 j u hj
        · rw [List.getElem?_append_right (by omega)] at hj
          have hl2 : j - news.length < cs.length := (List.getElem?_eq_some_iff.1 hj).1
          have := e3 (j - news.length) hl2
          rw [show o + k * (Gv.ty α).size + (j - news.length) = o + j by omega] at this
          rw [this, ← hj, List.getElem?_eq_getElem hl2]
      · rw [List.take_succ_eq_append_getElem (by omega)]
        exact g3.snoc e4
  obtain ⟨news, g1, g2, g3, g4⟩ := key l.length (Nat.le_refl _)
  rw [List.take_length] at g3
  exact ⟨b, o, news, hp, g1, g2, g3, g4⟩

/-- append a slice of plain data -/
theorem Ctx.appSl [Stable Φ] {α : Type} [Gv α] {q : Option Addr} {l : List α} {c2 : Nat} {p : Option Addr} {n cap : Nat} {cs : List Value} {t : TypeId} {bytes : Nat} (c : Ctx W w (.buf p n cap cs t (Gv.ty α).size :: S) Φ)
    {ts ty : TypeId} {kb : Array Bool} (hb : appB P ts t (Gv.ty α).size bytes = true) (h1 : ∀ M w cs (x : α), Gv.rep M w cs x → (cs.all fun u => oneC u) = true) (hsl : ∀ M w, Φ M w → Sl M w q l) (h0 : 0 < l.length) (hlen : n + l.length < 100000000) (hbytes : bytes ≤ 1000) :
    ∃ p' cap' w' news, Sem.run P (builtin Builtin.append #[ts, ts] ty kb #[.slice p n cap, .slice q l.length c2]) w = .ok (.value (.slice p' (n + l.length) cap')) w' ∧ (∃ g, p' = some ⟨g, 0, none⟩) ∧
      Ctx W w' (.buf p' (n + l.length) cap' (cs ++ news) t (Gv.ty α).size :: S) (fun M w => Φ M w ∧ Elems M w news l) := by
  obtain ⟨i, z, e1, e2, e3, e4, e5, e6⟩ := appB_out hb
  have hby : (n + l.length) * i.bytes ≤ 100000000 * 1000 := Nat.mul_le_mul (by omega) (by omega)
  obtain ⟨b, o, news, hp, g1, g2, g3, g4⟩ := (hsl _ _ c.phi).cells h1 h0
  obtain ⟨p', cap', w', h2, c'⟩ := (c.add (Ψ := fun M w => Elems M w news l) g3).append 0 rfl (ty := ty) e1 e2 e3 e4 e5 (a := ⟨b, o, none⟩) (m := l.length) (c2 := c2) (news := news) h0 g1 (fun j u hj => by rw [addr_add]; exact g2 j u hj)
    (fun u hu => List.all_eq_true.1 g4 u hu) (by omega) (by omega)
  have hpos : 0 < (Gv.ty α).size := Gv.pos
  have hl2 : 0 < l.length * (Gv.ty α).size := Nat.mul_pos h0 hpos
  refine ⟨p', cap', w', news, by rw [hp]; exact run_app h2, ?_, c'⟩
  obtain ⟨g, hg, _⟩ := c'.bufCell 0 rfl (by rw [List.length_append]; omega)
  exact ⟨g, hg⟩

end

end Go.Vc
end

/-
  Copies: what a function made and hands over; facts about single cells of a block that is laid aside.
-/
section
set_option linter.unusedVariables false
set_option linter.unusedSimpArgs false
namespace Go.Vc

section
variable {P : Program} {W w w' : World} {S S' F : List Own} {Φ Ψ : PW}

theorem Stable.less {Φ : PW} [Stable Φ] {D M : List Nat} {w : World} (h : Φ (D ++ M) w) : Φ M w :=
  Stable.step (Φ := Φ) ⟨Chg.refl _ _, fun b hb => .inl (List.mem_append_right _ hb)⟩ h


/-- the function hands back a slice that it made: the caller owns it; what its elements are, is known -/
structure GivesNew (Φ : PW) (P : Program) (f : FuncId) (args : Array Value) {α : Type} [Gv α] (l : List α) (t : TypeId) : Prop where
  go : ∀ (W w : World) (S : List Own), Ctx W w S Φ → Calls P f args w fun e w' => ∃ p cap cs, e = .returned (.slice p l.length cap) ∧ Ctx W w' (.buf p l.length cap cs t (Gv.ty α).size :: S) (fun M w => Φ M w ∧ Elems M w cs l)

theorem GivesNew.use {f : FuncId} {args : Array Value} {α : Type} [Gv α] {l : List α} {t : TypeId} (h : GivesNew Φ P f args l t) (c : Ctx W w S Φ) {K : Ending → World → Prop}
    (hk : ∀ p cap cs w', Ctx W w' (.buf p l.length cap cs t (Gv.ty α).size :: S) (fun M w => Φ M w ∧ Elems M w cs l) → K (.returned (.slice p l.length cap)) w') : Calls P f args w K :=
  (h.go W w S c).mono fun e w' ⟨p, cap, cs, he, c'⟩ => by subst he; exact hk p cap cs w' c'

theorem gives_new [Stable Φ] {f : FuncId} {args : Array Value} {α : Type} [Gv α] {l : List α} {t : TypeId} {B : World → List Own → PW → (Value → World → Prop) → Prop}
    (run : ∀ {W w : World} {R : List Own} {Φ : PW} [Stable Φ] {J : Value → World → Prop}, Ctx W w R Φ → B W R Φ J → Calls P f args w fun e w' => ∃ v, e = .returned v ∧ J v w')
    (h : ∀ (W : World) (R : List Own), B W R Φ fun u w' => ∃ p cap cs, u = .slice p l.length cap ∧ Ctx W w' (.buf p l.length cap cs t (Gv.ty α).size :: R) (fun M w => Φ M w ∧ Elems M w cs l)) : GivesNew Φ P f args l t :=
  ⟨fun W w S c => calls_of (run c (h W S)) fun u w' ⟨p, cap, cs, h1, h2⟩ => ⟨p, cap, cs, by rw [h1], h2⟩⟩

theorem GivesNew.there {f : FuncId} {args : Array Value} {α : Type} [Gv α] {l : List α} {t : TypeId} {p : Option Addr} {n : Nat} (hΦ : ∀ M w, Φ M w → There p n) (h : There p n → GivesNew Φ P f args l t) : GivesNew Φ P f args l t :=
  ⟨fun W w S c => (h (hΦ _ _ c.phi)).go W w S c⟩

/-- a slice of plain data is appended to nothing: slices.Clone -/
theorem Ctx.cloned [Stable Φ] {α : Type} [Gv α] {q : Option Addr} {l : List α} {c2 : Nat} {k : Nat} {t : TypeId} {bytes : Nat} (c : Ctx W w (.blk k [] t :: S) Φ)
    {ts ty : TypeId} {kb : Array Bool} (hb : appB P ts t (Gv.ty α).size bytes = true) (h1 : ∀ M w cs (x : α), Gv.rep M w cs x → (cs.all fun u => oneC u) = true) (hsl : ∀ M w, Φ M w → Sl M w q l) (hlen : l.length < 100000000) (hbytes : bytes ≤ 1000) :
    ∃ p' cap' w' cs, Sem.run P (builtin Builtin.append #[ts, ts] ty kb #[.slice (some ⟨k, 0, none⟩) 0 0, .slice q l.length c2]) w = .ok (.value (.slice p' l.length cap')) w' ∧
      Ctx W w' (.buf p' l.length cap' cs t (Gv.ty α).size :: S) (fun M w => Φ M w ∧ Elems M w cs l) := by
  have c' : Ctx W w (.buf (some ⟨k, 0, none⟩) 0 0 [] t (Gv.ty α).size :: S) Φ := c.toBuf 0 0 (Gv.ty α).size rfl (by simp) (by simp [maxLen])
  rcases Nat.eq_zero_or_pos l.length with h0 | h0
  · obtain ⟨i, z, e1, e2, e3, e4, e5, e6⟩ := appB_out hb
    have hl : l = [] := List.eq_nil_of_length_eq_zero h0
    subst hl
    exact ⟨_, _, w, [], run_app (c'.append0 0 rfl e1 e2 q c2), c'.add Elems.nil⟩
  · obtain ⟨p', cap', w', news, h2, _, c3⟩ := c'.appSl (ty := ty) (kb := kb) (c2 := c2) hb h1 hsl h0 (by omega) hbytes
    rw [Nat.zero_add] at h2 c3
    exact ⟨p', cap', w', news, h2, c3⟩

/-- these cells lie in a block that is not written -/
def RowIn (b o : Nat) (vs : List Value) (M : List Nat) (w : World) : Prop := b ∉ M ∧ RowAt w b o vs ∧ b < w.heap.size

instance instStableRowIn (b o : Nat) (vs : List Value) : Stable (fun M w => RowIn b o vs M w) := ⟨fun hs h =>
  ⟨fun hm => by rcases hs.sub b hm with h1 | h1; exact h.1 h1; have := h.2.2; omega, hs.chg.row h.2.1 h.1, Nat.lt_of_lt_of_le h.2.2 hs.chg.size⟩⟩

theorem Parked.rowIn {M : List Nat} {b o : Nat} {cs vs : List Value} {t : TypeId} (h : Parked W (.blk b cs t) M w) (hv : ∀ j, (hj : j < vs.length) → cs[o + j]? = some vs[j]) : RowIn b o vs M w :=
  ⟨(h.2 b (by simp [Own.dom])).1, Blk.row (show Blk w b cs t from h.1) hv, Own.at_lt h.1 b (by simp [Own.dom])⟩

/-- several things that are owned, laid aside -/
def ParkedL (W : World) (Q : List Own) (M : List Nat) (w : World) : Prop := (∀ o ∈ Q, o.at w) ∧ (dom Q).Nodup ∧ ∀ b ∈ dom Q, b ∉ M ∧ W.heap.size ≤ b

instance instStableParkedL (W : World) (Q : List Own) : Stable (fun M w => ParkedL W Q M w) := ⟨fun hs h => by
  have hlt : ∀ b ∈ dom Q, b < _ := fun b hb => by
    obtain ⟨o, ho, hb⟩ := List.mem_flatMap.1 hb
    exact Own.at_lt (h.1 o ho) b hb
  exact ⟨fun o ho => Own.at_keep (h.1 o ho) fun b hb => hs.chg.block b (hlt b (mem_dom ho hb)) (h.2.2 b (mem_dom ho hb)).1, h.2.1, fun b hb => ⟨fun hm => by
    rcases hs.sub b hm with h1 | h1
    · exact (h.2.2 b hb).1 h1
    · have := hlt b hb; omega, (h.2.2 b hb).2⟩⟩⟩

/-- what holds while Q is laid aside -/
def Aside (W : World) (Q : List Own) (Φ : PW) : PW := fun M w => Φ (dom Q ++ M) w ∧ ParkedL W Q M w
instance instStableAside (W : World) (Q : List Own) (Φ : PW) [Stable Φ] : Stable (Aside W Q Φ) :=
  have h1 : Stable (fun M w => Φ (dom Q ++ M) w) := instStableMore (dom Q) Φ
  instStableAnd (fun M w => Φ (dom Q ++ M) w) (fun M w => ParkedL W Q M w)

theorem Ctx.aside {Q : List Own} (c : Ctx W w (Q ++ S) Φ) : Ctx W w S (Aside W Q Φ) := by
  have hd := dom_app Q S
  have hn := c.nodup
  rw [hd, List.nodup_append] at hn
  refine ⟨c.chg, fun x hx => c.own x (List.mem_append_right _ hx), fun b hb => c.young b (by rw [hd]; exact List.mem_append_right _ hb), hn.2.1, ?_, fun o ho => c.own o (List.mem_append_left _ ho), hn.1, fun b hb => ⟨fun hm => hn.2.2 b hb b hm rfl, c.young b (by rw [hd]; exact List.mem_append_left _ hb)⟩⟩
  have := c.phi
  rw [hd] at this
  exact this

theorem Aside.less [Stable Φ] {Q : List Own} {M : List Nat} (h : Aside W Q Φ M w) : Φ M w := Stable.less h.1

theorem Ctx.re (c : Ctx W w S Φ) (e : S = S') : Ctx W w S' Φ := e ▸ c
theorem Ctx.bufGet (c : Ctx W w S Φ) (k : Nat) {p : Option Addr} {n cap : Nat} {cs : List Value} {t : TypeId} {size : Nat} (hk : S[k]? = some (.buf p n cap cs t size)) {b i : Nat} {v : Value} (hp : p = some ⟨b, 0, none⟩) (hv : cs[i]? = some v) : w.cell? ⟨b, i, none⟩ = some v := by
  obtain ⟨b', h1, _, h2⟩ := c.bufCell k hk (by have := (List.getElem?_eq_some_iff.1 hv).1; omega)
  rw [hp] at h1
  cases h1
  exact (h2 _ _ hv).1

end

end Go.Vc
end

