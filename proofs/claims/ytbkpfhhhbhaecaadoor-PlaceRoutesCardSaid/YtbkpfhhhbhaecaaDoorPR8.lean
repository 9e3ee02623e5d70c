/-
  The conditions of the walks of some functions, one formula each; 'B<f>_run' says that they suffice. The formulas are printed by a program; the kernel compares them with the functions' code.
-/
import Derived.Test.YtbkpfhhhbhaecaaDoorPR7
import Derived.Lib.AppendZeros

section
namespace Go.Proofs.YtbkpfhhhbhaecaaDoor
set_option linter.unusedVariables false
set_option linter.unusedSimpArgs false
set_option maxRecDepth 100000
open Go.Vc

/-- erratalaw37.PlaceRoutes -/
-- loop at region 34: 22 i; blocks 
-- loop at region 24: 20 want, 21 i; blocks 
-- loop at region 17: 17 of, 18 i; blocks 
-- loop at region 13: 15 got, 16 b; blocks 
-- loop at region 9: 14 k; blocks 
-- loop at region 6: 13 j; blocks 
-- known blocks: 19 m, 23 m
def Berratalaw37_PlaceRoutes (nodesP : Option Addr) (nodesN nodesC : Nat) (pP : Option Addr) (pN pC : Nat) (node : Int) (bucket : Int) (lP : Option Addr) (lN lC : Nat) (W : World) (R : List Own) (Φ : PW) (J : Value → World → Prop) : Prop :=
  ∀ (w0 : World) (R1 : List Own), Ctx W w0 (R ++ R1) Φ → Calls Tryd.prog F.erratalaw37_small #[] w0 fun (e2 : Ending) (w3 : World) => ∃ (c4 : Bool), e2 = Ending.returned (Value.bool c4) ∧ ∃
  (R5 : List Own), ∃ (Φ6 : PW), Stable Φ6 ∧ Ctx W w3 (R5 ++ R1) Φ6 ∧ ∀ (w7 : World) (R8 : List Own), Ctx W w7 (R5 ++ R8) Φ6 → Calls Tryd.prog F.erratalaw37_light #[Value.slice nodesP nodesN
  nodesC] w7 fun (e9 : Ending) (w10 : World) => ∃ (c11 : Bool), e9 = Ending.returned (Value.bool c11) ∧ ∃ (R12 : List Own), ∃ (Φ13 : PW), Stable Φ13 ∧ Ctx W w10 (R12 ++ R8) Φ13 ∧ Br (!c11) (∀
  (w14 : World) (R15 : List Own), Ctx W w14 (R12 ++ R15) Φ13 → J (Value.bool c4) w14) (∀ (w16 : World) (R17 : List Own), Ctx W w16 (R12 ++ R17) Φ13 → Calls Tryd.prog F.place_Right
  #[Value.slice pP pN pC, Value.int IntKind.i64 8] w16 fun (e18 : Ending) (w19 : World) => ∃ (c20 : Bool), e18 = Ending.returned (Value.bool c20) ∧ ∃ (R21 : List Own), ∃ (Φ22 : PW), Stable
  Φ22 ∧ Ctx W w19 (R21 ++ R17) Φ22 ∧ Br (!c20) (∀ (w23 : World) (R24 : List Own), Ctx W w23 (R21 ++ R24) Φ22 → J (Value.bool c4) w23) (Br (decide (bucket < 0)) (∀ (w25 : World) (R26 : List
  Own), Ctx W w25 (R21 ++ R26) Φ22 → J (Value.bool c4) w25) (Br (decide (16 ≤ bucket)) (∀ (w27 : World) (R28 : List Own), Ctx W w27 (R21 ++ R28) Φ22 → J (Value.bool c4) w27) (Br (decide (40 <
  (↑lN : Int))) (∀ (w29 : World) (R30 : List Own), Ctx W w29 (R21 ++ R30) Φ22 → J (Value.bool c4) w29) (∀ (w31 : World) (R32 : List Own), Ctx W w31 (R21 ++ R32) Φ22 → Calls Tryd.prog
  F.errataref28_Right #[Value.slice lP lN lC] w31 fun (e33 : Ending) (w34 : World) => ∃ (c35 : Bool), e33 = Ending.returned (Value.bool c35) ∧ ∃ (R36 : List Own), ∃ (Φ37 : PW), Stable Φ37 ∧
  Ctx W w34 (R36 ++ R32) Φ37 ∧ Br (!c35) (∀ (w38 : World) (R39 : List Own), Ctx W w38 (R36 ++ R39) Φ37 → J (Value.bool c4) w38) (∀ (w40 : World) (R41 : List Own), Ctx W w40 (R36 ++ R41) Φ37 →
  Calls Tryd.prog F.place_Route #[Value.slice nodesP nodesN nodesC, Value.slice pP pN pC, Value.int IntKind.i64 node, Value.int IntKind.i64 bucket, Value.slice lP lN lC] w40 fun (e42 :
  Ending) (w43 : World) => ∃ (p44 : Option Addr), ∃ (k45 : Nat), ∃ (k46 : Nat), e42 = Ending.returned (Value.slice p44 k45 k46) ∧ ∃ (R47 : List Own), ∃ (Φ48 : PW), Stable Φ48 ∧ Ctx W w43 (R47
  ++ R41) Φ48 ∧ exI fun (I49 : Int → List Own → PW → Nat → Prop) => (∃ (R50 : List Own), ∃ (Φ51 : PW), ∃ (k52 : Nat), Stable Φ51 ∧ (∀ (w53 : World) (R54 : List Own), Ctx W w53 (R47 ++ R54)
  Φ48 → Ctx W w53 (R50 ++ R54) Φ51) ∧ I49 0 R50 Φ51 k52) ∧ ∀ (n55 : Int) (R56 : List Own) (I57 : List Nat → World → Prop) (k58 : Nat), Stable I57 → I49 n55 R56 I57 k58 → Br (decide (n55 <
  (↑nodesN : Int))) (exI fun (I59 : Int → List Own → PW → Nat → Prop) => (∃ (R60 : List Own), ∃ (Φ61 : PW), ∃ (k62 : Nat), Stable Φ61 ∧ (∀ (w63 : World) (R64 : List Own), Ctx W w63 (R56 ++
  R64) I57 → Ctx W w63 (R60 ++ R64) Φ61) ∧ I59 0 R60 Φ61 k62) ∧ ∀ (n65 : Int) (R66 : List Own) (I67 : List Nat → World → Prop) (k68 : Nat), Stable I67 → I59 n65 R66 I67 k68 → (0 ≤ n55 ∧ n55 <
  (↑nodesN : Int)) ∧ ptrK none nodesP fun (k69 k70 : Nat) => ∀ (w71 : World) (R72 : List Own), Ctx W w71 (R66 ++ R72) I67 → ∃ (p73 : Option Addr), ∃ (k74 : Nat), ∃ (k75 : Nat), w71.cell?
  (Addr.mk k69 (k70 + n55.toNat * 16 + 1) none) = some (Value.slice p73 k74 k75) ∧ Br (decide (n65 < (↑k74 : Int))) (exI fun (I76 : Option Addr → Nat → Nat → Int → List Own → PW → Nat → Prop)
  => (∃ (R77 : List Own), ∃ (Φ78 : PW), ∃ (k79 : Nat), Stable Φ78 ∧ (∀ (w80 : World) (R81 : List Own), Ctx W w80 (R66 ++ R81) I67 → Ctx W w80 (R77 ++ R81) Φ78) ∧ I76 none 0 0 0 R77 Φ78 k79) ∧
  ∀ (p82 : Option Addr) (k83 k84 : Nat) (n85 : Int) (R86 : List Own) (I87 : List Nat → World → Prop) (k88 : Nat), Stable I87 → I76 p82 k83 k84 n85 R86 I87 k88 → Br (decide (n85 < 16)) (exI
  fun (I89 : Option Addr → Nat → Nat → Int → List Own → PW → Nat → Prop) => (∃ (R90 : List Own), ∃ (Φ91 : PW), ∃ (k92 : Nat), Stable Φ91 ∧ (∀ (w93 : World) (R94 : List Own), Ctx W w93 (R86 ++
  R94) I87 → Ctx W w93 (R90 ++ R94) Φ91) ∧ I89 none 0 0 0 R90 Φ91 k92) ∧ ∀ (p95 : Option Addr) (k96 k97 : Nat) (n98 : Int) (R99 : List Own) (I100 : List Nat → World → Prop) (k101 : Nat),
  Stable I100 → I89 p95 k96 k97 n98 R99 I100 k101 → Br (decide (n98 < (↑k45 : Int))) ((0 ≤ n98 ∧ n98 < (↑k45 : Int)) ∧ ptrK none p44 fun (k102 k103 : Nat) => ∀ (w104 : World) (R105 : List
  Own), Ctx W w104 (R99 ++ R105) I100 → ∃ (n106 : Int), ∃ (n107 : Int), ∃ (n108 : Int), ∃ (n109 : Int), ∃ (n110 : Int), ∃ (p111 : Option Addr), ∃ (k112 : Nat), ∃ (k113 : Nat), RowAt w104 k102
  (k103 + n98.toNat * 7 + 1) [Value.int IntKind.i64 n106, Value.int IntKind.i64 n107, Value.int IntKind.i64 n108, Value.int IntKind.i64 n109, Value.int IntKind.i64 n110, Value.slice p111 k112
  k113] ∧ ∀ (b : Nat) (w114 : World) (R115 : List Own), Ctx W w114 (R99 ++ R115) I100 → Br (decide (n107 = n55) && decide (n108 = n65) && decide (n109 = n85)) (∀ (w116 : World) (R117 : List
  Own), Ctx W w116 (R99 ++ R117) I100 → ∃ (p118 : Option Addr), ∃ (k119 : Nat), ∃ (k120 : Nat), ∃ (w121 : World), Sem.run Tryd.prog (builtin Builtin.append #[55, 55] 55 #[false, false]
  #[Value.slice p95 k96 k97, Value.slice p111 k112 k113]) w116 = Result.ok (Next.value (Value.slice p118 k119 k120)) w121 ∧ ∃ (R122 : List Own), ∃ (Φ123 : PW), Stable Φ123 ∧ Ctx W w121 (R122
  ++ R117) Φ123 ∧ I64 (n98 + 1) ∧ ∃ (R124 : List Own), ∃ (Φ125 : PW), ∃ (k126 : Nat), Stable Φ125 ∧ (∀ (w127 : World) (R128 : List Own), Ctx W w127 (R122 ++ R128) Φ123 → Ctx W w127 (R124 ++
  R128) Φ125) ∧ I89 p118 k119 k120 (n98 + 1) R124 Φ125 k126 ∧ k126 < k101) (I64 (n98 + 1) ∧ ∃ (R129 : List Own), ∃ (Φ130 : PW), ∃ (k131 : Nat), Stable Φ130 ∧ (∀ (w132 : World) (R133 : List
  Own), Ctx W w132 (R99 ++ R133) I100 → Ctx W w132 (R129 ++ R133) Φ130) ∧ I89 p95 k96 k97 (n98 + 1) R129 Φ130 k131 ∧ k131 < k101)) (exI fun (I134 : Option Addr → Nat → Nat → Int → List Own →
  PW → Nat → Prop) => (∃ (R135 : List Own), ∃ (Φ136 : PW), ∃ (k137 : Nat), Stable Φ136 ∧ (∀ (w138 : World) (R139 : List Own), Ctx W w138 (R99 ++ R139) I100 → Ctx W w138 (R135 ++ R139) Φ136) ∧
  I134 none 0 0 0 R135 Φ136 k137) ∧ ∀ (p140 : Option Addr) (k141 k142 : Nat) (n143 : Int) (R144 : List Own) (I145 : List Nat → World → Prop) (k146 : Nat), Stable I145 → I134 p140 k141 k142
  n143 R144 I145 k146 → ∀ (w147 : World) (R148 : List Own), Ctx W w147 (R144 ++ R148) I145 → (decide (n143 < (↑lN : Int)) = true → 0 ≤ n55 ∧ n55 < (↑nodesN : Int)) ∧ ptrK (some (decide (n143
  < (↑lN : Int)))) nodesP fun (k149 k150 : Nat) => ∃ (p151 : Option Addr), ∃ (k152 : Nat), ∃ (k153 : Nat), (decide (n143 < (↑lN : Int)) = true → w147.cell? (Addr.mk k149 (k150 + n55.toNat *
  16 + 1) none) = some (Value.slice p151 k152 k153)) ∧ (decide (n143 < (↑lN : Int)) = true → 0 ≤ n65 ∧ n65 < (↑k152 : Int)) ∧ ptrK (some (decide (n143 < (↑lN : Int)))) p151 fun (k154 k155 :
  Nat) => ∃ (n156 : Int), (decide (n143 < (↑lN : Int)) = true → w147.cell? (Addr.mk k154 (k155 + n65.toNat) none) = some (Value.int IntKind.i64 n156)) ∧ Br (decide (n143 < (↑lN : Int)) &&
  decide (n156 = node)) (∃ (R157 : List Own), ∃ (Φ158 : PW), Stable Φ158 ∧ (∀ (w159 : World) (R160 : List Own), Ctx W w159 (R144 ++ R160) I145 → Ctx W w159 (R157 ++ R160) Φ158) ∧ (0 ≤ n55 ∧
  n55 < (↑nodesN : Int)) ∧ ptrK none nodesP fun (k161 k162 : Nat) => (0 ≤ n143 ∧ n143 < (↑lN : Int)) ∧ ptrK none lP fun (k163 k164 : Nat) => ∃ (n165 : Int), ∃ (p166 : Option Addr), ∃ (k167 :
  Nat), ∃ (k168 : Nat), ∃ (s169 : ByteArray), ∃ (n170 : Int), ∃ (p171 : Option Addr), ∃ (k172 : Nat), ∃ (k173 : Nat), ∃ (n174 : Int), ∃ (n175 : Int), ∃ (n176 : Int), ∃ (p177 : Option Addr), ∃
  (k178 : Nat), ∃ (k179 : Nat), ∃ (p180 : Option Addr), ∃ (k181 : Nat), ∃ (k182 : Nat), ∃ (n183 : Int), ∃ (n184 : Int), ∃ (n185 : Int), ∃ (p186 : Option Addr), ∃ (k187 : Nat), ∃ (k188 : Nat),
  ∃ (p189 : Option Addr), ∃ (k190 : Nat), ∃ (k191 : Nat), ∃ (p192 : Option Addr), ∃ (k193 : Nat), ∃ (k194 : Nat), (∀ (w195 : World) (R196 : List Own), Ctx W w195 (R157 ++ R196) Φ158 → ∃ (n197
  : Int), ∃ (p198 : Option Addr), ∃ (k199 : Nat), ∃ (k200 : Nat), ∃ (s201 : ByteArray), ∃ (n202 : Int), ∃ (p203 : Option Addr), ∃ (k204 : Nat), ∃ (k205 : Nat), ∃ (n206 : Int), ∃ (n207 : Int),
  ∃ (n208 : Int), ∃ (p209 : Option Addr), ∃ (k210 : Nat), ∃ (k211 : Nat), ∃ (p212 : Option Addr), ∃ (k213 : Nat), ∃ (k214 : Nat), ∃ (n215 : Int), ∃ (n216 : Int), ∃ (n217 : Int), ∃ (p218 :
  Option Addr), ∃ (k219 : Nat), ∃ (k220 : Nat), ∃ (p221 : Option Addr), ∃ (k222 : Nat), ∃ (k223 : Nat), ∃ (p224 : Option Addr), ∃ (k225 : Nat), ∃ (k226 : Nat), RowAt w195 k161 (k162 +
  n55.toNat * 16) [Value.int IntKind.i64 n197, Value.slice p198 k199 k200, Value.string s201, Value.int IntKind.i64 n202, Value.slice p203 k204 k205, Value.int IntKind.i64 n206, Value.int
  IntKind.i64 n207, Value.int IntKind.i64 n208, Value.slice p209 k210 k211, Value.slice p212 k213 k214, Value.int IntKind.i64 n215, Value.int IntKind.i64 n216, Value.int IntKind.i64 n217,
  Value.slice p218 k219 k220, Value.slice p221 k222 k223, Value.slice p224 k225 k226] ∧ Value.agg #[Value.int IntKind.i64 n197, Value.slice p198 k199 k200, Value.string s201, Value.int
  IntKind.i64 n202, Value.slice p203 k204 k205, Value.int IntKind.i64 n206, Value.int IntKind.i64 n207, Value.int IntKind.i64 n208, Value.slice p209 k210 k211, Value.slice p212 k213 k214,
  Value.int IntKind.i64 n215, Value.int IntKind.i64 n216, Value.int IntKind.i64 n217, Value.slice p218 k219 k220, Value.slice p221 k222 k223, Value.slice p224 k225 k226] = Value.agg
  #[Value.int IntKind.i64 n165, Value.slice p166 k167 k168, Value.string s169, Value.int IntKind.i64 n170, Value.slice p171 k172 k173, Value.int IntKind.i64 n174, Value.int IntKind.i64 n175,
  Value.int IntKind.i64 n176, Value.slice p177 k178 k179, Value.slice p180 k181 k182, Value.int IntKind.i64 n183, Value.int IntKind.i64 n184, Value.int IntKind.i64 n185, Value.slice p186 k187
  k188, Value.slice p189 k190 k191, Value.slice p192 k193 k194]) ∧ ∃ (p227 : Option Addr), ∃ (k228 : Nat), ∃ (k229 : Nat), (∀ (w230 : World) (R231 : List Own), Ctx W w230 (R157 ++ R231) Φ158
  → ∃ (p232 : Option Addr), ∃ (k233 : Nat), ∃ (k234 : Nat), w230.cell? (Addr.mk k163 (k164 + n143.toNat * 3 + 1) none) = some (Value.slice p232 k233 k234) ∧ Value.slice p232 k233 k234 =
  Value.slice p227 k228 k229) ∧ ∀ (w235 : World) (R236 : List Own), Ctx W w235 (R144 ++ R236) I145 → Calls Tryd.prog F.place_Need #[Value.agg #[Value.int IntKind.i64 n165, Value.slice p166
  k167 k168, Value.string s169, Value.int IntKind.i64 n170, Value.slice p171 k172 k173, Value.int IntKind.i64 n174, Value.int IntKind.i64 n175, Value.int IntKind.i64 n176, Value.slice p177
  k178 k179, Value.slice p180 k181 k182, Value.int IntKind.i64 n183, Value.int IntKind.i64 n184, Value.int IntKind.i64 n185, Value.slice p186 k187 k188, Value.slice p189 k190 k191,
  Value.slice p192 k193 k194], Value.int IntKind.i64 n65, Value.int IntKind.i64 bucket, Value.slice p227 k228 k229] w235 fun (e237 : Ending) (w238 : World) => ∃ (n239 : Int), e237 =
  Ending.returned (Value.int IntKind.i64 n239) ∧ ∃ (R240 : List Own), ∃ (Φ241 : PW), Stable Φ241 ∧ Ctx W w238 (R240 ++ R236) Φ241 ∧ (∀ (w242 : World) (R243 : List Own), Ctx W w242 (R240 ++
  R243) Φ241 → Ctx W w242 (R157 ++ R243) Φ158) ∧ Br (decide (n239 = n85)) ((0 ≤ n143 ∧ n143 < (↑lN : Int)) ∧ ptrK none lP fun (k244 k245 : Nat) => ∀ (w246 : World) (R247 : List Own), Ctx W
  w246 (R240 ++ R247) Φ241 → ∃ (n248 : Int), ∃ (p249 : Option Addr), ∃ (k250 : Nat), ∃ (k251 : Nat), ∃ (n252 : Int), RowAt w246 k244 (k245 + n143.toNat * 3) [Value.int IntKind.i64 n248,
  Value.slice p249 k250 k251, Value.int IntKind.i64 n252] ∧ ∀ (k253 : Nat) (w254 : World) (R255 : List Own), Ctx W w254 (Own.blk k253 [Value.int IntKind.i64 n248, Value.slice p249 k250 k251,
  Value.int IntKind.i64 n252] 77 :: R240 ++ R255) Φ241 → ∃ (p256 : Option Addr), ∃ (k257 : Nat), ∃ (k258 : Nat), ∃ (w259 : World), Sem.run Tryd.prog (builtin Builtin.append #[55, 55] 55
  #[false, false] #[Value.slice p140 k141 k142, Value.slice (some (Addr.mk k253 0 none)) 1 1]) w254 = Result.ok (Next.value (Value.slice p256 k257 k258)) w259 ∧ ∃ (R260 : List Own), ∃ (Φ261 :
  PW), Stable Φ261 ∧ Ctx W w259 (R260 ++ R255) Φ261 ∧ I64 (n143 + 1) ∧ ∃ (R262 : List Own), ∃ (Φ263 : PW), ∃ (k264 : Nat), Stable Φ263 ∧ (∀ (w265 : World) (R266 : List Own), Ctx W w265 (R260
  ++ R266) Φ261 → Ctx W w265 (R262 ++ R266) Φ263) ∧ I134 p256 k257 k258 (n143 + 1) R262 Φ263 k264 ∧ k264 < k146) (I64 (n143 + 1) ∧ ∃ (R267 : List Own), ∃ (Φ268 : PW), ∃ (k269 : Nat), Stable
  Φ268 ∧ (∀ (w270 : World) (R271 : List Own), Ctx W w270 (R240 ++ R271) Φ241 → Ctx W w270 (R267 ++ R271) Φ268) ∧ I134 p140 k141 k142 (n143 + 1) R267 Φ268 k269 ∧ k269 < k146)) (∀ (w272 :
  World) (R273 : List Own), Ctx W w272 (R144 ++ R273) I145 → Calls Tryd.prog F.errataref28_Equal #[Value.slice p95 k96 k97, Value.slice p140 k141 k142] w272 fun (e274 : Ending) (w275 : World)
  => ∃ (c276 : Bool), e274 = Ending.returned (Value.bool c276) ∧ ∃ (R277 : List Own), ∃ (Φ278 : PW), Stable Φ278 ∧ Ctx W w275 (R277 ++ R273) Φ278 ∧ Br (!c276) (∀ (w279 : World) (R280 : List
  Own), Ctx W w279 (R277 ++ R280) Φ278 → J (Value.bool false) w279) (∀ (w281 : World) (R282 : List Own), Ctx W w281 (R277 ++ R282) Φ278 → ∃ (p283 : Option Addr), ∃ (k284 : Nat), ∃ (k285 :
  Nat), ∃ (w286 : World), Sem.run Tryd.prog (builtin Builtin.append #[55, 55] 55 #[false, false] #[Value.slice p82 k83 k84, Value.slice p95 k96 k97]) w281 = Result.ok (Next.value (Value.slice
  p283 k284 k285)) w286 ∧ ∃ (R287 : List Own), ∃ (Φ288 : PW), Stable Φ288 ∧ Ctx W w286 (R287 ++ R282) Φ288 ∧ I64 (n85 + 1) ∧ ∃ (R289 : List Own), ∃ (Φ290 : PW), ∃ (k291 : Nat), Stable Φ290 ∧
  (∀ (w292 : World) (R293 : List Own), Ctx W w292 (R287 ++ R293) Φ288 → Ctx W w292 (R289 ++ R293) Φ290) ∧ I76 p283 k284 k285 (n85 + 1) R289 Φ290 k291 ∧ k291 < k88)))) ((0 ≤ n55 ∧ n55 <
  (↑nodesN : Int)) ∧ ptrK none nodesP fun (k294 k295 : Nat) => ∀ (w296 : World) (R297 : List Own), Ctx W w296 (R86 ++ R297) I87 → ∃ (p298 : Option Addr), ∃ (k299 : Nat), ∃ (k300 : Nat),
  w296.cell? (Addr.mk k294 (k295 + n55.toNat * 16 + 1) none) = some (Value.slice p298 k299 k300) ∧ (0 ≤ n65 ∧ n65 < (↑k299 : Int)) ∧ ptrK none p298 fun (k301 k302 : Nat) => ∀ (w303 : World)
  (R304 : List Own), Ctx W w303 (R86 ++ R304) I87 → ∃ (n305 : Int), w303.cell? (Addr.mk k301 (k302 + n65.toNat) none) = some (Value.int IntKind.i64 n305) ∧ Br (decide (n305 = node)) (∀ (w306
  : World) (R307 : List Own), Ctx W w306 (R86 ++ R307) I87 → Calls Tryd.prog F.delta_Same #[Value.slice p82 k83 k84, Value.slice lP lN lC] w306 fun (e308 : Ending) (w309 : World) => ∃ (c310 :
  Bool), e308 = Ending.returned (Value.bool c310) ∧ ∃ (R311 : List Own), ∃ (Φ312 : PW), Stable Φ312 ∧ Ctx W w309 (R311 ++ R307) Φ312 ∧ Br (!c310) (∀ (w313 : World) (R314 : List Own), Ctx W
  w313 (R311 ++ R314) Φ312 → J (Value.bool false) w313) (I64 (n65 + 1) ∧ ∃ (R315 : List Own), ∃ (Φ316 : PW), ∃ (k317 : Nat), Stable Φ316 ∧ (∀ (w318 : World) (R319 : List Own), Ctx W w318
  (R311 ++ R319) Φ312 → Ctx W w318 (R315 ++ R319) Φ316) ∧ I59 (n65 + 1) R315 Φ316 k317 ∧ k317 < k68)) (I64 (n65 + 1) ∧ ∃ (R320 : List Own), ∃ (Φ321 : PW), ∃ (k322 : Nat), Stable Φ321 ∧ (∀
  (w323 : World) (R324 : List Own), Ctx W w323 (R86 ++ R324) I87 → Ctx W w323 (R320 ++ R324) Φ321) ∧ I59 (n65 + 1) R320 Φ321 k322 ∧ k322 < k68))) (I64 (n55 + 1) ∧ ∃ (R325 : List Own), ∃ (Φ326
  : PW), ∃ (k327 : Nat), Stable Φ326 ∧ (∀ (w328 : World) (R329 : List Own), Ctx W w328 (R66 ++ R329) I67 → Ctx W w328 (R325 ++ R329) Φ326) ∧ I49 (n55 + 1) R325 Φ326 k327 ∧ k327 < k58)) (exI
  fun (I330 : Int → List Own → PW → Nat → Prop) => (∃ (R331 : List Own), ∃ (Φ332 : PW), ∃ (k333 : Nat), Stable Φ332 ∧ (∀ (w334 : World) (R335 : List Own), Ctx W w334 (R56 ++ R335) I57 → Ctx W
  w334 (R331 ++ R335) Φ332) ∧ I330 0 R331 Φ332 k333) ∧ ∀ (n336 : Int) (R337 : List Own) (I338 : List Nat → World → Prop) (k339 : Nat), Stable I338 → I330 n336 R337 I338 k339 → Br (decide
  (n336 < (↑k45 : Int))) ((0 ≤ n336 ∧ n336 < (↑k45 : Int)) ∧ ptrK none p44 fun (k340 k341 : Nat) => ∀ (w342 : World) (R343 : List Own), Ctx W w342 (R337 ++ R343) I338 → ∃ (n344 : Int), ∃
  (n345 : Int), ∃ (n346 : Int), ∃ (n347 : Int), ∃ (n348 : Int), ∃ (p349 : Option Addr), ∃ (k350 : Nat), ∃ (k351 : Nat), RowAt w342 k340 (k341 + n336.toNat * 7 + 1) [Value.int IntKind.i64
  n344, Value.int IntKind.i64 n345, Value.int IntKind.i64 n346, Value.int IntKind.i64 n347, Value.int IntKind.i64 n348, Value.slice p349 k350 k351] ∧ ∀ (b : Nat) (w352 : World) (R353 : List
  Own), Ctx W w352 (R337 ++ R353) I338 → Br (decide (n344 ≠ 0) || decide (n347 < 0) || decide (16 ≤ n347) || decide ((↑k350 : Int) < 1) || decide (8 < (↑k350 : Int)) || decide (n345 < 0) ||
  decide ((↑nodesN : Int) ≤ n345)) (∀ (w354 : World) (R355 : List Own), Ctx W w354 (R337 ++ R355) I338 → J (Value.bool false) w354) (∀ (w356 : World) (R357 : List Own), Ctx W w356 (R337 ++
  R357) I338 → (0 ≤ n336 ∧ n336 < (↑k45 : Int)) ∧ ptrK none p44 fun (k358 k359 : Nat) => ∃ (n360 : Int), w356.cell? (Addr.mk k358 (k359 + n336.toNat * 7) none) = some (Value.int IntKind.i64
  n360) ∧ (0 ≤ n347 ∧ n347 < (↑pN : Int)) ∧ ptrK none pP fun (k361 k362 : Nat) => ∃ (n363 : Int), w356.cell? (Addr.mk k361 (k362 + n347.toNat) none) = some (Value.int IntKind.i64 n363) ∧
  ((!(decide (n360 ≠ n363) || decide (n346 < 0))) = true → 0 ≤ n345 ∧ n345 < (↑nodesN : Int)) ∧ ptrK (some !(decide (n360 ≠ n363) || decide (n346 < 0))) nodesP fun (k364 k365 : Nat) => ∃
  (p366 : Option Addr), ∃ (k367 : Nat), ∃ (k368 : Nat), ((!(decide (n360 ≠ n363) || decide (n346 < 0))) = true → w356.cell? (Addr.mk k364 (k365 + n345.toNat * 16 + 1) none) = some
  (Value.slice p366 k367 k368)) ∧ Br (decide (n360 ≠ n363) || decide (n346 < 0) || decide ((↑k367 : Int) ≤ n346)) (∀ (w369 : World) (R370 : List Own), Ctx W w369 (R337 ++ R370) I338 → J
  (Value.bool false) w369) (∀ (w371 : World) (R372 : List Own), Ctx W w371 (R337 ++ R372) I338 → (0 ≤ n345 ∧ n345 < (↑nodesN : Int)) ∧ ptrK none nodesP fun (k373 k374 : Nat) => ∃ (p375 :
  Option Addr), ∃ (k376 : Nat), ∃ (k377 : Nat), w371.cell? (Addr.mk k373 (k374 + n345.toNat * 16 + 1) none) = some (Value.slice p375 k376 k377) ∧ (0 ≤ n346 ∧ n346 < (↑k376 : Int)) ∧ ptrK none
  p375 fun (k378 k379 : Nat) => ∃ (n380 : Int), w371.cell? (Addr.mk k378 (k379 + n346.toNat) none) = some (Value.int IntKind.i64 n380) ∧ Br (decide (n380 ≠ node)) (∀ (w381 : World) (R382 :
  List Own), Ctx W w381 (R337 ++ R382) I338 → J (Value.bool false) w381) (I64 (n336 + 1) ∧ ∃ (R383 : List Own), ∃ (Φ384 : PW), ∃ (k385 : Nat), Stable Φ384 ∧ (∀ (w386 : World) (R387 : List
  Own), Ctx W w386 (R337 ++ R387) I338 → Ctx W w386 (R383 ++ R387) Φ384) ∧ I330 (n336 + 1) R383 Φ384 k385 ∧ k385 < k339)))) (∀ (w388 : World) (R389 : List Own), Ctx W w388 (R337 ++ R389) I338
  → J (Value.bool c4) w388))))))))

theorem Berratalaw37_PlaceRoutes_run (nodesP : Option Addr) (nodesN nodesC : Nat) (pP : Option Addr) (pN pC : Nat) (node : Int) (bucket : Int) (lP : Option Addr) (lN lC : Nat) {W w : World} {R : List Own} {Φ : PW} [Stable Φ] {J : Value → World → Prop} (c : Ctx W w R Φ) (h : Berratalaw37_PlaceRoutes nodesP nodesN nodesC pP pN pC node bucket lP lN lC W R Φ J) : Calls Tryd.prog F.erratalaw37_PlaceRoutes #[.slice nodesP nodesN nodesC, .slice pP pN pC, .int .i64 node, .int .i64 bucket, .slice lP lN lC] w fun e w' => ∃ v, e = .returned v ∧ J v w' :=
  vcFS_sound (H := { keep := some [0, 1, 2, 3, 4, 10, 11, 12, 13, 14, 15, 16, 17, 18, 19, 20, 21, 22, 23, 50, 61, 71, 75, 81, 104, 124, 140, 151, 170, 174, 218, 246, 258], track := [19, 23], stages := [(26, [.held [(0, true), (1, true), (4, true), (5, true), (6, true), (7, true), (12, true), (2, true), (8, true), (3, true), (9, true), (10, true), (11, false)], .stage [13] none])], split := [2, 31], loops := [(34, [(22, .one (.int .i64))], []), (24, [(20, .one (.slice)), (21, .one (.int .i64))], []), (17, [(17, .one (.slice)), (18, .one (.int .i64))], []), (13, [(15, .one (.slice)), (16, .one (.int .i64))], []), (9, [(14, .one (.int .i64))], []), (6, [(13, .one (.int .i64))], [])] }) (by rw [show vcFS Tryd.prog W { keep := some [0, 1, 2, 3, 4, 10, 11, 12, 13, 14, 15, 16, 17, 18, 19, 20, 21, 22, 23, 50, 61, 71, 75, 81, 104, 124, 140, 151, 170, 174, 218, 246, 258], track := [19, 23], stages := [(26, [.held [(0, true), (1, true), (4, true), (5, true), (6, true), (7, true), (12, true), (2, true), (8, true), (3, true), (9, true), (10, true), (11, false)], .stage [13] none])], split := [2, 31], loops := [(34, [(22, .one (.int .i64))], []), (24, [(20, .one (.slice)), (21, .one (.int .i64))], []), (17, [(17, .one (.slice)), (18, .one (.int .i64))], []), (13, [(15, .one (.slice)), (16, .one (.int .i64))], []), (9, [(14, .one (.int .i64))], []), (6, [(13, .one (.int .i64))], [])] } F.erratalaw37_PlaceRoutes #[.slice nodesP nodesN nodesC, .slice pP pN pC, .int .i64 node, .int .i64 bucket, .slice lP lN lC] R Φ J = Berratalaw37_PlaceRoutes nodesP nodesN nodesC pP pN pC node bucket lP lN lC W R Φ J by kernel_rfl]; exact h) c

/-- erratalaw37.light -/
-- loop at region 2: 3 i; blocks 
def Berratalaw37_light (nodesP : Option Addr) (nodesN nodesC : Nat) (W : World) (R : List Own) (Φ : PW) (J : Value → World → Prop) : Prop :=
  exI fun (I0 : Int → List Own → PW → Nat → Prop) => (∃ (R1 : List Own), ∃ (Φ2 : PW), ∃ (k3 : Nat), Stable Φ2 ∧ (∀ (w4 : World) (R5 : List Own), Ctx W w4 (R ++ R5) Φ → Ctx W w4 (R1 ++ R5) Φ2)
  ∧ I0 0 R1 Φ2 k3) ∧ ∀ (n6 : Int) (R7 : List Own) (I8 : List Nat → World → Prop) (k9 : Nat), Stable I8 → I0 n6 R7 I8 k9 → Br (decide (n6 < (↑nodesN : Int))) (∀ (w10 : World) (R11 : List Own),
  Ctx W w10 (R7 ++ R11) I8 → (0 ≤ n6 ∧ n6 < (↑nodesN : Int)) ∧ ptrK none nodesP fun (k12 k13 : Nat) => ∃ (p14 : Option Addr), ∃ (k15 : Nat), ∃ (k16 : Nat), w10.cell? (Addr.mk k12 (k13 +
  n6.toNat * 16 + 1) none) = some (Value.slice p14 k15 k16) ∧ ((!decide (10 < (↑k15 : Int))) = true → 0 ≤ n6 ∧ n6 < (↑nodesN : Int)) ∧ ptrK (some !decide (10 < (↑k15 : Int))) nodesP fun (k17
  k18 : Nat) => ∃ (p19 : Option Addr), ∃ (k20 : Nat), ∃ (k21 : Nat), ((!decide (10 < (↑k15 : Int))) = true → w10.cell? (Addr.mk k17 (k18 + n6.toNat * 16 + 8) none) = some (Value.slice p19 k20
  k21)) ∧ ((!(decide (10 < (↑k15 : Int)) || decide (13 < (↑k20 : Int)))) = true → 0 ≤ n6 ∧ n6 < (↑nodesN : Int)) ∧ ptrK (some !(decide (10 < (↑k15 : Int)) || decide (13 < (↑k20 : Int))))
  nodesP fun (k22 k23 : Nat) => ∃ (p24 : Option Addr), ∃ (k25 : Nat), ∃ (k26 : Nat), ((!(decide (10 < (↑k15 : Int)) || decide (13 < (↑k20 : Int)))) = true → w10.cell? (Addr.mk k22 (k23 +
  n6.toNat * 16 + 9) none) = some (Value.slice p24 k25 k26)) ∧ Br (decide (10 < (↑k15 : Int)) || decide (13 < (↑k20 : Int)) || decide (13 < (↑k25 : Int))) (∀ (w27 : World) (R28 : List Own),
  Ctx W w27 (R7 ++ R28) I8 → J (Value.bool false) w27) (I64 (n6 + 1) ∧ ∃ (R29 : List Own), ∃ (Φ30 : PW), ∃ (k31 : Nat), Stable Φ30 ∧ (∀ (w32 : World) (R33 : List Own), Ctx W w32 (R7 ++ R33)
  I8 → Ctx W w32 (R29 ++ R33) Φ30) ∧ I0 (n6 + 1) R29 Φ30 k31 ∧ k31 < k9)) (∀ (w34 : World) (R35 : List Own), Ctx W w34 (R7 ++ R35) I8 → J (Value.bool (decide ((↑nodesN : Int) ≤ 20))) w34)

theorem Berratalaw37_light_run (nodesP : Option Addr) (nodesN nodesC : Nat) {W w : World} {R : List Own} {Φ : PW} [Stable Φ] {J : Value → World → Prop} (c : Ctx W w R Φ) (h : Berratalaw37_light nodesP nodesN nodesC W R Φ J) : Calls Tryd.prog F.erratalaw37_light #[.slice nodesP nodesN nodesC] w fun e w' => ∃ v, e = .returned v ∧ J v w' :=
  vcFS_sound (H := { keep := some [0, 2, 3, 7, 34], loops := [(2, [(3, .one (.int .i64))], [])] }) (by rw [show vcFS Tryd.prog W { keep := some [0, 2, 3, 7, 34], loops := [(2, [(3, .one (.int .i64))], [])] } F.erratalaw37_light #[.slice nodesP nodesN nodesC] R Φ J = Berratalaw37_light nodesP nodesN nodesC W R Φ J by kernel_rfl]; exact h) c

/-- errataref28.Right -/
-- loop at region 2: 3 i; blocks 
def Berrataref28_Right (lP : Option Addr) (lN lC : Nat) (W : World) (R : List Own) (Φ : PW) (J : Value → World → Prop) : Prop :=
  exI fun (I0 : Int → List Own → PW → Nat → Prop) => (∃ (R1 : List Own), ∃ (Φ2 : PW), ∃ (k3 : Nat), Stable Φ2 ∧ (∀ (w4 : World) (R5 : List Own), Ctx W w4 (R ++ R5) Φ → Ctx W w4 (R1 ++ R5) Φ2)
  ∧ I0 0 R1 Φ2 k3) ∧ ∀ (n6 : Int) (R7 : List Own) (I8 : List Nat → World → Prop) (k9 : Nat), Stable I8 → I0 n6 R7 I8 k9 → Br (decide (n6 < (↑lN : Int))) ((0 ≤ n6 ∧ n6 < (↑lN : Int)) ∧ ptrK
  none lP fun (k10 k11 : Nat) => ∀ (w12 : World) (R13 : List Own), Ctx W w12 (R7 ++ R13) I8 → ∃ (p14 : Option Addr), ∃ (k15 : Nat), ∃ (k16 : Nat), w12.cell? (Addr.mk k10 (k11 + n6.toNat * 3 +
  1) none) = some (Value.slice p14 k15 k16) ∧ ∀ (w17 : World) (R18 : List Own), Ctx W w17 (R7 ++ R18) I8 → Calls Tryd.prog F.errataref03_RightRow #[Value.slice p14 k15 k16] w17 fun (e19 :
  Ending) (w20 : World) => ∃ (c21 : Bool), e19 = Ending.returned (Value.bool c21) ∧ ∃ (R22 : List Own), ∃ (Φ23 : PW), Stable Φ23 ∧ Ctx W w20 (R22 ++ R18) Φ23 ∧ Br (!c21) (∀ (w24 : World) (R25
  : List Own), Ctx W w24 (R22 ++ R25) Φ23 → J (Value.bool false) w24) (I64 (n6 + 1) ∧ ∃ (R26 : List Own), ∃ (Φ27 : PW), ∃ (k28 : Nat), Stable Φ27 ∧ (∀ (w29 : World) (R30 : List Own), Ctx W
  w29 (R22 ++ R30) Φ23 → Ctx W w29 (R26 ++ R30) Φ27) ∧ I0 (n6 + 1) R26 Φ27 k28 ∧ k28 < k9)) (∀ (w31 : World) (R32 : List Own), Ctx W w31 (R7 ++ R32) I8 → J (Value.bool true) w31)

theorem Berrataref28_Right_run (lP : Option Addr) (lN lC : Nat) {W w : World} {R : List Own} {Φ : PW} [Stable Φ] {J : Value → World → Prop} (c : Ctx W w R Φ) (h : Berrataref28_Right lP lN lC W R Φ J) : Calls Tryd.prog F.errataref28_Right #[.slice lP lN lC] w fun e w' => ∃ v, e = .returned v ∧ J v w' :=
  vcFS_sound (H := { keep := some [0, 2, 3, 7, 16], loops := [(2, [(3, .one (.int .i64))], [])] }) (by rw [show vcFS Tryd.prog W { keep := some [0, 2, 3, 7, 16], loops := [(2, [(3, .one (.int .i64))], [])] } F.errataref28_Right #[.slice lP lN lC] R Φ J = Berrataref28_Right lP lN lC W R Φ J by kernel_rfl]; exact h) c

/-- place.Route -/
-- loop at region 22: 72 ; blocks 11 out
-- loop at region 18: 65 ; blocks 11 out
-- loop at region 11: 42 ; blocks 
-- loop at region 6: 32 ; blocks 11 out
-- loop at region 3: 24 ; blocks 11 out
-- known blocks: 6 p, 11 out, 12 j, 13 n, 14 k, 18 d, 20 b
def Bplace_Route (nodesP : Option Addr) (nodesN nodesC : Nat) (pP : Option Addr) (pN pC : Nat) (node : Int) (bucket : Int) (lP : Option Addr) (lN lC : Nat) (W : World) (R : List Own) (Φ : PW) (J : Value → World → Prop) : Prop :=
  ∀ (b b : Nat), exI fun (I0 : Int → Option Addr → Nat → Nat → List Own → PW → Nat → Prop) => (∃ (R1 : List Own), ∃ (Φ2 : PW), ∃ (k3 : Nat), Stable Φ2 ∧ (∀ (w4 : World) (R5 : List Own), Ctx W
  w4 (R ++ R5) Φ → Ctx W w4 (R1 ++ R5) Φ2) ∧ I0 0 none 0 0 R1 Φ2 k3) ∧ ∀ (n6 : Int) (p7 : Option Addr) (k8 k9 : Nat) (R10 : List Own) (I11 : List Nat → World → Prop) (k12 : Nat), Stable I11 →
  I0 n6 p7 k8 k9 R10 I11 k12 → Br (decide (n6 < (↑nodesN : Int))) ((0 ≤ n6 ∧ n6 < (↑nodesN : Int)) ∧ ptrK none nodesP fun (k13 k14 : Nat) => ∀ (w15 : World) (R16 : List Own), Ctx W w15 (R10
  ++ R16) I11 → ∃ (n17 : Int), ∃ (p18 : Option Addr), ∃ (k19 : Nat), ∃ (k20 : Nat), ∃ (s21 : ByteArray), ∃ (n22 : Int), ∃ (p23 : Option Addr), ∃ (k24 : Nat), ∃ (k25 : Nat), ∃ (n26 : Int), ∃
  (n27 : Int), ∃ (n28 : Int), ∃ (p29 : Option Addr), ∃ (k30 : Nat), ∃ (k31 : Nat), ∃ (p32 : Option Addr), ∃ (k33 : Nat), ∃ (k34 : Nat), ∃ (n35 : Int), ∃ (n36 : Int), ∃ (n37 : Int), ∃ (p38 :
  Option Addr), ∃ (k39 : Nat), ∃ (k40 : Nat), ∃ (p41 : Option Addr), ∃ (k42 : Nat), ∃ (k43 : Nat), ∃ (p44 : Option Addr), ∃ (k45 : Nat), ∃ (k46 : Nat), RowAt w15 k13 (k14 + n6.toNat * 16)
  [Value.int IntKind.i64 n17, Value.slice p18 k19 k20, Value.string s21, Value.int IntKind.i64 n22, Value.slice p23 k24 k25, Value.int IntKind.i64 n26, Value.int IntKind.i64 n27, Value.int
  IntKind.i64 n28, Value.slice p29 k30 k31, Value.slice p32 k33 k34, Value.int IntKind.i64 n35, Value.int IntKind.i64 n36, Value.int IntKind.i64 n37, Value.slice p38 k39 k40, Value.slice p41
  k42 k43, Value.slice p44 k45 k46] ∧ ∀ (b b : Nat), exI fun (I47 : Int → Option Addr → Nat → Nat → List Own → PW → Nat → Prop) => (∃ (R48 : List Own), ∃ (Φ49 : PW), ∃ (k50 : Nat), Stable Φ49
  ∧ (∀ (w51 : World) (R52 : List Own), Ctx W w51 (R10 ++ R52) I11 → Ctx W w51 (R48 ++ R52) Φ49) ∧ I47 0 p7 k8 k9 R48 Φ49 k50) ∧ ∀ (n53 : Int) (p54 : Option Addr) (k55 k56 : Nat) (R57 : List
  Own) (I58 : List Nat → World → Prop) (k59 : Nat), Stable I58 → I47 n53 p54 k55 k56 R57 I58 k59 → Br (decide (n53 < (↑k19 : Int))) ((0 ≤ n53 ∧ n53 < (↑k19 : Int)) ∧ ptrK none p18 fun (k60
  k61 : Nat) => ∀ (w62 : World) (R63 : List Own), Ctx W w62 (R57 ++ R63) I58 → ∃ (n64 : Int), w62.cell? (Addr.mk k60 (k61 + n53.toNat) none) = some (Value.int IntKind.i64 n64) ∧ ∀ (b : Nat),
  Br (decide (n64 ≠ node)) (I64 (n53 + 1) ∧ ∃ (R65 : List Own), ∃ (Φ66 : PW), ∃ (k67 : Nat), Stable Φ66 ∧ (∀ (w68 : World) (R69 : List Own), Ctx W w68 (R57 ++ R69) I58 → Ctx W w68 (R65 ++
  R69) Φ66) ∧ I47 (n53 + 1) p54 k55 k56 R65 Φ66 k67 ∧ k67 < k59) (∀ (k70 : Nat), exI fun (I71 : Int → List Own → PW → Nat → Prop) => (∃ (R72 : List Own), ∃ (Φ73 : PW), ∃ (k74 : Nat), Stable
  Φ73 ∧ (∀ (w75 : World) (R76 : List Own), Ctx W w75 (Own.blk k70 [Value.slice none 0 0, Value.slice none 0 0, Value.slice none 0 0, Value.slice none 0 0, Value.slice none 0 0, Value.slice
  none 0 0, Value.slice none 0 0, Value.slice none 0 0, Value.slice none 0 0, Value.slice none 0 0, Value.slice none 0 0, Value.slice none 0 0, Value.slice none 0 0, Value.slice none 0 0,
  Value.slice none 0 0, Value.slice none 0 0] 127 :: R57 ++ R76) I58 → Ctx W w75 (R72 ++ R76) Φ73) ∧ I71 0 R72 Φ73 k74) ∧ ∀ (n77 : Int) (R78 : List Own) (I79 : List Nat → World → Prop) (k80 :
  Nat), Stable I79 → I71 n77 R78 I79 k80 → Br (decide (n77 < (↑lN : Int))) ((0 ≤ n77 ∧ n77 < (↑lN : Int)) ∧ ptrK none lP fun (k81 k82 : Nat) => ∀ (w83 : World) (R84 : List Own), Ctx W w83
  (R78 ++ R84) I79 → ∃ (n85 : Int), ∃ (p86 : Option Addr), ∃ (k87 : Nat), ∃ (k88 : Nat), ∃ (n89 : Int), RowAt w83 k81 (k82 + n77.toNat * 3) [Value.int IntKind.i64 n85, Value.slice p86 k87
  k88, Value.int IntKind.i64 n89] ∧ ∀ (b : Nat) (w90 : World) (R91 : List Own), Ctx W w90 (R78 ++ R91) I79 → Calls Tryd.prog F.place_Need #[Value.agg #[Value.int IntKind.i64 n17, Value.slice
  p18 k19 k20, Value.string s21, Value.int IntKind.i64 n22, Value.slice p23 k24 k25, Value.int IntKind.i64 n26, Value.int IntKind.i64 n27, Value.int IntKind.i64 n28, Value.slice p29 k30 k31,
  Value.slice p32 k33 k34, Value.int IntKind.i64 n35, Value.int IntKind.i64 n36, Value.int IntKind.i64 n37, Value.slice p38 k39 k40, Value.slice p41 k42 k43, Value.slice p44 k45 k46],
  Value.int IntKind.i64 n53, Value.int IntKind.i64 bucket, Value.slice p86 k87 k88] w90 fun (e92 : Ending) (w93 : World) => ∃ (n94 : Int), e92 = Ending.returned (Value.int IntKind.i64 n94) ∧
  ∃ (R95 : List Own), ∃ (Φ96 : PW), Stable Φ96 ∧ Ctx W w93 (R95 ++ R91) Φ96 ∧ ∀ (w97 : World) (R98 : List Own), Ctx W w97 (R95 ++ R98) Φ96 → Calls Tryd.prog F.slices_Clone_api_Value_api_Value
  #[Value.slice p86 k87 k88] w97 fun (e99 : Ending) (w100 : World) => ∃ (p101 : Option Addr), ∃ (k102 : Nat), ∃ (k103 : Nat), e99 = Ending.returned (Value.slice p101 k102 k103) ∧ ∃ (R104 :
  List Own), ∃ (Φ105 : PW), Stable Φ105 ∧ Ctx W w100 (R104 ++ R98) Φ105 ∧ ∃ (R106 : List Own), ∃ (Φ107 : PW), Stable Φ107 ∧ (∀ (w108 : World) (R109 : List Own), Ctx W w108 (R104 ++ R109) Φ105
  → Ctx W w108 (R106 ++ R109) Φ107) ∧ (0 ≤ n94 ∧ n94 < 16) ∧ ∃ (p110 : Option Addr), ∃ (k111 : Nat), ∃ (k112 : Nat), (∀ (w113 : World) (R114 : List Own), Ctx W w113 (R106 ++ R114) Φ107 → ∃
  (p115 : Option Addr), ∃ (k116 : Nat), ∃ (k117 : Nat), w113.cell? (Addr.mk k70 (0 + n94.toNat) none) = some (Value.slice p115 k116 k117) ∧ Value.slice p115 k116 k117 = Value.slice p110 k111
  k112) ∧ ∀ (k118 : Nat), (∀ (w119 : World) (R120 : List Own), Ctx W w119 (Own.blk k118 [Value.int IntKind.i64 n85, Value.slice p101 k102 k103, Value.int IntKind.i64 n89] 77 :: R104 ++ R120)
  Φ105 → Ctx W w119 (R106 ++ R120) Φ107) ∧ ∀ (w121 : World) (R122 : List Own), Ctx W w121 (Own.blk k118 [Value.int IntKind.i64 n85, Value.slice p101 k102 k103, Value.int IntKind.i64 n89] 77
  :: R104 ++ R122) Φ105 → ∃ (p123 : Option Addr), ∃ (k124 : Nat), ∃ (k125 : Nat), ∃ (w126 : World), Sem.run Tryd.prog (builtin Builtin.append #[55, 55] 55 #[false, false] #[Value.slice p110
  k111 k112, Value.slice (some (Addr.mk k118 0 none)) 1 1]) w121 = Result.ok (Next.value (Value.slice p123 k124 k125)) w126 ∧ ∃ (R127 : List Own), ∃ (Φ128 : PW), Stable Φ128 ∧ Ctx W w126
  (R127 ++ R122) Φ128 ∧ (∀ (w129 : World) (R130 : List Own), Ctx W w129 (R127 ++ R130) Φ128 → Ctx W w129 (R106 ++ R130) Φ107) ∧ (0 ≤ n94 ∧ n94 < 16) ∧ ∀ (w131 : World) (R132 : List Own), Ctx
  W w131 (R127 ++ R132) Φ128 → CanWrite w131 k70 (0 + n94.toNat) 1 ∧ ∀ (w133 : World), w133 = w131.setCell (Addr.mk k70 (0 + n94.toNat) none) (Value.slice p123 k124 k125) → ∃ (R134 : List
  Own), ∃ (Φ135 : PW), Stable Φ135 ∧ Ctx W w133 (R134 ++ R132) Φ135 ∧ I64 (n77 + 1) ∧ ∃ (R136 : List Own), ∃ (Φ137 : PW), ∃ (k138 : Nat), Stable Φ137 ∧ (∀ (w139 : World) (R140 : List Own),
  Ctx W w139 (R134 ++ R140) Φ135 → Ctx W w139 (R136 ++ R140) Φ137) ∧ I71 (n77 + 1) R136 Φ137 k138 ∧ k138 < k80) (exI fun (I141 : Int → Option Addr → Nat → Nat → List Own → PW → Nat → Prop) =>
  (∃ (R142 : List Own), ∃ (Φ143 : PW), ∃ (k144 : Nat), Stable Φ143 ∧ (∀ (w145 : World) (R146 : List Own), Ctx W w145 (R78 ++ R146) I79 → Ctx W w145 (R142 ++ R146) Φ143) ∧ I141 0 p54 k55 k56
  R142 Φ143 k144) ∧ ∀ (n147 : Int) (p148 : Option Addr) (k149 k150 : Nat) (R151 : List Own) (I152 : List Nat → World → Prop) (k153 : Nat), Stable I152 → I141 n147 p148 k149 k150 R151 I152
  k153 → Br (decide (n147 < 16)) (∀ (b : Nat), (0 ≤ n147 ∧ n147 < 16) ∧ ∀ (w154 : World) (R155 : List Own), Ctx W w154 (R151 ++ R155) I152 → ∃ (p156 : Option Addr), ∃ (k157 : Nat), ∃ (k158 :
  Nat), w154.cell? (Addr.mk k70 (0 + n147.toNat) none) = some (Value.slice p156 k157 k158) ∧ ∀ (w159 : World) (R160 : List Own), Ctx W w159 (R151 ++ R160) I152 → Calls Tryd.prog
  F.place_batches #[Value.slice p156 k157 k158] w159 fun (e161 : Ending) (w162 : World) => ∃ (u163 : FuncId), ∃ (u164 : Array Value), ∃ (u165 : Array Value), e161 = Ending.returned
  (Value.func (Fn.func u163) u164 u165) ∧ ∃ (R166 : List Own), ∃ (Φ167 : PW), Stable Φ167 ∧ Ctx W w162 (R166 ++ R160) Φ167 ∧ u164 = #[] ∧ okFun Tryd.prog u163 = true ∧ ∃ (k168 : Nat), exI fun
  (I169 : Nat → List Value) => exI fun (I170 : World → Prop) => exI fun (I171 : Option Addr → Nat → Nat → Nat → Prop) => exI fun (I172 : Option Addr → Nat → Nat → List Own → PW → Nat → Prop)
  => Iter Tryd.prog u163 u165 k168 (fun (k173 : Nat) => (I169 k173).toArray) I170 ∧ FitsR [(72, Sh.one Sc.slice)] I171 I169 k168 ∧ (∃ (R174 : List Own), ∃ (Φ175 : PW), Stable Φ175 ∧ (∀ (w176
  : World) (R177 : List Own), Ctx W w176 (R166 ++ R177) Φ167 → Ctx W w176 (R174 ++ R177) Φ175) ∧ I172 p148 k149 k150 R174 Φ175 0) ∧ ∀ (p178 : Option Addr) (k179 k180 : Nat) (R181 : List Own)
  (I182 : List Nat → World → Prop) (k183 : Nat), Stable I182 → I172 p178 k179 k180 R181 I182 k183 → (∀ (w184 : World) (R185 : List Own), Ctx W w184 (R181 ++ R185) I182 → I170 w184) ∧ (k183 <
  k168 → ∀ (p186 : Option Addr) (k187 k188 : Nat), I171 p186 k187 k188 k183 → ∃ (R189 : List Own), ∃ (Φ190 : PW), Stable Φ190 ∧ (∀ (w191 : World) (R192 : List Own), Ctx W w191 (R181 ++ R192)
  I182 → Ctx W w191 (R189 ++ R192) Φ190) ∧ (0 ≤ n147 ∧ n147 < (↑pN : Int)) ∧ ptrK none pP fun (k193 k194 : Nat) => ∃ (n195 : Int), (∀ (w196 : World) (R197 : List Own), Ctx W w196 (R189 ++
  R197) Φ190 → ∃ (n198 : Int), w196.cell? (Addr.mk k193 (k194 + n147.toNat) none) = some (Value.int IntKind.i64 n198) ∧ Value.int IntKind.i64 n198 = Value.int IntKind.i64 n195) ∧ ∀ (w199 :
  World) (R200 : List Own), Ctx W w199 (R181 ++ R200) I182 → Calls Tryd.prog F.slices_Clone_api_Delta_api_Delta #[Value.slice p186 k187 k188] w199 fun (e201 : Ending) (w202 : World) => ∃
  (p203 : Option Addr), ∃ (k204 : Nat), ∃ (k205 : Nat), e201 = Ending.returned (Value.slice p203 k204 k205) ∧ ∃ (R206 : List Own), ∃ (Φ207 : PW), Stable Φ207 ∧ Ctx W w202 (R206 ++ R200) Φ207
  ∧ (∀ (w208 : World) (R209 : List Own), Ctx W w208 (R206 ++ R209) Φ207 → Ctx W w208 (R189 ++ R209) Φ190) ∧ ∀ (k210 : Nat), (∀ (w211 : World) (R212 : List Own), Ctx W w211 (Own.blk k210
  [Value.int IntKind.i64 n195, Value.int IntKind.i64 0, Value.int IntKind.i64 n6, Value.int IntKind.i64 n53, Value.int IntKind.i64 n147, Value.int IntKind.i64 0, Value.slice p203 k204 k205]
  75 :: R206 ++ R212) Φ207 → Ctx W w211 (R189 ++ R212) Φ190) ∧ ∀ (w213 : World) (R214 : List Own), Ctx W w213 (Own.blk k210 [Value.int IntKind.i64 n195, Value.int IntKind.i64 0, Value.int
  IntKind.i64 n6, Value.int IntKind.i64 n53, Value.int IntKind.i64 n147, Value.int IntKind.i64 0, Value.slice p203 k204 k205] 75 :: R206 ++ R214) Φ207 → ∃ (p215 : Option Addr), ∃ (k216 :
  Nat), ∃ (k217 : Nat), ∃ (w218 : World), Sem.run Tryd.prog (builtin Builtin.append #[70, 70] 70 #[false, false] #[Value.slice p178 k179 k180, Value.slice (some (Addr.mk k210 0 none)) 1 1])
  w213 = Result.ok (Next.value (Value.slice p215 k216 k217)) w218 ∧ ∃ (R219 : List Own), ∃ (Φ220 : PW), Stable Φ220 ∧ Ctx W w218 (R219 ++ R214) Φ220 ∧ ∃ (R221 : List Own), ∃ (Φ222 : PW),
  Stable Φ222 ∧ (∀ (w223 : World) (R224 : List Own), Ctx W w223 (R219 ++ R224) Φ220 → Ctx W w223 (R221 ++ R224) Φ222) ∧ I172 p215 k216 k217 R221 Φ222 (k183 + 1)) ∧ (k183 = k168 → I64 (n147 +
  1) ∧ ∃ (R225 : List Own), ∃ (Φ226 : PW), ∃ (k227 : Nat), Stable Φ226 ∧ (∀ (w228 : World) (R229 : List Own), Ctx W w228 (R181 ++ R229) I182 → Ctx W w228 (R225 ++ R229) Φ226) ∧ I141 (n147 +
  1) p178 k179 k180 R225 Φ226 k227 ∧ k227 < k153)) (I64 (n53 + 1) ∧ ∃ (R230 : List Own), ∃ (Φ231 : PW), ∃ (k232 : Nat), Stable Φ231 ∧ (∀ (w233 : World) (R234 : List Own), Ctx W w233 (R151 ++
  R234) I152 → Ctx W w233 (R230 ++ R234) Φ231) ∧ I47 (n53 + 1) p148 k149 k150 R230 Φ231 k232 ∧ k232 < k59)))) (I64 (n6 + 1) ∧ ∃ (R235 : List Own), ∃ (Φ236 : PW), ∃ (k237 : Nat), Stable Φ236 ∧
  (∀ (w238 : World) (R239 : List Own), Ctx W w238 (R57 ++ R239) I58 → Ctx W w238 (R235 ++ R239) Φ236) ∧ I0 (n6 + 1) p54 k55 k56 R235 Φ236 k237 ∧ k237 < k12)) (∀ (w240 : World) (R241 : List
  Own), Ctx W w240 (R10 ++ R241) I11 → J (Value.slice p7 k8 k9) w240)

theorem Bplace_Route_run (nodesP : Option Addr) (nodesN nodesC : Nat) (pP : Option Addr) (pN pC : Nat) (node : Int) (bucket : Int) (lP : Option Addr) (lN lC : Nat) {W w : World} {R : List Own} {Φ : PW} [Stable Φ] {J : Value → World → Prop} (c : Ctx W w R Φ) (h : Bplace_Route nodesP nodesN nodesC pP pN pC node bucket lP lN lC W R Φ J) : Calls Tryd.prog F.place_Route #[.slice nodesP nodesN nodesC, .slice pP pN pC, .int .i64 node, .int .i64 bucket, .slice lP lN lC] w fun e w' => ∃ v, e = .returned v ∧ J v w' :=
  vcFS_sound (H := { keep := some [0, 2, 3, 4, 6, 10, 11, 12, 13, 14, 15, 16, 18, 19, 20, 21, 22, 23, 24, 25, 30, 31, 32, 33, 39, 40, 41, 42, 43, 65, 66, 71, 72], track := [6, 11, 12, 13, 14, 18, 20], stages := [(15, [.held [(0, true), (1, true), (4, true), (2, true), (3, true), (5, false), (6, false)], .stage [7] (some 8)]), (22, [.held [(0, true), (1, true), (2, true), (5, true), (6, true), (7, true), (8, true), (3, true), (4, true), (9, false), (10, true), (11, true), (12, false)], .stage [] (some 13), .stage [] (some 14)])], loops := [(22, [(72, .one (.slice))], [(11, .agg [.slice])]), (18, [(65, .one (.int .i64))], [(11, .agg [.slice])]), (11, [(42, .one (.int .i64))], []), (6, [(32, .one (.int .i64))], [(11, .agg [.slice])]), (3, [(24, .one (.int .i64))], [(11, .agg [.slice])])] }) (by rw [show vcFS Tryd.prog W { keep := some [0, 2, 3, 4, 6, 10, 11, 12, 13, 14, 15, 16, 18, 19, 20, 21, 22, 23, 24, 25, 30, 31, 32, 33, 39, 40, 41, 42, 43, 65, 66, 71, 72], track := [6, 11, 12, 13, 14, 18, 20], stages := [(15, [.held [(0, true), (1, true), (4, true), (2, true), (3, true), (5, false), (6, false)], .stage [7] (some 8)]), (22, [.held [(0, true), (1, true), (2, true), (5, true), (6, true), (7, true), (8, true), (3, true), (4, true), (9, false), (10, true), (11, true), (12, false)], .stage [] (some 13), .stage [] (some 14)])], loops := [(22, [(72, .one (.slice))], [(11, .agg [.slice])]), (18, [(65, .one (.int .i64))], [(11, .agg [.slice])]), (11, [(42, .one (.int .i64))], []), (6, [(32, .one (.int .i64))], [(11, .agg [.slice])]), (3, [(24, .one (.int .i64))], [(11, .agg [.slice])])] } F.place_Route #[.slice nodesP nodesN nodesC, .slice pP pN pC, .int .i64 node, .int .i64 bucket, .slice lP lN lC] R Φ J = Bplace_Route nodesP nodesN nodesC pP pN pC node bucket lP lN lC W R Φ J by kernel_rfl]; exact h) c

/-- place.batches -/
def Bplace_batches (lP : Option Addr) (lN lC : Nat) (W : World) (R : List Own) (Φ : PW) (J : Value → World → Prop) : Prop :=
  ∀ (k0 : Nat) (w1 : World) (R2 : List Own), Ctx W w1 (Own.blk k0 [Value.slice lP lN lC] 55 :: R ++ R2) Φ → J (Value.func (Fn.func 107) #[] #[Value.pointer (some (Addr.mk k0 0 none))]) w1

theorem Bplace_batches_run (lP : Option Addr) (lN lC : Nat) {W w : World} {R : List Own} {Φ : PW} [Stable Φ] {J : Value → World → Prop} (c : Ctx W w R Φ) (h : Bplace_batches lP lN lC W R Φ J) : Calls Tryd.prog F.place_batches #[.slice lP lN lC] w fun e w' => ∃ v, e = .returned v ∧ J v w' :=
  vcFS_sound (H := { keep := some [1, 2] }) (by rw [show vcFS Tryd.prog W { keep := some [1, 2] } F.place_batches #[.slice lP lN lC] R Φ J = Bplace_batches lP lN lC W R Φ J by kernel_rfl]; exact h) c

end Go.Proofs.YtbkpfhhhbhaecaaDoor
end

/-
  Consolidate, walked.
-/
section
set_option linter.unusedVariables false
set_option linter.unusedSimpArgs false
namespace Go.Proofs.YtbkpfhhhbhaecaaDoor
open Go.Vc


/-! ### one group, in plain Lean -/
theorem seg_sum {seg : List DeltaD} {k0 : Key} (h : ∀ x ∈ seg, x.key = k0) (k : Key) (hk : k ≠ k0) : sumK seg k = 0 := sumK_none fun x hx e => hk (by rw [← e, h x hx])

theorem Norm.snoc {c : List DeltaD} {x : DeltaD} (h : Norm c) (h1 : ∀ y ∈ c, cmpK y.key x.key < 0) (h2 : x.n ≠ 0) (h3 : I64 x.n) : Norm (c ++ [x]) := by
  refine ⟨List.pairwise_append.2 ⟨h.asc, List.pairwise_singleton _ _, fun y hy z hz => ?_⟩, fun y hy => ?_, fun y hy => ?_⟩
  · rw [List.mem_singleton.1 hz, cmpD_key]; exact h1 y hy
  · rcases List.mem_append.1 hy with hy | hy
    · exact h.nz y hy
    · rw [List.mem_singleton.1 hy]; exact h2
  · rcases List.mem_append.1 hy with hy | hy
    · exact h.i64 y hy
    · rw [List.mem_singleton.1 hy]; exact h3

/-- a group is put as one element, or left out -/
theorem find_group {A seg C : List DeltaD} {k0 : Key} {N : Int} (h : ∀ x ∈ seg, x.key = k0) (hN : N = findP seg k0) (k : Key) :
    (findP (A ++ (⟨k0.1, k0.2, N⟩ :: C)) k = findP (A ++ (seg ++ C)) k) ∧ (N = 0 → findP (A ++ C) k = findP (A ++ (seg ++ C)) k) := by
  have key : (((if k0 = k then N else 0) : Int) - sumK seg k) % 18446744073709551616 = 0 := by
    by_cases hk : k0 = k
    · subst hk
      rw [if_pos rfl, hN]
      exact w64_mod _
    · rw [if_neg hk, seg_sum h k (fun e => hk e.symm)]
      rfl
  have e1 : sumK (A ++ (⟨k0.1, k0.2, N⟩ :: C)) k = sumK A k + ((if k0 = k then N else 0) + sumK C k) := by rw [sumK_app]; rfl
  have e2 : sumK (A ++ (seg ++ C)) k = sumK A k + (sumK seg k + sumK C k) := by rw [sumK_app, sumK_app]
  refine ⟨?_, fun h0 => ?_⟩
  · unfold findP
    rw [e1, e2]
    exact w64_cong (by omega)
  · unfold findP
    rw [sumK_app, e2]
    refine w64_cong ?_
    rw [h0] at key
    have : ((if k0 = k then (0 : Int) else 0)) = 0 := by split <;> rfl
    omega

theorem find_snoc {seg : List DeltaD} {y : DeltaD} {k0 : Key} (hy : y.key = k0) : findP (seg ++ [y]) k0 = w64 (findP seg k0 + y.n) := by
  unfold findP
  rw [w64_l, sumK_app]
  simp only [sumK]
  rw [if_pos hy, Int.add_zero]

/-- where a slice of a sorted slice begins -/
theorem sub_at {g i k c : Nat} (h : k < c) : subPtr (some ⟨g, i * 3, none⟩) 3 k c = some ⟨g, (i + k) * 3, none⟩ := by
  unfold subPtr
  rw [if_neg (by omega), Option.map_some]
  congr 1
  unfold Addr.add
  split
  · rw [show k = 0 by omega, Nat.add_zero]
  · show Addr.mk g (i * 3 + k * 3) none = _
    rw [Nat.add_mul]

/-- what the outer loop knows -/
structure COuter (l : List DeltaD) (es outs : List DE) (i : Nat) : Prop where
  le : i ≤ es.length
  norm : Norm (outs.map DE.d)
  lt : ∀ x ∈ outs, ∀ y ∈ es.drop i, cmpK x.d.key y.d.key < 0
  find : ∀ k, findP (outs.map DE.d ++ (es.drop i).map DE.d) k = findP l k
  few : outs.length ≤ i

theorem COuter.step {l : List DeltaD} {es outs : List DE} {i : Nat} (h : COuter l es outs i) {X : DE} (hX : X ∈ es.drop i) {j : Nat} (hij : i + j ≤ es.length) (hj : 1 ≤ j) (hk : ∀ y ∈ (es.drop i).take j, y.d.key = X.d.key) {N : Int} (hN : N = findP (((es.drop i).take j).map DE.d) X.d.key)
    (hgt : ∀ y ∈ es.drop (i + j), cmpK X.d.key y.d.key < 0) : (N = 0 → COuter l es outs (i + j)) ∧ (N ≠ 0 → ∀ (p : Option Addr) (c : Nat), COuter l es (outs ++ [⟨⟨X.d.time, X.d.row, N⟩, p, c⟩]) (i + j)) := by
  have hdr : es.drop i = (es.drop i).take j ++ es.drop (i + j) := by rw [← List.drop_drop, List.take_append_drop]
  have hkm : ∀ x ∈ ((es.drop i).take j).map DE.d, x.key = X.d.key := fun x hx => by
    obtain ⟨y, hy, rfl⟩ := List.mem_map.1 hx
    exact hk y hy
  have hsub : ∀ y ∈ es.drop (i + j), y ∈ es.drop i := fun y hy => by rw [hdr]; exact List.mem_append_right _ hy
  have hf : ∀ k, findP (outs.map DE.d ++ (((es.drop i).take j).map DE.d ++ (es.drop (i + j)).map DE.d)) k = findP l k := fun k => by
    rw [← List.map_append, ← hdr]; exact h.find k
  refine ⟨fun h0 => ⟨hij, h.norm, fun x hx y hy => h.lt x hx y (hsub y hy), fun k => ?_, by have := h.few; omega⟩, fun h0 p c => ⟨hij, ?_, fun x hx y hy => ?_, fun k => ?_, by rw [List.length_append]; have := h.few; simp; omega⟩⟩
  · rw [← hf k]
    exact (find_group (A := outs.map DE.d) (C := (es.drop (i + j)).map DE.d) hkm hN k).2 h0
  · rw [List.map_append]
    refine Norm.snoc h.norm (fun y hy => ?_) h0 (by rw [hN]; exact w64_in _)
    obtain ⟨z, hz, rfl⟩ := List.mem_map.1 hy
    exact h.lt z hz X hX
  · rcases List.mem_append.1 hx with hx | hx
    · exact h.lt x hx y (hsub y hy)
    · rw [List.mem_singleton.1 hx]; exact hgt y hy
  · rw [← hf k, List.map_append, List.append_assoc]
    exact (find_group (A := outs.map DE.d) (C := (es.drop (i + j)).map DE.d) hkm hN k).1

theorem cmpFn_delta {Φ : PW} [Stable Φ] {es : List DE} (hrow : ∀ x ∈ es, x.d.row.length ≤ 1000000) : CmpFn (fun M w => Φ M w ∧ EPhi es M w) F.delta_compare #[] (fun x => x ∈ es) :=
  ⟨by kernel_rfl, fun x y hx hy => compareD_in x.d y.d x.p y.p x.c y.c (fun M w h => delta_row (h.2 x hx)) (fun M w h => delta_row (h.2 y hy)) (by have := hrow x hx; omega)⟩

theorem cell3 {w : World} {g o : Nat} {X : DE} (h : RowAt w g o X.cells) : w.cell? ⟨g, o + 2, none⟩ = some (.int .i64 X.d.n) := by
  have := h 2 (by simp)
  simpa using this

set_option maxHeartbeats 4000000 in
theorem Consolidate_new {Φ : PW} [Stable Φ] (p : Option Addr) (cap : Nat) (l : List DeltaD) (hΦ : ∀ M w, Φ M w → Sl M w p l) (hlen : l.length ≤ 1000000) (hrow : ∀ x ∈ l, x.row.length ≤ 1000000) : GivesNew Φ Tryd.prog F.delta_Consolidate #[.slice p l.length cap] (consP l) 77 := by
  refine gives_new (Bdelta_Consolidate_run p l.length cap) fun W R => ?_
  refine fun w G cx => (CloneD_in p cap l hΦ (by omega)).use cx fun p1 cap1 cs w cx => ?_
  obtain ⟨es0, rfl, hes⟩ := elems_ex cx.phi.2
  have hl : l.length = es0.length := by rw [← hes, List.length_map]
  have cx1 : Ctx W w (bufE p1 cap1 es0 :: (R ++ G)) (fun M w => Φ M w ∧ EPhi es0 M w) := by
    have h1 := cx.weak (Ψ := fun M w => Φ M w ∧ EPhi es0 M w) fun M w h => ⟨h.1, elems_e (by rw [hes]; exact h.2)⟩
    rw [hl] at h1
    exact h1
  have hrow0 : ∀ x ∈ es0, x.d.row.length ≤ 1000000 := fun x hx => hrow x.d (by rw [← hes]; exact List.mem_map_of_mem hx)
  have hf := cmpFn_delta (Φ := Φ) hrow0
  clear cx
  refine ⟨p1, es0.length, cap1, by rw [hl], bufE p1 cap1 es0 :: R, _, inferInstance, cx1, fun w G cx => ?_⟩
  refine SortStable_use (S := R ++ G) hf es0 (fun e h => h) cx (by omega) fun es w hp ha cx => ?_
  have hn : es0.length = es.length := hp.length_eq.symm
  have hi0 : ∀ x ∈ es, EPhi es0 = EPhi es0 := fun _ _ => rfl
  have cx2 : Ctx W w (bufE p1 cap1 es :: (R ++ G)) (fun M w => Φ M w ∧ EPhi es M w) := cx.weak fun M w h => ⟨h.1, fun x hx => h.2 x (hp.mem_iff.1 hx)⟩
  have hfind : ∀ k, findP (es.map DE.d) k = findP l k := fun k => by rw [← hes]; exact findP_perm (hp.map DE.d) k
  have hrowE : ∀ x ∈ es, x.d.row.length ≤ 1000000 := fun x hx => hrow0 x (hp.mem_iff.1 hx)
  have hcmp := (cmpFn_delta (Φ := Φ) hrowE).2
  have hpg : 0 < es.length → ∃ g, p1 = some ⟨g, 0, none⟩ := fun h => e_ptr cx2 h
  have hcap : es.length ≤ cap1 := (cx2.bufLen 0 rfl).2.1
  rw [hn]
  refine ⟨rfl, bufE p1 cap1 es :: R, _, inferInstance, cx2, ?_⟩
  clear hf hrow0 hi0 cx cx1 cx2 hrow hp hes
  refine exI_mk (fun sp sn sc op on oc R' Φ' k => ∃ (i : Nat) (outs : List DE), COuter l es outs i ∧ sn = es.length - i ∧ sn ≤ sc ∧ (∀ g, p1 = some ⟨g, 0, none⟩ → i < es.length → sp = some ⟨g, i * 3, none⟩) ∧ on = outs.length ∧ R' = bufE op oc outs :: bufE p1 cap1 es :: R ∧ Φ' = (fun M w => (Φ M w ∧ EPhi es M w) ∧ EPhi outs M w) ∧ k = es.length - i)
    ⟨⟨bufE none 0 [] :: bufE p1 cap1 es :: R, fun M w => (Φ M w ∧ EPhi es M w) ∧ EPhi ([] : List DE) M w, _, inferInstance, fun w G cx => ((cx.weak fun M w h => ⟨h, fun x hx => by cases hx⟩).nobuf 77 3), 0, [], ⟨Nat.zero_le _, Norm.nil, by simp, fun k => hfind k, Nat.le_refl _⟩, by omega, by omega, fun g hg _ => by rw [hg, Nat.zero_mul], rfl, rfl, rfl, rfl⟩, ?_⟩
  rintro sp sn sc op on oc R1 Φ1 k _ ⟨i, outs, hco, rfl, hsc, hsp, rfl, rfl, rfl, rfl⟩
  have hile := hco.le
  refine Br.intro (fun hlt => ?_) (fun hge => fun w G cx => ?_)
  · have hlt := of_decide_eq_true hlt
    have hlt : i < es.length := by omega
    obtain ⟨g, rfl⟩ := hpg (by omega)
    have hsp := hsp g rfl hlt
    subst hsp
    have hstP : Stable (fun M w => (Φ M w ∧ EPhi es M w) ∧ EPhi outs M w) := inferInstance
    obtain ⟨X, hX⟩ : ∃ X, es[i]? = some X := ⟨_, List.getElem?_eq_getElem hlt⟩
    have hXm : X ∈ es := List.mem_of_getElem? hX
    have hXd : X ∈ es.drop i := by
      rw [List.drop_eq_getElem_cons hlt]
      rw [List.getElem?_eq_getElem hlt] at hX
      rw [Option.some.inj hX]; simp
    have hdX : es.drop i = X :: es.drop (i + 1) := by
      rw [List.drop_eq_getElem_cons hlt]
      rw [List.getElem?_eq_getElem hlt] at hX
      rw [Option.some.inj hX]
    refine ⟨by omega, ptrK_intro g (i * 3) rfl fun w G cx => ⟨X.d.time, X.p, X.d.row.length, X.c, X.d.n, e_row cx.swap hX, fun _ => ?_⟩⟩
    obtain ⟨hIt, hIn⟩ : I64 X.d.time ∧ I64 X.d.n := by
      obtain ⟨_, _, _, _, _, h1, h2, _⟩ := delta_cells (cx.phi.1.2 X hXm)
      exact ⟨h1, h2⟩
    clear cx
    refine exI_mk (fun kI tm rp rn rc nn R' Φ' k => ∃ j : Nat, kI = j ∧ 1 ≤ j ∧ i + j ≤ es.length ∧ tm = X.d.time ∧ rp = X.p ∧ rn = X.d.row.length ∧ rc = X.c ∧ nn = findP (((es.drop i).take j).map DE.d) X.d.key ∧ (∀ y ∈ (es.drop i).take j, y.d.key = X.d.key) ∧ R' = bufE op oc outs :: bufE (some ⟨g, 0, none⟩) cap1 es :: R ∧ Φ' = (fun M w => (Φ M w ∧ EPhi es M w) ∧ EPhi outs M w) ∧ k = es.length - i - j)
      ⟨⟨_, _, _, hstP, fun w G cx => cx, 1, rfl, Nat.le_refl _, hlt, rfl, rfl, rfl, rfl, ?_, ?_, rfl, rfl, rfl⟩, ?_⟩
    · rw [hdX]
      show X.d.n = w64 ((if X.d.key = X.d.key then X.d.n else 0) + 0)
      rw [if_pos rfl, Int.add_zero, w64_id hIn]
    · rw [hdX]
      intro y hy
      simp at hy
      rw [hy]
    rintro kI _ _ _ _ nn R2 Φ2 k _ ⟨j, rfl, hj1, hj2, rfl, rfl, rfl, rfl, hnn, hkeys, rfl, rfl, rfl⟩
    have hXlen : X.d.row.length ≤ 1000000 := hrowE X hXm
    refine ⟨_, _, hstP, fun w G cx => cx, Br.intro (fun hlt2 => ?_) (fun hge2 => ?_)⟩
    case' refine_2 =>
      have hgt : ∀ y ∈ es.drop (i + j), cmpK X.d.key y.d.key < 0 := by
        have hge2 := of_decide_eq_false hge2
        rw [List.drop_eq_nil_of_le (by omega)]
        intro y hy; cases hy
    case' refine_1 =>
      have hlt2 := of_decide_eq_true hlt2
      have hij : i + j < es.length := by omega
      obtain ⟨Y, hY⟩ : ∃ Y, es[i + j]? = some Y := ⟨_, List.getElem?_eq_getElem hij⟩
      have hYm : Y ∈ es := List.mem_of_getElem? hY
      have hcall : GivesIn (fun M w => (Φ M w ∧ EPhi es M w) ∧ EPhi outs M w) Tryd.prog F.delta_compare #[.agg #[.int .i64 X.d.time, .slice X.p X.d.row.length X.c, .int .i64 nn], Y.v] (.int .i64 (cmpD ⟨X.d.time, X.d.row, nn⟩ Y.d)) :=
        compareD_in ⟨X.d.time, X.d.row, nn⟩ Y.d X.p Y.p X.c Y.c (fun M w h => show Sl M w X.p X.d.row from delta_row (h.1.2 X hXm)) (fun M w h => delta_row (h.1.2 Y hYm)) (by show X.d.row.length ≤ _; omega)
      have hYr : ∀ {w : World} {G : List Own}, Ctx W w (bufE op oc outs :: bufE (some ⟨g, 0, none⟩) cap1 es :: R ++ G) (fun M w => (Φ M w ∧ EPhi es M w) ∧ EPhi outs M w) → RowAt w g (i * 3 + (j : Int).toNat * 3) Y.cells := fun cx => by
        rw [Int.toNat_natCast, ← Nat.add_mul]; exact e_row cx.swap hY
      refine ⟨by omega, ptrK_intro g (i * 3) rfl ⟨Y.d.time, Y.p, Y.d.row.length, Y.c, Y.d.n, fun w G cx => ⟨_, Y.p, _, Y.c, _, hYr cx, rfl⟩, fun w G cx => hcall.use cx fun w cx => ⟨_, rfl, bufE op oc outs :: bufE (some ⟨g, 0, none⟩) cap1 es :: R, _, hstP, cx, Br.intro (fun hc => ?_) (fun hc => ?_)⟩⟩⟩
    case' refine_1.refine_1 =>
      have hc := of_decide_eq_true hc
      rw [cmpD_key] at hc
      have hk := (cmpK_cmp.eq _ _).1 hc
      have hk' : Y.d.key = X.d.key := hk.symm
      have htk : (es.drop i).take (j + 1) = (es.drop i).take j ++ [Y] := by
        have hlt3 : j < (es.drop i).length := by rw [List.length_drop]; omega
        rw [List.take_succ_eq_append_getElem hlt3]
        congr 2
        rw [List.getElem_drop]
        rw [List.getElem?_eq_getElem hij] at hY
        exact Option.some.inj hY
      refine ⟨by omega, ptrK_intro g (i * 3) rfl fun w G cx => ⟨Y.d.n, cell3 (hYr cx), by unfold I64; omega, _, _, es.length - i - (j + 1), hstP, fun w G cx => cx, ⟨j + 1, by omega, by omega, by omega, rfl, rfl, rfl, rfl, ?_, ?_, rfl, rfl, rfl⟩, by omega⟩⟩
      · rw [htk, List.map_append, hnn]
        exact (find_snoc hk').symm
      · rw [htk]
        intro y hy
        rcases List.mem_append.1 hy with hy | hy
        · exact hkeys y hy
        · rw [List.mem_singleton.1 hy]; exact hk'
    case' refine_1.refine_2 =>
      have hgt : ∀ y ∈ es.drop (i + j), cmpK X.d.key y.d.key < 0 := by
        have hc := of_decide_eq_false hc
        rw [cmpD_key] at hc
        have hXi : es[i] = X := by rw [List.getElem?_eq_getElem hlt] at hX; exact Option.some.inj hX
        have hYi : es[i + j] = Y := by rw [List.getElem?_eq_getElem hij] at hY; exact Option.some.inj hY
        have h1 : leE es[i] es[i + j] := asc_le ordE ha (by omega) hij
        rw [hXi, hYi] at h1
        have h1 : cmpK X.d.key Y.d.key < 0 := by
          have h2 : cmpK X.d.key Y.d.key ≤ 0 := by rw [← cmpD_key]; exact h1
          have h3 : cmpK X.d.key Y.d.key ≠ 0 := hc
          omega
        intro y hy
        obtain ⟨q, hq, rfl⟩ := List.getElem_of_mem hy
        rw [List.length_drop] at hq
        rw [List.getElem_drop]
        have h2 : leE es[i + j] es[i + j + q] := asc_le ordE ha (by omega) (by omega)
        rw [hYi] at h2
        have h2 : cmpK Y.d.key es[i + j + q].d.key ≤ 0 := by rw [← cmpD_key]; exact h2
        rcases Int.lt_or_eq_of_le h2 with h3 | h3
        · exact cmpK_cmp.trans _ _ _ h1 h3
        · rw [← (cmpK_cmp.eq _ _).1 h3]; exact h1
      clear hc hcall hYr
    all_goals
      obtain ⟨hz, hnz⟩ := hco.step hXd (by omega) hj1 hkeys hnn hgt
      refine Br.intro (fun h0 => fun w G cx => ?_) (fun h0 => ⟨by omega, _, _, es.length - (i + j), hstP, fun w G cx => cx, ⟨i + j, outs, hz (by have := of_decide_eq_false h0; omega), by rw [Int.toNat_natCast]; omega, by rw [Int.toNat_natCast]; omega, fun g' hg' h => by cases hg'; rw [Int.toNat_natCast]; exact sub_at (by omega), rfl, rfl, rfl, rfl⟩, by omega⟩)
      have h0 : nn ≠ 0 := of_decide_eq_true h0
      have hco2 := hnz h0
      have hfew := hco.few
      refine (CloneV_in (Φ := fun M w => (Φ M w ∧ EPhi es M w) ∧ EPhi outs M w) X.p X.c X.d.row (fun M w h => delta_row (h.1.2 X hXm)) (by omega)).use cx fun q qc vc w cx => ?_
      obtain ⟨_, hq1, hq2⟩ := cx.bufLen 0 rfl
      obtain ⟨cx3, hs, _⟩ := Ctx.freeze (α := ValD) cx.fst cx.phi.2
      have hst2 : Stable (fun M w => (fun M w => (Φ M w ∧ EPhi es M w) ∧ EPhi outs M w) M w ∧ Sl M w q X.d.row) := inferInstance
      refine ⟨q, _, qc, rfl, bufE op oc outs :: bufE (some ⟨g, 0, none⟩) cap1 es :: R, _, hst2, cx3.add hs, fun k w G cx => ?_⟩
      obtain ⟨p', cap', w', hrun, _, cx'⟩ := Ctx.app1 (P := Tryd.prog) (ts := 55) (ty := 55) (kb := #[false, false]) (size := 3) (bytes := 40) cx (by kernel_rfl) (by omega) rfl rfl (by omega) (by omega)
      have hcells : cellsE outs ++ [.int .i64 X.d.time, .slice q X.d.row.length qc, .int .i64 nn] = cellsE (outs ++ [⟨⟨X.d.time, X.d.row, nn⟩, q, qc⟩]) := by rw [cellsE_app]; rfl
      have hlen1 : outs.length + 1 = (outs ++ [(⟨⟨X.d.time, X.d.row, nn⟩, q, qc⟩ : DE)]).length := by simp
      have hnI : I64 nn := by rw [hnn]; exact w64_in _
      have hst3 : Stable (fun M w => (Φ M w ∧ EPhi es M w) ∧ EPhi (outs ++ [(⟨⟨X.d.time, X.d.row, nn⟩, q, qc⟩ : DE)]) M w) := inferInstance
      rw [hcells, hlen1] at cx'
      refine ⟨p', _, cap', w', hrun, bufE p' cap' (outs ++ [(⟨⟨X.d.time, X.d.row, nn⟩, q, qc⟩ : DE)]) :: bufE (some ⟨g, 0, none⟩) cap1 es :: R, _, hst3, cx'.weak fun M w h => ⟨h.1.1, fun x hx => ?_⟩, by omega, _, _, es.length - (i + j), hst3, fun w G cx => cx, ⟨i + j, _, hco2 q qc, by rw [Int.toNat_natCast]; omega, by rw [Int.toNat_natCast]; omega, fun g' hg' h => by cases hg'; rw [Int.toNat_natCast]; exact sub_at (by omega), hlen1, rfl, rfl, rfl⟩, by omega⟩
      rcases List.mem_append.1 hx with hx | hx
      · exact h.1.2 x hx
      · rw [List.mem_singleton.1 hx]
        exact rep_delta hq1 hq2 hIt hnI h.2
  · have hge := of_decide_eq_false hge
    have hi : i = es.length := by omega
    have hnorm := hco.norm
    have hfi := hco.find
    rw [hi, List.drop_length] at hfi
    have hc : consP l = outs.map DE.d := consP_is hnorm fun k => by have := hfi k; rw [List.map_nil, List.append_nil] at this; exact this
    have hol : (consP l).length = outs.length := by rw [hc, List.length_map]
    refine ⟨op, oc, cellsE outs, by rw [hol], ?_⟩
    have hstP : Stable (fun M w => (Φ M w ∧ EPhi es M w) ∧ EPhi outs M w) := inferInstance
    have cx3 : Ctx W w (bufE op oc outs :: R) (fun M w => (Φ M w ∧ EPhi es M w) ∧ EPhi outs M w) := (cx.left.swap).drop1
    rw [hol]
    exact cx3.weak fun M w h => ⟨h.1.1, by rw [hc]; exact e_elems h.2⟩

end Go.Proofs.YtbkpfhhhbhaecaaDoor
end

/-
  Sub, Diff, Same, walked.
-/
section
set_option linter.unusedVariables false
set_option linter.unusedSimpArgs false
namespace Go.Proofs.YtbkpfhhhbhaecaaDoor
open Go.Vc


/-- a consolidated list that nobody writes -/
theorem new_sl {Φ : PW} [Stable Φ] {P : Program} {f : FuncId} {args : Array Value} {l : List DeltaD} (h : GivesNew Φ P f args l 77) : GivesSl Φ P f args l id :=
  ⟨fun W w S c => (h.go W w S c).mono fun e w' ⟨p, cap, cs, he, cx⟩ => by
    obtain ⟨_, h1, h2⟩ := cx.bufLen 0 rfl
    obtain ⟨cx3, hs, _⟩ := Ctx.freeze (α := DeltaD) cx.fst cx.phi.2
    exact ⟨p, cap, he, h1, h2, cx3.add hs⟩⟩

theorem Consolidate_sl {Φ : PW} [Stable Φ] (p : Option Addr) (cap : Nat) (l : List DeltaD) (hΦ : ∀ M w, Φ M w → Sl M w p l) (hlen : l.length ≤ 1000000) (hrow : ∀ x ∈ l, x.row.length ≤ 1000000) : GivesSl Φ Tryd.prog F.delta_Consolidate #[.slice p l.length cap] (consP l) id :=
  new_sl (Consolidate_new p cap l hΦ hlen hrow)

/-! ### Sub -/
/-! ### Same -/
theorem delta_iff {x y : DeltaD} : x = y ↔ (x.time = y.time ∧ (x.row = y.row ∧ x.n = y.n)) := by cases x; cases y; simp
instance : DecidableEq DeltaD := fun _ _ => decidable_of_iff _ delta_iff.symm
def sameD (x y : DeltaD) : Bool := decide (cmpD x y = 0) && decide (x.n = y.n)
theorem sameD_eq {x y : DeltaD} : sameD x y = true ↔ x = y := by
  unfold sameD
  rw [Bool.and_eq_true, decide_eq_true_eq, decide_eq_true_eq, cmpD_key]
  exact ⟨fun h => delta_ext ((cmpK_cmp.eq _ _).1 h.1) h.2, fun h => by subst h; exact ⟨cmpK_cmp.refl _, rfl⟩⟩

theorem Same1_in {Φ : PW} [Stable Φ] (x y : DeltaD) (p q : Option Addr) (cap cap2 : Nat) (hΦ : ∀ M w, Φ M w → Sl M w p x.row) (hΨ : ∀ M w, Φ M w → Sl M w q y.row) (hlen : x.row.length ≤ 9223372036854775807) :
    GivesIn Φ Tryd.prog F.delta_Same_1 #[x.v p cap, y.v q cap2] (.bool (sameD x y)) := by
  refine gives_in (Bdelta_Same_1_run x.time p x.row.length cap x.n y.time q y.row.length cap2 y.n) fun W R => ?_
  refine fun _ _ w G cx => (compareD_in x y p q cap cap2 hΦ hΨ hlen).use cx fun w cx => ⟨_, rfl, R, Φ, inferInstance, cx, Br.intro (fun h => fun w G cx => ⟨?_, cx.left⟩) (fun h => fun w G cx => ⟨?_, cx.left⟩)⟩
  · unfold sameD; rw [h, Bool.true_and]
  · unfold sameD; rw [h, Bool.false_and]

theorem EqualFunc_pin {Φ : PW} [Stable Φ] (p : Option Addr) (cap : Nat) (a : List DeltaD) (q : Option Addr) (cap2 : Nat) (b : List DeltaD) (g1 o1 : Nat) (cs1 : List (List Value)) (g2 o2 : Nat) (cs2 : List (List Value)) (hp : 0 < a.length → p = some ⟨g1, o1, none⟩) (hq : 0 < b.length → q = some ⟨g2, o2, none⟩)
    (hΦ : ∀ M w, Φ M w → Pin g1 o1 cs1 a M w) (hΨ : ∀ M w, Φ M w → Pin g2 o2 cs2 b M w) (hlen : a.length ≤ 9223372036854775807) :
    GivesIn Φ Tryd.prog F.slices_EqualFunc_api_Delta__api_Delta_api_Delta_api_Delta #[.slice p a.length cap, .slice q b.length cap2, .func (.func F.delta_Same_1) #[] #[]] (.bool (decide (a = b))) := by
  refine in_cells hΦ fun hc1 => in_cells hΨ fun hc2 => ?_
  refine gives_in (Bslices_EqualFunc_api_Delta__api_Delta_api_Delta_api_Delta_run p a.length cap q b.length cap2 F.delta_Same_1 #[]) fun W R => ?_
  refine Br.intro (fun h => fun w G cx => ⟨?_, cx.left⟩) (fun h => ?_)
  · rw [decide_eq_false]
    intro e
    have := of_decide_eq_true h
    rw [e] at this
    exact this rfl
  have hl : a.length = b.length := by have := of_decide_eq_false h; omega
  refine exI_mk (fun iI R' Φ' k => ∃ i : Nat, iI = i ∧ i ≤ a.length ∧ R' = R ∧ Φ' = Φ ∧ k = a.length - i ∧ a.take i = b.take i) ⟨⟨R, Φ, _, inferInstance, fun w F c => c, 0, rfl, Nat.zero_le _, rfl, rfl, rfl, rfl⟩, ?_⟩
  rintro iI R1 Φ1 k _ ⟨i, rfl, hi, rfl, rfl, rfl, hs⟩
  refine Br.intro (fun hlt => ?_) (fun hge => fun w F cx => ⟨?_, cx.left⟩)
  · have hlt : i < a.length := by have := of_decide_eq_true hlt; omega
    have hltb : i < b.length := by omega
    obtain ⟨r1, rc1, he1, f1, f2, _, _⟩ := hc1 i hlt
    obtain ⟨r2, rc2, he2, f3, f4, _, _⟩ := hc2 i hltb
    have hcall := Same1_in (Φ := Φ1) a[i] b[i] r1 r2 rc1 rc2 (fun M w h => pin_row (hΦ M w h) hlt he1) (fun M w h => pin_row (hΨ M w h) hltb he2) (len_max f1 f2)
    refine ⟨by omega, ptrK_intro g1 o1 (hp (by omega)) fun w G cx => ⟨a[i].time, r1, a[i].row.length, rc1, a[i].n, by rw [Int.toNat_natCast]; exact pin_rowAt (hΦ _ _ cx.phi) hlt he1, fun _ => ⟨by omega, ptrK_intro g2 o2 (hq (by omega)) fun w G cx => ⟨b[i].time, r2, b[i].row.length, rc2, b[i].n, by rw [Int.toNat_natCast]; exact pin_rowAt (hΨ _ _ cx.phi) hltb he2, fun _ w G cx => ⟨by kernel_rfl, hcall.use cx fun w cx => ⟨_, rfl, R1, Φ1, inferInstance, cx, Br.intro (fun h => fun w G cx => ⟨?_, cx.left⟩) (fun h => ⟨by unfold I64; omega, R1, Φ1, a.length - (i + 1), inferInstance, fun w F c => c, ⟨i + 1, rfl, hlt, rfl, rfl, rfl, ?_⟩, by omega⟩)⟩⟩⟩⟩⟩⟩
    · rw [decide_eq_false]
      intro e
      subst e
      have : sameD a[i] a[i] = true := sameD_eq.2 rfl
      rw [this] at h; cases h
    · have he : a[i] = b[i] := sameD_eq.1 (by simpa using h)
      rw [List.take_succ_eq_append_getElem hlt, List.take_succ_eq_append_getElem hltb, hs, he]
  · have hge : i = a.length := by have := of_decide_eq_false hge; omega
    rw [decide_eq_true]
    rw [hge, List.take_length, hl, List.take_length] at hs
    exact hs

theorem Same_in {Φ : PW} [Stable Φ] (p : Option Addr) (cap : Nat) (a : List DeltaD) (q : Option Addr) (cap2 : Nat) (b : List DeltaD) (hΦ : ∀ M w, Φ M w → Sl M w p a) (hΨ : ∀ M w, Φ M w → Sl M w q b)
    (ha : a.length ≤ 400000) (hb : b.length ≤ 400000) (hra : ∀ x ∈ a, x.row.length ≤ 1000000) (hrb : ∀ x ∈ b, x.row.length ≤ 1000000) : GivesIn Φ Tryd.prog F.delta_Same #[.slice p a.length cap, .slice q b.length cap2] (.bool (decide (consP a = consP b))) := by
  refine gives_in (Bdelta_Same_run p a.length cap q b.length cap2) fun W R => ?_
  refine fun w G cx => (Consolidate_sl p cap a hΦ (by omega) hra).use cx fun p1 c1 w h1 h2 cx => ⟨p1, _, c1, rfl, R, _, inferInstance, cx, fun w G cx => ?_⟩
  refine (Consolidate_sl (Φ := fun M w => Φ M w ∧ Sl M w p1 (consP a)) q cap2 b (fun M w h => hΨ M w h.1) (by omega) hrb).use cx fun p2 c2 w h3 h4 cx => ⟨p2, _, c2, rfl, R, fun M w => (Φ M w ∧ Sl M w p1 (consP a)) ∧ Sl M w p2 (consP b), inferInstance, cx, fun w G cx => ?_⟩
  have heq : GivesIn (fun M w => (Φ M w ∧ Sl M w p1 (consP a)) ∧ Sl M w p2 (consP b)) Tryd.prog F.slices_EqualFunc_api_Delta__api_Delta_api_Delta_api_Delta #[.slice p1 (consP a).length c1, .slice p2 (consP b).length c2, .func (.func F.delta_Same_1) #[] #[]] (.bool (decide (consP a = consP b))) :=
    .pinned (fun M w h => h.1.2) fun g1 o1 cs1 hp => .pinned (fun M w h => h.1.2) fun g2 o2 cs2 hq => EqualFunc_pin (Φ := fun M w => (((Φ M w ∧ Sl M w p1 (consP a)) ∧ Sl M w p2 (consP b)) ∧ Pin g1 o1 cs1 (consP a) M w) ∧ Pin g2 o2 cs2 (consP b) M w) p1 c1 (consP a) p2 c2 (consP b) g1 o1 cs1 g2 o2 cs2 hp hq (fun M w h => h.1.2) (fun M w h => h.2) (len_max h1 h2)
  exact heq.use cx fun w cx => ⟨_, rfl, R, Φ, inferInstance, cx.weak fun M w h => h.1.1, fun w G cx => ⟨rfl, cx.left⟩⟩

end Go.Proofs.YtbkpfhhhbhaecaaDoor
end

/-
  The walks of the reference's comparisons; Equal.
-/
section
set_option linter.unusedVariables false
set_option linter.unusedSimpArgs false
namespace Go.Proofs.YtbkpfhhhbhaecaaDoor
open Go.Vc

theorem bytesLess_cmp : ∀ a b : List UInt8, Op.bytesLess a b = decide (Lib.compareBytes a b < 0)
  | [], [] => by simp [Op.bytesLess, Lib.compareBytes]
  | [], _ :: _ => by simp [Op.bytesLess, Lib.compareBytes]
  | _ :: _, [] => by simp [Op.bytesLess, Lib.compareBytes]
  | a :: ar, b :: br => by
    unfold Op.bytesLess Lib.compareBytes
    rw [bytesLess_cmp ar br]
    by_cases h1 : a < b
    · simp [h1]
    · by_cases h2 : b < a
      · rw [if_neg h1, if_pos h2]
        have : a ≠ b := fun e => by subst e; exact h1 h2
        simp [h1, this]
      · have : a = b := by
          have h1' : ¬ a.toNat < b.toNat := h1
          have h2' : ¬ b.toNat < a.toNat := h2
          exact UInt8.toNat_inj.1 (by omega)
        rw [if_neg h1, if_neg h2]
        simp [this]

theorem compareBytes_zero (a b : List UInt8) : Lib.compareBytes a b = 0 ↔ a = b := bytes_cmp.eq a b
theorem compareBytes_bd (a b : List UInt8) : -1 ≤ Lib.compareBytes a b ∧ Lib.compareBytes a b ≤ 1 := bytes_cmp.bd a b
theorem cmpT_less (a b : ByteArray) : Op.bytesLess a.toList b.toList = decide (cmpT a b < 0) := by rw [bytesLess_cmp, Lib.toList_data, Lib.toList_data]; rfl
theorem cmpT_gtr (a b : ByteArray) : (!(Op.bytesLess a.toList b.toList || a.toList == b.toList)) = decide (0 < cmpT a b) := by
  rw [cmpT_less]
  have h2 : (a.toList == b.toList) = decide (cmpT a b = 0) := by
    rw [Bool.eq_iff_iff, beq_iff_eq, decide_eq_true_eq]
    unfold cmpT
    rw [compareBytes_zero, Lib.toList_data, Lib.toList_data]
  rw [h2]
  by_cases h : cmpT a b < 0
  · simp [h]; omega
  · by_cases h' : cmpT a b = 0
    · simp [h']
    · rw [decide_eq_false h, decide_eq_false h', decide_eq_true (show 0 < cmpT a b by omega)]; rfl

theorem orI_cons (x : Int) (r : List Int) : orI (x :: r) = if x ≠ 0 then x else orI r := rfl

theorem rcmpV_g (x y : ValD) : Gives Tryd.prog F.errataref03_Compare #[x.v, y.v] (.int .i64 (cmpV x y)) := by
  refine gives_of (Berrataref03_Compare_run x.kind x.num x.text y.kind y.num y.text) fun W R Φ _ => ?_
  have h3 := compareBytes_bd x.text.data.toList y.text.data.toList
  unfold cmpV cmpL
  rw [orI_cons, orI_cons, orI_cons]
  refine fun _ _ => Br.intro (fun h => fun w G c => ⟨?_, c.left⟩) (fun h => Br.intro (fun h2 => fun w G c => ⟨?_, c.left⟩) (fun h2 => Br.intro (fun h3 => fun w G c => ⟨?_, c.left⟩) (fun h3 => Br.intro (fun h4 => fun w G c => ⟨?_, c.left⟩) (fun h4 => Br.intro (fun h5 => fun w G c => ⟨?_, c.left⟩) (fun h5 => ⟨_, fun w => by rw [binOp_string_gtr]; rfl, Br.intro (fun h6 => fun w G c => ⟨?_, c.left⟩) (fun h6 => fun w G c => ⟨?_, c.left⟩)⟩)))))
  · have h := of_decide_eq_true h
    have : cmpI x.kind y.kind = -1 := by unfold cmpI; rw [if_pos h]
    rw [this]; rfl
  all_goals have h := of_decide_eq_false h
  · have h2 := of_decide_eq_true h2
    have : cmpI x.kind y.kind = 1 := by unfold cmpI; rw [if_neg h, if_pos h2]
    rw [this]; rfl
  all_goals have h2 := of_decide_eq_false h2
  all_goals have e1 : cmpI x.kind y.kind = 0 := by unfold cmpI; rw [if_neg h, if_neg h2]
  all_goals rw [e1]
  · have h3 := of_decide_eq_true h3
    have : cmpI x.num y.num = -1 := by unfold cmpI; rw [if_pos h3]
    rw [this]; rfl
  all_goals have h3 := of_decide_eq_false h3
  · have h4 := of_decide_eq_true h4
    have : cmpI x.num y.num = 1 := by unfold cmpI; rw [if_neg h3, if_pos h4]
    rw [this]; rfl
  all_goals have h4 := of_decide_eq_false h4
  all_goals have e2 : cmpI x.num y.num = 0 := by unfold cmpI; rw [if_neg h3, if_neg h4]
  all_goals rw [e2]
  · have h5 : Op.bytesLess x.text.toList y.text.toList = true := h5
    rw [cmpT_less] at h5
    have h5 := of_decide_eq_true h5
    have : cmpT x.text y.text = -1 := by have : -1 ≤ cmpT x.text y.text := (compareBytes_bd _ _).1; omega
    rw [this]; rfl
  all_goals have h5 : Op.bytesLess x.text.toList y.text.toList = false := h5
  all_goals rw [cmpT_less] at h5
  all_goals have h5 := of_decide_eq_false h5
  · rw [cmpT_gtr] at h6
    have h6 := of_decide_eq_true h6
    have : cmpT x.text y.text = 1 := by have : cmpT x.text y.text ≤ 1 := (compareBytes_bd _ _).2; omega
    rw [this]; rfl
  · rw [cmpT_gtr] at h6
    have h6 := of_decide_eq_false h6
    have : cmpT x.text y.text = 0 := by omega
    rw [this]; rfl

theorem cmpR_nil {l r : List ValD} {i : Nat} (h : l.length ≤ i) (hr : r.length ≤ i) : cmpR (l.drop i) (r.drop i) = 0 := by
  rw [List.drop_of_length_le h, List.drop_of_length_le hr]; rfl
theorem cmpR_right {l r : List ValD} {i : Nat} (hi : l.length ≤ i) (hr : i < r.length) : cmpR (l.drop i) (r.drop i) = -1 := by
  rw [List.drop_eq_getElem_cons hr, List.drop_of_length_le hi]; rfl

theorem rCompareRows_in {Φ : PW} [Stable Φ] (p q : Option Addr) (cap cap2 : Nat) (l r : List ValD) (hΦ : ∀ M w, Φ M w → Sl M w p l) (hΨ : ∀ M w, Φ M w → Sl M w q r) (hlen : l.length ≤ 9223372036854775807) :
    GivesIn Φ Tryd.prog F.errataref03_CompareRows #[.slice p l.length cap, .slice q r.length cap2] (.int .i64 (cmpR l r)) := by
  refine .there (fun M w h => (hΦ M w h).there) fun hth => .there (fun M w h => (hΨ M w h).there) fun hth2 => ?_
  refine gives_in (Berrataref03_CompareRows_run p l.length cap q r.length cap2) fun W R => ?_
  refine exI_mk (fun n R' Φ' k => ∃ i : Nat, n = i ∧ i ≤ l.length ∧ i ≤ r.length ∧ R' = R ∧ Φ' = Φ ∧ k = l.length - i ∧ cmpR l r = cmpR (l.drop i) (r.drop i)) ⟨⟨R, Φ, _, inferInstance, fun w F c => c, 0, rfl, Nat.zero_le _, Nat.zero_le _, rfl, rfl, rfl, rfl⟩, ?_⟩
  rintro n R1 Φ1 k _ ⟨i, rfl, hi, hr, rfl, rfl, rfl, hcm⟩
  refine fun w G cx => Br.intro (fun hlt => ?_) (fun hge => ?_)
  · rw [Bool.and_eq_true] at hlt
    have hl : i < l.length := by have := of_decide_eq_true hlt.1; omega
    have hr2 : i < r.length := by have := of_decide_eq_true hlt.2; omega
    obtain ⟨b, o, rfl⟩ := hth (by omega)
    obtain ⟨b2, o2, rfl⟩ := hth2 (by omega)
    rw [cmpR_both hl hr2] at hcm
    refine ⟨R1, Φ1, inferInstance, fun _ _ c => c, by omega, ptrK_intro b o rfl ⟨by omega, ptrK_intro b2 o2 rfl ⟨l[i].kind, l[i].num, l[i].text, fun w G cx => ⟨_, _, _, sl_val (hΦ _ _ cx.phi) hl, rfl⟩, r[i].kind, r[i].num, r[i].text, fun w G cx => ⟨_, _, _, sl_val (hΨ _ _ cx.phi) hr2, rfl⟩, fun w G cx => (rcmpV_g l[i] r[i]).use cx fun w cx => ⟨_, rfl, R1, Φ1, inferInstance, cx,
      Br.intro (fun hn => fun w F cx => ⟨?_, cx.left⟩) (fun hn => ⟨by unfold I64; omega, R1, Φ1, l.length - (i + 1), inferInstance, fun w F c => c, ⟨i + 1, rfl, hl, hr2, rfl, rfl, rfl, ?_⟩, by omega⟩)⟩⟩⟩⟩
    · have hn : cmpV l[i] r[i] ≠ 0 := by simpa using hn
      rw [hcm, if_pos hn]
    · have hn : ¬ cmpV l[i] r[i] ≠ 0 := by simpa using hn
      rw [hcm, if_neg hn]
  · have hge : l.length ≤ i ∨ r.length ≤ i := by
      rw [Bool.and_eq_false_iff] at hge
      rcases hge with h | h
      · left; have := of_decide_eq_false h; omega
      · right; have := of_decide_eq_false h; omega
    refine Br.intro (fun h => fun w G cx => ⟨?_, cx.left⟩) (fun h => Br.intro (fun h2 => fun w G cx => ⟨?_, cx.left⟩) (fun h2 => fun w G cx => ⟨?_, cx.left⟩))
    · have h := of_decide_eq_true h
      rw [hcm, cmpR_right (by omega) (by omega)]
    · have h2 := of_decide_eq_true h2
      rw [hcm, cmpR_left (by omega) (by omega)]
    · have h := of_decide_eq_false h
      have h2 := of_decide_eq_false h2
      rw [hcm, cmpR_nil (by omega) (by omega)]

theorem rCompareD_in {Φ : PW} [Stable Φ] (x y : DeltaD) (p q : Option Addr) (cap cap2 : Nat) (hΦ : ∀ M w, Φ M w → Sl M w p x.row) (hΨ : ∀ M w, Φ M w → Sl M w q y.row) (hlen : x.row.length ≤ 9223372036854775807) :
    GivesIn Φ Tryd.prog F.errataref28_Compare #[x.v p cap, y.v q cap2] (.int .i64 (cmpD x y)) := by
  refine gives_in (Berrataref28_Compare_run x.time p x.row.length cap x.n y.time q y.row.length cap2 y.n) fun W R => ?_
  unfold cmpD cmpDL
  rw [orI_cons, orI_cons]
  refine fun _ _ => Br.intro (fun h => fun w G c => ⟨?_, c.left⟩) (fun h => Br.intro (fun h2 => fun w G c => ⟨?_, c.left⟩) (fun h2 => ?_))
  · have h := of_decide_eq_true h
    have : cmpI x.time y.time = -1 := by unfold cmpI; rw [if_pos h]
    rw [this]; rfl
  all_goals have h := of_decide_eq_false h
  · have h2 := of_decide_eq_true h2
    have : cmpI x.time y.time = 1 := by unfold cmpI; rw [if_neg h, if_pos h2]
    rw [this]; rfl
  have h2 := of_decide_eq_false h2
  have e1 : cmpI x.time y.time = 0 := by unfold cmpI; rw [if_neg h, if_neg h2]
  rw [e1]
  refine fun w G cx => (rCompareRows_in p q cap cap2 x.row y.row hΦ hΨ hlen).use cx fun w cx => ⟨_, rfl, R, Φ, inferInstance, cx, fun w G cx => ⟨?_, cx.left⟩⟩
  by_cases h0 : cmpR x.row y.row = 0
  · rw [h0]; rfl
  · rw [if_neg (by omega), if_pos h0]

/-! ### Equal -/
theorem Equal_pin {Φ : PW} [Stable Φ] (p : Option Addr) (cap : Nat) (a : List DeltaD) (q : Option Addr) (cap2 : Nat) (b : List DeltaD) (g1 o1 : Nat) (cs1 : List (List Value)) (g2 o2 : Nat) (cs2 : List (List Value)) (hp : 0 < a.length → p = some ⟨g1, o1, none⟩) (hq : 0 < b.length → q = some ⟨g2, o2, none⟩)
    (hΦ : ∀ M w, Φ M w → Pin g1 o1 cs1 a M w) (hΨ : ∀ M w, Φ M w → Pin g2 o2 cs2 b M w) (hlen : a.length ≤ 9223372036854775807) :
    GivesIn Φ Tryd.prog F.errataref28_Equal #[.slice p a.length cap, .slice q b.length cap2] (.bool (decide (a = b))) := by
  refine in_cells hΦ fun hc1 => in_cells hΨ fun hc2 => ?_
  refine gives_in (Berrataref28_Equal_run p a.length cap q b.length cap2) fun W R => ?_
  refine Br.intro (fun h => fun w G cx => ⟨?_, cx.left⟩) (fun h => ?_)
  · rw [decide_eq_false]
    intro e
    have := of_decide_eq_true h
    rw [e] at this
    exact this rfl
  have hl : a.length = b.length := by have := of_decide_eq_false h; omega
  refine exI_mk (fun iI R' Φ' k => ∃ i : Nat, iI = i ∧ i ≤ a.length ∧ R' = R ∧ Φ' = Φ ∧ k = a.length - i ∧ a.take i = b.take i) ⟨⟨R, Φ, _, inferInstance, fun w F c => c, 0, rfl, Nat.zero_le _, rfl, rfl, rfl, rfl⟩, ?_⟩
  rintro iI R1 Φ1 k _ ⟨i, rfl, hi, rfl, rfl, rfl, hs⟩
  refine Br.intro (fun hlt => ?_) (fun hge => fun w F cx => ⟨?_, cx.left⟩)
  · have hlt : i < a.length := by have := of_decide_eq_true hlt; omega
    have hltb : i < b.length := by omega
    obtain ⟨r1, rc1, he1, f1, f2, _, _⟩ := hc1 i hlt
    obtain ⟨r2, rc2, he2, f3, f4, _, _⟩ := hc2 i hltb
    have hcall := rCompareD_in (Φ := Φ1) a[i] b[i] r1 r2 rc1 rc2 (fun M w h => pin_row (hΦ M w h) hlt he1) (fun M w h => pin_row (hΨ M w h) hltb he2) (len_max f1 f2)
    have hn1 : ∀ {w : World} {G : List Own}, Ctx W w (R1 ++ G) Φ1 → w.cell? ⟨g1, o1 + (i : Int).toNat * 3 + 2, none⟩ = some (.int .i64 a[i].n) := fun cx => by
      have := pin_rowAt (hΦ _ _ cx.phi) hlt he1 2 (by simp)
      rw [Int.toNat_natCast]; simpa using this
    have hn2 : ∀ {w : World} {G : List Own}, Ctx W w (R1 ++ G) Φ1 → w.cell? ⟨g2, o2 + (i : Int).toNat * 3 + 2, none⟩ = some (.int .i64 b[i].n) := fun cx => by
      have := pin_rowAt (hΨ _ _ cx.phi) hltb he2 2 (by simp)
      rw [Int.toNat_natCast]; simpa using this
    refine ⟨R1, Φ1, inferInstance, fun _ _ c => c, by omega, ptrK_intro g1 o1 (hp (by omega)) ⟨by omega, ptrK_intro g2 o2 (hq (by omega)) ⟨a[i].time, r1, a[i].row.length, rc1, a[i].n, fun w G cx => ⟨_, _, _, _, _, by rw [Int.toNat_natCast]; exact pin_rowAt (hΦ _ _ cx.phi) hlt he1, rfl⟩, b[i].time, r2, b[i].row.length, rc2, b[i].n, fun w G cx => ⟨_, _, _, _, _, by rw [Int.toNat_natCast]; exact pin_rowAt (hΨ _ _ cx.phi) hltb he2, rfl⟩,
      fun w G cx => hcall.use cx fun w cx => ⟨_, rfl, R1, Φ1, inferInstance, cx, Br.intro (fun hn => fun w F cx => ⟨?_, cx.left⟩) (fun hn => ⟨by omega, ptrK_intro g1 o1 (hp (by omega)) ⟨by omega, ptrK_intro g2 o2 (hq (by omega)) fun w G cx => ⟨_, hn1 cx, fun w G cx => ⟨_, hn2 cx, Br.intro (fun h3 => fun w G cx => ⟨?_, cx.left⟩) (fun h3 => ⟨by unfold I64; omega, R1, Φ1, a.length - (i + 1), inferInstance, fun w F c => c, ⟨i + 1, rfl, hlt, rfl, rfl, rfl, ?_⟩, by omega⟩)⟩⟩⟩⟩)⟩⟩⟩⟩
    · rw [decide_eq_false]
      intro e
      subst e
      have := of_decide_eq_true hn
      rw [cmpD_key] at this
      exact this (cmpK_cmp.refl _)
    · rw [decide_eq_false]
      intro e
      subst e
      have := of_decide_eq_true h3
      exact this rfl
    · have h1 := of_decide_eq_false hn
      have h2 := of_decide_eq_false h3
      have h1 : cmpD a[i] b[i] = 0 := Decidable.not_not.1 h1
      have h2 : a[i].n = b[i].n := Decidable.not_not.1 h2
      rw [cmpD_key] at h1
      have he : a[i] = b[i] := delta_ext ((cmpK_cmp.eq _ _).1 h1) h2
      rw [List.take_succ_eq_append_getElem hlt, List.take_succ_eq_append_getElem hltb, hs, he]
  · have hge : i = a.length := by have := of_decide_eq_false hge; omega
    rw [decide_eq_true]
    rw [hge, List.take_length, hl, List.take_length] at hs
    exact hs

theorem Equal_in {Φ : PW} [Stable Φ] (p : Option Addr) (cap : Nat) (a : List DeltaD) (q : Option Addr) (cap2 : Nat) (b : List DeltaD) (hΦ : ∀ M w, Φ M w → Sl M w p a) (hΨ : ∀ M w, Φ M w → Sl M w q b) (hlen : a.length ≤ 9223372036854775807) :
    GivesIn Φ Tryd.prog F.errataref28_Equal #[.slice p a.length cap, .slice q b.length cap2] (.bool (decide (a = b))) :=
  .pinned hΦ fun g1 o1 cs1 hp => .pinned (fun M w h => hΨ M w h.1) fun g2 o2 cs2 hq => Equal_pin (Φ := fun M w => (Φ M w ∧ Pin g1 o1 cs1 a M w) ∧ Pin g2 o2 cs2 b M w) p cap a q cap2 b g1 o1 cs1 g2 o2 cs2 hp hq (fun M w h => h.1.2) (fun M w h => h.2) hlen

end Go.Proofs.YtbkpfhhhbhaecaaDoor
end

/-
  What Route answers, in plain Lean.
-/
section
set_option linter.unusedVariables false
set_option linter.unusedSimpArgs false
namespace Go.Proofs.YtbkpfhhhbhaecaaDoor
open Go.Vc

structure SendD where
  worker : Int
  kind : Int
  node : Int
  inp : Int
  bucket : Int
  seq : Int
  deltas : List DeltaD
instance : Gv SendD := Gv.via (β := Int × Int × Int × Int × Int × Int × List DeltaD) (fun x => (x.worker, x.kind, x.node, x.inp, x.bucket, x.seq, x.deltas)) (fun y => ⟨y.1, y.2.1, y.2.2.1, y.2.2.2.1, y.2.2.2.2.1, y.2.2.2.2.2.1, y.2.2.2.2.2.2⟩) (fun _ => rfl)

/-- the parts of a list -/
def chunkP {α : Type} (l : List α) (k : Nat) : List α := (l.drop (8 * k)).take 8
def chunks {α : Type} (l : List α) : List (List α) := (List.range (partsN l.length)).map (chunkP l)
/-- the deltas of a bucket -/
def dealtP (d : NodeD) (k bucket : Int) (l : List DeltaD) (b : Nat) : List DeltaD := l.filter fun x => decide (needP d k bucket x.row = (b : Int))
def sendP (pl : List Int) (j k b : Nat) (part : List DeltaD) : SendD := ⟨pl.getD b 0, 0, j, k, b, 0, part⟩
/-- what is sent of one bucket, of one input, of one node -/
def sendsB (pl : List Int) (d : NodeD) (j k : Nat) (bucket : Int) (l : List DeltaD) (b : Nat) : List SendD := (chunks (dealtP d k bucket l b)).map (sendP pl j k b)
def sendsK (pl : List Int) (d : NodeD) (j : Nat) (node bucket : Int) (l : List DeltaD) (k : Nat) : List SendD := if d.inp.getD k 0 = node then (List.range 16).flatMap (sendsB pl d j k bucket l) else []
def sendsJ (pl : List Int) (ns : List NodeD) (node bucket : Int) (l : List DeltaD) (j : Nat) : List SendD := match ns[j]? with
  | some d => (List.range d.inp.length).flatMap (sendsK pl d j node bucket l)
  | none => []
def routeP (pl : List Int) (ns : List NodeD) (node bucket : Int) (l : List DeltaD) : List SendD := (List.range ns.length).flatMap (sendsJ pl ns node bucket l)

theorem range_step {α : Type} (f : Nat → List α) (i : Nat) : (List.range (i + 1)).flatMap f = (List.range i).flatMap f ++ f i := by
  rw [List.range_succ, List.flatMap_append]
  simp
theorem flatMap_le {α β : Type} {f : α → List β} {c : Nat} : ∀ {l : List α}, (∀ x ∈ l, (f x).length ≤ c) → (l.flatMap f).length ≤ l.length * c
  | [], _ => by simp
  | x :: l, h => by
    have h1 := h x (by simp)
    have h2 := flatMap_le (l := l) fun y hy => h y (by simp [hy])
    rw [List.flatMap_cons, List.length_append, List.length_cons, Nat.succ_mul]
    omega
theorem parts_le (n : Nat) : partsN n ≤ n := by unfold partsN; omega
theorem dealt_le (d : NodeD) (k bucket : Int) (l : List DeltaD) (b : Nat) : (dealtP d k bucket l b).length ≤ l.length := List.length_filter_le _ _
theorem chunks_len {α : Type} (l : List α) : (chunks l).length = partsN l.length := by unfold chunks; rw [List.length_map, List.length_range]
theorem sendsB_le (pl : List Int) (d : NodeD) (j k : Nat) (bucket : Int) (l : List DeltaD) (b : Nat) : (sendsB pl d j k bucket l b).length ≤ l.length := by
  unfold sendsB
  rw [List.length_map, chunks_len]
  exact Nat.le_trans (parts_le _) (dealt_le _ _ _ _ _)
theorem sendsK_le (pl : List Int) (d : NodeD) (j : Nat) (node bucket : Int) (l : List DeltaD) (k : Nat) : (sendsK pl d j node bucket l k).length ≤ 16 * l.length := by
  unfold sendsK
  split
  · have := flatMap_le (l := List.range 16) (f := sendsB pl d j k bucket l) (c := l.length) fun b _ => sendsB_le _ _ _ _ _ _ _
    rw [List.length_range] at this
    exact this
  · exact Nat.zero_le _
theorem sendsJ_le (pl : List Int) (ns : List NodeD) (node bucket : Int) (l : List DeltaD) (j : Nat) {m : Nat} (h : ∀ d ∈ ns, d.inp.length ≤ m) : (sendsJ pl ns node bucket l j).length ≤ m * (16 * l.length) := by
  unfold sendsJ
  split
  · rename_i d hd
    have := flatMap_le (l := List.range d.inp.length) (f := sendsK pl d j node bucket l) (c := 16 * l.length) fun k _ => sendsK_le _ _ _ _ _ _ _
    rw [List.length_range] at this
    exact Nat.le_trans this (Nat.mul_le_mul_right _ (h d (List.mem_of_getElem? hd)))
  · exact Nat.zero_le _
theorem pre_le {α : Type} (f : Nat → List α) {i n c : Nat} (hi : i ≤ n) (h : ∀ x, (f x).length ≤ c) : ((List.range i).flatMap f).length ≤ n * c := by
  have := flatMap_le (l := List.range i) (f := f) (c := c) fun x _ => h x
  rw [List.length_range] at this
  exact Nat.le_trans this (Nat.mul_le_mul_right _ hi)
theorem needP_bd {d : NodeD} {k bucket : Int} {r : List ValD} (h : 0 ≤ bucket ∧ bucket < 16) : 0 ≤ needP d k bucket r ∧ needP d k bucket r < 16 := by
  unfold needP
  split
  · exact bucket_bd _
  · exact h
/-- the parts, put together -/
theorem chunks_flat {α : Type} (l : List α) : (chunks l).flatten = l := by
  have key : ∀ n, ((List.range n).map (chunkP l)).flatten = l.take (8 * n) := by
    intro n
    induction n with
    | zero => simp
    | succ n ih =>
      rw [List.range_succ, List.map_append, List.flatten_append, ih, Nat.mul_succ, List.take_add]
      simp [chunkP]
  unfold chunks
  rw [key, List.take_of_length_le (by unfold partsN; omega)]
theorem chunk_len {α : Type} {l : List α} {k : Nat} (h : k < partsN l.length) : 1 ≤ (chunkP l k).length ∧ (chunkP l k).length ≤ 8 := by
  unfold chunkP
  rw [List.length_take, List.length_drop]
  unfold partsN at h
  omega
end Go.Proofs.YtbkpfhhhbhaecaaDoor
end

/-
  Route, walked: its parts.
-/
section
set_option linter.unusedVariables false
set_option linter.unusedSimpArgs false
namespace Go.Proofs.YtbkpfhhhbhaecaaDoor
open Go.Vc


/-! ### nodes -/
theorem node_pin {M : List Nat} {w : World} {b o : Nat} {cs : List (List Value)} {ns : List NodeD} (h : Pin b o cs ns M w) {j : Nat} (hj : j < ns.length) : ∃ x : NodeC, cs.getD j [] = x.cells ∧ x.Of ns[j] ∧ x.At ns[j] M w ∧ RowAt w b (o + j * 16) x.cells := by
  obtain ⟨_, h1, h2⟩ := h j hj
  obtain ⟨x, e, h3, h4⟩ := node_cells h2
  exact ⟨x, e, h3, h4, by rw [e] at h1; exact h1⟩
theorem node_inj {x y : NodeC} (h : x.cells = y.cells) : x = y := by
  cases x; cases y
  simp only [NodeC.cells, List.cons.injEq, Value.int.injEq, Value.slice.injEq, Value.string.injEq, true_and, and_true] at h
  obtain ⟨rfl, ⟨rfl, rfl, rfl⟩, rfl, rfl, ⟨rfl, rfl, rfl⟩, rfl, rfl, rfl, ⟨rfl, rfl, rfl⟩, ⟨rfl, rfl, rfl⟩, rfl, rfl, rfl, ⟨rfl, rfl, rfl⟩, ⟨rfl, rfl, rfl⟩, rfl, rfl, rfl⟩ := h
  rfl

/-! ### slices that grow, several of them -/
structure PB where
  p : Option Addr
  c : Nat
  ds : List Value
  l : List DeltaD
abbrev PB.own (x : PB) : Own := .buf x.p x.l.length x.c x.ds 77 3
abbrev PB.cell (x : PB) : Value := .slice x.p x.l.length x.c
def PBE (bs : List PB) : PW := fun M w => ∀ x ∈ bs, Elems M w x.ds x.l
instance instStablePBE (bs : List PB) : Stable (PBE bs) := ⟨fun hs h x hx => Stable.step (Φ := fun M w => Elems M w x.ds x.l) hs (h x hx)⟩
/-- .. that grow no more -/
def PBS (bs : List PB) : PW := fun M w => ∀ x ∈ bs, (x.l.length ≤ x.c ∧ x.c ≤ maxLen) ∧ Sl M w x.p x.l
instance instStablePBS (bs : List PB) : Stable (PBS bs) := ⟨fun hs h x hx => ⟨(h x hx).1, Stable.step (Φ := fun M w => Sl M w x.p x.l) hs (h x hx).2⟩⟩

section
variable {W w : World} {R G : List Own} {Φ PS : PW}

theorem Ctx.nobufs [Stable Φ] {S : List Own} (c : Ctx W w S Φ) : ∀ n : Nat, Ctx W w ((List.replicate n (⟨none, 0, [], []⟩ : PB)).map PB.own ++ S) Φ
  | 0 => c
  | n + 1 => (Ctx.nobufs c n).nobuf 77 3

theorem Ctx.dropB [Stable Φ] {bs : List PB} {o : Own} (c : Ctx W w (o :: (bs.map PB.own ++ R) ++ G) Φ) : Ctx W w (o :: R ++ G) Φ :=
  c.sub (List.Sublist.cons_cons _ (List.Sublist.append (List.sublist_append_right _ _) (List.Sublist.refl _)))

theorem pushK [Stable PS] {bs : List PB} {o : Own} {x : DeltaD} {q : Option Addr} {qc kb j : Nat} (hj : j < bs.length) (hx : ∀ M w, PS M w → Gv.rep M w (x.cells q qc) x) (ho : bs[j].l.length < 10000000)
    (cx : Ctx W w (.blk kb (x.cells q qc) 77 :: o :: (bs.map PB.own ++ R) ++ G) (fun M w => PS M w ∧ PBE bs M w)) :
    ∃ p c w', Sem.run Tryd.prog (builtin Builtin.append #[55, 55] 55 #[false, false] #[bs[j].cell, .slice (some ⟨kb, 0, none⟩) 1 1]) w = .ok (.value (.slice p (bs[j].l ++ [x]).length c)) w' ∧
      Ctx W w' (o :: ((bs.set j ⟨p, c, bs[j].ds ++ x.cells q qc, bs[j].l ++ [x]⟩).map PB.own ++ R) ++ G) (fun M w => PS M w ∧ PBE (bs.set j ⟨p, c, bs[j].ds ++ x.cells q qc, bs[j].l ++ [x]⟩) M w) := by
  obtain ⟨i, z, e1, e2, e3, e4, e5, e6⟩ := appB_out (show appB Tryd.prog 55 77 3 40 = true by kernel_rfl)
  have hk : ((.blk kb (x.cells q qc) 77 :: o :: (bs.map PB.own ++ R) ++ G : List Own))[j + 2]? = some (.buf bs[j].p bs[j].l.length bs[j].c bs[j].ds 77 3) := by
    show ((bs.map PB.own ++ R) ++ G)[j]? = _
    rw [List.append_assoc, List.getElem?_append_left (by rw [List.length_map]; exact hj), List.getElem?_map, List.getElem?_eq_getElem hj]
    rfl
  have hby : (bs[j].l.length + 1) * i.bytes ≤ 10000000 * 1000 := Nat.mul_le_mul (by omega) (by omega)
  obtain ⟨p', cap', w', h2, c'⟩ := cx.append (j + 2) hk (ty := 55) e1 e2 e3 e4 e5 (a := ⟨kb, 0, none⟩) (m := 1) (c2 := 1) (news := x.cells q qc) (by omega) rfl (fun j u hj => by rw [addr_add, Nat.zero_add]; exact cx.get 0 rfl hj)
    (fun u hu => List.all_eq_true.1 (show ((x.cells q qc).all fun u => oneC u) = true from rfl) u hu) (by omega) (by omega)
  have el : bs[j].l.length + 1 = (bs[j].l ++ [x]).length := by simp
  rw [el] at h2 c'
  have es : ((.blk kb (x.cells q qc) 77 :: o :: (bs.map PB.own ++ R) ++ G : List Own)).set (j + 2) (.buf p' (bs[j].l ++ [x]).length cap' (bs[j].ds ++ x.cells q qc) 77 3) = .blk kb (x.cells q qc) 77 :: (o :: ((bs.set j ⟨p', cap', bs[j].ds ++ x.cells q qc, bs[j].l ++ [x]⟩).map PB.own ++ R) ++ G) := by
    show _ :: _ :: ((bs.map PB.own ++ R) ++ G).set j _ = _
    rw [List.append_assoc, List.set_append_left _ _ (by rw [List.length_map]; exact hj), List.map_set, ← List.append_assoc]
    rfl
  rw [es] at c'
  refine ⟨p', cap', w', run_app h2, c'.drop1.weak fun M w h => ⟨h.1, fun y hy => ?_⟩⟩
  rcases List.mem_or_eq_of_mem_set hy with hy | rfl
  · exact h.2 y hy
  · exact (h.2 bs[j] (List.getElem_mem hj)).snoc (hx M w h.1)

/-- the slices grow no more -/
theorem freezeBs [Stable PS] {bs : List PB} {o : Own} (cx : Ctx W w (o :: (bs.map PB.own ++ R) ++ G) (fun M w => PS M w ∧ PBE bs M w)) : Ctx W w (o :: R ++ G) (fun M w => PS M w ∧ PBS bs M w) := by
  have cp : Ctx W w (bs.map PB.own ++ (o :: R ++ G)) (fun M w => PS M w ∧ PBE bs M w) := cx.perm (by
    show (o :: (bs.map PB.own ++ R ++ G)).Perm (bs.map PB.own ++ o :: (R ++ G))
    rw [List.append_assoc]
    exact List.perm_middle.symm)
  have hnd : PBS bs (dom (o :: R ++ G)) w := fun x hx => by
    have hm : x.own ∈ bs.map PB.own := List.mem_map_of_mem hx
    obtain ⟨n, hn, hxn⟩ := List.getElem_of_mem hm
    have hlb := cp.bufLen n (by rw [List.getElem?_append_left hn, List.getElem?_eq_getElem hn, hxn])
    exact ⟨⟨hlb.2.1, hlb.2.2⟩, Ctx.letGo (α := DeltaD) cp hm (cp.phi.2 x hx)⟩
  exact (Ctx.dropB cx).fst.add hnd

/-- one more message to send -/
theorem send_rep {M : List Nat} {w : World} {x : SendD} {q : Option Addr} {qc : Nat} (h1 : I64 x.worker ∧ I64 x.kind ∧ I64 x.node ∧ I64 x.inp ∧ I64 x.bucket ∧ I64 x.seq) (h2 : x.deltas.length ≤ qc) (h3 : qc ≤ maxLen) (h4 : Sl M w q x.deltas) :
    Gv.rep M w [.int .i64 x.worker, .int .i64 x.kind, .int .i64 x.node, .int .i64 x.inp, .int .i64 x.bucket, .int .i64 x.seq, .slice q x.deltas.length qc] x :=
  ⟨[_], _, rfl, ⟨rfl, h1.1⟩, [_], _, rfl, ⟨rfl, h1.2.1⟩, [_], _, rfl, ⟨rfl, h1.2.2.1⟩, [_], _, rfl, ⟨rfl, h1.2.2.2.1⟩, [_], _, rfl, ⟨rfl, h1.2.2.2.2.1⟩, [_], _, rfl, ⟨rfl, h1.2.2.2.2.2⟩, q, qc, rfl, h2, h3, h4⟩
theorem pushS [Stable PS] {op : Option Addr} {oc : Nat} {ds cs : List Value} {o : List SendD} {x : SendD} {kb : Nat} (hl : cs.length = 7) (h1 : (cs.all fun u => oneC u) = true) (hx : ∀ M w, PS M w → Gv.rep M w cs x) (ho : o.length < 10000000)
    (cx : Ctx W w (.blk kb cs 75 :: .buf op o.length oc ds 75 7 :: R ++ G) (fun M w => PS M w ∧ Elems M w ds o)) :
    ∃ p c w', Sem.run Tryd.prog (builtin Builtin.append #[70, 70] 70 #[false, false] #[.slice op o.length oc, .slice (some ⟨kb, 0, none⟩) 1 1]) w = .ok (.value (.slice p (o ++ [x]).length c)) w' ∧ Ctx W w' (.buf p (o ++ [x]).length c (ds ++ cs) 75 7 :: R ++ G) (fun M w => PS M w ∧ Elems M w (ds ++ cs) (o ++ [x])) := by
  obtain ⟨p', cap', w', hrun, _, cx'⟩ := Ctx.app1 (P := Tryd.prog) (ts := 70) (ty := 70) (kb := #[false, false]) (size := 7) (bytes := 72) cx (by kernel_rfl) (by omega) hl h1 (by omega) (by omega)
  have e : o.length + 1 = (o ++ [x]).length := by simp
  rw [e] at hrun cx'
  exact ⟨p', cap', w', hrun, cx'.weak fun M w h => ⟨h.1, h.2.snoc (hx M w h.1)⟩⟩

theorem Batches_use [Stable Φ] {S : List Own} {p : Option Addr} {n cp : Nat} (c : Ctx W w S Φ) {K : Ending → World → Prop}
    (hk : ∀ kb w', Ctx W w' (.blk kb [.slice p n cp] 55 :: S) Φ → K (.returned (.func (.func F.place_batches_1) #[] #[.pointer (some ⟨kb, 0, none⟩)])) w') : Calls Tryd.prog F.place_batches #[.slice p n cp] w K :=
  (Bplace_batches_run p n cp (R := S) c (J := fun v w' => K (.returned v) w') fun kb w' F cx => hk kb w' cx.left).mono fun e w' ⟨v, he, h⟩ => by subst he; exact h

theorem sl_part {M : List Nat} {g o : Nat} {D : List DeltaD} (h : Sl M w (some ⟨g, o, none⟩) D) (k : Nat) : Sl M w (some ⟨g, o + 8 * k * 3, none⟩) (chunkP D k) := fun j hj => by
  unfold chunkP at hj ⊢
  rw [List.length_take, List.length_drop] at hj
  obtain ⟨b, o2, cs, e, h1, h2, h3⟩ := h (8 * k + j) (by omega)
  cases e
  refine ⟨g, o + 8 * k * 3, cs, rfl, h1, ?_, ?_⟩
  · have e : o + 8 * k * 3 + j * (Gv.ty DeltaD).size = o + (8 * k + j) * (Gv.ty DeltaD).size := by
      show o + 8 * k * 3 + j * 3 = o + (8 * k + j) * 3
      omega
    rw [e]; exact h2
  · rw [List.getElem_take, List.getElem_drop]; exact h3
theorem part_len {α : Type} (D : List α) (k : Nat) : (min (8 * (k : Int) + 8) (D.length : Int)).toNat - 8 * k = (chunkP D k).length := by
  unfold chunkP
  rw [List.length_take, List.length_drop]
  omega
end
end Go.Proofs.YtbkpfhhhbhaecaaDoor
end

/-
  Route, walked.
-/
section
set_option linter.unusedVariables false
set_option linter.unusedSimpArgs false
namespace Go.Proofs.YtbkpfhhhbhaecaaDoor
open Go.Vc


theorem CloneV_to {Φ : PW} [Stable Φ] {p : Option Addr} {cap : Nat} {r : List ValD} [hΦ : Has Φ (fun M w => Sl M w p r)] (hlen : r.length ≤ 1000000) : GivesSl Φ Tryd.prog F.slices_Clone_api_Value_api_Value #[.slice p r.length cap] r id :=
  ⟨fun W w S c => (CloneV_in (Φ := Φ) p cap r (fun M w h => hΦ.go M w h) (by omega)).use c fun p1 cap1 ds w cx => by
    obtain ⟨c2, hs, _, h2, h3⟩ := Ctx.freeze (α := ValD) cx cx.phi.2
    exact ⟨p1, cap1, rfl, h2, h3, (c2.add hs).weak fun M w h => ⟨h.1.1, h.2⟩⟩⟩
theorem CloneD_to {Φ : PW} [Stable Φ] {p : Option Addr} {cap : Nat} {r : List DeltaD} [hΦ : Has Φ (fun M w => Sl M w p r)] (hlen : r.length ≤ 1000000) : GivesSl Φ Tryd.prog F.slices_Clone_api_Delta_api_Delta #[.slice p r.length cap] r id :=
  ⟨fun W w S c => (CloneD_in (Φ := Φ) p cap r (fun M w h => hΦ.go M w h) (by omega)).use c fun p1 cap1 ds w cx => by
    obtain ⟨c2, hs, _, h2, h3⟩ := Ctx.freeze (α := DeltaD) cx cx.phi.2
    exact ⟨p1, cap1, rfl, h2, h3, (c2.add hs).weak fun M w h => ⟨h.1.1, h.2⟩⟩⟩

theorem sl_i64z {M : List Nat} {w : World} {p : Option Addr} {l : List Int} (h : Sl M w p l) : ∀ x ∈ l, I64 x := fun x hx => by
  obtain ⟨j, hj, rfl⟩ := List.getElem_of_mem hx
  obtain ⟨_, _, _, _, _, _, h2⟩ := h j hj
  exact h2.2

section
variable {Φ : PW} {nP pP lP : Option Addr} {nC pC lC : Nat} {ns : List NodeD} {pl : List Int} {l : List DeltaD} {node bucket : Int}

set_option maxHeartbeats 4000000 in
theorem Route_sl [Stable Φ] [hT : Has Φ TabI] [hN : Has Φ (fun M w => Sl M w nP ns)] [hP : Has Φ (fun M w => Sl M w pP pl)] [hL : Has Φ (fun M w => Sl M w lP l)] (hpl : pl.length = 16) (hb : 0 ≤ bucket ∧ bucket < 16) (hns : ns.length ≤ 20)
    (hlt : ∀ d ∈ ns, d.inp.length ≤ 10 ∧ d.key.length ≤ 13 ∧ d.key2.length ≤ 13) (hl : l.length ≤ 40) (hrow : ∀ x ∈ l, x.row.length ≤ 12 ∧ ∀ v ∈ x.row, v.text.size ≤ 200) :
    GivesSl Φ Tryd.prog F.place_Route #[.slice nP ns.length nC, .slice pP pl.length pC, .int .i64 node, .int .i64 bucket, .slice lP l.length lC] (routeP pl ns node bucket l) id := by
  refine .pinned (hN.go) fun gN oN cN hpN => .pinned (fun M w h => hL.go M w h.1) fun gL oL cL hpL => ?_
  obtain ⟨PS, hPS⟩ : ∃ PS : PW, PS = (fun M w => (Φ M w ∧ Pin gN oN cN ns M w) ∧ Pin gL oL cL l M w) := ⟨_, rfl⟩
  have stP : Stable PS := by rw [hPS]; infer_instance
  have i0 : ∀ M w, PS M w → Φ M w := fun M w h => by rw [hPS] at h; exact h.1.1
  have iN : ∀ M w, PS M w → Pin gN oN cN ns M w := fun M w h => by rw [hPS] at h; exact h.1.2
  have iL : ∀ M w, PS M w → Pin gL oL cL l M w := fun M w h => by rw [hPS] at h; exact h.2
  suffices hgo : GivesSl PS Tryd.prog F.place_Route #[.slice nP ns.length nC, .slice pP pl.length pC, .int .i64 node, .int .i64 bucket, .slice lP l.length lC] (routeP pl ns node bucket l) id by rw [← hPS]; exact hgo
  clear hPS
  refine .there (fun M w h => (hP.go M w (i0 M w h)).there) fun htp => ?_
  -- what the cells of a node and of a delta are, for good
  suffices hgo : (∀ j, (hj : j < ns.length) → ∃ x : NodeC, cN.getD j [] = x.cells ∧ x.Of ns[j]) → (∀ j, (hj : j < l.length) → ∃ p c, cL.getD j [] = l[j].cells p c ∧ l[j].row.length ≤ c ∧ c ≤ maxLen ∧ I64 l[j].time ∧ I64 l[j].n) → (∀ x ∈ pl, I64 x) →
      GivesSl PS Tryd.prog F.place_Route #[.slice nP ns.length nC, .slice pP pl.length pC, .int .i64 node, .int .i64 bucket, .slice lP l.length lC] (routeP pl ns node bucket l) id from
    ⟨fun W w S c => (hgo (fun j hj => by obtain ⟨x, h1, h2, _⟩ := node_pin (iN _ _ c.phi) hj; exact ⟨x, h1, h2⟩) (fun j hj => by obtain ⟨p, c, h1, h2, h3, h4, h5, _⟩ := pin_delta (iL _ _ c.phi) hj; exact ⟨p, c, h1, h2, h3, h4, h5⟩) (sl_i64z (hP.go _ _ (i0 _ _ c.phi)))).go W w S c⟩
  intro hnc hlc hpi
  refine gives_sl (Bplace_Route_run nP ns.length nC pP pl.length pC node bucket lP l.length lC) fun W R => ?_
  refine fun _ _ => ?_
  obtain ⟨o0, ho0⟩ : ∃ o0 : Nat → List SendD, o0 = fun i => (List.range i).flatMap (sendsJ pl ns node bucket l) := ⟨_, rfl⟩
  have o0l : ∀ i, i ≤ ns.length → (o0 i).length ≤ 20 * (10 * (16 * 40)) := fun i hi => by
    rw [ho0]
    refine Nat.le_trans (pre_le _ (by omega : i ≤ 20) fun j => Nat.le_trans (sendsJ_le pl ns node bucket l j fun d hd => (hlt d hd).1) (Nat.mul_le_mul_left 10 (Nat.mul_le_mul_left 16 hl))) (Nat.le_refl _)
  refine exI_mk (fun n op on oc R' Φ' m => ∃ (i : Nat) (ds : List Value), n = i ∧ i ≤ ns.length ∧ on = (o0 i).length ∧ R' = .buf op (o0 i).length oc ds 75 7 :: R ∧ Φ' = (fun M w => PS M w ∧ Elems M w ds (o0 i)) ∧ m = ns.length - i)
    ⟨⟨.buf none 0 0 [] 75 7 :: R, (fun M w => PS M w ∧ Elems M w [] ([] : List SendD)), _, inferInstance, fun w G cx => (cx.nobuf 75 7).weak fun M w h => ⟨h, Elems.nil⟩, 0, [], rfl, Nat.zero_le _, by rw [ho0]; rfl, by rw [ho0]; rfl, by rw [ho0]; rfl, rfl⟩, ?_⟩
  rintro n op on oc R1 Φ1 m _ ⟨i, ds, rfl, hi, rfl, rfl, rfl, rfl⟩
  refine Br.intro (fun hlt1 => ?_) (fun hge => fun w G cx => ?_)
  rotate_left
  · have hge : i = ns.length := by have := of_decide_eq_false hge; omega
    subst hge
    obtain ⟨cx2, hs, _, h2, h3⟩ := Ctx.freeze (α := SendD) cx.left cx.left.phi.2
    have e : o0 ns.length = routeP pl ns node bucket l := by rw [ho0]; rfl
    rw [e] at h2 hs ⊢
    exact ⟨op, oc, rfl, h2, h3, (cx2.add hs).weak fun M w h => ⟨h.1.1, h.2⟩⟩
  have hlt1 : i < ns.length := by have := of_decide_eq_true hlt1; omega
  obtain ⟨x, hxc, hxo⟩ := hnc i hlt1
  obtain ⟨hd1, hd2, hd3⟩ := hlt ns[i] (List.getElem_mem hlt1)
  have eJ : ∀ d, ns[i] = d → o0 (i + 1) = o0 i ++ (List.range d.inp.length).flatMap (sendsK pl d i node bucket l) := fun d hd => by
    rw [ho0]
    simp only [range_step]
    congr 1
    unfold sendsJ
    rw [List.getElem?_eq_getElem hlt1, hd]
  have hxa : ∀ M w, PS M w → x.At ns[i] M w := fun M w h => by
    obtain ⟨y, h1, _, h3, _⟩ := node_pin (iN M w h) hlt1
    rw [hxc] at h1
    rw [node_inj h1]
    exact h3
  have hxr : ∀ M w, PS M w → RowAt w gN (oN + i * 16) x.cells := fun M w h => by
    obtain ⟨y, h1, _, _, h4⟩ := node_pin (iN M w h) hlt1
    rw [hxc] at h1
    rw [node_inj h1]
    exact h4
  have hr9 := o0l i hi
  obtain ⟨d, hd⟩ : ∃ d, ns[i] = d := ⟨_, rfl⟩
  have eJ := eJ d hd
  rw [hd] at hxo hd1 hd2 hd3 hxa
  refine ⟨by omega, ptrK_intro gN oN (hpN (by omega)) fun w G cx => ⟨x.n0, x.n1P, x.n1N, x.n1C, x.n2, x.n3, x.n4P, x.n4N, x.n4C, x.n5, x.n6, x.n7, x.n8P, x.n8N, x.n8C, x.n9P, x.n9N, x.n9C, x.n10, x.n11, x.n12, x.n13P, x.n13N, x.n13C, x.n14P, x.n14N, x.n14C, x.n15P, x.n15N, x.n15C, by rw [Int.toNat_natCast]; exact hxr _ _ cx.phi.1, fun _ _ => ?_⟩⟩
  have htI := (hxa _ _ cx.phi.1).1.there
  clear cx
  have hinl := hxo.inp
  rw [hinl]
  obtain ⟨o1, ho1⟩ : ∃ o1 : Nat → List SendD, o1 = fun k => o0 i ++ (List.range k).flatMap (sendsK pl d i node bucket l) := ⟨_, rfl⟩
  have o1l : ∀ k, k ≤ d.inp.length → (o1 k).length ≤ 20 * (10 * (16 * 40)) + 10 * (16 * 40) := fun k hk => by
    rw [ho1, List.length_append]
    have := pre_le (sendsK pl d i node bucket l) (by omega : k ≤ 10) fun j => Nat.le_trans (sendsK_le pl d i node bucket l j) (Nat.mul_le_mul_left 16 hl)
    omega
  have e10 : o1 0 = o0 i := by rw [ho1]; simp
  have e1s : ∀ k, o1 (k + 1) = o1 k ++ sendsK pl d i node bucket l k := fun k => by rw [ho1]; simp only [range_step, List.append_assoc]
  have e1f : o1 d.inp.length = o0 (i + 1) := by rw [ho1, eJ]
  refine exI_mk (fun n op on oc R' Φ' m => ∃ (k : Nat) (ds : List Value), n = k ∧ k ≤ d.inp.length ∧ on = (o1 k).length ∧ R' = .buf op (o1 k).length oc ds 75 7 :: R ∧ Φ' = (fun M w => PS M w ∧ Elems M w ds (o1 k)) ∧ m = d.inp.length - k)
    ⟨⟨_, _, _, inferInstance, fun w G cx => cx, 0, ds, rfl, Nat.zero_le _, by rw [e10], by rw [e10], by rw [e10], rfl⟩, ?_⟩
  clear ho1
  rintro n op on oc R1 Φ1 m _ ⟨k, ds, rfl, hk, rfl, rfl, rfl, rfl⟩
  refine Br.intro (fun hlt2 => ?_) (fun hge => ?_)
  rotate_left
  · have hge : k = d.inp.length := by have := of_decide_eq_false hge; omega
    subst hge
    rw [e1f]
    exact ⟨by unfold I64; omega, _, _, ns.length - (i + 1), inferInstance, fun w G cx => cx, ⟨i + 1, ds, rfl, hlt1, rfl, rfl, rfl, rfl⟩, by omega⟩
  have hlt2 : k < d.inp.length := by have := of_decide_eq_true hlt2; omega
  obtain ⟨gI, oI, hpI⟩ := htI (by omega)
  refine ⟨by omega, ptrK_intro gI oI hpI fun w G cx => ⟨d.inp[k], by rw [Int.toNat_natCast]; exact sl_int (by rw [← hpI]; exact (hxa _ _ cx.phi.1).1) hlt2, fun _ => Br.intro (fun hne => ?_) (fun heq => ?_)⟩⟩
  · have hne := of_decide_eq_true hne
    have e : o1 (k + 1) = o1 k := by
      rw [e1s]
      unfold sendsK
      rw [if_neg (by rw [List.getD_eq_getElem?_getD, List.getElem?_eq_getElem hlt2]; exact hne), List.append_nil]
    exact ⟨by unfold I64; omega, _, _, d.inp.length - (k + 1), inferInstance, fun w G cx => cx, ⟨k + 1, ds, rfl, hlt2, by rw [e], by rw [e], by rw [e], rfl⟩, by omega⟩
  clear cx
  have heq : d.inp[k] = node := Decidable.not_not.1 (of_decide_eq_false heq)
  have eK : sendsK pl d i node bucket l k = (List.range 16).flatMap (sendsB pl d i k bucket l) := by
    unfold sendsK
    rw [if_pos (by rw [List.getD_eq_getElem?_getD, List.getElem?_eq_getElem hlt2]; exact heq)]
  have hr1 := o1l k (by omega)
  -- the deltas are dealt
  intro k0
  obtain ⟨QS, hQS⟩ : ∃ QS : PW, QS = (fun M w => PS M w ∧ Elems M w ds (o1 k)) := ⟨_, rfl⟩
  have stQ : Stable QS := by rw [hQS]; infer_instance
  have iQ : ∀ M w, QS M w → PS M w := fun M w h => by rw [hQS] at h; exact h.1
  obtain ⟨R1, hR1⟩ : ∃ R1 : List Own, R1 = .buf op (o1 k).length oc ds 75 7 :: R := ⟨_, rfl⟩
  rw [← hQS, ← hR1]
  refine exI_mk (fun iI R' Φ' m => ∃ (i : Nat) (bs : List PB), iI = i ∧ i ≤ l.length ∧ bs.length = 16 ∧ (∀ j, (hj : j < bs.length) → bs[j].l = dealtP d k bucket (l.take i) j) ∧ R' = .blk k0 (bs.map PB.cell) 127 :: (bs.map PB.own ++ R1) ∧ Φ' = (fun M w => QS M w ∧ PBE bs M w) ∧ m = l.length - i)
    ⟨⟨_, fun M w => QS M w ∧ PBE (List.replicate 16 ⟨none, 0, [], []⟩) M w, _, inferInstance, fun w G cx => ?_, 0, List.replicate 16 ⟨none, 0, [], []⟩, rfl, Nat.zero_le _, rfl, fun j hj => ?_, rfl, rfl, rfl⟩, ?_⟩
  · have c2 := Ctx.nobufs cx 16
    have c3 := c2.perm (List.perm_middle (a := .blk k0 ((List.replicate 16 (⟨none, 0, [], []⟩ : PB)).map PB.cell) 127) (l₁ := (List.replicate 16 (⟨none, 0, [], []⟩ : PB)).map PB.own) (l₂ := R1 ++ G))
    rw [← List.append_assoc] at c3
    refine Ctx.weak c3 fun M w h => ⟨h, fun x hx => ?_⟩
    rw [List.eq_of_mem_replicate hx]
    exact Elems.nil
  · rw [List.getElem_replicate, List.take_zero]
    rfl
  rintro iI R2 Φ2 m _ ⟨t, bs, rfl, ht, hbl, hbs, rfl, rfl, rfl⟩
  have st2 : Stable (fun M w => QS M w ∧ PBE bs M w) := inferInstance
  refine Br.intro (fun hlt3 => ?_) (fun hge => ?_)
  · have hlt3 : t < l.length := by have := of_decide_eq_true hlt3; omega
    obtain ⟨q, qc, he, f1, f2, f3, f4⟩ := hlc t hlt3
    have hf := hrow l[t] (List.getElem_mem hlt3)
    obtain ⟨X, hX⟩ : ∃ X, l[t] = X := ⟨_, rfl⟩
    have slX : ∀ M w, PS M w → Sl M w q X.row := fun M w h => by rw [← hX]; exact pin_row (iL M w h) hlt3 he
    refine ⟨by omega, ptrK_intro gL oL (hpL (by omega)) fun w G cx => ⟨X.time, q, X.row.length, qc, X.n, by rw [Int.toNat_natCast, ← hX]; exact pin_rowAt (iL _ _ (iQ _ _ cx.phi.1)) hlt3 he, fun _ w G cx => ?_⟩⟩
    rw [hX] at f1 f3 f4 hf
    have hN := Need_in (Φ := fun M w => QS M w ∧ PBE bs M w) (x := x) (d := d) (inx := (k : Int)) (bucket := bucket) (p := q) (cap := qc) (r := X.row) (hT := ⟨fun M w h => hT.go M w (i0 M w (iQ M w h.1))⟩) hxo (hA := ⟨fun M w h => hxa M w (iQ M w h.1)⟩) (hΦ := ⟨fun M w h => slX M w (iQ M w h.1)⟩) (by omega) (by omega) (len_max f1 f2 |> fun h => by unfold maxLen; omega) (fun v hv => by have := hf.2 v hv; omega)
    simp only [NodeC.v] at hN
    rw [hinl] at hN
    refine hN.toI cx ?_
    clear cx hN
    obtain ⟨hb1, hb2⟩ := needP_bd (d := d) (k := (k : Int)) (r := X.row) hb
    obtain ⟨j, hj⟩ : ∃ j : Nat, needP d k bucket X.row = (j : Int) := ⟨(needP d k bucket X.row).toNat, by omega⟩
    have hj16 : j < bs.length := by omega
    have htk : l.take (t + 1) = l.take t ++ [X] := by rw [List.take_succ_eq_append_getElem hlt3, hX]
    have hfl : bs[j].l.length ≤ t := by
      rw [hbs j hj16]
      have := dealt_le d k bucket (l.take t) j
      rw [List.length_take] at this
      omega
    rw [hj]
    have e0 : 0 + (j : Int).toNat = j := by omega
    refine fun w G cx => (CloneV_to (Φ := fun M w => QS M w ∧ PBE bs M w) (p := q) (cap := qc) (r := X.row) (hΦ := ⟨fun M w h => slX M w (iQ M w h.1)⟩) (by omega)).tot cx fun q2 qc2 g1 g2 g3 st3 => ?_
    clear cx
    obtain ⟨QT, hQT⟩ : ∃ QT : PW, QT = (fun M w => QS M w ∧ Sl M w q2 X.row) := ⟨_, rfl⟩
    have stT : Stable QT := by rw [hQT]; infer_instance
    have iT : ∀ M w, QT M w → QS M w := fun M w h => by rw [hQT] at h; exact h.1
    have sT : ∀ M w, QT M w → Sl M w q2 X.row := fun M w h => by rw [hQT] at h; exact h.2
    have sw : ∀ M w, ((QS M w ∧ PBE bs M w) ∧ Sl M w q2 X.row) → QT M w ∧ PBE bs M w := fun M w h => by rw [hQT]; exact ⟨⟨h.1.1, h.2⟩, h.1.2⟩
    refine ⟨.blk k0 (bs.map PB.cell) 127 :: R1, QT, stT, fun w G cx => (Ctx.dropB (cx.weak sw)).fst, by omega, bs[j].p, bs[j].l.length, bs[j].c, fun w G cx => ⟨_, _, _, cx.get 0 rfl (by rw [e0, List.getElem?_map, List.getElem?_eq_getElem hj16]; rfl), rfl⟩, fun kb => ⟨fun w G cx => (Ctx.dropB (Ctx.weak cx.drop1 sw)).fst, fun w G cx => ?_⟩⟩
    obtain ⟨p', c', w', hrun, cx'⟩ := pushK (x := X) hj16 (fun M w h => rep_delta g1 g2 f3 f4 (sT M w h)) (by omega) (cx.weak sw)
    clear cx
    obtain ⟨new, hnew⟩ : ∃ new : PB, new = ⟨p', c', bs[j].ds ++ X.cells q2 qc2, bs[j].l ++ [X]⟩ := ⟨_, rfl⟩
    rw [← hnew] at cx'
    have ep : p' = new.p := by rw [hnew]
    have ec : c' = new.c := by rw [hnew]
    have ell : bs[j].l ++ [X] = new.l := by rw [hnew]
    rw [ep, ec, ell] at hrun
    have st4 : Stable (fun M w => QT M w ∧ PBE (bs.set j new) M w) := inferInstance
    refine ⟨new.p, new.l.length, new.c, w', hrun, .blk k0 (bs.map PB.cell) 127 :: ((bs.set j new).map PB.own ++ R1), _, st4, cx', fun w G cx => (Ctx.dropB cx).fst, by omega, fun w G cx => ⟨cx.can 0 rfl (by rw [e0, List.length_map]; omega), fun w' hw' => ?_⟩⟩
    rw [e0] at hw'
    have cx2 := cx.put 0 hw' rfl
    have em : (bs.map PB.cell).set j (.slice new.p new.l.length new.c) = (bs.set j new).map PB.cell := by rw [List.map_set]
    have cx3 : Ctx W w' (.blk k0 ((bs.set j new).map PB.cell) 127 :: ((bs.set j new).map PB.own ++ R1) ++ G) (fun M w => QT M w ∧ PBE (bs.set j new) M w) := by
      rw [← em]
      exact cx2
    refine ⟨_, _, st4, cx3, by unfold I64; omega, _, _, l.length - (t + 1), inferInstance, fun w G cx => cx.weak fun M w h => ⟨iT M w h.1, h.2⟩, ⟨t + 1, bs.set j new, by omega, hlt3, by rw [List.length_set]; exact hbl, fun s hs => ?_, rfl, rfl, rfl⟩, by omega⟩
    rw [List.length_set] at hs
    unfold dealtP at hbs ⊢
    rw [htk, List.filter_append, List.getElem_set]
    split
    · rename_i hjs
      subst hjs
      rw [← ell, hbs j hj16, List.filter_cons_of_pos (by rw [hj]; exact decide_eq_true rfl)]
      rfl
    · rename_i hjs
      rw [hbs s hs, List.filter_cons_of_neg (by rw [hj, decide_eq_true_eq]; omega)]
      simp
  · have hge : t = l.length := by have := of_decide_eq_false hge; omega
    subst hge
    rw [List.take_length] at hbs
    obtain ⟨o2, ho2⟩ : ∃ o2 : Nat → List SendD, o2 = fun b => o1 k ++ (List.range b).flatMap (sendsB pl d i k bucket l) := ⟨_, rfl⟩
    have o2l : ∀ b, b ≤ 16 → (o2 b).length ≤ 200000 := fun b hb => by
      rw [ho2, List.length_append]
      have := pre_le (sendsB pl d i k bucket l) hb fun j => Nat.le_trans (sendsB_le pl d i k bucket l j) hl
      omega
    have e20 : o2 0 = o1 k := by rw [ho2]; simp
    have e2s : ∀ b, o2 (b + 1) = o2 b ++ sendsB pl d i k bucket l b := fun b => by rw [ho2]; simp only [range_step, List.append_assoc]
    have e2f : o2 16 = o1 (k + 1) := by rw [ho2, e1s, eK]
    clear ho2
    subst hQS hR1
    refine exI_mk (fun n op on oc R' Φ' m => ∃ (b : Nat) (ds : List Value), n = b ∧ b ≤ 16 ∧ on = (o2 b).length ∧ R' = .buf op (o2 b).length oc ds 75 7 :: .blk k0 (bs.map PB.cell) 127 :: R ∧ Φ' = (fun M w => (PS M w ∧ PBS bs M w) ∧ Elems M w ds (o2 b)) ∧ m = 16 - b)
      ⟨⟨_, _, _, inferInstance, fun w G cx => ?_, 0, ds, rfl, by omega, by rw [e20], rfl, rfl, rfl⟩, ?_⟩
    · rw [e20]
      have c1 := freezeBs cx
      exact (c1.perm (List.Perm.swap _ _ _)).weak fun M w h => ⟨⟨h.1.1, h.2⟩, h.1.2⟩
    rintro n op on oc R1 Φ1 m _ ⟨b, ds, rfl, hb16, rfl, rfl, rfl, rfl⟩
    refine Br.intro (fun hlt4 => fun _ => ?_) (fun hge => ?_)
    rotate_left
    · have hge : b = 16 := by have := of_decide_eq_false hge; omega
      subst hge
      rw [e2f]
      exact ⟨by unfold I64; omega, _, _, d.inp.length - (k + 1), inferInstance, fun w G cx => ((cx.perm (List.Perm.swap _ _ _)).drop1).weak fun M w h => ⟨h.1.1, h.2⟩, ⟨k + 1, ds, rfl, hlt2, rfl, rfl, rfl, rfl⟩, by omega⟩
    have hlt4 : b < 16 := by have := of_decide_eq_true hlt4; omega
    have hbb : b < bs.length := by omega
    have e0 : 0 + (b : Int).toNat = b := by omega
    obtain ⟨B, hB⟩ : ∃ B, bs[b] = B := ⟨_, rfl⟩
    have hBm : B ∈ bs := by rw [← hB]; exact List.getElem_mem hbb
    have hBl : B.l = dealtP d k bucket l b := by rw [← hB]; exact hbs b hbb
    have hB40 : B.l.length ≤ 40 := by rw [hBl]; exact Nat.le_trans (dealt_le _ _ _ _ _) hl
    refine ⟨by omega, fun w G cx => ⟨B.p, B.l.length, B.c, by rw [e0]; exact cx.get 1 rfl (by rw [List.getElem?_map, List.getElem?_eq_getElem hbb, hB]; rfl), ?_⟩⟩
    obtain ⟨⟨hBc, hBx⟩, hBs⟩ := cx.phi.1.2 B hBm
    have htB := hBs.there
    clear cx hBs
    refine fun w G cx => Batches_use cx fun kb w cx => ?_
    obtain ⟨g, o, hgo⟩ : ∃ g o, 0 < B.l.length → B.p = some ⟨g, o, none⟩ := by
      rcases Nat.eq_zero_or_pos B.l.length with h | h
      · exact ⟨0, 0, fun h2 => by omega⟩
      · obtain ⟨g, o, e⟩ := htB h
        exact ⟨g, o, fun _ => e⟩
    have cx : Ctx W w (.buf op (o2 b).length oc ds 75 7 :: .blk kb [B.cell] 55 :: .blk k0 (bs.map PB.cell) 127 :: R ++ G) (fun M w => (PS M w ∧ PBS bs M w) ∧ Elems M w ds (o2 b)) := cx.perm (List.Perm.swap _ _ _)
    have hr2 := o2l b hb16
    have e2b := e2s b
    unfold sendsB at e2b
    rw [← hBl] at e2b
    refine ⟨F.place_batches_1, #[], #[.pointer (some ⟨kb, 0, none⟩)], rfl, _, _, inferInstance, cx, rfl, by kernel_rfl, partsN B.l.length, exI_mk (fun s => [partV g o B.l.length B.c s]) (exI_mk (fun w => w.cell? ⟨kb, 0, none⟩ = some (.slice B.p B.l.length B.c)) (exI_mk (fun p n c s => p = some ⟨g, o + 8 * s * 3, none⟩ ∧ n = (chunkP B.l s).length ∧ c = B.c - 8 * s)
      (exI_mk (fun op on oc R' Φ' s => ∃ (ds : List Value) (o3 : List SendD), o3 = o2 b ++ (List.range s).map (fun s => sendP pl i k b (chunkP B.l s)) ∧ s ≤ partsN B.l.length ∧ on = o3.length ∧ R' = .buf op o3.length oc ds 75 7 :: .blk kb [B.cell] 55 :: .blk k0 (bs.map PB.cell) 127 :: R ∧ Φ' = (fun M w => (PS M w ∧ PBS bs M w) ∧ Elems M w ds o3))
        ⟨batches_iter' hgo hBc hBx (by omega), fun s hs => ⟨rfl, part_len _ _, rfl⟩, ⟨_, _, inferInstance, fun w G cx => cx, ds, o2 b, by simp, Nat.zero_le _, rfl, rfl, rfl⟩, ?_⟩)))⟩
    clear cx
    rintro op on oc R1 Φ1 s _ ⟨ds, o3, ho3, hs, rfl, rfl, rfl⟩
    refine ⟨fun w G cx => cx.get 1 rfl rfl, fun hlt5 => ?_, fun hs2 => ?_⟩
    rotate_left
    · have e : o3 = o2 (b + 1) := by
        rw [ho3, e2b, hs2]
        unfold chunks
        rw [List.map_map]; rfl
      subst e
      exact ⟨by unfold I64; omega, _, _, 16 - (b + 1), inferInstance, fun w G cx => (cx.perm (List.Perm.swap _ _ _)).drop1, ⟨b + 1, ds, rfl, hlt4, rfl, rfl, rfl, rfl⟩, by omega⟩
    rintro p n c ⟨rfl, rfl, rfl⟩
    obtain ⟨gP, oP, hpP⟩ := htp (by omega)
    have hBp := hgo (by unfold partsN at hlt5; omega)
    have hbp : b < pl.length := by omega
    have hpb : pl.getD b 0 = pl[b] := by rw [List.getD_eq_getElem?_getD, List.getElem?_eq_getElem hbp]; rfl
    have hck := chunk_len hlt5
    have hI : I64 (pl.getD b 0) ∧ I64 (0 : Int) ∧ I64 (i : Int) ∧ I64 (k : Int) ∧ I64 (b : Int) ∧ I64 (0 : Int) := ⟨by rw [hpb]; exact hpi _ (List.getElem_mem hbp), by unfold I64; decide, by unfold I64; omega, by unfold I64; omega, by unfold I64; omega, by unfold I64; decide⟩
    have ho3l : o3.length ≤ 300000 := by
      rw [ho3, List.length_append, List.length_map, List.length_range]
      have := parts_le B.l.length
      omega
    refine ⟨[], PS, stP, fun w G cx => (cx.sub (List.sublist_append_right _ _)).weak fun M w h => h.1.1, by omega, ptrK_intro gP oP hpP ⟨pl.getD b 0, fun w G cx => ⟨_, by rw [Int.toNat_natCast, hpb]; exact sl_int (by rw [← hpP]; exact hP.go _ _ (i0 _ _ cx.phi)) hbp, rfl⟩, fun w G cx => ?_⟩⟩
    refine (CloneD_to (Φ := fun M w => (PS M w ∧ PBS bs M w) ∧ Elems M w ds o3) (p := some ⟨g, o + 8 * s * 3, none⟩) (cap := B.c - 8 * s) (r := chunkP B.l s) (hΦ := ⟨fun M w h => sl_part (by rw [← hBp]; exact (h.1.2 B hBm).2) s⟩) (by omega)).tot cx fun q qc g1 g2 g3 st3 => ⟨fun w G cx => (cx.sub (List.sublist_append_right _ _)).weak fun M w h => h.1.1.1, fun kb2 => ⟨fun w G cx => (cx.sub (List.sublist_append_right _ _)).weak fun M w h => h.1.1.1, fun w G cx => ?_⟩⟩
    obtain ⟨p', c', w', hrun, cx'⟩ := pushS (PS := fun M w => (PS M w ∧ PBS bs M w) ∧ Sl M w q (chunkP B.l s)) (x := sendP pl i k b (chunkP B.l s)) (kb := kb2) (cs := [.int .i64 (pl.getD b 0), .int .i64 0, .int .i64 (i : Int), .int .i64 (k : Int), .int .i64 (b : Int), .int .i64 0, .slice q (chunkP B.l s).length qc]) rfl rfl
      (fun M w h => send_rep (x := sendP pl i k b (chunkP B.l s)) hI g1 g2 h.2) (by omega) (cx.weak fun M w h => ⟨⟨h.1.1, h.2⟩, h.1.2⟩)
    exact ⟨p', _, c', w', hrun, _, _, inferInstance, cx', _, _, inferInstance, fun w G cx => cx.weak fun M w h => ⟨h.1.1, h.2⟩, _, o3 ++ [sendP pl i k b (chunkP B.l s)], by rw [ho3, List.range_succ, List.map_append, List.append_assoc]; rfl, hlt5, rfl, rfl, rfl⟩
end
end Go.Proofs.YtbkpfhhhbhaecaaDoor
end

/-
  The bounds of the law PlaceRoutes, walked.
-/
section
set_option linter.unusedVariables false
set_option linter.unusedSimpArgs false
namespace Go.Proofs.YtbkpfhhhbhaecaaDoor
open Go.Vc


def lightN (d : NodeD) : Bool := !(decide (10 < (d.inp.length : Int)) || decide (13 < (d.key.length : Int)) || decide (13 < (d.key2.length : Int)))
def lightB (ns : List NodeD) : Bool := ns.all lightN && decide ((ns.length : Int) ≤ 20)
theorem light_out {ns : List NodeD} (h : lightB ns = true) : ns.length ≤ 20 ∧ ∀ d ∈ ns, d.inp.length ≤ 10 ∧ d.key.length ≤ 13 ∧ d.key2.length ≤ 13 := by
  unfold lightB at h
  rw [Bool.and_eq_true] at h
  have h2 := of_decide_eq_true h.2
  refine ⟨by omega, fun d hd => ?_⟩
  have := List.all_eq_true.1 h.1 d hd
  unfold lightN at this
  simp only [Bool.not_eq_true', Bool.or_eq_false_iff, decide_eq_false_iff_not] at this
  omega

section
variable {Φ : PW} {p q : Option Addr} {cap cap2 : Nat}

theorem light_in [Stable Φ] {ns : List NodeD} [hN : Has Φ (fun M w => Sl M w p ns)] (hlen : ns.length ≤ maxLen) : GivesIn Φ Tryd.prog F.erratalaw37_light #[.slice p ns.length cap] (.bool (lightB ns)) := by
  refine .pinned hN.go fun g o cs hp => ?_
  suffices hgo : (∀ j, (hj : j < ns.length) → ∃ x : NodeC, cs.getD j [] = x.cells ∧ x.Of ns[j]) → GivesIn (fun M w => Φ M w ∧ Pin g o cs ns M w) Tryd.prog F.erratalaw37_light #[.slice p ns.length cap] (.bool (lightB ns)) from
    ⟨fun W w S c => (hgo fun j hj => by obtain ⟨x, h1, h2, _⟩ := node_pin c.phi.2 hj; exact ⟨x, h1, h2⟩).go W w S c⟩
  intro hnc
  refine gives_in (Berratalaw37_light_run p ns.length cap) fun W R => ?_
  refine exI_mk (fun n R' Φ' k => ∃ i : Nat, n = i ∧ i ≤ ns.length ∧ R' = R ∧ Φ' = (fun M w => Φ M w ∧ Pin g o cs ns M w) ∧ k = ns.length - i ∧ ns.all lightN = (ns.drop i).all lightN) ⟨⟨R, _, _, inferInstance, fun w F c => c, 0, rfl, Nat.zero_le _, rfl, rfl, rfl, rfl⟩, ?_⟩
  rintro n R1 Φ1 k _ ⟨i, rfl, hi, rfl, rfl, rfl, hs⟩
  refine Br.intro (fun hlt => ?_) (fun hge => fun w G cx => ⟨?_, cx.left⟩)
  · have hlt : i < ns.length := by have := of_decide_eq_true hlt; omega
    obtain ⟨x, hxc, hxo⟩ := hnc i hlt
    rw [List.drop_eq_getElem_cons hlt, List.all_cons] at hs
    have hr : ∀ M w, Pin g o cs ns M w → RowAt w g (o + i * 16) x.cells := fun M w h => by
      obtain ⟨y, h1, _, _, h4⟩ := node_pin h hlt
      rw [hxc] at h1
      rw [node_inj h1]
      exact h4
    have e : (decide (10 < (x.n1N : Int)) || decide (13 < (x.n8N : Int)) || decide (13 < (x.n9N : Int))) = !lightN ns[i] := by
      unfold lightN
      rw [Bool.not_not, hxo.inp, hxo.key, hxo.key2]
    refine fun w G cx => ⟨by omega, ptrK_intro g o (hp (by omega)) ⟨x.n1P, x.n1N, x.n1C, by rw [Int.toNat_natCast]; exact hr _ _ cx.phi.2 1 (by simp), fun _ => by omega, ptrK_intro g o (hp (by omega)) ⟨x.n8P, x.n8N, x.n8C, fun _ => by rw [Int.toNat_natCast]; exact hr _ _ cx.phi.2 8 (by simp), fun _ => by omega, ptrK_intro g o (hp (by omega)) ⟨x.n9P, x.n9N, x.n9C, fun _ => by rw [Int.toNat_natCast]; exact hr _ _ cx.phi.2 9 (by simp), ?_⟩⟩⟩⟩
    clear cx
    rw [e]
    refine Br.intro (fun h => fun w G cx => ⟨?_, cx.left⟩) (fun h => ⟨by unfold I64; unfold maxLen at hlen; omega, R1, _, ns.length - (i + 1), inferInstance, fun w G cx => cx, ⟨i + 1, rfl, hlt, rfl, rfl, rfl, ?_⟩, by omega⟩)
    · unfold lightB
      rw [hs, show lightN ns[i] = false by simpa using h]; rfl
    · rw [hs, show lightN ns[i] = true by simpa using h, Bool.true_and]
  · have hge : i = ns.length := by have := of_decide_eq_false hge; omega
    unfold lightB
    rw [hs, hge, List.drop_length]; rfl

def rightL (l : List DeltaD) : Bool := l.all fun x => rightR x.row
theorem Right28_in [Stable Φ] {l : List DeltaD} [hL : Has Φ (fun M w => Sl M w p l)] (hlen : l.length ≤ maxLen) : GivesIn Φ Tryd.prog F.errataref28_Right #[.slice p l.length cap] (.bool (rightL l)) := by
  refine .pinned hL.go fun g o cs hp => in_cells (fun M w h => h.2) fun hcs => ?_
  refine gives_in (Berrataref28_Right_run p l.length cap) fun W R => ?_
  unfold rightL
  refine exI_mk (fun n R' Φ' k => ∃ i : Nat, n = i ∧ i ≤ l.length ∧ R' = R ∧ Φ' = (fun M w => Φ M w ∧ Pin g o cs l M w) ∧ k = l.length - i ∧ (l.all fun x => rightR x.row) = (l.drop i).all fun x => rightR x.row) ⟨⟨R, _, _, inferInstance, fun w F c => c, 0, rfl, Nat.zero_le _, rfl, rfl, rfl, rfl⟩, ?_⟩
  rintro n R1 Φ1 k _ ⟨i, rfl, hi, rfl, rfl, rfl, hs⟩
  refine Br.intro (fun hlt => ?_) (fun hge => fun w G cx => ⟨?_, cx.left⟩)
  · have hlt : i < l.length := by have := of_decide_eq_true hlt; omega
    obtain ⟨r, qc, he, g1, g2, _, _⟩ := hcs i hlt
    rw [List.drop_eq_getElem_cons hlt, List.all_cons] at hs
    refine ⟨by omega, ptrK_intro g o (hp (by omega)) fun w F cx => ⟨r, l[i].row.length, qc, ?_, fun w F cx => (RightRow3_in r qc l[i].row (fun M w h => pin_row (h.2 : Pin g o cs l M w) hlt he) (len_max g1 g2)).use cx fun w cx => ⟨_, rfl, R1, _, inferInstance, cx, Br.intro (fun h => fun w F cx => ⟨?_, cx.left⟩) (fun h => ⟨by unfold I64; unfold maxLen at hlen; omega, R1, _, l.length - (i + 1), inferInstance, fun w F c => c, ⟨i + 1, rfl, hlt, rfl, rfl, rfl, ?_⟩, by omega⟩)⟩⟩⟩
    · rw [Int.toNat_natCast]
      exact pin_rowAt cx.phi.2 hlt he 1 (by simp)
    · rw [hs, show rightR l[i].row = false by simpa using h, Bool.false_and]
    · rw [hs, show rightR l[i].row = true by simpa using h, Bool.true_and]
  · have hge : i = l.length := by have := of_decide_eq_false hge; omega
    rw [hs, hge, List.drop_length]; rfl
end
end Go.Proofs.YtbkpfhhhbhaecaaDoor
end

/-
  What is sent: the law in plain Lean.
-/
section
set_option linter.unusedVariables false
set_option linter.unusedSimpArgs false
namespace Go.Proofs.YtbkpfhhhbhaecaaDoor
open Go.Vc

/-- those that one index alone can make -/
theorem filt_flat {α : Type} {f : Nat → List α} {p : α → Bool} {j : Nat} (h : ∀ i, i ≠ j → ∀ x ∈ f i, p x = false) : ∀ n, ((List.range n).flatMap f).filter p = if j < n then (f j).filter p else []
  | 0 => by simp
  | n + 1 => by
    rw [range_step, List.filter_append, filt_flat h n]
    by_cases e : n = j
    · subst e
      rw [if_neg (Nat.lt_irrefl _), if_pos (Nat.lt_succ_self _), List.nil_append]
    · have e0 : (f n).filter p = [] := List.filter_eq_nil_iff.2 fun x hx => by rw [h n e x hx]; simp
      rw [e0, List.append_nil]
      by_cases e2 : j < n
      · rw [if_pos e2, if_pos (by omega)]
      · rw [if_neg e2, if_neg (by omega)]

/-- goes to this input of this node, in this bucket -/
def isOf (j k b : Nat) (m : SendD) : Bool := decide (m.node = (j : Int)) && decide (m.inp = (k : Int)) && decide (m.bucket = (b : Int))
def gotP (S : List SendD) (j k b : Nat) : List DeltaD := (S.filter (isOf j k b)).flatMap SendD.deltas

section
variable {pl : List Int} {ns : List NodeD} {node bucket : Int} {l : List DeltaD}

theorem sendsB_mem {d : NodeD} {j k b : Nat} {m : SendD} (h : m ∈ sendsB pl d j k bucket l b) : ∃ s, s < partsN (dealtP d k bucket l b).length ∧ m = sendP pl j k b (chunkP (dealtP d k bucket l b) s) := by
  unfold sendsB chunks at h
  rw [List.map_map] at h
  obtain ⟨s, hs, rfl⟩ := List.mem_map.1 h
  exact ⟨s, List.mem_range.1 hs, rfl⟩
theorem sendsK_mem {d : NodeD} {j k : Nat} {m : SendD} (h : m ∈ sendsK pl d j node bucket l k) : d.inp.getD k 0 = node ∧ ∃ b, b < 16 ∧ m ∈ sendsB pl d j k bucket l b := by
  unfold sendsK at h
  split at h
  · rename_i e
    obtain ⟨b, hb, hm⟩ := List.mem_flatMap.1 h
    exact ⟨e, b, List.mem_range.1 hb, hm⟩
  · cases h
theorem sendsJ_mem {j : Nat} {m : SendD} (h : m ∈ sendsJ pl ns node bucket l j) : ∃ d, ns[j]? = some d ∧ ∃ k, k < d.inp.length ∧ m ∈ sendsK pl d j node bucket l k := by
  unfold sendsJ at h
  split at h
  · rename_i d hd
    obtain ⟨k, hk, hm⟩ := List.mem_flatMap.1 h
    exact ⟨d, hd, k, List.mem_range.1 hk, hm⟩
  · cases h
/-- what is sent: nobody else gets anything -/
theorem route_mem {m : SendD} (h : m ∈ routeP pl ns node bucket l) : ∃ j, j < ns.length ∧ ∃ d, ns[j]? = some d ∧ ∃ k, k < d.inp.length ∧ d.inp.getD k 0 = node ∧ ∃ b, b < 16 ∧ ∃ s, s < partsN (dealtP d k bucket l b).length ∧ m = sendP pl j k b (chunkP (dealtP d k bucket l b) s) := by
  obtain ⟨j, hj, h⟩ := List.mem_flatMap.1 h
  obtain ⟨d, hd, k, hk, h⟩ := sendsJ_mem h
  obtain ⟨hn, b, hb, h⟩ := sendsK_mem h
  obtain ⟨s, hs, h⟩ := sendsB_mem h
  exact ⟨j, List.mem_range.1 hj, d, hd, k, hk, hn, b, hb, s, hs, h⟩

/-- what one bucket of one input gets -/
theorem of_route {j k b : Nat} {d : NodeD} (hd : ns[j]? = some d) (hk : k < d.inp.length) (hb : b < 16) :
    gotP (routeP pl ns node bucket l) j k b = if d.inp.getD k 0 = node then dealtP d k bucket l b else [] := by
  have hj : j < ns.length := (List.getElem?_eq_some_iff.1 hd).1
  have no : ∀ {j' k' b' : Nat} {part : List DeltaD}, ¬ (j' = j ∧ k' = k ∧ b' = b) → isOf j k b (sendP pl j' k' b' part) = false := fun h => by
    unfold isOf
    simp only [sendP, Bool.and_eq_false_iff, decide_eq_false_iff_not, Int.ofNat_inj]
    omega
  unfold gotP routeP
  rw [filt_flat (j := j) fun j' hj' m hm => by
    obtain ⟨d', _, k', _, hm⟩ := sendsJ_mem hm
    obtain ⟨_, b', _, hm⟩ := sendsK_mem hm
    obtain ⟨s, _, rfl⟩ := sendsB_mem hm
    exact no fun h => hj' h.1]
  rw [if_pos hj]
  unfold sendsJ
  rw [hd]
  simp only
  rw [filt_flat (j := k) fun k' hk' m hm => by
    obtain ⟨_, b', _, hm⟩ := sendsK_mem hm
    obtain ⟨s, _, rfl⟩ := sendsB_mem hm
    exact no fun h => hk' h.2.1]
  rw [if_pos hk]
  unfold sendsK
  split
  · rw [filt_flat (j := b) fun b' hb' m hm => by
      obtain ⟨s, _, rfl⟩ := sendsB_mem hm
      exact no fun h => hb' h.2.2]
    rw [if_pos hb, List.filter_eq_self.2 fun m hm => by
      obtain ⟨s, _, rfl⟩ := sendsB_mem hm
      unfold isOf
      simp [sendP]]
    unfold sendsB
    rw [List.flatMap_map]
    have : (chunks (dealtP d k bucket l b)).flatMap (fun a => (sendP pl j k b a).deltas) = (chunks (dealtP d k bucket l b)).flatten := by
      show (chunks (dealtP d k bucket l b)).flatMap (fun a => a) = _
      rw [List.flatMap_id']
    rw [this, chunks_flat]
  · rfl

/-- each delta is in one bucket -/
theorem dealt_perm {d : NodeD} {k : Int} (hb : 0 ≤ bucket ∧ bucket < 16) : ((List.range 16).flatMap (dealtP d k bucket l)).Perm l := by
  have key : ∀ n : Nat, ((List.range n).flatMap (dealtP d k bucket l)).Perm (l.filter fun x => decide (needP d k bucket x.row < (n : Int))) := by
    intro n
    induction n with
    | zero =>
      rw [List.filter_eq_nil_iff.2 fun x _ => by have := needP_bd (d := d) (k := k) (r := x.row) hb; simp; omega]
      exact List.Perm.refl _
    | succ n ih =>
      rw [range_step]
      have h1 := List.filter_append_perm (fun x : DeltaD => decide (needP d k bucket x.row < (n : Int))) (l.filter fun x => decide (needP d k bucket x.row < ((n + 1 : Nat) : Int)))
      refine List.Perm.trans ?_ h1
      rw [List.filter_filter, List.filter_filter]
      refine List.Perm.append (ih.trans (List.Perm.of_eq ?_)) (List.Perm.of_eq ?_)
      · refine List.filter_congr fun x _ => ?_
        rw [← Bool.decide_and]
        exact decide_eq_decide.2 (by omega)
      · unfold dealtP
        refine List.filter_congr fun x _ => ?_
        rw [Bool.eq_iff_iff]
        simp
        omega
  refine (key 16).trans (List.Perm.of_eq (List.filter_eq_self.2 fun x _ => ?_))
  have := needP_bd (d := d) (k := k) (r := x.row) hb
  exact decide_eq_true (by omega)
end
end Go.Proofs.YtbkpfhhhbhaecaaDoor
end

/-
  Concat, Add, Consolidated, walked.
-/
section
set_option linter.unusedVariables false
set_option linter.unusedSimpArgs false
namespace Go.Vc
section
variable {W w : World} {S : List Own} {Φ : PW}

/-- append a slice of plain data, perhaps empty -/
theorem Ctx.appAny [Stable Φ] {P : Program} {α : Type} [Gv α] {q : Option Addr} {l : List α} {c2 : Nat} {p : Option Addr} {n cap : Nat} {cs : List Value} {t : TypeId} {bytes : Nat} (c : Ctx W w (.buf p n cap cs t (Gv.ty α).size :: S) Φ)
    {ts ty : TypeId} {kb : Array Bool} (hb : appB P ts t (Gv.ty α).size bytes = true) (h1 : ∀ M w cs (x : α), Gv.rep M w cs x → (cs.all fun u => oneC u) = true) (hsl : ∀ M w, Φ M w → Sl M w q l) (hlen : n + l.length < 100000000) (hbytes : bytes ≤ 1000) :
    ∃ p' cap' w' news, Sem.run P (builtin Builtin.append #[ts, ts] ty kb #[.slice p n cap, .slice q l.length c2]) w = .ok (.value (.slice p' (n + l.length) cap')) w' ∧
      Ctx W w' (.buf p' (n + l.length) cap' (cs ++ news) t (Gv.ty α).size :: S) (fun M w => Φ M w ∧ Elems M w news l) := by
  rcases Nat.eq_zero_or_pos l.length with h0 | h0
  · obtain ⟨i, z, e1, e2, e3, e4, e5, e6⟩ := appB_out hb
    have hl : l = [] := List.eq_nil_of_length_eq_zero h0
    subst hl
    refine ⟨p, cap, w, [], run_app (c.append0 0 rfl e1 e2 q c2), ?_⟩
    rw [List.append_nil]
    exact c.add Elems.nil
  · obtain ⟨p', cap', w', news, h2, _, c3⟩ := c.appSl (ty := ty) (kb := kb) (c2 := c2) hb h1 hsl h0 hlen hbytes
    exact ⟨p', cap', w', news, h2, c3⟩

end
end Go.Vc

namespace Go.Proofs.YtbkpfhhhbhaecaaDoor
open Go.Vc


end Go.Proofs.YtbkpfhhhbhaecaaDoor
end

