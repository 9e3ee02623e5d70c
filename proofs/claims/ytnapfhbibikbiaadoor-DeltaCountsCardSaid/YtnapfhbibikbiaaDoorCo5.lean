/-
  The conditions of the walks of some functions, one formula each; 'B<f>_run' says that they suffice. The formulas are printed by a program; the kernel compares them with the functions' code.
-/
import Derived.Test.YtnapfhbibikbiaaDoorCo4
import Derived.Test.YtnapfhbibikbiaaDoorCo3

section
namespace Go.Proofs.YtnapfhbibikbiaaDoor
set_option linter.unusedVariables false
set_option linter.unusedSimpArgs false
set_option maxRecDepth 100000
open Go.Vc

/-- erratalaw28.DeltaSplits -/
-- loop at region 12: 13 i; blocks 
-- loop at region 7: 12 i; blocks 
def Berratalaw28_DeltaSplits (aP : Option Addr) (aN aC : Nat) (bP : Option Addr) (bN bC : Nat) (t : Int) (u : Int) (W : World) (R : List Own) (Φ : PW) (J : Value → World → Prop) : Prop :=
  ∀ (w0 : World) (R1 : List Own), Ctx W w0 (R ++ R1) Φ → Calls Tryd.prog F.erratalaw28_small #[] w0 fun (e2 : Ending) (w3 : World) => ∃ (c4 : Bool), e2 = Ending.returned (Value.bool c4) ∧ ∃
  (R5 : List Own), ∃ (Φ6 : PW), Stable Φ6 ∧ Ctx W w3 (R5 ++ R1) Φ6 ∧ ∀ (w7 : World) (R8 : List Own), Ctx W w7 (R5 ++ R8) Φ6 → Calls Tryd.prog F.erratalaw28_few #[Value.slice aP aN aC,
  Value.int IntKind.i64 100] w7 fun (e9 : Ending) (w10 : World) => ∃ (c11 : Bool), e9 = Ending.returned (Value.bool c11) ∧ ∃ (R12 : List Own), ∃ (Φ13 : PW), Stable Φ13 ∧ Ctx W w10 (R12 ++ R8)
  Φ13 ∧ Br (!c11) (∀ (w14 : World) (R15 : List Own), Ctx W w14 (R12 ++ R15) Φ13 → J (Value.bool c4) w14) (∀ (w16 : World) (R17 : List Own), Ctx W w16 (R12 ++ R17) Φ13 → Calls Tryd.prog
  F.erratalaw28_few #[Value.slice bP bN bC, Value.int IntKind.i64 100] w16 fun (e18 : Ending) (w19 : World) => ∃ (c20 : Bool), e18 = Ending.returned (Value.bool c20) ∧ ∃ (R21 : List Own), ∃
  (Φ22 : PW), Stable Φ22 ∧ Ctx W w19 (R21 ++ R17) Φ22 ∧ Br (!c20) (∀ (w23 : World) (R24 : List Own), Ctx W w23 (R21 ++ R24) Φ22 → J (Value.bool c4) w23) (∀ (w25 : World) (R26 : List Own), Ctx
  W w25 (R21 ++ R26) Φ22 → Calls Tryd.prog F.delta_Upto #[Value.slice aP aN aC, Value.int IntKind.i64 t] w25 fun (e27 : Ending) (w28 : World) => ∃ (p29 : Option Addr), ∃ (k30 : Nat), ∃ (k31 :
  Nat), e27 = Ending.returned (Value.slice p29 k30 k31) ∧ ∃ (R32 : List Own), ∃ (Φ33 : PW), Stable Φ33 ∧ Ctx W w28 (R32 ++ R26) Φ33 ∧ ∀ (w34 : World) (R35 : List Own), Ctx W w34 (R32 ++ R35)
  Φ33 → Calls Tryd.prog F.delta_After #[Value.slice aP aN aC, Value.int IntKind.i64 t] w34 fun (e36 : Ending) (w37 : World) => ∃ (p38 : Option Addr), ∃ (k39 : Nat), ∃ (k40 : Nat), e36 =
  Ending.returned (Value.slice p38 k39 k40) ∧ ∃ (R41 : List Own), ∃ (Φ42 : PW), Stable Φ42 ∧ Ctx W w37 (R41 ++ R35) Φ42 ∧ exI fun (I43 : Int → List Own → PW → Nat → Prop) => (∃ (R44 : List
  Own), ∃ (Φ45 : PW), ∃ (k46 : Nat), Stable Φ45 ∧ (∀ (w47 : World) (R48 : List Own), Ctx W w47 (R41 ++ R48) Φ42 → Ctx W w47 (R44 ++ R48) Φ45) ∧ I43 0 R44 Φ45 k46) ∧ ∀ (n49 : Int) (R50 : List
  Own) (I51 : List Nat → World → Prop) (k52 : Nat), Stable I51 → I43 n49 R50 I51 k52 → Br (decide (n49 < (↑k30 : Int))) ((0 ≤ n49 ∧ n49 < (↑k30 : Int)) ∧ ptrK none p29 fun (k53 k54 : Nat) =>
  ∀ (w55 : World) (R56 : List Own), Ctx W w55 (R50 ++ R56) I51 → ∃ (n57 : Int), w55.cell? (Addr.mk k53 (k54 + n49.toNat * 3) none) = some (Value.int IntKind.i64 n57) ∧ Br (decide (t < n57))
  (∀ (w58 : World) (R59 : List Own), Ctx W w58 (R50 ++ R59) I51 → J (Value.bool false) w58) (I64 (n49 + 1) ∧ ∃ (R60 : List Own), ∃ (Φ61 : PW), ∃ (k62 : Nat), Stable Φ61 ∧ (∀ (w63 : World)
  (R64 : List Own), Ctx W w63 (R50 ++ R64) I51 → Ctx W w63 (R60 ++ R64) Φ61) ∧ I43 (n49 + 1) R60 Φ61 k62 ∧ k62 < k52)) (exI fun (I65 : Int → List Own → PW → Nat → Prop) => (∃ (R66 : List
  Own), ∃ (Φ67 : PW), ∃ (k68 : Nat), Stable Φ67 ∧ (∀ (w69 : World) (R70 : List Own), Ctx W w69 (R50 ++ R70) I51 → Ctx W w69 (R66 ++ R70) Φ67) ∧ I65 0 R66 Φ67 k68) ∧ ∀ (n71 : Int) (R72 : List
  Own) (I73 : List Nat → World → Prop) (k74 : Nat), Stable I73 → I65 n71 R72 I73 k74 → Br (decide (n71 < (↑k39 : Int))) ((0 ≤ n71 ∧ n71 < (↑k39 : Int)) ∧ ptrK none p38 fun (k75 k76 : Nat) =>
  ∀ (w77 : World) (R78 : List Own), Ctx W w77 (R72 ++ R78) I73 → ∃ (n79 : Int), w77.cell? (Addr.mk k75 (k76 + n71.toNat * 3) none) = some (Value.int IntKind.i64 n79) ∧ Br (decide (n79 ≤ t))
  (∀ (w80 : World) (R81 : List Own), Ctx W w80 (R72 ++ R81) I73 → J (Value.bool false) w80) (I64 (n71 + 1) ∧ ∃ (R82 : List Own), ∃ (Φ83 : PW), ∃ (k84 : Nat), Stable Φ83 ∧ (∀ (w85 : World)
  (R86 : List Own), Ctx W w85 (R72 ++ R86) I73 → Ctx W w85 (R82 ++ R86) Φ83) ∧ I65 (n71 + 1) R82 Φ83 k84 ∧ k84 < k74)) (∀ (w87 : World) (R88 : List Own), Ctx W w87 (R72 ++ R88) I73 → Calls
  Tryd.prog F.delta_Consolidated #[Value.slice p29 k30 k31] w87 fun (e89 : Ending) (w90 : World) => ∃ (c91 : Bool), e89 = Ending.returned (Value.bool c91) ∧ ∃ (R92 : List Own), ∃ (Φ93 : PW),
  Stable Φ93 ∧ Ctx W w90 (R92 ++ R88) Φ93 ∧ Br c91 (∀ (w94 : World) (R95 : List Own), Ctx W w94 (R92 ++ R95) Φ93 → Calls Tryd.prog F.delta_Consolidated #[Value.slice p38 k39 k40] w94 fun (e96
  : Ending) (w97 : World) => ∃ (c98 : Bool), e96 = Ending.returned (Value.bool c98) ∧ ∃ (R99 : List Own), ∃ (Φ100 : PW), Stable Φ100 ∧ Ctx W w97 (R99 ++ R95) Φ100 ∧ Br c98 (∀ (w101 : World)
  (R102 : List Own), Ctx W w101 (R99 ++ R102) Φ100 → Calls Tryd.prog F.delta_Add #[Value.slice p29 k30 k31, Value.slice p38 k39 k40] w101 fun (e103 : Ending) (w104 : World) => ∃ (p105 :
  Option Addr), ∃ (k106 : Nat), ∃ (k107 : Nat), e103 = Ending.returned (Value.slice p105 k106 k107) ∧ ∃ (R108 : List Own), ∃ (Φ109 : PW), Stable Φ109 ∧ Ctx W w104 (R108 ++ R102) Φ109 ∧ ∀
  (w110 : World) (R111 : List Own), Ctx W w110 (R108 ++ R111) Φ109 → Calls Tryd.prog F.delta_Consolidate #[Value.slice aP aN aC] w110 fun (e112 : Ending) (w113 : World) => ∃ (p114 : Option
  Addr), ∃ (k115 : Nat), ∃ (k116 : Nat), e112 = Ending.returned (Value.slice p114 k115 k116) ∧ ∃ (R117 : List Own), ∃ (Φ118 : PW), Stable Φ118 ∧ Ctx W w113 (R117 ++ R111) Φ118 ∧ ∀ (w119 :
  World) (R120 : List Own), Ctx W w119 (R117 ++ R120) Φ118 → Calls Tryd.prog F.errataref28_Equal #[Value.slice p105 k106 k107, Value.slice p114 k115 k116] w119 fun (e121 : Ending) (w122 :
  World) => ∃ (c123 : Bool), e121 = Ending.returned (Value.bool c123) ∧ ∃ (R124 : List Own), ∃ (Φ125 : PW), Stable Φ125 ∧ Ctx W w122 (R124 ++ R120) Φ125 ∧ ∀ (w126 : World) (R127 : List Own),
  Ctx W w126 (R124 ++ R127) Φ125 → Calls Tryd.prog F.delta_Add #[Value.slice aP aN aC, Value.slice bP bN bC] w126 fun (e128 : Ending) (w129 : World) => ∃ (p130 : Option Addr), ∃ (k131 : Nat),
  ∃ (k132 : Nat), e128 = Ending.returned (Value.slice p130 k131 k132) ∧ ∃ (R133 : List Own), ∃ (Φ134 : PW), Stable Φ134 ∧ Ctx W w129 (R133 ++ R127) Φ134 ∧ ∀ (w135 : World) (R136 : List Own),
  Ctx W w135 (R133 ++ R136) Φ134 → Calls Tryd.prog F.delta_Upto #[Value.slice p130 k131 k132, Value.int IntKind.i64 t] w135 fun (e137 : Ending) (w138 : World) => ∃ (p139 : Option Addr), ∃
  (k140 : Nat), ∃ (k141 : Nat), e137 = Ending.returned (Value.slice p139 k140 k141) ∧ ∃ (R142 : List Own), ∃ (Φ143 : PW), Stable Φ143 ∧ Ctx W w138 (R142 ++ R136) Φ143 ∧ ∀ (w144 : World) (R145
  : List Own), Ctx W w144 (R142 ++ R145) Φ143 → Calls Tryd.prog F.delta_Upto #[Value.slice bP bN bC, Value.int IntKind.i64 t] w144 fun (e146 : Ending) (w147 : World) => ∃ (p148 : Option
  Addr), ∃ (k149 : Nat), ∃ (k150 : Nat), e146 = Ending.returned (Value.slice p148 k149 k150) ∧ ∃ (R151 : List Own), ∃ (Φ152 : PW), Stable Φ152 ∧ Ctx W w147 (R151 ++ R145) Φ152 ∧ ∀ (w153 :
  World) (R154 : List Own), Ctx W w153 (R151 ++ R154) Φ152 → Calls Tryd.prog F.delta_Add #[Value.slice p29 k30 k31, Value.slice p148 k149 k150] w153 fun (e155 : Ending) (w156 : World) => ∃
  (p157 : Option Addr), ∃ (k158 : Nat), ∃ (k159 : Nat), e155 = Ending.returned (Value.slice p157 k158 k159) ∧ ∃ (R160 : List Own), ∃ (Φ161 : PW), Stable Φ161 ∧ Ctx W w156 (R160 ++ R154) Φ161
  ∧ ∀ (w162 : World) (R163 : List Own), Ctx W w162 (R160 ++ R163) Φ161 → Calls Tryd.prog F.errataref28_Equal #[Value.slice p139 k140 k141, Value.slice p157 k158 k159] w162 fun (e164 : Ending)
  (w165 : World) => ∃ (c166 : Bool), e164 = Ending.returned (Value.bool c166) ∧ ∃ (R167 : List Own), ∃ (Φ168 : PW), Stable Φ168 ∧ Ctx W w165 (R167 ++ R163) Φ168 ∧ Br c166 (∀ (w169 : World)
  (R170 : List Own), Ctx W w169 (R167 ++ R170) Φ168 → Calls Tryd.prog F.delta_Sub #[Value.slice aP aN aC, Value.slice bP bN bC] w169 fun (e171 : Ending) (w172 : World) => ∃ (p173 : Option
  Addr), ∃ (k174 : Nat), ∃ (k175 : Nat), e171 = Ending.returned (Value.slice p173 k174 k175) ∧ ∃ (R176 : List Own), ∃ (Φ177 : PW), Stable Φ177 ∧ Ctx W w172 (R176 ++ R170) Φ177 ∧ ∀ (w178 :
  World) (R179 : List Own), Ctx W w178 (R176 ++ R179) Φ177 → Calls Tryd.prog F.delta_After #[Value.slice p173 k174 k175, Value.int IntKind.i64 t] w178 fun (e180 : Ending) (w181 : World) => ∃
  (p182 : Option Addr), ∃ (k183 : Nat), ∃ (k184 : Nat), e180 = Ending.returned (Value.slice p182 k183 k184) ∧ ∃ (R185 : List Own), ∃ (Φ186 : PW), Stable Φ186 ∧ Ctx W w181 (R185 ++ R179) Φ186
  ∧ ∀ (w187 : World) (R188 : List Own), Ctx W w187 (R185 ++ R188) Φ186 → Calls Tryd.prog F.delta_After #[Value.slice bP bN bC, Value.int IntKind.i64 t] w187 fun (e189 : Ending) (w190 : World)
  => ∃ (p191 : Option Addr), ∃ (k192 : Nat), ∃ (k193 : Nat), e189 = Ending.returned (Value.slice p191 k192 k193) ∧ ∃ (R194 : List Own), ∃ (Φ195 : PW), Stable Φ195 ∧ Ctx W w190 (R194 ++ R188)
  Φ195 ∧ ∀ (w196 : World) (R197 : List Own), Ctx W w196 (R194 ++ R197) Φ195 → Calls Tryd.prog F.delta_Sub #[Value.slice p38 k39 k40, Value.slice p191 k192 k193] w196 fun (e198 : Ending) (w199
  : World) => ∃ (p200 : Option Addr), ∃ (k201 : Nat), ∃ (k202 : Nat), e198 = Ending.returned (Value.slice p200 k201 k202) ∧ ∃ (R203 : List Own), ∃ (Φ204 : PW), Stable Φ204 ∧ Ctx W w199 (R203
  ++ R197) Φ204 ∧ ∀ (w205 : World) (R206 : List Own), Ctx W w205 (R203 ++ R206) Φ204 → Calls Tryd.prog F.errataref28_Equal #[Value.slice p182 k183 k184, Value.slice p200 k201 k202] w205 fun
  (e207 : Ending) (w208 : World) => ∃ (c209 : Bool), e207 = Ending.returned (Value.bool c209) ∧ ∃ (R210 : List Own), ∃ (Φ211 : PW), Stable Φ211 ∧ Ctx W w208 (R210 ++ R206) Φ211 ∧ Br c4 (Br
  c123 (Br c209 (∀ (w212 : World) (R213 : List Own), Ctx W w212 (R210 ++ R213) Φ211 → Calls Tryd.prog F.delta_Upto #[Value.slice p29 k30 k31, Value.int IntKind.i64 u] w212 fun (e214 : Ending)
  (w215 : World) => ∃ (p216 : Option Addr), ∃ (k217 : Nat), ∃ (k218 : Nat), e214 = Ending.returned (Value.slice p216 k217 k218) ∧ ∃ (R219 : List Own), ∃ (Φ220 : PW), Stable Φ220 ∧ Ctx W w215
  (R219 ++ R213) Φ220 ∧ ∀ (w221 : World) (R222 : List Own), Ctx W w221 (R219 ++ R222) Φ220 → Calls Tryd.prog F.delta_Upto #[Value.slice aP aN aC, Value.int IntKind.i64 (min t u)] w221 fun
  (e223 : Ending) (w224 : World) => ∃ (p225 : Option Addr), ∃ (k226 : Nat), ∃ (k227 : Nat), e223 = Ending.returned (Value.slice p225 k226 k227) ∧ ∃ (R228 : List Own), ∃ (Φ229 : PW), Stable
  Φ229 ∧ Ctx W w224 (R228 ++ R222) Φ229 ∧ ∀ (w230 : World) (R231 : List Own), Ctx W w230 (R228 ++ R231) Φ229 → Calls Tryd.prog F.errataref28_Equal #[Value.slice p216 k217 k218, Value.slice
  p225 k226 k227] w230 fun (e232 : Ending) (w233 : World) => ∃ (c234 : Bool), e232 = Ending.returned (Value.bool c234) ∧ ∃ (R235 : List Own), ∃ (Φ236 : PW), Stable Φ236 ∧ Ctx W w233 (R235 ++
  R231) Φ236 ∧ ∀ (w237 : World) (R238 : List Own), Ctx W w237 (R235 ++ R238) Φ236 → J (Value.bool c234) w237) (∀ (w239 : World) (R240 : List Own), Ctx W w239 (R210 ++ R240) Φ211 → J
  (Value.bool false) w239)) (∀ (w241 : World) (R242 : List Own), Ctx W w241 (R210 ++ R242) Φ211 → J (Value.bool false) w241)) (∀ (w243 : World) (R244 : List Own), Ctx W w243 (R210 ++ R244)
  Φ211 → J (Value.bool false) w243)) (Br c4 (Br c123 (∀ (w245 : World) (R246 : List Own), Ctx W w245 (R167 ++ R246) Φ168 → J (Value.bool false) w245) (∀ (w247 : World) (R248 : List Own), Ctx
  W w247 (R167 ++ R248) Φ168 → J (Value.bool false) w247)) (∀ (w249 : World) (R250 : List Own), Ctx W w249 (R167 ++ R250) Φ168 → J (Value.bool false) w249))) (∀ (w251 : World) (R252 : List
  Own), Ctx W w251 (R99 ++ R252) Φ100 → Calls Tryd.prog F.delta_Add #[Value.slice aP aN aC, Value.slice bP bN bC] w251 fun (e253 : Ending) (w254 : World) => ∃ (p255 : Option Addr), ∃ (k256 :
  Nat), ∃ (k257 : Nat), e253 = Ending.returned (Value.slice p255 k256 k257) ∧ ∃ (R258 : List Own), ∃ (Φ259 : PW), Stable Φ259 ∧ Ctx W w254 (R258 ++ R252) Φ259 ∧ ∀ (w260 : World) (R261 : List
  Own), Ctx W w260 (R258 ++ R261) Φ259 → Calls Tryd.prog F.delta_Upto #[Value.slice p255 k256 k257, Value.int IntKind.i64 t] w260 fun (e262 : Ending) (w263 : World) => ∃ (p264 : Option Addr),
  ∃ (k265 : Nat), ∃ (k266 : Nat), e262 = Ending.returned (Value.slice p264 k265 k266) ∧ ∃ (R267 : List Own), ∃ (Φ268 : PW), Stable Φ268 ∧ Ctx W w263 (R267 ++ R261) Φ268 ∧ ∀ (w269 : World)
  (R270 : List Own), Ctx W w269 (R267 ++ R270) Φ268 → Calls Tryd.prog F.delta_Upto #[Value.slice bP bN bC, Value.int IntKind.i64 t] w269 fun (e271 : Ending) (w272 : World) => ∃ (p273 : Option
  Addr), ∃ (k274 : Nat), ∃ (k275 : Nat), e271 = Ending.returned (Value.slice p273 k274 k275) ∧ ∃ (R276 : List Own), ∃ (Φ277 : PW), Stable Φ277 ∧ Ctx W w272 (R276 ++ R270) Φ277 ∧ ∀ (w278 :
  World) (R279 : List Own), Ctx W w278 (R276 ++ R279) Φ277 → Calls Tryd.prog F.delta_Add #[Value.slice p29 k30 k31, Value.slice p273 k274 k275] w278 fun (e280 : Ending) (w281 : World) => ∃
  (p282 : Option Addr), ∃ (k283 : Nat), ∃ (k284 : Nat), e280 = Ending.returned (Value.slice p282 k283 k284) ∧ ∃ (R285 : List Own), ∃ (Φ286 : PW), Stable Φ286 ∧ Ctx W w281 (R285 ++ R279) Φ286
  ∧ ∀ (w287 : World) (R288 : List Own), Ctx W w287 (R285 ++ R288) Φ286 → Calls Tryd.prog F.errataref28_Equal #[Value.slice p264 k265 k266, Value.slice p282 k283 k284] w287 fun (e289 : Ending)
  (w290 : World) => ∃ (c291 : Bool), e289 = Ending.returned (Value.bool c291) ∧ ∃ (R292 : List Own), ∃ (Φ293 : PW), Stable Φ293 ∧ Ctx W w290 (R292 ++ R288) Φ293 ∧ Br c291 (∀ (w294 : World)
  (R295 : List Own), Ctx W w294 (R292 ++ R295) Φ293 → Calls Tryd.prog F.delta_Sub #[Value.slice aP aN aC, Value.slice bP bN bC] w294 fun (e296 : Ending) (w297 : World) => ∃ (p298 : Option
  Addr), ∃ (k299 : Nat), ∃ (k300 : Nat), e296 = Ending.returned (Value.slice p298 k299 k300) ∧ ∃ (R301 : List Own), ∃ (Φ302 : PW), Stable Φ302 ∧ Ctx W w297 (R301 ++ R295) Φ302 ∧ ∀ (w303 :
  World) (R304 : List Own), Ctx W w303 (R301 ++ R304) Φ302 → Calls Tryd.prog F.delta_After #[Value.slice p298 k299 k300, Value.int IntKind.i64 t] w303 fun (e305 : Ending) (w306 : World) => ∃
  (p307 : Option Addr), ∃ (k308 : Nat), ∃ (k309 : Nat), e305 = Ending.returned (Value.slice p307 k308 k309) ∧ ∃ (R310 : List Own), ∃ (Φ311 : PW), Stable Φ311 ∧ Ctx W w306 (R310 ++ R304) Φ311
  ∧ ∀ (w312 : World) (R313 : List Own), Ctx W w312 (R310 ++ R313) Φ311 → Calls Tryd.prog F.delta_After #[Value.slice bP bN bC, Value.int IntKind.i64 t] w312 fun (e314 : Ending) (w315 : World)
  => ∃ (p316 : Option Addr), ∃ (k317 : Nat), ∃ (k318 : Nat), e314 = Ending.returned (Value.slice p316 k317 k318) ∧ ∃ (R319 : List Own), ∃ (Φ320 : PW), Stable Φ320 ∧ Ctx W w315 (R319 ++ R313)
  Φ320 ∧ ∀ (w321 : World) (R322 : List Own), Ctx W w321 (R319 ++ R322) Φ320 → Calls Tryd.prog F.delta_Sub #[Value.slice p38 k39 k40, Value.slice p316 k317 k318] w321 fun (e323 : Ending) (w324
  : World) => ∃ (p325 : Option Addr), ∃ (k326 : Nat), ∃ (k327 : Nat), e323 = Ending.returned (Value.slice p325 k326 k327) ∧ ∃ (R328 : List Own), ∃ (Φ329 : PW), Stable Φ329 ∧ Ctx W w324 (R328
  ++ R322) Φ329 ∧ ∀ (w330 : World) (R331 : List Own), Ctx W w330 (R328 ++ R331) Φ329 → Calls Tryd.prog F.errataref28_Equal #[Value.slice p307 k308 k309, Value.slice p325 k326 k327] w330 fun
  (e332 : Ending) (w333 : World) => ∃ (c334 : Bool), e332 = Ending.returned (Value.bool c334) ∧ ∃ (R335 : List Own), ∃ (Φ336 : PW), Stable Φ336 ∧ Ctx W w333 (R335 ++ R331) Φ336 ∧ Br c4 (∀
  (w337 : World) (R338 : List Own), Ctx W w337 (R335 ++ R338) Φ336 → J (Value.bool false) w337) (∀ (w339 : World) (R340 : List Own), Ctx W w339 (R335 ++ R340) Φ336 → J (Value.bool false)
  w339)) (Br c4 (∀ (w341 : World) (R342 : List Own), Ctx W w341 (R292 ++ R342) Φ293 → J (Value.bool false) w341) (∀ (w343 : World) (R344 : List Own), Ctx W w343 (R292 ++ R344) Φ293 → J
  (Value.bool false) w343)))) (∀ (w345 : World) (R346 : List Own), Ctx W w345 (R92 ++ R346) Φ93 → Calls Tryd.prog F.delta_Add #[Value.slice aP aN aC, Value.slice bP bN bC] w345 fun (e347 :
  Ending) (w348 : World) => ∃ (p349 : Option Addr), ∃ (k350 : Nat), ∃ (k351 : Nat), e347 = Ending.returned (Value.slice p349 k350 k351) ∧ ∃ (R352 : List Own), ∃ (Φ353 : PW), Stable Φ353 ∧ Ctx
  W w348 (R352 ++ R346) Φ353 ∧ ∀ (w354 : World) (R355 : List Own), Ctx W w354 (R352 ++ R355) Φ353 → Calls Tryd.prog F.delta_Upto #[Value.slice p349 k350 k351, Value.int IntKind.i64 t] w354
  fun (e356 : Ending) (w357 : World) => ∃ (p358 : Option Addr), ∃ (k359 : Nat), ∃ (k360 : Nat), e356 = Ending.returned (Value.slice p358 k359 k360) ∧ ∃ (R361 : List Own), ∃ (Φ362 : PW),
  Stable Φ362 ∧ Ctx W w357 (R361 ++ R355) Φ362 ∧ ∀ (w363 : World) (R364 : List Own), Ctx W w363 (R361 ++ R364) Φ362 → Calls Tryd.prog F.delta_Upto #[Value.slice bP bN bC, Value.int
  IntKind.i64 t] w363 fun (e365 : Ending) (w366 : World) => ∃ (p367 : Option Addr), ∃ (k368 : Nat), ∃ (k369 : Nat), e365 = Ending.returned (Value.slice p367 k368 k369) ∧ ∃ (R370 : List Own),
  ∃ (Φ371 : PW), Stable Φ371 ∧ Ctx W w366 (R370 ++ R364) Φ371 ∧ ∀ (w372 : World) (R373 : List Own), Ctx W w372 (R370 ++ R373) Φ371 → Calls Tryd.prog F.delta_Add #[Value.slice p29 k30 k31,
  Value.slice p367 k368 k369] w372 fun (e374 : Ending) (w375 : World) => ∃ (p376 : Option Addr), ∃ (k377 : Nat), ∃ (k378 : Nat), e374 = Ending.returned (Value.slice p376 k377 k378) ∧ ∃ (R379
  : List Own), ∃ (Φ380 : PW), Stable Φ380 ∧ Ctx W w375 (R379 ++ R373) Φ380 ∧ ∀ (w381 : World) (R382 : List Own), Ctx W w381 (R379 ++ R382) Φ380 → Calls Tryd.prog F.errataref28_Equal
  #[Value.slice p358 k359 k360, Value.slice p376 k377 k378] w381 fun (e383 : Ending) (w384 : World) => ∃ (c385 : Bool), e383 = Ending.returned (Value.bool c385) ∧ ∃ (R386 : List Own), ∃ (Φ387
  : PW), Stable Φ387 ∧ Ctx W w384 (R386 ++ R382) Φ387 ∧ Br c385 (∀ (w388 : World) (R389 : List Own), Ctx W w388 (R386 ++ R389) Φ387 → Calls Tryd.prog F.delta_Sub #[Value.slice aP aN aC,
  Value.slice bP bN bC] w388 fun (e390 : Ending) (w391 : World) => ∃ (p392 : Option Addr), ∃ (k393 : Nat), ∃ (k394 : Nat), e390 = Ending.returned (Value.slice p392 k393 k394) ∧ ∃ (R395 : List
  Own), ∃ (Φ396 : PW), Stable Φ396 ∧ Ctx W w391 (R395 ++ R389) Φ396 ∧ ∀ (w397 : World) (R398 : List Own), Ctx W w397 (R395 ++ R398) Φ396 → Calls Tryd.prog F.delta_After #[Value.slice p392
  k393 k394, Value.int IntKind.i64 t] w397 fun (e399 : Ending) (w400 : World) => ∃ (p401 : Option Addr), ∃ (k402 : Nat), ∃ (k403 : Nat), e399 = Ending.returned (Value.slice p401 k402 k403) ∧
  ∃ (R404 : List Own), ∃ (Φ405 : PW), Stable Φ405 ∧ Ctx W w400 (R404 ++ R398) Φ405 ∧ ∀ (w406 : World) (R407 : List Own), Ctx W w406 (R404 ++ R407) Φ405 → Calls Tryd.prog F.delta_After
  #[Value.slice bP bN bC, Value.int IntKind.i64 t] w406 fun (e408 : Ending) (w409 : World) => ∃ (p410 : Option Addr), ∃ (k411 : Nat), ∃ (k412 : Nat), e408 = Ending.returned (Value.slice p410
  k411 k412) ∧ ∃ (R413 : List Own), ∃ (Φ414 : PW), Stable Φ414 ∧ Ctx W w409 (R413 ++ R407) Φ414 ∧ ∀ (w415 : World) (R416 : List Own), Ctx W w415 (R413 ++ R416) Φ414 → Calls Tryd.prog
  F.delta_Sub #[Value.slice p38 k39 k40, Value.slice p410 k411 k412] w415 fun (e417 : Ending) (w418 : World) => ∃ (p419 : Option Addr), ∃ (k420 : Nat), ∃ (k421 : Nat), e417 = Ending.returned
  (Value.slice p419 k420 k421) ∧ ∃ (R422 : List Own), ∃ (Φ423 : PW), Stable Φ423 ∧ Ctx W w418 (R422 ++ R416) Φ423 ∧ ∀ (w424 : World) (R425 : List Own), Ctx W w424 (R422 ++ R425) Φ423 → Calls
  Tryd.prog F.errataref28_Equal #[Value.slice p401 k402 k403, Value.slice p419 k420 k421] w424 fun (e426 : Ending) (w427 : World) => ∃ (c428 : Bool), e426 = Ending.returned (Value.bool c428)
  ∧ ∃ (R429 : List Own), ∃ (Φ430 : PW), Stable Φ430 ∧ Ctx W w427 (R429 ++ R425) Φ430 ∧ Br c4 (∀ (w431 : World) (R432 : List Own), Ctx W w431 (R429 ++ R432) Φ430 → J (Value.bool false) w431)
  (∀ (w433 : World) (R434 : List Own), Ctx W w433 (R429 ++ R434) Φ430 → J (Value.bool false) w433)) (Br c4 (∀ (w435 : World) (R436 : List Own), Ctx W w435 (R386 ++ R436) Φ387 → J (Value.bool
  false) w435) (∀ (w437 : World) (R438 : List Own), Ctx W w437 (R386 ++ R438) Φ387 → J (Value.bool false) w437)))))))

/-- erratalaw28.DeltaCounts -/
-- loop at region 13: 10 k, 11 i; blocks 
-- loop at region 7: 7 negative, 8 i; blocks 
def Berratalaw28_DeltaCounts (aP : Option Addr) (aN aC : Nat) (n : Int) (W : World) (R : List Own) (Φ : PW) (J : Value → World → Prop) : Prop :=
  ∀ (w0 : World) (R1 : List Own), Ctx W w0 (R ++ R1) Φ → Calls Tryd.prog F.erratalaw28_small #[] w0 fun (e2 : Ending) (w3 : World) => ∃ (c4 : Bool), e2 = Ending.returned (Value.bool c4) ∧ ∃
  (R5 : List Own), ∃ (Φ6 : PW), Stable Φ6 ∧ Ctx W w3 (R5 ++ R1) Φ6 ∧ ∀ (w7 : World) (R8 : List Own), Ctx W w7 (R5 ++ R8) Φ6 → Calls Tryd.prog F.erratalaw28_few #[Value.slice aP aN aC,
  Value.int IntKind.i64 100] w7 fun (e9 : Ending) (w10 : World) => ∃ (c11 : Bool), e9 = Ending.returned (Value.bool c11) ∧ ∃ (R12 : List Own), ∃ (Φ13 : PW), Stable Φ13 ∧ Ctx W w10 (R12 ++ R8)
  Φ13 ∧ Br (!c11) (∀ (w14 : World) (R15 : List Own), Ctx W w14 (R12 ++ R15) Φ13 → J (Value.bool c4) w14) (∀ (w16 : World) (R17 : List Own), Ctx W w16 (R12 ++ R17) Φ13 → Calls Tryd.prog
  F.delta_Consolidate #[Value.slice aP aN aC] w16 fun (e18 : Ending) (w19 : World) => ∃ (p20 : Option Addr), ∃ (k21 : Nat), ∃ (k22 : Nat), e18 = Ending.returned (Value.slice p20 k21 k22) ∧ ∃
  (R23 : List Own), ∃ (Φ24 : PW), Stable Φ24 ∧ Ctx W w19 (R23 ++ R17) Φ24 ∧ exI fun (I25 : Bool → Int → List Own → PW → Nat → Prop) => (∃ (R26 : List Own), ∃ (Φ27 : PW), ∃ (k28 : Nat), Stable
  Φ27 ∧ (∀ (w29 : World) (R30 : List Own), Ctx W w29 (R23 ++ R30) Φ24 → Ctx W w29 (R26 ++ R30) Φ27) ∧ I25 false 0 R26 Φ27 k28) ∧ ∀ (c31 : Bool) (n32 : Int) (R33 : List Own) (I34 : List Nat →
  World → Prop) (k35 : Nat), Stable I34 → I25 c31 n32 R33 I34 k35 → Br (decide (n32 < (↑aN : Int))) (∃ (R36 : List Own), ∃ (Φ37 : PW), Stable Φ37 ∧ (∀ (w38 : World) (R39 : List Own), Ctx W
  w38 (R33 ++ R39) I34 → Ctx W w38 (R36 ++ R39) Φ37) ∧ Br c31 (I64 (n32 + 1) ∧ ∃ (R40 : List Own), ∃ (Φ41 : PW), ∃ (k42 : Nat), Stable Φ41 ∧ (∀ (w43 : World) (R44 : List Own), Ctx W w43 (R33
  ++ R44) I34 → Ctx W w43 (R40 ++ R44) Φ41) ∧ I25 true (n32 + 1) R40 Φ41 k42 ∧ k42 < k35) ((0 ≤ n32 ∧ n32 < (↑aN : Int)) ∧ ptrK none aP fun (k45 k46 : Nat) => (0 ≤ n32 ∧ n32 < (↑aN : Int)) ∧
  ptrK none aP fun (k47 k48 : Nat) => ∃ (n49 : Int), (∀ (w50 : World) (R51 : List Own), Ctx W w50 (R36 ++ R51) Φ37 → ∃ (n52 : Int), w50.cell? (Addr.mk k45 (k46 + n32.toNat * 3) none) = some
  (Value.int IntKind.i64 n52) ∧ Value.int IntKind.i64 n52 = Value.int IntKind.i64 n49) ∧ ∃ (p53 : Option Addr), ∃ (k54 : Nat), ∃ (k55 : Nat), (∀ (w56 : World) (R57 : List Own), Ctx W w56 (R36
  ++ R57) Φ37 → ∃ (p58 : Option Addr), ∃ (k59 : Nat), ∃ (k60 : Nat), w56.cell? (Addr.mk k47 (k48 + n32.toNat * 3 + 1) none) = some (Value.slice p58 k59 k60) ∧ Value.slice p58 k59 k60 =
  Value.slice p53 k54 k55) ∧ ∀ (w61 : World) (R62 : List Own), Ctx W w61 (R33 ++ R62) I34 → Calls Tryd.prog F.delta_Find #[Value.slice aP aN aC, Value.int IntKind.i64 n49, Value.slice p53 k54
  k55] w61 fun (e63 : Ending) (w64 : World) => ∃ (n65 : Int), e63 = Ending.returned (Value.int IntKind.i64 n65) ∧ ∃ (R66 : List Own), ∃ (Φ67 : PW), Stable Φ67 ∧ Ctx W w64 (R66 ++ R62) Φ67 ∧
  I64 (n32 + 1) ∧ ∃ (R68 : List Own), ∃ (Φ69 : PW), ∃ (k70 : Nat), Stable Φ69 ∧ (∀ (w71 : World) (R72 : List Own), Ctx W w71 (R66 ++ R72) Φ67 → Ctx W w71 (R68 ++ R72) Φ69) ∧ I25 (decide (n65
  < 0)) (n32 + 1) R68 Φ69 k70 ∧ k70 < k35)) (∀ (w73 : World) (R74 : List Own), Ctx W w73 (R33 ++ R74) I34 → Calls Tryd.prog F.delta_Times #[Value.slice aP aN aC] w73 fun (e75 : Ending) (w76 :
  World) => ∃ (p77 : Option Addr), ∃ (k78 : Nat), ∃ (k79 : Nat), e75 = Ending.returned (Value.slice p77 k78 k79) ∧ ∃ (R80 : List Own), ∃ (Φ81 : PW), Stable Φ81 ∧ Ctx W w76 (R80 ++ R74) Φ81 ∧
  exI fun (I82 : Int → Int → List Own → PW → Nat → Prop) => (∃ (R83 : List Own), ∃ (Φ84 : PW), ∃ (k85 : Nat), Stable Φ84 ∧ (∀ (w86 : World) (R87 : List Own), Ctx W w86 (R80 ++ R87) Φ81 → Ctx
  W w86 (R83 ++ R87) Φ84) ∧ I82 0 0 R83 Φ84 k85) ∧ ∀ (n88 n89 : Int) (R90 : List Own) (I91 : List Nat → World → Prop) (k92 : Nat), Stable I91 → I82 n88 n89 R90 I91 k92 → Br (decide (n89 <
  (↑k21 : Int))) (∀ (w93 : World) (R94 : List Own), Ctx W w93 (R90 ++ R94) I91 → (decide (0 < n89) = true → I64 (n89 - 1)) ∧ (decide (0 < n89) = true → 0 ≤ max (n89 - 1) 0 ∧ max (n89 - 1) 0 <
  (↑k21 : Int)) ∧ ptrK (some (decide (0 < n89))) p20 fun (k95 k96 : Nat) => ∃ (n97 : Int), (decide (0 < n89) = true → w93.cell? (Addr.mk k95 (k96 + (max (n89 - 1) 0).toNat * 3) none) = some
  (Value.int IntKind.i64 n97)) ∧ (decide (0 < n89) = true → 0 ≤ n89 ∧ n89 < (↑k21 : Int)) ∧ ptrK (some (decide (0 < n89))) p20 fun (k98 k99 : Nat) => ∃ (n100 : Int), (decide (0 < n89) = true
  → w93.cell? (Addr.mk k98 (k99 + n89.toNat * 3) none) = some (Value.int IntKind.i64 n100)) ∧ Br (decide (0 < n89) && decide (n97 ≠ n100)) (I64 (n88 + 1) ∧ Br (decide ((↑k78 : Int) ≤ n88 +
  1)) (∀ (w101 : World) (R102 : List Own), Ctx W w101 (R90 ++ R102) I91 → J (Value.bool false) w101) (∀ (w103 : World) (R104 : List Own), Ctx W w103 (R90 ++ R104) I91 → (0 ≤ n88 + 1 ∧ n88 + 1
  < (↑k78 : Int)) ∧ ptrK none p77 fun (k105 k106 : Nat) => ∃ (n107 : Int), w103.cell? (Addr.mk k105 (k106 + (n88 + 1).toNat) none) = some (Value.int IntKind.i64 n107) ∧ (0 ≤ n89 ∧ n89 < (↑k21
  : Int)) ∧ ptrK none p20 fun (k108 k109 : Nat) => ∃ (n110 : Int), w103.cell? (Addr.mk k108 (k109 + n89.toNat * 3) none) = some (Value.int IntKind.i64 n110) ∧ Br (decide (n107 ≠ n110)) (∀
  (w111 : World) (R112 : List Own), Ctx W w111 (R90 ++ R112) I91 → J (Value.bool false) w111) (I64 (n89 + 1) ∧ ∃ (R113 : List Own), ∃ (Φ114 : PW), ∃ (k115 : Nat), Stable Φ114 ∧ (∀ (w116 :
  World) (R117 : List Own), Ctx W w116 (R90 ++ R117) I91 → Ctx W w116 (R113 ++ R117) Φ114) ∧ I82 (n88 + 1) (n89 + 1) R113 Φ114 k115 ∧ k115 < k92))) (Br (decide ((↑k78 : Int) ≤ n88)) (∀ (w118
  : World) (R119 : List Own), Ctx W w118 (R90 ++ R119) I91 → J (Value.bool false) w118) (∀ (w120 : World) (R121 : List Own), Ctx W w120 (R90 ++ R121) I91 → (0 ≤ n88 ∧ n88 < (↑k78 : Int)) ∧
  ptrK none p77 fun (k122 k123 : Nat) => ∃ (n124 : Int), w120.cell? (Addr.mk k122 (k123 + n88.toNat) none) = some (Value.int IntKind.i64 n124) ∧ (0 ≤ n89 ∧ n89 < (↑k21 : Int)) ∧ ptrK none p20
  fun (k125 k126 : Nat) => ∃ (n127 : Int), w120.cell? (Addr.mk k125 (k126 + n89.toNat * 3) none) = some (Value.int IntKind.i64 n127) ∧ Br (decide (n124 ≠ n127)) (∀ (w128 : World) (R129 : List
  Own), Ctx W w128 (R90 ++ R129) I91 → J (Value.bool false) w128) (I64 (n89 + 1) ∧ ∃ (R130 : List Own), ∃ (Φ131 : PW), ∃ (k132 : Nat), Stable Φ131 ∧ (∀ (w133 : World) (R134 : List Own), Ctx W
  w133 (R90 ++ R134) I91 → Ctx W w133 (R130 ++ R134) Φ131) ∧ I82 n88 (n89 + 1) R130 Φ131 k132 ∧ k132 < k92)))) (∀ (w135 : World) (R136 : List Own), Ctx W w135 (R90 ++ R136) I91 → ((!decide
  ((↑k21 : Int) = 0) != decide ((↑k78 : Int) = 0) && decide (0 < (↑k21 : Int))) = true → I64 ((↑k78 : Int) - 1)) ∧ Br (decide ((↑k21 : Int) = 0) != decide ((↑k78 : Int) = 0) || decide (0 <
  (↑k21 : Int)) && decide (n88 ≠ (↑k78 : Int) - 1)) (∀ (w137 : World) (R138 : List Own), Ctx W w137 (R90 ++ R138) I91 → J (Value.bool false) w137) (∀ (w139 : World) (R140 : List Own), Ctx W
  w139 (R90 ++ R140) I91 → Br (decide (0 < n) && decide (n < (↑aN : Int))) (∃ (R141 : List Own), ∃ (Φ142 : PW), Stable Φ142 ∧ (∀ (w143 : World) (R144 : List Own), Ctx W w143 (R90 ++ R144) I91
  → Ctx W w143 (R141 ++ R144) Φ142) ∧ (0 ≤ n ∧ n ≤ (↑aN : Int) ∧ aN ≤ aC) ∧ (0 ≤ n ∧ n ≤ (↑aC : Int)) ∧ ∀ (k145 : Nat), (∀ (w146 : World) (R147 : List Own), Ctx W w146 (Own.blk k145 [] 39 ::
  R90 ++ R147) I91 → Ctx W w146 (R141 ++ R147) Φ142) ∧ ∀ (w148 : World) (R149 : List Own), Ctx W w148 (Own.blk k145 [] 39 :: R90 ++ R149) I91 → ∃ (p150 : Option Addr), ∃ (k151 : Nat), ∃ (k152
  : Nat), ∃ (w153 : World), Sem.run Tryd.prog (builtin Builtin.append #[22, 22] 22 #[false, false] #[Value.slice (some (Addr.mk k145 0 none)) 0 0, Value.slice (subPtr aP 3 n.toNat aC) (aN -
  n.toNat) (aC - n.toNat)]) w148 = Result.ok (Next.value (Value.slice p150 k151 k152)) w153 ∧ ∃ (R154 : List Own), ∃ (Φ155 : PW), Stable Φ155 ∧ Ctx W w153 (R154 ++ R149) Φ155 ∧ (∀ (w156 :
  World) (R157 : List Own), Ctx W w156 (R154 ++ R157) Φ155 → Ctx W w156 (R141 ++ R157) Φ142) ∧ ∀ (w158 : World) (R159 : List Own), Ctx W w158 (R154 ++ R159) Φ155 → ∃ (p160 : Option Addr), ∃
  (k161 : Nat), ∃ (k162 : Nat), ∃ (w163 : World), Sem.run Tryd.prog (builtin Builtin.append #[22, 22] 22 #[false, false] #[Value.slice p150 k151 k152, Value.slice (subPtr aP 3 0 aC) n.toNat
  aC]) w158 = Result.ok (Next.value (Value.slice p160 k161 k162)) w163 ∧ ∃ (R164 : List Own), ∃ (Φ165 : PW), Stable Φ165 ∧ Ctx W w163 (R164 ++ R159) Φ165 ∧ Br c4 (∀ (w166 : World) (R167 :
  List Own), Ctx W w166 (R164 ++ R167) Φ165 → Calls Tryd.prog F.delta_Multiset #[Value.slice aP aN aC] w166 fun (e168 : Ending) (w169 : World) => ∃ (c170 : Bool), e168 = Ending.returned
  (Value.bool c170) ∧ ∃ (R171 : List Own), ∃ (Φ172 : PW), Stable Φ172 ∧ Ctx W w169 (R171 ++ R167) Φ172 ∧ Br (c170 == !c31) (∀ (w173 : World) (R174 : List Own), Ctx W w173 (R171 ++ R174) Φ172
  → Calls Tryd.prog F.delta_Consolidate #[Value.slice p160 k161 k162] w173 fun (e175 : Ending) (w176 : World) => ∃ (p177 : Option Addr), ∃ (k178 : Nat), ∃ (k179 : Nat), e175 = Ending.returned
  (Value.slice p177 k178 k179) ∧ ∃ (R180 : List Own), ∃ (Φ181 : PW), Stable Φ181 ∧ Ctx W w176 (R180 ++ R174) Φ181 ∧ ∀ (w182 : World) (R183 : List Own), Ctx W w182 (R180 ++ R183) Φ181 → Calls
  Tryd.prog F.errataref28_Equal #[Value.slice p177 k178 k179, Value.slice p20 k21 k22] w182 fun (e184 : Ending) (w185 : World) => ∃ (c186 : Bool), e184 = Ending.returned (Value.bool c186) ∧ ∃
  (R187 : List Own), ∃ (Φ188 : PW), Stable Φ188 ∧ Ctx W w185 (R187 ++ R183) Φ188 ∧ ∀ (w189 : World) (R190 : List Own), Ctx W w189 (R187 ++ R190) Φ188 → J (Value.bool c186) w189) (∀ (w191 :
  World) (R192 : List Own), Ctx W w191 (R171 ++ R192) Φ172 → J (Value.bool false) w191)) (∀ (w193 : World) (R194 : List Own), Ctx W w193 (R164 ++ R194) Φ165 → J (Value.bool false) w193)) (Br
  c4 (∀ (w195 : World) (R196 : List Own), Ctx W w195 (R90 ++ R196) I91 → Calls Tryd.prog F.delta_Multiset #[Value.slice aP aN aC] w195 fun (e197 : Ending) (w198 : World) => ∃ (c199 : Bool),
  e197 = Ending.returned (Value.bool c199) ∧ ∃ (R200 : List Own), ∃ (Φ201 : PW), Stable Φ201 ∧ Ctx W w198 (R200 ++ R196) Φ201 ∧ Br (c199 == !c31) (∀ (w202 : World) (R203 : List Own), Ctx W
  w202 (R200 ++ R203) Φ201 → Calls Tryd.prog F.delta_Consolidate #[Value.slice aP aN aC] w202 fun (e204 : Ending) (w205 : World) => ∃ (p206 : Option Addr), ∃ (k207 : Nat), ∃ (k208 : Nat),
  e204 = Ending.returned (Value.slice p206 k207 k208) ∧ ∃ (R209 : List Own), ∃ (Φ210 : PW), Stable Φ210 ∧ Ctx W w205 (R209 ++ R203) Φ210 ∧ ∀ (w211 : World) (R212 : List Own), Ctx W w211 (R209
  ++ R212) Φ210 → Calls Tryd.prog F.errataref28_Equal #[Value.slice p206 k207 k208, Value.slice p20 k21 k22] w211 fun (e213 : Ending) (w214 : World) => ∃ (c215 : Bool), e213 = Ending.returned
  (Value.bool c215) ∧ ∃ (R216 : List Own), ∃ (Φ217 : PW), Stable Φ217 ∧ Ctx W w214 (R216 ++ R212) Φ217 ∧ ∀ (w218 : World) (R219 : List Own), Ctx W w218 (R216 ++ R219) Φ217 → J (Value.bool
  c215) w218) (∀ (w220 : World) (R221 : List Own), Ctx W w220 (R200 ++ R221) Φ201 → J (Value.bool false) w220)) (∀ (w222 : World) (R223 : List Own), Ctx W w222 (R90 ++ R223) I91 → J
  (Value.bool false) w222))))))

theorem Berratalaw28_DeltaCounts_run (aP : Option Addr) (aN aC : Nat) (n : Int) {W w : World} {R : List Own} {Φ : PW} [Stable Φ] {J : Value → World → Prop} (c : Ctx W w R Φ) (h : Berratalaw28_DeltaCounts aP aN aC n W R Φ J) : Calls Tryd.prog F.erratalaw28_DeltaCounts #[.slice aP aN aC, .int .i64 n] w fun e w' => ∃ v, e = .returned v ∧ J v w' :=
  vcFS_sound (H := { keep := some [0, 1, 4, 5, 6, 7, 8, 9, 10, 11, 12, 16, 23, 47, 66, 72, 82, 101, 110], stages := [(9, [.held [(0, true), (1, true), (2, true), (3, true), (4, true), (8, true), (9, true), (5, true), (10, true), (6, true), (11, true), (7, true), (12, true)], .stage [] (some 13), .stage [14, 15, 16] none]), (25, [.held [(1, true), (2, true), (5, true), (6, true), (3, true), (7, true), (0, false), (4, false)], .stage [] (some 8), .stage [9] none])], split := [26], loops := [(13, [(10, .one (.int .i64)), (11, .one (.int .i64))], []), (7, [(7, .one (.bool)), (8, .one (.int .i64))], [])] }) (by rw [show vcFS Tryd.prog W { keep := some [0, 1, 4, 5, 6, 7, 8, 9, 10, 11, 12, 16, 23, 47, 66, 72, 82, 101, 110], stages := [(9, [.held [(0, true), (1, true), (2, true), (3, true), (4, true), (8, true), (9, true), (5, true), (10, true), (6, true), (11, true), (7, true), (12, true)], .stage [] (some 13), .stage [14, 15, 16] none]), (25, [.held [(1, true), (2, true), (5, true), (6, true), (3, true), (7, true), (0, false), (4, false)], .stage [] (some 8), .stage [9] none])], split := [26], loops := [(13, [(10, .one (.int .i64)), (11, .one (.int .i64))], []), (7, [(7, .one (.bool)), (8, .one (.int .i64))], [])] } F.erratalaw28_DeltaCounts #[.slice aP aN aC, .int .i64 n] R Φ J = Berratalaw28_DeltaCounts aP aN aC n W R Φ J by kernel_rfl]; exact h) c

/-- erratalaw28.DeltaGroup -/
-- loop at region 7: 10 i; blocks 
def Berratalaw28_DeltaGroup (aP : Option Addr) (aN aC : Nat) (bP : Option Addr) (bN bC : Nat) (cP : Option Addr) (cN cC : Nat) (W : World) (R : List Own) (Φ : PW) (J : Value → World → Prop) : Prop :=
  ∀ (w0 : World) (R1 : List Own), Ctx W w0 (R ++ R1) Φ → Calls Tryd.prog F.erratalaw28_small #[] w0 fun (e2 : Ending) (w3 : World) => ∃ (c4 : Bool), e2 = Ending.returned (Value.bool c4) ∧ ∃
  (R5 : List Own), ∃ (Φ6 : PW), Stable Φ6 ∧ Ctx W w3 (R5 ++ R1) Φ6 ∧ ∀ (w7 : World) (R8 : List Own), Ctx W w7 (R5 ++ R8) Φ6 → Calls Tryd.prog F.erratalaw28_few #[Value.slice aP aN aC,
  Value.int IntKind.i64 100] w7 fun (e9 : Ending) (w10 : World) => ∃ (c11 : Bool), e9 = Ending.returned (Value.bool c11) ∧ ∃ (R12 : List Own), ∃ (Φ13 : PW), Stable Φ13 ∧ Ctx W w10 (R12 ++ R8)
  Φ13 ∧ Br (!c11) (∀ (w14 : World) (R15 : List Own), Ctx W w14 (R12 ++ R15) Φ13 → J (Value.bool c4) w14) (∀ (w16 : World) (R17 : List Own), Ctx W w16 (R12 ++ R17) Φ13 → Calls Tryd.prog
  F.erratalaw28_few #[Value.slice bP bN bC, Value.int IntKind.i64 100] w16 fun (e18 : Ending) (w19 : World) => ∃ (c20 : Bool), e18 = Ending.returned (Value.bool c20) ∧ ∃ (R21 : List Own), ∃
  (Φ22 : PW), Stable Φ22 ∧ Ctx W w19 (R21 ++ R17) Φ22 ∧ Br (!c20) (∀ (w23 : World) (R24 : List Own), Ctx W w23 (R21 ++ R24) Φ22 → J (Value.bool c4) w23) (∀ (w25 : World) (R26 : List Own), Ctx
  W w25 (R21 ++ R26) Φ22 → Calls Tryd.prog F.erratalaw28_few #[Value.slice cP cN cC, Value.int IntKind.i64 100] w25 fun (e27 : Ending) (w28 : World) => ∃ (c29 : Bool), e27 = Ending.returned
  (Value.bool c29) ∧ ∃ (R30 : List Own), ∃ (Φ31 : PW), Stable Φ31 ∧ Ctx W w28 (R30 ++ R26) Φ31 ∧ Br (!c29) (∀ (w32 : World) (R33 : List Own), Ctx W w32 (R30 ++ R33) Φ31 → J (Value.bool c4)
  w32) (∀ (w34 : World) (R35 : List Own), Ctx W w34 (R30 ++ R35) Φ31 → Calls Tryd.prog F.delta_Add #[Value.slice aP aN aC, Value.slice bP bN bC] w34 fun (e36 : Ending) (w37 : World) => ∃ (p38
  : Option Addr), ∃ (k39 : Nat), ∃ (k40 : Nat), e36 = Ending.returned (Value.slice p38 k39 k40) ∧ ∃ (R41 : List Own), ∃ (Φ42 : PW), Stable Φ42 ∧ Ctx W w37 (R41 ++ R35) Φ42 ∧ ∀ (w43 : World)
  (R44 : List Own), Ctx W w43 (R41 ++ R44) Φ42 → Calls Tryd.prog F.delta_Consolidated #[Value.slice p38 k39 k40] w43 fun (e45 : Ending) (w46 : World) => ∃ (c47 : Bool), e45 = Ending.returned
  (Value.bool c47) ∧ ∃ (R48 : List Own), ∃ (Φ49 : PW), Stable Φ49 ∧ Ctx W w46 (R48 ++ R44) Φ49 ∧ Br c47 (∀ (w50 : World) (R51 : List Own), Ctx W w50 (R48 ++ R51) Φ49 → Calls Tryd.prog
  F.delta_Add #[Value.slice bP bN bC, Value.slice aP aN aC] w50 fun (e52 : Ending) (w53 : World) => ∃ (p54 : Option Addr), ∃ (k55 : Nat), ∃ (k56 : Nat), e52 = Ending.returned (Value.slice p54
  k55 k56) ∧ ∃ (R57 : List Own), ∃ (Φ58 : PW), Stable Φ58 ∧ Ctx W w53 (R57 ++ R51) Φ58 ∧ ∀ (w59 : World) (R60 : List Own), Ctx W w59 (R57 ++ R60) Φ58 → Calls Tryd.prog F.errataref28_Equal
  #[Value.slice p38 k39 k40, Value.slice p54 k55 k56] w59 fun (e61 : Ending) (w62 : World) => ∃ (c63 : Bool), e61 = Ending.returned (Value.bool c63) ∧ ∃ (R64 : List Own), ∃ (Φ65 : PW), Stable
  Φ65 ∧ Ctx W w62 (R64 ++ R60) Φ65 ∧ Br c63 (∀ (w66 : World) (R67 : List Own), Ctx W w66 (R64 ++ R67) Φ65 → Calls Tryd.prog F.delta_Add #[Value.slice p38 k39 k40, Value.slice cP cN cC] w66
  fun (e68 : Ending) (w69 : World) => ∃ (p70 : Option Addr), ∃ (k71 : Nat), ∃ (k72 : Nat), e68 = Ending.returned (Value.slice p70 k71 k72) ∧ ∃ (R73 : List Own), ∃ (Φ74 : PW), Stable Φ74 ∧ Ctx
  W w69 (R73 ++ R67) Φ74 ∧ ∀ (w75 : World) (R76 : List Own), Ctx W w75 (R73 ++ R76) Φ74 → Calls Tryd.prog F.delta_Add #[Value.slice bP bN bC, Value.slice cP cN cC] w75 fun (e77 : Ending) (w78
  : World) => ∃ (p79 : Option Addr), ∃ (k80 : Nat), ∃ (k81 : Nat), e77 = Ending.returned (Value.slice p79 k80 k81) ∧ ∃ (R82 : List Own), ∃ (Φ83 : PW), Stable Φ83 ∧ Ctx W w78 (R82 ++ R76) Φ83
  ∧ ∀ (w84 : World) (R85 : List Own), Ctx W w84 (R82 ++ R85) Φ83 → Calls Tryd.prog F.delta_Add #[Value.slice aP aN aC, Value.slice p79 k80 k81] w84 fun (e86 : Ending) (w87 : World) => ∃ (p88
  : Option Addr), ∃ (k89 : Nat), ∃ (k90 : Nat), e86 = Ending.returned (Value.slice p88 k89 k90) ∧ ∃ (R91 : List Own), ∃ (Φ92 : PW), Stable Φ92 ∧ Ctx W w87 (R91 ++ R85) Φ92 ∧ ∀ (w93 : World)
  (R94 : List Own), Ctx W w93 (R91 ++ R94) Φ92 → Calls Tryd.prog F.errataref28_Equal #[Value.slice p70 k71 k72, Value.slice p88 k89 k90] w93 fun (e95 : Ending) (w96 : World) => ∃ (c97 :
  Bool), e95 = Ending.returned (Value.bool c97) ∧ ∃ (R98 : List Own), ∃ (Φ99 : PW), Stable Φ99 ∧ Ctx W w96 (R98 ++ R94) Φ99 ∧ Br c97 (∀ (w100 : World) (R101 : List Own), Ctx W w100 (R98 ++
  R101) Φ99 → Calls Tryd.prog F.delta_Sub #[Value.slice p38 k39 k40, Value.slice bP bN bC] w100 fun (e102 : Ending) (w103 : World) => ∃ (p104 : Option Addr), ∃ (k105 : Nat), ∃ (k106 : Nat),
  e102 = Ending.returned (Value.slice p104 k105 k106) ∧ ∃ (R107 : List Own), ∃ (Φ108 : PW), Stable Φ108 ∧ Ctx W w103 (R107 ++ R101) Φ108 ∧ ∀ (w109 : World) (R110 : List Own), Ctx W w109 (R107
  ++ R110) Φ108 → Calls Tryd.prog F.delta_Consolidate #[Value.slice aP aN aC] w109 fun (e111 : Ending) (w112 : World) => ∃ (p113 : Option Addr), ∃ (k114 : Nat), ∃ (k115 : Nat), e111 =
  Ending.returned (Value.slice p113 k114 k115) ∧ ∃ (R116 : List Own), ∃ (Φ117 : PW), Stable Φ117 ∧ Ctx W w112 (R116 ++ R110) Φ117 ∧ ∀ (w118 : World) (R119 : List Own), Ctx W w118 (R116 ++
  R119) Φ117 → Calls Tryd.prog F.errataref28_Equal #[Value.slice p104 k105 k106, Value.slice p113 k114 k115] w118 fun (e120 : Ending) (w121 : World) => ∃ (c122 : Bool), e120 = Ending.returned
  (Value.bool c122) ∧ ∃ (R123 : List Own), ∃ (Φ124 : PW), Stable Φ124 ∧ Ctx W w121 (R123 ++ R119) Φ124 ∧ Br c122 (∀ (w125 : World) (R126 : List Own), Ctx W w125 (R123 ++ R126) Φ124 → Calls
  Tryd.prog F.delta_Sub #[Value.slice aP aN aC, Value.slice aP aN aC] w125 fun (e127 : Ending) (w128 : World) => ∃ (p129 : Option Addr), ∃ (k130 : Nat), ∃ (k131 : Nat), e127 = Ending.returned
  (Value.slice p129 k130 k131) ∧ ∃ (R132 : List Own), ∃ (Φ133 : PW), Stable Φ133 ∧ Ctx W w128 (R132 ++ R126) Φ133 ∧ exI fun (I134 : Int → List Own → PW → Nat → Prop) => (∃ (R135 : List Own),
  ∃ (Φ136 : PW), ∃ (k137 : Nat), Stable Φ136 ∧ (∀ (w138 : World) (R139 : List Own), Ctx W w138 (R132 ++ R139) Φ133 → Ctx W w138 (R135 ++ R139) Φ136) ∧ I134 0 R135 Φ136 k137) ∧ ∀ (n140 : Int)
  (R141 : List Own) (I142 : List Nat → World → Prop) (k143 : Nat), Stable I142 → I134 n140 R141 I142 k143 → Br (decide (n140 < (↑aN : Int))) (∃ (R144 : List Own), ∃ (Φ145 : PW), Stable Φ145 ∧
  (∀ (w146 : World) (R147 : List Own), Ctx W w146 (R141 ++ R147) I142 → Ctx W w146 (R144 ++ R147) Φ145) ∧ (0 ≤ n140 ∧ n140 < (↑aN : Int)) ∧ ptrK none aP fun (k148 k149 : Nat) => (0 ≤ n140 ∧
  n140 < (↑aN : Int)) ∧ ptrK none aP fun (k150 k151 : Nat) => (0 ≤ n140 ∧ n140 < (↑aN : Int)) ∧ ptrK none aP fun (k152 k153 : Nat) => (0 ≤ n140 ∧ n140 < (↑aN : Int)) ∧ ptrK none aP fun (k154
  k155 : Nat) => (0 ≤ n140 ∧ n140 < (↑aN : Int)) ∧ ptrK none aP fun (k156 k157 : Nat) => (0 ≤ n140 ∧ n140 < (↑aN : Int)) ∧ ptrK none aP fun (k158 k159 : Nat) => ∃ (n160 : Int), (∀ (w161 :
  World) (R162 : List Own), Ctx W w161 (R144 ++ R162) Φ145 → ∃ (n163 : Int), w161.cell? (Addr.mk k148 (k149 + n140.toNat * 3) none) = some (Value.int IntKind.i64 n163) ∧ Value.int IntKind.i64
  n163 = Value.int IntKind.i64 n160) ∧ ∃ (p164 : Option Addr), ∃ (k165 : Nat), ∃ (k166 : Nat), (∀ (w167 : World) (R168 : List Own), Ctx W w167 (R144 ++ R168) Φ145 → ∃ (p169 : Option Addr), ∃
  (k170 : Nat), ∃ (k171 : Nat), w167.cell? (Addr.mk k150 (k151 + n140.toNat * 3 + 1) none) = some (Value.slice p169 k170 k171) ∧ Value.slice p169 k170 k171 = Value.slice p164 k165 k166) ∧ ∃
  (n172 : Int), (∀ (w173 : World) (R174 : List Own), Ctx W w173 (R144 ++ R174) Φ145 → ∃ (n175 : Int), w173.cell? (Addr.mk k152 (k153 + n140.toNat * 3) none) = some (Value.int IntKind.i64
  n175) ∧ Value.int IntKind.i64 n175 = Value.int IntKind.i64 n172) ∧ ∃ (p176 : Option Addr), ∃ (k177 : Nat), ∃ (k178 : Nat), (∀ (w179 : World) (R180 : List Own), Ctx W w179 (R144 ++ R180)
  Φ145 → ∃ (p181 : Option Addr), ∃ (k182 : Nat), ∃ (k183 : Nat), w179.cell? (Addr.mk k154 (k155 + n140.toNat * 3 + 1) none) = some (Value.slice p181 k182 k183) ∧ Value.slice p181 k182 k183 =
  Value.slice p176 k177 k178) ∧ ∃ (n184 : Int), (∀ (w185 : World) (R186 : List Own), Ctx W w185 (R144 ++ R186) Φ145 → ∃ (n187 : Int), w185.cell? (Addr.mk k156 (k157 + n140.toNat * 3) none) =
  some (Value.int IntKind.i64 n187) ∧ Value.int IntKind.i64 n187 = Value.int IntKind.i64 n184) ∧ ∃ (p188 : Option Addr), ∃ (k189 : Nat), ∃ (k190 : Nat), (∀ (w191 : World) (R192 : List Own),
  Ctx W w191 (R144 ++ R192) Φ145 → ∃ (p193 : Option Addr), ∃ (k194 : Nat), ∃ (k195 : Nat), w191.cell? (Addr.mk k158 (k159 + n140.toNat * 3 + 1) none) = some (Value.slice p193 k194 k195) ∧
  Value.slice p193 k194 k195 = Value.slice p188 k189 k190) ∧ ∀ (w196 : World) (R197 : List Own), Ctx W w196 (R141 ++ R197) I142 → Calls Tryd.prog F.delta_Find #[Value.slice p38 k39 k40,
  Value.int IntKind.i64 n160, Value.slice p164 k165 k166] w196 fun (e198 : Ending) (w199 : World) => ∃ (n200 : Int), e198 = Ending.returned (Value.int IntKind.i64 n200) ∧ ∃ (R201 : List Own),
  ∃ (Φ202 : PW), Stable Φ202 ∧ Ctx W w199 (R201 ++ R197) Φ202 ∧ (∀ (w203 : World) (R204 : List Own), Ctx W w203 (R201 ++ R204) Φ202 → Ctx W w203 (R144 ++ R204) Φ145) ∧ ∀ (w205 : World) (R206
  : List Own), Ctx W w205 (R201 ++ R206) Φ202 → Calls Tryd.prog F.delta_Find #[Value.slice aP aN aC, Value.int IntKind.i64 n172, Value.slice p176 k177 k178] w205 fun (e207 : Ending) (w208 :
  World) => ∃ (n209 : Int), e207 = Ending.returned (Value.int IntKind.i64 n209) ∧ ∃ (R210 : List Own), ∃ (Φ211 : PW), Stable Φ211 ∧ Ctx W w208 (R210 ++ R206) Φ211 ∧ (∀ (w212 : World) (R213 :
  List Own), Ctx W w212 (R210 ++ R213) Φ211 → Ctx W w212 (R144 ++ R213) Φ145) ∧ ∀ (w214 : World) (R215 : List Own), Ctx W w214 (R210 ++ R215) Φ211 → Calls Tryd.prog F.delta_Find #[Value.slice
  bP bN bC, Value.int IntKind.i64 n184, Value.slice p188 k189 k190] w214 fun (e216 : Ending) (w217 : World) => ∃ (n218 : Int), e216 = Ending.returned (Value.int IntKind.i64 n218) ∧ ∃ (R219 :
  List Own), ∃ (Φ220 : PW), Stable Φ220 ∧ Ctx W w217 (R219 ++ R215) Φ220 ∧ Br (decide (n200 ≠ IntKind.i64.wrap (n209 + n218))) (∀ (w221 : World) (R222 : List Own), Ctx W w221 (R219 ++ R222)
  Φ220 → J (Value.bool false) w221) (I64 (n140 + 1) ∧ ∃ (R223 : List Own), ∃ (Φ224 : PW), ∃ (k225 : Nat), Stable Φ224 ∧ (∀ (w226 : World) (R227 : List Own), Ctx W w226 (R219 ++ R227) Φ220 →
  Ctx W w226 (R223 ++ R227) Φ224) ∧ I134 (n140 + 1) R223 Φ224 k225 ∧ k225 < k143)) (Br c4 (Br (decide ((↑k130 : Int) = 0)) (∀ (w228 : World) (R229 : List Own), Ctx W w228 (R141 ++ R229) I142
  → Calls Tryd.prog F.delta_Count #[Value.slice p38 k39 k40] w228 fun (e230 : Ending) (w231 : World) => ∃ (n232 : Int), e230 = Ending.returned (Value.int IntKind.i64 n232) ∧ ∃ (R233 : List
  Own), ∃ (Φ234 : PW), Stable Φ234 ∧ Ctx W w231 (R233 ++ R229) Φ234 ∧ ∀ (w235 : World) (R236 : List Own), Ctx W w235 (R233 ++ R236) Φ234 → Calls Tryd.prog F.delta_Count #[Value.slice aP aN
  aC] w235 fun (e237 : Ending) (w238 : World) => ∃ (n239 : Int), e237 = Ending.returned (Value.int IntKind.i64 n239) ∧ ∃ (R240 : List Own), ∃ (Φ241 : PW), Stable Φ241 ∧ Ctx W w238 (R240 ++
  R236) Φ241 ∧ ∀ (w242 : World) (R243 : List Own), Ctx W w242 (R240 ++ R243) Φ241 → Calls Tryd.prog F.delta_Count #[Value.slice bP bN bC] w242 fun (e244 : Ending) (w245 : World) => ∃ (n246 :
  Int), e244 = Ending.returned (Value.int IntKind.i64 n246) ∧ ∃ (R247 : List Own), ∃ (Φ248 : PW), Stable Φ248 ∧ Ctx W w245 (R247 ++ R243) Φ248 ∧ Br (decide (n232 = IntKind.i64.wrap (n239 +
  n246))) (∀ (w249 : World) (R250 : List Own), Ctx W w249 (R247 ++ R250) Φ248 → Calls Tryd.prog F.delta_Consolidate #[Value.slice aP aN aC] w249 fun (e251 : Ending) (w252 : World) => ∃ (p253
  : Option Addr), ∃ (k254 : Nat), ∃ (k255 : Nat), e251 = Ending.returned (Value.slice p253 k254 k255) ∧ ∃ (R256 : List Own), ∃ (Φ257 : PW), Stable Φ257 ∧ Ctx W w252 (R256 ++ R250) Φ257 ∧ ∀
  (w258 : World) (R259 : List Own), Ctx W w258 (R256 ++ R259) Φ257 → Calls Tryd.prog F.delta_Same #[Value.slice p253 k254 k255, Value.slice aP aN aC] w258 fun (e260 : Ending) (w261 : World)
  => ∃ (c262 : Bool), e260 = Ending.returned (Value.bool c262) ∧ ∃ (R263 : List Own), ∃ (Φ264 : PW), Stable Φ264 ∧ Ctx W w261 (R263 ++ R259) Φ264 ∧ Br c262 (∀ (w265 : World) (R266 : List
  Own), Ctx W w265 (R263 ++ R266) Φ264 → Calls Tryd.prog F.delta_Consolidate #[Value.slice p38 k39 k40] w265 fun (e267 : Ending) (w268 : World) => ∃ (p269 : Option Addr), ∃ (k270 : Nat), ∃
  (k271 : Nat), e267 = Ending.returned (Value.slice p269 k270 k271) ∧ ∃ (R272 : List Own), ∃ (Φ273 : PW), Stable Φ273 ∧ Ctx W w268 (R272 ++ R266) Φ273 ∧ ∀ (w274 : World) (R275 : List Own),
  Ctx W w274 (R272 ++ R275) Φ273 → Calls Tryd.prog F.errataref28_Equal #[Value.slice p269 k270 k271, Value.slice p38 k39 k40] w274 fun (e276 : Ending) (w277 : World) => ∃ (c278 : Bool), e276
  = Ending.returned (Value.bool c278) ∧ ∃ (R279 : List Own), ∃ (Φ280 : PW), Stable Φ280 ∧ Ctx W w277 (R279 ++ R275) Φ280 ∧ ∀ (w281 : World) (R282 : List Own), Ctx W w281 (R279 ++ R282) Φ280 →
  J (Value.bool c278) w281) (∀ (w283 : World) (R284 : List Own), Ctx W w283 (R263 ++ R284) Φ264 → J (Value.bool false) w283)) (∀ (w285 : World) (R286 : List Own), Ctx W w285 (R247 ++ R286)
  Φ248 → J (Value.bool false) w285)) (∀ (w287 : World) (R288 : List Own), Ctx W w287 (R141 ++ R288) I142 → J (Value.bool false) w287)) (∀ (w289 : World) (R290 : List Own), Ctx W w289 (R141 ++
  R290) I142 → J (Value.bool false) w289))) (exI fun (I291 : Int → List Own → PW → Nat → Prop) => (∃ (R292 : List Own), ∃ (Φ293 : PW), ∃ (k294 : Nat), Stable Φ293 ∧ (∀ (w295 : World) (R296 :
  List Own), Ctx W w295 (R123 ++ R296) Φ124 → Ctx W w295 (R292 ++ R296) Φ293) ∧ I291 0 R292 Φ293 k294) ∧ ∀ (n297 : Int) (R298 : List Own) (I299 : List Nat → World → Prop) (k300 : Nat), Stable
  I299 → I291 n297 R298 I299 k300 → Br (decide (n297 < (↑aN : Int))) (∃ (R301 : List Own), ∃ (Φ302 : PW), Stable Φ302 ∧ (∀ (w303 : World) (R304 : List Own), Ctx W w303 (R298 ++ R304) I299 →
  Ctx W w303 (R301 ++ R304) Φ302) ∧ (0 ≤ n297 ∧ n297 < (↑aN : Int)) ∧ ptrK none aP fun (k305 k306 : Nat) => (0 ≤ n297 ∧ n297 < (↑aN : Int)) ∧ ptrK none aP fun (k307 k308 : Nat) => (0 ≤ n297 ∧
  n297 < (↑aN : Int)) ∧ ptrK none aP fun (k309 k310 : Nat) => (0 ≤ n297 ∧ n297 < (↑aN : Int)) ∧ ptrK none aP fun (k311 k312 : Nat) => (0 ≤ n297 ∧ n297 < (↑aN : Int)) ∧ ptrK none aP fun (k313
  k314 : Nat) => (0 ≤ n297 ∧ n297 < (↑aN : Int)) ∧ ptrK none aP fun (k315 k316 : Nat) => ∃ (n317 : Int), (∀ (w318 : World) (R319 : List Own), Ctx W w318 (R301 ++ R319) Φ302 → ∃ (n320 : Int),
  w318.cell? (Addr.mk k305 (k306 + n297.toNat * 3) none) = some (Value.int IntKind.i64 n320) ∧ Value.int IntKind.i64 n320 = Value.int IntKind.i64 n317) ∧ ∃ (p321 : Option Addr), ∃ (k322 :
  Nat), ∃ (k323 : Nat), (∀ (w324 : World) (R325 : List Own), Ctx W w324 (R301 ++ R325) Φ302 → ∃ (p326 : Option Addr), ∃ (k327 : Nat), ∃ (k328 : Nat), w324.cell? (Addr.mk k307 (k308 +
  n297.toNat * 3 + 1) none) = some (Value.slice p326 k327 k328) ∧ Value.slice p326 k327 k328 = Value.slice p321 k322 k323) ∧ ∃ (n329 : Int), (∀ (w330 : World) (R331 : List Own), Ctx W w330
  (R301 ++ R331) Φ302 → ∃ (n332 : Int), w330.cell? (Addr.mk k309 (k310 + n297.toNat * 3) none) = some (Value.int IntKind.i64 n332) ∧ Value.int IntKind.i64 n332 = Value.int IntKind.i64 n329) ∧
  ∃ (p333 : Option Addr), ∃ (k334 : Nat), ∃ (k335 : Nat), (∀ (w336 : World) (R337 : List Own), Ctx W w336 (R301 ++ R337) Φ302 → ∃ (p338 : Option Addr), ∃ (k339 : Nat), ∃ (k340 : Nat),
  w336.cell? (Addr.mk k311 (k312 + n297.toNat * 3 + 1) none) = some (Value.slice p338 k339 k340) ∧ Value.slice p338 k339 k340 = Value.slice p333 k334 k335) ∧ ∃ (n341 : Int), (∀ (w342 : World)
  (R343 : List Own), Ctx W w342 (R301 ++ R343) Φ302 → ∃ (n344 : Int), w342.cell? (Addr.mk k313 (k314 + n297.toNat * 3) none) = some (Value.int IntKind.i64 n344) ∧ Value.int IntKind.i64 n344 =
  Value.int IntKind.i64 n341) ∧ ∃ (p345 : Option Addr), ∃ (k346 : Nat), ∃ (k347 : Nat), (∀ (w348 : World) (R349 : List Own), Ctx W w348 (R301 ++ R349) Φ302 → ∃ (p350 : Option Addr), ∃ (k351 :
  Nat), ∃ (k352 : Nat), w348.cell? (Addr.mk k315 (k316 + n297.toNat * 3 + 1) none) = some (Value.slice p350 k351 k352) ∧ Value.slice p350 k351 k352 = Value.slice p345 k346 k347) ∧ ∀ (w353 :
  World) (R354 : List Own), Ctx W w353 (R298 ++ R354) I299 → Calls Tryd.prog F.delta_Find #[Value.slice p38 k39 k40, Value.int IntKind.i64 n317, Value.slice p321 k322 k323] w353 fun (e355 :
  Ending) (w356 : World) => ∃ (n357 : Int), e355 = Ending.returned (Value.int IntKind.i64 n357) ∧ ∃ (R358 : List Own), ∃ (Φ359 : PW), Stable Φ359 ∧ Ctx W w356 (R358 ++ R354) Φ359 ∧ (∀ (w360 :
  World) (R361 : List Own), Ctx W w360 (R358 ++ R361) Φ359 → Ctx W w360 (R301 ++ R361) Φ302) ∧ ∀ (w362 : World) (R363 : List Own), Ctx W w362 (R358 ++ R363) Φ359 → Calls Tryd.prog
  F.delta_Find #[Value.slice aP aN aC, Value.int IntKind.i64 n329, Value.slice p333 k334 k335] w362 fun (e364 : Ending) (w365 : World) => ∃ (n366 : Int), e364 = Ending.returned (Value.int
  IntKind.i64 n366) ∧ ∃ (R367 : List Own), ∃ (Φ368 : PW), Stable Φ368 ∧ Ctx W w365 (R367 ++ R363) Φ368 ∧ (∀ (w369 : World) (R370 : List Own), Ctx W w369 (R367 ++ R370) Φ368 → Ctx W w369 (R301
  ++ R370) Φ302) ∧ ∀ (w371 : World) (R372 : List Own), Ctx W w371 (R367 ++ R372) Φ368 → Calls Tryd.prog F.delta_Find #[Value.slice bP bN bC, Value.int IntKind.i64 n341, Value.slice p345 k346
  k347] w371 fun (e373 : Ending) (w374 : World) => ∃ (n375 : Int), e373 = Ending.returned (Value.int IntKind.i64 n375) ∧ ∃ (R376 : List Own), ∃ (Φ377 : PW), Stable Φ377 ∧ Ctx W w374 (R376 ++
  R372) Φ377 ∧ Br (decide (n357 ≠ IntKind.i64.wrap (n366 + n375))) (∀ (w378 : World) (R379 : List Own), Ctx W w378 (R376 ++ R379) Φ377 → J (Value.bool false) w378) (I64 (n297 + 1) ∧ ∃ (R380 :
  List Own), ∃ (Φ381 : PW), ∃ (k382 : Nat), Stable Φ381 ∧ (∀ (w383 : World) (R384 : List Own), Ctx W w383 (R376 ++ R384) Φ377 → Ctx W w383 (R380 ++ R384) Φ381) ∧ I291 (n297 + 1) R380 Φ381
  k382 ∧ k382 < k300)) (Br c4 (∀ (w385 : World) (R386 : List Own), Ctx W w385 (R298 ++ R386) I299 → J (Value.bool false) w385) (∀ (w387 : World) (R388 : List Own), Ctx W w387 (R298 ++ R388)
  I299 → J (Value.bool false) w387)))) (exI fun (I389 : Int → List Own → PW → Nat → Prop) => (∃ (R390 : List Own), ∃ (Φ391 : PW), ∃ (k392 : Nat), Stable Φ391 ∧ (∀ (w393 : World) (R394 : List
  Own), Ctx W w393 (R98 ++ R394) Φ99 → Ctx W w393 (R390 ++ R394) Φ391) ∧ I389 0 R390 Φ391 k392) ∧ ∀ (n395 : Int) (R396 : List Own) (I397 : List Nat → World → Prop) (k398 : Nat), Stable I397 →
  I389 n395 R396 I397 k398 → Br (decide (n395 < (↑aN : Int))) (∃ (R399 : List Own), ∃ (Φ400 : PW), Stable Φ400 ∧ (∀ (w401 : World) (R402 : List Own), Ctx W w401 (R396 ++ R402) I397 → Ctx W
  w401 (R399 ++ R402) Φ400) ∧ (0 ≤ n395 ∧ n395 < (↑aN : Int)) ∧ ptrK none aP fun (k403 k404 : Nat) => (0 ≤ n395 ∧ n395 < (↑aN : Int)) ∧ ptrK none aP fun (k405 k406 : Nat) => (0 ≤ n395 ∧ n395
  < (↑aN : Int)) ∧ ptrK none aP fun (k407 k408 : Nat) => (0 ≤ n395 ∧ n395 < (↑aN : Int)) ∧ ptrK none aP fun (k409 k410 : Nat) => (0 ≤ n395 ∧ n395 < (↑aN : Int)) ∧ ptrK none aP fun (k411 k412
  : Nat) => (0 ≤ n395 ∧ n395 < (↑aN : Int)) ∧ ptrK none aP fun (k413 k414 : Nat) => ∃ (n415 : Int), (∀ (w416 : World) (R417 : List Own), Ctx W w416 (R399 ++ R417) Φ400 → ∃ (n418 : Int),
  w416.cell? (Addr.mk k403 (k404 + n395.toNat * 3) none) = some (Value.int IntKind.i64 n418) ∧ Value.int IntKind.i64 n418 = Value.int IntKind.i64 n415) ∧ ∃ (p419 : Option Addr), ∃ (k420 :
  Nat), ∃ (k421 : Nat), (∀ (w422 : World) (R423 : List Own), Ctx W w422 (R399 ++ R423) Φ400 → ∃ (p424 : Option Addr), ∃ (k425 : Nat), ∃ (k426 : Nat), w422.cell? (Addr.mk k405 (k406 +
  n395.toNat * 3 + 1) none) = some (Value.slice p424 k425 k426) ∧ Value.slice p424 k425 k426 = Value.slice p419 k420 k421) ∧ ∃ (n427 : Int), (∀ (w428 : World) (R429 : List Own), Ctx W w428
  (R399 ++ R429) Φ400 → ∃ (n430 : Int), w428.cell? (Addr.mk k407 (k408 + n395.toNat * 3) none) = some (Value.int IntKind.i64 n430) ∧ Value.int IntKind.i64 n430 = Value.int IntKind.i64 n427) ∧
  ∃ (p431 : Option Addr), ∃ (k432 : Nat), ∃ (k433 : Nat), (∀ (w434 : World) (R435 : List Own), Ctx W w434 (R399 ++ R435) Φ400 → ∃ (p436 : Option Addr), ∃ (k437 : Nat), ∃ (k438 : Nat),
  w434.cell? (Addr.mk k409 (k410 + n395.toNat * 3 + 1) none) = some (Value.slice p436 k437 k438) ∧ Value.slice p436 k437 k438 = Value.slice p431 k432 k433) ∧ ∃ (n439 : Int), (∀ (w440 : World)
  (R441 : List Own), Ctx W w440 (R399 ++ R441) Φ400 → ∃ (n442 : Int), w440.cell? (Addr.mk k411 (k412 + n395.toNat * 3) none) = some (Value.int IntKind.i64 n442) ∧ Value.int IntKind.i64 n442 =
  Value.int IntKind.i64 n439) ∧ ∃ (p443 : Option Addr), ∃ (k444 : Nat), ∃ (k445 : Nat), (∀ (w446 : World) (R447 : List Own), Ctx W w446 (R399 ++ R447) Φ400 → ∃ (p448 : Option Addr), ∃ (k449 :
  Nat), ∃ (k450 : Nat), w446.cell? (Addr.mk k413 (k414 + n395.toNat * 3 + 1) none) = some (Value.slice p448 k449 k450) ∧ Value.slice p448 k449 k450 = Value.slice p443 k444 k445) ∧ ∀ (w451 :
  World) (R452 : List Own), Ctx W w451 (R396 ++ R452) I397 → Calls Tryd.prog F.delta_Find #[Value.slice p38 k39 k40, Value.int IntKind.i64 n415, Value.slice p419 k420 k421] w451 fun (e453 :
  Ending) (w454 : World) => ∃ (n455 : Int), e453 = Ending.returned (Value.int IntKind.i64 n455) ∧ ∃ (R456 : List Own), ∃ (Φ457 : PW), Stable Φ457 ∧ Ctx W w454 (R456 ++ R452) Φ457 ∧ (∀ (w458 :
  World) (R459 : List Own), Ctx W w458 (R456 ++ R459) Φ457 → Ctx W w458 (R399 ++ R459) Φ400) ∧ ∀ (w460 : World) (R461 : List Own), Ctx W w460 (R456 ++ R461) Φ457 → Calls Tryd.prog
  F.delta_Find #[Value.slice aP aN aC, Value.int IntKind.i64 n427, Value.slice p431 k432 k433] w460 fun (e462 : Ending) (w463 : World) => ∃ (n464 : Int), e462 = Ending.returned (Value.int
  IntKind.i64 n464) ∧ ∃ (R465 : List Own), ∃ (Φ466 : PW), Stable Φ466 ∧ Ctx W w463 (R465 ++ R461) Φ466 ∧ (∀ (w467 : World) (R468 : List Own), Ctx W w467 (R465 ++ R468) Φ466 → Ctx W w467 (R399
  ++ R468) Φ400) ∧ ∀ (w469 : World) (R470 : List Own), Ctx W w469 (R465 ++ R470) Φ466 → Calls Tryd.prog F.delta_Find #[Value.slice bP bN bC, Value.int IntKind.i64 n439, Value.slice p443 k444
  k445] w469 fun (e471 : Ending) (w472 : World) => ∃ (n473 : Int), e471 = Ending.returned (Value.int IntKind.i64 n473) ∧ ∃ (R474 : List Own), ∃ (Φ475 : PW), Stable Φ475 ∧ Ctx W w472 (R474 ++
  R470) Φ475 ∧ Br (decide (n455 ≠ IntKind.i64.wrap (n464 + n473))) (∀ (w476 : World) (R477 : List Own), Ctx W w476 (R474 ++ R477) Φ475 → J (Value.bool false) w476) (I64 (n395 + 1) ∧ ∃ (R478 :
  List Own), ∃ (Φ479 : PW), ∃ (k480 : Nat), Stable Φ479 ∧ (∀ (w481 : World) (R482 : List Own), Ctx W w481 (R474 ++ R482) Φ475 → Ctx W w481 (R478 ++ R482) Φ479) ∧ I389 (n395 + 1) R478 Φ479
  k480 ∧ k480 < k398)) (Br c4 (∀ (w483 : World) (R484 : List Own), Ctx W w483 (R396 ++ R484) I397 → J (Value.bool false) w483) (∀ (w485 : World) (R486 : List Own), Ctx W w485 (R396 ++ R486)
  I397 → J (Value.bool false) w485)))) (exI fun (I487 : Int → List Own → PW → Nat → Prop) => (∃ (R488 : List Own), ∃ (Φ489 : PW), ∃ (k490 : Nat), Stable Φ489 ∧ (∀ (w491 : World) (R492 : List
  Own), Ctx W w491 (R64 ++ R492) Φ65 → Ctx W w491 (R488 ++ R492) Φ489) ∧ I487 0 R488 Φ489 k490) ∧ ∀ (n493 : Int) (R494 : List Own) (I495 : List Nat → World → Prop) (k496 : Nat), Stable I495 →
  I487 n493 R494 I495 k496 → Br (decide (n493 < (↑aN : Int))) (∃ (R497 : List Own), ∃ (Φ498 : PW), Stable Φ498 ∧ (∀ (w499 : World) (R500 : List Own), Ctx W w499 (R494 ++ R500) I495 → Ctx W
  w499 (R497 ++ R500) Φ498) ∧ (0 ≤ n493 ∧ n493 < (↑aN : Int)) ∧ ptrK none aP fun (k501 k502 : Nat) => (0 ≤ n493 ∧ n493 < (↑aN : Int)) ∧ ptrK none aP fun (k503 k504 : Nat) => (0 ≤ n493 ∧ n493
  < (↑aN : Int)) ∧ ptrK none aP fun (k505 k506 : Nat) => (0 ≤ n493 ∧ n493 < (↑aN : Int)) ∧ ptrK none aP fun (k507 k508 : Nat) => (0 ≤ n493 ∧ n493 < (↑aN : Int)) ∧ ptrK none aP fun (k509 k510
  : Nat) => (0 ≤ n493 ∧ n493 < (↑aN : Int)) ∧ ptrK none aP fun (k511 k512 : Nat) => ∃ (n513 : Int), (∀ (w514 : World) (R515 : List Own), Ctx W w514 (R497 ++ R515) Φ498 → ∃ (n516 : Int),
  w514.cell? (Addr.mk k501 (k502 + n493.toNat * 3) none) = some (Value.int IntKind.i64 n516) ∧ Value.int IntKind.i64 n516 = Value.int IntKind.i64 n513) ∧ ∃ (p517 : Option Addr), ∃ (k518 :
  Nat), ∃ (k519 : Nat), (∀ (w520 : World) (R521 : List Own), Ctx W w520 (R497 ++ R521) Φ498 → ∃ (p522 : Option Addr), ∃ (k523 : Nat), ∃ (k524 : Nat), w520.cell? (Addr.mk k503 (k504 +
  n493.toNat * 3 + 1) none) = some (Value.slice p522 k523 k524) ∧ Value.slice p522 k523 k524 = Value.slice p517 k518 k519) ∧ ∃ (n525 : Int), (∀ (w526 : World) (R527 : List Own), Ctx W w526
  (R497 ++ R527) Φ498 → ∃ (n528 : Int), w526.cell? (Addr.mk k505 (k506 + n493.toNat * 3) none) = some (Value.int IntKind.i64 n528) ∧ Value.int IntKind.i64 n528 = Value.int IntKind.i64 n525) ∧
  ∃ (p529 : Option Addr), ∃ (k530 : Nat), ∃ (k531 : Nat), (∀ (w532 : World) (R533 : List Own), Ctx W w532 (R497 ++ R533) Φ498 → ∃ (p534 : Option Addr), ∃ (k535 : Nat), ∃ (k536 : Nat),
  w532.cell? (Addr.mk k507 (k508 + n493.toNat * 3 + 1) none) = some (Value.slice p534 k535 k536) ∧ Value.slice p534 k535 k536 = Value.slice p529 k530 k531) ∧ ∃ (n537 : Int), (∀ (w538 : World)
  (R539 : List Own), Ctx W w538 (R497 ++ R539) Φ498 → ∃ (n540 : Int), w538.cell? (Addr.mk k509 (k510 + n493.toNat * 3) none) = some (Value.int IntKind.i64 n540) ∧ Value.int IntKind.i64 n540 =
  Value.int IntKind.i64 n537) ∧ ∃ (p541 : Option Addr), ∃ (k542 : Nat), ∃ (k543 : Nat), (∀ (w544 : World) (R545 : List Own), Ctx W w544 (R497 ++ R545) Φ498 → ∃ (p546 : Option Addr), ∃ (k547 :
  Nat), ∃ (k548 : Nat), w544.cell? (Addr.mk k511 (k512 + n493.toNat * 3 + 1) none) = some (Value.slice p546 k547 k548) ∧ Value.slice p546 k547 k548 = Value.slice p541 k542 k543) ∧ ∀ (w549 :
  World) (R550 : List Own), Ctx W w549 (R494 ++ R550) I495 → Calls Tryd.prog F.delta_Find #[Value.slice p38 k39 k40, Value.int IntKind.i64 n513, Value.slice p517 k518 k519] w549 fun (e551 :
  Ending) (w552 : World) => ∃ (n553 : Int), e551 = Ending.returned (Value.int IntKind.i64 n553) ∧ ∃ (R554 : List Own), ∃ (Φ555 : PW), Stable Φ555 ∧ Ctx W w552 (R554 ++ R550) Φ555 ∧ (∀ (w556 :
  World) (R557 : List Own), Ctx W w556 (R554 ++ R557) Φ555 → Ctx W w556 (R497 ++ R557) Φ498) ∧ ∀ (w558 : World) (R559 : List Own), Ctx W w558 (R554 ++ R559) Φ555 → Calls Tryd.prog
  F.delta_Find #[Value.slice aP aN aC, Value.int IntKind.i64 n525, Value.slice p529 k530 k531] w558 fun (e560 : Ending) (w561 : World) => ∃ (n562 : Int), e560 = Ending.returned (Value.int
  IntKind.i64 n562) ∧ ∃ (R563 : List Own), ∃ (Φ564 : PW), Stable Φ564 ∧ Ctx W w561 (R563 ++ R559) Φ564 ∧ (∀ (w565 : World) (R566 : List Own), Ctx W w565 (R563 ++ R566) Φ564 → Ctx W w565 (R497
  ++ R566) Φ498) ∧ ∀ (w567 : World) (R568 : List Own), Ctx W w567 (R563 ++ R568) Φ564 → Calls Tryd.prog F.delta_Find #[Value.slice bP bN bC, Value.int IntKind.i64 n537, Value.slice p541 k542
  k543] w567 fun (e569 : Ending) (w570 : World) => ∃ (n571 : Int), e569 = Ending.returned (Value.int IntKind.i64 n571) ∧ ∃ (R572 : List Own), ∃ (Φ573 : PW), Stable Φ573 ∧ Ctx W w570 (R572 ++
  R568) Φ573 ∧ Br (decide (n553 ≠ IntKind.i64.wrap (n562 + n571))) (∀ (w574 : World) (R575 : List Own), Ctx W w574 (R572 ++ R575) Φ573 → J (Value.bool false) w574) (I64 (n493 + 1) ∧ ∃ (R576 :
  List Own), ∃ (Φ577 : PW), ∃ (k578 : Nat), Stable Φ577 ∧ (∀ (w579 : World) (R580 : List Own), Ctx W w579 (R572 ++ R580) Φ573 → Ctx W w579 (R576 ++ R580) Φ577) ∧ I487 (n493 + 1) R576 Φ577
  k578 ∧ k578 < k496)) (Br c4 (∀ (w581 : World) (R582 : List Own), Ctx W w581 (R494 ++ R582) I495 → J (Value.bool false) w581) (∀ (w583 : World) (R584 : List Own), Ctx W w583 (R494 ++ R584)
  I495 → J (Value.bool false) w583)))) (exI fun (I585 : Int → List Own → PW → Nat → Prop) => (∃ (R586 : List Own), ∃ (Φ587 : PW), ∃ (k588 : Nat), Stable Φ587 ∧ (∀ (w589 : World) (R590 : List
  Own), Ctx W w589 (R48 ++ R590) Φ49 → Ctx W w589 (R586 ++ R590) Φ587) ∧ I585 0 R586 Φ587 k588) ∧ ∀ (n591 : Int) (R592 : List Own) (I593 : List Nat → World → Prop) (k594 : Nat), Stable I593 →
  I585 n591 R592 I593 k594 → Br (decide (n591 < (↑aN : Int))) (∃ (R595 : List Own), ∃ (Φ596 : PW), Stable Φ596 ∧ (∀ (w597 : World) (R598 : List Own), Ctx W w597 (R592 ++ R598) I593 → Ctx W
  w597 (R595 ++ R598) Φ596) ∧ (0 ≤ n591 ∧ n591 < (↑aN : Int)) ∧ ptrK none aP fun (k599 k600 : Nat) => (0 ≤ n591 ∧ n591 < (↑aN : Int)) ∧ ptrK none aP fun (k601 k602 : Nat) => (0 ≤ n591 ∧ n591
  < (↑aN : Int)) ∧ ptrK none aP fun (k603 k604 : Nat) => (0 ≤ n591 ∧ n591 < (↑aN : Int)) ∧ ptrK none aP fun (k605 k606 : Nat) => (0 ≤ n591 ∧ n591 < (↑aN : Int)) ∧ ptrK none aP fun (k607 k608
  : Nat) => (0 ≤ n591 ∧ n591 < (↑aN : Int)) ∧ ptrK none aP fun (k609 k610 : Nat) => ∃ (n611 : Int), (∀ (w612 : World) (R613 : List Own), Ctx W w612 (R595 ++ R613) Φ596 → ∃ (n614 : Int),
  w612.cell? (Addr.mk k599 (k600 + n591.toNat * 3) none) = some (Value.int IntKind.i64 n614) ∧ Value.int IntKind.i64 n614 = Value.int IntKind.i64 n611) ∧ ∃ (p615 : Option Addr), ∃ (k616 :
  Nat), ∃ (k617 : Nat), (∀ (w618 : World) (R619 : List Own), Ctx W w618 (R595 ++ R619) Φ596 → ∃ (p620 : Option Addr), ∃ (k621 : Nat), ∃ (k622 : Nat), w618.cell? (Addr.mk k601 (k602 +
  n591.toNat * 3 + 1) none) = some (Value.slice p620 k621 k622) ∧ Value.slice p620 k621 k622 = Value.slice p615 k616 k617) ∧ ∃ (n623 : Int), (∀ (w624 : World) (R625 : List Own), Ctx W w624
  (R595 ++ R625) Φ596 → ∃ (n626 : Int), w624.cell? (Addr.mk k603 (k604 + n591.toNat * 3) none) = some (Value.int IntKind.i64 n626) ∧ Value.int IntKind.i64 n626 = Value.int IntKind.i64 n623) ∧
  ∃ (p627 : Option Addr), ∃ (k628 : Nat), ∃ (k629 : Nat), (∀ (w630 : World) (R631 : List Own), Ctx W w630 (R595 ++ R631) Φ596 → ∃ (p632 : Option Addr), ∃ (k633 : Nat), ∃ (k634 : Nat),
  w630.cell? (Addr.mk k605 (k606 + n591.toNat * 3 + 1) none) = some (Value.slice p632 k633 k634) ∧ Value.slice p632 k633 k634 = Value.slice p627 k628 k629) ∧ ∃ (n635 : Int), (∀ (w636 : World)
  (R637 : List Own), Ctx W w636 (R595 ++ R637) Φ596 → ∃ (n638 : Int), w636.cell? (Addr.mk k607 (k608 + n591.toNat * 3) none) = some (Value.int IntKind.i64 n638) ∧ Value.int IntKind.i64 n638 =
  Value.int IntKind.i64 n635) ∧ ∃ (p639 : Option Addr), ∃ (k640 : Nat), ∃ (k641 : Nat), (∀ (w642 : World) (R643 : List Own), Ctx W w642 (R595 ++ R643) Φ596 → ∃ (p644 : Option Addr), ∃ (k645 :
  Nat), ∃ (k646 : Nat), w642.cell? (Addr.mk k609 (k610 + n591.toNat * 3 + 1) none) = some (Value.slice p644 k645 k646) ∧ Value.slice p644 k645 k646 = Value.slice p639 k640 k641) ∧ ∀ (w647 :
  World) (R648 : List Own), Ctx W w647 (R592 ++ R648) I593 → Calls Tryd.prog F.delta_Find #[Value.slice p38 k39 k40, Value.int IntKind.i64 n611, Value.slice p615 k616 k617] w647 fun (e649 :
  Ending) (w650 : World) => ∃ (n651 : Int), e649 = Ending.returned (Value.int IntKind.i64 n651) ∧ ∃ (R652 : List Own), ∃ (Φ653 : PW), Stable Φ653 ∧ Ctx W w650 (R652 ++ R648) Φ653 ∧ (∀ (w654 :
  World) (R655 : List Own), Ctx W w654 (R652 ++ R655) Φ653 → Ctx W w654 (R595 ++ R655) Φ596) ∧ ∀ (w656 : World) (R657 : List Own), Ctx W w656 (R652 ++ R657) Φ653 → Calls Tryd.prog
  F.delta_Find #[Value.slice aP aN aC, Value.int IntKind.i64 n623, Value.slice p627 k628 k629] w656 fun (e658 : Ending) (w659 : World) => ∃ (n660 : Int), e658 = Ending.returned (Value.int
  IntKind.i64 n660) ∧ ∃ (R661 : List Own), ∃ (Φ662 : PW), Stable Φ662 ∧ Ctx W w659 (R661 ++ R657) Φ662 ∧ (∀ (w663 : World) (R664 : List Own), Ctx W w663 (R661 ++ R664) Φ662 → Ctx W w663 (R595
  ++ R664) Φ596) ∧ ∀ (w665 : World) (R666 : List Own), Ctx W w665 (R661 ++ R666) Φ662 → Calls Tryd.prog F.delta_Find #[Value.slice bP bN bC, Value.int IntKind.i64 n635, Value.slice p639 k640
  k641] w665 fun (e667 : Ending) (w668 : World) => ∃ (n669 : Int), e667 = Ending.returned (Value.int IntKind.i64 n669) ∧ ∃ (R670 : List Own), ∃ (Φ671 : PW), Stable Φ671 ∧ Ctx W w668 (R670 ++
  R666) Φ671 ∧ Br (decide (n651 ≠ IntKind.i64.wrap (n660 + n669))) (∀ (w672 : World) (R673 : List Own), Ctx W w672 (R670 ++ R673) Φ671 → J (Value.bool false) w672) (I64 (n591 + 1) ∧ ∃ (R674 :
  List Own), ∃ (Φ675 : PW), ∃ (k676 : Nat), Stable Φ675 ∧ (∀ (w677 : World) (R678 : List Own), Ctx W w677 (R670 ++ R678) Φ671 → Ctx W w677 (R674 ++ R678) Φ675) ∧ I585 (n591 + 1) R674 Φ675
  k676 ∧ k676 < k594)) (Br c4 (∀ (w679 : World) (R680 : List Own), Ctx W w679 (R592 ++ R680) I593 → J (Value.bool false) w679) (∀ (w681 : World) (R682 : List Own), Ctx W w681 (R592 ++ R682)
  I593 → J (Value.bool false) w681))))))

/-- errataref28.Equal -/
-- loop at region 4: 5 i; blocks 
def Berrataref28_Equal (aP : Option Addr) (aN aC : Nat) (bP : Option Addr) (bN bC : Nat) (W : World) (R : List Own) (Φ : PW) (J : Value → World → Prop) : Prop :=
  Br (decide ((↑aN : Int) ≠ (↑bN : Int))) (∀ (w0 : World) (R1 : List Own), Ctx W w0 (R ++ R1) Φ → J (Value.bool false) w0) (exI fun (I2 : Int → List Own → PW → Nat → Prop) => (∃ (R3 : List
  Own), ∃ (Φ4 : PW), ∃ (k5 : Nat), Stable Φ4 ∧ (∀ (w6 : World) (R7 : List Own), Ctx W w6 (R ++ R7) Φ → Ctx W w6 (R3 ++ R7) Φ4) ∧ I2 0 R3 Φ4 k5) ∧ ∀ (n8 : Int) (R9 : List Own) (I10 : List Nat
  → World → Prop) (k11 : Nat), Stable I10 → I2 n8 R9 I10 k11 → Br (decide (n8 < (↑aN : Int))) (∃ (R12 : List Own), ∃ (Φ13 : PW), Stable Φ13 ∧ (∀ (w14 : World) (R15 : List Own), Ctx W w14 (R9
  ++ R15) I10 → Ctx W w14 (R12 ++ R15) Φ13) ∧ (0 ≤ n8 ∧ n8 < (↑aN : Int)) ∧ ptrK none aP fun (k16 k17 : Nat) => (0 ≤ n8 ∧ n8 < (↑bN : Int)) ∧ ptrK none bP fun (k18 k19 : Nat) => ∃ (n20 :
  Int), ∃ (p21 : Option Addr), ∃ (k22 : Nat), ∃ (k23 : Nat), ∃ (n24 : Int), (∀ (w25 : World) (R26 : List Own), Ctx W w25 (R12 ++ R26) Φ13 → ∃ (n27 : Int), ∃ (p28 : Option Addr), ∃ (k29 :
  Nat), ∃ (k30 : Nat), ∃ (n31 : Int), RowAt w25 k16 (k17 + n8.toNat * 3) [Value.int IntKind.i64 n27, Value.slice p28 k29 k30, Value.int IntKind.i64 n31] ∧ Value.agg #[Value.int IntKind.i64
  n27, Value.slice p28 k29 k30, Value.int IntKind.i64 n31] = Value.agg #[Value.int IntKind.i64 n20, Value.slice p21 k22 k23, Value.int IntKind.i64 n24]) ∧ ∃ (n32 : Int), ∃ (p33 : Option
  Addr), ∃ (k34 : Nat), ∃ (k35 : Nat), ∃ (n36 : Int), (∀ (w37 : World) (R38 : List Own), Ctx W w37 (R12 ++ R38) Φ13 → ∃ (n39 : Int), ∃ (p40 : Option Addr), ∃ (k41 : Nat), ∃ (k42 : Nat), ∃
  (n43 : Int), RowAt w37 k18 (k19 + n8.toNat * 3) [Value.int IntKind.i64 n39, Value.slice p40 k41 k42, Value.int IntKind.i64 n43] ∧ Value.agg #[Value.int IntKind.i64 n39, Value.slice p40 k41
  k42, Value.int IntKind.i64 n43] = Value.agg #[Value.int IntKind.i64 n32, Value.slice p33 k34 k35, Value.int IntKind.i64 n36]) ∧ ∀ (w44 : World) (R45 : List Own), Ctx W w44 (R9 ++ R45) I10 →
  Calls Tryd.prog F.errataref28_Compare #[Value.agg #[Value.int IntKind.i64 n20, Value.slice p21 k22 k23, Value.int IntKind.i64 n24], Value.agg #[Value.int IntKind.i64 n32, Value.slice p33
  k34 k35, Value.int IntKind.i64 n36]] w44 fun (e46 : Ending) (w47 : World) => ∃ (n48 : Int), e46 = Ending.returned (Value.int IntKind.i64 n48) ∧ ∃ (R49 : List Own), ∃ (Φ50 : PW), Stable Φ50
  ∧ Ctx W w47 (R49 ++ R45) Φ50 ∧ Br (decide (n48 ≠ 0)) (∀ (w51 : World) (R52 : List Own), Ctx W w51 (R49 ++ R52) Φ50 → J (Value.bool false) w51) ((0 ≤ n8 ∧ n8 < (↑aN : Int)) ∧ ptrK none aP
  fun (k53 k54 : Nat) => (0 ≤ n8 ∧ n8 < (↑bN : Int)) ∧ ptrK none bP fun (k55 k56 : Nat) => ∀ (w57 : World) (R58 : List Own), Ctx W w57 (R49 ++ R58) Φ50 → ∃ (n59 : Int), w57.cell? (Addr.mk k53
  (k54 + n8.toNat * 3 + 2) none) = some (Value.int IntKind.i64 n59) ∧ ∀ (w60 : World) (R61 : List Own), Ctx W w60 (R49 ++ R61) Φ50 → ∃ (n62 : Int), w60.cell? (Addr.mk k55 (k56 + n8.toNat * 3
  + 2) none) = some (Value.int IntKind.i64 n62) ∧ Br (decide (n59 ≠ n62)) (∀ (w63 : World) (R64 : List Own), Ctx W w63 (R49 ++ R64) Φ50 → J (Value.bool false) w63) (I64 (n8 + 1) ∧ ∃ (R65 :
  List Own), ∃ (Φ66 : PW), ∃ (k67 : Nat), Stable Φ66 ∧ (∀ (w68 : World) (R69 : List Own), Ctx W w68 (R49 ++ R69) Φ50 → Ctx W w68 (R65 ++ R69) Φ66) ∧ I2 (n8 + 1) R65 Φ66 k67 ∧ k67 < k11))) (∀
  (w70 : World) (R71 : List Own), Ctx W w70 (R9 ++ R71) I10 → J (Value.bool true) w70))

theorem Berrataref28_Equal_run (aP : Option Addr) (aN aC : Nat) (bP : Option Addr) (bN bC : Nat) {W w : World} {R : List Own} {Φ : PW} [Stable Φ] {J : Value → World → Prop} (c : Ctx W w R Φ) (h : Berrataref28_Equal aP aN aC bP bN bC W R Φ J) : Calls Tryd.prog F.errataref28_Equal #[.slice aP aN aC, .slice bP bN bC] w fun e w' => ∃ v, e = .returned v ∧ J v w' :=
  vcFS_sound (H := { keep := some [0, 1, 4, 5, 10, 14, 39], stages := [(6, [.held [(0, true), (1, true), (4, true), (5, true), (2, true), (6, true), (3, true), (7, true)], .stage [] (some 8), .stage [9, 10, 11, 12, 16, 17, 13, 18, 14, 19, 15, 20, 21, 22] none])], loops := [(4, [(5, .one (.int .i64))], [])] }) (by rw [show vcFS Tryd.prog W { keep := some [0, 1, 4, 5, 10, 14, 39], stages := [(6, [.held [(0, true), (1, true), (4, true), (5, true), (2, true), (6, true), (3, true), (7, true)], .stage [] (some 8), .stage [9, 10, 11, 12, 16, 17, 13, 18, 14, 19, 15, 20, 21, 22] none])], loops := [(4, [(5, .one (.int .i64))], [])] } F.errataref28_Equal #[.slice aP aN aC, .slice bP bN bC] R Φ J = Berrataref28_Equal aP aN aC bP bN bC W R Φ J by kernel_rfl]; exact h) c

/-- erratalaw28.small -/
def Berratalaw28_small  (W : World) (R : List Own) (Φ : PW) (J : Value → World → Prop) : Prop :=
  ∀ (k0 k1 k2 k3 : Nat) (w4 : World) (R5 : List Own), Ctx W w4 (Own.blk k3 [Value.int IntKind.i64 3, Value.slice (some (Addr.mk k2 0 none)) 1 1, Value.int IntKind.i64 (-1)] 39 :: Own.blk k2
  [Value.int IntKind.i64 0, Value.int IntKind.i64 7, Value.string (ByteArray.mk #[])] 65 :: Own.blk k1 [Value.int IntKind.i64 3, Value.slice (some (Addr.mk k0 0 none)) 1 1, Value.int
  IntKind.i64 1] 39 :: Own.blk k0 [Value.int IntKind.i64 0, Value.int IntKind.i64 7, Value.string (ByteArray.mk #[])] 65 :: R ++ R5) Φ → Calls Tryd.prog F.delta_Add #[Value.slice (some
  (Addr.mk k1 0 none)) 1 1, Value.slice (some (Addr.mk k1 0 none)) 1 1] w4 fun (e6 : Ending) (w7 : World) => ∃ (p8 : Option Addr), ∃ (k9 : Nat), ∃ (k10 : Nat), e6 = Ending.returned
  (Value.slice p8 k9 k10) ∧ ∃ (R11 : List Own), ∃ (Φ12 : PW), Stable Φ12 ∧ Ctx W w7 (R11 ++ R5) Φ12 ∧ Br (decide ((↑k9 : Int) = 1)) (∀ (k13 : Nat) (w14 : World) (R15 : List Own), Ctx W w14
  (Own.blk k13 [Value.int IntKind.i64 0, Value.int IntKind.i64 7, Value.string (ByteArray.mk #[])] 65 :: R11 ++ R15) Φ12 → Calls Tryd.prog F.delta_Find #[Value.slice p8 k9 k10, Value.int
  IntKind.i64 3, Value.slice (some (Addr.mk k13 0 none)) 1 1] w14 fun (e16 : Ending) (w17 : World) => ∃ (n18 : Int), e16 = Ending.returned (Value.int IntKind.i64 n18) ∧ ∃ (R19 : List Own), ∃
  (Φ20 : PW), Stable Φ20 ∧ Ctx W w17 (R19 ++ R15) Φ20 ∧ Br (decide (n18 = 2)) (∀ (w21 : World) (R22 : List Own), Ctx W w21 (R19 ++ R22) Φ20 → Calls Tryd.prog F.delta_Add #[Value.slice (some
  (Addr.mk k1 0 none)) 1 1, Value.slice (some (Addr.mk k3 0 none)) 1 1] w21 fun (e23 : Ending) (w24 : World) => ∃ (p25 : Option Addr), ∃ (k26 : Nat), ∃ (k27 : Nat), e23 = Ending.returned
  (Value.slice p25 k26 k27) ∧ ∃ (R28 : List Own), ∃ (Φ29 : PW), Stable Φ29 ∧ Ctx W w24 (R28 ++ R22) Φ29 ∧ Br (decide ((↑k26 : Int) = 0)) (∀ (w30 : World) (R31 : List Own), Ctx W w30 (R28 ++
  R31) Φ29 → Calls Tryd.prog F.delta_Upto #[Value.slice (some (Addr.mk k1 0 none)) 1 1, Value.int IntKind.i64 2] w30 fun (e32 : Ending) (w33 : World) => ∃ (p34 : Option Addr), ∃ (k35 : Nat),
  ∃ (k36 : Nat), e32 = Ending.returned (Value.slice p34 k35 k36) ∧ ∃ (R37 : List Own), ∃ (Φ38 : PW), Stable Φ38 ∧ Ctx W w33 (R37 ++ R31) Φ38 ∧ Br (decide ((↑k35 : Int) = 0)) (∀ (w39 : World)
  (R40 : List Own), Ctx W w39 (R37 ++ R40) Φ38 → Calls Tryd.prog F.delta_After #[Value.slice (some (Addr.mk k1 0 none)) 1 1, Value.int IntKind.i64 2] w39 fun (e41 : Ending) (w42 : World) => ∃
  (p43 : Option Addr), ∃ (k44 : Nat), ∃ (k45 : Nat), e41 = Ending.returned (Value.slice p43 k44 k45) ∧ ∃ (R46 : List Own), ∃ (Φ47 : PW), Stable Φ47 ∧ Ctx W w42 (R46 ++ R40) Φ47 ∧ ∀ (w48 :
  World) (R49 : List Own), Ctx W w48 (R46 ++ R49) Φ47 → Calls Tryd.prog F.errataref28_Equal #[Value.slice p43 k44 k45, Value.slice (some (Addr.mk k1 0 none)) 1 1] w48 fun (e50 : Ending) (w51
  : World) => ∃ (c52 : Bool), e50 = Ending.returned (Value.bool c52) ∧ ∃ (R53 : List Own), ∃ (Φ54 : PW), Stable Φ54 ∧ Ctx W w51 (R53 ++ R49) Φ54 ∧ Br c52 (∀ (w55 : World) (R56 : List Own),
  Ctx W w55 (R53 ++ R56) Φ54 → Calls Tryd.prog F.delta_Bytes #[Value.slice none 0 0] w55 fun (e57 : Ending) (w58 : World) => ∃ (s59 : ByteArray), e57 = Ending.returned (Value.string s59) ∧ ∃
  (R60 : List Own), ∃ (Φ61 : PW), Stable Φ61 ∧ Ctx W w58 (R60 ++ R56) Φ61 ∧ ∀ (w62 : World) (R63 : List Own), Ctx W w62 (R60 ++ R63) Φ61 → J (Value.bool (decide (0 < (↑s59.size : Int)))) w62)
  (∀ (w64 : World) (R65 : List Own), Ctx W w64 (R53 ++ R65) Φ54 → J (Value.bool false) w64)) (∀ (w66 : World) (R67 : List Own), Ctx W w66 (R37 ++ R67) Φ38 → J (Value.bool false) w66)) (∀ (w68
  : World) (R69 : List Own), Ctx W w68 (R28 ++ R69) Φ29 → J (Value.bool false) w68)) (∀ (w70 : World) (R71 : List Own), Ctx W w70 (R19 ++ R71) Φ20 → J (Value.bool false) w70)) (∀ (w72 :
  World) (R73 : List Own), Ctx W w72 (R11 ++ R73) Φ12 → J (Value.bool false) w72)

theorem Berratalaw28_small_run  {W w : World} {R : List Own} {Φ : PW} [Stable Φ] {J : Value → World → Prop} (c : Ctx W w R Φ) (h : Berratalaw28_small  W R Φ J) : Calls Tryd.prog F.erratalaw28_small #[] w fun e w' => ∃ v, e = .returned v ∧ J v w' :=
  vcFS_sound (H := { keep := some [0, 1, 2, 3], split := [4] }) (by rw [show vcFS Tryd.prog W { keep := some [0, 1, 2, 3], split := [4] } F.erratalaw28_small #[] R Φ J = Berratalaw28_small  W R Φ J by kernel_rfl]; exact h) c

/-- erratalaw28.few -/
-- loop at region 5: 6 k; blocks 
-- loop at region 2: 5 i; blocks 
def Berratalaw28_few (lP : Option Addr) (lN lC : Nat) (n : Int) (W : World) (R : List Own) (Φ : PW) (J : Value → World → Prop) : Prop :=
  exI fun (I0 : Int → List Own → PW → Nat → Prop) => (∃ (R1 : List Own), ∃ (Φ2 : PW), ∃ (k3 : Nat), Stable Φ2 ∧ (∀ (w4 : World) (R5 : List Own), Ctx W w4 (R ++ R5) Φ → Ctx W w4 (R1 ++ R5) Φ2)
  ∧ I0 0 R1 Φ2 k3) ∧ ∀ (n6 : Int) (R7 : List Own) (I8 : List Nat → World → Prop) (k9 : Nat), Stable I8 → I0 n6 R7 I8 k9 → ∀ (w10 : World) (R11 : List Own), Ctx W w10 (R7 ++ R11) I8 → Br
  (decide (n6 < (↑lN : Int)) && decide (n6 ≤ n)) (exI fun (I12 : Int → List Own → PW → Nat → Prop) => (∃ (R13 : List Own), ∃ (Φ14 : PW), ∃ (k15 : Nat), Stable Φ14 ∧ (∀ (w16 : World) (R17 :
  List Own), Ctx W w16 (R7 ++ R17) I8 → Ctx W w16 (R13 ++ R17) Φ14) ∧ I12 0 R13 Φ14 k15) ∧ ∀ (n18 : Int) (R19 : List Own) (I20 : List Nat → World → Prop) (k21 : Nat), Stable I20 → I12 n18 R19
  I20 k21 → (0 ≤ n6 ∧ n6 < (↑lN : Int)) ∧ ptrK none lP fun (k22 k23 : Nat) => ∀ (w24 : World) (R25 : List Own), Ctx W w24 (R19 ++ R25) I20 → ∃ (p26 : Option Addr), ∃ (k27 : Nat), ∃ (k28 :
  Nat), w24.cell? (Addr.mk k22 (k23 + n6.toNat * 3 + 1) none) = some (Value.slice p26 k27 k28) ∧ Br (decide (n18 < (↑k27 : Int))) ((0 ≤ n6 ∧ n6 < (↑lN : Int)) ∧ ptrK none lP fun (k29 k30 :
  Nat) => ∀ (w31 : World) (R32 : List Own), Ctx W w31 (R19 ++ R32) I20 → ∃ (p33 : Option Addr), ∃ (k34 : Nat), ∃ (k35 : Nat), w31.cell? (Addr.mk k29 (k30 + n6.toNat * 3 + 1) none) = some
  (Value.slice p33 k34 k35) ∧ (0 ≤ n18 ∧ n18 < (↑k34 : Int)) ∧ ptrK none p33 fun (k36 k37 : Nat) => ∀ (w38 : World) (R39 : List Own), Ctx W w38 (R19 ++ R39) I20 → ∃ (s40 : ByteArray),
  w38.cell? (Addr.mk k36 (k37 + n18.toNat * 3 + 2) none) = some (Value.string s40) ∧ Br (decide (200 < (↑s40.size : Int))) (∀ (w41 : World) (R42 : List Own), Ctx W w41 (R19 ++ R42) I20 → J
  (Value.bool false) w41) (I64 (n18 + 1) ∧ ∃ (R43 : List Own), ∃ (Φ44 : PW), ∃ (k45 : Nat), Stable Φ44 ∧ (∀ (w46 : World) (R47 : List Own), Ctx W w46 (R19 ++ R47) I20 → Ctx W w46 (R43 ++ R47)
  Φ44) ∧ I12 (n18 + 1) R43 Φ44 k45 ∧ k45 < k21)) ((0 ≤ n6 ∧ n6 < (↑lN : Int)) ∧ ptrK none lP fun (k48 k49 : Nat) => ∀ (w50 : World) (R51 : List Own), Ctx W w50 (R19 ++ R51) I20 → ∃ (p52 :
  Option Addr), ∃ (k53 : Nat), ∃ (k54 : Nat), w50.cell? (Addr.mk k48 (k49 + n6.toNat * 3 + 1) none) = some (Value.slice p52 k53 k54) ∧ Br (decide (10 < (↑k53 : Int))) (∀ (w55 : World) (R56 :
  List Own), Ctx W w55 (R19 ++ R56) I20 → J (Value.bool false) w55) ((0 ≤ n6 ∧ n6 < (↑lN : Int)) ∧ ptrK none lP fun (k57 k58 : Nat) => ∀ (w59 : World) (R60 : List Own), Ctx W w59 (R19 ++ R60)
  I20 → ∃ (p61 : Option Addr), ∃ (k62 : Nat), ∃ (k63 : Nat), w59.cell? (Addr.mk k57 (k58 + n6.toNat * 3 + 1) none) = some (Value.slice p61 k62 k63) ∧ ∀ (w64 : World) (R65 : List Own), Ctx W
  w64 (R19 ++ R65) I20 → Calls Tryd.prog F.errataref03_RightRow #[Value.slice p61 k62 k63] w64 fun (e66 : Ending) (w67 : World) => ∃ (c68 : Bool), e66 = Ending.returned (Value.bool c68) ∧ ∃
  (R69 : List Own), ∃ (Φ70 : PW), Stable Φ70 ∧ Ctx W w67 (R69 ++ R65) Φ70 ∧ Br (!c68) (∀ (w71 : World) (R72 : List Own), Ctx W w71 (R69 ++ R72) Φ70 → J (Value.bool false) w71) (I64 (n6 + 1) ∧
  ∃ (R73 : List Own), ∃ (Φ74 : PW), ∃ (k75 : Nat), Stable Φ74 ∧ (∀ (w76 : World) (R77 : List Own), Ctx W w76 (R69 ++ R77) Φ70 → Ctx W w76 (R73 ++ R77) Φ74) ∧ I0 (n6 + 1) R73 Φ74 k75 ∧ k75 <
  k9)))) (∀ (w78 : World) (R79 : List Own), Ctx W w78 (R7 ++ R79) I8 → J (Value.bool (decide ((↑lN : Int) ≤ n))) w78)

theorem Berratalaw28_few_run (lP : Option Addr) (lN lC : Nat) (n : Int) {W w : World} {R : List Own} {Φ : PW} [Stable Φ] {J : Value → World → Prop} (c : Ctx W w R Φ) (h : Berratalaw28_few lP lN lC n W R Φ J) : Calls Tryd.prog F.erratalaw28_few #[.slice lP lN lC, .int .i64 n] w fun e w' => ∃ v, e = .returned v ∧ J v w' :=
  vcFS_sound (H := { keep := some [0, 1, 4, 5, 6, 15, 25, 38, 54], split := [9], loops := [(5, [(6, .one (.int .i64))], []), (2, [(5, .one (.int .i64))], [])] }) (by rw [show vcFS Tryd.prog W { keep := some [0, 1, 4, 5, 6, 15, 25, 38, 54], split := [9], loops := [(5, [(6, .one (.int .i64))], []), (2, [(5, .one (.int .i64))], [])] } F.erratalaw28_few #[.slice lP lN lC, .int .i64 n] R Φ J = Berratalaw28_few lP lN lC n W R Φ J by kernel_rfl]; exact h) c

/-- delta.Upto -/
def Bdelta_Upto (lP : Option Addr) (lN lC : Nat) (t : Int) (W : World) (R : List Own) (Φ : PW) (J : Value → World → Prop) : Prop :=
  ∀ (k0 : Nat) (w1 : World) (R2 : List Own), Ctx W w1 (Own.blk k0 [Value.int IntKind.i64 t] 3 :: R ++ R2) Φ → Calls Tryd.prog F.slices_Clone_api_Delta_api_Delta #[Value.slice lP lN lC] w1 fun
  (e3 : Ending) (w4 : World) => ∃ (p5 : Option Addr), ∃ (k6 : Nat), ∃ (k7 : Nat), e3 = Ending.returned (Value.slice p5 k6 k7) ∧ ∃ (R8 : List Own), ∃ (Φ9 : PW), Stable Φ9 ∧ Ctx W w4 (R8 ++ R2)
  Φ9 ∧ ∀ (w10 : World) (R11 : List Own), Ctx W w10 (R8 ++ R11) Φ9 → Calls Tryd.prog F.slices_DeleteFunc_api_Delta_api_Delta #[Value.slice p5 k6 k7, Value.func (Fn.func 60) #[] #[Value.pointer
  (some (Addr.mk k0 0 none))]] w10 fun (e12 : Ending) (w13 : World) => ∃ (p14 : Option Addr), ∃ (k15 : Nat), ∃ (k16 : Nat), e12 = Ending.returned (Value.slice p14 k15 k16) ∧ ∃ (R17 : List
  Own), ∃ (Φ18 : PW), Stable Φ18 ∧ Ctx W w13 (R17 ++ R11) Φ18 ∧ ∀ (w19 : World) (R20 : List Own), Ctx W w19 (R17 ++ R20) Φ18 → Calls Tryd.prog F.delta_Consolidate #[Value.slice p14 k15 k16]
  w19 fun (e21 : Ending) (w22 : World) => ∃ (p23 : Option Addr), ∃ (k24 : Nat), ∃ (k25 : Nat), e21 = Ending.returned (Value.slice p23 k24 k25) ∧ ∃ (R26 : List Own), ∃ (Φ27 : PW), Stable Φ27 ∧
  Ctx W w22 (R26 ++ R20) Φ27 ∧ ∀ (w28 : World) (R29 : List Own), Ctx W w28 (R26 ++ R29) Φ27 → J (Value.slice p23 k24 k25) w28

theorem Bdelta_Upto_run (lP : Option Addr) (lN lC : Nat) (t : Int) {W w : World} {R : List Own} {Φ : PW} [Stable Φ] {J : Value → World → Prop} (c : Ctx W w R Φ) (h : Bdelta_Upto lP lN lC t W R Φ J) : Calls Tryd.prog F.delta_Upto #[.slice lP lN lC, .int .i64 t] w fun e w' => ∃ v, e = .returned v ∧ J v w' :=
  vcFS_sound (H := { keep := some [0, 3, 4, 5] }) (by rw [show vcFS Tryd.prog W { keep := some [0, 3, 4, 5] } F.delta_Upto #[.slice lP lN lC, .int .i64 t] R Φ J = Bdelta_Upto lP lN lC t W R Φ J by kernel_rfl]; exact h) c

/-- delta.After -/
def Bdelta_After (lP : Option Addr) (lN lC : Nat) (t : Int) (W : World) (R : List Own) (Φ : PW) (J : Value → World → Prop) : Prop :=
  ∀ (k0 : Nat) (w1 : World) (R2 : List Own), Ctx W w1 (Own.blk k0 [Value.int IntKind.i64 t] 3 :: R ++ R2) Φ → Calls Tryd.prog F.slices_Clone_api_Delta_api_Delta #[Value.slice lP lN lC] w1 fun
  (e3 : Ending) (w4 : World) => ∃ (p5 : Option Addr), ∃ (k6 : Nat), ∃ (k7 : Nat), e3 = Ending.returned (Value.slice p5 k6 k7) ∧ ∃ (R8 : List Own), ∃ (Φ9 : PW), Stable Φ9 ∧ Ctx W w4 (R8 ++ R2)
  Φ9 ∧ ∀ (w10 : World) (R11 : List Own), Ctx W w10 (R8 ++ R11) Φ9 → Calls Tryd.prog F.slices_DeleteFunc_api_Delta_api_Delta #[Value.slice p5 k6 k7, Value.func (Fn.func 63) #[] #[Value.pointer
  (some (Addr.mk k0 0 none))]] w10 fun (e12 : Ending) (w13 : World) => ∃ (p14 : Option Addr), ∃ (k15 : Nat), ∃ (k16 : Nat), e12 = Ending.returned (Value.slice p14 k15 k16) ∧ ∃ (R17 : List
  Own), ∃ (Φ18 : PW), Stable Φ18 ∧ Ctx W w13 (R17 ++ R11) Φ18 ∧ ∀ (w19 : World) (R20 : List Own), Ctx W w19 (R17 ++ R20) Φ18 → Calls Tryd.prog F.delta_Consolidate #[Value.slice p14 k15 k16]
  w19 fun (e21 : Ending) (w22 : World) => ∃ (p23 : Option Addr), ∃ (k24 : Nat), ∃ (k25 : Nat), e21 = Ending.returned (Value.slice p23 k24 k25) ∧ ∃ (R26 : List Own), ∃ (Φ27 : PW), Stable Φ27 ∧
  Ctx W w22 (R26 ++ R20) Φ27 ∧ ∀ (w28 : World) (R29 : List Own), Ctx W w28 (R26 ++ R29) Φ27 → J (Value.slice p23 k24 k25) w28

theorem Bdelta_After_run (lP : Option Addr) (lN lC : Nat) (t : Int) {W w : World} {R : List Own} {Φ : PW} [Stable Φ] {J : Value → World → Prop} (c : Ctx W w R Φ) (h : Bdelta_After lP lN lC t W R Φ J) : Calls Tryd.prog F.delta_After #[.slice lP lN lC, .int .i64 t] w fun e w' => ∃ v, e = .returned v ∧ J v w' :=
  vcFS_sound (H := { keep := some [0, 3, 4, 5] }) (by rw [show vcFS Tryd.prog W { keep := some [0, 3, 4, 5] } F.delta_After #[.slice lP lN lC, .int .i64 t] R Φ J = Bdelta_After lP lN lC t W R Φ J by kernel_rfl]; exact h) c

/-- delta.Find -/
-- loop at region 3: 7 n, 12 ; blocks 
-- known blocks: 9 d
def Bdelta_Find (lP : Option Addr) (lN lC : Nat) (time : Int) (rowP : Option Addr) (rowN rowC : Nat) (W : World) (R : List Own) (Φ : PW) (J : Value → World → Prop) : Prop :=
  exI fun (I0 : Int → Int → List Own → PW → Nat → Prop) => (∃ (R1 : List Own), ∃ (Φ2 : PW), ∃ (k3 : Nat), Stable Φ2 ∧ (∀ (w4 : World) (R5 : List Own), Ctx W w4 (R ++ R5) Φ → Ctx W w4 (R1 ++
  R5) Φ2) ∧ I0 0 0 R1 Φ2 k3) ∧ ∀ (n6 n7 : Int) (R8 : List Own) (I9 : List Nat → World → Prop) (k10 : Nat), Stable I9 → I0 n6 n7 R8 I9 k10 → Br (decide (n7 < (↑lN : Int))) ((0 ≤ n7 ∧ n7 < (↑lN
  : Int)) ∧ ptrK none lP fun (k11 k12 : Nat) => ∀ (w13 : World) (R14 : List Own), Ctx W w13 (R8 ++ R14) I9 → ∃ (n15 : Int), ∃ (p16 : Option Addr), ∃ (k17 : Nat), ∃ (k18 : Nat), ∃ (n19 : Int),
  RowAt w13 k11 (k12 + n7.toNat * 3) [Value.int IntKind.i64 n15, Value.slice p16 k17 k18, Value.int IntKind.i64 n19] ∧ ∀ (b : Nat) (w20 : World) (R21 : List Own), Ctx W w20 (R8 ++ R21) I9 →
  Calls Tryd.prog F.delta_compare #[Value.agg #[Value.int IntKind.i64 n15, Value.slice p16 k17 k18, Value.int IntKind.i64 n19], Value.agg #[Value.int IntKind.i64 time, Value.slice rowP rowN
  rowC, Value.int IntKind.i64 0]] w20 fun (e22 : Ending) (w23 : World) => ∃ (n24 : Int), e22 = Ending.returned (Value.int IntKind.i64 n24) ∧ ∃ (R25 : List Own), ∃ (Φ26 : PW), Stable Φ26 ∧ Ctx
  W w23 (R25 ++ R21) Φ26 ∧ Br (decide (n24 = 0)) (I64 (n7 + 1) ∧ ∃ (R27 : List Own), ∃ (Φ28 : PW), ∃ (k29 : Nat), Stable Φ28 ∧ (∀ (w30 : World) (R31 : List Own), Ctx W w30 (R25 ++ R31) Φ26 →
  Ctx W w30 (R27 ++ R31) Φ28) ∧ I0 (IntKind.i64.wrap (n6 + n19)) (n7 + 1) R27 Φ28 k29 ∧ k29 < k10) (I64 (n7 + 1) ∧ ∃ (R32 : List Own), ∃ (Φ33 : PW), ∃ (k34 : Nat), Stable Φ33 ∧ (∀ (w35 :
  World) (R36 : List Own), Ctx W w35 (R25 ++ R36) Φ26 → Ctx W w35 (R32 ++ R36) Φ33) ∧ I0 n6 (n7 + 1) R32 Φ33 k34 ∧ k34 < k10)) (∀ (w37 : World) (R38 : List Own), Ctx W w37 (R8 ++ R38) I9 → J
  (Value.int IntKind.i64 n6) w37)

theorem Bdelta_Find_run (lP : Option Addr) (lN lC : Nat) (time : Int) (rowP : Option Addr) (rowN rowC : Nat) {W w : World} {R : List Own} {Φ : PW} [Stable Φ] {J : Value → World → Prop} (c : Ctx W w R Φ) (h : Bdelta_Find lP lN lC time rowP rowN rowC W R Φ J) : Calls Tryd.prog F.delta_Find #[.slice lP lN lC, .int .i64 time, .slice rowP rowN rowC] w fun e w' => ∃ v, e = .returned v ∧ J v w' :=
  vcFS_sound (H := { keep := some [0, 1, 2, 6, 7, 9, 10, 11, 12, 13, 21], wrap := [25], track := [9], loops := [(3, [(7, .one (.int .i64)), (12, .one (.int .i64))], [])] }) (by rw [show vcFS Tryd.prog W { keep := some [0, 1, 2, 6, 7, 9, 10, 11, 12, 13, 21], wrap := [25], track := [9], loops := [(3, [(7, .one (.int .i64)), (12, .one (.int .i64))], [])] } F.delta_Find #[.slice lP lN lC, .int .i64 time, .slice rowP rowN rowC] R Φ J = Bdelta_Find lP lN lC time rowP rowN rowC W R Φ J by kernel_rfl]; exact h) c

/-- delta.Times -/
-- loop at region 3: 3 out, 9 ; blocks 
-- known blocks: 5 d
def Bdelta_Times (lP : Option Addr) (lN lC : Nat) (W : World) (R : List Own) (Φ : PW) (J : Value → World → Prop) : Prop :=
  ∀ (w0 : World) (R1 : List Own), Ctx W w0 (R ++ R1) Φ → Calls Tryd.prog F.delta_Consolidate #[Value.slice lP lN lC] w0 fun (e2 : Ending) (w3 : World) => ∃ (p4 : Option Addr), ∃ (k5 : Nat), ∃
  (k6 : Nat), e2 = Ending.returned (Value.slice p4 k5 k6) ∧ ∃ (R7 : List Own), ∃ (Φ8 : PW), Stable Φ8 ∧ Ctx W w3 (R7 ++ R1) Φ8 ∧ exI fun (I9 : Option Addr → Nat → Nat → Int → List Own → PW →
  Nat → Prop) => (∃ (R10 : List Own), ∃ (Φ11 : PW), ∃ (k12 : Nat), Stable Φ11 ∧ (∀ (w13 : World) (R14 : List Own), Ctx W w13 (R7 ++ R14) Φ8 → Ctx W w13 (R10 ++ R14) Φ11) ∧ I9 none 0 0 0 R10
  Φ11 k12) ∧ ∀ (p15 : Option Addr) (k16 k17 : Nat) (n18 : Int) (R19 : List Own) (I20 : List Nat → World → Prop) (k21 : Nat), Stable I20 → I9 p15 k16 k17 n18 R19 I20 k21 → Br (decide (n18 <
  (↑k5 : Int))) ((0 ≤ n18 ∧ n18 < (↑k5 : Int)) ∧ ptrK none p4 fun (k22 k23 : Nat) => ∀ (w24 : World) (R25 : List Own), Ctx W w24 (R19 ++ R25) I20 → ∃ (n26 : Int), ∃ (p27 : Option Addr), ∃
  (k28 : Nat), ∃ (k29 : Nat), ∃ (n30 : Int), RowAt w24 k22 (k23 + n18.toNat * 3) [Value.int IntKind.i64 n26, Value.slice p27 k28 k29, Value.int IntKind.i64 n30] ∧ ∀ (b k31 : Nat) (w32 :
  World) (R33 : List Own), Ctx W w32 (Own.blk k31 [Value.int IntKind.i64 n26] 3 :: R19 ++ R33) I20 → ∃ (p34 : Option Addr), ∃ (k35 : Nat), ∃ (k36 : Nat), ∃ (w37 : World), Sem.run Tryd.prog
  (builtin Builtin.append #[43, 43] 43 #[false, false] #[Value.slice p15 k16 k17, Value.slice (some (Addr.mk k31 0 none)) 1 1]) w32 = Result.ok (Next.value (Value.slice p34 k35 k36)) w37 ∧ ∃
  (R38 : List Own), ∃ (Φ39 : PW), Stable Φ39 ∧ Ctx W w37 (R38 ++ R33) Φ39 ∧ I64 (n18 + 1) ∧ ∃ (R40 : List Own), ∃ (Φ41 : PW), ∃ (k42 : Nat), Stable Φ41 ∧ (∀ (w43 : World) (R44 : List Own),
  Ctx W w43 (R38 ++ R44) Φ39 → Ctx W w43 (R40 ++ R44) Φ41) ∧ I9 p34 k35 k36 (n18 + 1) R40 Φ41 k42 ∧ k42 < k21) (∀ (w45 : World) (R46 : List Own), Ctx W w45 (R19 ++ R46) I20 → Calls Tryd.prog
  F.slices_Compact_int_int #[Value.slice p15 k16 k17] w45 fun (e47 : Ending) (w48 : World) => ∃ (p49 : Option Addr), ∃ (k50 : Nat), ∃ (k51 : Nat), e47 = Ending.returned (Value.slice p49 k50
  k51) ∧ ∃ (R52 : List Own), ∃ (Φ53 : PW), Stable Φ53 ∧ Ctx W w48 (R52 ++ R46) Φ53 ∧ ∀ (w54 : World) (R55 : List Own), Ctx W w54 (R52 ++ R55) Φ53 → J (Value.slice p49 k50 k51) w54)

theorem Bdelta_Times_run (lP : Option Addr) (lN lC : Nat) {W w : World} {R : List Own} {Φ : PW} [Stable Φ] {J : Value → World → Prop} (c : Ctx W w R Φ) (h : Bdelta_Times lP lN lC W R Φ J) : Calls Tryd.prog F.delta_Times #[.slice lP lN lC] w fun e w' => ∃ v, e = .returned v ∧ J v w' :=
  vcFS_sound (H := { keep := some [0, 2, 3, 5, 7, 8, 9, 10], track := [5], loops := [(3, [(3, .one (.slice)), (9, .one (.int .i64))], [])] }) (by rw [show vcFS Tryd.prog W { keep := some [0, 2, 3, 5, 7, 8, 9, 10], track := [5], loops := [(3, [(3, .one (.slice)), (9, .one (.int .i64))], [])] } F.delta_Times #[.slice lP lN lC] R Φ J = Bdelta_Times lP lN lC W R Φ J by kernel_rfl]; exact h) c

/-- delta.Multiset -/
def Bdelta_Multiset (lP : Option Addr) (lN lC : Nat) (W : World) (R : List Own) (Φ : PW) (J : Value → World → Prop) : Prop :=
  ∀ (w0 : World) (R1 : List Own), Ctx W w0 (R ++ R1) Φ → Calls Tryd.prog F.delta_Consolidate #[Value.slice lP lN lC] w0 fun (e2 : Ending) (w3 : World) => ∃ (p4 : Option Addr), ∃ (k5 : Nat), ∃
  (k6 : Nat), e2 = Ending.returned (Value.slice p4 k5 k6) ∧ ∃ (R7 : List Own), ∃ (Φ8 : PW), Stable Φ8 ∧ Ctx W w3 (R7 ++ R1) Φ8 ∧ ∀ (w9 : World) (R10 : List Own), Ctx W w9 (R7 ++ R10) Φ8 →
  Calls Tryd.prog F.slices_ContainsFunc_api_Delta_api_Delta #[Value.slice p4 k5 k6, Value.func (Fn.func 73) #[] #[]] w9 fun (e11 : Ending) (w12 : World) => ∃ (c13 : Bool), e11 =
  Ending.returned (Value.bool c13) ∧ ∃ (R14 : List Own), ∃ (Φ15 : PW), Stable Φ15 ∧ Ctx W w12 (R14 ++ R10) Φ15 ∧ ∀ (w16 : World) (R17 : List Own), Ctx W w16 (R14 ++ R17) Φ15 → J (Value.bool
  !c13) w16

theorem Bdelta_Multiset_run (lP : Option Addr) (lN lC : Nat) {W w : World} {R : List Own} {Φ : PW} [Stable Φ] {J : Value → World → Prop} (c : Ctx W w R Φ) (h : Bdelta_Multiset lP lN lC W R Φ J) : Calls Tryd.prog F.delta_Multiset #[.slice lP lN lC] w fun e w' => ∃ v, e = .returned v ∧ J v w' :=
  vcFS_sound (H := { keep := some [0, 2] }) (by rw [show vcFS Tryd.prog W { keep := some [0, 2] } F.delta_Multiset #[.slice lP lN lC] R Φ J = Bdelta_Multiset lP lN lC W R Φ J by kernel_rfl]; exact h) c

/-- delta.Count -/
-- loop at region 3: 3 n, 8 ; blocks 
-- known blocks: 5 d
def Bdelta_Count (lP : Option Addr) (lN lC : Nat) (W : World) (R : List Own) (Φ : PW) (J : Value → World → Prop) : Prop :=
  exI fun (I0 : Int → Int → List Own → PW → Nat → Prop) => (∃ (R1 : List Own), ∃ (Φ2 : PW), ∃ (k3 : Nat), Stable Φ2 ∧ (∀ (w4 : World) (R5 : List Own), Ctx W w4 (R ++ R5) Φ → Ctx W w4 (R1 ++
  R5) Φ2) ∧ I0 0 0 R1 Φ2 k3) ∧ ∀ (n6 n7 : Int) (R8 : List Own) (I9 : List Nat → World → Prop) (k10 : Nat), Stable I9 → I0 n6 n7 R8 I9 k10 → Br (decide (n7 < (↑lN : Int))) ((0 ≤ n7 ∧ n7 < (↑lN
  : Int)) ∧ ptrK none lP fun (k11 k12 : Nat) => ∀ (w13 : World) (R14 : List Own), Ctx W w13 (R8 ++ R14) I9 → ∃ (n15 : Int), ∃ (p16 : Option Addr), ∃ (k17 : Nat), ∃ (k18 : Nat), ∃ (n19 : Int),
  RowAt w13 k11 (k12 + n7.toNat * 3) [Value.int IntKind.i64 n15, Value.slice p16 k17 k18, Value.int IntKind.i64 n19] ∧ ∀ (b : Nat), I64 (n7 + 1) ∧ ∃ (R20 : List Own), ∃ (Φ21 : PW), ∃ (k22 :
  Nat), Stable Φ21 ∧ (∀ (w23 : World) (R24 : List Own), Ctx W w23 (R8 ++ R24) I9 → Ctx W w23 (R20 ++ R24) Φ21) ∧ I0 (IntKind.i64.wrap (n6 + n19)) (n7 + 1) R20 Φ21 k22 ∧ k22 < k10) (∀ (w25 :
  World) (R26 : List Own), Ctx W w25 (R8 ++ R26) I9 → J (Value.int IntKind.i64 n6) w25)

/-- delta.Bytes -/
-- loop at region 5: 15 ; blocks 
-- known blocks: 6 d
def Bdelta_Bytes (lP : Option Addr) (lN lC : Nat) (W : World) (R : List Own) (Φ : PW) (J : Value → World → Prop) : Prop :=
  ∀ (w0 : World) (R1 : List Own), Ctx W w0 (R ++ R1) Φ → Calls Tryd.prog F.delta_Consolidate #[Value.slice lP lN lC] w0 fun (e2 : Ending) (w3 : World) => ∃ (p4 : Option Addr), ∃ (k5 : Nat), ∃
  (k6 : Nat), e2 = Ending.returned (Value.slice p4 k5 k6) ∧ ∃ (R7 : List Own), ∃ (Φ8 : PW), Stable Φ8 ∧ Ctx W w3 (R7 ++ R1) Φ8 ∧ ∀ (k9 : Nat) (w10 : World) (R11 : List Own), Ctx W w10
  (Own.blk k9 [Value.pointer none, Value.slice none 0 0] 79 :: R7 ++ R11) Φ8 → Calls Tryd.prog F.wire_Num #[Value.int IntKind.i64 (↑k5 : Int)] w10 fun (e12 : Ending) (w13 : World) => ∃ (s14 :
  ByteArray), e12 = Ending.returned (Value.string s14) ∧ ∃ (R15 : List Own), ∃ (Φ16 : PW), Stable Φ16 ∧ Ctx W w13 (R15 ++ R11) Φ16 ∧ ∀ (w17 : World) (R18 : List Own), Ctx W w17 (R15 ++ R18)
  Φ16 → Calls Tryd.prog F.strings_Builder_WriteString #[Value.pointer (some (Addr.mk k9 0 none)), Value.string s14] w17 fun (e19 : Ending) (w20 : World) => ∃ (n21 : Int), ∃ (v22 : Value), e19
  = Ending.returned (Value.tuple #[Value.int IntKind.i64 n21, v22]) ∧ ∃ (R23 : List Own), ∃ (Φ24 : PW), Stable Φ24 ∧ Ctx W w20 (R23 ++ R18) Φ24 ∧ exI fun (I25 : Int → List Own → PW → Nat →
  Prop) => (∃ (R26 : List Own), ∃ (Φ27 : PW), ∃ (k28 : Nat), Stable Φ27 ∧ (∀ (w29 : World) (R30 : List Own), Ctx W w29 (R23 ++ R30) Φ24 → Ctx W w29 (R26 ++ R30) Φ27) ∧ I25 0 R26 Φ27 k28) ∧ ∀
  (n31 : Int) (R32 : List Own) (I33 : List Nat → World → Prop) (k34 : Nat), Stable I33 → I25 n31 R32 I33 k34 → Br (decide (n31 < (↑k5 : Int))) ((0 ≤ n31 ∧ n31 < (↑k5 : Int)) ∧ ptrK none p4
  fun (k35 k36 : Nat) => ∀ (w37 : World) (R38 : List Own), Ctx W w37 (R32 ++ R38) I33 → ∃ (n39 : Int), ∃ (p40 : Option Addr), ∃ (k41 : Nat), ∃ (k42 : Nat), ∃ (n43 : Int), RowAt w37 k35 (k36 +
  n31.toNat * 3) [Value.int IntKind.i64 n39, Value.slice p40 k41 k42, Value.int IntKind.i64 n43] ∧ ∀ (b : Nat), ∃ (R44 : List Own), ∃ (Φ45 : PW), Stable Φ45 ∧ (∀ (w46 : World) (R47 : List
  Own), Ctx W w46 (R32 ++ R47) I33 → Ctx W w46 (R44 ++ R47) Φ45) ∧ ∀ (w48 : World) (R49 : List Own), Ctx W w48 (R32 ++ R49) I33 → Calls Tryd.prog F.wire_Int #[Value.int IntKind.i64 n39] w48
  fun (e50 : Ending) (w51 : World) => ∃ (s52 : ByteArray), e50 = Ending.returned (Value.string s52) ∧ ∃ (R53 : List Own), ∃ (Φ54 : PW), Stable Φ54 ∧ Ctx W w51 (R53 ++ R49) Φ54 ∧ (∀ (w55 :
  World) (R56 : List Own), Ctx W w55 (R53 ++ R56) Φ54 → Ctx W w55 (R44 ++ R56) Φ45) ∧ ∀ (w57 : World) (R58 : List Own), Ctx W w57 (R53 ++ R58) Φ54 → Calls Tryd.prog F.value_RowBytes
  #[Value.slice p40 k41 k42] w57 fun (e59 : Ending) (w60 : World) => ∃ (s61 : ByteArray), e59 = Ending.returned (Value.string s61) ∧ ∃ (R62 : List Own), ∃ (Φ63 : PW), Stable Φ63 ∧ Ctx W w60
  (R62 ++ R58) Φ63 ∧ (∀ (w64 : World) (R65 : List Own), Ctx W w64 (R62 ++ R65) Φ63 → Ctx W w64 (R44 ++ R65) Φ45) ∧ ∀ (w66 : World) (R67 : List Own), Ctx W w66 (R62 ++ R67) Φ63 → Calls
  Tryd.prog F.wire_Text #[Value.string s61] w66 fun (e68 : Ending) (w69 : World) => ∃ (s70 : ByteArray), e68 = Ending.returned (Value.string s70) ∧ ∃ (R71 : List Own), ∃ (Φ72 : PW), Stable
  Φ72 ∧ Ctx W w69 (R71 ++ R67) Φ72 ∧ (∀ (w73 : World) (R74 : List Own), Ctx W w73 (R71 ++ R74) Φ72 → Ctx W w73 (R44 ++ R74) Φ45) ∧ (s52.size + s70.size).le 9223372036854775807 ∧ ∀ (w75 :
  World) (R76 : List Own), Ctx W w75 (R71 ++ R76) Φ72 → Calls Tryd.prog F.wire_Int #[Value.int IntKind.i64 n43] w75 fun (e77 : Ending) (w78 : World) => ∃ (s79 : ByteArray), e77 =
  Ending.returned (Value.string s79) ∧ ∃ (R80 : List Own), ∃ (Φ81 : PW), Stable Φ81 ∧ Ctx W w78 (R80 ++ R76) Φ81 ∧ (∀ (w82 : World) (R83 : List Own), Ctx W w82 (R80 ++ R83) Φ81 → Ctx W w82
  (R44 ++ R83) Φ45) ∧ ((s52 ++ s70).size + s79.size).le 9223372036854775807 ∧ ∀ (w84 : World) (R85 : List Own), Ctx W w84 (R80 ++ R85) Φ81 → Calls Tryd.prog F.strings_Builder_WriteString
  #[Value.pointer (some (Addr.mk k9 0 none)), Value.string (s52 ++ s70 ++ s79)] w84 fun (e86 : Ending) (w87 : World) => ∃ (n88 : Int), ∃ (v89 : Value), e86 = Ending.returned (Value.tuple
  #[Value.int IntKind.i64 n88, v89]) ∧ ∃ (R90 : List Own), ∃ (Φ91 : PW), Stable Φ91 ∧ Ctx W w87 (R90 ++ R85) Φ91 ∧ I64 (n31 + 1) ∧ ∃ (R92 : List Own), ∃ (Φ93 : PW), ∃ (k94 : Nat), Stable Φ93
  ∧ (∀ (w95 : World) (R96 : List Own), Ctx W w95 (R90 ++ R96) Φ91 → Ctx W w95 (R92 ++ R96) Φ93) ∧ I25 (n31 + 1) R92 Φ93 k94 ∧ k94 < k34) (∀ (w97 : World) (R98 : List Own), Ctx W w97 (R32 ++
  R98) I33 → Calls Tryd.prog F.strings_Builder_String #[Value.pointer (some (Addr.mk k9 0 none))] w97 fun (e99 : Ending) (w100 : World) => ∃ (s101 : ByteArray), e99 = Ending.returned
  (Value.string s101) ∧ ∃ (R102 : List Own), ∃ (Φ103 : PW), Stable Φ103 ∧ Ctx W w100 (R102 ++ R98) Φ103 ∧ ∀ (w104 : World) (R105 : List Own), Ctx W w104 (R102 ++ R105) Φ103 → J (Value.string
  s101) w104)

theorem Bdelta_Bytes_run (lP : Option Addr) (lN lC : Nat) {W w : World} {R : List Own} {Φ : PW} [Stable Φ] {J : Value → World → Prop} (c : Ctx W w R Φ) (h : Bdelta_Bytes lP lN lC W R Φ J) : Calls Tryd.prog F.delta_Bytes #[.slice lP lN lC] w fun e w' => ∃ v, e = .returned v ∧ J v w' :=
  vcFS_sound (H := { keep := some [0, 2, 3, 4, 6, 13, 14, 15, 16], track := [6], stages := [(7, [.held [(0, true), (3, true), (8, true), (1, true), (4, true), (9, true), (2, false), (5, false), (6, false), (7, true), (10, false)], .stage [11] (some 12)])], loops := [(5, [(15, .one (.int .i64))], [])] }) (by rw [show vcFS Tryd.prog W { keep := some [0, 2, 3, 4, 6, 13, 14, 15, 16], track := [6], stages := [(7, [.held [(0, true), (3, true), (8, true), (1, true), (4, true), (9, true), (2, false), (5, false), (6, false), (7, true), (10, false)], .stage [11] (some 12)])], loops := [(5, [(15, .one (.int .i64))], [])] } F.delta_Bytes #[.slice lP lN lC] R Φ J = Bdelta_Bytes lP lN lC W R Φ J by kernel_rfl]; exact h) c

/-- errataref28.Compare -/
-- known blocks: 2 a, 3 b
def Berrataref28_Compare (a0 : Int) (a1P : Option Addr) (a1N a1C : Nat) (a2 : Int) (b0 : Int) (b1P : Option Addr) (b1N b1C : Nat) (b2 : Int) (W : World) (R : List Own) (Φ : PW) (J : Value → World → Prop) : Prop :=
  ∀ (b b : Nat), Br (decide (a0 < b0)) (∀ (w0 : World) (R1 : List Own), Ctx W w0 (R ++ R1) Φ → J (Value.int IntKind.i64 (-1)) w0) (Br (decide (b0 < a0)) (∀ (w2 : World) (R3 : List Own), Ctx W
  w2 (R ++ R3) Φ → J (Value.int IntKind.i64 1) w2) (∀ (w4 : World) (R5 : List Own), Ctx W w4 (R ++ R5) Φ → Calls Tryd.prog F.errataref03_CompareRows #[Value.slice a1P a1N a1C, Value.slice b1P
  b1N b1C] w4 fun (e6 : Ending) (w7 : World) => ∃ (n8 : Int), e6 = Ending.returned (Value.int IntKind.i64 n8) ∧ ∃ (R9 : List Own), ∃ (Φ10 : PW), Stable Φ10 ∧ Ctx W w7 (R9 ++ R5) Φ10 ∧ ∀ (w11
  : World) (R12 : List Own), Ctx W w11 (R9 ++ R12) Φ10 → J (Value.int IntKind.i64 n8) w11))

theorem Berrataref28_Compare_run (a0 : Int) (a1P : Option Addr) (a1N a1C : Nat) (a2 : Int) (b0 : Int) (b1P : Option Addr) (b1N b1C : Nat) (b2 : Int) {W w : World} {R : List Own} {Φ : PW} [Stable Φ] {J : Value → World → Prop} (c : Ctx W w R Φ) (h : Berrataref28_Compare a0 a1P a1N a1C a2 b0 b1P b1N b1C b2 W R Φ J) : Calls Tryd.prog F.errataref28_Compare #[.agg #[.int .i64 a0, .slice a1P a1N a1C, .int .i64 a2], .agg #[.int .i64 b0, .slice b1P b1N b1C, .int .i64 b2]] w fun e w' => ∃ v, e = .returned v ∧ J v w' :=
  vcFS_sound (H := { keep := some [2, 3, 4, 9, 14], track := [2, 3] }) (by rw [show vcFS Tryd.prog W { keep := some [2, 3, 4, 9, 14], track := [2, 3] } F.errataref28_Compare #[.agg #[.int .i64 a0, .slice a1P a1N a1C, .int .i64 a2], .agg #[.int .i64 b0, .slice b1P b1N b1C, .int .i64 b2]] R Φ J = Berrataref28_Compare a0 a1P a1N a1C a2 b0 b1P b1N b1C b2 W R Φ J by kernel_rfl]; exact h) c

/-- errataref03.CompareRows -/
-- loop at region 2: 5 i; blocks 
def Berrataref03_CompareRows (aP : Option Addr) (aN aC : Nat) (bP : Option Addr) (bN bC : Nat) (W : World) (R : List Own) (Φ : PW) (J : Value → World → Prop) : Prop :=
  exI fun (I0 : Int → List Own → PW → Nat → Prop) => (∃ (R1 : List Own), ∃ (Φ2 : PW), ∃ (k3 : Nat), Stable Φ2 ∧ (∀ (w4 : World) (R5 : List Own), Ctx W w4 (R ++ R5) Φ → Ctx W w4 (R1 ++ R5) Φ2)
  ∧ I0 0 R1 Φ2 k3) ∧ ∀ (n6 : Int) (R7 : List Own) (I8 : List Nat → World → Prop) (k9 : Nat), Stable I8 → I0 n6 R7 I8 k9 → ∀ (w10 : World) (R11 : List Own), Ctx W w10 (R7 ++ R11) I8 → Br
  (decide (n6 < (↑aN : Int)) && decide (n6 < (↑bN : Int))) (∃ (R12 : List Own), ∃ (Φ13 : PW), Stable Φ13 ∧ (∀ (w14 : World) (R15 : List Own), Ctx W w14 (R7 ++ R15) I8 → Ctx W w14 (R12 ++ R15)
  Φ13) ∧ (0 ≤ n6 ∧ n6 < (↑aN : Int)) ∧ ptrK none aP fun (k16 k17 : Nat) => (0 ≤ n6 ∧ n6 < (↑bN : Int)) ∧ ptrK none bP fun (k18 k19 : Nat) => ∃ (n20 : Int), ∃ (n21 : Int), ∃ (s22 : ByteArray),
  (∀ (w23 : World) (R24 : List Own), Ctx W w23 (R12 ++ R24) Φ13 → ∃ (n25 : Int), ∃ (n26 : Int), ∃ (s27 : ByteArray), RowAt w23 k16 (k17 + n6.toNat * 3) [Value.int IntKind.i64 n25, Value.int
  IntKind.i64 n26, Value.string s27] ∧ Value.agg #[Value.int IntKind.i64 n25, Value.int IntKind.i64 n26, Value.string s27] = Value.agg #[Value.int IntKind.i64 n20, Value.int IntKind.i64 n21,
  Value.string s22]) ∧ ∃ (n28 : Int), ∃ (n29 : Int), ∃ (s30 : ByteArray), (∀ (w31 : World) (R32 : List Own), Ctx W w31 (R12 ++ R32) Φ13 → ∃ (n33 : Int), ∃ (n34 : Int), ∃ (s35 : ByteArray),
  RowAt w31 k18 (k19 + n6.toNat * 3) [Value.int IntKind.i64 n33, Value.int IntKind.i64 n34, Value.string s35] ∧ Value.agg #[Value.int IntKind.i64 n33, Value.int IntKind.i64 n34, Value.string
  s35] = Value.agg #[Value.int IntKind.i64 n28, Value.int IntKind.i64 n29, Value.string s30]) ∧ ∀ (w36 : World) (R37 : List Own), Ctx W w36 (R7 ++ R37) I8 → Calls Tryd.prog
  F.errataref03_Compare #[Value.agg #[Value.int IntKind.i64 n20, Value.int IntKind.i64 n21, Value.string s22], Value.agg #[Value.int IntKind.i64 n28, Value.int IntKind.i64 n29, Value.string
  s30]] w36 fun (e38 : Ending) (w39 : World) => ∃ (n40 : Int), e38 = Ending.returned (Value.int IntKind.i64 n40) ∧ ∃ (R41 : List Own), ∃ (Φ42 : PW), Stable Φ42 ∧ Ctx W w39 (R41 ++ R37) Φ42 ∧
  Br (decide (n40 ≠ 0)) (∀ (w43 : World) (R44 : List Own), Ctx W w43 (R41 ++ R44) Φ42 → J (Value.int IntKind.i64 n40) w43) (I64 (n6 + 1) ∧ ∃ (R45 : List Own), ∃ (Φ46 : PW), ∃ (k47 : Nat),
  Stable Φ46 ∧ (∀ (w48 : World) (R49 : List Own), Ctx W w48 (R41 ++ R49) Φ42 → Ctx W w48 (R45 ++ R49) Φ46) ∧ I0 (n6 + 1) R45 Φ46 k47 ∧ k47 < k9)) (Br (decide ((↑aN : Int) < (↑bN : Int))) (∀
  (w50 : World) (R51 : List Own), Ctx W w50 (R7 ++ R51) I8 → J (Value.int IntKind.i64 (-1)) w50) (Br (decide ((↑bN : Int) < (↑aN : Int))) (∀ (w52 : World) (R53 : List Own), Ctx W w52 (R7 ++
  R53) I8 → J (Value.int IntKind.i64 1) w52) (∀ (w54 : World) (R55 : List Own), Ctx W w54 (R7 ++ R55) I8 → J (Value.int IntKind.i64 0) w54)))

theorem Berrataref03_CompareRows_run (aP : Option Addr) (aN aC : Nat) (bP : Option Addr) (bN bC : Nat) {W w : World} {R : List Own} {Φ : PW} [Stable Φ] {J : Value → World → Prop} (c : Ctx W w R Φ) (h : Berrataref03_CompareRows aP aN aC bP bN bC W R Φ J) : Calls Tryd.prog F.errataref03_CompareRows #[.slice aP aN aC, .slice bP bN bC] w fun e w' => ∃ v, e = .returned v ∧ J v w' :=
  vcFS_sound (H := { keep := some [0, 1, 4, 5, 6, 16, 29, 35, 40], stages := [(4, [.held [(0, true), (1, true), (4, true), (5, true), (2, true), (6, true), (3, true), (7, true)], .stage [] (some 8), .stage [9] none])], loops := [(2, [(5, .one (.int .i64))], [])] }) (by rw [show vcFS Tryd.prog W { keep := some [0, 1, 4, 5, 6, 16, 29, 35, 40], stages := [(4, [.held [(0, true), (1, true), (4, true), (5, true), (2, true), (6, true), (3, true), (7, true)], .stage [] (some 8), .stage [9] none])], loops := [(2, [(5, .one (.int .i64))], [])] } F.errataref03_CompareRows #[.slice aP aN aC, .slice bP bN bC] R Φ J = Berrataref03_CompareRows aP aN aC bP bN bC W R Φ J by kernel_rfl]; exact h) c

/-- delta.Upto$1 -/
-- known blocks: 2 d
def Bdelta_Upto_1 (d0 : Int) (d1P : Option Addr) (d1N d1C : Nat) (d2 : Int) (kB kO : Nat) (W : World) (R : List Own) (Φ : PW) (J : Value → World → Prop) : Prop :=
  ∀ (b : Nat) (w0 : World) (R1 : List Own), Ctx W w0 (R ++ R1) Φ → ∃ (n2 : Int), w0.cell? (Addr.mk kB kO none) = some (Value.int IntKind.i64 n2) ∧ ∀ (w3 : World) (R4 : List Own), Ctx W w3 (R
  ++ R4) Φ → J (Value.bool (decide (n2 < d0))) w3

theorem Bdelta_Upto_1_run (d0 : Int) (d1P : Option Addr) (d1N d1C : Nat) (d2 : Int) (kB kO : Nat) {W w : World} {R : List Own} {Φ : PW} [Stable Φ] {J : Value → World → Prop} (c : Ctx W w R Φ) (h : Bdelta_Upto_1 d0 d1P d1N d1C d2 kB kO W R Φ J) : Calls Tryd.prog F.delta_Upto_1 #[.agg #[.int .i64 d0, .slice d1P d1N d1C, .int .i64 d2], .pointer (some ⟨kB, kO, none⟩)] w fun e w' => ∃ v, e = .returned v ∧ J v w' :=
  vcFS_sound (H := { keep := some [1, 2, 3], track := [2] }) (by rw [show vcFS Tryd.prog W { keep := some [1, 2, 3], track := [2] } F.delta_Upto_1 #[.agg #[.int .i64 d0, .slice d1P d1N d1C, .int .i64 d2], .pointer (some ⟨kB, kO, none⟩)] R Φ J = Bdelta_Upto_1 d0 d1P d1N d1C d2 kB kO W R Φ J by kernel_rfl]; exact h) c

/-- slices.DeleteFunc[[]api.Delta,api.Delta] -/
-- loop at region 5: 5 i, 6 j; blocks 
-- known blocks: 7 v
def Bslices_DeleteFunc_api_Delta_api_Delta (sP : Option Addr) (sN sC : Nat) (delF : FuncId) (delC : Array Value) (W : World) (R : List Own) (Φ : PW) (J : Value → World → Prop) : Prop :=
  ∀ (w0 : World) (R1 : List Own), Ctx W w0 (R ++ R1) Φ → Calls Tryd.prog F.slices_IndexFunc_api_Delta_api_Delta #[Value.slice sP sN sC, Value.func (Fn.func delF) #[] delC] w0 fun (e2 :
  Ending) (w3 : World) => ∃ (n4 : Int), e2 = Ending.returned (Value.int IntKind.i64 n4) ∧ ∃ (R5 : List Own), ∃ (Φ6 : PW), Stable Φ6 ∧ Ctx W w3 (R5 ++ R1) Φ6 ∧ Br (decide (n4 = -1)) (∀ (w7 :
  World) (R8 : List Own), Ctx W w7 (R5 ++ R8) Φ6 → J (Value.slice sP sN sC) w7) (I64 (n4 + 1) ∧ exI fun (I9 : Int → Int → List Own → PW → Nat → Prop) => (∃ (R10 : List Own), ∃ (Φ11 : PW), ∃
  (k12 : Nat), Stable Φ11 ∧ (∀ (w13 : World) (R14 : List Own), Ctx W w13 (R5 ++ R14) Φ6 → Ctx W w13 (R10 ++ R14) Φ11) ∧ I9 n4 (n4 + 1) R10 Φ11 k12) ∧ ∀ (n15 n16 : Int) (R17 : List Own) (I18 :
  List Nat → World → Prop) (k19 : Nat), Stable I18 → I9 n15 n16 R17 I18 k19 → Br (decide (n16 < (↑sN : Int))) ((0 ≤ n16 ∧ n16 < (↑sN : Int)) ∧ ptrK none sP fun (k20 k21 : Nat) => ∀ (w22 :
  World) (R23 : List Own), Ctx W w22 (R17 ++ R23) I18 → ∃ (n24 : Int), ∃ (p25 : Option Addr), ∃ (k26 : Nat), ∃ (k27 : Nat), ∃ (n28 : Int), RowAt w22 k20 (k21 + n16.toNat * 3) [Value.int
  IntKind.i64 n24, Value.slice p25 k26 k27, Value.int IntKind.i64 n28] ∧ ∀ (b : Nat) (w29 : World) (R30 : List Own), Ctx W w29 (R17 ++ R30) I18 → okFun Tryd.prog delF = true ∧ Calls Tryd.prog
  delF (Array.mk (Value.agg #[Value.int IntKind.i64 n24, Value.slice p25 k26 k27, Value.int IntKind.i64 n28] :: delC.toList)) w29 fun (e31 : Ending) (w32 : World) => ∃ (c33 : Bool), e31 =
  Ending.returned (Value.bool c33) ∧ ∃ (R34 : List Own), ∃ (Φ35 : PW), Stable Φ35 ∧ Ctx W w32 (R34 ++ R30) Φ35 ∧ Br (!c33) ((0 ≤ n15 ∧ n15 < (↑sN : Int)) ∧ ptrK none sP fun (k36 k37 : Nat) =>
  ∀ (w38 : World) (R39 : List Own), Ctx W w38 (R34 ++ R39) Φ35 → CanWrite w38 k36 (k37 + n15.toNat * 3) 3 ∧ ∀ (w40 : World), w40 = w38.setCells k36 (k37 + n15.toNat * 3) [Value.int
  IntKind.i64 n24, Value.slice p25 k26 k27, Value.int IntKind.i64 n28] → ∃ (R41 : List Own), ∃ (Φ42 : PW), Stable Φ42 ∧ Ctx W w40 (R41 ++ R39) Φ42 ∧ I64 (n15 + 1) ∧ I64 (n16 + 1) ∧ ∃ (R43 :
  List Own), ∃ (Φ44 : PW), ∃ (k45 : Nat), Stable Φ44 ∧ (∀ (w46 : World) (R47 : List Own), Ctx W w46 (R41 ++ R47) Φ42 → Ctx W w46 (R43 ++ R47) Φ44) ∧ I9 (n15 + 1) (n16 + 1) R43 Φ44 k45 ∧ k45 <
  k19) (I64 (n16 + 1) ∧ ∃ (R48 : List Own), ∃ (Φ49 : PW), ∃ (k50 : Nat), Stable Φ49 ∧ (∀ (w51 : World) (R52 : List Own), Ctx W w51 (R34 ++ R52) Φ35 → Ctx W w51 (R48 ++ R52) Φ49) ∧ I9 n15 (n16
  + 1) R48 Φ49 k50 ∧ k50 < k19)) ((0 ≤ n15 ∧ n15 ≤ (↑sN : Int) ∧ sN ≤ sC) ∧ ∀ (w53 : World) (R54 : List Own), Ctx W w53 (R17 ++ R54) I18 → ∃ (w55 : World), Sem.run Tryd.prog (builtin
  Builtin.clear #[22] 0 #[false] #[Value.slice (subPtr sP 3 n15.toNat sC) (sN - n15.toNat) (sC - n15.toNat)]) w53 = Result.ok (Next.value (Value.tuple #[])) w55 ∧ ∃ (R56 : List Own), ∃ (Φ57 :
  PW), Stable Φ57 ∧ Ctx W w55 (R56 ++ R54) Φ57 ∧ (0 ≤ n15 ∧ n15 ≤ (↑sC : Int)) ∧ ∀ (w58 : World) (R59 : List Own), Ctx W w58 (R56 ++ R59) Φ57 → J (Value.slice (subPtr sP 3 0 sC) n15.toNat sC)
  w58))

theorem Bslices_DeleteFunc_api_Delta_api_Delta_run (sP : Option Addr) (sN sC : Nat) (delF : FuncId) (delC : Array Value) {W w : World} {R : List Own} {Φ : PW} [Stable Φ] {J : Value → World → Prop} (c : Ctx W w R Φ) (h : Bslices_DeleteFunc_api_Delta_api_Delta sP sN sC delF delC W R Φ J) : Calls Tryd.prog F.slices_DeleteFunc_api_Delta_api_Delta #[.slice sP sN sC, .func (.func delF) #[] delC] w fun e w' => ∃ v, e = .returned v ∧ J v w' :=
  vcFS_sound (H := { keep := some [0, 1, 4, 5, 6, 7, 12, 19, 29], wrap := [28], track := [7], loops := [(5, [(5, .one (.int .i64)), (6, .one (.int .i64))], [])] }) (by rw [show vcFS Tryd.prog W { keep := some [0, 1, 4, 5, 6, 7, 12, 19, 29], wrap := [28], track := [7], loops := [(5, [(5, .one (.int .i64)), (6, .one (.int .i64))], [])] } F.slices_DeleteFunc_api_Delta_api_Delta #[.slice sP sN sC, .func (.func delF) #[] delC] R Φ J = Bslices_DeleteFunc_api_Delta_api_Delta sP sN sC delF delC W R Φ J by kernel_rfl]; exact h) c

/-- delta.After$1 -/
-- known blocks: 2 d
def Bdelta_After_1 (d0 : Int) (d1P : Option Addr) (d1N d1C : Nat) (d2 : Int) (kB kO : Nat) (W : World) (R : List Own) (Φ : PW) (J : Value → World → Prop) : Prop :=
  ∀ (b : Nat) (w0 : World) (R1 : List Own), Ctx W w0 (R ++ R1) Φ → ∃ (n2 : Int), w0.cell? (Addr.mk kB kO none) = some (Value.int IntKind.i64 n2) ∧ ∀ (w3 : World) (R4 : List Own), Ctx W w3 (R
  ++ R4) Φ → J (Value.bool (decide (d0 ≤ n2))) w3

theorem Bdelta_After_1_run (d0 : Int) (d1P : Option Addr) (d1N d1C : Nat) (d2 : Int) (kB kO : Nat) {W w : World} {R : List Own} {Φ : PW} [Stable Φ] {J : Value → World → Prop} (c : Ctx W w R Φ) (h : Bdelta_After_1 d0 d1P d1N d1C d2 kB kO W R Φ J) : Calls Tryd.prog F.delta_After_1 #[.agg #[.int .i64 d0, .slice d1P d1N d1C, .int .i64 d2], .pointer (some ⟨kB, kO, none⟩)] w fun e w' => ∃ v, e = .returned v ∧ J v w' :=
  vcFS_sound (H := { keep := some [1, 2, 3], track := [2] }) (by rw [show vcFS Tryd.prog W { keep := some [1, 2, 3], track := [2] } F.delta_After_1 #[.agg #[.int .i64 d0, .slice d1P d1N d1C, .int .i64 d2], .pointer (some ⟨kB, kO, none⟩)] R Φ J = Bdelta_After_1 d0 d1P d1N d1C d2 kB kO W R Φ J by kernel_rfl]; exact h) c

/-- value.RowBytes -/
-- loop at region 4: 12 ; blocks 
-- known blocks: 5 v
def Bvalue_RowBytes (rP : Option Addr) (rN rC : Nat) (W : World) (R : List Own) (Φ : PW) (J : Value → World → Prop) : Prop :=
  ∀ (k0 : Nat) (w1 : World) (R2 : List Own), Ctx W w1 (Own.blk k0 [Value.pointer none, Value.slice none 0 0] 79 :: R ++ R2) Φ → Calls Tryd.prog F.wire_Num #[Value.int IntKind.i64 (↑rN : Int)]
  w1 fun (e3 : Ending) (w4 : World) => ∃ (s5 : ByteArray), e3 = Ending.returned (Value.string s5) ∧ ∃ (R6 : List Own), ∃ (Φ7 : PW), Stable Φ7 ∧ Ctx W w4 (R6 ++ R2) Φ7 ∧ ∀ (w8 : World) (R9 :
  List Own), Ctx W w8 (R6 ++ R9) Φ7 → Calls Tryd.prog F.strings_Builder_WriteString #[Value.pointer (some (Addr.mk k0 0 none)), Value.string s5] w8 fun (e10 : Ending) (w11 : World) => ∃ (n12
  : Int), ∃ (v13 : Value), e10 = Ending.returned (Value.tuple #[Value.int IntKind.i64 n12, v13]) ∧ ∃ (R14 : List Own), ∃ (Φ15 : PW), Stable Φ15 ∧ Ctx W w11 (R14 ++ R9) Φ15 ∧ exI fun (I16 :
  Int → List Own → PW → Nat → Prop) => (∃ (R17 : List Own), ∃ (Φ18 : PW), ∃ (k19 : Nat), Stable Φ18 ∧ (∀ (w20 : World) (R21 : List Own), Ctx W w20 (R14 ++ R21) Φ15 → Ctx W w20 (R17 ++ R21)
  Φ18) ∧ I16 0 R17 Φ18 k19) ∧ ∀ (n22 : Int) (R23 : List Own) (I24 : List Nat → World → Prop) (k25 : Nat), Stable I24 → I16 n22 R23 I24 k25 → Br (decide (n22 < (↑rN : Int))) ((0 ≤ n22 ∧ n22 <
  (↑rN : Int)) ∧ ptrK none rP fun (k26 k27 : Nat) => ∀ (w28 : World) (R29 : List Own), Ctx W w28 (R23 ++ R29) I24 → ∃ (n30 : Int), ∃ (n31 : Int), ∃ (s32 : ByteArray), RowAt w28 k26 (k27 +
  n22.toNat * 3) [Value.int IntKind.i64 n30, Value.int IntKind.i64 n31, Value.string s32] ∧ ∀ (b : Nat) (w33 : World) (R34 : List Own), Ctx W w33 (R23 ++ R34) I24 → Calls Tryd.prog
  F.value_Bytes #[Value.agg #[Value.int IntKind.i64 n30, Value.int IntKind.i64 n31, Value.string s32]] w33 fun (e35 : Ending) (w36 : World) => ∃ (s37 : ByteArray), e35 = Ending.returned
  (Value.string s37) ∧ ∃ (R38 : List Own), ∃ (Φ39 : PW), Stable Φ39 ∧ Ctx W w36 (R38 ++ R34) Φ39 ∧ ∀ (w40 : World) (R41 : List Own), Ctx W w40 (R38 ++ R41) Φ39 → Calls Tryd.prog
  F.strings_Builder_WriteString #[Value.pointer (some (Addr.mk k0 0 none)), Value.string s37] w40 fun (e42 : Ending) (w43 : World) => ∃ (n44 : Int), ∃ (v45 : Value), e42 = Ending.returned
  (Value.tuple #[Value.int IntKind.i64 n44, v45]) ∧ ∃ (R46 : List Own), ∃ (Φ47 : PW), Stable Φ47 ∧ Ctx W w43 (R46 ++ R41) Φ47 ∧ I64 (n22 + 1) ∧ ∃ (R48 : List Own), ∃ (Φ49 : PW), ∃ (k50 :
  Nat), Stable Φ49 ∧ (∀ (w51 : World) (R52 : List Own), Ctx W w51 (R46 ++ R52) Φ47 → Ctx W w51 (R48 ++ R52) Φ49) ∧ I16 (n22 + 1) R48 Φ49 k50 ∧ k50 < k25) (∀ (w53 : World) (R54 : List Own),
  Ctx W w53 (R23 ++ R54) I24 → Calls Tryd.prog F.strings_Builder_String #[Value.pointer (some (Addr.mk k0 0 none))] w53 fun (e55 : Ending) (w56 : World) => ∃ (s57 : ByteArray), e55 =
  Ending.returned (Value.string s57) ∧ ∃ (R58 : List Own), ∃ (Φ59 : PW), Stable Φ59 ∧ Ctx W w56 (R58 ++ R54) Φ59 ∧ ∀ (w60 : World) (R61 : List Own), Ctx W w60 (R58 ++ R61) Φ59 → J
  (Value.string s57) w60)

theorem Bvalue_RowBytes_run (rP : Option Addr) (rN rC : Nat) {W w : World} {R : List Own} {Φ : PW} [Stable Φ] {J : Value → World → Prop} (c : Ctx W w R Φ) (h : Bvalue_RowBytes rP rN rC W R Φ J) : Calls Tryd.prog F.value_RowBytes #[.slice rP rN rC] w fun e w' => ∃ v, e = .returned v ∧ J v w' :=
  vcFS_sound (H := { keep := some [0, 2, 3, 5, 10, 11, 12, 13], track := [5], loops := [(4, [(12, .one (.int .i64))], [])] }) (by rw [show vcFS Tryd.prog W { keep := some [0, 2, 3, 5, 10, 11, 12, 13], track := [5], loops := [(4, [(12, .one (.int .i64))], [])] } F.value_RowBytes #[.slice rP rN rC] R Φ J = Bvalue_RowBytes rP rN rC W R Φ J by kernel_rfl]; exact h) c

/-- slices.ContainsFunc[[]api.Delta,api.Delta] -/
def Bslices_ContainsFunc_api_Delta_api_Delta (sP : Option Addr) (sN sC : Nat) (fF : FuncId) (fC : Array Value) (W : World) (R : List Own) (Φ : PW) (J : Value → World → Prop) : Prop :=
  ∀ (w0 : World) (R1 : List Own), Ctx W w0 (R ++ R1) Φ → Calls Tryd.prog F.slices_IndexFunc_api_Delta_api_Delta #[Value.slice sP sN sC, Value.func (Fn.func fF) #[] fC] w0 fun (e2 : Ending)
  (w3 : World) => ∃ (n4 : Int), e2 = Ending.returned (Value.int IntKind.i64 n4) ∧ ∃ (R5 : List Own), ∃ (Φ6 : PW), Stable Φ6 ∧ Ctx W w3 (R5 ++ R1) Φ6 ∧ ∀ (w7 : World) (R8 : List Own), Ctx W w7
  (R5 ++ R8) Φ6 → J (Value.bool (decide (0 ≤ n4))) w7

theorem Bslices_ContainsFunc_api_Delta_api_Delta_run (sP : Option Addr) (sN sC : Nat) (fF : FuncId) (fC : Array Value) {W w : World} {R : List Own} {Φ : PW} [Stable Φ] {J : Value → World → Prop} (c : Ctx W w R Φ) (h : Bslices_ContainsFunc_api_Delta_api_Delta sP sN sC fF fC W R Φ J) : Calls Tryd.prog F.slices_ContainsFunc_api_Delta_api_Delta #[.slice sP sN sC, .func (.func fF) #[] fC] w fun e w' => ∃ v, e = .returned v ∧ J v w' :=
  vcFS_sound (H := { keep := some [0, 1, 4] }) (by rw [show vcFS Tryd.prog W { keep := some [0, 1, 4] } F.slices_ContainsFunc_api_Delta_api_Delta #[.slice sP sN sC, .func (.func fF) #[] fC] R Φ J = Bslices_ContainsFunc_api_Delta_api_Delta sP sN sC fF fC W R Φ J by kernel_rfl]; exact h) c

/-- delta.Multiset$1 -/
-- known blocks: 1 d
def Bdelta_Multiset_1 (d0 : Int) (d1P : Option Addr) (d1N d1C : Nat) (d2 : Int) (W : World) (R : List Own) (Φ : PW) (J : Value → World → Prop) : Prop :=
  ∀ (b : Nat) (w0 : World) (R1 : List Own), Ctx W w0 (R ++ R1) Φ → J (Value.bool (decide (d2 < 0))) w0

theorem Bdelta_Multiset_1_run (d0 : Int) (d1P : Option Addr) (d1N d1C : Nat) (d2 : Int) {W w : World} {R : List Own} {Φ : PW} [Stable Φ] {J : Value → World → Prop} (c : Ctx W w R Φ) (h : Bdelta_Multiset_1 d0 d1P d1N d1C d2 W R Φ J) : Calls Tryd.prog F.delta_Multiset_1 #[.agg #[.int .i64 d0, .slice d1P d1N d1C, .int .i64 d2]] w fun e w' => ∃ v, e = .returned v ∧ J v w' :=
  vcFS_sound (H := { keep := some [1, 2], track := [1] }) (by rw [show vcFS Tryd.prog W { keep := some [1, 2], track := [1] } F.delta_Multiset_1 #[.agg #[.int .i64 d0, .slice d1P d1N d1C, .int .i64 d2]] R Φ J = Bdelta_Multiset_1 d0 d1P d1N d1C d2 W R Φ J by kernel_rfl]; exact h) c

/-- (*strings.Builder).WriteString -/
def Bstrings_Builder_WriteString (bB bO : Nat) (s : ByteArray) (W : World) (R : List Own) (Φ : PW) (J : Value → World → Prop) : Prop :=
  ∀ (w0 : World) (R1 : List Own), Ctx W w0 (R ++ R1) Φ → Calls Tryd.prog F.strings_Builder_copyCheck #[Value.pointer (some (Addr.mk bB bO none))] w0 fun (e2 : Ending) (w3 : World) => e2 =
  Ending.returned (Value.tuple #[]) ∧ ∃ (R4 : List Own), ∃ (Φ5 : PW), Stable Φ5 ∧ Ctx W w3 (R4 ++ R1) Φ5 ∧ ∀ (w6 : World) (R7 : List Own), Ctx W w6 (R4 ++ R7) Φ5 → ∃ (p8 : Option Addr), ∃ (k9
  : Nat), ∃ (k10 : Nat), w6.cell? (Addr.mk bB (bO + 1) none) = some (Value.slice p8 k9 k10) ∧ ∀ (w11 : World) (R12 : List Own), Ctx W w11 (R4 ++ R12) Φ5 → ∃ (p13 : Option Addr), ∃ (k14 :
  Nat), ∃ (k15 : Nat), ∃ (w16 : World), Sem.run Tryd.prog (builtin Builtin.append #[71, 9] 71 #[false, false] #[Value.slice p8 k9 k10, Value.string s]) w11 = Result.ok (Next.value
  (Value.slice p13 k14 k15)) w16 ∧ ∃ (R17 : List Own), ∃ (Φ18 : PW), Stable Φ18 ∧ Ctx W w16 (R17 ++ R12) Φ18 ∧ ∀ (w19 : World) (R20 : List Own), Ctx W w19 (R17 ++ R20) Φ18 → CanWrite w19 bB
  (bO + 1) 1 ∧ ∀ (w21 : World), w21 = w19.setCell (Addr.mk bB (bO + 1) none) (Value.slice p13 k14 k15) → ∃ (R22 : List Own), ∃ (Φ23 : PW), Stable Φ23 ∧ Ctx W w21 (R22 ++ R20) Φ23 ∧ ∀ (w24 :
  World) (R25 : List Own), Ctx W w24 (R22 ++ R25) Φ23 → J (Value.tuple #[Value.int IntKind.i64 (↑s.size : Int), Value.nilIface]) w24

theorem Bstrings_Builder_WriteString_run (bB bO : Nat) (s : ByteArray) {W w : World} {R : List Own} {Φ : PW} [Stable Φ] {J : Value → World → Prop} (c : Ctx W w R Φ) (h : Bstrings_Builder_WriteString bB bO s W R Φ J) : Calls Tryd.prog F.strings_Builder_WriteString #[.pointer (some ⟨bB, bO, none⟩), .string s] w fun e w' => ∃ v, e = .returned v ∧ J v w' :=
  vcFS_sound (H := { keep := some [0, 1, 4, 5] }) (by rw [show vcFS Tryd.prog W { keep := some [0, 1, 4, 5] } F.strings_Builder_WriteString #[.pointer (some ⟨bB, bO, none⟩), .string s] R Φ J = Bstrings_Builder_WriteString bB bO s W R Φ J by kernel_rfl]; exact h) c

/-- wire.Num -/
def Bwire_Num (n : Int) (W : World) (R : List Own) (Φ : PW) (J : Value → World → Prop) : Prop :=
  Br (decide (n < 0)) (∀ (w0 : World) (R1 : List Own), Ctx W w0 (R ++ R1) Φ → J (Value.string (ByteArray.mk #[])) w0) (∀ (w2 : World) (R3 : List Own), Ctx W w2 (R ++ R3) Φ → Calls Tryd.prog
  F.wire_Int #[Value.int IntKind.i64 n] w2 fun (e4 : Ending) (w5 : World) => ∃ (s6 : ByteArray), e4 = Ending.returned (Value.string s6) ∧ ∃ (R7 : List Own), ∃ (Φ8 : PW), Stable Φ8 ∧ Ctx W w5
  (R7 ++ R3) Φ8 ∧ ∀ (w9 : World) (R10 : List Own), Ctx W w9 (R7 ++ R10) Φ8 → J (Value.string s6) w9)

theorem Bwire_Num_run (n : Int) {W w : World} {R : List Own} {Φ : PW} [Stable Φ] {J : Value → World → Prop} (c : Ctx W w R Φ) (h : Bwire_Num n W R Φ J) : Calls Tryd.prog F.wire_Num #[.int .i64 n] w fun e w' => ∃ v, e = .returned v ∧ J v w' :=
  vcFS_sound (H := { keep := some [0, 2, 4] }) (by rw [show vcFS Tryd.prog W { keep := some [0, 2, 4] } F.wire_Num #[.int .i64 n] R Φ J = Bwire_Num n W R Φ J by kernel_rfl]; exact h) c

/-- wire.Int -/
def Bwire_Int (n : Int) (W : World) (R : List Own) (Φ : PW) (J : Value → World → Prop) : Prop :=
  ∀ (w0 : World) (R1 : List Own), Ctx W w0 (R ++ R1) Φ → Calls Tryd.prog F.strconv_Itoa #[Value.int IntKind.i64 n] w0 fun (e2 : Ending) (w3 : World) => ∃ (s4 : ByteArray), e2 =
  Ending.returned (Value.string s4) ∧ ∃ (R5 : List Own), ∃ (Φ6 : PW), Stable Φ6 ∧ Ctx W w3 (R5 ++ R1) Φ6 ∧ (s4.size + (ByteArray.mk #[OfNat.ofNat 59]).size).le 9223372036854775807 ∧ ∀ (w7 :
  World) (R8 : List Own), Ctx W w7 (R5 ++ R8) Φ6 → J (Value.string (s4 ++ ByteArray.mk #[OfNat.ofNat 59])) w7

theorem Bwire_Int_run (n : Int) {W w : World} {R : List Own} {Φ : PW} [Stable Φ] {J : Value → World → Prop} (c : Ctx W w R Φ) (h : Bwire_Int n W R Φ J) : Calls Tryd.prog F.wire_Int #[.int .i64 n] w fun e w' => ∃ v, e = .returned v ∧ J v w' :=
  vcFS_sound (H := { keep := some [0, 2] }) (by rw [show vcFS Tryd.prog W { keep := some [0, 2] } F.wire_Int #[.int .i64 n] R Φ J = Bwire_Int n W R Φ J by kernel_rfl]; exact h) c

/-- wire.Text -/
def Bwire_Text (s : ByteArray) (W : World) (R : List Own) (Φ : PW) (J : Value → World → Prop) : Prop :=
  ∀ (w0 : World) (R1 : List Own), Ctx W w0 (R ++ R1) Φ → Calls Tryd.prog F.strconv_Itoa #[Value.int IntKind.i64 (↑s.size : Int)] w0 fun (e2 : Ending) (w3 : World) => ∃ (s4 : ByteArray), e2 =
  Ending.returned (Value.string s4) ∧ ∃ (R5 : List Own), ∃ (Φ6 : PW), Stable Φ6 ∧ Ctx W w3 (R5 ++ R1) Φ6 ∧ (s4.size + (ByteArray.mk #[OfNat.ofNat 58]).size).le 9223372036854775807 ∧ ((s4 ++
  ByteArray.mk #[OfNat.ofNat 58]).size + s.size).le 9223372036854775807 ∧ ((s4 ++ ByteArray.mk #[OfNat.ofNat 58] ++ s).size + (ByteArray.mk #[OfNat.ofNat 44]).size).le 9223372036854775807 ∧ ∀
  (w7 : World) (R8 : List Own), Ctx W w7 (R5 ++ R8) Φ6 → J (Value.string (s4 ++ ByteArray.mk #[OfNat.ofNat 58] ++ s ++ ByteArray.mk #[OfNat.ofNat 44])) w7

theorem Bwire_Text_run (s : ByteArray) {W w : World} {R : List Own} {Φ : PW} [Stable Φ] {J : Value → World → Prop} (c : Ctx W w R Φ) (h : Bwire_Text s W R Φ J) : Calls Tryd.prog F.wire_Text #[.string s] w fun e w' => ∃ v, e = .returned v ∧ J v w' :=
  vcFS_sound (H := { keep := some [0, 2] }) (by rw [show vcFS Tryd.prog W { keep := some [0, 2] } F.wire_Text #[.string s] R Φ J = Bwire_Text s W R Φ J by kernel_rfl]; exact h) c

/-- errataref03.Compare -/
-- known blocks: 2 a, 3 b
def Berrataref03_Compare (a0 : Int) (a1 : Int) (a2 : ByteArray) (b0 : Int) (b1 : Int) (b2 : ByteArray) (W : World) (R : List Own) (Φ : PW) (J : Value → World → Prop) : Prop :=
  ∀ (b b : Nat), Br (decide (a0 < b0)) (∀ (w0 : World) (R1 : List Own), Ctx W w0 (R ++ R1) Φ → J (Value.int IntKind.i64 (-1)) w0) (Br (decide (b0 < a0)) (∀ (w2 : World) (R3 : List Own), Ctx W
  w2 (R ++ R3) Φ → J (Value.int IntKind.i64 1) w2) (Br (decide (a1 < b1)) (∀ (w4 : World) (R5 : List Own), Ctx W w4 (R ++ R5) Φ → J (Value.int IntKind.i64 (-1)) w4) (Br (decide (b1 < a1)) (∀
  (w6 : World) (R7 : List Own), Ctx W w6 (R ++ R7) Φ → J (Value.int IntKind.i64 1) w6) (Br (Op.bytesLess (ByteArray.toList.loop a2 0 []) (ByteArray.toList.loop b2 0 [])) (∀ (w8 : World) (R9 :
  List Own), Ctx W w8 (R ++ R9) Φ → J (Value.int IntKind.i64 (-1)) w8) (∃ (c10 : Bool), (∀ (w11 : World), Sem.run Tryd.prog (binOp BinOp.gtr 9 (Value.string a2) (Value.string b2)) w11 =
  Result.ok (Value.bool c10) w11) ∧ Br c10 (∀ (w12 : World) (R13 : List Own), Ctx W w12 (R ++ R13) Φ → J (Value.int IntKind.i64 1) w12) (∀ (w14 : World) (R15 : List Own), Ctx W w14 (R ++ R15)
  Φ → J (Value.int IntKind.i64 0) w14))))))

theorem Berrataref03_Compare_run (a0 : Int) (a1 : Int) (a2 : ByteArray) (b0 : Int) (b1 : Int) (b2 : ByteArray) {W w : World} {R : List Own} {Φ : PW} [Stable Φ] {J : Value → World → Prop} (c : Ctx W w R Φ) (h : Berrataref03_Compare a0 a1 a2 b0 b1 b2 W R Φ J) : Calls Tryd.prog F.errataref03_Compare #[.agg #[.int .i64 a0, .int .i64 a1, .string a2], .agg #[.int .i64 b0, .int .i64 b1, .string b2]] w fun e w' => ∃ v, e = .returned v ∧ J v w' :=
  vcFS_sound (H := { keep := some [2, 3, 4, 9, 14, 19, 24, 29, 34], track := [2, 3] }) (by rw [show vcFS Tryd.prog W { keep := some [2, 3, 4, 9, 14, 19, 24, 29, 34], track := [2, 3] } F.errataref03_Compare #[.agg #[.int .i64 a0, .int .i64 a1, .string a2], .agg #[.int .i64 b0, .int .i64 b1, .string b2]] R Φ J = Berrataref03_Compare a0 a1 a2 b0 b1 b2 W R Φ J by kernel_rfl]; exact h) c

/-- slices.IndexFunc[[]api.Delta,api.Delta] -/
-- loop at region 2: 8 ; blocks 
def Bslices_IndexFunc_api_Delta_api_Delta (sP : Option Addr) (sN sC : Nat) (fF : FuncId) (fC : Array Value) (W : World) (R : List Own) (Φ : PW) (J : Value → World → Prop) : Prop :=
  exI fun (I0 : Int → List Own → PW → Nat → Prop) => (∃ (R1 : List Own), ∃ (Φ2 : PW), ∃ (k3 : Nat), Stable Φ2 ∧ (∀ (w4 : World) (R5 : List Own), Ctx W w4 (R ++ R5) Φ → Ctx W w4 (R1 ++ R5) Φ2)
  ∧ I0 0 R1 Φ2 k3) ∧ ∀ (n6 : Int) (R7 : List Own) (I8 : List Nat → World → Prop) (k9 : Nat), Stable I8 → I0 n6 R7 I8 k9 → Br (decide (n6 < (↑sN : Int))) ((0 ≤ n6 ∧ n6 < (↑sN : Int)) ∧ ptrK
  none sP fun (k10 k11 : Nat) => ∀ (w12 : World) (R13 : List Own), Ctx W w12 (R7 ++ R13) I8 → ∃ (n14 : Int), ∃ (p15 : Option Addr), ∃ (k16 : Nat), ∃ (k17 : Nat), ∃ (n18 : Int), RowAt w12 k10
  (k11 + n6.toNat * 3) [Value.int IntKind.i64 n14, Value.slice p15 k16 k17, Value.int IntKind.i64 n18] ∧ ∀ (w19 : World) (R20 : List Own), Ctx W w19 (R7 ++ R20) I8 → okFun Tryd.prog fF = true
  ∧ Calls Tryd.prog fF (Array.mk (Value.agg #[Value.int IntKind.i64 n14, Value.slice p15 k16 k17, Value.int IntKind.i64 n18] :: fC.toList)) w19 fun (e21 : Ending) (w22 : World) => ∃ (c23 :
  Bool), e21 = Ending.returned (Value.bool c23) ∧ ∃ (R24 : List Own), ∃ (Φ25 : PW), Stable Φ25 ∧ Ctx W w22 (R24 ++ R20) Φ25 ∧ Br c23 (∀ (w26 : World) (R27 : List Own), Ctx W w26 (R24 ++ R27)
  Φ25 → J (Value.int IntKind.i64 n6) w26) (I64 (n6 + 1) ∧ ∃ (R28 : List Own), ∃ (Φ29 : PW), ∃ (k30 : Nat), Stable Φ29 ∧ (∀ (w31 : World) (R32 : List Own), Ctx W w31 (R24 ++ R32) Φ25 → Ctx W
  w31 (R28 ++ R32) Φ29) ∧ I0 (n6 + 1) R28 Φ29 k30 ∧ k30 < k9)) (∀ (w33 : World) (R34 : List Own), Ctx W w33 (R7 ++ R34) I8 → J (Value.int IntKind.i64 (-1)) w33)

theorem Bslices_IndexFunc_api_Delta_api_Delta_run (sP : Option Addr) (sN sC : Nat) (fF : FuncId) (fC : Array Value) {W w : World} {R : List Own} {Φ : PW} [Stable Φ] {J : Value → World → Prop} (c : Ctx W w R Φ) (h : Bslices_IndexFunc_api_Delta_api_Delta sP sN sC fF fC W R Φ J) : Calls Tryd.prog F.slices_IndexFunc_api_Delta_api_Delta #[.slice sP sN sC, .func (.func fF) #[] fC] w fun e w' => ∃ v, e = .returned v ∧ J v w' :=
  vcFS_sound (H := { keep := some [0, 1, 4, 5, 7, 8, 9, 16], wrap := [16], loops := [(2, [(8, .one (.int .i64))], [])] }) (by rw [show vcFS Tryd.prog W { keep := some [0, 1, 4, 5, 7, 8, 9, 16], wrap := [16], loops := [(2, [(8, .one (.int .i64))], [])] } F.slices_IndexFunc_api_Delta_api_Delta #[.slice sP sN sC, .func (.func fF) #[] fC] R Φ J = Bslices_IndexFunc_api_Delta_api_Delta sP sN sC fF fC W R Φ J by kernel_rfl]; exact h) c

/-- value.Bytes -/
-- known blocks: 1 v
def Bvalue_Bytes (v0 : Int) (v1 : Int) (v2 : ByteArray) (W : World) (R : List Own) (Φ : PW) (J : Value → World → Prop) : Prop :=
  ∀ (b : Nat), ∃ (R0 : List Own), ∃ (Φ1 : PW), Stable Φ1 ∧ (∀ (w2 : World) (R3 : List Own), Ctx W w2 (R ++ R3) Φ → Ctx W w2 (R0 ++ R3) Φ1) ∧ ∀ (w4 : World) (R5 : List Own), Ctx W w4 (R ++ R5)
  Φ → Calls Tryd.prog F.wire_Int #[Value.int IntKind.i64 v0] w4 fun (e6 : Ending) (w7 : World) => ∃ (s8 : ByteArray), e6 = Ending.returned (Value.string s8) ∧ ∃ (R9 : List Own), ∃ (Φ10 : PW),
  Stable Φ10 ∧ Ctx W w7 (R9 ++ R5) Φ10 ∧ (∀ (w11 : World) (R12 : List Own), Ctx W w11 (R9 ++ R12) Φ10 → Ctx W w11 (R0 ++ R12) Φ1) ∧ ∀ (w13 : World) (R14 : List Own), Ctx W w13 (R9 ++ R14) Φ10
  → Calls Tryd.prog F.wire_Int #[Value.int IntKind.i64 v1] w13 fun (e15 : Ending) (w16 : World) => ∃ (s17 : ByteArray), e15 = Ending.returned (Value.string s17) ∧ ∃ (R18 : List Own), ∃ (Φ19 :
  PW), Stable Φ19 ∧ Ctx W w16 (R18 ++ R14) Φ19 ∧ (∀ (w20 : World) (R21 : List Own), Ctx W w20 (R18 ++ R21) Φ19 → Ctx W w20 (R0 ++ R21) Φ1) ∧ (s8.size + s17.size).le 9223372036854775807 ∧ ∀
  (w22 : World) (R23 : List Own), Ctx W w22 (R18 ++ R23) Φ19 → Calls Tryd.prog F.wire_Text #[Value.string v2] w22 fun (e24 : Ending) (w25 : World) => ∃ (s26 : ByteArray), e24 =
  Ending.returned (Value.string s26) ∧ ∃ (R27 : List Own), ∃ (Φ28 : PW), Stable Φ28 ∧ Ctx W w25 (R27 ++ R23) Φ28 ∧ (∀ (w29 : World) (R30 : List Own), Ctx W w29 (R27 ++ R30) Φ28 → Ctx W w29
  (R0 ++ R30) Φ1) ∧ ((s8 ++ s17).size + s26.size).le 9223372036854775807 ∧ ∀ (w31 : World) (R32 : List Own), Ctx W w31 (R27 ++ R32) Φ28 → J (Value.string (s8 ++ s17 ++ s26)) w31

theorem Bvalue_Bytes_run (v0 : Int) (v1 : Int) (v2 : ByteArray) {W w : World} {R : List Own} {Φ : PW} [Stable Φ] {J : Value → World → Prop} (c : Ctx W w R Φ) (h : Bvalue_Bytes v0 v1 v2 W R Φ J) : Calls Tryd.prog F.value_Bytes #[.agg #[.int .i64 v0, .int .i64 v1, .string v2]] w fun e w' => ∃ v, e = .returned v ∧ J v w' :=
  vcFS_sound (H := { keep := some [1, 2], track := [1], stages := [(1, [.held [(0, true), (3, true), (7, true), (1, true), (4, true), (8, true), (2, false), (5, false), (6, true), (9, false)], .stage [10, 11] none])] }) (by rw [show vcFS Tryd.prog W { keep := some [1, 2], track := [1], stages := [(1, [.held [(0, true), (3, true), (7, true), (1, true), (4, true), (8, true), (2, false), (5, false), (6, true), (9, false)], .stage [10, 11] none])] } F.value_Bytes #[.agg #[.int .i64 v0, .int .i64 v1, .string v2]] R Φ J = Bvalue_Bytes v0 v1 v2 W R Φ J by kernel_rfl]; exact h) c

end Go.Proofs.YtnapfhbibikbiaaDoor
end

/-
  CONTRACTS over what a walk owns: a function that hands back a plain value, or plain data.
-/
section
set_option linter.unusedVariables false
set_option linter.unusedSimpArgs false
namespace Go.Vc

section
variable {P : Program} {W w : World} {S F : List Own} {Φ Ψ : PW}

/-- the function only looks: it hands back v, and the world is as it was -/
structure Quiet (P : Program) (f : FuncId) (args : Array Value) (v : Value) : Prop where
  go : ∀ w, Calls P f args w fun e w' => e = .returned v ∧ w' = w

/-- the function hands back v; all that is owned or known stays -/
structure Gives (P : Program) (f : FuncId) (args : Array Value) (v : Value) : Prop where
  go : ∀ (W w : World) (S : List Own) (Φ : PW), Stable Φ → Ctx W w S Φ → Calls P f args w fun e w' => e = .returned v ∧ Ctx W w' S Φ

theorem Quiet.at {f : FuncId} {args : Array Value} {v : Value} (h : Quiet P f args v) {w w0 : World} (e : w = w0) : Calls P f args w fun e w' => e = .returned v ∧ w' = w0 := by subst e; exact h.go w
theorem Quiet.gives {f : FuncId} {args : Array Value} {v : Value} (h : Quiet P f args v) : Gives P f args v :=
  ⟨fun W w S Φ _ c => (h.go w).mono fun e w' ⟨h1, h2⟩ => by subst h2; exact ⟨h1, c⟩⟩

theorem Gives.use {f : FuncId} {args : Array Value} {v : Value} (h : Gives P f args v) [hs : Stable Φ] (c : Ctx W w S Φ) {K : Ending → World → Prop} (hk : ∀ w', Ctx W w' S Φ → K (.returned v) w') : Calls P f args w K :=
  (h.go W w S Φ hs c).mono fun e w' ⟨he, c'⟩ => by subst he; exact hk w' c'

theorem gives_of {f : FuncId} {args : Array Value} {v : Value} {B : World → List Own → PW → (Value → World → Prop) → Prop}
    (run : ∀ {W w : World} {R : List Own} {Φ : PW} [Stable Φ] {J : Value → World → Prop}, Ctx W w R Φ → B W R Φ J → Calls P f args w fun e w' => ∃ v, e = .returned v ∧ J v w')
    (h : ∀ (W : World) (R : List Own) (Φ : PW), Stable Φ → B W R Φ fun u w' => u = v ∧ Ctx W w' R Φ) : Gives P f args v :=
  ⟨fun W w S Φ hs c => calls_of (run c (h W S Φ hs)) fun u w' ⟨h1, h2⟩ => ⟨by rw [h1], h2⟩⟩

/-- .. where Φ is known -/
structure GivesIn (Φ : PW) (P : Program) (f : FuncId) (args : Array Value) (v : Value) : Prop where
  go : ∀ (W w : World) (S : List Own), Ctx W w S Φ → Calls P f args w fun e w' => e = .returned v ∧ Ctx W w' S Φ

theorem GivesIn.use {f : FuncId} {args : Array Value} {v : Value} (h : GivesIn Φ P f args v) (c : Ctx W w S Φ) {K : Ending → World → Prop} (hk : ∀ w', Ctx W w' S Φ → K (.returned v) w') : Calls P f args w K :=
  (h.go W w S c).mono fun e w' ⟨he, c'⟩ => by subst he; exact hk w' c'

theorem Gives.in [hs : Stable Φ] {f : FuncId} {args : Array Value} {v : Value} (h : Gives P f args v) : GivesIn Φ P f args v := ⟨fun W w S c => h.go W w S Φ hs c⟩

theorem gives_in [Stable Φ] {f : FuncId} {args : Array Value} {v : Value} {B : World → List Own → PW → (Value → World → Prop) → Prop}
    (run : ∀ {W w : World} {R : List Own} {Φ : PW} [Stable Φ] {J : Value → World → Prop}, Ctx W w R Φ → B W R Φ J → Calls P f args w fun e w' => ∃ v, e = .returned v ∧ J v w')
    (h : ∀ (W : World) (R : List Own), B W R Φ fun u w' => u = v ∧ Ctx W w' R Φ) : GivesIn Φ P f args v :=
  ⟨fun W w S c => calls_of (run c (h W S)) fun u w' ⟨h1, h2⟩ => ⟨by rw [h1], h2⟩⟩

/-- without the frame -/
theorem Ctx.left [Stable Φ] (c : Ctx W w (S ++ F) Φ) : Ctx W w S Φ := c.sub (List.sublist_append_left _ _)
theorem Ctx.right [Stable Φ] (c : Ctx W w (S ++ F) Φ) : Ctx W w F Φ := c.sub (List.sublist_append_right _ _)
theorem Ctx.fst [Stable Φ] [Stable Ψ] (c : Ctx W w S (fun M w => Φ M w ∧ Ψ M w)) : Ctx W w S Φ := c.weak fun _ _ h => h.1

/-- a row out of cells that are written out -/
theorem rows_of {cs vs : List Value} {o : Nat} (h : (cs.drop o).take vs.length = vs) : ∀ j, (hj : j < vs.length) → cs[o + j]? = some vs[j] := by
  intro j hj
  have h1 : ((cs.drop o).take vs.length)[j]? = vs[j]? := by rw [h]
  rw [List.getElem?_take_of_lt hj, List.getElem?_drop] at h1
  rw [h1, List.getElem?_eq_getElem hj]

end

/-! ### data that is read at several points: its cells are named -/
/-- the cells of the elements, at this place -/
def Pin {α : Type} [Gv α] (b o : Nat) (cs : List (List Value)) (l : List α) (M : List Nat) (w : World) : Prop :=
  ∀ j, (hj : j < l.length) → b ∉ M ∧ RowAt w b (o + j * (Gv.ty α).size) (cs.getD j []) ∧ Gv.rep M w (cs.getD j []) l[j]

instance instStablePin {α : Type} [Gv α] (b o : Nat) (cs : List (List Value)) (l : List α) : Stable (fun M w => Pin b o cs l M w) := ⟨fun hs h j hj => by
  obtain ⟨h2, h3, h4⟩ := h j hj
  have hlt := row_lt h3 (by rw [Gv.len h4]; exact Gv.pos)
  exact ⟨fun hm => by rcases hs.sub b hm with h | h; exact h2 h; omega, hs.chg.row h3 h2, Gv.stable hs h4⟩⟩

theorem Sl.pin {α : Type} [Gv α] {M : List Nat} {w : World} {p : Option Addr} {l : List α} (h : Sl M w p l) : ∃ b o cs, (0 < l.length → p = some ⟨b, o, none⟩) ∧ Pin b o cs l M w := by
  by_cases h0 : 0 < l.length
  · obtain ⟨b, o, _, hp, _⟩ := h 0 h0
    have key : ∀ j, j < l.length → ∃ cs : List Value, ∀ hj : j < l.length, b ∉ M ∧ RowAt w b (o + j * (Gv.ty α).size) cs ∧ Gv.rep M w cs l[j] := by
      intro j hj
      obtain ⟨b', o', cs, h1, h2, h3, h4⟩ := h j hj
      rw [hp] at h1
      cases h1
      exact ⟨cs, fun _ => ⟨h2, h3, h4⟩⟩
    obtain ⟨cs, hl, hcs⟩ := list_build l.length key
    refine ⟨b, o, cs, fun _ => hp, fun j hj => ?_⟩
    have := hcs j (by omega) hj
    rw [show cs.getD j [] = cs[j] by simp [List.getD, show j < cs.length by omega]]
    exact this
  · exact ⟨0, 0, [], fun h => absurd h h0, fun j hj => by omega⟩

theorem Ctx.pin {W w : World} {S : List Own} {Φ : PW} (c : Ctx W w S Φ) {α : Type} [Gv α] {p : Option Addr} {l : List α} (h : Sl (dom S) w p l) :
    ∃ b o cs, (0 < l.length → p = some ⟨b, o, none⟩) ∧ Ctx W w S (fun M w => Φ M w ∧ Pin b o cs l M w) := by
  obtain ⟨b, o, cs, hp, hpin⟩ := h.pin
  exact ⟨b, o, cs, hp, c.add hpin⟩

theorem GivesIn.pinned {Φ : PW} [Stable Φ] {P : Program} {f : FuncId} {args : Array Value} {v : Value} {α : Type} [Gv α] {p : Option Addr} {l : List α} (hΦ : ∀ M w, Φ M w → Sl M w p l)
    (h : ∀ b o cs, (0 < l.length → p = some ⟨b, o, none⟩) → GivesIn (fun M w => Φ M w ∧ Pin b o cs l M w) P f args v) : GivesIn Φ P f args v :=
  ⟨fun W w S c => by
    obtain ⟨b, o, cs, hp, c'⟩ := c.pin (hΦ _ _ c.phi)
    exact ((h b o cs hp).go W w S c').mono fun e w' ⟨h1, h2⟩ => ⟨h1, h2.fst⟩⟩

end Go.Vc
end

/-
  What is owned is laid aside while a call reads it; functions that hand back a slice of plain data.
-/
section
set_option linter.unusedVariables false
set_option linter.unusedSimpArgs false
namespace Go.Vc

section
variable {P : Program} {W w : World} {S F : List Own} {Φ Ψ : PW}

/-- what is owned, laid aside: nobody writes it -/
def Parked (W : World) (o : Own) (M : List Nat) (w : World) : Prop := o.at w ∧ ∀ b ∈ o.dom, b ∉ M ∧ W.heap.size ≤ b

instance instStableParked (W : World) (o : Own) : Stable (fun M w => Parked W o M w) := ⟨fun hs h =>
  ⟨Own.at_keep h.1 fun b hb => hs.chg.block b (Own.at_lt h.1 b hb) (h.2 b hb).1, fun b hb => ⟨fun hm => by
    rcases hs.sub b hm with h1 | h1
    · exact (h.2 b hb).1 h1
    · have := Own.at_lt h.1 b hb; omega, (h.2 b hb).2⟩⟩⟩

instance instStableMore (D : List Nat) (Φ : PW) [Stable Φ] : Stable (fun M w => Φ (D ++ M) w) := ⟨fun {M M' w w'} hs h =>
  Stable.step (Φ := Φ) (M := D ++ M) (M' := D ++ M') ⟨hs.chg.mono fun x hx => List.mem_append_right _ hx, fun b hb => by
    rcases List.mem_append.1 hb with h | h
    · exact .inl (List.mem_append_left _ h)
    · rcases hs.sub b h with h | h
      · exact .inl (List.mem_append_right _ h)
      · exact .inr h⟩ h⟩

theorem Own.nodup (o : Own) : o.dom.Nodup := by
  cases o with
  | blk => simp [Own.dom]
  | obj => simp [Own.dom]
  | buf p => cases p <;> simp [Own.dom]

theorem dom_cons (o : Own) (S : List Own) : dom (o :: S) = o.dom ++ dom S := rfl

theorem Ctx.park {o : Own} (c : Ctx W w (o :: S) Φ) : Ctx W w S (fun M w => Φ (o.dom ++ M) w ∧ Parked W o M w) :=
  ⟨c.chg, fun x hx => c.own x (List.mem_cons_of_mem _ hx), fun b hb => c.young b (by rw [dom_cons]; exact List.mem_append_right _ hb),
    (by have := c.nodup; rw [dom_cons, List.nodup_append] at this; exact this.2.1), c.phi, c.own o List.mem_cons_self, fun b hb =>
      ⟨fun hm => by have := c.nodup; rw [dom_cons, List.nodup_append] at this; exact this.2.2 b hb b hm rfl, c.young b (by rw [dom_cons]; exact List.mem_append_left _ hb)⟩⟩

/-- a slice with elements lies somewhere -/
def There (p : Option Addr) (n : Nat) : Prop := 0 < n → ∃ b o, p = some ⟨b, o, none⟩
theorem Sl.there {α : Type} [Gv α] {M : List Nat} {w : World} {p : Option Addr} {l : List α} (h : Sl M w p l) : There p l.length := fun h0 => by
  obtain ⟨b, o, _, h1, _⟩ := h 0 h0
  exact ⟨b, o, h1⟩
theorem Sl.nil {α : Type} [Gv α] {M : List Nat} {w : World} {p : Option Addr} : Sl M w p ([] : List α) := fun j hj => by simp at hj

theorem GivesIn.there {f : FuncId} {args : Array Value} {v : Value} {p : Option Addr} {n : Nat} (hΦ : ∀ M w, Φ M w → There p n) (h : There p n → GivesIn Φ P f args v) : GivesIn Φ P f args v :=
  ⟨fun W w S c => (h (hΦ _ _ c.phi)).go W w S c⟩

/-- the function hands back a slice of plain data, inside mk -/
structure GivesSl (Φ : PW) (P : Program) (f : FuncId) (args : Array Value) {α : Type} [Gv α] (l : List α) (mk : Value → Value) : Prop where
  go : ∀ (W w : World) (S : List Own), Ctx W w S Φ → Calls P f args w fun e w' => ∃ p cap, e = .returned (mk (.slice p l.length cap)) ∧ l.length ≤ cap ∧ cap ≤ maxLen ∧ Ctx W w' S (fun M w => Φ M w ∧ Sl M w p l)

theorem GivesSl.use {f : FuncId} {args : Array Value} {α : Type} [Gv α] {l : List α} {mk : Value → Value} (h : GivesSl Φ P f args l mk) (c : Ctx W w S Φ) {K : Ending → World → Prop}
    (hk : ∀ p cap w', l.length ≤ cap → cap ≤ maxLen → Ctx W w' S (fun M w => Φ M w ∧ Sl M w p l) → K (.returned (mk (.slice p l.length cap))) w') : Calls P f args w K :=
  (h.go W w S c).mono fun e w' ⟨p, cap, he, h1, h2, c'⟩ => by subst he; exact hk p cap w' h1 h2 c'

theorem gives_sl [Stable Φ] {f : FuncId} {args : Array Value} {α : Type} [Gv α] {l : List α} {mk : Value → Value} {B : World → List Own → PW → (Value → World → Prop) → Prop}
    (run : ∀ {W w : World} {R : List Own} {Φ : PW} [Stable Φ] {J : Value → World → Prop}, Ctx W w R Φ → B W R Φ J → Calls P f args w fun e w' => ∃ v, e = .returned v ∧ J v w')
    (h : ∀ (W : World) (R : List Own), B W R Φ fun u w' => ∃ p cap, u = mk (.slice p l.length cap) ∧ l.length ≤ cap ∧ cap ≤ maxLen ∧ Ctx W w' R (fun M w => Φ M w ∧ Sl M w p l)) : GivesSl Φ P f args l mk :=
  ⟨fun W w S c => calls_of (run c (h W S)) fun u w' ⟨p, cap, h1, h2⟩ => ⟨p, cap, by rw [h1], h2⟩⟩

theorem GivesSl.there {f : FuncId} {args : Array Value} {α : Type} [Gv α] {l : List α} {mk : Value → Value} {p : Option Addr} {n : Nat} (hΦ : ∀ M w, Φ M w → There p n) (h : There p n → GivesSl Φ P f args l mk) : GivesSl Φ P f args l mk :=
  ⟨fun W w S c => (h (hΦ _ _ c.phi)).go W w S c⟩

theorem GivesSl.pinned [Stable Φ] {f : FuncId} {args : Array Value} {β : Type} [Gv β] {r : List β} {mk : Value → Value} {α : Type} [Gv α] {p : Option Addr} {l : List α} (hΦ : ∀ M w, Φ M w → Sl M w p l)
    (h : ∀ b o cs, (0 < l.length → p = some ⟨b, o, none⟩) → GivesSl (fun M w => Φ M w ∧ Pin b o cs l M w) P f args r mk) : GivesSl Φ P f args r mk :=
  ⟨fun W w S c => by
    obtain ⟨b, o, cs, hp, c'⟩ := c.pin (hΦ _ _ c.phi)
    exact ((h b o cs hp).go W w S c').mono fun e w' ⟨p, cap, h1, h2, h3, h4⟩ => ⟨p, cap, h1, h2, h3, h4.weak fun _ _ h => ⟨h.1.1, h.2⟩⟩⟩

/-! ### append -/
def appB (P : Program) (ts t : TypeId) (size bytes : Nat) : Bool :=
  (match P.underlying ts with | some (.slice u) => decide (u = t) | _ => false) && (match P.info? t with
    | some i => (match i.zero with | some z => decide (z.cells.size = size) | none => false) && decide (i.size = size) && decide (i.bytes = bytes)
    | none => false)

theorem appB_out {ts t : TypeId} {size bytes : Nat} (h : appB P ts t size bytes = true) : ∃ i z, P.underlying ts = some (.slice t) ∧ P.info? t = some i ∧ i.zero = some z ∧ i.size = size ∧ z.cells.size = size ∧ i.bytes = bytes := by
  unfold appB at h
  rw [Bool.and_eq_true] at h
  obtain ⟨h1, h2⟩ := h
  split at h1
  · rename_i u hu
    have : u = t := by simpa using h1
    subst this
    split at h2
    · rename_i i hi
      simp only [Bool.and_eq_true] at h2
      obtain ⟨⟨h2, h3⟩, h4⟩ := h2
      split at h2
      · rename_i z hz
        exact ⟨i, z, hu, hi, hz, by simpa using h3, by simpa using h2, by simpa using h4⟩
      · cases h2
    · cases h2
  · cases h1

theorem run_app {ats : Array TypeId} {ty : TypeId} {cs : Array Bool} {args : Array Value} {v : Value} {w w' : World} (h : (Builtin.append_ ats ty args).run P w = .ok v w') : Sem.run P (builtin Builtin.append ats ty cs args) w = .ok (.value v) w' := by
  unfold builtin
  simp only [Sem.run_bind, h, Result.andThen, Sem.run_pure]

/-- append one element that was just made -/
theorem Ctx.app1 [Stable Φ] {b : Nat} {news : List Value} {t' : TypeId} {p : Option Addr} {n cap : Nat} {cs : List Value} {t : TypeId} {size bytes : Nat} (c : Ctx W w (.blk b news t' :: .buf p n cap cs t size :: S) Φ)
    {ts ty : TypeId} {kb : Array Bool} (hb : appB P ts t size bytes = true) (h0 : 0 < size) (hl : news.length = size) (h1 : (news.all fun u => oneC u) = true) (hlen : n < 100000000) (hbytes : bytes ≤ 1000) :
    ∃ p' cap' w', Sem.run P (builtin Builtin.append #[ts, ts] ty kb #[.slice p n cap, .slice (some ⟨b, 0, none⟩) 1 1]) w = .ok (.value (.slice p' (n + 1) cap')) w' ∧ (∃ g, p' = some ⟨g, 0, none⟩) ∧ Ctx W w' (.buf p' (n + 1) cap' (cs ++ news) t size :: S) Φ := by
  obtain ⟨i, z, e1, e2, e3, e4, e5, e6⟩ := appB_out hb
  have hby : (n + 1) * i.bytes ≤ 100000000 * 1000 := Nat.mul_le_mul (by omega) (by omega)
  obtain ⟨p', cap', w', h2, c'⟩ := c.append 1 rfl (ty := ty) e1 e2 e3 e4 e5 (a := ⟨b, 0, none⟩) (m := 1) (c2 := 1) (news := news) (by omega) (by rw [hl, Nat.one_mul]) (fun j u hj => by rw [addr_add, Nat.zero_add]; exact c.get 0 rfl hj)
    (fun u hu => List.all_eq_true.1 h1 u hu) (by omega) (by omega)
  refine ⟨p', cap', w', run_app h2, ?_, c'.drop1⟩
  obtain ⟨g, hg, _⟩ := c'.bufCell 1 rfl (by rw [List.length_append]; omega)
  exact ⟨g, hg⟩

/-- nothing is owned for an empty slice -/
theorem Ctx.nobuf [Stable Φ] (c : Ctx W w S Φ) (t : TypeId) (size : Nat) : Ctx W w (.buf none 0 0 [] t size :: S) Φ := c.buf0 t size

theorem Sl.less {α : Type} [Gv α] {M D : List Nat} {w : World} {p : Option Addr} {l : List α} (h : Sl (D ++ M) w p l) : Sl M w p l :=
  h.stable ⟨Chg.refl _ _, fun b hb => .inl (List.mem_append_right _ hb)⟩

/-- the function hands back a slice that it made, inside mk: the caller owns it -/
structure GivesBuf (Φ : PW) (P : Program) (f : FuncId) (args : Array Value) (n : Nat) (cells : List Value) (t : TypeId) (size : Nat) (mk : Value → Value) : Prop where
  go : ∀ (W w : World) (S : List Own), Ctx W w S Φ → Calls P f args w fun e w' => ∃ p cap, e = .returned (mk (.slice p n cap)) ∧ Ctx W w' (.buf p n cap cells t size :: S) Φ

theorem GivesBuf.use {f : FuncId} {args : Array Value} {n : Nat} {cells : List Value} {t : TypeId} {size : Nat} {mk : Value → Value} (h : GivesBuf Φ P f args n cells t size mk) (c : Ctx W w S Φ) {K : Ending → World → Prop}
    (hk : ∀ p cap w', Ctx W w' (.buf p n cap cells t size :: S) Φ → K (.returned (mk (.slice p n cap))) w') : Calls P f args w K :=
  (h.go W w S c).mono fun e w' ⟨p, cap, he, c'⟩ => by subst he; exact hk p cap w' c'

theorem GivesBuf.pinned [Stable Φ] {f : FuncId} {args : Array Value} {n : Nat} {cells : List Value} {t : TypeId} {size : Nat} {mk : Value → Value} {α : Type} [Gv α] {p : Option Addr} {l : List α} (hΦ : ∀ M w, Φ M w → Sl M w p l)
    (h : ∀ b o cs, (0 < l.length → p = some ⟨b, o, none⟩) → GivesBuf (fun M w => Φ M w ∧ Pin b o cs l M w) P f args n cells t size mk) : GivesBuf Φ P f args n cells t size mk :=
  ⟨fun W w S c => by
    obtain ⟨b, o, cs, hp, c'⟩ := c.pin (hΦ _ _ c.phi)
    exact ((h b o cs hp).go W w S c').mono fun e w' ⟨p, cap, h1, h4⟩ => ⟨p, cap, h1, h4.fst⟩⟩

/-- a block that is laid aside is plain data -/
theorem Parked.blkSl {α : Type} [Gv α] {M : List Nat} {b : Nat} {cs : List Value} {t : TypeId} {l : List α} (h : Parked W (.blk b cs t) M w) (he : Elems M w cs l) : Sl M w (some ⟨b, 0, none⟩) l := by
  obtain ⟨h1, h2⟩ := h
  have h1 : Blk w b cs t := h1
  intro j hj
  have hle : (j + 1) * (Gv.ty α).size ≤ cs.length := by rw [he.1]; exact Nat.mul_le_mul_right _ hj
  rw [Nat.add_mul, Nat.one_mul] at hle
  refine ⟨b, 0, (cs.drop (j * (Gv.ty α).size)).take (Gv.ty α).size, rfl, (h2 b (by simp [Own.dom])).1, fun i hi => ?_, he.2 j hj⟩
  simp only [List.length_take, List.length_drop] at hi
  rw [Nat.zero_add, List.getElem_take, List.getElem_drop]
  exact h1.cell_eq (List.getElem?_eq_getElem (by omega))

/-- a block that is written no more is plain data -/
theorem Ctx.freezeBlk [Stable Φ] {α : Type} [Gv α] {b : Nat} {cs : List Value} {t : TypeId} {l : List α} (c : Ctx W w (.blk b cs t :: S) Φ) (he : Elems (dom (.blk b cs t :: S)) w cs l) : Ctx W w S Φ ∧ Sl (dom S) w (some ⟨b, 0, none⟩) l := by
  have c' := c.park
  refine ⟨c.drop1, c'.phi.2.blkSl ⟨he.1, fun j hj => ?_⟩⟩
  exact Gv.stable ⟨Chg.refl _ _, fun b hb => .inl (by rw [dom_cons]; exact List.mem_append_right _ hb)⟩ (he.2 j hj)

theorem Elems.two {α : Type} [Gv α] {M : List Nat} {cs ds : List Value} {x y : α} (h1 : Gv.rep M w cs x) (h2 : Gv.rep M w ds y) : Elems M w (cs ++ ds) [x, y] := Elems.snoc (l := [x]) (Elems.snoc (l := []) (cs := []) Elems.nil h1) h2
theorem Elems.one {α : Type} [Gv α] {M : List Nat} {cs : List Value} {x : α} (h1 : Gv.rep M w cs x) : Elems M w cs [x] := Elems.snoc (l := []) (cs := []) Elems.nil h1

end

end Go.Vc
end

