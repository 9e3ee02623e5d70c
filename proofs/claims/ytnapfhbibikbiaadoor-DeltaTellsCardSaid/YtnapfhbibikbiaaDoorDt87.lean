/-
  The conditions of the walks of some functions, one formula each; 'B<f>_run' says that they suffice. The formulas are printed by a program; the kernel compares them with the functions' code.
-/
import Derived.Test.YtnapfhbibikbiaaDoorDt84
import Derived.Test.YtnapfhbibikbiaaDoorDt86
import Derived.Lib.AppendZeros
import Derived.Test.YtnapfhbibikbiaaDoorDt85
import Derived.Shelf.Strings.Builder1
import Derived.Shelf.Strconv.Itoa3
import Derived.Lib.AppendStr
import Derived.Lib.LaidTab
import Derived.LaidMore
import Derived.OpenShut
import Derived.Stop.Joined

section
namespace Go.Proofs.YtnapfhbibikbiaaDoor
set_option linter.unusedVariables false
set_option linter.unusedSimpArgs false
set_option maxRecDepth 100000
open Go.Vc

/-- erratalaw28.DeltaTells -/
def Berratalaw28_DeltaTells (aP : Option Addr) (aN aC : Nat) (bP : Option Addr) (bN bC : Nat) (t : Int) (rowP : Option Addr) (rowN rowC : Nat) (W : World) (R : List Own) (Φ : PW) (J : Value → World → Prop) : Prop :=
  ∀ (w0 : World) (R1 : List Own), Ctx W w0 (R ++ R1) Φ → Calls Tryd.prog F.erratalaw28_small #[] w0 fun (e2 : Ending) (w3 : World) => ∃ (c4 : Bool), e2 = Ending.returned (Value.bool c4) ∧ ∃
  (R5 : List Own), ∃ (Φ6 : PW), Stable Φ6 ∧ Ctx W w3 (R5 ++ R1) Φ6 ∧ ∀ (w7 : World) (R8 : List Own), Ctx W w7 (R5 ++ R8) Φ6 → Calls Tryd.prog F.erratalaw28_few #[Value.slice aP aN aC,
  Value.int IntKind.i64 200] w7 fun (e9 : Ending) (w10 : World) => ∃ (c11 : Bool), e9 = Ending.returned (Value.bool c11) ∧ ∃ (R12 : List Own), ∃ (Φ13 : PW), Stable Φ13 ∧ Ctx W w10 (R12 ++ R8)
  Φ13 ∧ Br (!c11) (∀ (w14 : World) (R15 : List Own), Ctx W w14 (R12 ++ R15) Φ13 → J (Value.bool c4) w14) (∀ (w16 : World) (R17 : List Own), Ctx W w16 (R12 ++ R17) Φ13 → Calls Tryd.prog
  F.erratalaw28_few #[Value.slice bP bN bC, Value.int IntKind.i64 200] w16 fun (e18 : Ending) (w19 : World) => ∃ (c20 : Bool), e18 = Ending.returned (Value.bool c20) ∧ ∃ (R21 : List Own), ∃
  (Φ22 : PW), Stable Φ22 ∧ Ctx W w19 (R21 ++ R17) Φ22 ∧ Br (!c20) (∀ (w23 : World) (R24 : List Own), Ctx W w23 (R21 ++ R24) Φ22 → J (Value.bool c4) w23) (∀ (k25 : Nat) (w26 : World) (R27 :
  List Own), Ctx W w26 (Own.blk k25 [Value.int IntKind.i64 0, Value.slice rowP rowN rowC, Value.int IntKind.i64 0] 39 :: R21 ++ R27) Φ22 → Calls Tryd.prog F.erratalaw28_few #[Value.slice
  (some (Addr.mk k25 0 none)) 1 1, Value.int IntKind.i64 1] w26 fun (e28 : Ending) (w29 : World) => ∃ (c30 : Bool), e28 = Ending.returned (Value.bool c30) ∧ ∃ (R31 : List Own), ∃ (Φ32 : PW),
  Stable Φ32 ∧ Ctx W w29 (R31 ++ R27) Φ32 ∧ Br (!c30) (∀ (w33 : World) (R34 : List Own), Ctx W w33 (R31 ++ R34) Φ32 → J (Value.bool c4) w33) (∀ (w35 : World) (R36 : List Own), Ctx W w35 (R31
  ++ R36) Φ32 → Calls Tryd.prog F.delta_Consolidate #[Value.slice aP aN aC] w35 fun (e37 : Ending) (w38 : World) => ∃ (p39 : Option Addr), ∃ (k40 : Nat), ∃ (k41 : Nat), e37 = Ending.returned
  (Value.slice p39 k40 k41) ∧ ∃ (R42 : List Own), ∃ (Φ43 : PW), Stable Φ43 ∧ Ctx W w38 (R42 ++ R36) Φ43 ∧ ∀ (w44 : World) (R45 : List Own), Ctx W w44 (R42 ++ R45) Φ43 → Calls Tryd.prog
  F.errataref28_Consolidate #[Value.slice aP aN aC] w44 fun (e46 : Ending) (w47 : World) => ∃ (p48 : Option Addr), ∃ (k49 : Nat), ∃ (k50 : Nat), e46 = Ending.returned (Value.slice p48 k49
  k50) ∧ ∃ (R51 : List Own), ∃ (Φ52 : PW), Stable Φ52 ∧ Ctx W w47 (R51 ++ R45) Φ52 ∧ ∀ (w53 : World) (R54 : List Own), Ctx W w53 (R51 ++ R54) Φ52 → Calls Tryd.prog F.errataref28_Equal
  #[Value.slice p39 k40 k41, Value.slice p48 k49 k50] w53 fun (e55 : Ending) (w56 : World) => ∃ (c57 : Bool), e55 = Ending.returned (Value.bool c57) ∧ ∃ (R58 : List Own), ∃ (Φ59 : PW), Stable
  Φ59 ∧ Ctx W w56 (R58 ++ R54) Φ59 ∧ Br c57 (∀ (w60 : World) (R61 : List Own), Ctx W w60 (R58 ++ R61) Φ59 → Calls Tryd.prog F.delta_Add #[Value.slice aP aN aC, Value.slice bP bN bC] w60 fun
  (e62 : Ending) (w63 : World) => ∃ (p64 : Option Addr), ∃ (k65 : Nat), ∃ (k66 : Nat), e62 = Ending.returned (Value.slice p64 k65 k66) ∧ ∃ (R67 : List Own), ∃ (Φ68 : PW), Stable Φ68 ∧ Ctx W
  w63 (R67 ++ R61) Φ68 ∧ ∀ (w69 : World) (R70 : List Own), Ctx W w69 (R67 ++ R70) Φ68 → Calls Tryd.prog F.errataref28_Add #[Value.slice aP aN aC, Value.slice bP bN bC] w69 fun (e71 : Ending)
  (w72 : World) => ∃ (p73 : Option Addr), ∃ (k74 : Nat), ∃ (k75 : Nat), e71 = Ending.returned (Value.slice p73 k74 k75) ∧ ∃ (R76 : List Own), ∃ (Φ77 : PW), Stable Φ77 ∧ Ctx W w72 (R76 ++ R70)
  Φ77 ∧ ∀ (w78 : World) (R79 : List Own), Ctx W w78 (R76 ++ R79) Φ77 → Calls Tryd.prog F.errataref28_Equal #[Value.slice p64 k65 k66, Value.slice p73 k74 k75] w78 fun (e80 : Ending) (w81 :
  World) => ∃ (c82 : Bool), e80 = Ending.returned (Value.bool c82) ∧ ∃ (R83 : List Own), ∃ (Φ84 : PW), Stable Φ84 ∧ Ctx W w81 (R83 ++ R79) Φ84 ∧ Br c82 (∀ (w85 : World) (R86 : List Own), Ctx
  W w85 (R83 ++ R86) Φ84 → Calls Tryd.prog F.delta_Sub #[Value.slice aP aN aC, Value.slice bP bN bC] w85 fun (e87 : Ending) (w88 : World) => ∃ (p89 : Option Addr), ∃ (k90 : Nat), ∃ (k91 :
  Nat), e87 = Ending.returned (Value.slice p89 k90 k91) ∧ ∃ (R92 : List Own), ∃ (Φ93 : PW), Stable Φ93 ∧ Ctx W w88 (R92 ++ R86) Φ93 ∧ ∀ (w94 : World) (R95 : List Own), Ctx W w94 (R92 ++ R95)
  Φ93 → Calls Tryd.prog F.errataref28_Sub #[Value.slice aP aN aC, Value.slice bP bN bC] w94 fun (e96 : Ending) (w97 : World) => ∃ (p98 : Option Addr), ∃ (k99 : Nat), ∃ (k100 : Nat), e96 =
  Ending.returned (Value.slice p98 k99 k100) ∧ ∃ (R101 : List Own), ∃ (Φ102 : PW), Stable Φ102 ∧ Ctx W w97 (R101 ++ R95) Φ102 ∧ ∀ (w103 : World) (R104 : List Own), Ctx W w103 (R101 ++ R104)
  Φ102 → Calls Tryd.prog F.errataref28_Equal #[Value.slice p89 k90 k91, Value.slice p98 k99 k100] w103 fun (e105 : Ending) (w106 : World) => ∃ (c107 : Bool), e105 = Ending.returned
  (Value.bool c107) ∧ ∃ (R108 : List Own), ∃ (Φ109 : PW), Stable Φ109 ∧ Ctx W w106 (R108 ++ R104) Φ109 ∧ Br c107 (∀ (w110 : World) (R111 : List Own), Ctx W w110 (R108 ++ R111) Φ109 → Calls
  Tryd.prog F.delta_Upto #[Value.slice aP aN aC, Value.int IntKind.i64 t] w110 fun (e112 : Ending) (w113 : World) => ∃ (p114 : Option Addr), ∃ (k115 : Nat), ∃ (k116 : Nat), e112 =
  Ending.returned (Value.slice p114 k115 k116) ∧ ∃ (R117 : List Own), ∃ (Φ118 : PW), Stable Φ118 ∧ Ctx W w113 (R117 ++ R111) Φ118 ∧ ∀ (w119 : World) (R120 : List Own), Ctx W w119 (R117 ++
  R120) Φ118 → Calls Tryd.prog F.errataref28_Upto #[Value.slice aP aN aC, Value.int IntKind.i64 t] w119 fun (e121 : Ending) (w122 : World) => ∃ (p123 : Option Addr), ∃ (k124 : Nat), ∃ (k125 :
  Nat), e121 = Ending.returned (Value.slice p123 k124 k125) ∧ ∃ (R126 : List Own), ∃ (Φ127 : PW), Stable Φ127 ∧ Ctx W w122 (R126 ++ R120) Φ127 ∧ ∀ (w128 : World) (R129 : List Own), Ctx W w128
  (R126 ++ R129) Φ127 → Calls Tryd.prog F.errataref28_Equal #[Value.slice p114 k115 k116, Value.slice p123 k124 k125] w128 fun (e130 : Ending) (w131 : World) => ∃ (c132 : Bool), e130 =
  Ending.returned (Value.bool c132) ∧ ∃ (R133 : List Own), ∃ (Φ134 : PW), Stable Φ134 ∧ Ctx W w131 (R133 ++ R129) Φ134 ∧ Br c132 (∀ (w135 : World) (R136 : List Own), Ctx W w135 (R133 ++ R136)
  Φ134 → Calls Tryd.prog F.delta_After #[Value.slice aP aN aC, Value.int IntKind.i64 t] w135 fun (e137 : Ending) (w138 : World) => ∃ (p139 : Option Addr), ∃ (k140 : Nat), ∃ (k141 : Nat), e137
  = Ending.returned (Value.slice p139 k140 k141) ∧ ∃ (R142 : List Own), ∃ (Φ143 : PW), Stable Φ143 ∧ Ctx W w138 (R142 ++ R136) Φ143 ∧ ∀ (w144 : World) (R145 : List Own), Ctx W w144 (R142 ++
  R145) Φ143 → Calls Tryd.prog F.errataref28_After #[Value.slice aP aN aC, Value.int IntKind.i64 t] w144 fun (e146 : Ending) (w147 : World) => ∃ (p148 : Option Addr), ∃ (k149 : Nat), ∃ (k150
  : Nat), e146 = Ending.returned (Value.slice p148 k149 k150) ∧ ∃ (R151 : List Own), ∃ (Φ152 : PW), Stable Φ152 ∧ Ctx W w147 (R151 ++ R145) Φ152 ∧ ∀ (w153 : World) (R154 : List Own), Ctx W
  w153 (R151 ++ R154) Φ152 → Calls Tryd.prog F.errataref28_Equal #[Value.slice p139 k140 k141, Value.slice p148 k149 k150] w153 fun (e155 : Ending) (w156 : World) => ∃ (c157 : Bool), e155 =
  Ending.returned (Value.bool c157) ∧ ∃ (R158 : List Own), ∃ (Φ159 : PW), Stable Φ159 ∧ Ctx W w156 (R158 ++ R154) Φ159 ∧ ∀ (w160 : World) (R161 : List Own), Ctx W w160 (R158 ++ R161) Φ159 →
  Calls Tryd.prog F.delta_Consolidated #[Value.slice aP aN aC] w160 fun (e162 : Ending) (w163 : World) => ∃ (c164 : Bool), e162 = Ending.returned (Value.bool c164) ∧ ∃ (R165 : List Own), ∃
  (Φ166 : PW), Stable Φ166 ∧ Ctx W w163 (R165 ++ R161) Φ166 ∧ ∀ (w167 : World) (R168 : List Own), Ctx W w167 (R165 ++ R168) Φ166 → Calls Tryd.prog F.errataref28_Consolidated #[Value.slice aP
  aN aC] w167 fun (e169 : Ending) (w170 : World) => ∃ (c171 : Bool), e169 = Ending.returned (Value.bool c171) ∧ ∃ (R172 : List Own), ∃ (Φ173 : PW), Stable Φ173 ∧ Ctx W w170 (R172 ++ R168)
  Φ173 ∧ Br (c164 == c171) (∀ (w174 : World) (R175 : List Own), Ctx W w174 (R172 ++ R175) Φ173 → Calls Tryd.prog F.delta_Find #[Value.slice aP aN aC, Value.int IntKind.i64 t, Value.slice rowP
  rowN rowC] w174 fun (e176 : Ending) (w177 : World) => ∃ (n178 : Int), e176 = Ending.returned (Value.int IntKind.i64 n178) ∧ ∃ (R179 : List Own), ∃ (Φ180 : PW), Stable Φ180 ∧ Ctx W w177
  (R179 ++ R175) Φ180 ∧ ∀ (w181 : World) (R182 : List Own), Ctx W w181 (R179 ++ R182) Φ180 → Calls Tryd.prog F.errataref28_Find #[Value.slice aP aN aC, Value.int IntKind.i64 t, Value.slice
  rowP rowN rowC] w181 fun (e183 : Ending) (w184 : World) => ∃ (n185 : Int), e183 = Ending.returned (Value.int IntKind.i64 n185) ∧ ∃ (R186 : List Own), ∃ (Φ187 : PW), Stable Φ187 ∧ Ctx W w184
  (R186 ++ R182) Φ187 ∧ Br (decide (n178 = n185)) (∀ (w188 : World) (R189 : List Own), Ctx W w188 (R186 ++ R189) Φ187 → Calls Tryd.prog F.delta_Multiset #[Value.slice aP aN aC] w188 fun (e190
  : Ending) (w191 : World) => ∃ (c192 : Bool), e190 = Ending.returned (Value.bool c192) ∧ ∃ (R193 : List Own), ∃ (Φ194 : PW), Stable Φ194 ∧ Ctx W w191 (R193 ++ R189) Φ194 ∧ ∀ (w195 : World)
  (R196 : List Own), Ctx W w195 (R193 ++ R196) Φ194 → Calls Tryd.prog F.errataref28_Multiset #[Value.slice aP aN aC] w195 fun (e197 : Ending) (w198 : World) => ∃ (c199 : Bool), e197 =
  Ending.returned (Value.bool c199) ∧ ∃ (R200 : List Own), ∃ (Φ201 : PW), Stable Φ201 ∧ Ctx W w198 (R200 ++ R196) Φ201 ∧ Br (c192 == c199) (∀ (w202 : World) (R203 : List Own), Ctx W w202
  (R200 ++ R203) Φ201 → Calls Tryd.prog F.delta_Count #[Value.slice aP aN aC] w202 fun (e204 : Ending) (w205 : World) => ∃ (n206 : Int), e204 = Ending.returned (Value.int IntKind.i64 n206) ∧
  ∃ (R207 : List Own), ∃ (Φ208 : PW), Stable Φ208 ∧ Ctx W w205 (R207 ++ R203) Φ208 ∧ ∀ (w209 : World) (R210 : List Own), Ctx W w209 (R207 ++ R210) Φ208 → Calls Tryd.prog F.errataref28_Count
  #[Value.slice aP aN aC] w209 fun (e211 : Ending) (w212 : World) => ∃ (n213 : Int), e211 = Ending.returned (Value.int IntKind.i64 n213) ∧ ∃ (R214 : List Own), ∃ (Φ215 : PW), Stable Φ215 ∧
  Ctx W w212 (R214 ++ R210) Φ215 ∧ Br (decide (n206 = n213)) (∀ (w216 : World) (R217 : List Own), Ctx W w216 (R214 ++ R217) Φ215 → Calls Tryd.prog F.delta_Times #[Value.slice aP aN aC] w216
  fun (e218 : Ending) (w219 : World) => ∃ (p220 : Option Addr), ∃ (k221 : Nat), ∃ (k222 : Nat), e218 = Ending.returned (Value.slice p220 k221 k222) ∧ ∃ (R223 : List Own), ∃ (Φ224 : PW),
  Stable Φ224 ∧ Ctx W w219 (R223 ++ R217) Φ224 ∧ ∀ (w225 : World) (R226 : List Own), Ctx W w225 (R223 ++ R226) Φ224 → Calls Tryd.prog F.errataref28_Times #[Value.slice aP aN aC] w225 fun
  (e227 : Ending) (w228 : World) => ∃ (p229 : Option Addr), ∃ (k230 : Nat), ∃ (k231 : Nat), e227 = Ending.returned (Value.slice p229 k230 k231) ∧ ∃ (R232 : List Own), ∃ (Φ233 : PW), Stable
  Φ233 ∧ Ctx W w228 (R232 ++ R226) Φ233 ∧ ∀ (w234 : World) (R235 : List Own), Ctx W w234 (R232 ++ R235) Φ233 → Calls Tryd.prog F.erratalaw28_ints #[Value.slice p220 k221 k222, Value.slice
  p229 k230 k231] w234 fun (e236 : Ending) (w237 : World) => ∃ (c238 : Bool), e236 = Ending.returned (Value.bool c238) ∧ ∃ (R239 : List Own), ∃ (Φ240 : PW), Stable Φ240 ∧ Ctx W w237 (R239 ++
  R235) Φ240 ∧ Br c4 (Br c157 (Br c238 (∀ (w241 : World) (R242 : List Own), Ctx W w241 (R239 ++ R242) Φ240 → Calls Tryd.prog F.delta_Same #[Value.slice aP aN aC, Value.slice bP bN bC] w241
  fun (e243 : Ending) (w244 : World) => ∃ (c245 : Bool), e243 = Ending.returned (Value.bool c245) ∧ ∃ (R246 : List Own), ∃ (Φ247 : PW), Stable Φ247 ∧ Ctx W w244 (R246 ++ R242) Φ247 ∧ ∀ (w248
  : World) (R249 : List Own), Ctx W w248 (R246 ++ R249) Φ247 → Calls Tryd.prog F.errataref28_Same #[Value.slice aP aN aC, Value.slice bP bN bC] w248 fun (e250 : Ending) (w251 : World) => ∃
  (c252 : Bool), e250 = Ending.returned (Value.bool c252) ∧ ∃ (R253 : List Own), ∃ (Φ254 : PW), Stable Φ254 ∧ Ctx W w251 (R253 ++ R249) Φ254 ∧ Br (c245 == c252) (∀ (w255 : World) (R256 : List
  Own), Ctx W w255 (R253 ++ R256) Φ254 → Calls Tryd.prog F.delta_Bytes #[Value.slice aP aN aC] w255 fun (e257 : Ending) (w258 : World) => ∃ (s259 : ByteArray), e257 = Ending.returned
  (Value.string s259) ∧ ∃ (R260 : List Own), ∃ (Φ261 : PW), Stable Φ261 ∧ Ctx W w258 (R260 ++ R256) Φ261 ∧ ∀ (w262 : World) (R263 : List Own), Ctx W w262 (R260 ++ R263) Φ261 → Calls Tryd.prog
  F.errataref28_Bytes #[Value.slice aP aN aC] w262 fun (e264 : Ending) (w265 : World) => ∃ (s266 : ByteArray), e264 = Ending.returned (Value.string s266) ∧ ∃ (R267 : List Own), ∃ (Φ268 : PW),
  Stable Φ268 ∧ Ctx W w265 (R267 ++ R263) Φ268 ∧ ∀ (w269 : World) (R270 : List Own), Ctx W w269 (R267 ++ R270) Φ268 → J (Value.bool (decide (s259 = s266))) w269) (∀ (w271 : World) (R272 :
  List Own), Ctx W w271 (R253 ++ R272) Φ254 → J (Value.bool false) w271)) (∀ (w273 : World) (R274 : List Own), Ctx W w273 (R239 ++ R274) Φ240 → J (Value.bool false) w273)) (∀ (w275 : World)
  (R276 : List Own), Ctx W w275 (R239 ++ R276) Φ240 → J (Value.bool false) w275)) (∀ (w277 : World) (R278 : List Own), Ctx W w277 (R239 ++ R278) Φ240 → J (Value.bool false) w277)) (Br c4 (Br
  c157 (∀ (w279 : World) (R280 : List Own), Ctx W w279 (R214 ++ R280) Φ215 → J (Value.bool false) w279) (∀ (w281 : World) (R282 : List Own), Ctx W w281 (R214 ++ R282) Φ215 → J (Value.bool
  false) w281)) (∀ (w283 : World) (R284 : List Own), Ctx W w283 (R214 ++ R284) Φ215 → J (Value.bool false) w283))) (Br c4 (Br c157 (∀ (w285 : World) (R286 : List Own), Ctx W w285 (R200 ++
  R286) Φ201 → J (Value.bool false) w285) (∀ (w287 : World) (R288 : List Own), Ctx W w287 (R200 ++ R288) Φ201 → J (Value.bool false) w287)) (∀ (w289 : World) (R290 : List Own), Ctx W w289
  (R200 ++ R290) Φ201 → J (Value.bool false) w289))) (Br c4 (Br c157 (∀ (w291 : World) (R292 : List Own), Ctx W w291 (R186 ++ R292) Φ187 → J (Value.bool false) w291) (∀ (w293 : World) (R294 :
  List Own), Ctx W w293 (R186 ++ R294) Φ187 → J (Value.bool false) w293)) (∀ (w295 : World) (R296 : List Own), Ctx W w295 (R186 ++ R296) Φ187 → J (Value.bool false) w295))) (Br c4 (Br c157 (∀
  (w297 : World) (R298 : List Own), Ctx W w297 (R172 ++ R298) Φ173 → J (Value.bool false) w297) (∀ (w299 : World) (R300 : List Own), Ctx W w299 (R172 ++ R300) Φ173 → J (Value.bool false)
  w299)) (∀ (w301 : World) (R302 : List Own), Ctx W w301 (R172 ++ R302) Φ173 → J (Value.bool false) w301))) (∀ (w303 : World) (R304 : List Own), Ctx W w303 (R133 ++ R304) Φ134 → Calls
  Tryd.prog F.delta_Consolidated #[Value.slice aP aN aC] w303 fun (e305 : Ending) (w306 : World) => ∃ (c307 : Bool), e305 = Ending.returned (Value.bool c307) ∧ ∃ (R308 : List Own), ∃ (Φ309 :
  PW), Stable Φ309 ∧ Ctx W w306 (R308 ++ R304) Φ309 ∧ ∀ (w310 : World) (R311 : List Own), Ctx W w310 (R308 ++ R311) Φ309 → Calls Tryd.prog F.errataref28_Consolidated #[Value.slice aP aN aC]
  w310 fun (e312 : Ending) (w313 : World) => ∃ (c314 : Bool), e312 = Ending.returned (Value.bool c314) ∧ ∃ (R315 : List Own), ∃ (Φ316 : PW), Stable Φ316 ∧ Ctx W w313 (R315 ++ R311) Φ316 ∧ Br
  (c307 == c314) (∀ (w317 : World) (R318 : List Own), Ctx W w317 (R315 ++ R318) Φ316 → Calls Tryd.prog F.delta_Find #[Value.slice aP aN aC, Value.int IntKind.i64 t, Value.slice rowP rowN
  rowC] w317 fun (e319 : Ending) (w320 : World) => ∃ (n321 : Int), e319 = Ending.returned (Value.int IntKind.i64 n321) ∧ ∃ (R322 : List Own), ∃ (Φ323 : PW), Stable Φ323 ∧ Ctx W w320 (R322 ++
  R318) Φ323 ∧ ∀ (w324 : World) (R325 : List Own), Ctx W w324 (R322 ++ R325) Φ323 → Calls Tryd.prog F.errataref28_Find #[Value.slice aP aN aC, Value.int IntKind.i64 t, Value.slice rowP rowN
  rowC] w324 fun (e326 : Ending) (w327 : World) => ∃ (n328 : Int), e326 = Ending.returned (Value.int IntKind.i64 n328) ∧ ∃ (R329 : List Own), ∃ (Φ330 : PW), Stable Φ330 ∧ Ctx W w327 (R329 ++
  R325) Φ330 ∧ Br (decide (n321 = n328)) (∀ (w331 : World) (R332 : List Own), Ctx W w331 (R329 ++ R332) Φ330 → Calls Tryd.prog F.delta_Multiset #[Value.slice aP aN aC] w331 fun (e333 :
  Ending) (w334 : World) => ∃ (c335 : Bool), e333 = Ending.returned (Value.bool c335) ∧ ∃ (R336 : List Own), ∃ (Φ337 : PW), Stable Φ337 ∧ Ctx W w334 (R336 ++ R332) Φ337 ∧ ∀ (w338 : World)
  (R339 : List Own), Ctx W w338 (R336 ++ R339) Φ337 → Calls Tryd.prog F.errataref28_Multiset #[Value.slice aP aN aC] w338 fun (e340 : Ending) (w341 : World) => ∃ (c342 : Bool), e340 =
  Ending.returned (Value.bool c342) ∧ ∃ (R343 : List Own), ∃ (Φ344 : PW), Stable Φ344 ∧ Ctx W w341 (R343 ++ R339) Φ344 ∧ Br (c335 == c342) (∀ (w345 : World) (R346 : List Own), Ctx W w345
  (R343 ++ R346) Φ344 → Calls Tryd.prog F.delta_Count #[Value.slice aP aN aC] w345 fun (e347 : Ending) (w348 : World) => ∃ (n349 : Int), e347 = Ending.returned (Value.int IntKind.i64 n349) ∧
  ∃ (R350 : List Own), ∃ (Φ351 : PW), Stable Φ351 ∧ Ctx W w348 (R350 ++ R346) Φ351 ∧ ∀ (w352 : World) (R353 : List Own), Ctx W w352 (R350 ++ R353) Φ351 → Calls Tryd.prog F.errataref28_Count
  #[Value.slice aP aN aC] w352 fun (e354 : Ending) (w355 : World) => ∃ (n356 : Int), e354 = Ending.returned (Value.int IntKind.i64 n356) ∧ ∃ (R357 : List Own), ∃ (Φ358 : PW), Stable Φ358 ∧
  Ctx W w355 (R357 ++ R353) Φ358 ∧ Br (decide (n349 = n356)) (∀ (w359 : World) (R360 : List Own), Ctx W w359 (R357 ++ R360) Φ358 → Calls Tryd.prog F.delta_Times #[Value.slice aP aN aC] w359
  fun (e361 : Ending) (w362 : World) => ∃ (p363 : Option Addr), ∃ (k364 : Nat), ∃ (k365 : Nat), e361 = Ending.returned (Value.slice p363 k364 k365) ∧ ∃ (R366 : List Own), ∃ (Φ367 : PW),
  Stable Φ367 ∧ Ctx W w362 (R366 ++ R360) Φ367 ∧ ∀ (w368 : World) (R369 : List Own), Ctx W w368 (R366 ++ R369) Φ367 → Calls Tryd.prog F.errataref28_Times #[Value.slice aP aN aC] w368 fun
  (e370 : Ending) (w371 : World) => ∃ (p372 : Option Addr), ∃ (k373 : Nat), ∃ (k374 : Nat), e370 = Ending.returned (Value.slice p372 k373 k374) ∧ ∃ (R375 : List Own), ∃ (Φ376 : PW), Stable
  Φ376 ∧ Ctx W w371 (R375 ++ R369) Φ376 ∧ ∀ (w377 : World) (R378 : List Own), Ctx W w377 (R375 ++ R378) Φ376 → Calls Tryd.prog F.erratalaw28_ints #[Value.slice p363 k364 k365, Value.slice
  p372 k373 k374] w377 fun (e379 : Ending) (w380 : World) => ∃ (c381 : Bool), e379 = Ending.returned (Value.bool c381) ∧ ∃ (R382 : List Own), ∃ (Φ383 : PW), Stable Φ383 ∧ Ctx W w380 (R382 ++
  R378) Φ383 ∧ Br c4 (∀ (w384 : World) (R385 : List Own), Ctx W w384 (R382 ++ R385) Φ383 → J (Value.bool false) w384) (∀ (w386 : World) (R387 : List Own), Ctx W w386 (R382 ++ R387) Φ383 → J
  (Value.bool false) w386)) (Br c4 (∀ (w388 : World) (R389 : List Own), Ctx W w388 (R357 ++ R389) Φ358 → J (Value.bool false) w388) (∀ (w390 : World) (R391 : List Own), Ctx W w390 (R357 ++
  R391) Φ358 → J (Value.bool false) w390))) (Br c4 (∀ (w392 : World) (R393 : List Own), Ctx W w392 (R343 ++ R393) Φ344 → J (Value.bool false) w392) (∀ (w394 : World) (R395 : List Own), Ctx W
  w394 (R343 ++ R395) Φ344 → J (Value.bool false) w394))) (Br c4 (∀ (w396 : World) (R397 : List Own), Ctx W w396 (R329 ++ R397) Φ330 → J (Value.bool false) w396) (∀ (w398 : World) (R399 :
  List Own), Ctx W w398 (R329 ++ R399) Φ330 → J (Value.bool false) w398))) (Br c4 (∀ (w400 : World) (R401 : List Own), Ctx W w400 (R315 ++ R401) Φ316 → J (Value.bool false) w400) (∀ (w402 :
  World) (R403 : List Own), Ctx W w402 (R315 ++ R403) Φ316 → J (Value.bool false) w402)))) (∀ (w404 : World) (R405 : List Own), Ctx W w404 (R108 ++ R405) Φ109 → Calls Tryd.prog
  F.delta_Consolidated #[Value.slice aP aN aC] w404 fun (e406 : Ending) (w407 : World) => ∃ (c408 : Bool), e406 = Ending.returned (Value.bool c408) ∧ ∃ (R409 : List Own), ∃ (Φ410 : PW),
  Stable Φ410 ∧ Ctx W w407 (R409 ++ R405) Φ410 ∧ ∀ (w411 : World) (R412 : List Own), Ctx W w411 (R409 ++ R412) Φ410 → Calls Tryd.prog F.errataref28_Consolidated #[Value.slice aP aN aC] w411
  fun (e413 : Ending) (w414 : World) => ∃ (c415 : Bool), e413 = Ending.returned (Value.bool c415) ∧ ∃ (R416 : List Own), ∃ (Φ417 : PW), Stable Φ417 ∧ Ctx W w414 (R416 ++ R412) Φ417 ∧ Br (c408
  == c415) (∀ (w418 : World) (R419 : List Own), Ctx W w418 (R416 ++ R419) Φ417 → Calls Tryd.prog F.delta_Find #[Value.slice aP aN aC, Value.int IntKind.i64 t, Value.slice rowP rowN rowC] w418
  fun (e420 : Ending) (w421 : World) => ∃ (n422 : Int), e420 = Ending.returned (Value.int IntKind.i64 n422) ∧ ∃ (R423 : List Own), ∃ (Φ424 : PW), Stable Φ424 ∧ Ctx W w421 (R423 ++ R419) Φ424
  ∧ ∀ (w425 : World) (R426 : List Own), Ctx W w425 (R423 ++ R426) Φ424 → Calls Tryd.prog F.errataref28_Find #[Value.slice aP aN aC, Value.int IntKind.i64 t, Value.slice rowP rowN rowC] w425
  fun (e427 : Ending) (w428 : World) => ∃ (n429 : Int), e427 = Ending.returned (Value.int IntKind.i64 n429) ∧ ∃ (R430 : List Own), ∃ (Φ431 : PW), Stable Φ431 ∧ Ctx W w428 (R430 ++ R426) Φ431
  ∧ Br (decide (n422 = n429)) (∀ (w432 : World) (R433 : List Own), Ctx W w432 (R430 ++ R433) Φ431 → Calls Tryd.prog F.delta_Multiset #[Value.slice aP aN aC] w432 fun (e434 : Ending) (w435 :
  World) => ∃ (c436 : Bool), e434 = Ending.returned (Value.bool c436) ∧ ∃ (R437 : List Own), ∃ (Φ438 : PW), Stable Φ438 ∧ Ctx W w435 (R437 ++ R433) Φ438 ∧ ∀ (w439 : World) (R440 : List Own),
  Ctx W w439 (R437 ++ R440) Φ438 → Calls Tryd.prog F.errataref28_Multiset #[Value.slice aP aN aC] w439 fun (e441 : Ending) (w442 : World) => ∃ (c443 : Bool), e441 = Ending.returned
  (Value.bool c443) ∧ ∃ (R444 : List Own), ∃ (Φ445 : PW), Stable Φ445 ∧ Ctx W w442 (R444 ++ R440) Φ445 ∧ Br (c436 == c443) (∀ (w446 : World) (R447 : List Own), Ctx W w446 (R444 ++ R447) Φ445
  → Calls Tryd.prog F.delta_Count #[Value.slice aP aN aC] w446 fun (e448 : Ending) (w449 : World) => ∃ (n450 : Int), e448 = Ending.returned (Value.int IntKind.i64 n450) ∧ ∃ (R451 : List Own),
  ∃ (Φ452 : PW), Stable Φ452 ∧ Ctx W w449 (R451 ++ R447) Φ452 ∧ ∀ (w453 : World) (R454 : List Own), Ctx W w453 (R451 ++ R454) Φ452 → Calls Tryd.prog F.errataref28_Count #[Value.slice aP aN
  aC] w453 fun (e455 : Ending) (w456 : World) => ∃ (n457 : Int), e455 = Ending.returned (Value.int IntKind.i64 n457) ∧ ∃ (R458 : List Own), ∃ (Φ459 : PW), Stable Φ459 ∧ Ctx W w456 (R458 ++
  R454) Φ459 ∧ Br (decide (n450 = n457)) (∀ (w460 : World) (R461 : List Own), Ctx W w460 (R458 ++ R461) Φ459 → Calls Tryd.prog F.delta_Times #[Value.slice aP aN aC] w460 fun (e462 : Ending)
  (w463 : World) => ∃ (p464 : Option Addr), ∃ (k465 : Nat), ∃ (k466 : Nat), e462 = Ending.returned (Value.slice p464 k465 k466) ∧ ∃ (R467 : List Own), ∃ (Φ468 : PW), Stable Φ468 ∧ Ctx W w463
  (R467 ++ R461) Φ468 ∧ ∀ (w469 : World) (R470 : List Own), Ctx W w469 (R467 ++ R470) Φ468 → Calls Tryd.prog F.errataref28_Times #[Value.slice aP aN aC] w469 fun (e471 : Ending) (w472 :
  World) => ∃ (p473 : Option Addr), ∃ (k474 : Nat), ∃ (k475 : Nat), e471 = Ending.returned (Value.slice p473 k474 k475) ∧ ∃ (R476 : List Own), ∃ (Φ477 : PW), Stable Φ477 ∧ Ctx W w472 (R476 ++
  R470) Φ477 ∧ ∀ (w478 : World) (R479 : List Own), Ctx W w478 (R476 ++ R479) Φ477 → Calls Tryd.prog F.erratalaw28_ints #[Value.slice p464 k465 k466, Value.slice p473 k474 k475] w478 fun (e480
  : Ending) (w481 : World) => ∃ (c482 : Bool), e480 = Ending.returned (Value.bool c482) ∧ ∃ (R483 : List Own), ∃ (Φ484 : PW), Stable Φ484 ∧ Ctx W w481 (R483 ++ R479) Φ484 ∧ Br c4 (∀ (w485 :
  World) (R486 : List Own), Ctx W w485 (R483 ++ R486) Φ484 → J (Value.bool false) w485) (∀ (w487 : World) (R488 : List Own), Ctx W w487 (R483 ++ R488) Φ484 → J (Value.bool false) w487)) (Br
  c4 (∀ (w489 : World) (R490 : List Own), Ctx W w489 (R458 ++ R490) Φ459 → J (Value.bool false) w489) (∀ (w491 : World) (R492 : List Own), Ctx W w491 (R458 ++ R492) Φ459 → J (Value.bool
  false) w491))) (Br c4 (∀ (w493 : World) (R494 : List Own), Ctx W w493 (R444 ++ R494) Φ445 → J (Value.bool false) w493) (∀ (w495 : World) (R496 : List Own), Ctx W w495 (R444 ++ R496) Φ445 →
  J (Value.bool false) w495))) (Br c4 (∀ (w497 : World) (R498 : List Own), Ctx W w497 (R430 ++ R498) Φ431 → J (Value.bool false) w497) (∀ (w499 : World) (R500 : List Own), Ctx W w499 (R430 ++
  R500) Φ431 → J (Value.bool false) w499))) (Br c4 (∀ (w501 : World) (R502 : List Own), Ctx W w501 (R416 ++ R502) Φ417 → J (Value.bool false) w501) (∀ (w503 : World) (R504 : List Own), Ctx W
  w503 (R416 ++ R504) Φ417 → J (Value.bool false) w503)))) (∀ (w505 : World) (R506 : List Own), Ctx W w505 (R83 ++ R506) Φ84 → Calls Tryd.prog F.delta_Consolidated #[Value.slice aP aN aC]
  w505 fun (e507 : Ending) (w508 : World) => ∃ (c509 : Bool), e507 = Ending.returned (Value.bool c509) ∧ ∃ (R510 : List Own), ∃ (Φ511 : PW), Stable Φ511 ∧ Ctx W w508 (R510 ++ R506) Φ511 ∧ ∀
  (w512 : World) (R513 : List Own), Ctx W w512 (R510 ++ R513) Φ511 → Calls Tryd.prog F.errataref28_Consolidated #[Value.slice aP aN aC] w512 fun (e514 : Ending) (w515 : World) => ∃ (c516 :
  Bool), e514 = Ending.returned (Value.bool c516) ∧ ∃ (R517 : List Own), ∃ (Φ518 : PW), Stable Φ518 ∧ Ctx W w515 (R517 ++ R513) Φ518 ∧ Br (c509 == c516) (∀ (w519 : World) (R520 : List Own),
  Ctx W w519 (R517 ++ R520) Φ518 → Calls Tryd.prog F.delta_Find #[Value.slice aP aN aC, Value.int IntKind.i64 t, Value.slice rowP rowN rowC] w519 fun (e521 : Ending) (w522 : World) => ∃ (n523
  : Int), e521 = Ending.returned (Value.int IntKind.i64 n523) ∧ ∃ (R524 : List Own), ∃ (Φ525 : PW), Stable Φ525 ∧ Ctx W w522 (R524 ++ R520) Φ525 ∧ ∀ (w526 : World) (R527 : List Own), Ctx W
  w526 (R524 ++ R527) Φ525 → Calls Tryd.prog F.errataref28_Find #[Value.slice aP aN aC, Value.int IntKind.i64 t, Value.slice rowP rowN rowC] w526 fun (e528 : Ending) (w529 : World) => ∃ (n530
  : Int), e528 = Ending.returned (Value.int IntKind.i64 n530) ∧ ∃ (R531 : List Own), ∃ (Φ532 : PW), Stable Φ532 ∧ Ctx W w529 (R531 ++ R527) Φ532 ∧ Br (decide (n523 = n530)) (∀ (w533 : World)
  (R534 : List Own), Ctx W w533 (R531 ++ R534) Φ532 → Calls Tryd.prog F.delta_Multiset #[Value.slice aP aN aC] w533 fun (e535 : Ending) (w536 : World) => ∃ (c537 : Bool), e535 =
  Ending.returned (Value.bool c537) ∧ ∃ (R538 : List Own), ∃ (Φ539 : PW), Stable Φ539 ∧ Ctx W w536 (R538 ++ R534) Φ539 ∧ ∀ (w540 : World) (R541 : List Own), Ctx W w540 (R538 ++ R541) Φ539 →
  Calls Tryd.prog F.errataref28_Multiset #[Value.slice aP aN aC] w540 fun (e542 : Ending) (w543 : World) => ∃ (c544 : Bool), e542 = Ending.returned (Value.bool c544) ∧ ∃ (R545 : List Own), ∃
  (Φ546 : PW), Stable Φ546 ∧ Ctx W w543 (R545 ++ R541) Φ546 ∧ Br (c537 == c544) (∀ (w547 : World) (R548 : List Own), Ctx W w547 (R545 ++ R548) Φ546 → Calls Tryd.prog F.delta_Count
  #[Value.slice aP aN aC] w547 fun (e549 : Ending) (w550 : World) => ∃ (n551 : Int), e549 = Ending.returned (Value.int IntKind.i64 n551) ∧ ∃ (R552 : List Own), ∃ (Φ553 : PW), Stable Φ553 ∧
  Ctx W w550 (R552 ++ R548) Φ553 ∧ ∀ (w554 : World) (R555 : List Own), Ctx W w554 (R552 ++ R555) Φ553 → Calls Tryd.prog F.errataref28_Count #[Value.slice aP aN aC] w554 fun (e556 : Ending)
  (w557 : World) => ∃ (n558 : Int), e556 = Ending.returned (Value.int IntKind.i64 n558) ∧ ∃ (R559 : List Own), ∃ (Φ560 : PW), Stable Φ560 ∧ Ctx W w557 (R559 ++ R555) Φ560 ∧ Br (decide (n551 =
  n558)) (∀ (w561 : World) (R562 : List Own), Ctx W w561 (R559 ++ R562) Φ560 → Calls Tryd.prog F.delta_Times #[Value.slice aP aN aC] w561 fun (e563 : Ending) (w564 : World) => ∃ (p565 :
  Option Addr), ∃ (k566 : Nat), ∃ (k567 : Nat), e563 = Ending.returned (Value.slice p565 k566 k567) ∧ ∃ (R568 : List Own), ∃ (Φ569 : PW), Stable Φ569 ∧ Ctx W w564 (R568 ++ R562) Φ569 ∧ ∀
  (w570 : World) (R571 : List Own), Ctx W w570 (R568 ++ R571) Φ569 → Calls Tryd.prog F.errataref28_Times #[Value.slice aP aN aC] w570 fun (e572 : Ending) (w573 : World) => ∃ (p574 : Option
  Addr), ∃ (k575 : Nat), ∃ (k576 : Nat), e572 = Ending.returned (Value.slice p574 k575 k576) ∧ ∃ (R577 : List Own), ∃ (Φ578 : PW), Stable Φ578 ∧ Ctx W w573 (R577 ++ R571) Φ578 ∧ ∀ (w579 :
  World) (R580 : List Own), Ctx W w579 (R577 ++ R580) Φ578 → Calls Tryd.prog F.erratalaw28_ints #[Value.slice p565 k566 k567, Value.slice p574 k575 k576] w579 fun (e581 : Ending) (w582 :
  World) => ∃ (c583 : Bool), e581 = Ending.returned (Value.bool c583) ∧ ∃ (R584 : List Own), ∃ (Φ585 : PW), Stable Φ585 ∧ Ctx W w582 (R584 ++ R580) Φ585 ∧ Br c4 (∀ (w586 : World) (R587 : List
  Own), Ctx W w586 (R584 ++ R587) Φ585 → J (Value.bool false) w586) (∀ (w588 : World) (R589 : List Own), Ctx W w588 (R584 ++ R589) Φ585 → J (Value.bool false) w588)) (Br c4 (∀ (w590 : World)
  (R591 : List Own), Ctx W w590 (R559 ++ R591) Φ560 → J (Value.bool false) w590) (∀ (w592 : World) (R593 : List Own), Ctx W w592 (R559 ++ R593) Φ560 → J (Value.bool false) w592))) (Br c4 (∀
  (w594 : World) (R595 : List Own), Ctx W w594 (R545 ++ R595) Φ546 → J (Value.bool false) w594) (∀ (w596 : World) (R597 : List Own), Ctx W w596 (R545 ++ R597) Φ546 → J (Value.bool false)
  w596))) (Br c4 (∀ (w598 : World) (R599 : List Own), Ctx W w598 (R531 ++ R599) Φ532 → J (Value.bool false) w598) (∀ (w600 : World) (R601 : List Own), Ctx W w600 (R531 ++ R601) Φ532 → J
  (Value.bool false) w600))) (Br c4 (∀ (w602 : World) (R603 : List Own), Ctx W w602 (R517 ++ R603) Φ518 → J (Value.bool false) w602) (∀ (w604 : World) (R605 : List Own), Ctx W w604 (R517 ++
  R605) Φ518 → J (Value.bool false) w604)))) (∀ (w606 : World) (R607 : List Own), Ctx W w606 (R58 ++ R607) Φ59 → Calls Tryd.prog F.delta_Consolidated #[Value.slice aP aN aC] w606 fun (e608 :
  Ending) (w609 : World) => ∃ (c610 : Bool), e608 = Ending.returned (Value.bool c610) ∧ ∃ (R611 : List Own), ∃ (Φ612 : PW), Stable Φ612 ∧ Ctx W w609 (R611 ++ R607) Φ612 ∧ ∀ (w613 : World)
  (R614 : List Own), Ctx W w613 (R611 ++ R614) Φ612 → Calls Tryd.prog F.errataref28_Consolidated #[Value.slice aP aN aC] w613 fun (e615 : Ending) (w616 : World) => ∃ (c617 : Bool), e615 =
  Ending.returned (Value.bool c617) ∧ ∃ (R618 : List Own), ∃ (Φ619 : PW), Stable Φ619 ∧ Ctx W w616 (R618 ++ R614) Φ619 ∧ Br (c610 == c617) (∀ (w620 : World) (R621 : List Own), Ctx W w620
  (R618 ++ R621) Φ619 → Calls Tryd.prog F.delta_Find #[Value.slice aP aN aC, Value.int IntKind.i64 t, Value.slice rowP rowN rowC] w620 fun (e622 : Ending) (w623 : World) => ∃ (n624 : Int),
  e622 = Ending.returned (Value.int IntKind.i64 n624) ∧ ∃ (R625 : List Own), ∃ (Φ626 : PW), Stable Φ626 ∧ Ctx W w623 (R625 ++ R621) Φ626 ∧ ∀ (w627 : World) (R628 : List Own), Ctx W w627 (R625
  ++ R628) Φ626 → Calls Tryd.prog F.errataref28_Find #[Value.slice aP aN aC, Value.int IntKind.i64 t, Value.slice rowP rowN rowC] w627 fun (e629 : Ending) (w630 : World) => ∃ (n631 : Int),
  e629 = Ending.returned (Value.int IntKind.i64 n631) ∧ ∃ (R632 : List Own), ∃ (Φ633 : PW), Stable Φ633 ∧ Ctx W w630 (R632 ++ R628) Φ633 ∧ Br (decide (n624 = n631)) (∀ (w634 : World) (R635 :
  List Own), Ctx W w634 (R632 ++ R635) Φ633 → Calls Tryd.prog F.delta_Multiset #[Value.slice aP aN aC] w634 fun (e636 : Ending) (w637 : World) => ∃ (c638 : Bool), e636 = Ending.returned
  (Value.bool c638) ∧ ∃ (R639 : List Own), ∃ (Φ640 : PW), Stable Φ640 ∧ Ctx W w637 (R639 ++ R635) Φ640 ∧ ∀ (w641 : World) (R642 : List Own), Ctx W w641 (R639 ++ R642) Φ640 → Calls Tryd.prog
  F.errataref28_Multiset #[Value.slice aP aN aC] w641 fun (e643 : Ending) (w644 : World) => ∃ (c645 : Bool), e643 = Ending.returned (Value.bool c645) ∧ ∃ (R646 : List Own), ∃ (Φ647 : PW),
  Stable Φ647 ∧ Ctx W w644 (R646 ++ R642) Φ647 ∧ Br (c638 == c645) (∀ (w648 : World) (R649 : List Own), Ctx W w648 (R646 ++ R649) Φ647 → Calls Tryd.prog F.delta_Count #[Value.slice aP aN aC]
  w648 fun (e650 : Ending) (w651 : World) => ∃ (n652 : Int), e650 = Ending.returned (Value.int IntKind.i64 n652) ∧ ∃ (R653 : List Own), ∃ (Φ654 : PW), Stable Φ654 ∧ Ctx W w651 (R653 ++ R649)
  Φ654 ∧ ∀ (w655 : World) (R656 : List Own), Ctx W w655 (R653 ++ R656) Φ654 → Calls Tryd.prog F.errataref28_Count #[Value.slice aP aN aC] w655 fun (e657 : Ending) (w658 : World) => ∃ (n659 :
  Int), e657 = Ending.returned (Value.int IntKind.i64 n659) ∧ ∃ (R660 : List Own), ∃ (Φ661 : PW), Stable Φ661 ∧ Ctx W w658 (R660 ++ R656) Φ661 ∧ Br (decide (n652 = n659)) (∀ (w662 : World)
  (R663 : List Own), Ctx W w662 (R660 ++ R663) Φ661 → Calls Tryd.prog F.delta_Times #[Value.slice aP aN aC] w662 fun (e664 : Ending) (w665 : World) => ∃ (p666 : Option Addr), ∃ (k667 : Nat),
  ∃ (k668 : Nat), e664 = Ending.returned (Value.slice p666 k667 k668) ∧ ∃ (R669 : List Own), ∃ (Φ670 : PW), Stable Φ670 ∧ Ctx W w665 (R669 ++ R663) Φ670 ∧ ∀ (w671 : World) (R672 : List Own),
  Ctx W w671 (R669 ++ R672) Φ670 → Calls Tryd.prog F.errataref28_Times #[Value.slice aP aN aC] w671 fun (e673 : Ending) (w674 : World) => ∃ (p675 : Option Addr), ∃ (k676 : Nat), ∃ (k677 :
  Nat), e673 = Ending.returned (Value.slice p675 k676 k677) ∧ ∃ (R678 : List Own), ∃ (Φ679 : PW), Stable Φ679 ∧ Ctx W w674 (R678 ++ R672) Φ679 ∧ ∀ (w680 : World) (R681 : List Own), Ctx W w680
  (R678 ++ R681) Φ679 → Calls Tryd.prog F.erratalaw28_ints #[Value.slice p666 k667 k668, Value.slice p675 k676 k677] w680 fun (e682 : Ending) (w683 : World) => ∃ (c684 : Bool), e682 =
  Ending.returned (Value.bool c684) ∧ ∃ (R685 : List Own), ∃ (Φ686 : PW), Stable Φ686 ∧ Ctx W w683 (R685 ++ R681) Φ686 ∧ Br c4 (∀ (w687 : World) (R688 : List Own), Ctx W w687 (R685 ++ R688)
  Φ686 → J (Value.bool false) w687) (∀ (w689 : World) (R690 : List Own), Ctx W w689 (R685 ++ R690) Φ686 → J (Value.bool false) w689)) (Br c4 (∀ (w691 : World) (R692 : List Own), Ctx W w691
  (R660 ++ R692) Φ661 → J (Value.bool false) w691) (∀ (w693 : World) (R694 : List Own), Ctx W w693 (R660 ++ R694) Φ661 → J (Value.bool false) w693))) (Br c4 (∀ (w695 : World) (R696 : List
  Own), Ctx W w695 (R646 ++ R696) Φ647 → J (Value.bool false) w695) (∀ (w697 : World) (R698 : List Own), Ctx W w697 (R646 ++ R698) Φ647 → J (Value.bool false) w697))) (Br c4 (∀ (w699 : World)
  (R700 : List Own), Ctx W w699 (R632 ++ R700) Φ633 → J (Value.bool false) w699) (∀ (w701 : World) (R702 : List Own), Ctx W w701 (R632 ++ R702) Φ633 → J (Value.bool false) w701))) (Br c4 (∀
  (w703 : World) (R704 : List Own), Ctx W w703 (R618 ++ R704) Φ619 → J (Value.bool false) w703) (∀ (w705 : World) (R706 : List Own), Ctx W w705 (R618 ++ R706) Φ619 → J (Value.bool false)
  w705))))))

theorem Berratalaw28_DeltaTells_run (aP : Option Addr) (aN aC : Nat) (bP : Option Addr) (bN bC : Nat) (t : Int) (rowP : Option Addr) (rowN rowC : Nat) {W w : World} {R : List Own} {Φ : PW} [Stable Φ] {J : Value → World → Prop} (c : Ctx W w R Φ) (h : Berratalaw28_DeltaTells aP aN aC bP bN bC t rowP rowN rowC W R Φ J) : Calls Tryd.prog F.erratalaw28_DeltaTells #[.slice aP aN aC, .slice bP bN bC, .int .i64 t, .slice rowP rowN rowC] w fun e w' => ∃ v, e = .returned v ∧ J v w' :=
  vcFS_sound (H := { keep := some [0, 1, 2, 3, 8, 9, 10, 11, 27], split := [2, 4, 5, 6] }) (by rw [show vcFS Tryd.prog W { keep := some [0, 1, 2, 3, 8, 9, 10, 11, 27], split := [2, 4, 5, 6] } F.erratalaw28_DeltaTells #[.slice aP aN aC, .slice bP bN bC, .int .i64 t, .slice rowP rowN rowC] R Φ J = Berratalaw28_DeltaTells aP aN aC bP bN bC t rowP rowN rowC W R Φ J by kernel_rfl]; exact h) c

/-- errataref28.Sub -/
-- loop at region 3: 5 l, 6 i; blocks 
def Berrataref28_Sub (aP : Option Addr) (aN aC : Nat) (bP : Option Addr) (bN bC : Nat) (W : World) (R : List Own) (Φ : PW) (J : Value → World → Prop) : Prop :=
  ∀ (k0 : Nat) (w1 : World) (R2 : List Own), Ctx W w1 (Own.blk k0 [] 39 :: R ++ R2) Φ → ∃ (p3 : Option Addr), ∃ (k4 : Nat), ∃ (k5 : Nat), ∃ (w6 : World), Sem.run Tryd.prog (builtin
  Builtin.append #[22, 22] 22 #[false, false] #[Value.slice (some (Addr.mk k0 0 none)) 0 0, Value.slice aP aN aC]) w1 = Result.ok (Next.value (Value.slice p3 k4 k5)) w6 ∧ ∃ (R7 : List Own), ∃
  (Φ8 : PW), Stable Φ8 ∧ Ctx W w6 (R7 ++ R2) Φ8 ∧ exI fun (I9 : Option Addr → Nat → Nat → Int → List Own → PW → Nat → Prop) => (∃ (R10 : List Own), ∃ (Φ11 : PW), ∃ (k12 : Nat), Stable Φ11 ∧
  (∀ (w13 : World) (R14 : List Own), Ctx W w13 (R7 ++ R14) Φ8 → Ctx W w13 (R10 ++ R14) Φ11) ∧ I9 p3 k4 k5 0 R10 Φ11 k12) ∧ ∀ (p15 : Option Addr) (k16 k17 : Nat) (n18 : Int) (R19 : List Own)
  (I20 : List Nat → World → Prop) (k21 : Nat), Stable I20 → I9 p15 k16 k17 n18 R19 I20 k21 → Br (decide (n18 < (↑bN : Int))) (∃ (R22 : List Own), ∃ (Φ23 : PW), Stable Φ23 ∧ (∀ (w24 : World)
  (R25 : List Own), Ctx W w24 (R19 ++ R25) I20 → Ctx W w24 (R22 ++ R25) Φ23) ∧ (0 ≤ n18 ∧ n18 < (↑bN : Int)) ∧ ptrK none bP fun (k26 k27 : Nat) => (0 ≤ n18 ∧ n18 < (↑bN : Int)) ∧ ptrK none bP
  fun (k28 k29 : Nat) => ∃ (n30 : Int), ∃ (p31 : Option Addr), ∃ (k32 : Nat), ∃ (k33 : Nat), ∃ (n34 : Int), (∀ (w35 : World) (R36 : List Own), Ctx W w35 (R22 ++ R36) Φ23 → ∃ (n37 : Int), ∃
  (p38 : Option Addr), ∃ (k39 : Nat), ∃ (k40 : Nat), ∃ (n41 : Int), RowAt w35 k26 (k27 + n18.toNat * 3) [Value.int IntKind.i64 n37, Value.slice p38 k39 k40, Value.int IntKind.i64 n41] ∧
  Value.agg #[Value.int IntKind.i64 n37, Value.slice p38 k39 k40, Value.int IntKind.i64 n41] = Value.agg #[Value.int IntKind.i64 n30, Value.slice p31 k32 k33, Value.int IntKind.i64 n34]) ∧ ∃
  (n42 : Int), (∀ (w43 : World) (R44 : List Own), Ctx W w43 (R22 ++ R44) Φ23 → ∃ (n45 : Int), w43.cell? (Addr.mk k28 (k29 + n18.toNat * 3 + 2) none) = some (Value.int IntKind.i64 n45) ∧
  Value.int IntKind.i64 n45 = Value.int IntKind.i64 n42) ∧ ∀ (w46 : World) (R47 : List Own), Ctx W w46 (R19 ++ R47) I20 → Calls Tryd.prog F.errataref28_clone #[Value.agg #[Value.int
  IntKind.i64 n30, Value.slice p31 k32 k33, Value.int IntKind.i64 n34], Value.int IntKind.i64 (IntKind.i64.wrap (0 - n42))] w46 fun (e48 : Ending) (w49 : World) => ∃ (n50 : Int), ∃ (p51 :
  Option Addr), ∃ (k52 : Nat), ∃ (k53 : Nat), ∃ (n54 : Int), e48 = Ending.returned (Value.agg #[Value.int IntKind.i64 n50, Value.slice p51 k52 k53, Value.int IntKind.i64 n54]) ∧ ∃ (R55 : List
  Own), ∃ (Φ56 : PW), Stable Φ56 ∧ Ctx W w49 (R55 ++ R47) Φ56 ∧ (∀ (w57 : World) (R58 : List Own), Ctx W w57 (R55 ++ R58) Φ56 → Ctx W w57 (R22 ++ R58) Φ23) ∧ ∀ (k59 : Nat), (∀ (w60 : World)
  (R61 : List Own), Ctx W w60 (Own.blk k59 [Value.int IntKind.i64 n50, Value.slice p51 k52 k53, Value.int IntKind.i64 n54] 39 :: R55 ++ R61) Φ56 → Ctx W w60 (R22 ++ R61) Φ23) ∧ ∀ (w62 :
  World) (R63 : List Own), Ctx W w62 (Own.blk k59 [Value.int IntKind.i64 n50, Value.slice p51 k52 k53, Value.int IntKind.i64 n54] 39 :: R55 ++ R63) Φ56 → ∃ (p64 : Option Addr), ∃ (k65 : Nat),
  ∃ (k66 : Nat), ∃ (w67 : World), Sem.run Tryd.prog (builtin Builtin.append #[22, 22] 22 #[false, false] #[Value.slice p15 k16 k17, Value.slice (some (Addr.mk k59 0 none)) 1 1]) w62 =
  Result.ok (Next.value (Value.slice p64 k65 k66)) w67 ∧ ∃ (R68 : List Own), ∃ (Φ69 : PW), Stable Φ69 ∧ Ctx W w67 (R68 ++ R63) Φ69 ∧ I64 (n18 + 1) ∧ ∃ (R70 : List Own), ∃ (Φ71 : PW), ∃ (k72 :
  Nat), Stable Φ71 ∧ (∀ (w73 : World) (R74 : List Own), Ctx W w73 (R68 ++ R74) Φ69 → Ctx W w73 (R70 ++ R74) Φ71) ∧ I9 p64 k65 k66 (n18 + 1) R70 Φ71 k72 ∧ k72 < k21) (∀ (w75 : World) (R76 :
  List Own), Ctx W w75 (R19 ++ R76) I20 → Calls Tryd.prog F.errataref28_Consolidate #[Value.slice p15 k16 k17] w75 fun (e77 : Ending) (w78 : World) => ∃ (p79 : Option Addr), ∃ (k80 : Nat), ∃
  (k81 : Nat), e77 = Ending.returned (Value.slice p79 k80 k81) ∧ ∃ (R82 : List Own), ∃ (Φ83 : PW), Stable Φ83 ∧ Ctx W w78 (R82 ++ R76) Φ83 ∧ ∀ (w84 : World) (R85 : List Own), Ctx W w84 (R82
  ++ R85) Φ83 → J (Value.slice p79 k80 k81) w84)

theorem Berrataref28_Sub_run (aP : Option Addr) (aN aC : Nat) (bP : Option Addr) (bN bC : Nat) {W w : World} {R : List Own} {Φ : PW} [Stable Φ] {J : Value → World → Prop} (c : Ctx W w R Φ) (h : Berrataref28_Sub aP aN aC bP bN bC W R Φ J) : Calls Tryd.prog F.errataref28_Sub #[.slice aP aN aC, .slice bP bN bC] w fun e w' => ∃ v, e = .returned v ∧ J v w' :=
  vcFS_sound (H := { keep := some [0, 1, 4, 5, 6, 13], wrap := [26], stages := [(5, [.held [(0, true), (1, true), (2, true), (5, true), (6, true), (3, true), (7, true), (4, true), (8, true), (9, true), (10, true), (11, false), (12, false)], .stage [] (some 13), .stage [14] none])], loops := [(3, [(5, .one (.slice)), (6, .one (.int .i64))], [])] }) (by rw [show vcFS Tryd.prog W { keep := some [0, 1, 4, 5, 6, 13], wrap := [26], stages := [(5, [.held [(0, true), (1, true), (2, true), (5, true), (6, true), (3, true), (7, true), (4, true), (8, true), (9, true), (10, true), (11, false), (12, false)], .stage [] (some 13), .stage [14] none])], loops := [(3, [(5, .one (.slice)), (6, .one (.int .i64))], [])] } F.errataref28_Sub #[.slice aP aN aC, .slice bP bN bC] R Φ J = Berrataref28_Sub aP aN aC bP bN bC W R Φ J by kernel_rfl]; exact h) c

/-- errataref28.Consolidate -/
-- loop at region 7: 6 n, 7 k; blocks 
-- loop at region 4: 4 out, 5 i; blocks 
def Berrataref28_Consolidate (lP : Option Addr) (lN lC : Nat) (W : World) (R : List Own) (Φ : PW) (J : Value → World → Prop) : Prop :=
  ∀ (w0 : World) (R1 : List Own), Ctx W w0 (R ++ R1) Φ → Calls Tryd.prog F.errataref28_sorted #[Value.slice lP lN lC] w0 fun (e2 : Ending) (w3 : World) => ∃ (p4 : Option Addr), ∃ (k5 : Nat),
  ∃ (k6 : Nat), e2 = Ending.returned (Value.slice p4 k5 k6) ∧ ∃ (R7 : List Own), ∃ (Φ8 : PW), Stable Φ8 ∧ Ctx W w3 (R7 ++ R1) Φ8 ∧ exI fun (I9 : Option Addr → Nat → Nat → Int → List Own → PW
  → Nat → Prop) => (∃ (R10 : List Own), ∃ (Φ11 : PW), ∃ (k12 : Nat), Stable Φ11 ∧ (∀ (w13 : World) (R14 : List Own), Ctx W w13 (R7 ++ R14) Φ8 → Ctx W w13 (R10 ++ R14) Φ11) ∧ I9 none 0 0 0 R10
  Φ11 k12) ∧ ∀ (p15 : Option Addr) (k16 k17 : Nat) (n18 : Int) (R19 : List Own) (I20 : List Nat → World → Prop) (k21 : Nat), Stable I20 → I9 p15 k16 k17 n18 R19 I20 k21 → Br (decide (n18 <
  (↑k5 : Int))) (exI fun (I22 : Int → Int → List Own → PW → Nat → Prop) => (∃ (R23 : List Own), ∃ (Φ24 : PW), ∃ (k25 : Nat), Stable Φ24 ∧ (∀ (w26 : World) (R27 : List Own), Ctx W w26 (R19 ++
  R27) I20 → Ctx W w26 (R23 ++ R27) Φ24) ∧ I22 0 n18 R23 Φ24 k25) ∧ ∀ (n28 n29 : Int) (R30 : List Own) (I31 : List Nat → World → Prop) (k32 : Nat), Stable I31 → I22 n28 n29 R30 I31 k32 → ∃
  (R33 : List Own), ∃ (Φ34 : PW), Stable Φ34 ∧ (∀ (w35 : World) (R36 : List Own), Ctx W w35 (R30 ++ R36) I31 → Ctx W w35 (R33 ++ R36) Φ34) ∧ Br (decide (n29 < (↑k5 : Int))) ((0 ≤ n18 ∧ n18 <
  (↑k5 : Int)) ∧ ptrK none p4 fun (k37 k38 : Nat) => ∃ (n39 : Int), ∃ (p40 : Option Addr), ∃ (k41 : Nat), ∃ (k42 : Nat), ∃ (n43 : Int), (∀ (w44 : World) (R45 : List Own), Ctx W w44 (R33 ++
  R45) Φ34 → ∃ (n46 : Int), ∃ (p47 : Option Addr), ∃ (k48 : Nat), ∃ (k49 : Nat), ∃ (n50 : Int), RowAt w44 k37 (k38 + n18.toNat * 3) [Value.int IntKind.i64 n46, Value.slice p47 k48 k49,
  Value.int IntKind.i64 n50] ∧ Value.agg #[Value.int IntKind.i64 n46, Value.slice p47 k48 k49, Value.int IntKind.i64 n50] = Value.agg #[Value.int IntKind.i64 n39, Value.slice p40 k41 k42,
  Value.int IntKind.i64 n43]) ∧ I64 ((↑k5 : Int) - 1) ∧ (0 ≤ min n29 ((↑k5 : Int) - 1) ∧ min n29 ((↑k5 : Int) - 1) < (↑k5 : Int)) ∧ ptrK none p4 fun (k51 k52 : Nat) => ∃ (n53 : Int), ∃ (p54 :
  Option Addr), ∃ (k55 : Nat), ∃ (k56 : Nat), ∃ (n57 : Int), (∀ (w58 : World) (R59 : List Own), Ctx W w58 (R33 ++ R59) Φ34 → ∃ (n60 : Int), ∃ (p61 : Option Addr), ∃ (k62 : Nat), ∃ (k63 :
  Nat), ∃ (n64 : Int), RowAt w58 k51 (k52 + (min n29 ((↑k5 : Int) - 1)).toNat * 3) [Value.int IntKind.i64 n60, Value.slice p61 k62 k63, Value.int IntKind.i64 n64] ∧ Value.agg #[Value.int
  IntKind.i64 n60, Value.slice p61 k62 k63, Value.int IntKind.i64 n64] = Value.agg #[Value.int IntKind.i64 n53, Value.slice p54 k55 k56, Value.int IntKind.i64 n57]) ∧ ∀ (w65 : World) (R66 :
  List Own), Ctx W w65 (R30 ++ R66) I31 → Calls Tryd.prog F.errataref28_Compare #[Value.agg #[Value.int IntKind.i64 n39, Value.slice p40 k41 k42, Value.int IntKind.i64 n43], Value.agg
  #[Value.int IntKind.i64 n53, Value.slice p54 k55 k56, Value.int IntKind.i64 n57]] w65 fun (e67 : Ending) (w68 : World) => ∃ (n69 : Int), e67 = Ending.returned (Value.int IntKind.i64 n69) ∧
  ∃ (R70 : List Own), ∃ (Φ71 : PW), Stable Φ71 ∧ Ctx W w68 (R70 ++ R66) Φ71 ∧ Br (decide (n69 = 0)) ((0 ≤ n29 ∧ n29 < (↑k5 : Int)) ∧ ptrK none p4 fun (k72 k73 : Nat) => ∀ (w74 : World) (R75 :
  List Own), Ctx W w74 (R70 ++ R75) Φ71 → ∃ (n76 : Int), w74.cell? (Addr.mk k72 (k73 + n29.toNat * 3 + 2) none) = some (Value.int IntKind.i64 n76) ∧ I64 (n29 + 1) ∧ ∃ (R77 : List Own), ∃ (Φ78
  : PW), ∃ (k79 : Nat), Stable Φ78 ∧ (∀ (w80 : World) (R81 : List Own), Ctx W w80 (R70 ++ R81) Φ71 → Ctx W w80 (R77 ++ R81) Φ78) ∧ I22 (IntKind.i64.wrap (n28 + n76)) (n29 + 1) R77 Φ78 k79 ∧
  k79 < k32) (Br (decide (n28 ≠ 0)) ((0 ≤ n18 ∧ n18 < (↑k5 : Int)) ∧ ptrK none p4 fun (k82 k83 : Nat) => ∀ (w84 : World) (R85 : List Own), Ctx W w84 (R70 ++ R85) Φ71 → ∃ (n86 : Int), ∃ (p87 :
  Option Addr), ∃ (k88 : Nat), ∃ (k89 : Nat), ∃ (n90 : Int), RowAt w84 k82 (k83 + n18.toNat * 3) [Value.int IntKind.i64 n86, Value.slice p87 k88 k89, Value.int IntKind.i64 n90] ∧ ∀ (w91 :
  World) (R92 : List Own), Ctx W w91 (R70 ++ R92) Φ71 → Calls Tryd.prog F.errataref28_clone #[Value.agg #[Value.int IntKind.i64 n86, Value.slice p87 k88 k89, Value.int IntKind.i64 n90],
  Value.int IntKind.i64 n28] w91 fun (e93 : Ending) (w94 : World) => ∃ (n95 : Int), ∃ (p96 : Option Addr), ∃ (k97 : Nat), ∃ (k98 : Nat), ∃ (n99 : Int), e93 = Ending.returned (Value.agg
  #[Value.int IntKind.i64 n95, Value.slice p96 k97 k98, Value.int IntKind.i64 n99]) ∧ ∃ (R100 : List Own), ∃ (Φ101 : PW), Stable Φ101 ∧ Ctx W w94 (R100 ++ R92) Φ101 ∧ ∀ (k102 : Nat) (w103 :
  World) (R104 : List Own), Ctx W w103 (Own.blk k102 [Value.int IntKind.i64 n95, Value.slice p96 k97 k98, Value.int IntKind.i64 n99] 39 :: R100 ++ R104) Φ101 → ∃ (p105 : Option Addr), ∃ (k106
  : Nat), ∃ (k107 : Nat), ∃ (w108 : World), Sem.run Tryd.prog (builtin Builtin.append #[22, 22] 22 #[false, false] #[Value.slice p15 k16 k17, Value.slice (some (Addr.mk k102 0 none)) 1 1])
  w103 = Result.ok (Next.value (Value.slice p105 k106 k107)) w108 ∧ ∃ (R109 : List Own), ∃ (Φ110 : PW), Stable Φ110 ∧ Ctx W w108 (R109 ++ R104) Φ110 ∧ ∃ (R111 : List Own), ∃ (Φ112 : PW), ∃
  (k113 : Nat), Stable Φ112 ∧ (∀ (w114 : World) (R115 : List Own), Ctx W w114 (R109 ++ R115) Φ110 → Ctx W w114 (R111 ++ R115) Φ112) ∧ I9 p105 k106 k107 n29 R111 Φ112 k113 ∧ k113 < k21) (∃
  (R116 : List Own), ∃ (Φ117 : PW), ∃ (k118 : Nat), Stable Φ117 ∧ (∀ (w119 : World) (R120 : List Own), Ctx W w119 (R70 ++ R120) Φ71 → Ctx W w119 (R116 ++ R120) Φ117) ∧ I9 p15 k16 k17 n29 R116
  Φ117 k118 ∧ k118 < k21))) (Br (decide (n28 ≠ 0)) ((0 ≤ n18 ∧ n18 < (↑k5 : Int)) ∧ ptrK none p4 fun (k121 k122 : Nat) => ∀ (w123 : World) (R124 : List Own), Ctx W w123 (R30 ++ R124) I31 → ∃
  (n125 : Int), ∃ (p126 : Option Addr), ∃ (k127 : Nat), ∃ (k128 : Nat), ∃ (n129 : Int), RowAt w123 k121 (k122 + n18.toNat * 3) [Value.int IntKind.i64 n125, Value.slice p126 k127 k128,
  Value.int IntKind.i64 n129] ∧ ∀ (w130 : World) (R131 : List Own), Ctx W w130 (R30 ++ R131) I31 → Calls Tryd.prog F.errataref28_clone #[Value.agg #[Value.int IntKind.i64 n125, Value.slice
  p126 k127 k128, Value.int IntKind.i64 n129], Value.int IntKind.i64 n28] w130 fun (e132 : Ending) (w133 : World) => ∃ (n134 : Int), ∃ (p135 : Option Addr), ∃ (k136 : Nat), ∃ (k137 : Nat), ∃
  (n138 : Int), e132 = Ending.returned (Value.agg #[Value.int IntKind.i64 n134, Value.slice p135 k136 k137, Value.int IntKind.i64 n138]) ∧ ∃ (R139 : List Own), ∃ (Φ140 : PW), Stable Φ140 ∧
  Ctx W w133 (R139 ++ R131) Φ140 ∧ ∀ (k141 : Nat) (w142 : World) (R143 : List Own), Ctx W w142 (Own.blk k141 [Value.int IntKind.i64 n134, Value.slice p135 k136 k137, Value.int IntKind.i64
  n138] 39 :: R139 ++ R143) Φ140 → ∃ (p144 : Option Addr), ∃ (k145 : Nat), ∃ (k146 : Nat), ∃ (w147 : World), Sem.run Tryd.prog (builtin Builtin.append #[22, 22] 22 #[false, false]
  #[Value.slice p15 k16 k17, Value.slice (some (Addr.mk k141 0 none)) 1 1]) w142 = Result.ok (Next.value (Value.slice p144 k145 k146)) w147 ∧ ∃ (R148 : List Own), ∃ (Φ149 : PW), Stable Φ149 ∧
  Ctx W w147 (R148 ++ R143) Φ149 ∧ ∃ (R150 : List Own), ∃ (Φ151 : PW), ∃ (k152 : Nat), Stable Φ151 ∧ (∀ (w153 : World) (R154 : List Own), Ctx W w153 (R148 ++ R154) Φ149 → Ctx W w153 (R150 ++
  R154) Φ151) ∧ I9 p144 k145 k146 n29 R150 Φ151 k152 ∧ k152 < k21) (∃ (R155 : List Own), ∃ (Φ156 : PW), ∃ (k157 : Nat), Stable Φ156 ∧ (∀ (w158 : World) (R159 : List Own), Ctx W w158 (R30 ++
  R159) I31 → Ctx W w158 (R155 ++ R159) Φ156) ∧ I9 p15 k16 k17 n29 R155 Φ156 k157 ∧ k157 < k21))) (∀ (w160 : World) (R161 : List Own), Ctx W w160 (R19 ++ R161) I20 → J (Value.slice p15 k16
  k17) w160)

theorem Berrataref28_Consolidate_run (lP : Option Addr) (lN lC : Nat) {W w : World} {R : List Own} {Φ : PW} [Stable Φ] {J : Value → World → Prop} (c : Ctx W w R Φ) (h : Berrataref28_Consolidate lP lN lC W R Φ J) : Calls Tryd.prog F.errataref28_Consolidate #[.slice lP lN lC] w fun e w' => ∃ v, e = .returned v ∧ J v w' :=
  vcFS_sound (H := { keep := some [0, 2, 3, 4, 5, 6, 7, 13, 34, 45], wrap := [41], stages := [(7, [.held [(0, true), (1, true), (2, true), (3, true), (4, true), (5, true), (6, true), (9, true), (10, true), (11, true), (7, true), (12, true), (8, true), (13, true), (14, true), (15, true), (16, true)], .stage [] (some 17), .stage [18, 19] none])], loops := [(7, [(6, .one (.int .i64)), (7, .one (.int .i64))], []), (4, [(4, .one (.slice)), (5, .one (.int .i64))], [])] }) (by rw [show vcFS Tryd.prog W { keep := some [0, 2, 3, 4, 5, 6, 7, 13, 34, 45], wrap := [41], stages := [(7, [.held [(0, true), (1, true), (2, true), (3, true), (4, true), (5, true), (6, true), (9, true), (10, true), (11, true), (7, true), (12, true), (8, true), (13, true), (14, true), (15, true), (16, true)], .stage [] (some 17), .stage [18, 19] none])], loops := [(7, [(6, .one (.int .i64)), (7, .one (.int .i64))], []), (4, [(4, .one (.slice)), (5, .one (.int .i64))], [])] } F.errataref28_Consolidate #[.slice lP lN lC] R Φ J = Berrataref28_Consolidate lP lN lC W R Φ J by kernel_rfl]; exact h) c

/-- errataref28.Add -/
def Berrataref28_Add (aP : Option Addr) (aN aC : Nat) (bP : Option Addr) (bN bC : Nat) (W : World) (R : List Own) (Φ : PW) (J : Value → World → Prop) : Prop :=
  ∀ (k0 : Nat) (w1 : World) (R2 : List Own), Ctx W w1 (Own.blk k0 [] 39 :: R ++ R2) Φ → ∃ (p3 : Option Addr), ∃ (k4 : Nat), ∃ (k5 : Nat), ∃ (w6 : World), Sem.run Tryd.prog (builtin
  Builtin.append #[22, 22] 22 #[false, false] #[Value.slice (some (Addr.mk k0 0 none)) 0 0, Value.slice aP aN aC]) w1 = Result.ok (Next.value (Value.slice p3 k4 k5)) w6 ∧ ∃ (R7 : List Own), ∃
  (Φ8 : PW), Stable Φ8 ∧ Ctx W w6 (R7 ++ R2) Φ8 ∧ ∀ (w9 : World) (R10 : List Own), Ctx W w9 (R7 ++ R10) Φ8 → ∃ (p11 : Option Addr), ∃ (k12 : Nat), ∃ (k13 : Nat), ∃ (w14 : World), Sem.run
  Tryd.prog (builtin Builtin.append #[22, 22] 22 #[false, false] #[Value.slice p3 k4 k5, Value.slice bP bN bC]) w9 = Result.ok (Next.value (Value.slice p11 k12 k13)) w14 ∧ ∃ (R15 : List Own),
  ∃ (Φ16 : PW), Stable Φ16 ∧ Ctx W w14 (R15 ++ R10) Φ16 ∧ ∀ (w17 : World) (R18 : List Own), Ctx W w17 (R15 ++ R18) Φ16 → Calls Tryd.prog F.errataref28_Consolidate #[Value.slice p11 k12 k13]
  w17 fun (e19 : Ending) (w20 : World) => ∃ (p21 : Option Addr), ∃ (k22 : Nat), ∃ (k23 : Nat), e19 = Ending.returned (Value.slice p21 k22 k23) ∧ ∃ (R24 : List Own), ∃ (Φ25 : PW), Stable Φ25 ∧
  Ctx W w20 (R24 ++ R18) Φ25 ∧ ∀ (w26 : World) (R27 : List Own), Ctx W w26 (R24 ++ R27) Φ25 → J (Value.slice p21 k22 k23) w26

theorem Berrataref28_Add_run (aP : Option Addr) (aN aC : Nat) (bP : Option Addr) (bN bC : Nat) {W w : World} {R : List Own} {Φ : PW} [Stable Φ] {J : Value → World → Prop} (c : Ctx W w R Φ) (h : Berrataref28_Add aP aN aC bP bN bC W R Φ J) : Calls Tryd.prog F.errataref28_Add #[.slice aP aN aC, .slice bP bN bC] w fun e w' => ∃ v, e = .returned v ∧ J v w' :=
  vcFS_sound (H := { keep := some [0, 1, 4] }) (by rw [show vcFS Tryd.prog W { keep := some [0, 1, 4] } F.errataref28_Add #[.slice aP aN aC, .slice bP bN bC] R Φ J = Berrataref28_Add aP aN aC bP bN bC W R Φ J by kernel_rfl]; exact h) c

/-- errataref28.Upto -/
-- loop at region 3: 5 out, 6 i; blocks 
def Berrataref28_Upto (lP : Option Addr) (lN lC : Nat) (t : Int) (W : World) (R : List Own) (Φ : PW) (J : Value → World → Prop) : Prop :=
  exI fun (I0 : Option Addr → Nat → Nat → Int → List Own → PW → Nat → Prop) => (∃ (R1 : List Own), ∃ (Φ2 : PW), ∃ (k3 : Nat), Stable Φ2 ∧ (∀ (w4 : World) (R5 : List Own), Ctx W w4 (R ++ R5) Φ
  → Ctx W w4 (R1 ++ R5) Φ2) ∧ I0 none 0 0 0 R1 Φ2 k3) ∧ ∀ (p6 : Option Addr) (k7 k8 : Nat) (n9 : Int) (R10 : List Own) (I11 : List Nat → World → Prop) (k12 : Nat), Stable I11 → I0 p6 k7 k8 n9
  R10 I11 k12 → Br (decide (n9 < (↑lN : Int))) ((0 ≤ n9 ∧ n9 < (↑lN : Int)) ∧ ptrK none lP fun (k13 k14 : Nat) => ∀ (w15 : World) (R16 : List Own), Ctx W w15 (R10 ++ R16) I11 → ∃ (n17 : Int),
  w15.cell? (Addr.mk k13 (k14 + n9.toNat * 3) none) = some (Value.int IntKind.i64 n17) ∧ Br (decide (n17 ≤ t)) ((0 ≤ n9 ∧ n9 < (↑lN : Int)) ∧ ptrK none lP fun (k18 k19 : Nat) => ∀ (w20 :
  World) (R21 : List Own), Ctx W w20 (R10 ++ R21) I11 → ∃ (n22 : Int), ∃ (p23 : Option Addr), ∃ (k24 : Nat), ∃ (k25 : Nat), ∃ (n26 : Int), RowAt w20 k18 (k19 + n9.toNat * 3) [Value.int
  IntKind.i64 n22, Value.slice p23 k24 k25, Value.int IntKind.i64 n26] ∧ ∀ (k27 : Nat) (w28 : World) (R29 : List Own), Ctx W w28 (Own.blk k27 [Value.int IntKind.i64 n22, Value.slice p23 k24
  k25, Value.int IntKind.i64 n26] 39 :: R10 ++ R29) I11 → ∃ (p30 : Option Addr), ∃ (k31 : Nat), ∃ (k32 : Nat), ∃ (w33 : World), Sem.run Tryd.prog (builtin Builtin.append #[22, 22] 22 #[false,
  false] #[Value.slice p6 k7 k8, Value.slice (some (Addr.mk k27 0 none)) 1 1]) w28 = Result.ok (Next.value (Value.slice p30 k31 k32)) w33 ∧ ∃ (R34 : List Own), ∃ (Φ35 : PW), Stable Φ35 ∧ Ctx
  W w33 (R34 ++ R29) Φ35 ∧ I64 (n9 + 1) ∧ ∃ (R36 : List Own), ∃ (Φ37 : PW), ∃ (k38 : Nat), Stable Φ37 ∧ (∀ (w39 : World) (R40 : List Own), Ctx W w39 (R34 ++ R40) Φ35 → Ctx W w39 (R36 ++ R40)
  Φ37) ∧ I0 p30 k31 k32 (n9 + 1) R36 Φ37 k38 ∧ k38 < k12) (I64 (n9 + 1) ∧ ∃ (R41 : List Own), ∃ (Φ42 : PW), ∃ (k43 : Nat), Stable Φ42 ∧ (∀ (w44 : World) (R45 : List Own), Ctx W w44 (R10 ++
  R45) I11 → Ctx W w44 (R41 ++ R45) Φ42) ∧ I0 p6 k7 k8 (n9 + 1) R41 Φ42 k43 ∧ k43 < k12)) (∀ (w46 : World) (R47 : List Own), Ctx W w46 (R10 ++ R47) I11 → Calls Tryd.prog
  F.errataref28_Consolidate #[Value.slice p6 k7 k8] w46 fun (e48 : Ending) (w49 : World) => ∃ (p50 : Option Addr), ∃ (k51 : Nat), ∃ (k52 : Nat), e48 = Ending.returned (Value.slice p50 k51
  k52) ∧ ∃ (R53 : List Own), ∃ (Φ54 : PW), Stable Φ54 ∧ Ctx W w49 (R53 ++ R47) Φ54 ∧ ∀ (w55 : World) (R56 : List Own), Ctx W w55 (R53 ++ R56) Φ54 → J (Value.slice p50 k51 k52) w55)

theorem Berrataref28_Upto_run (lP : Option Addr) (lN lC : Nat) (t : Int) {W w : World} {R : List Own} {Φ : PW} [Stable Φ] {J : Value → World → Prop} (c : Ctx W w R Φ) (h : Berrataref28_Upto lP lN lC t W R Φ J) : Calls Tryd.prog F.errataref28_Upto #[.slice lP lN lC, .int .i64 t] w fun e w' => ∃ v, e = .returned v ∧ J v w' :=
  vcFS_sound (H := { keep := some [0, 1, 4, 5, 6, 10, 19], loops := [(3, [(5, .one (.slice)), (6, .one (.int .i64))], [])] }) (by rw [show vcFS Tryd.prog W { keep := some [0, 1, 4, 5, 6, 10, 19], loops := [(3, [(5, .one (.slice)), (6, .one (.int .i64))], [])] } F.errataref28_Upto #[.slice lP lN lC, .int .i64 t] R Φ J = Berrataref28_Upto lP lN lC t W R Φ J by kernel_rfl]; exact h) c

/-- errataref28.After -/
-- loop at region 3: 5 out, 6 i; blocks 
def Berrataref28_After (lP : Option Addr) (lN lC : Nat) (t : Int) (W : World) (R : List Own) (Φ : PW) (J : Value → World → Prop) : Prop :=
  exI fun (I0 : Option Addr → Nat → Nat → Int → List Own → PW → Nat → Prop) => (∃ (R1 : List Own), ∃ (Φ2 : PW), ∃ (k3 : Nat), Stable Φ2 ∧ (∀ (w4 : World) (R5 : List Own), Ctx W w4 (R ++ R5) Φ
  → Ctx W w4 (R1 ++ R5) Φ2) ∧ I0 none 0 0 0 R1 Φ2 k3) ∧ ∀ (p6 : Option Addr) (k7 k8 : Nat) (n9 : Int) (R10 : List Own) (I11 : List Nat → World → Prop) (k12 : Nat), Stable I11 → I0 p6 k7 k8 n9
  R10 I11 k12 → Br (decide (n9 < (↑lN : Int))) ((0 ≤ n9 ∧ n9 < (↑lN : Int)) ∧ ptrK none lP fun (k13 k14 : Nat) => ∀ (w15 : World) (R16 : List Own), Ctx W w15 (R10 ++ R16) I11 → ∃ (n17 : Int),
  w15.cell? (Addr.mk k13 (k14 + n9.toNat * 3) none) = some (Value.int IntKind.i64 n17) ∧ Br (decide (t < n17)) ((0 ≤ n9 ∧ n9 < (↑lN : Int)) ∧ ptrK none lP fun (k18 k19 : Nat) => ∀ (w20 :
  World) (R21 : List Own), Ctx W w20 (R10 ++ R21) I11 → ∃ (n22 : Int), ∃ (p23 : Option Addr), ∃ (k24 : Nat), ∃ (k25 : Nat), ∃ (n26 : Int), RowAt w20 k18 (k19 + n9.toNat * 3) [Value.int
  IntKind.i64 n22, Value.slice p23 k24 k25, Value.int IntKind.i64 n26] ∧ ∀ (k27 : Nat) (w28 : World) (R29 : List Own), Ctx W w28 (Own.blk k27 [Value.int IntKind.i64 n22, Value.slice p23 k24
  k25, Value.int IntKind.i64 n26] 39 :: R10 ++ R29) I11 → ∃ (p30 : Option Addr), ∃ (k31 : Nat), ∃ (k32 : Nat), ∃ (w33 : World), Sem.run Tryd.prog (builtin Builtin.append #[22, 22] 22 #[false,
  false] #[Value.slice p6 k7 k8, Value.slice (some (Addr.mk k27 0 none)) 1 1]) w28 = Result.ok (Next.value (Value.slice p30 k31 k32)) w33 ∧ ∃ (R34 : List Own), ∃ (Φ35 : PW), Stable Φ35 ∧ Ctx
  W w33 (R34 ++ R29) Φ35 ∧ I64 (n9 + 1) ∧ ∃ (R36 : List Own), ∃ (Φ37 : PW), ∃ (k38 : Nat), Stable Φ37 ∧ (∀ (w39 : World) (R40 : List Own), Ctx W w39 (R34 ++ R40) Φ35 → Ctx W w39 (R36 ++ R40)
  Φ37) ∧ I0 p30 k31 k32 (n9 + 1) R36 Φ37 k38 ∧ k38 < k12) (I64 (n9 + 1) ∧ ∃ (R41 : List Own), ∃ (Φ42 : PW), ∃ (k43 : Nat), Stable Φ42 ∧ (∀ (w44 : World) (R45 : List Own), Ctx W w44 (R10 ++
  R45) I11 → Ctx W w44 (R41 ++ R45) Φ42) ∧ I0 p6 k7 k8 (n9 + 1) R41 Φ42 k43 ∧ k43 < k12)) (∀ (w46 : World) (R47 : List Own), Ctx W w46 (R10 ++ R47) I11 → Calls Tryd.prog
  F.errataref28_Consolidate #[Value.slice p6 k7 k8] w46 fun (e48 : Ending) (w49 : World) => ∃ (p50 : Option Addr), ∃ (k51 : Nat), ∃ (k52 : Nat), e48 = Ending.returned (Value.slice p50 k51
  k52) ∧ ∃ (R53 : List Own), ∃ (Φ54 : PW), Stable Φ54 ∧ Ctx W w49 (R53 ++ R47) Φ54 ∧ ∀ (w55 : World) (R56 : List Own), Ctx W w55 (R53 ++ R56) Φ54 → J (Value.slice p50 k51 k52) w55)

theorem Berrataref28_After_run (lP : Option Addr) (lN lC : Nat) (t : Int) {W w : World} {R : List Own} {Φ : PW} [Stable Φ] {J : Value → World → Prop} (c : Ctx W w R Φ) (h : Berrataref28_After lP lN lC t W R Φ J) : Calls Tryd.prog F.errataref28_After #[.slice lP lN lC, .int .i64 t] w fun e w' => ∃ v, e = .returned v ∧ J v w' :=
  vcFS_sound (H := { keep := some [0, 1, 4, 5, 6, 10, 19], loops := [(3, [(5, .one (.slice)), (6, .one (.int .i64))], [])] }) (by rw [show vcFS Tryd.prog W { keep := some [0, 1, 4, 5, 6, 10, 19], loops := [(3, [(5, .one (.slice)), (6, .one (.int .i64))], [])] } F.errataref28_After #[.slice lP lN lC, .int .i64 t] R Φ J = Berrataref28_After lP lN lC t W R Φ J by kernel_rfl]; exact h) c

/-- errataref28.Consolidated -/
-- loop at region 2: 3 i; blocks 
def Berrataref28_Consolidated (lP : Option Addr) (lN lC : Nat) (W : World) (R : List Own) (Φ : PW) (J : Value → World → Prop) : Prop :=
  exI fun (I0 : Int → List Own → PW → Nat → Prop) => (∃ (R1 : List Own), ∃ (Φ2 : PW), ∃ (k3 : Nat), Stable Φ2 ∧ (∀ (w4 : World) (R5 : List Own), Ctx W w4 (R ++ R5) Φ → Ctx W w4 (R1 ++ R5) Φ2)
  ∧ I0 0 R1 Φ2 k3) ∧ ∀ (n6 : Int) (R7 : List Own) (I8 : List Nat → World → Prop) (k9 : Nat), Stable I8 → I0 n6 R7 I8 k9 → Br (decide (n6 < (↑lN : Int))) (∃ (R10 : List Own), ∃ (Φ11 : PW),
  Stable Φ11 ∧ (∀ (w12 : World) (R13 : List Own), Ctx W w12 (R7 ++ R13) I8 → Ctx W w12 (R10 ++ R13) Φ11) ∧ (0 ≤ n6 ∧ n6 < (↑lN : Int)) ∧ ptrK none lP fun (k14 k15 : Nat) => ∃ (n16 : Int), (∀
  (w17 : World) (R18 : List Own), Ctx W w17 (R10 ++ R18) Φ11 → ∃ (n19 : Int), w17.cell? (Addr.mk k14 (k15 + n6.toNat * 3 + 2) none) = some (Value.int IntKind.i64 n19) ∧ Value.int IntKind.i64
  n19 = Value.int IntKind.i64 n16) ∧ Br (decide (n16 = 0)) (∀ (w20 : World) (R21 : List Own), Ctx W w20 (R7 ++ R21) I8 → J (Value.bool false) w20) (Br (decide (0 < n6)) (I64 (n6 - 1) ∧ (0 ≤
  n6 ∧ n6 < (↑lN : Int)) ∧ ptrK none lP fun (k22 k23 : Nat) => ∃ (n24 : Int), ∃ (p25 : Option Addr), ∃ (k26 : Nat), ∃ (k27 : Nat), ∃ (n28 : Int), (∀ (w29 : World) (R30 : List Own), Ctx W w29
  (R10 ++ R30) Φ11 → ∃ (n31 : Int), ∃ (p32 : Option Addr), ∃ (k33 : Nat), ∃ (k34 : Nat), ∃ (n35 : Int), RowAt w29 k22 (k23 + n6.toNat * 3) [Value.int IntKind.i64 n31, Value.slice p32 k33 k34,
  Value.int IntKind.i64 n35] ∧ Value.agg #[Value.int IntKind.i64 n31, Value.slice p32 k33 k34, Value.int IntKind.i64 n35] = Value.agg #[Value.int IntKind.i64 n24, Value.slice p25 k26 k27,
  Value.int IntKind.i64 n28]) ∧ (0 ≤ max (n6 - 1) 0 ∧ max (n6 - 1) 0 < (↑lN : Int)) ∧ ptrK none lP fun (k36 k37 : Nat) => ∃ (n38 : Int), ∃ (p39 : Option Addr), ∃ (k40 : Nat), ∃ (k41 : Nat), ∃
  (n42 : Int), (∀ (w43 : World) (R44 : List Own), Ctx W w43 (R10 ++ R44) Φ11 → ∃ (n45 : Int), ∃ (p46 : Option Addr), ∃ (k47 : Nat), ∃ (k48 : Nat), ∃ (n49 : Int), RowAt w43 k36 (k37 + (max (n6
  - 1) 0).toNat * 3) [Value.int IntKind.i64 n45, Value.slice p46 k47 k48, Value.int IntKind.i64 n49] ∧ Value.agg #[Value.int IntKind.i64 n45, Value.slice p46 k47 k48, Value.int IntKind.i64
  n49] = Value.agg #[Value.int IntKind.i64 n38, Value.slice p39 k40 k41, Value.int IntKind.i64 n42]) ∧ ∀ (w50 : World) (R51 : List Own), Ctx W w50 (R7 ++ R51) I8 → Calls Tryd.prog
  F.errataref28_Compare #[Value.agg #[Value.int IntKind.i64 n38, Value.slice p39 k40 k41, Value.int IntKind.i64 n42], Value.agg #[Value.int IntKind.i64 n24, Value.slice p25 k26 k27, Value.int
  IntKind.i64 n28]] w50 fun (e52 : Ending) (w53 : World) => ∃ (n54 : Int), e52 = Ending.returned (Value.int IntKind.i64 n54) ∧ ∃ (R55 : List Own), ∃ (Φ56 : PW), Stable Φ56 ∧ Ctx W w53 (R55 ++
  R51) Φ56 ∧ Br (decide (0 ≤ n54)) (∀ (w57 : World) (R58 : List Own), Ctx W w57 (R55 ++ R58) Φ56 → J (Value.bool false) w57) (I64 (n6 + 1) ∧ ∃ (R59 : List Own), ∃ (Φ60 : PW), ∃ (k61 : Nat),
  Stable Φ60 ∧ (∀ (w62 : World) (R63 : List Own), Ctx W w62 (R55 ++ R63) Φ56 → Ctx W w62 (R59 ++ R63) Φ60) ∧ I0 (n6 + 1) R59 Φ60 k61 ∧ k61 < k9)) (I64 (n6 + 1) ∧ ∃ (R64 : List Own), ∃ (Φ65 :
  PW), ∃ (k66 : Nat), Stable Φ65 ∧ (∀ (w67 : World) (R68 : List Own), Ctx W w67 (R7 ++ R68) I8 → Ctx W w67 (R64 ++ R68) Φ65) ∧ I0 (n6 + 1) R64 Φ65 k66 ∧ k66 < k9))) (∀ (w69 : World) (R70 :
  List Own), Ctx W w69 (R7 ++ R70) I8 → J (Value.bool true) w69)

theorem Berrataref28_Consolidated_run (lP : Option Addr) (lN lC : Nat) {W w : World} {R : List Own} {Φ : PW} [Stable Φ] {J : Value → World → Prop} (c : Ctx W w R Φ) (h : Berrataref28_Consolidated lP lN lC W R Φ J) : Calls Tryd.prog F.errataref28_Consolidated #[.slice lP lN lC] w fun e w' => ∃ v, e = .returned v ∧ J v w' :=
  vcFS_sound (H := { keep := some [0, 2, 3, 7, 33], stages := [(4, [.held [(0, true), (1, true), (2, true), (3, true), (4, true), (5, true), (6, true), (7, true), (8, true), (9, true), (10, true), (11, true), (16, true), (17, true), (12, true), (18, true), (13, true), (19, true), (14, true), (15, true)], .stage [] (some 20), .stage [21, 22, 23] none])], loops := [(2, [(3, .one (.int .i64))], [])] }) (by rw [show vcFS Tryd.prog W { keep := some [0, 2, 3, 7, 33], stages := [(4, [.held [(0, true), (1, true), (2, true), (3, true), (4, true), (5, true), (6, true), (7, true), (8, true), (9, true), (10, true), (11, true), (16, true), (17, true), (12, true), (18, true), (13, true), (19, true), (14, true), (15, true)], .stage [] (some 20), .stage [21, 22, 23] none])], loops := [(2, [(3, .one (.int .i64))], [])] } F.errataref28_Consolidated #[.slice lP lN lC] R Φ J = Berrataref28_Consolidated lP lN lC W R Φ J by kernel_rfl]; exact h) c

/-- errataref28.Find -/
-- loop at region 3: 7 n, 8 i; blocks 
def Berrataref28_Find (lP : Option Addr) (lN lC : Nat) (time : Int) (rowP : Option Addr) (rowN rowC : Nat) (W : World) (R : List Own) (Φ : PW) (J : Value → World → Prop) : Prop :=
  exI fun (I0 : Int → Int → List Own → PW → Nat → Prop) => (∃ (R1 : List Own), ∃ (Φ2 : PW), ∃ (k3 : Nat), Stable Φ2 ∧ (∀ (w4 : World) (R5 : List Own), Ctx W w4 (R ++ R5) Φ → Ctx W w4 (R1 ++
  R5) Φ2) ∧ I0 0 0 R1 Φ2 k3) ∧ ∀ (n6 n7 : Int) (R8 : List Own) (I9 : List Nat → World → Prop) (k10 : Nat), Stable I9 → I0 n6 n7 R8 I9 k10 → Br (decide (n7 < (↑lN : Int))) ((0 ≤ n7 ∧ n7 < (↑lN
  : Int)) ∧ ptrK none lP fun (k11 k12 : Nat) => ∀ (w13 : World) (R14 : List Own), Ctx W w13 (R8 ++ R14) I9 → ∃ (n15 : Int), ∃ (p16 : Option Addr), ∃ (k17 : Nat), ∃ (k18 : Nat), ∃ (n19 : Int),
  RowAt w13 k11 (k12 + n7.toNat * 3) [Value.int IntKind.i64 n15, Value.slice p16 k17 k18, Value.int IntKind.i64 n19] ∧ ∀ (w20 : World) (R21 : List Own), Ctx W w20 (R8 ++ R21) I9 → Calls
  Tryd.prog F.errataref28_Compare #[Value.agg #[Value.int IntKind.i64 n15, Value.slice p16 k17 k18, Value.int IntKind.i64 n19], Value.agg #[Value.int IntKind.i64 time, Value.slice rowP rowN
  rowC, Value.int IntKind.i64 0]] w20 fun (e22 : Ending) (w23 : World) => ∃ (n24 : Int), e22 = Ending.returned (Value.int IntKind.i64 n24) ∧ ∃ (R25 : List Own), ∃ (Φ26 : PW), Stable Φ26 ∧ Ctx
  W w23 (R25 ++ R21) Φ26 ∧ Br (decide (n24 = 0)) ((0 ≤ n7 ∧ n7 < (↑lN : Int)) ∧ ptrK none lP fun (k27 k28 : Nat) => ∀ (w29 : World) (R30 : List Own), Ctx W w29 (R25 ++ R30) Φ26 → ∃ (n31 :
  Int), w29.cell? (Addr.mk k27 (k28 + n7.toNat * 3 + 2) none) = some (Value.int IntKind.i64 n31) ∧ I64 (n7 + 1) ∧ ∃ (R32 : List Own), ∃ (Φ33 : PW), ∃ (k34 : Nat), Stable Φ33 ∧ (∀ (w35 :
  World) (R36 : List Own), Ctx W w35 (R25 ++ R36) Φ26 → Ctx W w35 (R32 ++ R36) Φ33) ∧ I0 (IntKind.i64.wrap (n6 + n31)) (n7 + 1) R32 Φ33 k34 ∧ k34 < k10) (I64 (n7 + 1) ∧ ∃ (R37 : List Own), ∃
  (Φ38 : PW), ∃ (k39 : Nat), Stable Φ38 ∧ (∀ (w40 : World) (R41 : List Own), Ctx W w40 (R25 ++ R41) Φ26 → Ctx W w40 (R37 ++ R41) Φ38) ∧ I0 n6 (n7 + 1) R37 Φ38 k39 ∧ k39 < k10)) (∀ (w42 :
  World) (R43 : List Own), Ctx W w42 (R8 ++ R43) I9 → J (Value.int IntKind.i64 n6) w42)

theorem Berrataref28_Find_run (lP : Option Addr) (lN lC : Nat) (time : Int) (rowP : Option Addr) (rowN rowC : Nat) {W w : World} {R : List Own} {Φ : PW} [Stable Φ] {J : Value → World → Prop} (c : Ctx W w R Φ) (h : Berrataref28_Find lP lN lC time rowP rowN rowC W R Φ J) : Calls Tryd.prog F.errataref28_Find #[.slice lP lN lC, .int .i64 time, .slice rowP rowN rowC] w fun e w' => ∃ v, e = .returned v ∧ J v w' :=
  vcFS_sound (H := { keep := some [0, 1, 2, 6, 7, 8, 12, 23], wrap := [30], loops := [(3, [(7, .one (.int .i64)), (8, .one (.int .i64))], [])] }) (by rw [show vcFS Tryd.prog W { keep := some [0, 1, 2, 6, 7, 8, 12, 23], wrap := [30], loops := [(3, [(7, .one (.int .i64)), (8, .one (.int .i64))], [])] } F.errataref28_Find #[.slice lP lN lC, .int .i64 time, .slice rowP rowN rowC] R Φ J = Berrataref28_Find lP lN lC time rowP rowN rowC W R Φ J by kernel_rfl]; exact h) c

/-- errataref28.Multiset -/
-- loop at region 3: 4 i; blocks 
def Berrataref28_Multiset (lP : Option Addr) (lN lC : Nat) (W : World) (R : List Own) (Φ : PW) (J : Value → World → Prop) : Prop :=
  ∀ (w0 : World) (R1 : List Own), Ctx W w0 (R ++ R1) Φ → Calls Tryd.prog F.errataref28_Consolidate #[Value.slice lP lN lC] w0 fun (e2 : Ending) (w3 : World) => ∃ (p4 : Option Addr), ∃ (k5 :
  Nat), ∃ (k6 : Nat), e2 = Ending.returned (Value.slice p4 k5 k6) ∧ ∃ (R7 : List Own), ∃ (Φ8 : PW), Stable Φ8 ∧ Ctx W w3 (R7 ++ R1) Φ8 ∧ exI fun (I9 : Int → List Own → PW → Nat → Prop) => (∃
  (R10 : List Own), ∃ (Φ11 : PW), ∃ (k12 : Nat), Stable Φ11 ∧ (∀ (w13 : World) (R14 : List Own), Ctx W w13 (R7 ++ R14) Φ8 → Ctx W w13 (R10 ++ R14) Φ11) ∧ I9 0 R10 Φ11 k12) ∧ ∀ (n15 : Int)
  (R16 : List Own) (I17 : List Nat → World → Prop) (k18 : Nat), Stable I17 → I9 n15 R16 I17 k18 → Br (decide (n15 < (↑k5 : Int))) ((0 ≤ n15 ∧ n15 < (↑k5 : Int)) ∧ ptrK none p4 fun (k19 k20 :
  Nat) => ∀ (w21 : World) (R22 : List Own), Ctx W w21 (R16 ++ R22) I17 → ∃ (n23 : Int), w21.cell? (Addr.mk k19 (k20 + n15.toNat * 3 + 2) none) = some (Value.int IntKind.i64 n23) ∧ Br (decide
  (n23 < 0)) (∀ (w24 : World) (R25 : List Own), Ctx W w24 (R16 ++ R25) I17 → J (Value.bool false) w24) (I64 (n15 + 1) ∧ ∃ (R26 : List Own), ∃ (Φ27 : PW), ∃ (k28 : Nat), Stable Φ27 ∧ (∀ (w29 :
  World) (R30 : List Own), Ctx W w29 (R16 ++ R30) I17 → Ctx W w29 (R26 ++ R30) Φ27) ∧ I9 (n15 + 1) R26 Φ27 k28 ∧ k28 < k18)) (∀ (w31 : World) (R32 : List Own), Ctx W w31 (R16 ++ R32) I17 → J
  (Value.bool true) w31)

theorem Berrataref28_Multiset_run (lP : Option Addr) (lN lC : Nat) {W w : World} {R : List Own} {Φ : PW} [Stable Φ] {J : Value → World → Prop} (c : Ctx W w R Φ) (h : Berrataref28_Multiset lP lN lC W R Φ J) : Calls Tryd.prog F.errataref28_Multiset #[.slice lP lN lC] w fun e w' => ∃ v, e = .returned v ∧ J v w' :=
  vcFS_sound (H := { keep := some [0, 2, 3, 4, 10, 18], loops := [(3, [(4, .one (.int .i64))], [])] }) (by rw [show vcFS Tryd.prog W { keep := some [0, 2, 3, 4, 10, 18], loops := [(3, [(4, .one (.int .i64))], [])] } F.errataref28_Multiset #[.slice lP lN lC] R Φ J = Berrataref28_Multiset lP lN lC W R Φ J by kernel_rfl]; exact h) c

/-- errataref28.Count -/
-- loop at region 3: 3 n, 4 i; blocks 
def Berrataref28_Count (lP : Option Addr) (lN lC : Nat) (W : World) (R : List Own) (Φ : PW) (J : Value → World → Prop) : Prop :=
  exI fun (I0 : Int → Int → List Own → PW → Nat → Prop) => (∃ (R1 : List Own), ∃ (Φ2 : PW), ∃ (k3 : Nat), Stable Φ2 ∧ (∀ (w4 : World) (R5 : List Own), Ctx W w4 (R ++ R5) Φ → Ctx W w4 (R1 ++
  R5) Φ2) ∧ I0 0 0 R1 Φ2 k3) ∧ ∀ (n6 n7 : Int) (R8 : List Own) (I9 : List Nat → World → Prop) (k10 : Nat), Stable I9 → I0 n6 n7 R8 I9 k10 → Br (decide (n7 < (↑lN : Int))) ((0 ≤ n7 ∧ n7 < (↑lN
  : Int)) ∧ ptrK none lP fun (k11 k12 : Nat) => ∀ (w13 : World) (R14 : List Own), Ctx W w13 (R8 ++ R14) I9 → ∃ (n15 : Int), w13.cell? (Addr.mk k11 (k12 + n7.toNat * 3 + 2) none) = some
  (Value.int IntKind.i64 n15) ∧ I64 (n7 + 1) ∧ ∃ (R16 : List Own), ∃ (Φ17 : PW), ∃ (k18 : Nat), Stable Φ17 ∧ (∀ (w19 : World) (R20 : List Own), Ctx W w19 (R8 ++ R20) I9 → Ctx W w19 (R16 ++
  R20) Φ17) ∧ I0 (IntKind.i64.wrap (n6 + n15)) (n7 + 1) R16 Φ17 k18 ∧ k18 < k10) (∀ (w21 : World) (R22 : List Own), Ctx W w21 (R8 ++ R22) I9 → J (Value.int IntKind.i64 n6) w21)

theorem Berrataref28_Count_run (lP : Option Addr) (lN lC : Nat) {W w : World} {R : List Own} {Φ : PW} [Stable Φ] {J : Value → World → Prop} (c : Ctx W w R Φ) (h : Berrataref28_Count lP lN lC W R Φ J) : Calls Tryd.prog F.errataref28_Count #[.slice lP lN lC] w fun e w' => ∃ v, e = .returned v ∧ J v w' :=
  vcFS_sound (H := { keep := some [0, 2, 3, 4, 8], wrap := [17], loops := [(3, [(3, .one (.int .i64)), (4, .one (.int .i64))], [])] }) (by rw [show vcFS Tryd.prog W { keep := some [0, 2, 3, 4, 8], wrap := [17], loops := [(3, [(3, .one (.int .i64)), (4, .one (.int .i64))], [])] } F.errataref28_Count #[.slice lP lN lC] R Φ J = Berrataref28_Count lP lN lC W R Φ J by kernel_rfl]; exact h) c

/-- erratalaw28.ints -/
-- loop at region 4: 5 i; blocks 
def Berratalaw28_ints (aP : Option Addr) (aN aC : Nat) (bP : Option Addr) (bN bC : Nat) (W : World) (R : List Own) (Φ : PW) (J : Value → World → Prop) : Prop :=
  Br (decide ((↑aN : Int) ≠ (↑bN : Int))) (∀ (w0 : World) (R1 : List Own), Ctx W w0 (R ++ R1) Φ → J (Value.bool false) w0) (exI fun (I2 : Int → List Own → PW → Nat → Prop) => (∃ (R3 : List
  Own), ∃ (Φ4 : PW), ∃ (k5 : Nat), Stable Φ4 ∧ (∀ (w6 : World) (R7 : List Own), Ctx W w6 (R ++ R7) Φ → Ctx W w6 (R3 ++ R7) Φ4) ∧ I2 0 R3 Φ4 k5) ∧ ∀ (n8 : Int) (R9 : List Own) (I10 : List Nat
  → World → Prop) (k11 : Nat), Stable I10 → I2 n8 R9 I10 k11 → Br (decide (n8 < (↑aN : Int))) (∀ (w12 : World) (R13 : List Own), Ctx W w12 (R9 ++ R13) I10 → (0 ≤ n8 ∧ n8 < (↑aN : Int)) ∧ ptrK
  none aP fun (k14 k15 : Nat) => ∃ (n16 : Int), w12.cell? (Addr.mk k14 (k15 + n8.toNat) none) = some (Value.int IntKind.i64 n16) ∧ (0 ≤ n8 ∧ n8 < (↑bN : Int)) ∧ ptrK none bP fun (k17 k18 :
  Nat) => ∃ (n19 : Int), w12.cell? (Addr.mk k17 (k18 + n8.toNat) none) = some (Value.int IntKind.i64 n19) ∧ Br (decide (n16 ≠ n19)) (∀ (w20 : World) (R21 : List Own), Ctx W w20 (R9 ++ R21)
  I10 → J (Value.bool false) w20) (I64 (n8 + 1) ∧ ∃ (R22 : List Own), ∃ (Φ23 : PW), ∃ (k24 : Nat), Stable Φ23 ∧ (∀ (w25 : World) (R26 : List Own), Ctx W w25 (R9 ++ R26) I10 → Ctx W w25 (R22
  ++ R26) Φ23) ∧ I2 (n8 + 1) R22 Φ23 k24 ∧ k24 < k11)) (∀ (w27 : World) (R28 : List Own), Ctx W w27 (R9 ++ R28) I10 → J (Value.bool true) w27))

theorem Berratalaw28_ints_run (aP : Option Addr) (aN aC : Nat) (bP : Option Addr) (bN bC : Nat) {W w : World} {R : List Own} {Φ : PW} [Stable Φ] {J : Value → World → Prop} (c : Ctx W w R Φ) (h : Berratalaw28_ints aP aN aC bP bN bC W R Φ J) : Calls Tryd.prog F.erratalaw28_ints #[.slice aP aN aC, .slice bP bN bC] w fun e w' => ∃ v, e = .returned v ∧ J v w' :=
  vcFS_sound (H := { keep := some [0, 1, 4, 5, 10, 14, 25], loops := [(4, [(5, .one (.int .i64))], [])] }) (by rw [show vcFS Tryd.prog W { keep := some [0, 1, 4, 5, 10, 14, 25], loops := [(4, [(5, .one (.int .i64))], [])] } F.erratalaw28_ints #[.slice aP aN aC, .slice bP bN bC] R Φ J = Berratalaw28_ints aP aN aC bP bN bC W R Φ J by kernel_rfl]; exact h) c

/-- errataref28.Times -/
-- loop at region 4: 4 out, 5 i; blocks 
def Berrataref28_Times (lP : Option Addr) (lN lC : Nat) (W : World) (R : List Own) (Φ : PW) (J : Value → World → Prop) : Prop :=
  ∀ (w0 : World) (R1 : List Own), Ctx W w0 (R ++ R1) Φ → Calls Tryd.prog F.errataref28_Consolidate #[Value.slice lP lN lC] w0 fun (e2 : Ending) (w3 : World) => ∃ (p4 : Option Addr), ∃ (k5 :
  Nat), ∃ (k6 : Nat), e2 = Ending.returned (Value.slice p4 k5 k6) ∧ ∃ (R7 : List Own), ∃ (Φ8 : PW), Stable Φ8 ∧ Ctx W w3 (R7 ++ R1) Φ8 ∧ exI fun (I9 : Option Addr → Nat → Nat → Int → List Own
  → PW → Nat → Prop) => (∃ (R10 : List Own), ∃ (Φ11 : PW), ∃ (k12 : Nat), Stable Φ11 ∧ (∀ (w13 : World) (R14 : List Own), Ctx W w13 (R7 ++ R14) Φ8 → Ctx W w13 (R10 ++ R14) Φ11) ∧ I9 none 0 0
  0 R10 Φ11 k12) ∧ ∀ (p15 : Option Addr) (k16 k17 : Nat) (n18 : Int) (R19 : List Own) (I20 : List Nat → World → Prop) (k21 : Nat), Stable I20 → I9 p15 k16 k17 n18 R19 I20 k21 → Br (decide
  (n18 < (↑k5 : Int))) (∀ (w22 : World) (R23 : List Own), Ctx W w22 (R19 ++ R23) I20 → ((!decide (n18 = 0)) = true → I64 (n18 - 1)) ∧ ((!decide (n18 = 0)) = true → 0 ≤ max (n18 - 1) 0 ∧ max
  (n18 - 1) 0 < (↑k5 : Int)) ∧ ptrK (some !decide (n18 = 0)) p4 fun (k24 k25 : Nat) => ∃ (n26 : Int), ((!decide (n18 = 0)) = true → w22.cell? (Addr.mk k24 (k25 + (max (n18 - 1) 0).toNat * 3)
  none) = some (Value.int IntKind.i64 n26)) ∧ ((!decide (n18 = 0)) = true → 0 ≤ n18 ∧ n18 < (↑k5 : Int)) ∧ ptrK (some !decide (n18 = 0)) p4 fun (k27 k28 : Nat) => ∃ (n29 : Int), ((!decide
  (n18 = 0)) = true → w22.cell? (Addr.mk k27 (k28 + n18.toNat * 3) none) = some (Value.int IntKind.i64 n29)) ∧ Br (decide (n18 = 0) || decide (n26 ≠ n29)) ((0 ≤ n18 ∧ n18 < (↑k5 : Int)) ∧
  ptrK none p4 fun (k30 k31 : Nat) => ∀ (w32 : World) (R33 : List Own), Ctx W w32 (R19 ++ R33) I20 → ∃ (n34 : Int), w32.cell? (Addr.mk k30 (k31 + n18.toNat * 3) none) = some (Value.int
  IntKind.i64 n34) ∧ ∀ (k35 : Nat) (w36 : World) (R37 : List Own), Ctx W w36 (Own.blk k35 [Value.int IntKind.i64 n34] 3 :: R19 ++ R37) I20 → ∃ (p38 : Option Addr), ∃ (k39 : Nat), ∃ (k40 :
  Nat), ∃ (w41 : World), Sem.run Tryd.prog (builtin Builtin.append #[43, 43] 43 #[false, false] #[Value.slice p15 k16 k17, Value.slice (some (Addr.mk k35 0 none)) 1 1]) w36 = Result.ok
  (Next.value (Value.slice p38 k39 k40)) w41 ∧ ∃ (R42 : List Own), ∃ (Φ43 : PW), Stable Φ43 ∧ Ctx W w41 (R42 ++ R37) Φ43 ∧ I64 (n18 + 1) ∧ ∃ (R44 : List Own), ∃ (Φ45 : PW), ∃ (k46 : Nat),
  Stable Φ45 ∧ (∀ (w47 : World) (R48 : List Own), Ctx W w47 (R42 ++ R48) Φ43 → Ctx W w47 (R44 ++ R48) Φ45) ∧ I9 p38 k39 k40 (n18 + 1) R44 Φ45 k46 ∧ k46 < k21) (I64 (n18 + 1) ∧ ∃ (R49 : List
  Own), ∃ (Φ50 : PW), ∃ (k51 : Nat), Stable Φ50 ∧ (∀ (w52 : World) (R53 : List Own), Ctx W w52 (R19 ++ R53) I20 → Ctx W w52 (R49 ++ R53) Φ50) ∧ I9 p15 k16 k17 (n18 + 1) R49 Φ50 k51 ∧ k51 <
  k21)) (∀ (w54 : World) (R55 : List Own), Ctx W w54 (R19 ++ R55) I20 → J (Value.slice p15 k16 k17) w54)

theorem Berrataref28_Times_run (lP : Option Addr) (lN lC : Nat) {W w : World} {R : List Own} {Φ : PW} [Stable Φ] {J : Value → World → Prop} (c : Ctx W w R Φ) (h : Berrataref28_Times lP lN lC W R Φ J) : Calls Tryd.prog F.errataref28_Times #[.slice lP lN lC] w fun e w' => ∃ v, e = .returned v ∧ J v w' :=
  vcFS_sound (H := { keep := some [0, 2, 3, 4, 5, 11, 30], loops := [(4, [(4, .one (.slice)), (5, .one (.int .i64))], [])] }) (by rw [show vcFS Tryd.prog W { keep := some [0, 2, 3, 4, 5, 11, 30], loops := [(4, [(4, .one (.slice)), (5, .one (.int .i64))], [])] } F.errataref28_Times #[.slice lP lN lC] R Φ J = Berrataref28_Times lP lN lC W R Φ J by kernel_rfl]; exact h) c

/-- errataref28.Same -/
def Berrataref28_Same (aP : Option Addr) (aN aC : Nat) (bP : Option Addr) (bN bC : Nat) (W : World) (R : List Own) (Φ : PW) (J : Value → World → Prop) : Prop :=
  ∀ (w0 : World) (R1 : List Own), Ctx W w0 (R ++ R1) Φ → Calls Tryd.prog F.errataref28_Consolidate #[Value.slice aP aN aC] w0 fun (e2 : Ending) (w3 : World) => ∃ (p4 : Option Addr), ∃ (k5 :
  Nat), ∃ (k6 : Nat), e2 = Ending.returned (Value.slice p4 k5 k6) ∧ ∃ (R7 : List Own), ∃ (Φ8 : PW), Stable Φ8 ∧ Ctx W w3 (R7 ++ R1) Φ8 ∧ ∀ (w9 : World) (R10 : List Own), Ctx W w9 (R7 ++ R10)
  Φ8 → Calls Tryd.prog F.errataref28_Consolidate #[Value.slice bP bN bC] w9 fun (e11 : Ending) (w12 : World) => ∃ (p13 : Option Addr), ∃ (k14 : Nat), ∃ (k15 : Nat), e11 = Ending.returned
  (Value.slice p13 k14 k15) ∧ ∃ (R16 : List Own), ∃ (Φ17 : PW), Stable Φ17 ∧ Ctx W w12 (R16 ++ R10) Φ17 ∧ ∀ (w18 : World) (R19 : List Own), Ctx W w18 (R16 ++ R19) Φ17 → Calls Tryd.prog
  F.errataref28_Equal #[Value.slice p4 k5 k6, Value.slice p13 k14 k15] w18 fun (e20 : Ending) (w21 : World) => ∃ (c22 : Bool), e20 = Ending.returned (Value.bool c22) ∧ ∃ (R23 : List Own), ∃
  (Φ24 : PW), Stable Φ24 ∧ Ctx W w21 (R23 ++ R19) Φ24 ∧ ∀ (w25 : World) (R26 : List Own), Ctx W w25 (R23 ++ R26) Φ24 → J (Value.bool c22) w25

theorem Berrataref28_Same_run (aP : Option Addr) (aN aC : Nat) (bP : Option Addr) (bN bC : Nat) {W w : World} {R : List Own} {Φ : PW} [Stable Φ] {J : Value → World → Prop} (c : Ctx W w R Φ) (h : Berrataref28_Same aP aN aC bP bN bC W R Φ J) : Calls Tryd.prog F.errataref28_Same #[.slice aP aN aC, .slice bP bN bC] w fun e w' => ∃ v, e = .returned v ∧ J v w' :=
  vcFS_sound (H := { keep := some [0, 1, 4] }) (by rw [show vcFS Tryd.prog W { keep := some [0, 1, 4] } F.errataref28_Same #[.slice aP aN aC, .slice bP bN bC] R Φ J = Berrataref28_Same aP aN aC bP bN bC W R Φ J by kernel_rfl]; exact h) c

/-- errataref28.Bytes -/
-- loop at region 4: 4 s, 5 i; blocks 
def Berrataref28_Bytes (lP : Option Addr) (lN lC : Nat) (W : World) (R : List Own) (Φ : PW) (J : Value → World → Prop) : Prop :=
  ∀ (w0 : World) (R1 : List Own), Ctx W w0 (R ++ R1) Φ → Calls Tryd.prog F.errataref28_Consolidate #[Value.slice lP lN lC] w0 fun (e2 : Ending) (w3 : World) => ∃ (p4 : Option Addr), ∃ (k5 :
  Nat), ∃ (k6 : Nat), e2 = Ending.returned (Value.slice p4 k5 k6) ∧ ∃ (R7 : List Own), ∃ (Φ8 : PW), Stable Φ8 ∧ Ctx W w3 (R7 ++ R1) Φ8 ∧ ∀ (w9 : World) (R10 : List Own), Ctx W w9 (R7 ++ R10)
  Φ8 → Calls Tryd.prog F.errataref01_Num #[Value.int IntKind.i64 (↑k5 : Int)] w9 fun (e11 : Ending) (w12 : World) => ∃ (s13 : ByteArray), e11 = Ending.returned (Value.string s13) ∧ ∃ (R14 :
  List Own), ∃ (Φ15 : PW), Stable Φ15 ∧ Ctx W w12 (R14 ++ R10) Φ15 ∧ exI fun (I16 : ByteArray → Int → List Own → PW → Nat → Prop) => (∃ (R17 : List Own), ∃ (Φ18 : PW), ∃ (k19 : Nat), Stable
  Φ18 ∧ (∀ (w20 : World) (R21 : List Own), Ctx W w20 (R14 ++ R21) Φ15 → Ctx W w20 (R17 ++ R21) Φ18) ∧ I16 s13 0 R17 Φ18 k19) ∧ ∀ (s22 : ByteArray) (n23 : Int) (R24 : List Own) (I25 : List Nat
  → World → Prop) (k26 : Nat), Stable I25 → I16 s22 n23 R24 I25 k26 → Br (decide (n23 < (↑k5 : Int))) (∃ (R27 : List Own), ∃ (Φ28 : PW), Stable Φ28 ∧ (∀ (w29 : World) (R30 : List Own), Ctx W
  w29 (R24 ++ R30) I25 → Ctx W w29 (R27 ++ R30) Φ28) ∧ (0 ≤ n23 ∧ n23 < (↑k5 : Int)) ∧ ptrK none p4 fun (k31 k32 : Nat) => (0 ≤ n23 ∧ n23 < (↑k5 : Int)) ∧ ptrK none p4 fun (k33 k34 : Nat) =>
  (0 ≤ n23 ∧ n23 < (↑k5 : Int)) ∧ ptrK none p4 fun (k35 k36 : Nat) => ∃ (n37 : Int), (∀ (w38 : World) (R39 : List Own), Ctx W w38 (R27 ++ R39) Φ28 → ∃ (n40 : Int), w38.cell? (Addr.mk k31 (k32
  + n23.toNat * 3) none) = some (Value.int IntKind.i64 n40) ∧ Value.int IntKind.i64 n40 = Value.int IntKind.i64 n37) ∧ ∃ (p41 : Option Addr), ∃ (k42 : Nat), ∃ (k43 : Nat), (∀ (w44 : World)
  (R45 : List Own), Ctx W w44 (R27 ++ R45) Φ28 → ∃ (p46 : Option Addr), ∃ (k47 : Nat), ∃ (k48 : Nat), w44.cell? (Addr.mk k33 (k34 + n23.toNat * 3 + 1) none) = some (Value.slice p46 k47 k48) ∧
  Value.slice p46 k47 k48 = Value.slice p41 k42 k43) ∧ ∃ (n49 : Int), (∀ (w50 : World) (R51 : List Own), Ctx W w50 (R27 ++ R51) Φ28 → ∃ (n52 : Int), w50.cell? (Addr.mk k35 (k36 + n23.toNat *
  3 + 2) none) = some (Value.int IntKind.i64 n52) ∧ Value.int IntKind.i64 n52 = Value.int IntKind.i64 n49) ∧ ∀ (w53 : World) (R54 : List Own), Ctx W w53 (R24 ++ R54) I25 → Calls Tryd.prog
  F.errataref01_Int #[Value.int IntKind.i64 n37] w53 fun (e55 : Ending) (w56 : World) => ∃ (s57 : ByteArray), e55 = Ending.returned (Value.string s57) ∧ ∃ (R58 : List Own), ∃ (Φ59 : PW),
  Stable Φ59 ∧ Ctx W w56 (R58 ++ R54) Φ59 ∧ (∀ (w60 : World) (R61 : List Own), Ctx W w60 (R58 ++ R61) Φ59 → Ctx W w60 (R27 ++ R61) Φ28) ∧ (s22.size + s57.size).le 9223372036854775807 ∧ ∀ (w62
  : World) (R63 : List Own), Ctx W w62 (R58 ++ R63) Φ59 → Calls Tryd.prog F.errataref03_RowBytes #[Value.slice p41 k42 k43] w62 fun (e64 : Ending) (w65 : World) => ∃ (s66 : ByteArray), e64 =
  Ending.returned (Value.string s66) ∧ ∃ (R67 : List Own), ∃ (Φ68 : PW), Stable Φ68 ∧ Ctx W w65 (R67 ++ R63) Φ68 ∧ (∀ (w69 : World) (R70 : List Own), Ctx W w69 (R67 ++ R70) Φ68 → Ctx W w69
  (R27 ++ R70) Φ28) ∧ ∀ (w71 : World) (R72 : List Own), Ctx W w71 (R67 ++ R72) Φ68 → Calls Tryd.prog F.errataref01_Text #[Value.string s66] w71 fun (e73 : Ending) (w74 : World) => ∃ (s75 :
  ByteArray), e73 = Ending.returned (Value.string s75) ∧ ∃ (R76 : List Own), ∃ (Φ77 : PW), Stable Φ77 ∧ Ctx W w74 (R76 ++ R72) Φ77 ∧ (∀ (w78 : World) (R79 : List Own), Ctx W w78 (R76 ++ R79)
  Φ77 → Ctx W w78 (R27 ++ R79) Φ28) ∧ ((s22 ++ s57).size + s75.size).le 9223372036854775807 ∧ ∀ (w80 : World) (R81 : List Own), Ctx W w80 (R76 ++ R81) Φ77 → Calls Tryd.prog F.errataref01_Int
  #[Value.int IntKind.i64 n49] w80 fun (e82 : Ending) (w83 : World) => ∃ (s84 : ByteArray), e82 = Ending.returned (Value.string s84) ∧ ∃ (R85 : List Own), ∃ (Φ86 : PW), Stable Φ86 ∧ Ctx W w83
  (R85 ++ R81) Φ86 ∧ (∀ (w87 : World) (R88 : List Own), Ctx W w87 (R85 ++ R88) Φ86 → Ctx W w87 (R27 ++ R88) Φ28) ∧ ((s22 ++ s57 ++ s75).size + s84.size).le 9223372036854775807 ∧ I64 (n23 + 1)
  ∧ ∃ (R89 : List Own), ∃ (Φ90 : PW), ∃ (k91 : Nat), Stable Φ90 ∧ (∀ (w92 : World) (R93 : List Own), Ctx W w92 (R85 ++ R93) Φ86 → Ctx W w92 (R89 ++ R93) Φ90) ∧ I16 (s22 ++ s57 ++ s75 ++ s84)
  (n23 + 1) R89 Φ90 k91 ∧ k91 < k26) (∀ (w94 : World) (R95 : List Own), Ctx W w94 (R24 ++ R95) I25 → J (Value.string s22) w94)

theorem Berrataref28_Bytes_run (lP : Option Addr) (lN lC : Nat) {W w : World} {R : List Own} {Φ : PW} [Stable Φ] {J : Value → World → Prop} (c : Ctx W w R Φ) (h : Berrataref28_Bytes lP lN lC W R Φ J) : Calls Tryd.prog F.errataref28_Bytes #[.slice lP lN lC] w fun e w' => ∃ v, e = .returned v ∧ J v w' :=
  vcFS_sound (H := { keep := some [0, 2, 3, 4, 5, 14], stages := [(6, [.held [(0, true), (1, true), (2, true), (8, true), (9, true), (16, true), (17, true), (3, true), (10, true), (18, true), (4, true), (11, true), (19, true), (5, true), (12, true), (20, true), (6, false), (7, true), (13, false), (14, false), (15, true), (21, false)], .stage [22, 23] none])], loops := [(4, [(4, .one (.str)), (5, .one (.int .i64))], [])] }) (by rw [show vcFS Tryd.prog W { keep := some [0, 2, 3, 4, 5, 14], stages := [(6, [.held [(0, true), (1, true), (2, true), (8, true), (9, true), (16, true), (17, true), (3, true), (10, true), (18, true), (4, true), (11, true), (19, true), (5, true), (12, true), (20, true), (6, false), (7, true), (13, false), (14, false), (15, true), (21, false)], .stage [22, 23] none])], loops := [(4, [(4, .one (.str)), (5, .one (.int .i64))], [])] } F.errataref28_Bytes #[.slice lP lN lC] R Φ J = Berrataref28_Bytes lP lN lC W R Φ J by kernel_rfl]; exact h) c

/-- errataref28.clone -/
-- known blocks: 2 d, 4 
def Berrataref28_clone (d0 : Int) (d1P : Option Addr) (d1N d1C : Nat) (d2 : Int) (n : Int) (W : World) (R : List Own) (Φ : PW) (J : Value → World → Prop) : Prop :=
  ∀ (b b : Nat), ∃ (R0 : List Own), ∃ (Φ1 : PW), Stable Φ1 ∧ (∀ (w2 : World) (R3 : List Own), Ctx W w2 (R ++ R3) Φ → Ctx W w2 (R0 ++ R3) Φ1) ∧ ∀ (k4 : Nat), (∀ (w5 : World) (R6 : List Own),
  Ctx W w5 (Own.blk k4 [] 65 :: R ++ R6) Φ → Ctx W w5 (R0 ++ R6) Φ1) ∧ ∀ (w7 : World) (R8 : List Own), Ctx W w7 (Own.blk k4 [] 65 :: R ++ R8) Φ → ∃ (p9 : Option Addr), ∃ (k10 : Nat), ∃ (k11 :
  Nat), ∃ (w12 : World), Sem.run Tryd.prog (builtin Builtin.append #[37, 37] 37 #[false, false] #[Value.slice (some (Addr.mk k4 0 none)) 0 0, Value.slice d1P d1N d1C]) w7 = Result.ok
  (Next.value (Value.slice p9 k10 k11)) w12 ∧ ∃ (R13 : List Own), ∃ (Φ14 : PW), Stable Φ14 ∧ Ctx W w12 (R13 ++ R8) Φ14 ∧ (∀ (w15 : World) (R16 : List Own), Ctx W w15 (R13 ++ R16) Φ14 → Ctx W
  w15 (R0 ++ R16) Φ1) ∧ ∀ (w17 : World) (R18 : List Own), Ctx W w17 (R13 ++ R18) Φ14 → J (Value.agg #[Value.int IntKind.i64 d0, Value.slice p9 k10 k11, Value.int IntKind.i64 n]) w17

theorem Berrataref28_clone_run (d0 : Int) (d1P : Option Addr) (d1N d1C : Nat) (d2 : Int) (n : Int) {W w : World} {R : List Own} {Φ : PW} [Stable Φ] {J : Value → World → Prop} (c : Ctx W w R Φ) (h : Berrataref28_clone d0 d1P d1N d1C d2 n W R Φ J) : Calls Tryd.prog F.errataref28_clone #[.agg #[.int .i64 d0, .slice d1P d1N d1C, .int .i64 d2], .int .i64 n] w fun e w' => ∃ v, e = .returned v ∧ J v w' :=
  vcFS_sound (H := { keep := some [1, 2, 4], track := [2, 4], stages := [(1, [.held [(0, true), (3, true), (6, true), (1, true), (4, true), (2, false), (5, false)], .stage [7] (some 8)])] }) (by rw [show vcFS Tryd.prog W { keep := some [1, 2, 4], track := [2, 4], stages := [(1, [.held [(0, true), (3, true), (6, true), (1, true), (4, true), (2, false), (5, false)], .stage [7] (some 8)])] } F.errataref28_clone #[.agg #[.int .i64 d0, .slice d1P d1N d1C, .int .i64 d2], .int .i64 n] R Φ J = Berrataref28_clone d0 d1P d1N d1C d2 n W R Φ J by kernel_rfl]; exact h) c

/-- errataref28.sorted -/
-- loop at region 8: 5 out, 6 i, 7 k; blocks 
def Berrataref28_sorted (lP : Option Addr) (lN lC : Nat) (W : World) (R : List Own) (Φ : PW) (J : Value → World → Prop) : Prop :=
  Br (decide ((↑lN : Int) < 2)) (∀ (w0 : World) (R1 : List Own), Ctx W w0 (R ++ R1) Φ → J (Value.slice lP lN lC) w0) (((2 : Int) = 0 → False) ∧ I64 ((↑lN : Int).tdiv 2) ∧ (0 ≤ (↑lN :
  Int).tdiv 2 ∧ (↑lN : Int).tdiv 2 ≤ (↑lC : Int)) ∧ ∀ (w2 : World) (R3 : List Own), Ctx W w2 (R ++ R3) Φ → Calls Tryd.prog F.errataref28_sorted #[Value.slice (subPtr lP 3 0 lC) ((↑lN :
  Int).tdiv 2).toNat lC] w2 fun (e4 : Ending) (w5 : World) => ∃ (p6 : Option Addr), ∃ (k7 : Nat), ∃ (k8 : Nat), e4 = Ending.returned (Value.slice p6 k7 k8) ∧ ∃ (R9 : List Own), ∃ (Φ10 : PW),
  Stable Φ10 ∧ Ctx W w5 (R9 ++ R3) Φ10 ∧ ((2 : Int) = 0 → False) ∧ I64 ((↑lN : Int).tdiv 2) ∧ (0 ≤ (↑lN : Int).tdiv 2 ∧ (↑lN : Int).tdiv 2 ≤ (↑lN : Int) ∧ lN ≤ lC) ∧ ∀ (w11 : World) (R12 :
  List Own), Ctx W w11 (R9 ++ R12) Φ10 → Calls Tryd.prog F.errataref28_sorted #[Value.slice (subPtr lP 3 ((↑lN : Int).tdiv 2).toNat lC) (lN - ((↑lN : Int).tdiv 2).toNat) (lC - ((↑lN :
  Int).tdiv 2).toNat)] w11 fun (e13 : Ending) (w14 : World) => ∃ (p15 : Option Addr), ∃ (k16 : Nat), ∃ (k17 : Nat), e13 = Ending.returned (Value.slice p15 k16 k17) ∧ ∃ (R18 : List Own), ∃
  (Φ19 : PW), Stable Φ19 ∧ Ctx W w14 (R18 ++ R12) Φ19 ∧ exI fun (I20 : Option Addr → Nat → Nat → Int → Int → List Own → PW → Nat → Prop) => (∃ (R21 : List Own), ∃ (Φ22 : PW), ∃ (k23 : Nat),
  Stable Φ22 ∧ (∀ (w24 : World) (R25 : List Own), Ctx W w24 (R18 ++ R25) Φ19 → Ctx W w24 (R21 ++ R25) Φ22) ∧ I20 none 0 0 0 0 R21 Φ22 k23) ∧ ∀ (p26 : Option Addr) (k27 k28 : Nat) (n29 n30 :
  Int) (R31 : List Own) (I32 : List Nat → World → Prop) (k33 : Nat), Stable I32 → I20 p26 k27 k28 n29 n30 R31 I32 k33 → ∀ (w34 : World) (R35 : List Own), Ctx W w34 (R31 ++ R35) I32 → Br
  (decide (n29 < (↑k7 : Int)) || decide (n30 < (↑k16 : Int))) (∀ (w36 : World) (R37 : List Own), Ctx W w36 (R31 ++ R37) I32 → Br (decide (n29 < (↑k7 : Int)) && decide (n30 < (↑k16 : Int))) (∃
  (R38 : List Own), ∃ (Φ39 : PW), Stable Φ39 ∧ (∀ (w40 : World) (R41 : List Own), Ctx W w40 (R31 ++ R41) I32 → Ctx W w40 (R38 ++ R41) Φ39) ∧ (0 ≤ n29 ∧ n29 < (↑k7 : Int)) ∧ ptrK none p6 fun
  (k42 k43 : Nat) => (0 ≤ n30 ∧ n30 < (↑k16 : Int)) ∧ ptrK none p15 fun (k44 k45 : Nat) => ∃ (n46 : Int), ∃ (p47 : Option Addr), ∃ (k48 : Nat), ∃ (k49 : Nat), ∃ (n50 : Int), (∀ (w51 : World)
  (R52 : List Own), Ctx W w51 (R38 ++ R52) Φ39 → ∃ (n53 : Int), ∃ (p54 : Option Addr), ∃ (k55 : Nat), ∃ (k56 : Nat), ∃ (n57 : Int), RowAt w51 k42 (k43 + n29.toNat * 3) [Value.int IntKind.i64
  n53, Value.slice p54 k55 k56, Value.int IntKind.i64 n57] ∧ Value.agg #[Value.int IntKind.i64 n53, Value.slice p54 k55 k56, Value.int IntKind.i64 n57] = Value.agg #[Value.int IntKind.i64
  n46, Value.slice p47 k48 k49, Value.int IntKind.i64 n50]) ∧ ∃ (n58 : Int), ∃ (p59 : Option Addr), ∃ (k60 : Nat), ∃ (k61 : Nat), ∃ (n62 : Int), (∀ (w63 : World) (R64 : List Own), Ctx W w63
  (R38 ++ R64) Φ39 → ∃ (n65 : Int), ∃ (p66 : Option Addr), ∃ (k67 : Nat), ∃ (k68 : Nat), ∃ (n69 : Int), RowAt w63 k44 (k45 + n30.toNat * 3) [Value.int IntKind.i64 n65, Value.slice p66 k67
  k68, Value.int IntKind.i64 n69] ∧ Value.agg #[Value.int IntKind.i64 n65, Value.slice p66 k67 k68, Value.int IntKind.i64 n69] = Value.agg #[Value.int IntKind.i64 n58, Value.slice p59 k60
  k61, Value.int IntKind.i64 n62]) ∧ ∀ (w70 : World) (R71 : List Own), Ctx W w70 (R31 ++ R71) I32 → Calls Tryd.prog F.errataref28_Compare #[Value.agg #[Value.int IntKind.i64 n46, Value.slice
  p47 k48 k49, Value.int IntKind.i64 n50], Value.agg #[Value.int IntKind.i64 n58, Value.slice p59 k60 k61, Value.int IntKind.i64 n62]] w70 fun (e72 : Ending) (w73 : World) => ∃ (n74 : Int),
  e72 = Ending.returned (Value.int IntKind.i64 n74) ∧ ∃ (R75 : List Own), ∃ (Φ76 : PW), Stable Φ76 ∧ Ctx W w73 (R75 ++ R71) Φ76 ∧ Br (decide (n74 ≤ 0)) ((0 ≤ n29 ∧ n29 < (↑k7 : Int)) ∧ ptrK
  none p6 fun (k77 k78 : Nat) => ∀ (w79 : World) (R80 : List Own), Ctx W w79 (R75 ++ R80) Φ76 → ∃ (n81 : Int), ∃ (p82 : Option Addr), ∃ (k83 : Nat), ∃ (k84 : Nat), ∃ (n85 : Int), RowAt w79
  k77 (k78 + n29.toNat * 3) [Value.int IntKind.i64 n81, Value.slice p82 k83 k84, Value.int IntKind.i64 n85] ∧ ∀ (k86 : Nat) (w87 : World) (R88 : List Own), Ctx W w87 (Own.blk k86 [Value.int
  IntKind.i64 n81, Value.slice p82 k83 k84, Value.int IntKind.i64 n85] 39 :: R75 ++ R88) Φ76 → ∃ (p89 : Option Addr), ∃ (k90 : Nat), ∃ (k91 : Nat), ∃ (w92 : World), Sem.run Tryd.prog (builtin
  Builtin.append #[22, 22] 22 #[false, false] #[Value.slice p26 k27 k28, Value.slice (some (Addr.mk k86 0 none)) 1 1]) w87 = Result.ok (Next.value (Value.slice p89 k90 k91)) w92 ∧ ∃ (R93 :
  List Own), ∃ (Φ94 : PW), Stable Φ94 ∧ Ctx W w92 (R93 ++ R88) Φ94 ∧ I64 (n29 + 1) ∧ ∃ (R95 : List Own), ∃ (Φ96 : PW), ∃ (k97 : Nat), Stable Φ96 ∧ (∀ (w98 : World) (R99 : List Own), Ctx W w98
  (R93 ++ R99) Φ94 → Ctx W w98 (R95 ++ R99) Φ96) ∧ I20 p89 k90 k91 (n29 + 1) n30 R95 Φ96 k97 ∧ k97 < k33) ((0 ≤ n30 ∧ n30 < (↑k16 : Int)) ∧ ptrK none p15 fun (k100 k101 : Nat) => ∀ (w102 :
  World) (R103 : List Own), Ctx W w102 (R75 ++ R103) Φ76 → ∃ (n104 : Int), ∃ (p105 : Option Addr), ∃ (k106 : Nat), ∃ (k107 : Nat), ∃ (n108 : Int), RowAt w102 k100 (k101 + n30.toNat * 3)
  [Value.int IntKind.i64 n104, Value.slice p105 k106 k107, Value.int IntKind.i64 n108] ∧ ∀ (k109 : Nat) (w110 : World) (R111 : List Own), Ctx W w110 (Own.blk k109 [Value.int IntKind.i64 n104,
  Value.slice p105 k106 k107, Value.int IntKind.i64 n108] 39 :: R75 ++ R111) Φ76 → ∃ (p112 : Option Addr), ∃ (k113 : Nat), ∃ (k114 : Nat), ∃ (w115 : World), Sem.run Tryd.prog (builtin
  Builtin.append #[22, 22] 22 #[false, false] #[Value.slice p26 k27 k28, Value.slice (some (Addr.mk k109 0 none)) 1 1]) w110 = Result.ok (Next.value (Value.slice p112 k113 k114)) w115 ∧ ∃
  (R116 : List Own), ∃ (Φ117 : PW), Stable Φ117 ∧ Ctx W w115 (R116 ++ R111) Φ117 ∧ I64 (n30 + 1) ∧ ∃ (R118 : List Own), ∃ (Φ119 : PW), ∃ (k120 : Nat), Stable Φ119 ∧ (∀ (w121 : World) (R122 :
  List Own), Ctx W w121 (R116 ++ R122) Φ117 → Ctx W w121 (R118 ++ R122) Φ119) ∧ I20 p112 k113 k114 n29 (n30 + 1) R118 Φ119 k120 ∧ k120 < k33)) (Br (decide ((↑k16 : Int) ≤ n30)) ((0 ≤ n29 ∧
  n29 < (↑k7 : Int)) ∧ ptrK none p6 fun (k123 k124 : Nat) => ∀ (w125 : World) (R126 : List Own), Ctx W w125 (R31 ++ R126) I32 → ∃ (n127 : Int), ∃ (p128 : Option Addr), ∃ (k129 : Nat), ∃ (k130
  : Nat), ∃ (n131 : Int), RowAt w125 k123 (k124 + n29.toNat * 3) [Value.int IntKind.i64 n127, Value.slice p128 k129 k130, Value.int IntKind.i64 n131] ∧ ∀ (k132 : Nat) (w133 : World) (R134 :
  List Own), Ctx W w133 (Own.blk k132 [Value.int IntKind.i64 n127, Value.slice p128 k129 k130, Value.int IntKind.i64 n131] 39 :: R31 ++ R134) I32 → ∃ (p135 : Option Addr), ∃ (k136 : Nat), ∃
  (k137 : Nat), ∃ (w138 : World), Sem.run Tryd.prog (builtin Builtin.append #[22, 22] 22 #[false, false] #[Value.slice p26 k27 k28, Value.slice (some (Addr.mk k132 0 none)) 1 1]) w133 =
  Result.ok (Next.value (Value.slice p135 k136 k137)) w138 ∧ ∃ (R139 : List Own), ∃ (Φ140 : PW), Stable Φ140 ∧ Ctx W w138 (R139 ++ R134) Φ140 ∧ I64 (n29 + 1) ∧ ∃ (R141 : List Own), ∃ (Φ142 :
  PW), ∃ (k143 : Nat), Stable Φ142 ∧ (∀ (w144 : World) (R145 : List Own), Ctx W w144 (R139 ++ R145) Φ140 → Ctx W w144 (R141 ++ R145) Φ142) ∧ I20 p135 k136 k137 (n29 + 1) n30 R141 Φ142 k143 ∧
  k143 < k33) ((0 ≤ n30 ∧ n30 < (↑k16 : Int)) ∧ ptrK none p15 fun (k146 k147 : Nat) => ∀ (w148 : World) (R149 : List Own), Ctx W w148 (R31 ++ R149) I32 → ∃ (n150 : Int), ∃ (p151 : Option
  Addr), ∃ (k152 : Nat), ∃ (k153 : Nat), ∃ (n154 : Int), RowAt w148 k146 (k147 + n30.toNat * 3) [Value.int IntKind.i64 n150, Value.slice p151 k152 k153, Value.int IntKind.i64 n154] ∧ ∀ (k155
  : Nat) (w156 : World) (R157 : List Own), Ctx W w156 (Own.blk k155 [Value.int IntKind.i64 n150, Value.slice p151 k152 k153, Value.int IntKind.i64 n154] 39 :: R31 ++ R157) I32 → ∃ (p158 :
  Option Addr), ∃ (k159 : Nat), ∃ (k160 : Nat), ∃ (w161 : World), Sem.run Tryd.prog (builtin Builtin.append #[22, 22] 22 #[false, false] #[Value.slice p26 k27 k28, Value.slice (some (Addr.mk
  k155 0 none)) 1 1]) w156 = Result.ok (Next.value (Value.slice p158 k159 k160)) w161 ∧ ∃ (R162 : List Own), ∃ (Φ163 : PW), Stable Φ163 ∧ Ctx W w161 (R162 ++ R157) Φ163 ∧ I64 (n30 + 1) ∧ ∃
  (R164 : List Own), ∃ (Φ165 : PW), ∃ (k166 : Nat), Stable Φ165 ∧ (∀ (w167 : World) (R168 : List Own), Ctx W w167 (R162 ++ R168) Φ163 → Ctx W w167 (R164 ++ R168) Φ165) ∧ I20 p158 k159 k160
  n29 (n30 + 1) R164 Φ165 k166 ∧ k166 < k33))) (∀ (w169 : World) (R170 : List Own), Ctx W w169 (R31 ++ R170) I32 → J (Value.slice p26 k27 k28) w169))

theorem Berrataref28_sorted_run (lP : Option Addr) (lN lC : Nat) {W w : World} {R : List Own} {Φ : PW} [Stable Φ] {J : Value → World → Prop} (c : Ctx W w R Φ) (h : Berrataref28_sorted lP lN lC W R Φ J) : Calls Tryd.prog F.errataref28_sorted #[.slice lP lN lC] w fun e w' => ∃ v, e = .returned v ∧ J v w' :=
  vcFS_sound (H := { keep := some [0, 2, 3, 4, 5, 6, 7, 8, 11, 34, 48, 59], stages := [(11, [.held [(0, true), (1, true), (4, true), (5, true), (2, true), (6, true), (3, true), (7, true)], .stage [] (some 8), .stage [9, 10] none])], loops := [(8, [(5, .one (.slice)), (6, .one (.int .i64)), (7, .one (.int .i64))], [])] }) (by rw [show vcFS Tryd.prog W { keep := some [0, 2, 3, 4, 5, 6, 7, 8, 11, 34, 48, 59], stages := [(11, [.held [(0, true), (1, true), (4, true), (5, true), (2, true), (6, true), (3, true), (7, true)], .stage [] (some 8), .stage [9, 10] none])], loops := [(8, [(5, .one (.slice)), (6, .one (.int .i64)), (7, .one (.int .i64))], [])] } F.errataref28_sorted #[.slice lP lN lC] R Φ J = Berrataref28_sorted lP lN lC W R Φ J by kernel_rfl]; exact h) c

/-- errataref01.Num -/
def Berrataref01_Num (n : Int) (W : World) (R : List Own) (Φ : PW) (J : Value → World → Prop) : Prop :=
  Br (decide (n < 0)) (∀ (w0 : World) (R1 : List Own), Ctx W w0 (R ++ R1) Φ → J (Value.string (ByteArray.mk #[])) w0) (∀ (w2 : World) (R3 : List Own), Ctx W w2 (R ++ R3) Φ → Calls Tryd.prog
  F.errataref01_Int #[Value.int IntKind.i64 n] w2 fun (e4 : Ending) (w5 : World) => ∃ (s6 : ByteArray), e4 = Ending.returned (Value.string s6) ∧ ∃ (R7 : List Own), ∃ (Φ8 : PW), Stable Φ8 ∧
  Ctx W w5 (R7 ++ R3) Φ8 ∧ ∀ (w9 : World) (R10 : List Own), Ctx W w9 (R7 ++ R10) Φ8 → J (Value.string s6) w9)

theorem Berrataref01_Num_run (n : Int) {W w : World} {R : List Own} {Φ : PW} [Stable Φ] {J : Value → World → Prop} (c : Ctx W w R Φ) (h : Berrataref01_Num n W R Φ J) : Calls Tryd.prog F.errataref01_Num #[.int .i64 n] w fun e w' => ∃ v, e = .returned v ∧ J v w' :=
  vcFS_sound (H := { keep := some [0, 2, 4] }) (by rw [show vcFS Tryd.prog W { keep := some [0, 2, 4] } F.errataref01_Num #[.int .i64 n] R Φ J = Berrataref01_Num n W R Φ J by kernel_rfl]; exact h) c

/-- errataref01.Int -/
def Berrataref01_Int (n : Int) (W : World) (R : List Own) (Φ : PW) (J : Value → World → Prop) : Prop :=
  Br (decide (n < 0)) (∀ (w0 : World) (R1 : List Own), Ctx W w0 (R ++ R1) Φ → Calls Tryd.prog F.errataref01_digits #[Value.int IntKind.i64 n] w0 fun (e2 : Ending) (w3 : World) => ∃ (s4 :
  ByteArray), e2 = Ending.returned (Value.string s4) ∧ ∃ (R5 : List Own), ∃ (Φ6 : PW), Stable Φ6 ∧ Ctx W w3 (R5 ++ R1) Φ6 ∧ ((ByteArray.mk #[OfNat.ofNat 45]).size + s4.size).le
  9223372036854775807 ∧ ((ByteArray.mk #[OfNat.ofNat 45] ++ s4).size + (ByteArray.mk #[OfNat.ofNat 59]).size).le 9223372036854775807 ∧ ∀ (w7 : World) (R8 : List Own), Ctx W w7 (R5 ++ R8) Φ6 →
  J (Value.string (ByteArray.mk #[OfNat.ofNat 45] ++ s4 ++ ByteArray.mk #[OfNat.ofNat 59])) w7) (I64 (0 - n) ∧ ∀ (w9 : World) (R10 : List Own), Ctx W w9 (R ++ R10) Φ → Calls Tryd.prog
  F.errataref01_digits #[Value.int IntKind.i64 (0 - n)] w9 fun (e11 : Ending) (w12 : World) => ∃ (s13 : ByteArray), e11 = Ending.returned (Value.string s13) ∧ ∃ (R14 : List Own), ∃ (Φ15 :
  PW), Stable Φ15 ∧ Ctx W w12 (R14 ++ R10) Φ15 ∧ (s13.size + (ByteArray.mk #[OfNat.ofNat 59]).size).le 9223372036854775807 ∧ ∀ (w16 : World) (R17 : List Own), Ctx W w16 (R14 ++ R17) Φ15 → J
  (Value.string (s13 ++ ByteArray.mk #[OfNat.ofNat 59])) w16)

theorem Berrataref01_Int_run (n : Int) {W w : World} {R : List Own} {Φ : PW} [Stable Φ] {J : Value → World → Prop} (c : Ctx W w R Φ) (h : Berrataref01_Int n W R Φ J) : Calls Tryd.prog F.errataref01_Int #[.int .i64 n] w fun e w' => ∃ v, e = .returned v ∧ J v w' :=
  vcFS_sound (H := { keep := some [0, 2, 4] }) (by rw [show vcFS Tryd.prog W { keep := some [0, 2, 4] } F.errataref01_Int #[.int .i64 n] R Φ J = Berrataref01_Int n W R Φ J by kernel_rfl]; exact h) c

/-- errataref01.Text -/
def Berrataref01_Text (s : ByteArray) (W : World) (R : List Own) (Φ : PW) (J : Value → World → Prop) : Prop :=
  I64 (0 - (↑s.size : Int)) ∧ ∀ (w0 : World) (R1 : List Own), Ctx W w0 (R ++ R1) Φ → Calls Tryd.prog F.errataref01_digits #[Value.int IntKind.i64 (0 - (↑s.size : Int))] w0 fun (e2 : Ending)
  (w3 : World) => ∃ (s4 : ByteArray), e2 = Ending.returned (Value.string s4) ∧ ∃ (R5 : List Own), ∃ (Φ6 : PW), Stable Φ6 ∧ Ctx W w3 (R5 ++ R1) Φ6 ∧ (s4.size + (ByteArray.mk #[OfNat.ofNat
  58]).size).le 9223372036854775807 ∧ ((s4 ++ ByteArray.mk #[OfNat.ofNat 58]).size + s.size).le 9223372036854775807 ∧ ((s4 ++ ByteArray.mk #[OfNat.ofNat 58] ++ s).size + (ByteArray.mk
  #[OfNat.ofNat 44]).size).le 9223372036854775807 ∧ ∀ (w7 : World) (R8 : List Own), Ctx W w7 (R5 ++ R8) Φ6 → J (Value.string (s4 ++ ByteArray.mk #[OfNat.ofNat 58] ++ s ++ ByteArray.mk
  #[OfNat.ofNat 44])) w7

theorem Berrataref01_Text_run (s : ByteArray) {W w : World} {R : List Own} {Φ : PW} [Stable Φ] {J : Value → World → Prop} (c : Ctx W w R Φ) (h : Berrataref01_Text s W R Φ J) : Calls Tryd.prog F.errataref01_Text #[.string s] w fun e w' => ∃ v, e = .returned v ∧ J v w' :=
  vcFS_sound (H := { keep := some [0, 2] }) (by rw [show vcFS Tryd.prog W { keep := some [0, 2] } F.errataref01_Text #[.string s] R Φ J = Berrataref01_Text s W R Φ J by kernel_rfl]; exact h) c

/-- errataref03.RowBytes -/
-- loop at region 3: 3 s, 4 i; blocks 
def Berrataref03_RowBytes (rP : Option Addr) (rN rC : Nat) (W : World) (R : List Own) (Φ : PW) (J : Value → World → Prop) : Prop :=
  ∀ (w0 : World) (R1 : List Own), Ctx W w0 (R ++ R1) Φ → Calls Tryd.prog F.errataref01_Num #[Value.int IntKind.i64 (↑rN : Int)] w0 fun (e2 : Ending) (w3 : World) => ∃ (s4 : ByteArray), e2 =
  Ending.returned (Value.string s4) ∧ ∃ (R5 : List Own), ∃ (Φ6 : PW), Stable Φ6 ∧ Ctx W w3 (R5 ++ R1) Φ6 ∧ exI fun (I7 : ByteArray → Int → List Own → PW → Nat → Prop) => (∃ (R8 : List Own), ∃
  (Φ9 : PW), ∃ (k10 : Nat), Stable Φ9 ∧ (∀ (w11 : World) (R12 : List Own), Ctx W w11 (R5 ++ R12) Φ6 → Ctx W w11 (R8 ++ R12) Φ9) ∧ I7 s4 0 R8 Φ9 k10) ∧ ∀ (s13 : ByteArray) (n14 : Int) (R15 :
  List Own) (I16 : List Nat → World → Prop) (k17 : Nat), Stable I16 → I7 s13 n14 R15 I16 k17 → Br (decide (n14 < (↑rN : Int))) ((0 ≤ n14 ∧ n14 < (↑rN : Int)) ∧ ptrK none rP fun (k18 k19 :
  Nat) => ∀ (w20 : World) (R21 : List Own), Ctx W w20 (R15 ++ R21) I16 → ∃ (n22 : Int), ∃ (n23 : Int), ∃ (s24 : ByteArray), RowAt w20 k18 (k19 + n14.toNat * 3) [Value.int IntKind.i64 n22,
  Value.int IntKind.i64 n23, Value.string s24] ∧ ∀ (w25 : World) (R26 : List Own), Ctx W w25 (R15 ++ R26) I16 → Calls Tryd.prog F.errataref03_Bytes #[Value.agg #[Value.int IntKind.i64 n22,
  Value.int IntKind.i64 n23, Value.string s24]] w25 fun (e27 : Ending) (w28 : World) => ∃ (s29 : ByteArray), e27 = Ending.returned (Value.string s29) ∧ ∃ (R30 : List Own), ∃ (Φ31 : PW),
  Stable Φ31 ∧ Ctx W w28 (R30 ++ R26) Φ31 ∧ (s13.size + s29.size).le 9223372036854775807 ∧ I64 (n14 + 1) ∧ ∃ (R32 : List Own), ∃ (Φ33 : PW), ∃ (k34 : Nat), Stable Φ33 ∧ (∀ (w35 : World) (R36
  : List Own), Ctx W w35 (R30 ++ R36) Φ31 → Ctx W w35 (R32 ++ R36) Φ33) ∧ I7 (s13 ++ s29) (n14 + 1) R32 Φ33 k34 ∧ k34 < k17) (∀ (w37 : World) (R38 : List Own), Ctx W w37 (R15 ++ R38) I16 → J
  (Value.string s13) w37)

theorem Berrataref03_RowBytes_run (rP : Option Addr) (rN rC : Nat) {W w : World} {R : List Own} {Φ : PW} [Stable Φ] {J : Value → World → Prop} (c : Ctx W w R Φ) (h : Berrataref03_RowBytes rP rN rC W R Φ J) : Calls Tryd.prog F.errataref03_RowBytes #[.slice rP rN rC] w fun e w' => ∃ v, e = .returned v ∧ J v w' :=
  vcFS_sound (H := { keep := some [0, 2, 3, 4, 11], loops := [(3, [(3, .one (.str)), (4, .one (.int .i64))], [])] }) (by rw [show vcFS Tryd.prog W { keep := some [0, 2, 3, 4, 11], loops := [(3, [(3, .one (.str)), (4, .one (.int .i64))], [])] } F.errataref03_RowBytes #[.slice rP rN rC] R Φ J = Berrataref03_RowBytes rP rN rC W R Φ J by kernel_rfl]; exact h) c

/-- errataref01.digits -/
def Berrataref01_digits (n : Int) (W : World) (R : List Own) (Φ : PW) (J : Value → World → Prop) : Prop :=
  ((10 : Int) = 0 → False) ∧ I64 (48 - n.tmod 10) ∧ ∀ (k0 : Nat) (w1 : World) (R2 : List Own), Ctx W w1 (Own.blk k0 [Value.int IntKind.u8 (IntKind.u8.wrap (48 - n.tmod 10))] 5 :: R ++ R2) Φ →
  ∃ (s3 : ByteArray), ∃ (w4 : World), Sem.run Tryd.prog (convert 71 9 (Value.slice (some (Addr.mk k0 0 none)) 1 1)) w1 = Result.ok (Value.string s3) w4 ∧ ∃ (R5 : List Own), ∃ (Φ6 : PW),
  Stable Φ6 ∧ Ctx W w4 (R5 ++ R2) Φ6 ∧ Br (decide (-10 < n)) (∀ (w7 : World) (R8 : List Own), Ctx W w7 (R5 ++ R8) Φ6 → J (Value.string s3) w7) (((10 : Int) = 0 → False) ∧ I64 (n.tdiv 10) ∧ ∀
  (w9 : World) (R10 : List Own), Ctx W w9 (R5 ++ R10) Φ6 → Calls Tryd.prog F.errataref01_digits #[Value.int IntKind.i64 (n.tdiv 10)] w9 fun (e11 : Ending) (w12 : World) => ∃ (s13 :
  ByteArray), e11 = Ending.returned (Value.string s13) ∧ ∃ (R14 : List Own), ∃ (Φ15 : PW), Stable Φ15 ∧ Ctx W w12 (R14 ++ R10) Φ15 ∧ (s13.size + s3.size).le 9223372036854775807 ∧ ∀ (w16 :
  World) (R17 : List Own), Ctx W w16 (R14 ++ R17) Φ15 → J (Value.string (s13 ++ s3)) w16)

theorem Berrataref01_digits_run (n : Int) {W w : World} {R : List Own} {Φ : PW} [Stable Φ] {J : Value → World → Prop} (c : Ctx W w R Φ) (h : Berrataref01_digits n W R Φ J) : Calls Tryd.prog F.errataref01_digits #[.int .i64 n] w fun e w' => ∃ v, e = .returned v ∧ J v w' :=
  vcFS_sound (H := { keep := some [0, 2, 3, 11] }) (by rw [show vcFS Tryd.prog W { keep := some [0, 2, 3, 11] } F.errataref01_digits #[.int .i64 n] R Φ J = Berrataref01_digits n W R Φ J by kernel_rfl]; exact h) c

/-- errataref03.Bytes -/
-- known blocks: 1 v
def Berrataref03_Bytes (v0 : Int) (v1 : Int) (v2 : ByteArray) (W : World) (R : List Own) (Φ : PW) (J : Value → World → Prop) : Prop :=
  ∀ (b : Nat), ∃ (R0 : List Own), ∃ (Φ1 : PW), Stable Φ1 ∧ (∀ (w2 : World) (R3 : List Own), Ctx W w2 (R ++ R3) Φ → Ctx W w2 (R0 ++ R3) Φ1) ∧ ∀ (w4 : World) (R5 : List Own), Ctx W w4 (R ++ R5)
  Φ → Calls Tryd.prog F.errataref01_Int #[Value.int IntKind.i64 v0] w4 fun (e6 : Ending) (w7 : World) => ∃ (s8 : ByteArray), e6 = Ending.returned (Value.string s8) ∧ ∃ (R9 : List Own), ∃ (Φ10
  : PW), Stable Φ10 ∧ Ctx W w7 (R9 ++ R5) Φ10 ∧ (∀ (w11 : World) (R12 : List Own), Ctx W w11 (R9 ++ R12) Φ10 → Ctx W w11 (R0 ++ R12) Φ1) ∧ ∀ (w13 : World) (R14 : List Own), Ctx W w13 (R9 ++
  R14) Φ10 → Calls Tryd.prog F.errataref01_Int #[Value.int IntKind.i64 v1] w13 fun (e15 : Ending) (w16 : World) => ∃ (s17 : ByteArray), e15 = Ending.returned (Value.string s17) ∧ ∃ (R18 :
  List Own), ∃ (Φ19 : PW), Stable Φ19 ∧ Ctx W w16 (R18 ++ R14) Φ19 ∧ (∀ (w20 : World) (R21 : List Own), Ctx W w20 (R18 ++ R21) Φ19 → Ctx W w20 (R0 ++ R21) Φ1) ∧ (s8.size + s17.size).le
  9223372036854775807 ∧ ∀ (w22 : World) (R23 : List Own), Ctx W w22 (R18 ++ R23) Φ19 → Calls Tryd.prog F.errataref01_Text #[Value.string v2] w22 fun (e24 : Ending) (w25 : World) => ∃ (s26 :
  ByteArray), e24 = Ending.returned (Value.string s26) ∧ ∃ (R27 : List Own), ∃ (Φ28 : PW), Stable Φ28 ∧ Ctx W w25 (R27 ++ R23) Φ28 ∧ (∀ (w29 : World) (R30 : List Own), Ctx W w29 (R27 ++ R30)
  Φ28 → Ctx W w29 (R0 ++ R30) Φ1) ∧ ((s8 ++ s17).size + s26.size).le 9223372036854775807 ∧ ∀ (w31 : World) (R32 : List Own), Ctx W w31 (R27 ++ R32) Φ28 → J (Value.string (s8 ++ s17 ++ s26))
  w31

theorem Berrataref03_Bytes_run (v0 : Int) (v1 : Int) (v2 : ByteArray) {W w : World} {R : List Own} {Φ : PW} [Stable Φ] {J : Value → World → Prop} (c : Ctx W w R Φ) (h : Berrataref03_Bytes v0 v1 v2 W R Φ J) : Calls Tryd.prog F.errataref03_Bytes #[.agg #[.int .i64 v0, .int .i64 v1, .string v2]] w fun e w' => ∃ v, e = .returned v ∧ J v w' :=
  vcFS_sound (H := { keep := some [1, 2], track := [1], stages := [(1, [.held [(0, true), (3, true), (7, true), (1, true), (4, true), (8, true), (2, false), (5, false), (6, true), (9, false)], .stage [10, 11] none])] }) (by rw [show vcFS Tryd.prog W { keep := some [1, 2], track := [1], stages := [(1, [.held [(0, true), (3, true), (7, true), (1, true), (4, true), (8, true), (2, false), (5, false), (6, true), (9, false)], .stage [10, 11] none])] } F.errataref03_Bytes #[.agg #[.int .i64 v0, .int .i64 v1, .string v2]] R Φ J = Berrataref03_Bytes v0 v1 v2 W R Φ J by kernel_rfl]; exact h) c

end Go.Proofs.YtnapfhbibikbiaaDoor
end

/-
  Concat, Add, Consolidated, walked.
-/
section
set_option linter.unusedVariables false
set_option linter.unusedSimpArgs false
namespace Go.Vc
section
variable {W w : World} {S : List Own} {Φ : PW}

/-- append of new zeroes to nothing, taken as room -/
theorem Ctx.grow0 [Stable Φ] {P : Program} (c : Ctx W w S Φ) {ts tn ty t : TypeId} {kb : Array Bool} {size bytes : Nat} (hb : appB P ts t size bytes = true) (htn : P.underlying tn = some (.int .i64)) (m : Nat) (h0 : 0 < m) (hm : m ≤ 1000000) (hpos : 0 < size) (hbytes : bytes ≤ 1000) :
    ∃ g cap' w', Sem.run P (builtin Builtin.append #[ts, tn] ty kb #[.slice none 0 0, .int .i64 m]) w = .ok (.value (.slice (some ⟨g, 0, none⟩) m cap')) w' ∧ m ≤ cap' ∧ Ctx W w' (.buf (some ⟨g, 0, none⟩) 0 cap' [] t size :: S) Φ := by
  obtain ⟨i, z, e1, e2, e3, e4, e5, e6⟩ := appB_out hb
  subst e4
  have hmb : m * i.bytes ≤ 1000000 * 1000 := Nat.mul_le_mul hm (by omega)
  have hr := Go.Lib.run_append_nil_zeros (P := P) w ts tn ty t i z .i64 .i64 e1 htn e2 e3 m h0 hpos (by omega) (by omega)
  have hge := grownCap_ge w m 0 t
  have hcm : grownCap w m 0 t ≤ maxLen := grownCap_le_maxLen w m 0 t (by simp only [maxLen]; omega)
  have h := (c.buf0 t i.size).upd (k := 0) (o' := .buf (some ⟨w.heap.size, 0, none⟩) 0 (grownCap w m 0 t) [] t i.size) rfl (((Chg.refl _ _).drewN 1).alloc (.cells (Builtin.zeroCells z.cells m ++ Builtin.zeroCells z.cells (grownCap w m 0 t - m)) t)) (by simp [Own.dom]) (by simp [Own.dom])
    ⟨by simp, .inr ⟨w.heap.size, _, _, rfl, Nat.zero_le _, hp_alloc_new w.drew _, Nat.zero_le _, hcm, by
      simp only [Array.size_append, size_zeroCells, e5, ← Nat.add_mul]
      congr 1
      omega, by simp⟩⟩
  exact ⟨_, _, _, run_app hr, hge, h⟩

/-- append a slice of plain data, perhaps empty -/
theorem Ctx.appAny [Stable Φ] {P : Program} {α : Type} [Gv α] {q : Option Addr} {l : List α} {c2 : Nat} {p : Option Addr} {n cap : Nat} {cs : List Value} {t : TypeId} {bytes : Nat} (c : Ctx W w (.buf p n cap cs t (Gv.ty α).size :: S) Φ)
    {ts ty : TypeId} {kb : Array Bool} (hb : appB P ts t (Gv.ty α).size bytes = true) (h1 : ∀ M w cs (x : α), Gv.rep M w cs x → (cs.all fun u => oneC u) = true) (hsl : ∀ M w, Φ M w → Sl M w q l) (hlen : n + l.length < 100000000) (hbytes : bytes ≤ 1000) :
    ∃ p' cap' w' news, Sem.run P (builtin Builtin.append #[ts, ts] ty kb #[.slice p n cap, .slice q l.length c2]) w = .ok (.value (.slice p' (n + l.length) cap')) w' ∧
      Ctx W w' (.buf p' (n + l.length) cap' (cs ++ news) t (Gv.ty α).size :: S) (fun M w => Φ M w ∧ Elems M w news l) := by
  rcases Nat.eq_zero_or_pos l.length with h0 | h0
  · obtain ⟨i, z, e1, e2, e3, e4, e5, e6⟩ := appB_out hb
    have hl : l = [] := List.eq_nil_of_length_eq_zero h0
    subst hl
    refine ⟨p, cap, w, [], run_app (c.append0 0 rfl e1 e2 q c2), ?_⟩
    rw [List.append_nil]
    exact c.add Elems.nil
  · obtain ⟨p', cap', w', news, h2, _, c3⟩ := c.appSl (ty := ty) (kb := kb) (c2 := c2) hb h1 hsl h0 hlen hbytes
    exact ⟨p', cap', w', news, h2, c3⟩

end
end Go.Vc

namespace Go.Proofs.YtnapfhbibikbiaaDoor
open Go.Vc


theorem pin_ll {M : List Nat} {w : World} {g o : Nat} {cs : List (List Value)} {ls : List (List DeltaD)} (h : Pin g o cs ls M w) {j : Nat} (hj : j < ls.length) : ∃ p c, cs.getD j [] = [.slice p ls[j].length c] ∧ ls[j].length ≤ c ∧ c ≤ maxLen := by
  obtain ⟨_, h1, h2⟩ := h j hj
  obtain ⟨p, c, e, g1, g2, _⟩ := rep_list.1 h2
  exact ⟨p, c, e, g1, g2⟩
theorem pin_llSl {M : List Nat} {w : World} {g o : Nat} {cs : List (List Value)} {ls : List (List DeltaD)} (h : Pin g o cs ls M w) {j : Nat} (hj : j < ls.length) {p : Option Addr} {c : Nat} (e : cs.getD j [] = [.slice p ls[j].length c]) : Sl M w p ls[j] := by
  obtain ⟨_, h1, h2⟩ := h j hj
  obtain ⟨p', c', e', g1, g2, hs⟩ := rep_list.1 h2
  rw [e] at e'
  simp only [List.cons.injEq, Value.slice.injEq] at e'
  rw [e'.1.1]
  exact hs
theorem pin_llAt {M : List Nat} {w : World} {g o : Nat} {cs : List (List Value)} {ls : List (List DeltaD)} (h : Pin g o cs ls M w) {j : Nat} (hj : j < ls.length) {p : Option Addr} {c : Nat} (e : cs.getD j [] = [.slice p ls[j].length c]) : w.cell? ⟨g, o + j, none⟩ = some (.slice p ls[j].length c) := by
  obtain ⟨_, h1, h2⟩ := h j hj
  rw [e] at h1
  have := h1 0 (by simp)
  rw [show (Gv.ty (List DeltaD)).size = 1 from rfl, Nat.mul_one] at this
  simpa using this

theorem flat_take (ls : List (List DeltaD)) {i : Nat} (h : i < ls.length) : (ls.take (i + 1)).flatten = (ls.take i).flatten ++ ls[i] := by
  rw [List.take_succ_eq_append_getElem h, List.flatten_append]
  simp
theorem flat_le (ls : List (List DeltaD)) (i : Nat) : (ls.take i).flatten.length ≤ ls.flatten.length := by
  have h : ls.flatten = (ls.take i).flatten ++ (ls.drop i).flatten := by rw [← List.flatten_append, List.take_append_drop]
  rw [h, List.length_append]
  omega

theorem Grow_use {W w : World} {S : List Own} {Φ : PW} [Stable Φ] (n : Nat) (hn : n ≤ 1000000) (cx : Ctx W w S Φ) {K : Ending → World → Prop}
    (hK : ∀ p cap w', Ctx W w' (.buf p 0 cap [] 39 3 :: S) Φ → K (.returned (.slice p 0 cap)) w') : Calls Tryd.prog F.slices_Grow_api_Delta_api_Delta #[.slice none 0 0, .int .i64 n] w K := by
  refine (Bslices_Grow_api_Delta_api_Delta_run none 0 0 n (J := fun u w' => K (.returned u) w') cx ?_).mono fun e w' ⟨v, he, hj⟩ => by rw [he]; exact hj
  refine Br.intro (fun h => by have := of_decide_eq_true h; omega) (fun _ => ⟨by unfold I64; omega, by unfold I64; omega, Br.intro (fun h => ⟨by omega, fun w G cx => ?_⟩) (fun h => fun w G cx => hK _ _ _ (cx.left.buf0 39 3))⟩)
  have h := of_decide_eq_true h
  obtain ⟨g, cap', w', hrun, hge, cx'⟩ := Ctx.grow0 (P := Tryd.prog) (ts := 22) (tn := 3) (ty := 22) (t := 39) (kb := #[false, false]) (size := 3) (bytes := 40) cx (by kernel_rfl) (by kernel_rfl) n (by omega) hn (by omega) (by omega)
  have e : (n : Int) - (((0 : Nat) : Int) - ((0 : Nat) : Int)) = n := by omega
  rw [e]
  refine ⟨_, _, _, _, hrun, .buf (some ⟨g, 0, none⟩) 0 cap' [] 39 3 :: S, Φ, inferInstance, cx', by omega, fun w G cx => ?_⟩
  have hp : subPtr (some ⟨g, 0, none⟩) 3 0 cap' = some ⟨g, 0, none⟩ := by
    unfold subPtr
    split <;> rfl
  show K (.returned (.slice (subPtr (some ⟨g, 0, none⟩) 3 0 cap') 0 cap')) w
  rw [hp]
  exact hK _ _ _ cx.left

set_option maxHeartbeats 1000000 in
theorem Concat_pin {Φ : PW} [Stable Φ] (q : Option Addr) (cap : Nat) (ls : List (List DeltaD)) (g o : Nat) (cs : List (List Value)) (hq : 0 < ls.length → q = some ⟨g, o, none⟩) (hΦ : ∀ M w, Φ M w → Pin g o cs ls M w) (hn : ls.length ≤ 1000000) (hlen : ls.flatten.length ≤ 1000000) :
    GivesNew Φ Tryd.prog F.slices_Concat_api_Delta_api_Delta #[.slice q ls.length cap] ls.flatten 39 := by
  refine ⟨fun W0 w0 S0 c0 => ?_⟩
  have hcs : ∀ j, (hj : j < ls.length) → ∃ p c, cs.getD j [] = [.slice p ls[j].length c] ∧ ls[j].length ≤ c ∧ c ≤ maxLen := fun j hj => pin_ll (hΦ _ _ c0.phi) hj
  refine GivesNew.go (gives_new (Bslices_Concat_api_Delta_api_Delta_run q ls.length cap) fun W R => ?_) W0 w0 S0 c0
  clear c0
  refine exI_mk (fun n iI R' Φ' k => ∃ i : Nat, iI = i ∧ i ≤ ls.length ∧ n = ((ls.take i).flatten.length : Int) ∧ R' = R ∧ Φ' = Φ ∧ k = ls.length - i) ⟨⟨R, Φ, _, inferInstance, fun w G cx => cx, 0, rfl, Nat.zero_le _, rfl, rfl, rfl, rfl⟩, ?_⟩
  rintro n iI R1 Φ1 k _ ⟨i, rfl, hi, rfl, rfl, rfl, rfl⟩
  refine Br.intro (fun hlt => ?_) (fun hge => ?_)
  · have hlt := of_decide_eq_true hlt
    have hlt : i < ls.length := by omega
    obtain ⟨p, c, he, h1, h2⟩ := hcs i hlt
    have hf := flat_take ls hlt
    have hfl : (ls.take (i + 1)).flatten.length = (ls.take i).flatten.length + ls[i].length := by rw [hf, List.length_append]
    have hle := flat_le ls (i + 1)
    refine ⟨by omega, ptrK_intro g o (hq (by omega)) fun w G cx => ⟨p, ls[i].length, c, by rw [Int.toNat_natCast]; exact pin_llAt (hΦ _ _ cx.phi) hlt he, by unfold I64; omega, Br.intro (fun h => by have := of_decide_eq_true h; omega) (fun _ => ⟨by unfold I64; omega, R1, Φ1, ls.length - (i + 1), inferInstance, fun w G cx => cx, ⟨i + 1, by omega, hlt, by omega, rfl, rfl, rfl⟩, by omega⟩)⟩⟩
  have hge := of_decide_eq_false hge
  have hi : i = ls.length := by omega
  subst hi
  rw [List.take_length]
  clear hge
  refine fun w G cx => Grow_use ls.flatten.length hlen cx fun p0 cap0 w cx => ⟨p0, 0, cap0, rfl, .buf p0 0 cap0 [] 39 3 :: R1, Φ1, inferInstance, cx, ?_⟩
  clear cx
  refine exI_mk (fun sp sn sc iI R' Φ' k => ∃ (i : Nat) (ds : List Value), iI = i ∧ i ≤ ls.length ∧ sn = (ls.take i).flatten.length ∧ R' = .buf sp sn sc ds 39 3 :: R1 ∧ Φ' = (fun M w => Φ1 M w ∧ Elems M w ds (ls.take i).flatten) ∧ k = ls.length - i)
    ⟨⟨.buf p0 0 cap0 [] 39 3 :: R1, fun M w => Φ1 M w ∧ Elems M w [] (ls.take 0).flatten, _, inferInstance, fun w G cx => cx.weak fun M w h => ⟨h, Elems.nil⟩, 0, [], rfl, Nat.zero_le _, rfl, rfl, rfl, rfl⟩, ?_⟩
  rintro sp _ sc iI R2 Φ2 k _ ⟨i, ds, rfl, hi, rfl, rfl, rfl, rfl⟩
  refine Br.intro (fun hlt => ?_) (fun hge => fun w G cx => ?_)
  · have hlt := of_decide_eq_true hlt
    have hlt : i < ls.length := by omega
    obtain ⟨p, c, he, h1, h2⟩ := hcs i hlt
    have hf := flat_take ls hlt
    have hfl : (ls.take (i + 1)).flatten.length = (ls.take i).flatten.length + ls[i].length := by rw [hf, List.length_append]
    have hle := flat_le ls (i + 1)
    refine ⟨by omega, ptrK_intro g o (hq (by omega)) fun w G cx => ⟨p, ls[i].length, c, by rw [Int.toNat_natCast]; exact pin_llAt (hΦ _ _ cx.phi.1) hlt he, fun w G cx => ?_⟩⟩
    have happ := Ctx.appAny (P := Tryd.prog) (ts := 22) (ty := 22) (kb := #[false, false]) (bytes := 40) (c2 := c) (l := ls[i]) (q := p) cx (by kernel_rfl) delta_one (fun M w h => pin_llSl (hΦ M w h.1) hlt he) (by omega) (by omega)
    rw [← hfl] at happ
    obtain ⟨p', cap', w', news, hrun, cx'⟩ := happ
    have hst : Stable (fun M w => Φ1 M w ∧ Elems M w (ds ++ news) (ls.take (i + 1)).flatten) := inferInstance
    exact ⟨p', _, cap', w', hrun, .buf p' (ls.take (i + 1)).flatten.length cap' (ds ++ news) 39 3 :: R1, _, hst, cx'.weak fun M w h => ⟨h.1.1, by rw [hf]; exact h.1.2.append h.2⟩, by unfold I64; omega, _, _, ls.length - (i + 1), hst, fun w G cx => cx, ⟨i + 1, _, by omega, hlt, rfl, rfl, rfl, rfl⟩, by omega⟩
  · have hge := of_decide_eq_false hge
    have hi : i = ls.length := by omega
    subst hi
    rw [List.take_length] at cx ⊢
    exact ⟨sp, sc, ds, rfl, cx.left⟩

def addP (a b : List DeltaD) : List DeltaD := consP (a ++ b)

theorem Add_sl {Φ : PW} [Stable Φ] (p : Option Addr) (cap : Nat) (a : List DeltaD) (q : Option Addr) (cap2 : Nat) (b : List DeltaD) (hΦ : ∀ M w, Φ M w → Sl M w p a) (hΨ : ∀ M w, Φ M w → Sl M w q b) (hc1 : a.length ≤ cap) (hc2 : cap ≤ maxLen) (hc3 : b.length ≤ cap2) (hc4 : cap2 ≤ maxLen)
    (ha : a.length ≤ 400000) (hb : b.length ≤ 400000) (hra : ∀ x ∈ a, x.row.length ≤ 1000000) (hrb : ∀ x ∈ b, x.row.length ≤ 1000000) : GivesSl Φ Tryd.prog F.delta_Add #[.slice p a.length cap, .slice q b.length cap2] (addP a b) id := by
  refine gives_sl (Bdelta_Add_run p a.length cap q b.length cap2) fun W R => ?_
  intro k w G cx
  obtain ⟨cx1, hs⟩ := cx.freezeBlk (α := List DeltaD) (l := [a, b]) (Elems.two (cs := [.slice p a.length cap]) (ds := [.slice q b.length cap2]) (rep_list.2 ⟨p, cap, rfl, hc1, hc2, hΦ _ _ cx.phi⟩) (rep_list.2 ⟨q, cap2, rfl, hc3, hc4, hΨ _ _ cx.phi⟩))
  have hfl : [a, b].flatten = a ++ b := by simp
  have hll : (a ++ b).length ≤ 1000000 := by rw [List.length_append]; omega
  have cx1' : Ctx W w (R ++ G) (fun M w => Φ M w ∧ Sl M w (some ⟨k, 0, none⟩) [a, b]) := cx1.add hs
  obtain ⟨g, o, cs, hq, cx2⟩ := cx1'.pin cx1'.phi.2
  have hcon := Concat_pin (Φ := fun M w => (Φ M w ∧ Sl M w (some ⟨k, 0, none⟩) [a, b]) ∧ Pin g o cs [a, b] M w) (some ⟨k, 0, none⟩) 2 [a, b] g o cs hq (fun M w h => h.2) (by simp) (by rw [hfl]; exact hll)
  rw [hfl] at hcon
  refine hcon.use cx2 fun p1 c1 ds w cx => ?_
  obtain ⟨_, h1, h2⟩ := cx.bufLen 0 rfl
  obtain ⟨cx3, hs3, _⟩ := Ctx.freeze (α := DeltaD) cx.fst cx.phi.2
  refine ⟨p1, _, c1, rfl, R, fun M w => Φ M w ∧ Sl M w p1 (a ++ b), inferInstance, (cx3.add hs3).weak fun M w h => ⟨h.1.1.1, h.2⟩, fun w G cx => ?_⟩
  refine (Consolidate_sl (Φ := fun M w => Φ M w ∧ Sl M w p1 (a ++ b)) p1 c1 (a ++ b) (fun M w h => h.2) hll (fun x hx => ?_)).use cx fun p3 c3 w h1 h2 cx => ⟨p3, _, c3, rfl, R, fun M w => Φ M w ∧ Sl M w p3 (addP a b), inferInstance, cx.weak fun M w h => ⟨h.1.1, h.2⟩, fun w G cx => ⟨p3, c3, rfl, h1, h2, cx.left⟩⟩
  rcases List.mem_append.1 hx with hx | hx
  · exact hra x hx
  · exact hrb x hx

end Go.Proofs.YtnapfhbibikbiaaDoor
end

/-
  Consolidated, walked; DifferenceLeast in plain Lean, and walked.
-/
section
set_option linter.unusedVariables false
set_option linter.unusedSimpArgs false
namespace Go.Proofs.YtnapfhbibikbiaaDoor
open Go.Vc


def consAt (l : List DeltaD) (j : Nat) : Bool := match l[j]? with
  | none => false
  | some y => decide (y.n ≠ 0) && match j with
    | 0 => true
    | i + 1 => match l[i]? with
      | none => false
      | some x => decide (cmpD x y < 0)
def consolidated (l : List DeltaD) : Bool := (List.range l.length).all fun j => consAt l j

theorem consolidated_false {l : List DeltaD} {j : Nat} (hj : j < l.length) (h : consAt l j = false) : consolidated l = false := by
  unfold consolidated
  rw [List.all_eq_false]
  exact ⟨j, List.mem_range.2 hj, by rw [h]; simp⟩
theorem consolidated_true {l : List DeltaD} (h : ∀ j, j < l.length → consAt l j = true) : consolidated l = true := by
  unfold consolidated
  rw [List.all_eq_true]
  exact fun j hj => h j (List.mem_range.1 hj)

theorem Consolidated_pin {Φ : PW} [Stable Φ] (p : Option Addr) (cap : Nat) (l : List DeltaD) (b o : Nat) (cs : List (List Value)) (hp : 0 < l.length → p = some ⟨b, o, none⟩) (hΦ : ∀ M w, Φ M w → Pin b o cs l M w) (hlen : l.length ≤ 9223372036854775807) :
    GivesIn Φ Tryd.prog F.delta_Consolidated #[.slice p l.length cap] (.bool (consolidated l)) := by
  refine in_cells hΦ fun hcs => ?_
  refine gives_in (Bdelta_Consolidated_run p l.length cap) fun W R => ?_
  refine exI_mk (fun n R' Φ' k => ∃ i : Nat, n = i ∧ i ≤ l.length ∧ R' = R ∧ Φ' = Φ ∧ k = l.length - i ∧ ∀ j, j < i → consAt l j = true) ⟨⟨R, Φ, _, inferInstance, fun w F c => c, 0, rfl, Nat.zero_le _, rfl, rfl, rfl, fun j hj => by omega⟩, ?_⟩
  rintro n R1 Φ1 k _ ⟨i, rfl, hi, rfl, rfl, rfl, hok⟩
  refine Br.intro (fun hlt => ?_) (fun hge => fun w F cx => ⟨?_, cx.left⟩)
  · have hlt : i < l.length := by simpa using hlt
    have hp := hp (by omega)
    obtain ⟨q, qc, he, hq1, hq2, _, _⟩ := hcs i hlt
    refine ⟨by omega, ptrK_intro b o hp fun w G cx => ⟨_, q, _, qc, _, pin_rowAt (hΦ _ _ cx.phi) hlt he, fun _ => ⟨R1, Φ1, inferInstance, fun _ _ c => c, Br.intro (fun h0 => fun w F cx => ⟨?_, cx.left⟩) (fun h0 => Br.intro (fun h1 => ?_) (fun h1 => ?_))⟩⟩⟩
    · have h0 : l[i].n = 0 := by simpa using h0
      rw [consolidated_false hlt]
      unfold consAt
      rw [List.getElem?_eq_getElem hlt]
      simp [h0]
    · have h0 : ¬ l[i].n = 0 := by simpa using h0
      have h1 : 0 < i := by simpa using h1
      obtain ⟨j, rfl⟩ : ∃ j, i = j + 1 := ⟨i - 1, by omega⟩
      obtain ⟨q', qc', he', hq1', hq2', _, _⟩ := hcs j (by omega)
      have hc : consAt l (j + 1) = decide (cmpD l[j] l[j + 1] < 0) := by
        unfold consAt
        simp only
        rw [List.getElem?_eq_getElem hlt, List.getElem?_eq_getElem (show j < l.length by omega)]
        simp [h0]
      have hcmp : GivesIn Φ1 Tryd.prog F.delta_compare #[l[j].v q' qc', l[j + 1].v q qc] (.int .i64 (cmpD l[j] l[j + 1])) := compareD_in l[j] l[j + 1] q' q qc' qc (fun M w h => pin_row (hΦ M w h) _ he') (fun M w h => pin_row (hΦ M w h) _ he) (len_max hq1' hq2')
      refine ⟨by unfold I64; omega, by omega, ptrK_intro b o hp ⟨l[j].time, q', l[j].row.length, qc', l[j].n, ?_, ?_⟩⟩
      · intro w F cx
        refine ⟨l[j].time, q', l[j].row.length, qc', l[j].n, ?_, rfl⟩
        have := pin_rowAt (hΦ _ _ cx.phi) (show j < l.length by omega) he'
        rw [show (((j + 1 : Nat) : Int) - 1).toNat = j by omega]
        exact this
      intro w F cx
      refine hcmp.use cx fun w cx => ⟨cmpD l[j] l[j + 1], rfl, R1, Φ1, inferInstance, cx, ?_⟩
      refine Br.intro (fun h2 => fun w F cx => ⟨?_, cx.left⟩) (fun h2 => ⟨by unfold I64; omega, R1, Φ1, l.length - (j + 1 + 1), inferInstance, fun w F c => c, ⟨j + 1 + 1, rfl, hlt, rfl, rfl, rfl, fun i hi => ?_⟩, by omega⟩)
      · have h2 : 0 ≤ cmpD l[j] l[j + 1] := by simpa using h2
        rw [consolidated_false hlt]
        rw [hc, decide_eq_false (by omega)]
      · have h2 : ¬ 0 ≤ cmpD l[j] l[j + 1] := by simpa using h2
        rcases Nat.lt_or_ge i (j + 1) with h | h
        · exact hok i h
        · rw [show i = j + 1 by omega, hc, decide_eq_true (by omega)]
    · have h0 : ¬ l[i].n = 0 := by simpa using h0
      have h1 : i = 0 := by simpa using h1
      subst h1
      refine ⟨by unfold I64; omega, R1, Φ1, l.length - 1, inferInstance, fun w F c => c, ⟨1, rfl, hlt, rfl, rfl, rfl, fun i hi => ?_⟩, by omega⟩
      rw [show i = 0 by omega]
      unfold consAt
      simp only
      rw [List.getElem?_eq_getElem hlt]
      simp [h0]
  · have hge : i = l.length := Nat.le_antisymm hi (by simpa using hge)
    rw [consolidated_true (hge ▸ hok)]

theorem Consolidated_in {Φ : PW} [Stable Φ] (p : Option Addr) (cap : Nat) (l : List DeltaD) (hΦ : ∀ M w, Φ M w → Sl M w p l) (hlen : l.length ≤ 9223372036854775807) :
    GivesIn Φ Tryd.prog F.delta_Consolidated #[.slice p l.length cap] (.bool (consolidated l)) :=
  .pinned hΦ fun b o cs hp => Consolidated_pin (Φ := fun M w => Φ M w ∧ Pin b o cs l M w) p cap l b o cs hp (fun _ _ h => h.2) hlen


abbrev Rows1 (l : List DeltaD) : Prop := ∀ x ∈ l, x.row.length ≤ 1000000
end Go.Proofs.YtnapfhbibikbiaaDoor
end

/-
  STRINGS.BUILDER over what a walk owns; tables that a row lays; rows with laid tables; the decimal form of ints.
-/
section
set_option linter.unusedVariables false
set_option linter.unusedSimpArgs false
namespace Go.Vc
open Go.RowKit Go.Shelf

section
variable {P : Program} {W w w' : World} {S R F : List Own} {Φ Ψ : PW}

/-- what is owned changes, and is owned no more -/
theorem Ctx.lose [Stable Φ] (c : Ctx W w (R ++ S) Φ) (h : Chg (dom R) w w') : Ctx W w' S Φ := by
  have hn := c.nodup
  rw [dom_app, List.nodup_append] at hn
  refine c.go ⟨h.mono fun x hx => by rw [dom_app]; exact List.mem_append_left _ hx, fun b hb => .inl (by rw [dom_app]; exact List.mem_append_right _ hb)⟩ (fun o ho => ?_) hn.2.1
  exact Own.at_keep (c.own o (List.mem_append_right _ ho)) fun b hb => h.block b (c.lt (mem_dom (List.mem_append_right _ ho) hb)) fun hm => hn.2.2 b hm b (mem_dom ho hb) rfl

/-- append of a string's bytes -/
theorem Ctx.appStr [Stable Φ] {p : Option Addr} {n cap : Nat} {cs : List Value} {e : TypeId} (c : Ctx W w (.buf p n cap cs e 1 :: S) Φ) {t u ty : TypeId} {kb : Array Bool} {i : TypeInfo}
    (ht : P.underlying t = some (.slice e)) (hu : P.underlying u = some .string) (hi : P.info? e = some i) (hz : i.zero = some (.int .u8 0)) (hsize : i.size = 1) (hby : i.bytes = 1) (s : ByteArray)
    (hb : n + s.size ≤ 140737488355328) (h63 : n + s.size ≤ maxLen) :
    ∃ p' cap' w', Sem.run P (builtin Builtin.append #[t, u] ty kb #[.slice p n cap, .string s]) w = .ok (.value (.slice p' (n + s.size) cap')) w' ∧ Ctx W w' (.buf p' (n + s.size) cap' (cs ++ Lib.strCells s) e 1 :: S) Φ := by
  have hown := c.own _ (List.mem_cons_self)
  obtain ⟨hcl, hown⟩ := hown
  have hxl : cs.length = n := by simpa using hcl
  have hlen : (cs ++ Lib.strCells s).length = (n + s.size) * 1 := by rw [List.length_append, hxl, Lib.strCells_length, Nat.mul_one]
  have grown : ∀ (old : Nat), old < n + s.size →
      Ctx W (w.drew.alloc (.cells (cs.toArray ++ (Lib.strCells s).toArray ++ Builtin.zeroCells (Value.int .u8 0).cells (grownCap w (n + s.size) old e - (n + s.size))) e))
        (.buf (some ⟨w.heap.size, 0, none⟩) (n + s.size) (grownCap w (n + s.size) old e) (cs ++ Lib.strCells s) e 1 :: S) Φ := by
    intro old ho
    have hge := grownCap_ge w (n + s.size) old e
    have hcm : grownCap w (n + s.size) old e ≤ maxLen := grownCap_le_maxLen w (n + s.size) old e h63
    have h := c.upd (k := 0) (o' := .buf (some ⟨w.heap.size, 0, none⟩) (n + s.size) (grownCap w (n + s.size) old e) (cs ++ Lib.strCells s) e 1) rfl (((Chg.refl _ _).drewN 1).alloc (.cells (cs.toArray ++ (Lib.strCells s).toArray ++ Builtin.zeroCells (Value.int .u8 0).cells (grownCap w (n + s.size) old e - (n + s.size))) e)) (by simp [Own.dom]) (by simp [Own.dom])
      ⟨hlen, .inr ⟨w.heap.size, _, _, rfl, Nat.zero_le _, hp_alloc_new w.drew _, hge, hcm, ?_, ?_⟩⟩
    · exact h
    · have hz1 : (Value.int IntKind.u8 0).cells.size = 1 := rfl
      simp only [Array.size_append, List.size_toArray, size_zeroCells, hz1, hxl, Lib.strCells_length]
      omega
    · simp only [Array.toList_append, List.append_assoc]
      rw [← List.append_assoc, ← hlen]
      exact List.take_left
  rcases hown with ⟨e1, rfl⟩ | ⟨g, cap', cur, e1, _, hg, hnc, hcm, hcs, htake⟩
  · cases e1
    have hx : cs = [] := List.eq_nil_of_length_eq_zero hxl
    subst hx
    by_cases hm : s.size = 0
    · have hn : Lib.strCells s = [] := List.eq_nil_of_length_eq_zero (by rw [Lib.strCells_length]; exact hm)
      refine ⟨none, 0, w, run_app ?_, by rw [hm, hn]; exact c⟩
      have hf := Lib.run_firstCells_string (P := P) w 1 s
      rw [hm] at hf
      simp [Builtin.append_, run_underlying ht, run_underlying hu, sizeOf, typeInfo, hi, hsize, Builtin.lenOf, hm, hf]
    · have hr := run_append_nil_string (P := P) w t u ty e i (.int .u8 0) ht hu hi hz s (by omega) (by omega) (by rw [hby]; omega)
      have hgr := grown 0 (by omega)
      simp only [Nat.zero_add, List.nil_append, Array.empty_append] at hgr ⊢
      have e1 : (s.data.map fun b => Value.int .u8 b.toNat) = (Lib.strCells s).toArray := by
        apply Array.ext'
        simp [Lib.strCells]
      rw [e1] at hr
      exact ⟨_, _, _, run_app hr, hgr⟩
  · cases e1
    have hcs' : cur.size = cap := by simpa using hcs
    have ht' : cur.toList.take n = cs := by simpa using htake
    by_cases hroom : n + s.size ≤ cap
    · have hr := Lib.run_append_room_string (P := P) w t u ty e i ht hu hi hsize g n cap cur hg s hroom (by omega)
      refine ⟨_, _, _, run_app hr, ?_⟩
      have h := c.upd (k := 0) (w' := w.setRow g (cur.toList.take n ++ Lib.strCells s ++ cur.toList.drop (n + s.size)).toArray) (o' := .buf (some ⟨g, 0, none⟩) (n + s.size) cap (cs ++ Lib.strCells s) e 1) rfl ⟨rfl, rfl, rfl, by simp, fun b _ hb => setRow_other w g b _ (by simpa [Own.dom] using hb)⟩ (by simp [Own.dom]) (by simp [Own.dom])
        ⟨hlen, .inr ⟨g, cap, _, rfl, Nat.zero_le _, setRow_heap w g cur _ e _ hg, hroom, hcm, ?_, ?_⟩⟩
      · exact h
      · simp only [List.size_toArray, List.length_append, List.length_take, List.length_drop, Array.length_toList, Lib.strCells_length]
        omega
      · rw [ht', ← hlen]
        exact List.take_left
    · have holds : ∀ j u, cs[j]? = some u → w.cell? ((⟨g, 0, none⟩ : Addr).add j) = some u := by
        intro j u hj
        have hlt : j < cs.length := (List.getElem?_eq_some_iff.1 hj).1
        have h2 : cur[j]? = some u := by
          rw [← ht', List.getElem?_take_of_lt (by omega)] at hj
          simpa using hj
        rw [addr_add, Nat.zero_add]
        simp [World.cell?, hg, h2]
      have hr := Lib.run_append_grow_string (P := P) w t u ty e i (.int .u8 0) ht hu hi hz ⟨g, 0, none⟩ n cap cs (by rw [hsize]; simpa using hxl) holds s (by omega) (by omega) (by rw [hby]; exact growslice_fits (by omega) (by omega))
      exact ⟨_, _, _, run_app hr, grown cap (by omega)⟩

/-- a strings.Builder (of type T, in block b) that holds these bytes (of type e) -/
def Bd (T e : TypeId) (b : Nat) (l : List UInt8) (R : List Own) : Prop :=
  ∃ (pa : Value) (p : Option Addr) (cap : Nat), (pa = .pointer none ∨ pa = .pointer (some ⟨b, 0, none⟩)) ∧ R = [.blk b [pa, .slice p l.length cap] T, .buf p l.length cap (Lib.byteCells l) e 1]

theorem Bd.fresh [Stable Φ] {T e : TypeId} {b : Nat} (c : Ctx W w (.blk b [.pointer none, .slice none 0 0] T :: S) Φ) : Ctx W w ([.blk b [.pointer none, .slice none 0 0] T, .buf none 0 0 [] e 1] ++ S) Φ :=
  ((c.buf0 e 1).perm (List.Perm.swap _ _ _))
theorem Bd.nil {T e : TypeId} {b : Nat} : Bd T e b [] [.blk b [.pointer none, .slice none 0 0] T, .buf none 0 0 [] e 1] := ⟨.pointer none, none, 0, .inl rfl, rfl⟩

end

/-! ### String -/
section
open Go.Proofs
variable {P : Program} {ρ : Ren}

theorem chg_freeze {a w : World} {D : List Nat} (h : Chg D a w) {p : Addr} (hp : p.block ∈ D) (n : Nat) : Chg D a (w.freeze p n) := by
  refine h.trans (T := D) ?_ (fun x hx => .inl hx)
  unfold World.freeze
  split
  · exact Chg.refl _ _
  · refine ⟨rfl, rfl, rfl, by simp, fun k hk hn => ?_⟩
    simp only [Array.getElem?_modify]
    rw [if_neg (fun e => hn (by rw [← e]; exact hp))]

set_option maxHeartbeats 1000000 in
set_option maxRecDepth 100000 in
theorem builder_String_some (L : Lays.n169 P ρ) (X : Builder.Extra P ρ) (b g cap : Nat) (pa : Value) (l : List UInt8) (w : World) (h0 : l ≠ []) (hbk : w.heap[b]? = some (.cells #[pa, .slice (some ⟨g, 0, none⟩) l.length cap] (ρ.t 72) (0, 0)))
    (hown : w.ownsRow 0 (ρ.t 5) 1 (.slice (some ⟨g, 0, none⟩) l.length cap) l.length (Lib.byteCells l)) :
    Calls P (ρ.f 169) #[.pointer (some ⟨b, 0, none⟩)] w fun e w' => e = .returned (.string ⟨l.toArray⟩) ∧ Chg [g] w w' := by
  have hl0 : l.length ≠ 0 := by simpa using h0
  obtain ⟨cur, hg, hnc, hcm, hcs, htake⟩ : ∃ cur, w.heap[g]? = some (.cells cur (ρ.t 5) (0, 0)) ∧ l.length ≤ cap ∧ cap ≤ maxLen ∧ cur.size = cap * 1 ∧ cur.toList.take (l.length * 1) = Lib.byteCells l := by
    rcases hown.2 with ⟨hv, _⟩ | ⟨g', cap', cur, hv, _, r⟩
    · cases hv
    · cases hv; exact ⟨cur, r⟩
  have c1 : w.drew.cell? ⟨b, 1, none⟩ = some (.slice (some ⟨g, 0, none⟩) l.length cap) := by
    have : w.drew.heap[b]? = some (.cells #[pa, .slice (some ⟨g, 0, none⟩) l.length cap] (ρ.t 72) (0, 0)) := hbk
    rw [Lib.cell_of_heap this]; rfl
  have hSD : (Builtin.unsafeSliceData_ #[(ρ.t 37)] (ρ.t 127) #[.slice (some ⟨g, 0, none⟩) l.length cap]).run P w.drew = .ok (.pointer (some ⟨g, 0, none⟩)) w.drew :=
    Lib.run_unsafeSliceData_row _ _ _ _ _ _ (by omega)
  have hUS : (Builtin.unsafeString_ #[(ρ.t 127), (ρ.t 3)] (ρ.t 9) #[.pointer (some ⟨g, 0, none⟩), .int .i64 l.length]).run P w.drew = .ok (.string ⟨l.toArray⟩) (w.drew.freeze ⟨g, 0, none⟩ l.length) := by
    refine Lib.run_unsafeString_row w.drew (ρ.t 127) (ρ.t 3) (ρ.t 9) (ρ.t 5) L.t127 X.cellsByte g cur.size (by have hg' : w.drew.heap[g]? = some (.cells cur (ρ.t 5) (0, 0)) := hg; simp [World.shape?, hg']) l h0 (by omega) (by unfold maxLen at hcm; omega) ?_
    intro j x hx
    have := hown.cells (g := g) rfl j (.int .u8 x.toNat) (by simp [Lib.byteCells, hx])
    exact this
  have mixed := L.mixed
  have t72 := L.t72; have a72 := L.a72; have z72 := L.z72; have v72 := L.v72; have u72 := run_underlying L.t72
  have t70 := L.t70; have a70 := L.a70; have z70 := L.z70; have v70 := L.v70; have u70 := run_underlying L.t70
  have t37 := L.t37; have a37 := L.a37; have z37 := L.z37; have v37 := L.v37; have u37 := run_underlying L.t37
  have t127 := L.t127; have a127 := L.a127; have z127 := L.z127; have v127 := L.v127; have u127 := run_underlying L.t127
  have t3 := L.t3; have a3 := L.a3; have z3 := L.z3; have v3 := L.v3; have u3 := run_underlying L.t3
  have t9 := L.t9; have a9 := L.a9; have z9 := L.z9; have v9 := L.v9; have u9 := run_underlying L.t9
  have t5 := X.t5; have a5 := X.a5; have z5 := X.z5; have v5 := X.v5; have u5 := run_underlying X.t5
  go_enter L.f169, Body.n169_ntmps ρ
  go_wp2
  go_region_o
  all_goals (go_wp2; go_ret; exact ⟨rfl, chg_freeze ((Chg.refl _ _).drewN 1) (p := ⟨g, 0, none⟩) (by simp) _⟩)

set_option maxHeartbeats 2000000 in
set_option maxRecDepth 100000 in
theorem builder_String_nil (L : Lays.n169 P ρ) (X : Builder.Extra P ρ) (b : Nat) (p : Value) (w : World) (hbk : w.heap[b]? = some (.cells #[p, .slice none 0 0] (ρ.t 72) (0, 0))) :
    Calls P (ρ.f 169) #[.pointer (some ⟨b, 0, none⟩)] w fun e w' => e = .returned (.string ⟨#[]⟩) ∧ Chg [] w w' := by
  have hUS := Any.unsafeString_none L X
  have c1 : w.drew.cell? ⟨b, 1, none⟩ = some (.slice none 0 0) := by
    have : w.drew.heap[b]? = some (.cells #[p, .slice none 0 0] (ρ.t 72) (0, 0)) := hbk
    rw [Lib.cell_of_heap this]; rfl
  have hSD : (Builtin.unsafeSliceData_ #[(ρ.t 37)] (ρ.t 127) #[.slice none 0 0]).run P w.drew = .ok (.pointer none) w.drew := rfl
  have mixed := L.mixed
  have t72 := L.t72; have a72 := L.a72; have z72 := L.z72; have v72 := L.v72; have u72 := run_underlying L.t72
  have t70 := L.t70; have a70 := L.a70; have z70 := L.z70; have v70 := L.v70; have u70 := run_underlying L.t70
  have t37 := L.t37; have a37 := L.a37; have z37 := L.z37; have v37 := L.v37; have u37 := run_underlying L.t37
  have t127 := L.t127; have a127 := L.a127; have z127 := L.z127; have v127 := L.v127; have u127 := run_underlying L.t127
  have t3 := L.t3; have a3 := L.a3; have z3 := L.z3; have v3 := L.v3; have u3 := run_underlying L.t3
  have t9 := L.t9; have a9 := L.a9; have z9 := L.z9; have v9 := L.v9; have u9 := run_underlying L.t9
  have t5 := X.t5; have a5 := X.a5; have z5 := X.z5; have v5 := X.v5; have u5 := run_underlying X.t5
  go_enter L.f169, Body.n169_ntmps ρ
  go_wp2
  go_region_o
  all_goals (go_wp2; go_ret; exact ⟨rfl, (Chg.refl _ _).drewN 1⟩)

set_option maxHeartbeats 2000000 in
set_option maxRecDepth 100000 in
theorem builder_String_noroom (L : Lays.n169 P ρ) (X : Builder.Extra P ρ) (b g : Nat) (p : Value) (cur : Array Value) (w : World) (hbk : w.heap[b]? = some (.cells #[p, .slice (some ⟨g, 0, none⟩) 0 0] (ρ.t 72) (0, 0))) (hg : w.heap[g]? = some (.cells cur (ρ.t 5) (0, 0))) :
    Calls P (ρ.f 169) #[.pointer (some ⟨b, 0, none⟩)] w fun e w' => e = .returned (.string ⟨#[]⟩) ∧ Chg [] w w' := by
  have hUS := Any.unsafeString_none L X
  have hlt : b < w.heap.size := by
    rcases Nat.lt_or_ge b w.heap.size with h' | h'
    · exact h'
    · simp [Array.getElem?_eq_none h'] at hbk
  have c1 : w.drew.cell? ⟨b, 1, none⟩ = some (.slice (some ⟨g, 0, none⟩) 0 0) := by
    have : w.drew.heap[b]? = some (.cells #[p, .slice (some ⟨g, 0, none⟩) 0 0] (ρ.t 72) (0, 0)) := hbk
    rw [Lib.cell_of_heap this]; rfl
  have hSD : (Builtin.unsafeSliceData_ #[(ρ.t 37)] (ρ.t 127) #[.slice (some ⟨g, 0, none⟩) 0 0]).run P w.drew = .ok (.pointer (some ⟨w.drew.heap.size, 0, none⟩)) (w.drew.alloc (.view ⟨g, 0, none⟩ (ρ.t 5))) :=
    Lib.run_unsafeSliceData_zero w.drew _ _ (ρ.t 5) L.t127 ⟨g, 0, none⟩ 0 ((ρ.t 5), cur.size) (by have hg' : w.drew.heap[g]? = some (.cells cur (ρ.t 5) (0, 0)) := hg; simp [World.shape?, hg'])
  have c2 : (w.drew.alloc (.view ⟨g, 0, none⟩ (ρ.t 5))).cell? ⟨b, 1, none⟩ = some (.slice (some ⟨g, 0, none⟩) 0 0) := by
    have : (w.drew.alloc (.view ⟨g, 0, none⟩ (ρ.t 5))).heap[b]? = _ := (Lib.alloc_old w.drew _ b hlt).trans hbk
    rw [Lib.cell_of_heap this]; rfl
  have c3 : (w.alloc (.view ⟨g, 0, none⟩ (ρ.t 5))).drew.cell? ⟨b, 1, none⟩ = some (.slice (some ⟨g, 0, none⟩) 0 0) := c2
  have c0 : w.cell? ⟨b, 1, none⟩ = some (.slice (some ⟨g, 0, none⟩) 0 0) := c1
  have mixed := L.mixed
  have t72 := L.t72; have a72 := L.a72; have z72 := L.z72; have v72 := L.v72; have u72 := run_underlying L.t72
  have t70 := L.t70; have a70 := L.a70; have z70 := L.z70; have v70 := L.v70; have u70 := run_underlying L.t70
  have t37 := L.t37; have a37 := L.a37; have z37 := L.z37; have v37 := L.v37; have u37 := run_underlying L.t37
  have t127 := L.t127; have a127 := L.a127; have z127 := L.z127; have v127 := L.v127; have u127 := run_underlying L.t127
  have t3 := L.t3; have a3 := L.a3; have z3 := L.z3; have v3 := L.v3; have u3 := run_underlying L.t3
  have t9 := L.t9; have a9 := L.a9; have z9 := L.z9; have v9 := L.v9; have u9 := run_underlying L.t9
  have t5 := X.t5; have a5 := X.a5; have z5 := X.z5; have v5 := X.v5; have u5 := run_underlying X.t5
  go_enter L.f169, Body.n169_ntmps ρ
  go_wp2
  go_region_o
  all_goals (go_wp2; go_ret; exact ⟨rfl, ((Chg.refl _ _).drewN 1).alloc _⟩)

set_option maxHeartbeats 2000000 in
set_option maxRecDepth 100000 in
theorem builder_String_room (L : Lays.n169 P ρ) (X : Builder.Extra P ρ) (b g cap : Nat) (p : Value) (w : World) (hc0 : cap ≠ 0) (hbk : w.heap[b]? = some (.cells #[p, .slice (some ⟨g, 0, none⟩) 0 cap] (ρ.t 72) (0, 0))) :
    Calls P (ρ.f 169) #[.pointer (some ⟨b, 0, none⟩)] w fun e w' => e = .returned (.string ⟨#[]⟩) ∧ Chg [] w w' := by
  have hUS := Any.unsafeString_none L X
  have c1 : w.drew.cell? ⟨b, 1, none⟩ = some (.slice (some ⟨g, 0, none⟩) 0 cap) := by
    have : w.drew.heap[b]? = some (.cells #[p, .slice (some ⟨g, 0, none⟩) 0 cap] (ρ.t 72) (0, 0)) := hbk
    rw [Lib.cell_of_heap this]; rfl
  have hSD : (Builtin.unsafeSliceData_ #[(ρ.t 37)] (ρ.t 127) #[.slice (some ⟨g, 0, none⟩) 0 cap]).run P w.drew = .ok (.pointer (some ⟨g, 0, none⟩)) w.drew :=
    Lib.run_unsafeSliceData_row _ _ _ _ _ _ hc0
  clear hc0
  have mixed := L.mixed
  have t72 := L.t72; have a72 := L.a72; have z72 := L.z72; have v72 := L.v72; have u72 := run_underlying L.t72
  have t70 := L.t70; have a70 := L.a70; have z70 := L.z70; have v70 := L.v70; have u70 := run_underlying L.t70
  have t37 := L.t37; have a37 := L.a37; have z37 := L.z37; have v37 := L.v37; have u37 := run_underlying L.t37
  have t127 := L.t127; have a127 := L.a127; have z127 := L.z127; have v127 := L.v127; have u127 := run_underlying L.t127
  have t3 := L.t3; have a3 := L.a3; have z3 := L.z3; have v3 := L.v3; have u3 := run_underlying L.t3
  have t9 := L.t9; have a9 := L.a9; have z9 := L.z9; have v9 := L.v9; have u9 := run_underlying L.t9
  have t5 := X.t5; have a5 := X.a5; have z5 := X.z5; have v5 := X.v5; have u5 := run_underlying X.t5
  go_enter L.f169, Body.n169_ntmps ρ
  go_wp2
  go_region_o
  all_goals (go_wp2; go_ret; exact ⟨rfl, (Chg.refl _ _).drewN 1⟩)

/-- (*strings.Builder).String: the builder is given up -/
theorem Bd.string {W w : World} {S R : List Own} {Φ : PW} [Stable Φ] {b : Nat} {l : List UInt8} (L : Lays.n169 P ρ) (X : Builder.Extra P ρ) (h : Bd (ρ.t 72) (ρ.t 5) b l R) (c : Ctx W w (R ++ S) Φ) {K : Ending → World → Prop}
    (hk : ∀ w', Ctx W w' S Φ → K (.returned (.string ⟨l.toArray⟩)) w') : Calls P (ρ.f 169) #[.pointer (some ⟨b, 0, none⟩)] w K := by
  obtain ⟨pa, p, cap, hpa, rfl⟩ := h
  have hbk : w.heap[b]? = some (.cells #[pa, .slice p l.length cap] (ρ.t 72) (0, 0)) := c.blk 0 rfl
  have hown : w.ownsRow 0 (ρ.t 5) 1 (.slice p l.length cap) l.length (Lib.byteCells l) := c.own _ (List.mem_cons_of_mem _ List.mem_cons_self)
  by_cases h0 : l = []
  · subst h0
    rcases hown.2 with ⟨e, _⟩ | ⟨g, cap', cur, e, _, hg, _⟩
    · cases e
      exact (builder_String_nil L X b pa w hbk).mono fun e w' ⟨he, hc⟩ => by subst he; exact hk w' (c.lose (hc.mono (by simp)))
    · cases e
      by_cases hc0 : cap = 0
      · subst hc0
        exact (builder_String_noroom L X b g pa cur w hbk hg).mono fun e w' ⟨he, hc⟩ => by subst he; exact hk w' (c.lose (hc.mono (by simp)))
      · exact (builder_String_room L X b g cap pa w hc0 hbk).mono fun e w' ⟨he, hc⟩ => by subst he; exact hk w' (c.lose (hc.mono (by simp)))
  · have hl0 : l.length ≠ 0 := by simpa using h0
    obtain ⟨g, rfl⟩ : ∃ g, p = some ⟨g, 0, none⟩ := by
      rcases hown.2 with ⟨_, hz⟩ | ⟨g, cap', cur, hv, _⟩
      · exact absurd hz hl0
      · cases hv; exact ⟨g, rfl⟩
    exact (builder_String_some L X b g cap pa l w h0 hbk hown).mono fun e w' ⟨he, hc⟩ => by subst he; exact hk w' (c.lose (hc.mono (by simp [dom, Own.dom])))

end

/-! ### tables -/
/-- a table of the library's, in a block that nobody writes -/
def Tab (P : Program) (name : String) (k : IntKind) (zs : List Int) : PW := fun M w => Lib.TabIs P w name k zs ∧ ∀ g, P.globalNamed name = some g → g ∉ M

instance instStableTab (P : Program) (name : String) (k : IntKind) (zs : List Int) : Stable (Tab P name k zs) := ⟨fun {M M' w w'} hs h => by
  obtain ⟨h1, h2⟩ := h
  unfold Lib.TabIs World.var? at h1
  cases hg : P.globalNamed name with
  | none => simp [hg] at h1
  | some g =>
    simp only [hg, Option.bind_some] at h1
    have hlt : g < w.heap.size := by
      rcases Nat.lt_or_ge g w.heap.size with h' | h'
      · exact h'
      · rw [Array.getElem?_eq_none h'] at h1; simp at h1
    refine ⟨?_, fun g' hg' hm => ?_⟩
    · unfold Lib.TabIs World.var?
      simp only [hg, Option.bind_some]
      rw [hs.chg.block g hlt (h2 g hg)]
      exact h1
    · rw [hg] at hg'
      cases hg'
      rcases hs.sub g hm with h | h
      · exact h2 g hg h
      · omega⟩

theorem Tab.start {P : Program} {name : String} {k : IntKind} {zs : List Int} {w : World} (h : Lib.TabIs P w name k zs) : Tab P name k zs [] w := ⟨h, fun _ _ => by simp⟩

theorem chg_grow {w : World} {k : Nat} {os : Array Obj} : Chg [] w (Sort.grow (w.drewN k) os) :=
  ⟨rfl, rfl, rfl, by show w.heap.size ≤ (w.heap ++ os).size; rw [Array.size_append]; omega, fun j hj _ => by
    show (w.heap ++ os)[j]? = w.heap[j]?
    rw [Array.getElem?_append_left hj]⟩

/-- strconv.Itoa -/
theorem itoa_in {P : Program} {f : FuncId} {Φ : PW} [Stable Φ] {name : String} (hI : ∀ (n : Int), -9223372036854775808 ≤ n → n ≤ 9223372036854775807 → ∀ w, Lib.TabIs P w name .u64 Lib.pow10Tab →
      Calls P f #[.int .i64 n] w fun e w' => e = .returned (.string ⟨(Lib.itoa n).toArray⟩) ∧ ∃ k os, w' = Sort.grow (w.drewN k) os)
    (hΦ : ∀ M w, Φ M w → Tab P name .u64 Lib.pow10Tab M w) (n : Int) (h : I64 n) : GivesIn Φ P f #[.int .i64 n] (.string ⟨(Lib.itoa n).toArray⟩) :=
  ⟨fun W w S c => (hI n (by unfold I64 at h; omega) (by unfold I64 at h; omega) w (hΦ _ _ c.phi).1).mono fun e w' ⟨he, k, os, hw⟩ => ⟨he, by rw [hw]; exact c.call chg_grow⟩⟩

/-! ### rows with laid tables -/
open Go.ChangeShapes Go.WideShapes Go.ChangeAt

/-- the row: true, and what came in reads as it did; tables are laid -/
theorem lawTrueLaid {H : Type} {enc : TypeId × Value → H} {C : Checked} {os : Os} {f : FuncId} {fn : Func} {s : ChangeSpec} {conds : List PathCond} {apart fresh handsOn : Bool} {tb : TypeId} {ld : List (String × DataW Unit)}
    (own : ownKnob C.prog.godebug = none) (started : os.Started) (noInit : C.prog.inits.idxOf? f = none) (hfn : C.prog.funcs[f]? = some fn)
    (laid : laidOutB C.prog = true) (hvars : s.vars = []) (hspec : ∀ ds : List (DataW H), ds.length = fn.params.toList.length → (s.fn H (ds ++ [])).results = [.lit (.bool true)] ∧ (s.fn H (ds ++ [])).args = ds ∧ (s.fn H (ds ++ [])).vars = [])
    (hres : fn.resultTypes = #[tb]) (htb : C.prog.underlying tb = some .bool)
    (types : (fn.params.toList.all fun t => C.prog.readableRec t && decide (t < C.prog.types.size)) = true)
    (witness : ∃ (w : World) (tape : Tape) (i : Input), w.os = os ∧ (w.forCall tape i).Shaped C.prog ∧ i.vars = [] ∧ Input.okWide C.prog (w.forCall tape i) .any w.heap.size f i ∧
      ((s.pre enc C.prog fn conds apart (w.forCall tape i).memory i.args ∧ laidMetH C.prog ld (w.forCall tape i).memory) ∧ sizedMet enc C.prog fn (OpenSpec.ofChange s) apart (w.forCall tape i).memory i.args) ∧ Assume.holds {} C.prog (lone (Frame.enter C.prog f i.args .normal) [] (w.forCall tape i)))
    (contract : ∀ (W : World) (base : Nat) (args : Array Value) (ds : List (DataW H)) (p : List MemPlace),
      (∀ (j : Nat) t v, fn.params[j]? = some t → args[j]? = some v → Value.okWide C.prog W .any base t v) →
      DataW.TrodAll enc C.prog W 0 (fun _ => true) true fn.params.toList args.toList ds p →
      conds.all (PathCond.test C.prog ⟨fn.params.toList, ds, s.plain.varTypes C.prog, []⟩) = true → laidMetH C.prog ld W →
      Calls C.prog f args W fun e W' => ∃ u, e = .returned u ∧ (u = .bool true ∧ Chg [] W W')) :
    ReturnsInHanded {} C os f .any (fun w args => (s.pre enc C.prog fn conds apart w args ∧ laidMetH C.prog ld w) ∧ sizedMet enc C.prog fn (OpenSpec.ofChange s) apart w args) (s.post enc C.prog fn apart fresh handsOn false) := by
  refine returnsInHanded_of_change_and (X := fun w _ => laidMetH C.prog ld w) (fun _ _ _ hh h => h.of_heap hh) own started noInit hfn witness ?_
  intro W base args ds gs before hval hW hcnd _ hL _
  have hW' := hW
  obtain ⟨p, q, hA, hV, rfl, _, _⟩ := hW
  rw [hvars] at hV
  obtain ⟨rfl, rfl⟩ := trodVars_none hV
  simp only [List.append_nil] at hW'
  refine (contract W base args ds p hval hA hcnd hL).mono fun e W' ⟨u, he, hu, hc⟩ => ?_
  subst he; subst hu
  have hb : Below W.heap.size W W' := hc.below (Nat.le_refl _) (by simp)
  obtain ⟨e1, e2, e3⟩ := hspec ds (trodAll_length hA).2
  refine ⟨_, rfl, ds, [], p, [], p, [], hW', ?_, ?_, ?_, hb.frame _, fun h => by cases h⟩
  · rw [e1, hres]
    exact trodAll_mk1 (t := tb) (v := .bool true) ⟨1, by simp [DataW.trod, Value.cells, htb]⟩
  · rw [e2]
    exact trodAll_below laid hb types hA (fun x hx => by simpa using hW'.lt x hx)
  · rw [e3, hvars]
    rfl

end Go.Vc
end

/-
  STEPS of a walk: a call whose contract is known, and what follows it.
-/
section
set_option linter.unusedVariables false
set_option linter.unusedSimpArgs false
namespace Go.Vc

section
variable {P : Program} {W w : World} {R G : List Own} {Φ Ψ : PW} {f : FuncId} {args : Array Value}

/-- what is known holds this, too -/
class Has (Φ Ψ : PW) : Prop where
  go : ∀ M w, Φ M w → Ψ M w
instance (priority := 2000) hasRefl (Φ : PW) : Has Φ Φ := ⟨fun _ _ h => h⟩
instance (priority := 900) hasL (A B Ψ : PW) [h : Has A Ψ] : Has (fun M w => A M w ∧ B M w) Ψ := ⟨fun M w x => h.go M w x.1⟩
instance (priority := 1000) hasR (A B Ψ : PW) [h : Has B Ψ] : Has (fun M w => A M w ∧ B M w) Ψ := ⟨fun M w x => h.go M w x.2⟩
instance hasTrue (Φ : PW) : Has Φ (fun _ _ => True) := ⟨fun _ _ _ => trivial⟩
instance (priority := 800) hasAnd (Φ A B : PW) [h : Has Φ A] [k : Has Φ B] : Has Φ (fun M w => A M w ∧ B M w) := ⟨fun M w x => ⟨h.go M w x, k.go M w x⟩⟩

theorem Ctx.has (c : Ctx W w R Φ) [h : Has Φ Ψ] : Ctx W w R Ψ := c.weak h.go

theorem GivesSl.to [Stable Φ] {α : Type} [Gv α] {l : List α} (h : GivesSl Φ P f args l id) (c : Ctx W w (R ++ G) Φ) {K : Option Addr → Nat → Nat → List Own → PW → Prop}
    (hk : ∀ p cap, l.length ≤ cap → cap ≤ maxLen → Stable (fun M w => Φ M w ∧ Sl M w p l) → K p l.length cap R (fun M w => Φ M w ∧ Sl M w p l)) :
    Calls P f args w fun e w' => ∃ p n c, e = .returned (.slice p n c) ∧ ∃ R' Φ', Stable Φ' ∧ Ctx W w' (R' ++ G) Φ' ∧ K p n c R' Φ' :=
  h.use c fun p cap w' h1 h2 c => ⟨p, _, cap, rfl, R, _, inferInstance, c, hk p cap h1 h2 inferInstance⟩

theorem GivesIn.toB [Stable Φ] {b : Bool} (h : GivesIn Φ P f args (.bool b)) (c : Ctx W w (R ++ G) Φ) {K : Bool → List Own → PW → Prop} (hk : K b R Φ) :
    Calls P f args w fun e w' => ∃ c, e = .returned (.bool c) ∧ ∃ R' Φ', Stable Φ' ∧ Ctx W w' (R' ++ G) Φ' ∧ K c R' Φ' :=
  h.use c fun w' c => ⟨b, rfl, R, Φ, inferInstance, c, hk⟩
theorem GivesIn.toI [Stable Φ] {n : Int} {k : IntKind} (h : GivesIn Φ P f args (.int k n)) (c : Ctx W w (R ++ G) Φ) {K : Int → List Own → PW → Prop} (hk : K n R Φ) :
    Calls P f args w fun e w' => ∃ c, e = .returned (.int k c) ∧ ∃ R' Φ', Stable Φ' ∧ Ctx W w' (R' ++ G) Φ' ∧ K c R' Φ' :=
  h.use c fun w' c => ⟨n, rfl, R, Φ, inferInstance, c, hk⟩
theorem GivesIn.toS [Stable Φ] {s : ByteArray} (h : GivesIn Φ P f args (.string s)) (c : Ctx W w (R ++ G) Φ) {K : ByteArray → List Own → PW → Prop} (hk : K s R Φ) :
    Calls P f args w fun e w' => ∃ c, e = .returned (.string c) ∧ ∃ R' Φ', Stable Φ' ∧ Ctx W w' (R' ++ G) Φ' ∧ K c R' Φ' :=
  h.use c fun w' c => ⟨s, rfl, R, Φ, inferInstance, c, hk⟩

/-- .. of which less is kept -/
theorem GivesSl.toW [Stable Φ] [hs : Stable Ψ] {α : Type} [Gv α] {l : List α} (h : GivesSl Φ P f args l id) (c : Ctx W w (R ++ G) Φ) [hw : Has Φ Ψ] {K : Option Addr → Nat → Nat → List Own → PW → Prop}
    (hk : ∀ p cap, l.length ≤ cap → cap ≤ maxLen → Stable (fun M w => Ψ M w ∧ Sl M w p l) → K p l.length cap R (fun M w => Ψ M w ∧ Sl M w p l)) :
    Calls P f args w fun e w' => ∃ p n c, e = .returned (.slice p n c) ∧ ∃ R' Φ', Stable Φ' ∧ Ctx W w' (R' ++ G) Φ' ∧ K p n c R' Φ' :=
  h.use c fun p cap w' h1 h2 c => ⟨p, _, cap, rfl, R, _, inferInstance, c.weak fun M w h => ⟨hw.go M w h.1, h.2⟩, hk p cap h1 h2 inferInstance⟩
theorem GivesIn.toBW [hs : Stable Ψ] {b : Bool} (h : GivesIn Φ P f args (.bool b)) (c : Ctx W w (R ++ G) Φ) [hw : Has Φ Ψ] {K : Bool → List Own → PW → Prop} (hk : K b R Ψ) :
    Calls P f args w fun e w' => ∃ c, e = .returned (.bool c) ∧ ∃ R' Φ', Stable Φ' ∧ Ctx W w' (R' ++ G) Φ' ∧ K c R' Φ' :=
  h.use c fun w' c => ⟨b, rfl, R, Ψ, inferInstance, c.has, hk⟩

/-- the end -/
theorem fin [Stable Φ] [Stable Ψ] [hw : Has Ψ Φ] {v : Value} (c : Ctx W w (R ++ G) Ψ) : v = v ∧ Ctx W w R Φ := ⟨rfl, (Ctx.has c).left⟩

end
end Go.Vc
end

