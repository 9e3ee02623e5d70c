/-
  The conditions of the walks of some functions, one formula each; 'B<f>_run' says that they suffice. The formulas are printed by a program; the kernel compares them with the functions' code.
-/
import Derived.Test.YtfpgbejdlikpgaaGreatDoorCBa5

section
namespace Go.Proofs.YtfpgbejdlikpgaaGreatDoor
set_option linter.unusedVariables false
set_option linter.unusedSimpArgs false
set_option maxRecDepth 100000
open Go.Vc

/-- erratalaw36.ChannelBack -/
-- loop at region 6: 7 i; blocks 
-- known blocks: 14 y, 16 z
def Berratalaw36_ChannelBack (lP : Option Addr) (lN lC : Nat) (s : ByteArray) (W : World) (R : List Own) (Φ : PW) (J : Value → World → Prop) : Prop :=
  ∀ (w0 : World) (R1 : List Own), Ctx W w0 (R ++ R1) Φ → Calls Tryz.prog F.erratalaw36_small #[] w0 fun (e2 : Ending) (w3 : World) => ∃ (c4 : Bool), e2 = Ending.returned (Value.bool c4) ∧ ∃
  (R5 : List Own), ∃ (Φ6 : PW), Stable Φ6 ∧ Ctx W w3 (R5 ++ R1) Φ6 ∧ ∀ (w7 : World) (R8 : List Own), Ctx W w7 (R5 ++ R8) Φ6 → Calls Tryz.prog F.channel_New #[] w7 fun (e9 : Ending) (w10 :
  World) => ∃ (p11 : Option Addr), e9 = Ending.returned (Value.pointer p11) ∧ ∃ (R12 : List Own), ∃ (Φ13 : PW), Stable Φ13 ∧ Ctx W w10 (R12 ++ R8) Φ13 ∧ ∀ (w14 : World) (R15 : List Own), Ctx
  W w14 (R12 ++ R15) Φ13 → Calls Tryz.prog F.erratalaw36_few #[Value.slice lP lN lC, Value.int IntKind.i64 40] w14 fun (e16 : Ending) (w17 : World) => ∃ (c18 : Bool), e16 = Ending.returned
  (Value.bool c18) ∧ ∃ (R19 : List Own), ∃ (Φ20 : PW), Stable Φ20 ∧ Ctx W w17 (R19 ++ R15) Φ20 ∧ Br (!c18) (∀ (w21 : World) (R22 : List Own), Ctx W w21 (R19 ++ R22) Φ20 → ∀ (w23 : World) (R24
  : List Own), Ctx W w23 (R19 ++ R24) Φ20 → J (Value.bool (c4 && !p11.isNone)) w23) (Br (decide (600 < (↑s.size : Int))) (∀ (w25 : World) (R26 : List Own), Ctx W w25 (R19 ++ R26) Φ20 → ∀ (w27
  : World) (R28 : List Own), Ctx W w27 (R19 ++ R28) Φ20 → J (Value.bool (c4 && !p11.isNone)) w27) (Br p11.isNone (∀ (w29 : World) (R30 : List Own), Ctx W w29 (R19 ++ R30) Φ20 → ∀ (w31 :
  World) (R32 : List Own), Ctx W w31 (R19 ++ R32) Φ20 → J (Value.bool (c4 && !p11.isNone)) w31) (exI fun (I33 : Int → List Own → PW → Nat → Prop) => (∃ (R34 : List Own), ∃ (Φ35 : PW), ∃ (k36
  : Nat), Stable Φ35 ∧ (∀ (w37 : World) (R38 : List Own), Ctx W w37 (R19 ++ R38) Φ20 → Ctx W w37 (R34 ++ R38) Φ35) ∧ I33 0 R34 Φ35 k36) ∧ ∀ (n39 : Int) (R40 : List Own) (I41 : List Nat →
  World → Prop) (k42 : Nat), Stable I41 → I33 n39 R40 I41 k42 → Br (decide (n39 < (↑lN : Int))) ((0 ≤ n39 ∧ n39 < (↑lN : Int)) ∧ ptrK none lP fun (k43 k44 : Nat) => ∀ (w45 : World) (R46 :
  List Own), Ctx W w45 (R40 ++ R46) I41 → ∃ (n47 : Int), ∃ (n48 : Int), ∃ (n49 : Int), ∃ (n50 : Int), ∃ (n51 : Int), ∃ (p52 : Option Addr), ∃ (k53 : Nat), ∃ (k54 : Nat), RowAt w45 k43 (k44 +
  n39.toNat * 7 + 1) [Value.int IntKind.i64 n47, Value.int IntKind.i64 n48, Value.int IntKind.i64 n49, Value.int IntKind.i64 n50, Value.int IntKind.i64 n51, Value.slice p52 k53 k54] ∧ ∀ (w55
  : World) (R56 : List Own), Ctx W w55 (R40 ++ R56) I41 → Calls Tryz.prog F.erratalaw36_right #[Value.agg #[Value.int IntKind.i64 n47, Value.int IntKind.i64 n48, Value.int IntKind.i64 n49,
  Value.int IntKind.i64 n50, Value.int IntKind.i64 n51, Value.slice p52 k53 k54]] w55 fun (e57 : Ending) (w58 : World) => ∃ (c59 : Bool), e57 = Ending.returned (Value.bool c59) ∧ ∃ (R60 :
  List Own), ∃ (Φ61 : PW), Stable Φ61 ∧ Ctx W w58 (R60 ++ R56) Φ61 ∧ Br (!c59) (∀ (w62 : World) (R63 : List Own), Ctx W w62 (R60 ++ R63) Φ61 → J (Value.bool c4) w62) ((0 ≤ n39 ∧ n39 < (↑lN :
  Int)) ∧ ptrK none lP fun (k64 k65 : Nat) => ∀ (w66 : World) (R67 : List Own), Ctx W w66 (R60 ++ R67) Φ61 → ∃ (n68 : Int), w66.cell? (Addr.mk k64 (k65 + n39.toNat * 7) none) = some
  (Value.int IntKind.i64 n68) ∧ ∃ (n69 : Int), (∀ (w70 : World), Sem.run Tryz.prog (binOp BinOp.and 3 (Value.int IntKind.i64 n68) (Value.int IntKind.i64 3)) w70 = Result.ok (Value.int
  IntKind.i64 n69) w70) ∧ Br (decide (n69 = 2)) (∀ (w71 : World) (R72 : List Own), Ctx W w71 (R60 ++ R72) Φ61 → Calls Tryz.prog F.channel_Channel_Take #[Value.pointer p11] w71 fun (e73 :
  Ending) (w74 : World) => ∃ (n75 : Int), ∃ (n76 : Int), ∃ (n77 : Int), ∃ (n78 : Int), ∃ (n79 : Int), ∃ (p80 : Option Addr), ∃ (k81 : Nat), ∃ (k82 : Nat), ∃ (n83 : Int), e73 = Ending.returned
  (Value.tuple #[Value.agg #[Value.int IntKind.i64 n75, Value.int IntKind.i64 n76, Value.int IntKind.i64 n77, Value.int IntKind.i64 n78, Value.int IntKind.i64 n79, Value.slice p80 k81 k82],
  Value.int IntKind.i64 n83]) ∧ ∃ (R84 : List Own), ∃ (Φ85 : PW), Stable Φ85 ∧ Ctx W w74 (R84 ++ R72) Φ85 ∧ I64 (n39 + 1) ∧ ∃ (R86 : List Own), ∃ (Φ87 : PW), ∃ (k88 : Nat), Stable Φ87 ∧ (∀
  (w89 : World) (R90 : List Own), Ctx W w89 (R84 ++ R90) Φ85 → Ctx W w89 (R86 ++ R90) Φ87) ∧ I33 (n39 + 1) R86 Φ87 k88 ∧ k88 < k42) ((0 ≤ n39 ∧ n39 < (↑lN : Int)) ∧ ptrK none lP fun (k91 k92
  : Nat) => ∀ (w93 : World) (R94 : List Own), Ctx W w93 (R60 ++ R94) Φ61 → ∃ (n95 : Int), ∃ (n96 : Int), ∃ (n97 : Int), ∃ (n98 : Int), ∃ (n99 : Int), ∃ (p100 : Option Addr), ∃ (k101 : Nat), ∃
  (k102 : Nat), RowAt w93 k91 (k92 + n39.toNat * 7 + 1) [Value.int IntKind.i64 n95, Value.int IntKind.i64 n96, Value.int IntKind.i64 n97, Value.int IntKind.i64 n98, Value.int IntKind.i64 n99,
  Value.slice p100 k101 k102] ∧ ∀ (w103 : World) (R104 : List Own), Ctx W w103 (R60 ++ R104) Φ61 → Calls Tryz.prog F.channel_Channel_Send #[Value.pointer p11, Value.agg #[Value.int
  IntKind.i64 n95, Value.int IntKind.i64 n96, Value.int IntKind.i64 n97, Value.int IntKind.i64 n98, Value.int IntKind.i64 n99, Value.slice p100 k101 k102]] w103 fun (e105 : Ending) (w106 :
  World) => ∃ (n107 : Int), e105 = Ending.returned (Value.int IntKind.i64 n107) ∧ ∃ (R108 : List Own), ∃ (Φ109 : PW), Stable Φ109 ∧ Ctx W w106 (R108 ++ R104) Φ109 ∧ I64 (n39 + 1) ∧ ∃ (R110 :
  List Own), ∃ (Φ111 : PW), ∃ (k112 : Nat), Stable Φ111 ∧ (∀ (w113 : World) (R114 : List Own), Ctx W w113 (R108 ++ R114) Φ109 → Ctx W w113 (R110 ++ R114) Φ111) ∧ I33 (n39 + 1) R110 Φ111 k112
  ∧ k112 < k42))) (∀ (w115 : World) (R116 : List Own), Ctx W w115 (R40 ++ R116) I41 → Calls Tryz.prog F.channel_Channel_Bytes #[Value.pointer p11] w115 fun (e117 : Ending) (w118 : World) => ∃
  (s119 : ByteArray), e117 = Ending.returned (Value.string s119) ∧ ∃ (R120 : List Own), ∃ (Φ121 : PW), Stable Φ121 ∧ Ctx W w118 (R120 ++ R116) Φ121 ∧ ∀ (w122 : World) (R123 : List Own), Ctx W
  w122 (R120 ++ R123) Φ121 → Calls Tryz.prog F.channel_Read #[Value.string s119] w122 fun (e124 : Ending) (w125 : World) => ∃ (p126 : Option Addr), ∃ (c127 : Bool), e124 = Ending.returned
  (Value.tuple #[Value.pointer p126, Value.bool c127]) ∧ ∃ (R128 : List Own), ∃ (Φ129 : PW), Stable Φ129 ∧ Ctx W w125 (R128 ++ R123) Φ129 ∧ ∀ (w130 : World) (R131 : List Own), Ctx W w130
  (R128 ++ R131) Φ129 → Br (!c127 || p126.isNone) (∀ (w132 : World) (R133 : List Own), Ctx W w132 (R128 ++ R133) Φ129 → J (Value.bool false) w132) (∀ (w134 : World) (R135 : List Own), Ctx W
  w134 (R128 ++ R135) Φ129 → Calls Tryz.prog F.channel_Channel_List #[Value.pointer p11] w134 fun (e136 : Ending) (w137 : World) => ∃ (p138 : Option Addr), ∃ (k139 : Nat), ∃ (k140 : Nat),
  e136 = Ending.returned (Value.slice p138 k139 k140) ∧ ∃ (R141 : List Own), ∃ (Φ142 : PW), Stable Φ142 ∧ Ctx W w137 (R141 ++ R135) Φ142 ∧ ∀ (w143 : World) (R144 : List Own), Ctx W w143 (R141
  ++ R144) Φ142 → Calls Tryz.prog F.channel_Channel_List #[Value.pointer p126] w143 fun (e145 : Ending) (w146 : World) => ∃ (p147 : Option Addr), ∃ (k148 : Nat), ∃ (k149 : Nat), e145 =
  Ending.returned (Value.slice p147 k148 k149) ∧ ∃ (R150 : List Own), ∃ (Φ151 : PW), Stable Φ151 ∧ Ctx W w146 (R150 ++ R144) Φ151 ∧ ∀ (w152 : World) (R153 : List Own), Ctx W w152 (R150 ++
  R153) Φ151 → Calls Tryz.prog F.errataref36_SameList #[Value.slice p138 k139 k140, Value.slice p147 k148 k149] w152 fun (e154 : Ending) (w155 : World) => ∃ (c156 : Bool), e154 =
  Ending.returned (Value.bool c156) ∧ ∃ (R157 : List Own), ∃ (Φ158 : PW), Stable Φ158 ∧ Ctx W w155 (R157 ++ R153) Φ158 ∧ Br (!c156) (∀ (w159 : World) (R160 : List Own), Ctx W w159 (R157 ++
  R160) Φ158 → J (Value.bool false) w159) (∀ (w161 : World) (R162 : List Own), Ctx W w161 (R157 ++ R162) Φ158 → Calls Tryz.prog F.channel_Channel_Sent #[Value.pointer p126] w161 fun (e163 :
  Ending) (w164 : World) => ∃ (n165 : Int), e163 = Ending.returned (Value.int IntKind.i64 n165) ∧ ∃ (R166 : List Own), ∃ (Φ167 : PW), Stable Φ167 ∧ Ctx W w164 (R166 ++ R162) Φ167 ∧ ∀ (w168 :
  World) (R169 : List Own), Ctx W w168 (R166 ++ R169) Φ167 → Calls Tryz.prog F.channel_Channel_Sent #[Value.pointer p11] w168 fun (e170 : Ending) (w171 : World) => ∃ (n172 : Int), e170 =
  Ending.returned (Value.int IntKind.i64 n172) ∧ ∃ (R173 : List Own), ∃ (Φ174 : PW), Stable Φ174 ∧ Ctx W w171 (R173 ++ R169) Φ174 ∧ Br (decide (n165 ≠ n172)) (∀ (w175 : World) (R176 : List
  Own), Ctx W w175 (R173 ++ R176) Φ174 → J (Value.bool false) w175) (∀ (w177 : World) (R178 : List Own), Ctx W w177 (R173 ++ R178) Φ174 → Calls Tryz.prog F.channel_Channel_Bytes
  #[Value.pointer p126] w177 fun (e179 : Ending) (w180 : World) => ∃ (s181 : ByteArray), e179 = Ending.returned (Value.string s181) ∧ ∃ (R182 : List Own), ∃ (Φ183 : PW), Stable Φ183 ∧ Ctx W
  w180 (R182 ++ R178) Φ183 ∧ ∀ (w184 : World) (R185 : List Own), Ctx W w184 (R182 ++ R185) Φ183 → Calls Tryz.prog F.channel_Channel_Bytes #[Value.pointer p11] w184 fun (e186 : Ending) (w187 :
  World) => ∃ (s188 : ByteArray), e186 = Ending.returned (Value.string s188) ∧ ∃ (R189 : List Own), ∃ (Φ190 : PW), Stable Φ190 ∧ Ctx W w187 (R189 ++ R185) Φ190 ∧ Br (decide (s181 ≠ s188)) (∀
  (w191 : World) (R192 : List Own), Ctx W w191 (R189 ++ R192) Φ190 → J (Value.bool false) w191) (∀ (w193 : World) (R194 : List Own), Ctx W w193 (R189 ++ R194) Φ190 → Calls Tryz.prog
  F.channel_Read #[Value.string s] w193 fun (e195 : Ending) (w196 : World) => ∃ (p197 : Option Addr), ∃ (c198 : Bool), e195 = Ending.returned (Value.tuple #[Value.pointer p197, Value.bool
  c198]) ∧ ∃ (R199 : List Own), ∃ (Φ200 : PW), Stable Φ200 ∧ Ctx W w196 (R199 ++ R194) Φ200 ∧ ∀ (w201 : World) (R202 : List Own), Ctx W w201 (R199 ++ R202) Φ200 → Calls Tryz.prog
  F.errataref36_Read #[Value.string s] w201 fun (e203 : Ending) (w204 : World) => ∃ (p205 : Option Addr), ∃ (c206 : Bool), e203 = Ending.returned (Value.tuple #[Value.pointer p205, Value.bool
  c206]) ∧ ∃ (R207 : List Own), ∃ (Φ208 : PW), Stable Φ208 ∧ Ctx W w204 (R207 ++ R202) Φ208 ∧ ∀ (w209 : World) (R210 : List Own), Ctx W w209 (R207 ++ R210) Φ208 → Calls Tryz.prog
  F.channel_ReadMessage #[Value.string s] w209 fun (e211 : Ending) (w212 : World) => ∃ (n213 : Int), ∃ (n214 : Int), ∃ (n215 : Int), ∃ (n216 : Int), ∃ (n217 : Int), ∃ (p218 : Option Addr), ∃
  (k219 : Nat), ∃ (k220 : Nat), ∃ (c221 : Bool), e211 = Ending.returned (Value.tuple #[Value.agg #[Value.int IntKind.i64 n213, Value.int IntKind.i64 n214, Value.int IntKind.i64 n215,
  Value.int IntKind.i64 n216, Value.int IntKind.i64 n217, Value.slice p218 k219 k220], Value.bool c221]) ∧ ∃ (R222 : List Own), ∃ (Φ223 : PW), Stable Φ223 ∧ Ctx W w212 (R222 ++ R210) Φ223 ∧ ∀
  (b : Nat) (w224 : World) (R225 : List Own), Ctx W w224 (R222 ++ R225) Φ223 → Calls Tryz.prog F.errataref36_ReadMessage #[Value.string s] w224 fun (e226 : Ending) (w227 : World) => ∃ (n228 :
  Int), ∃ (n229 : Int), ∃ (n230 : Int), ∃ (n231 : Int), ∃ (n232 : Int), ∃ (p233 : Option Addr), ∃ (k234 : Nat), ∃ (k235 : Nat), ∃ (c236 : Bool), e226 = Ending.returned (Value.tuple
  #[Value.agg #[Value.int IntKind.i64 n228, Value.int IntKind.i64 n229, Value.int IntKind.i64 n230, Value.int IntKind.i64 n231, Value.int IntKind.i64 n232, Value.slice p233 k234 k235],
  Value.bool c236]) ∧ ∃ (R237 : List Own), ∃ (Φ238 : PW), Stable Φ238 ∧ Ctx W w227 (R237 ++ R225) Φ238 ∧ ∀ (b : Nat), Br (c198 != c206) (∀ (w239 : World) (R240 : List Own), Ctx W w239 (R237
  ++ R240) Φ238 → J (Value.bool false) w239) (Br (c198 != !p197.isNone) (∀ (w241 : World) (R242 : List Own), Ctx W w241 (R237 ++ R242) Φ238 → J (Value.bool false) w241) (Br (c221 != c236) (∀
  (w243 : World) (R244 : List Own), Ctx W w243 (R237 ++ R244) Φ238 → J (Value.bool false) w243) (∀ (w245 : World) (R246 : List Own), Ctx W w245 (R237 ++ R246) Φ238 → Calls Tryz.prog
  F.errataref36_Same #[Value.agg #[Value.int IntKind.i64 n213, Value.int IntKind.i64 n214, Value.int IntKind.i64 n215, Value.int IntKind.i64 n216, Value.int IntKind.i64 n217, Value.slice p218
  k219 k220], Value.agg #[Value.int IntKind.i64 n228, Value.int IntKind.i64 n229, Value.int IntKind.i64 n230, Value.int IntKind.i64 n231, Value.int IntKind.i64 n232, Value.slice p233 k234
  k235]] w245 fun (e247 : Ending) (w248 : World) => ∃ (c249 : Bool), e247 = Ending.returned (Value.bool c249) ∧ ∃ (R250 : List Own), ∃ (Φ251 : PW), Stable Φ251 ∧ Ctx W w248 (R250 ++ R246)
  Φ251 ∧ Br (!c249) (∀ (w252 : World) (R253 : List Own), Ctx W w252 (R250 ++ R253) Φ251 → J (Value.bool false) w252) (Br c221 (∀ (w254 : World) (R255 : List Own), Ctx W w254 (R250 ++ R255)
  Φ251 → Calls Tryz.prog F.channel_MessageBytes #[Value.agg #[Value.int IntKind.i64 n213, Value.int IntKind.i64 n214, Value.int IntKind.i64 n215, Value.int IntKind.i64 n216, Value.int
  IntKind.i64 n217, Value.slice p218 k219 k220]] w254 fun (e256 : Ending) (w257 : World) => ∃ (s258 : ByteArray), e256 = Ending.returned (Value.string s258) ∧ ∃ (R259 : List Own), ∃ (Φ260 :
  PW), Stable Φ260 ∧ Ctx W w257 (R259 ++ R255) Φ260 ∧ Br (decide (s258 ≠ s)) (∀ (w261 : World) (R262 : List Own), Ctx W w261 (R259 ++ R262) Φ260 → J (Value.bool false) w261) (Br c4 (Br
  p197.isNone (∀ (w263 : World) (R264 : List Own), Ctx W w263 (R259 ++ R264) Φ260 → J (Value.bool true) w263) (∀ (w265 : World) (R266 : List Own), Ctx W w265 (R259 ++ R266) Φ260 → Calls
  Tryz.prog F.channel_Channel_Bytes #[Value.pointer p197] w265 fun (e267 : Ending) (w268 : World) => ∃ (s269 : ByteArray), e267 = Ending.returned (Value.string s269) ∧ ∃ (R270 : List Own), ∃
  (Φ271 : PW), Stable Φ271 ∧ Ctx W w268 (R270 ++ R266) Φ271 ∧ ∀ (w272 : World) (R273 : List Own), Ctx W w272 (R270 ++ R273) Φ271 → J (Value.bool (decide (s269 = s))) w272)) (∀ (w274 : World)
  (R275 : List Own), Ctx W w274 (R259 ++ R275) Φ260 → J (Value.bool false) w274))) (Br c4 (Br p197.isNone (∀ (w276 : World) (R277 : List Own), Ctx W w276 (R250 ++ R277) Φ251 → J (Value.bool
  true) w276) (∀ (w278 : World) (R279 : List Own), Ctx W w278 (R250 ++ R279) Φ251 → Calls Tryz.prog F.channel_Channel_Bytes #[Value.pointer p197] w278 fun (e280 : Ending) (w281 : World) => ∃
  (s282 : ByteArray), e280 = Ending.returned (Value.string s282) ∧ ∃ (R283 : List Own), ∃ (Φ284 : PW), Stable Φ284 ∧ Ctx W w281 (R283 ++ R279) Φ284 ∧ ∀ (w285 : World) (R286 : List Own), Ctx W
  w285 (R283 ++ R286) Φ284 → J (Value.bool (decide (s282 = s))) w285)) (∀ (w287 : World) (R288 : List Own), Ctx W w287 (R250 ++ R288) Φ251 → J (Value.bool false) w287))))))))))))))

theorem Berratalaw36_ChannelBack_run (lP : Option Addr) (lN lC : Nat) (s : ByteArray) {W w : World} {R : List Own} {Φ : PW} [Stable Φ] {J : Value → World → Prop} (c : Ctx W w R Φ) (h : Berratalaw36_ChannelBack lP lN lC s W R Φ J) : Calls Tryz.prog F.erratalaw36_ChannelBack #[.slice lP lN lC, .string s] w fun e w' => ∃ v, e = .returned v ∧ J v w' :=
  vcFS_sound (H := { keep := some [0, 1, 4, 5, 6, 7, 8, 9, 10, 11, 13, 14, 15, 16, 17, 31, 40, 49, 57, 78, 98, 147], track := [14, 16], split := [3, 16, 22, 24], loops := [(6, [(7, .one (.int .i64))], [])] }) (by rw [show vcFS Tryz.prog W { keep := some [0, 1, 4, 5, 6, 7, 8, 9, 10, 11, 13, 14, 15, 16, 17, 31, 40, 49, 57, 78, 98, 147], track := [14, 16], split := [3, 16, 22, 24], loops := [(6, [(7, .one (.int .i64))], [])] } F.erratalaw36_ChannelBack #[.slice lP lN lC, .string s] R Φ J = Berratalaw36_ChannelBack lP lN lC s W R Φ J by kernel_rfl]; exact h) c

/-- erratalaw36.small -/
-- loop at region 5: 2 i; blocks 
-- known blocks: 4 m
def Berratalaw36_small  (W : World) (R : List Own) (Φ : PW) (J : Value → World → Prop) : Prop :=
  ∀ (w0 : World) (R1 : List Own), Ctx W w0 (R ++ R1) Φ → Calls Tryz.prog F.channel_New #[] w0 fun (e2 : Ending) (w3 : World) => ∃ (p4 : Option Addr), e2 = Ending.returned (Value.pointer p4) ∧
  ∃ (R5 : List Own), ∃ (Φ6 : PW), Stable Φ6 ∧ Ctx W w3 (R5 ++ R1) Φ6 ∧ Br p4.isNone (∀ (w7 : World) (R8 : List Own), Ctx W w7 (R5 ++ R8) Φ6 → J (Value.bool false) w7) (exI fun (I9 : Int →
  List Own → PW → Nat → Prop) => (∃ (R10 : List Own), ∃ (Φ11 : PW), ∃ (k12 : Nat), Stable Φ11 ∧ (∀ (w13 : World) (R14 : List Own), Ctx W w13 (R5 ++ R14) Φ6 → Ctx W w13 (R10 ++ R14) Φ11) ∧ I9
  0 R10 Φ11 k12) ∧ ∀ (n15 : Int) (R16 : List Own) (I17 : List Nat → World → Prop) (k18 : Nat), Stable I17 → I9 n15 R16 I17 k18 → Br (decide (n15 < 4)) (∀ (w19 : World) (R20 : List Own), Ctx W
  w19 (R16 ++ R20) I17 → Calls Tryz.prog F.erratalaw36_mark #[Value.int IntKind.i64 n15] w19 fun (e21 : Ending) (w22 : World) => ∃ (n23 : Int), ∃ (n24 : Int), ∃ (n25 : Int), ∃ (n26 : Int), ∃
  (n27 : Int), ∃ (p28 : Option Addr), ∃ (k29 : Nat), ∃ (k30 : Nat), e21 = Ending.returned (Value.agg #[Value.int IntKind.i64 n23, Value.int IntKind.i64 n24, Value.int IntKind.i64 n25,
  Value.int IntKind.i64 n26, Value.int IntKind.i64 n27, Value.slice p28 k29 k30]) ∧ ∃ (R31 : List Own), ∃ (Φ32 : PW), Stable Φ32 ∧ Ctx W w22 (R31 ++ R20) Φ32 ∧ ∀ (w33 : World) (R34 : List
  Own), Ctx W w33 (R31 ++ R34) Φ32 → Calls Tryz.prog F.channel_Channel_Send #[Value.pointer p4, Value.agg #[Value.int IntKind.i64 n23, Value.int IntKind.i64 n24, Value.int IntKind.i64 n25,
  Value.int IntKind.i64 n26, Value.int IntKind.i64 n27, Value.slice p28 k29 k30]] w33 fun (e35 : Ending) (w36 : World) => ∃ (n37 : Int), e35 = Ending.returned (Value.int IntKind.i64 n37) ∧ ∃
  (R38 : List Own), ∃ (Φ39 : PW), Stable Φ39 ∧ Ctx W w36 (R38 ++ R34) Φ39 ∧ Br (decide (n37 ≠ 0)) (∀ (w40 : World) (R41 : List Own), Ctx W w40 (R38 ++ R41) Φ39 → J (Value.bool false) w40)
  (I64 (n15 + 1) ∧ ∃ (R42 : List Own), ∃ (Φ43 : PW), ∃ (k44 : Nat), Stable Φ43 ∧ (∀ (w45 : World) (R46 : List Own), Ctx W w45 (R38 ++ R46) Φ39 → Ctx W w45 (R42 ++ R46) Φ43) ∧ I9 (n15 + 1) R42
  Φ43 k44 ∧ k44 < k18)) (∀ (w47 : World) (R48 : List Own), Ctx W w47 (R16 ++ R48) I17 → Calls Tryz.prog F.erratalaw36_mark #[Value.int IntKind.i64 4] w47 fun (e49 : Ending) (w50 : World) => ∃
  (n51 : Int), ∃ (n52 : Int), ∃ (n53 : Int), ∃ (n54 : Int), ∃ (n55 : Int), ∃ (p56 : Option Addr), ∃ (k57 : Nat), ∃ (k58 : Nat), e49 = Ending.returned (Value.agg #[Value.int IntKind.i64 n51,
  Value.int IntKind.i64 n52, Value.int IntKind.i64 n53, Value.int IntKind.i64 n54, Value.int IntKind.i64 n55, Value.slice p56 k57 k58]) ∧ ∃ (R59 : List Own), ∃ (Φ60 : PW), Stable Φ60 ∧ Ctx W
  w50 (R59 ++ R48) Φ60 ∧ ∀ (w61 : World) (R62 : List Own), Ctx W w61 (R59 ++ R62) Φ60 → Calls Tryz.prog F.channel_Channel_Send #[Value.pointer p4, Value.agg #[Value.int IntKind.i64 n51,
  Value.int IntKind.i64 n52, Value.int IntKind.i64 n53, Value.int IntKind.i64 n54, Value.int IntKind.i64 n55, Value.slice p56 k57 k58]] w61 fun (e63 : Ending) (w64 : World) => ∃ (n65 : Int),
  e63 = Ending.returned (Value.int IntKind.i64 n65) ∧ ∃ (R66 : List Own), ∃ (Φ67 : PW), Stable Φ67 ∧ Ctx W w64 (R66 ++ R62) Φ67 ∧ ∀ (w68 : World) (R69 : List Own), Ctx W w68 (R66 ++ R69) Φ67
  → Calls Tryz.prog F.channel_Channel_Take #[Value.pointer p4] w68 fun (e70 : Ending) (w71 : World) => ∃ (n72 : Int), ∃ (n73 : Int), ∃ (n74 : Int), ∃ (n75 : Int), ∃ (n76 : Int), ∃ (p77 :
  Option Addr), ∃ (k78 : Nat), ∃ (k79 : Nat), ∃ (n80 : Int), e70 = Ending.returned (Value.tuple #[Value.agg #[Value.int IntKind.i64 n72, Value.int IntKind.i64 n73, Value.int IntKind.i64 n74,
  Value.int IntKind.i64 n75, Value.int IntKind.i64 n76, Value.slice p77 k78 k79], Value.int IntKind.i64 n80]) ∧ ∃ (R81 : List Own), ∃ (Φ82 : PW), Stable Φ82 ∧ Ctx W w71 (R81 ++ R69) Φ82 ∧ ∀
  (b : Nat) (w83 : World) (R84 : List Own), Ctx W w83 (R81 ++ R84) Φ82 → Calls Tryz.prog F.erratalaw36_mark #[Value.int IntKind.i64 4] w83 fun (e85 : Ending) (w86 : World) => ∃ (n87 : Int), ∃
  (n88 : Int), ∃ (n89 : Int), ∃ (n90 : Int), ∃ (n91 : Int), ∃ (p92 : Option Addr), ∃ (k93 : Nat), ∃ (k94 : Nat), e85 = Ending.returned (Value.agg #[Value.int IntKind.i64 n87, Value.int
  IntKind.i64 n88, Value.int IntKind.i64 n89, Value.int IntKind.i64 n90, Value.int IntKind.i64 n91, Value.slice p92 k93 k94]) ∧ ∃ (R95 : List Own), ∃ (Φ96 : PW), Stable Φ96 ∧ Ctx W w86 (R95
  ++ R84) Φ96 ∧ ∀ (w97 : World) (R98 : List Own), Ctx W w97 (R95 ++ R98) Φ96 → Calls Tryz.prog F.channel_Channel_Send #[Value.pointer p4, Value.agg #[Value.int IntKind.i64 n87, Value.int
  IntKind.i64 n88, Value.int IntKind.i64 n89, Value.int IntKind.i64 n90, Value.int IntKind.i64 n91, Value.slice p92 k93 k94]] w97 fun (e99 : Ending) (w100 : World) => ∃ (n101 : Int), e99 =
  Ending.returned (Value.int IntKind.i64 n101) ∧ ∃ (R102 : List Own), ∃ (Φ103 : PW), Stable Φ103 ∧ Ctx W w100 (R102 ++ R98) Φ103 ∧ ∀ (w104 : World) (R105 : List Own), Ctx W w104 (R102 ++
  R105) Φ103 → ∃ (n106 : Int), ((decide (n65 = 27) && decide (n76 = 0) && decide (n80 = 0) && decide (n101 = 0)) = true → ∀ (w107 : World), w107 = w104 → Calls Tryz.prog F.channel_Channel_Len
  #[Value.pointer p4] w107 fun (e108 : Ending) (w109 : World) => e108 = Ending.returned (Value.int IntKind.i64 n106) ∧ w109 = w104) ∧ ∃ (n110 : Int), ((decide (n65 = 27) && decide (n76 = 0)
  && decide (n80 = 0) && decide (n101 = 0) && decide (n106 = 4)) = true → ∀ (w111 : World), w111 = w104 → Calls Tryz.prog F.channel_Channel_Free #[Value.pointer p4] w111 fun (e112 : Ending)
  (w113 : World) => e112 = Ending.returned (Value.int IntKind.i64 n110) ∧ w113 = w104) ∧ ∃ (n114 : Int), ((decide (n65 = 27) && decide (n76 = 0) && decide (n80 = 0) && decide (n101 = 0) &&
  decide (n106 = 4) && decide (n110 = 0)) = true → ∀ (w115 : World), w115 = w104 → Calls Tryz.prog F.channel_Channel_Sent #[Value.pointer p4] w115 fun (e116 : Ending) (w117 : World) => e116 =
  Ending.returned (Value.int IntKind.i64 n114) ∧ w117 = w104) ∧ ∀ (w118 : World) (R119 : List Own), Ctx W w118 (R102 ++ R119) Φ103 → J (Value.bool (decide (n65 = 27) && decide (n76 = 0) &&
  decide (n80 = 0) && decide (n101 = 0) && decide (n106 = 4) && decide (n110 = 0) && decide (n114 = 5))) w118))

theorem Berratalaw36_small_run  {W w : World} {R : List Own} {Φ : PW} [Stable Φ] {J : Value → World → Prop} (c : Ctx W w R Φ) (h : Berratalaw36_small  W R Φ J) : Calls Tryz.prog F.erratalaw36_small #[] w fun e w' => ∃ v, e = .returned v ∧ J v w' :=
  vcFS_sound (H := { keep := some [0, 1, 2, 3, 4, 5, 6, 9, 11, 18], track := [4], loops := [(5, [(2, .one (.int .i64))], [])] }) (by rw [show vcFS Tryz.prog W { keep := some [0, 1, 2, 3, 4, 5, 6, 9, 11, 18], track := [4], loops := [(5, [(2, .one (.int .i64))], [])] } F.erratalaw36_small #[] R Φ J = Berratalaw36_small  W R Φ J by kernel_rfl]; exact h) c

/-- channel.New -/
def Bchannel_New  (W : World) (R : List Own) (Φ : PW) (J : Value → World → Prop) : Prop :=
  ∀ (k0 : Nat) (w1 : World) (R2 : List Own), Ctx W w1 (Own.blk k0 [Value.int IntKind.i64 0, Value.int IntKind.i64 0, Value.int IntKind.i64 0, Value.int IntKind.i64 0, Value.int IntKind.i64 0,
  Value.slice none 0 0, Value.int IntKind.i64 0, Value.int IntKind.i64 0, Value.int IntKind.i64 0, Value.int IntKind.i64 0, Value.int IntKind.i64 0, Value.slice none 0 0, Value.int
  IntKind.i64 0, Value.int IntKind.i64 0, Value.int IntKind.i64 0, Value.int IntKind.i64 0, Value.int IntKind.i64 0, Value.slice none 0 0, Value.int IntKind.i64 0, Value.int IntKind.i64 0,
  Value.int IntKind.i64 0, Value.int IntKind.i64 0, Value.int IntKind.i64 0, Value.slice none 0 0, Value.int IntKind.i64 0, Value.int IntKind.i64 0, Value.int IntKind.i64 0] 59 :: R ++ R2) Φ
  → J (Value.pointer (some (Addr.mk k0 0 none))) w1

theorem Bchannel_New_run  {W w : World} {R : List Own} {Φ : PW} [Stable Φ] {J : Value → World → Prop} (c : Ctx W w R Φ) (h : Bchannel_New  W R Φ J) : Calls Tryz.prog F.channel_New #[] w fun e w' => ∃ v, e = .returned v ∧ J v w' :=
  vcFS_sound (H := { keep := some [0] }) (by rw [show vcFS Tryz.prog W { keep := some [0] } F.channel_New #[] R Φ J = Bchannel_New  W R Φ J by kernel_rfl]; exact h) c

/-- erratalaw36.few -/
-- loop at region 2: 5 i; blocks 
def Berratalaw36_few (lP : Option Addr) (lN lC : Nat) (n : Int) (W : World) (R : List Own) (Φ : PW) (J : Value → World → Prop) : Prop :=
  exI fun (I0 : Int → List Own → PW → Nat → Prop) => (∃ (R1 : List Own), ∃ (Φ2 : PW), ∃ (k3 : Nat), Stable Φ2 ∧ (∀ (w4 : World) (R5 : List Own), Ctx W w4 (R ++ R5) Φ → Ctx W w4 (R1 ++ R5) Φ2)
  ∧ I0 0 R1 Φ2 k3) ∧ ∀ (n6 : Int) (R7 : List Own) (I8 : List Nat → World → Prop) (k9 : Nat), Stable I8 → I0 n6 R7 I8 k9 → Br (decide (n6 < (↑lN : Int))) ((0 ≤ n6 ∧ n6 < (↑lN : Int)) ∧ ptrK
  none lP fun (k10 k11 : Nat) => ∀ (w12 : World) (R13 : List Own), Ctx W w12 (R7 ++ R13) I8 → ∃ (n14 : Int), ∃ (n15 : Int), ∃ (n16 : Int), ∃ (n17 : Int), ∃ (n18 : Int), ∃ (p19 : Option Addr),
  ∃ (k20 : Nat), ∃ (k21 : Nat), RowAt w12 k10 (k11 + n6.toNat * 7 + 1) [Value.int IntKind.i64 n14, Value.int IntKind.i64 n15, Value.int IntKind.i64 n16, Value.int IntKind.i64 n17, Value.int
  IntKind.i64 n18, Value.slice p19 k20 k21] ∧ ∀ (w22 : World) (R23 : List Own), Ctx W w22 (R7 ++ R23) I8 → Calls Tryz.prog F.errataref36_Few #[Value.agg #[Value.int IntKind.i64 n14, Value.int
  IntKind.i64 n15, Value.int IntKind.i64 n16, Value.int IntKind.i64 n17, Value.int IntKind.i64 n18, Value.slice p19 k20 k21]] w22 fun (e24 : Ending) (w25 : World) => ∃ (c26 : Bool), e24 =
  Ending.returned (Value.bool c26) ∧ ∃ (R27 : List Own), ∃ (Φ28 : PW), Stable Φ28 ∧ Ctx W w25 (R27 ++ R23) Φ28 ∧ Br (!c26) (∀ (w29 : World) (R30 : List Own), Ctx W w29 (R27 ++ R30) Φ28 → J
  (Value.bool false) w29) (I64 (n6 + 1) ∧ ∃ (R31 : List Own), ∃ (Φ32 : PW), ∃ (k33 : Nat), Stable Φ32 ∧ (∀ (w34 : World) (R35 : List Own), Ctx W w34 (R27 ++ R35) Φ28 → Ctx W w34 (R31 ++ R35)
  Φ32) ∧ I0 (n6 + 1) R31 Φ32 k33 ∧ k33 < k9)) (∀ (w36 : World) (R37 : List Own), Ctx W w36 (R7 ++ R37) I8 → J (Value.bool (decide ((↑lN : Int) ≤ n))) w36)

theorem Berratalaw36_few_run (lP : Option Addr) (lN lC : Nat) (n : Int) {W w : World} {R : List Own} {Φ : PW} [Stable Φ] {J : Value → World → Prop} (c : Ctx W w R Φ) (h : Berratalaw36_few lP lN lC n W R Φ J) : Calls Tryz.prog F.erratalaw36_few #[.slice lP lN lC, .int .i64 n] w fun e w' => ∃ v, e = .returned v ∧ J v w' :=
  vcFS_sound (H := { keep := some [0, 1, 4, 5, 9, 18], loops := [(2, [(5, .one (.int .i64))], [])] }) (by rw [show vcFS Tryz.prog W { keep := some [0, 1, 4, 5, 9, 18], loops := [(2, [(5, .one (.int .i64))], [])] } F.erratalaw36_few #[.slice lP lN lC, .int .i64 n] R Φ J = Berratalaw36_few lP lN lC n W R Φ J by kernel_rfl]; exact h) c

/-- erratalaw36.right -/
-- loop at region 9: 4 i; blocks 3 x
-- known blocks: 1 m, 3 x
def Berratalaw36_right (m0 : Int) (m1 : Int) (m2 : Int) (m3 : Int) (m4 : Int) (m5P : Option Addr) (m5N m5C : Nat) (W : World) (R : List Own) (Φ : PW) (J : Value → World → Prop) : Prop :=
  ∀ (b b : Nat), exI fun (I0 : Int → Int → Int → Int → Int → Int → Option Addr → Nat → Nat → List Own → PW → Nat → Prop) => (∃ (R1 : List Own), ∃ (Φ2 : PW), ∃ (k3 : Nat), Stable Φ2 ∧ (∀ (w4 :
  World) (R5 : List Own), Ctx W w4 (R ++ R5) Φ → Ctx W w4 (R1 ++ R5) Φ2) ∧ I0 0 0 0 0 0 0 none 0 0 R1 Φ2 k3) ∧ ∀ (n6 n7 n8 n9 n10 n11 : Int) (p12 : Option Addr) (k13 k14 : Nat) (R15 : List
  Own) (I16 : List Nat → World → Prop) (k17 : Nat), Stable I16 → I0 n6 n7 n8 n9 n10 n11 p12 k13 k14 R15 I16 k17 → Br (decide (n6 < (↑m5N : Int))) ((0 ≤ n6 ∧ n6 < (↑m5N : Int)) ∧ ptrK none m5P
  fun (k18 k19 : Nat) => ∀ (w20 : World) (R21 : List Own), Ctx W w20 (R15 ++ R21) I16 → ∃ (p22 : Option Addr), ∃ (k23 : Nat), ∃ (k24 : Nat), w20.cell? (Addr.mk k18 (k19 + n6.toNat * 3 + 1)
  none) = some (Value.slice p22 k23 k24) ∧ ∀ (k25 : Nat) (w26 : World) (R27 : List Own), Ctx W w26 (Own.blk k25 [Value.int IntKind.i64 0, Value.slice p22 k23 k24, Value.int IntKind.i64 1] 62
  :: R15 ++ R27) I16 → Calls Tryz.prog F.errataref36_Right #[Value.agg #[Value.int IntKind.i64 n7, Value.int IntKind.i64 n8, Value.int IntKind.i64 n9, Value.int IntKind.i64 n10, Value.int
  IntKind.i64 n11, Value.slice (some (Addr.mk k25 0 none)) 1 1]] w26 fun (e28 : Ending) (w29 : World) => ∃ (c30 : Bool), e28 = Ending.returned (Value.bool c30) ∧ ∃ (R31 : List Own), ∃ (Φ32 :
  PW), Stable Φ32 ∧ Ctx W w29 (R31 ++ R27) Φ32 ∧ Br (!c30) (∀ (w33 : World) (R34 : List Own), Ctx W w33 (R31 ++ R34) Φ32 → J (Value.bool false) w33) (I64 (n6 + 1) ∧ ∃ (R35 : List Own), ∃ (Φ36
  : PW), ∃ (k37 : Nat), Stable Φ36 ∧ (∀ (w38 : World) (R39 : List Own), Ctx W w38 (R31 ++ R39) Φ32 → Ctx W w38 (R35 ++ R39) Φ36) ∧ I0 (n6 + 1) n7 n8 n9 n10 n11 (some (Addr.mk k25 0 none)) 1 1
  R35 Φ36 k37 ∧ k37 < k17)) (∀ (w40 : World) (R41 : List Own), Ctx W w40 (R15 ++ R41) I16 → J (Value.bool true) w40)

theorem Berratalaw36_right_run (m0 : Int) (m1 : Int) (m2 : Int) (m3 : Int) (m4 : Int) (m5P : Option Addr) (m5N m5C : Nat) {W w : World} {R : List Own} {Φ : PW} [Stable Φ] {J : Value → World → Prop} (c : Ctx W w R Φ) (h : Berratalaw36_right m0 m1 m2 m3 m4 m5P m5N m5C W R Φ J) : Calls Tryz.prog F.erratalaw36_right #[.agg #[.int .i64 m0, .int .i64 m1, .int .i64 m2, .int .i64 m3, .int .i64 m4, .slice m5P m5N m5C]] w fun e w' => ∃ v, e = .returned v ∧ J v w' :=
  vcFS_sound (H := { keep := some [1, 2, 3, 4, 16, 30], track := [1, 3], loops := [(9, [(4, .one (.int .i64))], [(3, .agg [.int .i64, .int .i64, .int .i64, .int .i64, .int .i64, .slice])])] }) (by rw [show vcFS Tryz.prog W { keep := some [1, 2, 3, 4, 16, 30], track := [1, 3], loops := [(9, [(4, .one (.int .i64))], [(3, .agg [.int .i64, .int .i64, .int .i64, .int .i64, .int .i64, .slice])])] } F.erratalaw36_right #[.agg #[.int .i64 m0, .int .i64 m1, .int .i64 m2, .int .i64 m3, .int .i64 m4, .slice m5P m5N m5C]] R Φ J = Berratalaw36_right m0 m1 m2 m3 m4 m5P m5N m5C W R Φ J by kernel_rfl]; exact h) c

/-- channel.Right -/
-- loop at region 2: 15 ; blocks 
-- known blocks: 1 m
def Bchannel_Right (m0 : Int) (m1 : Int) (m2 : Int) (m3 : Int) (m4 : Int) (m5P : Option Addr) (m5N m5C : Nat) (W : World) (R : List Own) (Φ : PW) (J : Value → World → Prop) : Prop :=
  ∀ (b : Nat), exI fun (I0 : Int → List Own → PW → Nat → Prop) => (∃ (R1 : List Own), ∃ (Φ2 : PW), ∃ (k3 : Nat), Stable Φ2 ∧ (∀ (w4 : World) (R5 : List Own), Ctx W w4 (R ++ R5) Φ → Ctx W w4
  (R1 ++ R5) Φ2) ∧ I0 0 R1 Φ2 k3) ∧ ∀ (n6 : Int) (R7 : List Own) (I8 : List Nat → World → Prop) (k9 : Nat), Stable I8 → I0 n6 R7 I8 k9 → Br (decide (n6 < 4)) (∃ (n10 : Int), (0 ≤ n6 ∧ n6 < 4
  ∧ aggAt (0 + n6.toNat) [Value.int IntKind.i64 m1, Value.int IntKind.i64 m2, Value.int IntKind.i64 m3, Value.int IntKind.i64 (max m4 0)] = some (Value.int IntKind.i64 n10)) ∧ ∀ (w11 : World)
  (R12 : List Own), Ctx W w11 (R7 ++ R12) I8 → Br (decide (n10 < 0) || decide (1099511627776 < n10) || decide (m4 < -1)) (∀ (w13 : World) (R14 : List Own), Ctx W w13 (R7 ++ R14) I8 → J
  (Value.bool false) w13) (I64 (n6 + 1) ∧ ∃ (R15 : List Own), ∃ (Φ16 : PW), ∃ (k17 : Nat), Stable Φ16 ∧ (∀ (w18 : World) (R19 : List Own), Ctx W w18 (R7 ++ R19) I8 → Ctx W w18 (R15 ++ R19)
  Φ16) ∧ I0 (n6 + 1) R15 Φ16 k17 ∧ k17 < k9)) (∀ (w20 : World) (R21 : List Own), Ctx W w20 (R7 ++ R21) I8 → Br (decide (m0 < 0) || decide (3 ≤ m0) || decide (8 < (↑m5N : Int)) || decide (m0 ≠
  0) && decide (0 < (↑m5N : Int))) (∀ (w22 : World) (R23 : List Own), Ctx W w22 (R7 ++ R23) I8 → J (Value.bool false) w22) (∀ (w24 : World) (R25 : List Own), Ctx W w24 (R7 ++ R25) I8 → Calls
  Tryz.prog F.delta_Consolidated #[Value.slice m5P m5N m5C] w24 fun (e26 : Ending) (w27 : World) => ∃ (c28 : Bool), e26 = Ending.returned (Value.bool c28) ∧ ∃ (R29 : List Own), ∃ (Φ30 : PW),
  Stable Φ30 ∧ Ctx W w27 (R29 ++ R25) Φ30 ∧ Br c28 (∀ (w31 : World) (R32 : List Own), Ctx W w31 (R29 ++ R32) Φ30 → Calls Tryz.prog F.slices_ContainsFunc_api_Delta_api_Delta #[Value.slice m5P
  m5N m5C, Value.func (Fn.func 41) #[] #[]] w31 fun (e33 : Ending) (w34 : World) => ∃ (c35 : Bool), e33 = Ending.returned (Value.bool c35) ∧ ∃ (R36 : List Own), ∃ (Φ37 : PW), Stable Φ37 ∧ Ctx
  W w34 (R36 ++ R32) Φ37 ∧ ∀ (w38 : World) (R39 : List Own), Ctx W w38 (R36 ++ R39) Φ37 → J (Value.bool !c35) w38) (∀ (w40 : World) (R41 : List Own), Ctx W w40 (R29 ++ R41) Φ30 → J
  (Value.bool false) w40)))

theorem Bchannel_Right_run (m0 : Int) (m1 : Int) (m2 : Int) (m3 : Int) (m4 : Int) (m5P : Option Addr) (m5N m5C : Nat) {W w : World} {R : List Own} {Φ : PW} [Stable Φ] {J : Value → World → Prop} (c : Ctx W w R Φ) (h : Bchannel_Right m0 m1 m2 m3 m4 m5P m5N m5C W R Φ J) : Calls Tryz.prog F.channel_Right #[.agg #[.int .i64 m0, .int .i64 m1, .int .i64 m2, .int .i64 m3, .int .i64 m4, .slice m5P m5N m5C]] w fun e w' => ∃ v, e = .returned v ∧ J v w' :=
  vcFS_sound (H := { keep := some [1, 2, 4, 14, 15, 16, 28, 54], track := [1], split := [9], loops := [(2, [(15, .one (.int .i64))], [])] }) (by rw [show vcFS Tryz.prog W { keep := some [1, 2, 4, 14, 15, 16, 28, 54], track := [1], split := [9], loops := [(2, [(15, .one (.int .i64))], [])] } F.channel_Right #[.agg #[.int .i64 m0, .int .i64 m1, .int .i64 m2, .int .i64 m3, .int .i64 m4, .slice m5P m5N m5C]] R Φ J = Bchannel_Right m0 m1 m2 m3 m4 m5P m5N m5C W R Φ J by kernel_rfl]; exact h) c

/-- errataref36.Right -/
-- loop at region 7: 6 i; blocks 
-- known blocks: 1 m
def Berrataref36_Right (m0 : Int) (m1 : Int) (m2 : Int) (m3 : Int) (m4 : Int) (m5P : Option Addr) (m5N m5C : Nat) (W : World) (R : List Own) (Φ : PW) (J : Value → World → Prop) : Prop :=
  ∀ (b : Nat) (w0 : World) (R1 : List Own), Ctx W w0 (R ++ R1) Φ → ∀ (w2 : World) (R3 : List Own), Ctx W w2 (R ++ R3) Φ → Br (!(decide (0 ≤ m0) && decide (m0 < 3) && decide (0 ≤ m1) && decide
  (m1 ≤ 1099511627776) && decide (0 ≤ m2) && decide (m2 ≤ 1099511627776))) (∀ (w4 : World) (R5 : List Own), Ctx W w4 (R ++ R5) Φ → J (Value.bool false) w4) (Br (!(decide (0 ≤ m3) && decide
  (m3 ≤ 1099511627776) && decide (-1 ≤ m4) && decide (m4 ≤ 1099511627776) && (decide ((↑m5N : Int) = 0) || decide (m0 = 0)) && decide ((↑m5N : Int) ≤ 8))) (∀ (w6 : World) (R7 : List Own), Ctx
  W w6 (R ++ R7) Φ → J (Value.bool false) w6) (∀ (w8 : World) (R9 : List Own), Ctx W w8 (R ++ R9) Φ → Calls Tryz.prog F.errataref28_Consolidated #[Value.slice m5P m5N m5C] w8 fun (e10 :
  Ending) (w11 : World) => ∃ (c12 : Bool), e10 = Ending.returned (Value.bool c12) ∧ ∃ (R13 : List Own), ∃ (Φ14 : PW), Stable Φ14 ∧ Ctx W w11 (R13 ++ R9) Φ14 ∧ Br (!c12) (∀ (w15 : World) (R16
  : List Own), Ctx W w15 (R13 ++ R16) Φ14 → J (Value.bool false) w15) (exI fun (I17 : Int → List Own → PW → Nat → Prop) => (∃ (R18 : List Own), ∃ (Φ19 : PW), ∃ (k20 : Nat), Stable Φ19 ∧ (∀
  (w21 : World) (R22 : List Own), Ctx W w21 (R13 ++ R22) Φ14 → Ctx W w21 (R18 ++ R22) Φ19) ∧ I17 0 R18 Φ19 k20) ∧ ∀ (n23 : Int) (R24 : List Own) (I25 : List Nat → World → Prop) (k26 : Nat),
  Stable I25 → I17 n23 R24 I25 k26 → Br (decide (n23 < (↑m5N : Int))) ((0 ≤ n23 ∧ n23 < (↑m5N : Int)) ∧ ptrK none m5P fun (k27 k28 : Nat) => ∀ (w29 : World) (R30 : List Own), Ctx W w29 (R24
  ++ R30) I25 → ∃ (p31 : Option Addr), ∃ (k32 : Nat), ∃ (k33 : Nat), w29.cell? (Addr.mk k27 (k28 + n23.toNat * 3 + 1) none) = some (Value.slice p31 k32 k33) ∧ ∀ (w34 : World) (R35 : List
  Own), Ctx W w34 (R24 ++ R35) I25 → Calls Tryz.prog F.errataref03_RightRow #[Value.slice p31 k32 k33] w34 fun (e36 : Ending) (w37 : World) => ∃ (c38 : Bool), e36 = Ending.returned
  (Value.bool c38) ∧ ∃ (R39 : List Own), ∃ (Φ40 : PW), Stable Φ40 ∧ Ctx W w37 (R39 ++ R35) Φ40 ∧ Br (!c38) (∀ (w41 : World) (R42 : List Own), Ctx W w41 (R39 ++ R42) Φ40 → J (Value.bool false)
  w41) (I64 (n23 + 1) ∧ ∃ (R43 : List Own), ∃ (Φ44 : PW), ∃ (k45 : Nat), Stable Φ44 ∧ (∀ (w46 : World) (R47 : List Own), Ctx W w46 (R39 ++ R47) Φ40 → Ctx W w46 (R43 ++ R47) Φ44) ∧ I17 (n23 +
  1) R43 Φ44 k45 ∧ k45 < k26)) (∀ (w48 : World) (R49 : List Own), Ctx W w48 (R24 ++ R49) I25 → J (Value.bool true) w48))))

theorem Berrataref36_Right_run (m0 : Int) (m1 : Int) (m2 : Int) (m3 : Int) (m4 : Int) (m5P : Option Addr) (m5N m5C : Nat) {W w : World} {R : List Own} {Φ : PW} [Stable Φ] {J : Value → World → Prop} (c : Ctx W w R Φ) (h : Berrataref36_Right m0 m1 m2 m3 m4 m5P m5N m5C W R Φ J) : Calls Tryz.prog F.errataref36_Right #[.agg #[.int .i64 m0, .int .i64 m1, .int .i64 m2, .int .i64 m3, .int .i64 m4, .slice m5P m5N m5C]] w fun e w' => ∃ v, e = .returned v ∧ J v w' :=
  vcFS_sound (H := { keep := some [1, 2, 3, 4, 5, 6, 85, 90, 100], track := [1], split := [4], loops := [(7, [(6, .one (.int .i64))], [])] }) (by rw [show vcFS Tryz.prog W { keep := some [1, 2, 3, 4, 5, 6, 85, 90, 100], track := [1], split := [4], loops := [(7, [(6, .one (.int .i64))], [])] } F.errataref36_Right #[.agg #[.int .i64 m0, .int .i64 m1, .int .i64 m2, .int .i64 m3, .int .i64 m4, .slice m5P m5N m5C]] R Φ J = Berrataref36_Right m0 m1 m2 m3 m4 m5P m5N m5C W R Φ J by kernel_rfl]; exact h) c

/-- (*channel.Channel).Sent -/
def Bchannel_Channel_Sent (cB cO : Nat) (W : World) (R : List Own) (Φ : PW) (J : Value → World → Prop) : Prop :=
  ∀ (w0 : World) (R1 : List Own), Ctx W w0 (R ++ R1) Φ → ∃ (n2 : Int), w0.cell? (Addr.mk cB (cO + 26) none) = some (Value.int IntKind.i64 n2) ∧ ∀ (w3 : World) (R4 : List Own), Ctx W w3 (R ++
  R4) Φ → J (Value.int IntKind.i64 n2) w3

theorem Bchannel_Channel_Sent_run (cB cO : Nat) {W w : World} {R : List Own} {Φ : PW} [Stable Φ] {J : Value → World → Prop} (c : Ctx W w R Φ) (h : Bchannel_Channel_Sent cB cO W R Φ J) : Calls Tryz.prog F.channel_Channel_Sent #[.pointer (some ⟨cB, cO, none⟩)] w fun e w' => ∃ v, e = .returned v ∧ J v w' :=
  vcFS_sound (H := { keep := some [0, 2] }) (by rw [show vcFS Tryz.prog W { keep := some [0, 2] } F.channel_Channel_Sent #[.pointer (some ⟨cB, cO, none⟩)] R Φ J = Bchannel_Channel_Sent cB cO W R Φ J by kernel_rfl]; exact h) c

/-- (*channel.Channel).Bytes -/
-- loop at region 3: 3 s, 20 ; blocks 
-- known blocks: 5 m
def Bchannel_Channel_Bytes (cB cO : Nat) (W : World) (R : List Own) (Φ : PW) (J : Value → World → Prop) : Prop :=
  ∃ (R0 : List Own), ∃ (Φ1 : PW), Stable Φ1 ∧ (∀ (w2 : World) (R3 : List Own), Ctx W w2 (R ++ R3) Φ → Ctx W w2 (R0 ++ R3) Φ1) ∧ ∃ (n4 : Int), (∀ (w5 : World) (R6 : List Own), Ctx W w5 (R0 ++
  R6) Φ1 → ∃ (n7 : Int), w5.cell? (Addr.mk cB (cO + 26) none) = some (Value.int IntKind.i64 n7) ∧ Value.int IntKind.i64 n7 = Value.int IntKind.i64 n4) ∧ ∃ (n8 : Int), (∀ (w9 : World) (R10 :
  List Own), Ctx W w9 (R0 ++ R10) Φ1 → ∃ (n11 : Int), w9.cell? (Addr.mk cB (cO + 25) none) = some (Value.int IntKind.i64 n11) ∧ Value.int IntKind.i64 n11 = Value.int IntKind.i64 n8) ∧ ∀ (w12
  : World) (R13 : List Own), Ctx W w12 (R ++ R13) Φ → Calls Tryz.prog F.wire_Int #[Value.int IntKind.i64 n4] w12 fun (e14 : Ending) (w15 : World) => ∃ (s16 : ByteArray), e14 = Ending.returned
  (Value.string s16) ∧ ∃ (R17 : List Own), ∃ (Φ18 : PW), Stable Φ18 ∧ Ctx W w15 (R17 ++ R13) Φ18 ∧ (∀ (w19 : World) (R20 : List Own), Ctx W w19 (R17 ++ R20) Φ18 → Ctx W w19 (R0 ++ R20) Φ1) ∧
  ∀ (w21 : World) (R22 : List Own), Ctx W w21 (R17 ++ R22) Φ18 → Calls Tryz.prog F.wire_Num #[Value.int IntKind.i64 n8] w21 fun (e23 : Ending) (w24 : World) => ∃ (s25 : ByteArray), e23 =
  Ending.returned (Value.string s25) ∧ ∃ (R26 : List Own), ∃ (Φ27 : PW), Stable Φ27 ∧ Ctx W w24 (R26 ++ R22) Φ27 ∧ (s16.size + s25.size).le 9223372036854775807 ∧ ∀ (w28 : World) (R29 : List
  Own), Ctx W w28 (R26 ++ R29) Φ27 → Calls Tryz.prog F.channel_Channel_List #[Value.pointer (some (Addr.mk cB cO none))] w28 fun (e30 : Ending) (w31 : World) => ∃ (p32 : Option Addr), ∃ (k33
  : Nat), ∃ (k34 : Nat), e30 = Ending.returned (Value.slice p32 k33 k34) ∧ ∃ (R35 : List Own), ∃ (Φ36 : PW), Stable Φ36 ∧ Ctx W w31 (R35 ++ R29) Φ36 ∧ exI fun (I37 : ByteArray → Int → List
  Own → PW → Nat → Prop) => (∃ (R38 : List Own), ∃ (Φ39 : PW), ∃ (k40 : Nat), Stable Φ39 ∧ (∀ (w41 : World) (R42 : List Own), Ctx W w41 (R35 ++ R42) Φ36 → Ctx W w41 (R38 ++ R42) Φ39) ∧ I37
  (s16 ++ s25) 0 R38 Φ39 k40) ∧ ∀ (s43 : ByteArray) (n44 : Int) (R45 : List Own) (I46 : List Nat → World → Prop) (k47 : Nat), Stable I46 → I37 s43 n44 R45 I46 k47 → Br (decide (n44 < (↑k33 :
  Int))) ((0 ≤ n44 ∧ n44 < (↑k33 : Int)) ∧ ptrK none p32 fun (k48 k49 : Nat) => ∀ (w50 : World) (R51 : List Own), Ctx W w50 (R45 ++ R51) I46 → ∃ (n52 : Int), ∃ (n53 : Int), ∃ (n54 : Int), ∃
  (n55 : Int), ∃ (n56 : Int), ∃ (p57 : Option Addr), ∃ (k58 : Nat), ∃ (k59 : Nat), RowAt w50 k48 (k49 + n44.toNat * 6) [Value.int IntKind.i64 n52, Value.int IntKind.i64 n53, Value.int
  IntKind.i64 n54, Value.int IntKind.i64 n55, Value.int IntKind.i64 n56, Value.slice p57 k58 k59] ∧ ∀ (b : Nat) (w60 : World) (R61 : List Own), Ctx W w60 (R45 ++ R61) I46 → Calls Tryz.prog
  F.channel_MessageBytes #[Value.agg #[Value.int IntKind.i64 n52, Value.int IntKind.i64 n53, Value.int IntKind.i64 n54, Value.int IntKind.i64 n55, Value.int IntKind.i64 n56, Value.slice p57
  k58 k59]] w60 fun (e62 : Ending) (w63 : World) => ∃ (s64 : ByteArray), e62 = Ending.returned (Value.string s64) ∧ ∃ (R65 : List Own), ∃ (Φ66 : PW), Stable Φ66 ∧ Ctx W w63 (R65 ++ R61) Φ66 ∧
  ∀ (w67 : World) (R68 : List Own), Ctx W w67 (R65 ++ R68) Φ66 → Calls Tryz.prog F.wire_Text #[Value.string s64] w67 fun (e69 : Ending) (w70 : World) => ∃ (s71 : ByteArray), e69 =
  Ending.returned (Value.string s71) ∧ ∃ (R72 : List Own), ∃ (Φ73 : PW), Stable Φ73 ∧ Ctx W w70 (R72 ++ R68) Φ73 ∧ (s43.size + s71.size).le 9223372036854775807 ∧ I64 (n44 + 1) ∧ ∃ (R74 : List
  Own), ∃ (Φ75 : PW), ∃ (k76 : Nat), Stable Φ75 ∧ (∀ (w77 : World) (R78 : List Own), Ctx W w77 (R72 ++ R78) Φ73 → Ctx W w77 (R74 ++ R78) Φ75) ∧ I37 (s43 ++ s71) (n44 + 1) R74 Φ75 k76 ∧ k76 <
  k47) (∀ (w79 : World) (R80 : List Own), Ctx W w79 (R45 ++ R80) I46 → J (Value.string s43) w79)

theorem Bchannel_Channel_Bytes_run (cB cO : Nat) {W w : World} {R : List Own} {Φ : PW} [Stable Φ] {J : Value → World → Prop} (c : Ctx W w R Φ) (h : Bchannel_Channel_Bytes cB cO W R Φ J) : Calls Tryz.prog F.channel_Channel_Bytes #[.pointer (some ⟨cB, cO, none⟩)] w fun e w' => ∃ v, e = .returned v ∧ J v w' :=
  vcFS_sound (H := { keep := some [0, 2, 3, 5, 18, 19, 20, 21], track := [5], stages := [(1, [.held [(0, true), (5, true), (1, true), (6, true), (2, true), (7, true), (3, true), (8, true), (4, false)], .stage [] (some 9), .stage [10, 11] none])], loops := [(3, [(3, .one (.str)), (20, .one (.int .i64))], [])] }) (by rw [show vcFS Tryz.prog W { keep := some [0, 2, 3, 5, 18, 19, 20, 21], track := [5], stages := [(1, [.held [(0, true), (5, true), (1, true), (6, true), (2, true), (7, true), (3, true), (8, true), (4, false)], .stage [] (some 9), .stage [10, 11] none])], loops := [(3, [(3, .one (.str)), (20, .one (.int .i64))], [])] } F.channel_Channel_Bytes #[.pointer (some ⟨cB, cO, none⟩)] R Φ J = Bchannel_Channel_Bytes cB cO W R Φ J by kernel_rfl]; exact h) c

/-- channel.Read -/
-- loop at region 4: ; blocks 
-- known blocks: 8 m
def Bchannel_Read (s : ByteArray) (W : World) (R : List Own) (Φ : PW) (J : Value → World → Prop) : Prop :=
  ∀ (w0 : World) (R1 : List Own), Ctx W w0 (R ++ R1) Φ → Calls Tryz.prog F.wire_Open #[Value.string s] w0 fun (e2 : Ending) (w3 : World) => ∃ (p4 : Option Addr), e2 = Ending.returned
  (Value.pointer p4) ∧ ∃ (R5 : List Own), ∃ (Φ6 : PW), Stable Φ6 ∧ Ctx W w3 (R5 ++ R1) Φ6 ∧ ∀ (w7 : World) (R8 : List Own), Ctx W w7 (R5 ++ R8) Φ6 → Calls Tryz.prog F.wire_Reader_Int
  #[Value.pointer p4] w7 fun (e9 : Ending) (w10 : World) => ∃ (n11 : Int), e9 = Ending.returned (Value.int IntKind.i64 n11) ∧ ∃ (R12 : List Own), ∃ (Φ13 : PW), Stable Φ13 ∧ Ctx W w10 (R12 ++
  R8) Φ13 ∧ ∀ (w14 : World) (R15 : List Own), Ctx W w14 (R12 ++ R15) Φ13 → Calls Tryz.prog F.wire_Reader_Num #[Value.pointer p4] w14 fun (e16 : Ending) (w17 : World) => ∃ (n18 : Int), e16 =
  Ending.returned (Value.int IntKind.i64 n18) ∧ ∃ (R19 : List Own), ∃ (Φ20 : PW), Stable Φ20 ∧ Ctx W w17 (R19 ++ R15) Φ20 ∧ ∀ (w21 : World) (R22 : List Own), Ctx W w21 (R19 ++ R22) Φ20 →
  Calls Tryz.prog F.channel_New #[] w21 fun (e23 : Ending) (w24 : World) => ∃ (p25 : Option Addr), e23 = Ending.returned (Value.pointer p25) ∧ ∃ (R26 : List Own), ∃ (Φ27 : PW), Stable Φ27 ∧
  Ctx W w24 (R26 ++ R22) Φ27 ∧ exI fun (I28 : List Own → PW → Nat → Prop) => (∃ (R29 : List Own), ∃ (Φ30 : PW), ∃ (k31 : Nat), Stable Φ30 ∧ (∀ (w32 : World) (R33 : List Own), Ctx W w32 (R26
  ++ R33) Φ27 → Ctx W w32 (R29 ++ R33) Φ30) ∧ I28 R29 Φ30 k31) ∧ ∀ (R34 : List Own) (I35 : List Nat → World → Prop) (k36 : Nat), Stable I35 → I28 R34 I35 k36 → ptrK none p25 fun (k37 k38 :
  Nat) => ∀ (w39 : World) (R40 : List Own), Ctx W w39 (R34 ++ R40) I35 → ∃ (n41 : Int), w39.cell? (Addr.mk k37 (k38 + 25) none) = some (Value.int IntKind.i64 n41) ∧ Br (decide (n41 < min n18
  4)) (∀ (w42 : World) (R43 : List Own), Ctx W w42 (R34 ++ R43) I35 → Calls Tryz.prog F.wire_Reader_Text #[Value.pointer p4] w42 fun (e44 : Ending) (w45 : World) => ∃ (s46 : ByteArray), e44 =
  Ending.returned (Value.string s46) ∧ ∃ (R47 : List Own), ∃ (Φ48 : PW), Stable Φ48 ∧ Ctx W w45 (R47 ++ R43) Φ48 ∧ ∀ (w49 : World) (R50 : List Own), Ctx W w49 (R47 ++ R50) Φ48 → Calls
  Tryz.prog F.channel_ReadMessage #[Value.string s46] w49 fun (e51 : Ending) (w52 : World) => ∃ (n53 : Int), ∃ (n54 : Int), ∃ (n55 : Int), ∃ (n56 : Int), ∃ (n57 : Int), ∃ (p58 : Option Addr),
  ∃ (k59 : Nat), ∃ (k60 : Nat), ∃ (c61 : Bool), e51 = Ending.returned (Value.tuple #[Value.agg #[Value.int IntKind.i64 n53, Value.int IntKind.i64 n54, Value.int IntKind.i64 n55, Value.int
  IntKind.i64 n56, Value.int IntKind.i64 n57, Value.slice p58 k59 k60], Value.bool c61]) ∧ ∃ (R62 : List Own), ∃ (Φ63 : PW), Stable Φ63 ∧ Ctx W w52 (R62 ++ R50) Φ63 ∧ ∀ (b : Nat), Br (!c61)
  (∀ (w64 : World) (R65 : List Own), Ctx W w64 (R62 ++ R65) Φ63 → J (Value.tuple #[Value.pointer none, Value.bool false]) w64) (∀ (w66 : World) (R67 : List Own), Ctx W w66 (R62 ++ R67) Φ63 →
  Calls Tryz.prog F.channel_Channel_Send #[Value.pointer p25, Value.agg #[Value.int IntKind.i64 n53, Value.int IntKind.i64 n54, Value.int IntKind.i64 n55, Value.int IntKind.i64 n56, Value.int
  IntKind.i64 n57, Value.slice p58 k59 k60]] w66 fun (e68 : Ending) (w69 : World) => ∃ (n70 : Int), e68 = Ending.returned (Value.int IntKind.i64 n70) ∧ ∃ (R71 : List Own), ∃ (Φ72 : PW),
  Stable Φ72 ∧ Ctx W w69 (R71 ++ R67) Φ72 ∧ Br (decide (n70 ≠ 0)) (∀ (w73 : World) (R74 : List Own), Ctx W w73 (R71 ++ R74) Φ72 → J (Value.tuple #[Value.pointer none, Value.bool false]) w73)
  (∃ (R75 : List Own), ∃ (Φ76 : PW), ∃ (k77 : Nat), Stable Φ76 ∧ (∀ (w78 : World) (R79 : List Own), Ctx W w78 (R71 ++ R79) Φ72 → Ctx W w78 (R75 ++ R79) Φ76) ∧ I28 R75 Φ76 k77 ∧ k77 < k36)))
  (∀ (w80 : World) (R81 : List Own), Ctx W w80 (R34 ++ R81) I35 → Calls Tryz.prog F.wire_Reader_Done #[Value.pointer p4] w80 fun (e82 : Ending) (w83 : World) => ∃ (c84 : Bool), e82 =
  Ending.returned (Value.bool c84) ∧ ∃ (R85 : List Own), ∃ (Φ86 : PW), Stable Φ86 ∧ Ctx W w83 (R85 ++ R81) Φ86 ∧ Br (!c84) (∀ (w87 : World) (R88 : List Own), Ctx W w87 (R85 ++ R88) Φ86 → J
  (Value.tuple #[Value.pointer none, Value.bool false]) w87) (ptrK none p25 fun (k89 k90 : Nat) => ∀ (w91 : World) (R92 : List Own), Ctx W w91 (R85 ++ R92) Φ86 → ∃ (n93 : Int), w91.cell?
  (Addr.mk k89 (k90 + 25) none) = some (Value.int IntKind.i64 n93) ∧ Br (decide (n93 ≠ n18)) (∀ (w94 : World) (R95 : List Own), Ctx W w94 (R85 ++ R95) Φ86 → J (Value.tuple #[Value.pointer
  none, Value.bool false]) w94) (Br (decide (n11 < n18)) (∀ (w96 : World) (R97 : List Own), Ctx W w96 (R85 ++ R97) Φ86 → J (Value.tuple #[Value.pointer none, Value.bool false]) w96) (Br
  (decide (1099511627776 < n11)) (∀ (w98 : World) (R99 : List Own), Ctx W w98 (R85 ++ R99) Φ86 → J (Value.tuple #[Value.pointer none, Value.bool false]) w98) (ptrK none p25 fun (k100 k101 :
  Nat) => ∀ (w102 : World) (R103 : List Own), Ctx W w102 (R85 ++ R103) Φ86 → CanWrite w102 k100 (k101 + 26) 1 ∧ ∀ (w104 : World), w104 = w102.setCell (Addr.mk k100 (k101 + 26) none)
  (Value.int IntKind.i64 n11) → ∃ (R105 : List Own), ∃ (Φ106 : PW), Stable Φ106 ∧ Ctx W w104 (R105 ++ R103) Φ106 ∧ ∀ (w107 : World) (R108 : List Own), Ctx W w107 (R105 ++ R108) Φ106 → J
  (Value.tuple #[Value.pointer p25, Value.bool true]) w107)))))

theorem Bchannel_Read_run (s : ByteArray) {W w : World} {R : List Own} {Φ : PW} [Stable Φ] {J : Value → World → Prop} (c : Ctx W w R Φ) (h : Bchannel_Read s W R Φ J) : Calls Tryz.prog F.channel_Read #[.string s] w fun e w' => ∃ v, e = .returned v ∧ J v w' :=
  vcFS_sound (H := { keep := some [0, 2, 3, 4, 5, 6, 7, 8, 9, 23, 37, 57], track := [8], split := [6, 8], loops := [(4, [], [])] }) (by rw [show vcFS Tryz.prog W { keep := some [0, 2, 3, 4, 5, 6, 7, 8, 9, 23, 37, 57], track := [8], split := [6, 8], loops := [(4, [], [])] } F.channel_Read #[.string s] R Φ J = Bchannel_Read s W R Φ J by kernel_rfl]; exact h) c

/-- errataref36.Read -/
-- loop at region 5: 7 i; blocks 
-- known blocks: 8 m
def Berrataref36_Read (s : ByteArray) (W : World) (R : List Own) (Φ : PW) (J : Value → World → Prop) : Prop :=
  ∀ (w0 : World) (R1 : List Own), Ctx W w0 (R ++ R1) Φ → Calls Tryz.prog F.errataref01_Open #[Value.string s] w0 fun (e2 : Ending) (w3 : World) => ∃ (p4 : Option Addr), e2 = Ending.returned
  (Value.pointer p4) ∧ ∃ (R5 : List Own), ∃ (Φ6 : PW), Stable Φ6 ∧ Ctx W w3 (R5 ++ R1) Φ6 ∧ ∀ (w7 : World) (R8 : List Own), Ctx W w7 (R5 ++ R8) Φ6 → Calls Tryz.prog F.errataref01_Reader_Int
  #[Value.pointer p4] w7 fun (e9 : Ending) (w10 : World) => ∃ (n11 : Int), e9 = Ending.returned (Value.int IntKind.i64 n11) ∧ ∃ (R12 : List Own), ∃ (Φ13 : PW), Stable Φ13 ∧ Ctx W w10 (R12 ++
  R8) Φ13 ∧ ∀ (k14 : Nat) (w15 : World) (R16 : List Own), Ctx W w15 (Own.blk k14 [Value.slice none 0 0, Value.int IntKind.i64 n11] 43 :: R12 ++ R16) Φ13 → Calls Tryz.prog
  F.errataref01_Reader_Num #[Value.pointer p4] w15 fun (e17 : Ending) (w18 : World) => ∃ (n19 : Int), e17 = Ending.returned (Value.int IntKind.i64 n19) ∧ ∃ (R20 : List Own), ∃ (Φ21 : PW),
  Stable Φ21 ∧ Ctx W w18 (R20 ++ R16) Φ21 ∧ exI fun (I22 : Int → List Own → PW → Nat → Prop) => (∃ (R23 : List Own), ∃ (Φ24 : PW), ∃ (k25 : Nat), Stable Φ24 ∧ (∀ (w26 : World) (R27 : List
  Own), Ctx W w26 (R20 ++ R27) Φ21 → Ctx W w26 (R23 ++ R27) Φ24) ∧ I22 0 R23 Φ24 k25) ∧ ∀ (n28 : Int) (R29 : List Own) (I30 : List Nat → World → Prop) (k31 : Nat), Stable I30 → I22 n28 R29
  I30 k31 → Br (decide (n28 < n19)) (∀ (w32 : World) (R33 : List Own), Ctx W w32 (R29 ++ R33) I30 → Calls Tryz.prog F.errataref01_Reader_Left #[Value.pointer p4] w32 fun (e34 : Ending) (w35 :
  World) => ∃ (n36 : Int), e34 = Ending.returned (Value.int IntKind.i64 n36) ∧ ∃ (R37 : List Own), ∃ (Φ38 : PW), Stable Φ38 ∧ Ctx W w35 (R37 ++ R33) Φ38 ∧ Br (decide (0 < n36)) (∀ (w39 :
  World) (R40 : List Own), Ctx W w39 (R37 ++ R40) Φ38 → Calls Tryz.prog F.errataref01_Reader_Text #[Value.pointer p4] w39 fun (e41 : Ending) (w42 : World) => ∃ (s43 : ByteArray), e41 =
  Ending.returned (Value.string s43) ∧ ∃ (R44 : List Own), ∃ (Φ45 : PW), Stable Φ45 ∧ Ctx W w42 (R44 ++ R40) Φ45 ∧ ∀ (w46 : World) (R47 : List Own), Ctx W w46 (R44 ++ R47) Φ45 → Calls
  Tryz.prog F.errataref36_ReadMessage #[Value.string s43] w46 fun (e48 : Ending) (w49 : World) => ∃ (n50 : Int), ∃ (n51 : Int), ∃ (n52 : Int), ∃ (n53 : Int), ∃ (n54 : Int), ∃ (p55 : Option
  Addr), ∃ (k56 : Nat), ∃ (k57 : Nat), ∃ (c58 : Bool), e48 = Ending.returned (Value.tuple #[Value.agg #[Value.int IntKind.i64 n50, Value.int IntKind.i64 n51, Value.int IntKind.i64 n52,
  Value.int IntKind.i64 n53, Value.int IntKind.i64 n54, Value.slice p55 k56 k57], Value.bool c58]) ∧ ∃ (R59 : List Own), ∃ (Φ60 : PW), Stable Φ60 ∧ Ctx W w49 (R59 ++ R47) Φ60 ∧ ∀ (b : Nat),
  Br (!c58) (∀ (w61 : World) (R62 : List Own), Ctx W w61 (R59 ++ R62) Φ60 → J (Value.tuple #[Value.pointer none, Value.bool false]) w61) (∃ (R63 : List Own), ∃ (Φ64 : PW), Stable Φ64 ∧ (∀
  (w65 : World) (R66 : List Own), Ctx W w65 (R59 ++ R66) Φ60 → Ctx W w65 (R63 ++ R66) Φ64) ∧ ∃ (p67 : Option Addr), ∃ (k68 : Nat), ∃ (k69 : Nat), (∀ (w70 : World) (R71 : List Own), Ctx W w70
  (R63 ++ R71) Φ64 → ∃ (p72 : Option Addr), ∃ (k73 : Nat), ∃ (k74 : Nat), w70.cell? (Addr.mk k14 0 none) = some (Value.slice p72 k73 k74) ∧ Value.slice p72 k73 k74 = Value.slice p67 k68 k69)
  ∧ ∀ (k75 : Nat), (∀ (w76 : World) (R77 : List Own), Ctx W w76 (Own.blk k75 [Value.int IntKind.i64 n50, Value.int IntKind.i64 n51, Value.int IntKind.i64 n52, Value.int IntKind.i64 n53,
  Value.int IntKind.i64 n54, Value.slice p55 k56 k57] 32 :: R59 ++ R77) Φ60 → Ctx W w76 (R63 ++ R77) Φ64) ∧ ∀ (w78 : World) (R79 : List Own), Ctx W w78 (Own.blk k75 [Value.int IntKind.i64
  n50, Value.int IntKind.i64 n51, Value.int IntKind.i64 n52, Value.int IntKind.i64 n53, Value.int IntKind.i64 n54, Value.slice p55 k56 k57] 32 :: R59 ++ R79) Φ60 → ∃ (p80 : Option Addr), ∃
  (k81 : Nat), ∃ (k82 : Nat), ∃ (w83 : World), Sem.run Tryz.prog (builtin Builtin.append #[41, 41] 41 #[false, false] #[Value.slice p67 k68 k69, Value.slice (some (Addr.mk k75 0 none)) 1 1])
  w78 = Result.ok (Next.value (Value.slice p80 k81 k82)) w83 ∧ ∃ (R84 : List Own), ∃ (Φ85 : PW), Stable Φ85 ∧ Ctx W w83 (R84 ++ R79) Φ85 ∧ (∀ (w86 : World) (R87 : List Own), Ctx W w86 (R84 ++
  R87) Φ85 → Ctx W w86 (R63 ++ R87) Φ64) ∧ ∀ (w88 : World) (R89 : List Own), Ctx W w88 (R84 ++ R89) Φ85 → CanWrite w88 k14 0 1 ∧ ∀ (w90 : World), w90 = w88.setCell (Addr.mk k14 0 none)
  (Value.slice p80 k81 k82) → ∃ (R91 : List Own), ∃ (Φ92 : PW), Stable Φ92 ∧ Ctx W w90 (R91 ++ R89) Φ92 ∧ I64 (n28 + 1) ∧ ∃ (R93 : List Own), ∃ (Φ94 : PW), ∃ (k95 : Nat), Stable Φ94 ∧ (∀ (w96
  : World) (R97 : List Own), Ctx W w96 (R91 ++ R97) Φ92 → Ctx W w96 (R93 ++ R97) Φ94) ∧ I22 (n28 + 1) R93 Φ94 k95 ∧ k95 < k31)) (∀ (w98 : World) (R99 : List Own), Ctx W w98 (R37 ++ R99) Φ38 →
  Calls Tryz.prog F.errataref01_Reader_Done #[Value.pointer p4] w98 fun (e100 : Ending) (w101 : World) => ∃ (c102 : Bool), e100 = Ending.returned (Value.bool c102) ∧ ∃ (R103 : List Own), ∃
  (Φ104 : PW), Stable Φ104 ∧ Ctx W w101 (R103 ++ R99) Φ104 ∧ Br (!c102) (∀ (w105 : World) (R106 : List Own), Ctx W w105 (R103 ++ R106) Φ104 → J (Value.tuple #[Value.pointer none, Value.bool
  false]) w105) (∀ (w107 : World) (R108 : List Own), Ctx W w107 (R103 ++ R108) Φ104 → ∃ (p109 : Option Addr), ∃ (k110 : Nat), ∃ (k111 : Nat), w107.cell? (Addr.mk k14 0 none) = some
  (Value.slice p109 k110 k111) ∧ Br (decide ((↑k110 : Int) ≠ n19)) (∀ (w112 : World) (R113 : List Own), Ctx W w112 (R103 ++ R113) Φ104 → J (Value.tuple #[Value.pointer none, Value.bool
  false]) w112) (Br (decide (4 < n19)) (∀ (w114 : World) (R115 : List Own), Ctx W w114 (R103 ++ R115) Φ104 → J (Value.tuple #[Value.pointer none, Value.bool false]) w114) (∀ (w116 : World)
  (R117 : List Own), Ctx W w116 (R103 ++ R117) Φ104 → ∃ (n118 : Int), w116.cell? (Addr.mk k14 1 none) = some (Value.int IntKind.i64 n118) ∧ Br (decide (n118 < n19)) (∀ (w119 : World) (R120 :
  List Own), Ctx W w119 (R103 ++ R120) Φ104 → J (Value.tuple #[Value.pointer none, Value.bool false]) w119) (∀ (w121 : World) (R122 : List Own), Ctx W w121 (R103 ++ R122) Φ104 → ∃ (n123 :
  Int), w121.cell? (Addr.mk k14 1 none) = some (Value.int IntKind.i64 n123) ∧ Br (decide (1099511627776 < n123)) (∀ (w124 : World) (R125 : List Own), Ctx W w124 (R103 ++ R125) Φ104 → J
  (Value.tuple #[Value.pointer none, Value.bool false]) w124) (∀ (w126 : World) (R127 : List Own), Ctx W w126 (R103 ++ R127) Φ104 → J (Value.tuple #[Value.pointer (some (Addr.mk k14 0 none)),
  Value.bool true]) w126))))))) (∀ (w128 : World) (R129 : List Own), Ctx W w128 (R29 ++ R129) I30 → Calls Tryz.prog F.errataref01_Reader_Done #[Value.pointer p4] w128 fun (e130 : Ending)
  (w131 : World) => ∃ (c132 : Bool), e130 = Ending.returned (Value.bool c132) ∧ ∃ (R133 : List Own), ∃ (Φ134 : PW), Stable Φ134 ∧ Ctx W w131 (R133 ++ R129) Φ134 ∧ Br (!c132) (∀ (w135 : World)
  (R136 : List Own), Ctx W w135 (R133 ++ R136) Φ134 → J (Value.tuple #[Value.pointer none, Value.bool false]) w135) (∀ (w137 : World) (R138 : List Own), Ctx W w137 (R133 ++ R138) Φ134 → ∃
  (p139 : Option Addr), ∃ (k140 : Nat), ∃ (k141 : Nat), w137.cell? (Addr.mk k14 0 none) = some (Value.slice p139 k140 k141) ∧ Br (decide ((↑k140 : Int) ≠ n19)) (∀ (w142 : World) (R143 : List
  Own), Ctx W w142 (R133 ++ R143) Φ134 → J (Value.tuple #[Value.pointer none, Value.bool false]) w142) (Br (decide (4 < n19)) (∀ (w144 : World) (R145 : List Own), Ctx W w144 (R133 ++ R145)
  Φ134 → J (Value.tuple #[Value.pointer none, Value.bool false]) w144) (∀ (w146 : World) (R147 : List Own), Ctx W w146 (R133 ++ R147) Φ134 → ∃ (n148 : Int), w146.cell? (Addr.mk k14 1 none) =
  some (Value.int IntKind.i64 n148) ∧ Br (decide (n148 < n19)) (∀ (w149 : World) (R150 : List Own), Ctx W w149 (R133 ++ R150) Φ134 → J (Value.tuple #[Value.pointer none, Value.bool false])
  w149) (∀ (w151 : World) (R152 : List Own), Ctx W w151 (R133 ++ R152) Φ134 → ∃ (n153 : Int), w151.cell? (Addr.mk k14 1 none) = some (Value.int IntKind.i64 n153) ∧ Br (decide (1099511627776 <
  n153)) (∀ (w154 : World) (R155 : List Own), Ctx W w154 (R133 ++ R155) Φ134 → J (Value.tuple #[Value.pointer none, Value.bool false]) w154) (∀ (w156 : World) (R157 : List Own), Ctx W w156
  (R133 ++ R157) Φ134 → J (Value.tuple #[Value.pointer (some (Addr.mk k14 0 none)), Value.bool true]) w156))))))

theorem Berrataref36_Read_run (s : ByteArray) {W w : World} {R : List Own} {Φ : PW} [Stable Φ] {J : Value → World → Prop} (c : Ctx W w R Φ) (h : Berrataref36_Read s W R Φ J) : Calls Tryz.prog F.errataref36_Read #[.string s] w fun e w' => ∃ v, e = .returned v ∧ J v w' :=
  vcFS_sound (H := { keep := some [0, 2, 3, 4, 5, 6, 7, 8, 9, 25, 35, 76], track := [8], stages := [(10, [.held [(0, true), (1, true), (5, true), (2, true), (3, true), (4, true), (6, false), (7, false)], .stage [8] none, .stage [9] (some 10)])], split := [5, 11], loops := [(5, [(7, .one (.int .i64))], [])] }) (by rw [show vcFS Tryz.prog W { keep := some [0, 2, 3, 4, 5, 6, 7, 8, 9, 25, 35, 76], track := [8], stages := [(10, [.held [(0, true), (1, true), (5, true), (2, true), (3, true), (4, true), (6, false), (7, false)], .stage [8] none, .stage [9] (some 10)])], split := [5, 11], loops := [(5, [(7, .one (.int .i64))], [])] } F.errataref36_Read #[.string s] R Φ J = Berrataref36_Read s W R Φ J by kernel_rfl]; exact h) c

/-- channel.ReadMessage -/
-- known blocks: 2 , 5 m
def Bchannel_ReadMessage (s : ByteArray) (W : World) (R : List Own) (Φ : PW) (J : Value → World → Prop) : Prop :=
  ∀ (b : Nat) (w0 : World) (R1 : List Own), Ctx W w0 (R ++ R1) Φ → Calls Tryz.prog F.wire_Open #[Value.string s] w0 fun (e2 : Ending) (w3 : World) => ∃ (p4 : Option Addr), e2 =
  Ending.returned (Value.pointer p4) ∧ ∃ (R5 : List Own), ∃ (Φ6 : PW), Stable Φ6 ∧ Ctx W w3 (R5 ++ R1) Φ6 ∧ ∀ (w7 : World) (R8 : List Own), Ctx W w7 (R5 ++ R8) Φ6 → Calls Tryz.prog
  F.wire_Reader_Int #[Value.pointer p4] w7 fun (e9 : Ending) (w10 : World) => ∃ (n11 : Int), e9 = Ending.returned (Value.int IntKind.i64 n11) ∧ ∃ (R12 : List Own), ∃ (Φ13 : PW), Stable Φ13 ∧
  Ctx W w10 (R12 ++ R8) Φ13 ∧ ∀ (w14 : World) (R15 : List Own), Ctx W w14 (R12 ++ R15) Φ13 → Calls Tryz.prog F.wire_Reader_Int #[Value.pointer p4] w14 fun (e16 : Ending) (w17 : World) => ∃
  (n18 : Int), e16 = Ending.returned (Value.int IntKind.i64 n18) ∧ ∃ (R19 : List Own), ∃ (Φ20 : PW), Stable Φ20 ∧ Ctx W w17 (R19 ++ R15) Φ20 ∧ ∀ (w21 : World) (R22 : List Own), Ctx W w21 (R19
  ++ R22) Φ20 → Calls Tryz.prog F.wire_Reader_Int #[Value.pointer p4] w21 fun (e23 : Ending) (w24 : World) => ∃ (n25 : Int), e23 = Ending.returned (Value.int IntKind.i64 n25) ∧ ∃ (R26 : List
  Own), ∃ (Φ27 : PW), Stable Φ27 ∧ Ctx W w24 (R26 ++ R22) Φ27 ∧ ∀ (w28 : World) (R29 : List Own), Ctx W w28 (R26 ++ R29) Φ27 → Calls Tryz.prog F.wire_Reader_Int #[Value.pointer p4] w28 fun
  (e30 : Ending) (w31 : World) => ∃ (n32 : Int), e30 = Ending.returned (Value.int IntKind.i64 n32) ∧ ∃ (R33 : List Own), ∃ (Φ34 : PW), Stable Φ34 ∧ Ctx W w31 (R33 ++ R29) Φ34 ∧ ∀ (w35 :
  World) (R36 : List Own), Ctx W w35 (R33 ++ R36) Φ34 → Calls Tryz.prog F.wire_Reader_Int #[Value.pointer p4] w35 fun (e37 : Ending) (w38 : World) => ∃ (n39 : Int), e37 = Ending.returned
  (Value.int IntKind.i64 n39) ∧ ∃ (R40 : List Own), ∃ (Φ41 : PW), Stable Φ41 ∧ Ctx W w38 (R40 ++ R36) Φ41 ∧ ∀ (b : Nat) (w42 : World) (R43 : List Own), Ctx W w42 (R40 ++ R43) Φ41 → Calls
  Tryz.prog F.wire_Reader_Text #[Value.pointer p4] w42 fun (e44 : Ending) (w45 : World) => ∃ (s46 : ByteArray), e44 = Ending.returned (Value.string s46) ∧ ∃ (R47 : List Own), ∃ (Φ48 : PW),
  Stable Φ48 ∧ Ctx W w45 (R47 ++ R43) Φ48 ∧ ∀ (w49 : World) (R50 : List Own), Ctx W w49 (R47 ++ R50) Φ48 → Calls Tryz.prog F.delta_Read #[Value.string s46] w49 fun (e51 : Ending) (w52 :
  World) => ∃ (p53 : Option Addr), ∃ (k54 : Nat), ∃ (k55 : Nat), ∃ (c56 : Bool), e51 = Ending.returned (Value.tuple #[Value.slice p53 k54 k55, Value.bool c56]) ∧ ∃ (R57 : List Own), ∃ (Φ58 :
  PW), Stable Φ58 ∧ Ctx W w52 (R57 ++ R50) Φ58 ∧ Br (!c56) (∀ (w59 : World) (R60 : List Own), Ctx W w59 (R57 ++ R60) Φ58 → J (Value.tuple #[Value.agg #[Value.int IntKind.i64 0, Value.int
  IntKind.i64 0, Value.int IntKind.i64 0, Value.int IntKind.i64 0, Value.int IntKind.i64 0, Value.slice none 0 0], Value.bool false]) w59) (∀ (w61 : World) (R62 : List Own), Ctx W w61 (R57 ++
  R62) Φ58 → Calls Tryz.prog F.wire_Reader_Done #[Value.pointer p4] w61 fun (e63 : Ending) (w64 : World) => ∃ (c65 : Bool), e63 = Ending.returned (Value.bool c65) ∧ ∃ (R66 : List Own), ∃ (Φ67
  : PW), Stable Φ67 ∧ Ctx W w64 (R66 ++ R62) Φ67 ∧ Br (!c65) (∀ (w68 : World) (R69 : List Own), Ctx W w68 (R66 ++ R69) Φ67 → J (Value.tuple #[Value.agg #[Value.int IntKind.i64 0, Value.int
  IntKind.i64 0, Value.int IntKind.i64 0, Value.int IntKind.i64 0, Value.int IntKind.i64 0, Value.slice none 0 0], Value.bool false]) w68) (∀ (w70 : World) (R71 : List Own), Ctx W w70 (R66 ++
  R71) Φ67 → Calls Tryz.prog F.channel_Right #[Value.agg #[Value.int IntKind.i64 n11, Value.int IntKind.i64 n18, Value.int IntKind.i64 n25, Value.int IntKind.i64 n32, Value.int IntKind.i64
  n39, Value.slice p53 k54 k55]] w70 fun (e72 : Ending) (w73 : World) => ∃ (c74 : Bool), e72 = Ending.returned (Value.bool c74) ∧ ∃ (R75 : List Own), ∃ (Φ76 : PW), Stable Φ76 ∧ Ctx W w73 (R75
  ++ R71) Φ76 ∧ Br (!c74) (∀ (w77 : World) (R78 : List Own), Ctx W w77 (R75 ++ R78) Φ76 → J (Value.tuple #[Value.agg #[Value.int IntKind.i64 0, Value.int IntKind.i64 0, Value.int IntKind.i64
  0, Value.int IntKind.i64 0, Value.int IntKind.i64 0, Value.slice none 0 0], Value.bool false]) w77) (∀ (w79 : World) (R80 : List Own), Ctx W w79 (R75 ++ R80) Φ76 → J (Value.tuple
  #[Value.agg #[Value.int IntKind.i64 n11, Value.int IntKind.i64 n18, Value.int IntKind.i64 n25, Value.int IntKind.i64 n32, Value.int IntKind.i64 n39, Value.slice p53 k54 k55], Value.bool
  true]) w79)))

theorem Bchannel_ReadMessage_run (s : ByteArray) {W w : World} {R : List Own} {Φ : PW} [Stable Φ] {J : Value → World → Prop} (c : Ctx W w R Φ) (h : Bchannel_ReadMessage s W R Φ J) : Calls Tryz.prog F.channel_ReadMessage #[.string s] w fun e w' => ∃ v, e = .returned v ∧ J v w' :=
  vcFS_sound (H := { keep := some [0, 2, 3, 4, 5, 6, 7, 40], track := [2, 5], split := [5] }) (by rw [show vcFS Tryz.prog W { keep := some [0, 2, 3, 4, 5, 6, 7, 40], track := [2, 5], split := [5] } F.channel_ReadMessage #[.string s] R Φ J = Bchannel_ReadMessage s W R Φ J by kernel_rfl]; exact h) c

/-- errataref36.ReadMessage -/
-- known blocks: 2 , 5 m
def Berrataref36_ReadMessage (s : ByteArray) (W : World) (R : List Own) (Φ : PW) (J : Value → World → Prop) : Prop :=
  ∀ (b : Nat) (w0 : World) (R1 : List Own), Ctx W w0 (R ++ R1) Φ → Calls Tryz.prog F.errataref01_Open #[Value.string s] w0 fun (e2 : Ending) (w3 : World) => ∃ (p4 : Option Addr), e2 =
  Ending.returned (Value.pointer p4) ∧ ∃ (R5 : List Own), ∃ (Φ6 : PW), Stable Φ6 ∧ Ctx W w3 (R5 ++ R1) Φ6 ∧ ∀ (w7 : World) (R8 : List Own), Ctx W w7 (R5 ++ R8) Φ6 → Calls Tryz.prog
  F.errataref01_Reader_Int #[Value.pointer p4] w7 fun (e9 : Ending) (w10 : World) => ∃ (n11 : Int), e9 = Ending.returned (Value.int IntKind.i64 n11) ∧ ∃ (R12 : List Own), ∃ (Φ13 : PW), Stable
  Φ13 ∧ Ctx W w10 (R12 ++ R8) Φ13 ∧ ∀ (b : Nat) (w14 : World) (R15 : List Own), Ctx W w14 (R12 ++ R15) Φ13 → Calls Tryz.prog F.errataref01_Reader_Int #[Value.pointer p4] w14 fun (e16 :
  Ending) (w17 : World) => ∃ (n18 : Int), e16 = Ending.returned (Value.int IntKind.i64 n18) ∧ ∃ (R19 : List Own), ∃ (Φ20 : PW), Stable Φ20 ∧ Ctx W w17 (R19 ++ R15) Φ20 ∧ ∀ (w21 : World) (R22
  : List Own), Ctx W w21 (R19 ++ R22) Φ20 → Calls Tryz.prog F.errataref01_Reader_Int #[Value.pointer p4] w21 fun (e23 : Ending) (w24 : World) => ∃ (n25 : Int), e23 = Ending.returned
  (Value.int IntKind.i64 n25) ∧ ∃ (R26 : List Own), ∃ (Φ27 : PW), Stable Φ27 ∧ Ctx W w24 (R26 ++ R22) Φ27 ∧ ∀ (w28 : World) (R29 : List Own), Ctx W w28 (R26 ++ R29) Φ27 → Calls Tryz.prog
  F.errataref01_Reader_Int #[Value.pointer p4] w28 fun (e30 : Ending) (w31 : World) => ∃ (n32 : Int), e30 = Ending.returned (Value.int IntKind.i64 n32) ∧ ∃ (R33 : List Own), ∃ (Φ34 : PW),
  Stable Φ34 ∧ Ctx W w31 (R33 ++ R29) Φ34 ∧ ∀ (w35 : World) (R36 : List Own), Ctx W w35 (R33 ++ R36) Φ34 → Calls Tryz.prog F.errataref01_Reader_Int #[Value.pointer p4] w35 fun (e37 : Ending)
  (w38 : World) => ∃ (n39 : Int), e37 = Ending.returned (Value.int IntKind.i64 n39) ∧ ∃ (R40 : List Own), ∃ (Φ41 : PW), Stable Φ41 ∧ Ctx W w38 (R40 ++ R36) Φ41 ∧ ∀ (w42 : World) (R43 : List
  Own), Ctx W w42 (R40 ++ R43) Φ41 → Calls Tryz.prog F.errataref01_Reader_Text #[Value.pointer p4] w42 fun (e44 : Ending) (w45 : World) => ∃ (s46 : ByteArray), e44 = Ending.returned
  (Value.string s46) ∧ ∃ (R47 : List Own), ∃ (Φ48 : PW), Stable Φ48 ∧ Ctx W w45 (R47 ++ R43) Φ48 ∧ ∀ (w49 : World) (R50 : List Own), Ctx W w49 (R47 ++ R50) Φ48 → Calls Tryz.prog
  F.errataref28_Read #[Value.string s46] w49 fun (e51 : Ending) (w52 : World) => ∃ (p53 : Option Addr), ∃ (k54 : Nat), ∃ (k55 : Nat), ∃ (c56 : Bool), e51 = Ending.returned (Value.tuple
  #[Value.slice p53 k54 k55, Value.bool c56]) ∧ ∃ (R57 : List Own), ∃ (Φ58 : PW), Stable Φ58 ∧ Ctx W w52 (R57 ++ R50) Φ58 ∧ ∀ (w59 : World) (R60 : List Own), Ctx W w59 (R57 ++ R60) Φ58 →
  Calls Tryz.prog F.errataref01_Reader_Done #[Value.pointer p4] w59 fun (e61 : Ending) (w62 : World) => ∃ (c63 : Bool), e61 = Ending.returned (Value.bool c63) ∧ ∃ (R64 : List Own), ∃ (Φ65 :
  PW), Stable Φ65 ∧ Ctx W w62 (R64 ++ R60) Φ65 ∧ Br (!c63) (∀ (w66 : World) (R67 : List Own), Ctx W w66 (R64 ++ R67) Φ65 → J (Value.tuple #[Value.agg #[Value.int IntKind.i64 0, Value.int
  IntKind.i64 0, Value.int IntKind.i64 0, Value.int IntKind.i64 0, Value.int IntKind.i64 0, Value.slice none 0 0], Value.bool false]) w66) (Br (!c56) (∀ (w68 : World) (R69 : List Own), Ctx W
  w68 (R64 ++ R69) Φ65 → J (Value.tuple #[Value.agg #[Value.int IntKind.i64 0, Value.int IntKind.i64 0, Value.int IntKind.i64 0, Value.int IntKind.i64 0, Value.int IntKind.i64 0, Value.slice
  none 0 0], Value.bool false]) w68) (∀ (w70 : World) (R71 : List Own), Ctx W w70 (R64 ++ R71) Φ65 → Calls Tryz.prog F.errataref36_Right #[Value.agg #[Value.int IntKind.i64 n11, Value.int
  IntKind.i64 n18, Value.int IntKind.i64 n25, Value.int IntKind.i64 n32, Value.int IntKind.i64 n39, Value.slice p53 k54 k55]] w70 fun (e72 : Ending) (w73 : World) => ∃ (c74 : Bool), e72 =
  Ending.returned (Value.bool c74) ∧ ∃ (R75 : List Own), ∃ (Φ76 : PW), Stable Φ76 ∧ Ctx W w73 (R75 ++ R71) Φ76 ∧ Br (!c74) (∀ (w77 : World) (R78 : List Own), Ctx W w77 (R75 ++ R78) Φ76 → J
  (Value.tuple #[Value.agg #[Value.int IntKind.i64 0, Value.int IntKind.i64 0, Value.int IntKind.i64 0, Value.int IntKind.i64 0, Value.int IntKind.i64 0, Value.slice none 0 0], Value.bool
  false]) w77) (∀ (w79 : World) (R80 : List Own), Ctx W w79 (R75 ++ R80) Φ76 → J (Value.tuple #[Value.agg #[Value.int IntKind.i64 n11, Value.int IntKind.i64 n18, Value.int IntKind.i64 n25,
  Value.int IntKind.i64 n32, Value.int IntKind.i64 n39, Value.slice p53 k54 k55], Value.bool true]) w79)))

theorem Berrataref36_ReadMessage_run (s : ByteArray) {W w : World} {R : List Own} {Φ : PW} [Stable Φ] {J : Value → World → Prop} (c : Ctx W w R Φ) (h : Berrataref36_ReadMessage s W R Φ J) : Calls Tryz.prog F.errataref36_ReadMessage #[.string s] w fun e w' => ∃ v, e = .returned v ∧ J v w' :=
  vcFS_sound (H := { keep := some [0, 2, 3, 4, 5, 6, 7, 37, 43], track := [2, 5], split := [8] }) (by rw [show vcFS Tryz.prog W { keep := some [0, 2, 3, 4, 5, 6, 7, 37, 43], track := [2, 5], split := [8] } F.errataref36_ReadMessage #[.string s] R Φ J = Berrataref36_ReadMessage s W R Φ J by kernel_rfl]; exact h) c

/-- channel.MessageBytes -/
-- known blocks: 1 m
def Bchannel_MessageBytes (m0 : Int) (m1 : Int) (m2 : Int) (m3 : Int) (m4 : Int) (m5P : Option Addr) (m5N m5C : Nat) (W : World) (R : List Own) (Φ : PW) (J : Value → World → Prop) : Prop :=
  ∀ (b : Nat), ∃ (R0 : List Own), ∃ (Φ1 : PW), Stable Φ1 ∧ (∀ (w2 : World) (R3 : List Own), Ctx W w2 (R ++ R3) Φ → Ctx W w2 (R0 ++ R3) Φ1) ∧ ∀ (w4 : World) (R5 : List Own), Ctx W w4 (R ++ R5)
  Φ → Calls Tryz.prog F.wire_Int #[Value.int IntKind.i64 m0] w4 fun (e6 : Ending) (w7 : World) => ∃ (s8 : ByteArray), e6 = Ending.returned (Value.string s8) ∧ ∃ (R9 : List Own), ∃ (Φ10 : PW),
  Stable Φ10 ∧ Ctx W w7 (R9 ++ R5) Φ10 ∧ (∀ (w11 : World) (R12 : List Own), Ctx W w11 (R9 ++ R12) Φ10 → Ctx W w11 (R0 ++ R12) Φ1) ∧ ∀ (w13 : World) (R14 : List Own), Ctx W w13 (R9 ++ R14) Φ10
  → Calls Tryz.prog F.wire_Int #[Value.int IntKind.i64 m1] w13 fun (e15 : Ending) (w16 : World) => ∃ (s17 : ByteArray), e15 = Ending.returned (Value.string s17) ∧ ∃ (R18 : List Own), ∃ (Φ19 :
  PW), Stable Φ19 ∧ Ctx W w16 (R18 ++ R14) Φ19 ∧ (∀ (w20 : World) (R21 : List Own), Ctx W w20 (R18 ++ R21) Φ19 → Ctx W w20 (R0 ++ R21) Φ1) ∧ (s8.size + s17.size).le 9223372036854775807 ∧ ∀
  (w22 : World) (R23 : List Own), Ctx W w22 (R18 ++ R23) Φ19 → Calls Tryz.prog F.wire_Int #[Value.int IntKind.i64 m2] w22 fun (e24 : Ending) (w25 : World) => ∃ (s26 : ByteArray), e24 =
  Ending.returned (Value.string s26) ∧ ∃ (R27 : List Own), ∃ (Φ28 : PW), Stable Φ28 ∧ Ctx W w25 (R27 ++ R23) Φ28 ∧ (∀ (w29 : World) (R30 : List Own), Ctx W w29 (R27 ++ R30) Φ28 → Ctx W w29
  (R0 ++ R30) Φ1) ∧ ((s8 ++ s17).size + s26.size).le 9223372036854775807 ∧ ∀ (w31 : World) (R32 : List Own), Ctx W w31 (R27 ++ R32) Φ28 → Calls Tryz.prog F.wire_Int #[Value.int IntKind.i64
  m3] w31 fun (e33 : Ending) (w34 : World) => ∃ (s35 : ByteArray), e33 = Ending.returned (Value.string s35) ∧ ∃ (R36 : List Own), ∃ (Φ37 : PW), Stable Φ37 ∧ Ctx W w34 (R36 ++ R32) Φ37 ∧ (∀
  (w38 : World) (R39 : List Own), Ctx W w38 (R36 ++ R39) Φ37 → Ctx W w38 (R0 ++ R39) Φ1) ∧ ((s8 ++ s17 ++ s26).size + s35.size).le 9223372036854775807 ∧ ∀ (w40 : World) (R41 : List Own), Ctx
  W w40 (R36 ++ R41) Φ37 → Calls Tryz.prog F.wire_Int #[Value.int IntKind.i64 m4] w40 fun (e42 : Ending) (w43 : World) => ∃ (s44 : ByteArray), e42 = Ending.returned (Value.string s44) ∧ ∃
  (R45 : List Own), ∃ (Φ46 : PW), Stable Φ46 ∧ Ctx W w43 (R45 ++ R41) Φ46 ∧ (∀ (w47 : World) (R48 : List Own), Ctx W w47 (R45 ++ R48) Φ46 → Ctx W w47 (R0 ++ R48) Φ1) ∧ ((s8 ++ s17 ++ s26 ++
  s35).size + s44.size).le 9223372036854775807 ∧ ∀ (w49 : World) (R50 : List Own), Ctx W w49 (R45 ++ R50) Φ46 → Calls Tryz.prog F.delta_Bytes #[Value.slice m5P m5N m5C] w49 fun (e51 : Ending)
  (w52 : World) => ∃ (s53 : ByteArray), e51 = Ending.returned (Value.string s53) ∧ ∃ (R54 : List Own), ∃ (Φ55 : PW), Stable Φ55 ∧ Ctx W w52 (R54 ++ R50) Φ55 ∧ (∀ (w56 : World) (R57 : List
  Own), Ctx W w56 (R54 ++ R57) Φ55 → Ctx W w56 (R0 ++ R57) Φ1) ∧ ∀ (w58 : World) (R59 : List Own), Ctx W w58 (R54 ++ R59) Φ55 → Calls Tryz.prog F.wire_Text #[Value.string s53] w58 fun (e60 :
  Ending) (w61 : World) => ∃ (s62 : ByteArray), e60 = Ending.returned (Value.string s62) ∧ ∃ (R63 : List Own), ∃ (Φ64 : PW), Stable Φ64 ∧ Ctx W w61 (R63 ++ R59) Φ64 ∧ (∀ (w65 : World) (R66 :
  List Own), Ctx W w65 (R63 ++ R66) Φ64 → Ctx W w65 (R0 ++ R66) Φ1) ∧ ((s8 ++ s17 ++ s26 ++ s35 ++ s44).size + s62.size).le 9223372036854775807 ∧ ∀ (w67 : World) (R68 : List Own), Ctx W w67
  (R63 ++ R68) Φ64 → J (Value.string (s8 ++ s17 ++ s26 ++ s35 ++ s44 ++ s62)) w67

theorem Bchannel_MessageBytes_run (m0 : Int) (m1 : Int) (m2 : Int) (m3 : Int) (m4 : Int) (m5P : Option Addr) (m5N m5C : Nat) {W w : World} {R : List Own} {Φ : PW} [Stable Φ] {J : Value → World → Prop} (c : Ctx W w R Φ) (h : Bchannel_MessageBytes m0 m1 m2 m3 m4 m5P m5N m5C W R Φ J) : Calls Tryz.prog F.channel_MessageBytes #[.agg #[.int .i64 m0, .int .i64 m1, .int .i64 m2, .int .i64 m3, .int .i64 m4, .slice m5P m5N m5C]] w fun e w' => ∃ v, e = .returned v ∧ J v w' :=
  vcFS_sound (H := { keep := some [1, 2], track := [1], stages := [(1, [.held [(0, true), (3, true), (7, true), (11, true), (15, true), (19, true), (1, true), (4, true), (8, true), (12, true), (16, true), (20, true), (2, false), (5, false), (6, true), (9, false), (10, true), (13, false), (14, true), (17, false), (18, true), (21, false), (22, false)], .stage [23, 24] none])] }) (by rw [show vcFS Tryz.prog W { keep := some [1, 2], track := [1], stages := [(1, [.held [(0, true), (3, true), (7, true), (11, true), (15, true), (19, true), (1, true), (4, true), (8, true), (12, true), (16, true), (20, true), (2, false), (5, false), (6, true), (9, false), (10, true), (13, false), (14, true), (17, false), (18, true), (21, false), (22, false)], .stage [23, 24] none])] } F.channel_MessageBytes #[.agg #[.int .i64 m0, .int .i64 m1, .int .i64 m2, .int .i64 m3, .int .i64 m4, .slice m5P m5N m5C]] R Φ J = Bchannel_MessageBytes m0 m1 m2 m3 m4 m5P m5N m5C W R Φ J by kernel_rfl]; exact h) c

/-- erratalaw36.mark -/
-- known blocks: 2 
def Berratalaw36_mark (n : Int) (W : World) (R : List Own) (Φ : PW) (J : Value → World → Prop) : Prop :=
  ∀ (b : Nat) (w0 : World) (R1 : List Own), Ctx W w0 (R ++ R1) Φ → J (Value.agg #[Value.int IntKind.i64 2, Value.int IntKind.i64 0, Value.int IntKind.i64 0, Value.int IntKind.i64 0, Value.int
  IntKind.i64 n, Value.slice none 0 0]) w0

theorem Berratalaw36_mark_run (n : Int) {W w : World} {R : List Own} {Φ : PW} [Stable Φ] {J : Value → World → Prop} (c : Ctx W w R Φ) (h : Berratalaw36_mark n W R Φ J) : Calls Tryz.prog F.erratalaw36_mark #[.int .i64 n] w fun e w' => ∃ v, e = .returned v ∧ J v w' :=
  vcFS_sound (H := { keep := some [0, 2], track := [2] }) (by rw [show vcFS Tryz.prog W { keep := some [0, 2], track := [2] } F.erratalaw36_mark #[.int .i64 n] R Φ J = Berratalaw36_mark n W R Φ J by kernel_rfl]; exact h) c

/-- errataref36.Few -/
-- loop at region 7: 4 k; blocks 
-- loop at region 2: 3 i; blocks 
-- known blocks: 1 m
def Berrataref36_Few (m0 : Int) (m1 : Int) (m2 : Int) (m3 : Int) (m4 : Int) (m5P : Option Addr) (m5N m5C : Nat) (W : World) (R : List Own) (Φ : PW) (J : Value → World → Prop) : Prop :=
  ∀ (b : Nat), exI fun (I0 : Int → List Own → PW → Nat → Prop) => (∃ (R1 : List Own), ∃ (Φ2 : PW), ∃ (k3 : Nat), Stable Φ2 ∧ (∀ (w4 : World) (R5 : List Own), Ctx W w4 (R ++ R5) Φ → Ctx W w4
  (R1 ++ R5) Φ2) ∧ I0 0 R1 Φ2 k3) ∧ ∀ (n6 : Int) (R7 : List Own) (I8 : List Nat → World → Prop) (k9 : Nat), Stable I8 → I0 n6 R7 I8 k9 → Br (decide (n6 < (↑m5N : Int))) ((0 ≤ n6 ∧ n6 < (↑m5N
  : Int)) ∧ ptrK none m5P fun (k10 k11 : Nat) => ∀ (w12 : World) (R13 : List Own), Ctx W w12 (R7 ++ R13) I8 → ∃ (p14 : Option Addr), ∃ (k15 : Nat), ∃ (k16 : Nat), w12.cell? (Addr.mk k10 (k11
  + n6.toNat * 3 + 1) none) = some (Value.slice p14 k15 k16) ∧ Br (decide (12 < (↑k15 : Int))) (∀ (w17 : World) (R18 : List Own), Ctx W w17 (R7 ++ R18) I8 → J (Value.bool false) w17) (exI fun
  (I19 : Int → List Own → PW → Nat → Prop) => (∃ (R20 : List Own), ∃ (Φ21 : PW), ∃ (k22 : Nat), Stable Φ21 ∧ (∀ (w23 : World) (R24 : List Own), Ctx W w23 (R7 ++ R24) I8 → Ctx W w23 (R20 ++
  R24) Φ21) ∧ I19 0 R20 Φ21 k22) ∧ ∀ (n25 : Int) (R26 : List Own) (I27 : List Nat → World → Prop) (k28 : Nat), Stable I27 → I19 n25 R26 I27 k28 → (0 ≤ n6 ∧ n6 < (↑m5N : Int)) ∧ ptrK none m5P
  fun (k29 k30 : Nat) => ∀ (w31 : World) (R32 : List Own), Ctx W w31 (R26 ++ R32) I27 → ∃ (p33 : Option Addr), ∃ (k34 : Nat), ∃ (k35 : Nat), w31.cell? (Addr.mk k29 (k30 + n6.toNat * 3 + 1)
  none) = some (Value.slice p33 k34 k35) ∧ Br (decide (n25 < (↑k34 : Int))) ((0 ≤ n6 ∧ n6 < (↑m5N : Int)) ∧ ptrK none m5P fun (k36 k37 : Nat) => ∀ (w38 : World) (R39 : List Own), Ctx W w38
  (R26 ++ R39) I27 → ∃ (p40 : Option Addr), ∃ (k41 : Nat), ∃ (k42 : Nat), w38.cell? (Addr.mk k36 (k37 + n6.toNat * 3 + 1) none) = some (Value.slice p40 k41 k42) ∧ (0 ≤ n25 ∧ n25 < (↑k41 :
  Int)) ∧ ptrK none p40 fun (k43 k44 : Nat) => ∀ (w45 : World) (R46 : List Own), Ctx W w45 (R26 ++ R46) I27 → ∃ (s47 : ByteArray), w45.cell? (Addr.mk k43 (k44 + n25.toNat * 3 + 2) none) =
  some (Value.string s47) ∧ Br (decide (210 < (↑s47.size : Int))) (∀ (w48 : World) (R49 : List Own), Ctx W w48 (R26 ++ R49) I27 → J (Value.bool false) w48) (I64 (n25 + 1) ∧ ∃ (R50 : List
  Own), ∃ (Φ51 : PW), ∃ (k52 : Nat), Stable Φ51 ∧ (∀ (w53 : World) (R54 : List Own), Ctx W w53 (R26 ++ R54) I27 → Ctx W w53 (R50 ++ R54) Φ51) ∧ I19 (n25 + 1) R50 Φ51 k52 ∧ k52 < k28)) (I64
  (n6 + 1) ∧ ∃ (R55 : List Own), ∃ (Φ56 : PW), ∃ (k57 : Nat), Stable Φ56 ∧ (∀ (w58 : World) (R59 : List Own), Ctx W w58 (R26 ++ R59) I27 → Ctx W w58 (R55 ++ R59) Φ56) ∧ I0 (n6 + 1) R55 Φ56
  k57 ∧ k57 < k9))) (∀ (w60 : World) (R61 : List Own), Ctx W w60 (R7 ++ R61) I8 → J (Value.bool (decide ((↑m5N : Int) ≤ 10))) w60)

theorem Berrataref36_Few_run (m0 : Int) (m1 : Int) (m2 : Int) (m3 : Int) (m4 : Int) (m5P : Option Addr) (m5N m5C : Nat) {W w : World} {R : List Own} {Φ : PW} [Stable Φ] {J : Value → World → Prop} (c : Ctx W w R Φ) (h : Berrataref36_Few m0 m1 m2 m3 m4 m5P m5N m5C W R Φ J) : Calls Tryz.prog F.errataref36_Few #[.agg #[.int .i64 m0, .int .i64 m1, .int .i64 m2, .int .i64 m3, .int .i64 m4, .slice m5P m5N m5C]] w fun e w' => ∃ v, e = .returned v ∧ J v w' :=
  vcFS_sound (H := { keep := some [1, 2, 3, 4, 9, 19, 28, 42], track := [1], loops := [(7, [(4, .one (.int .i64))], []), (2, [(3, .one (.int .i64))], [])] }) (by rw [show vcFS Tryz.prog W { keep := some [1, 2, 3, 4, 9, 19, 28, 42], track := [1], loops := [(7, [(4, .one (.int .i64))], []), (2, [(3, .one (.int .i64))], [])] } F.errataref36_Few #[.agg #[.int .i64 m0, .int .i64 m1, .int .i64 m2, .int .i64 m3, .int .i64 m4, .slice m5P m5N m5C]] R Φ J = Berrataref36_Few m0 m1 m2 m3 m4 m5P m5N m5C W R Φ J by kernel_rfl]; exact h) c

/-- (*channel.Channel).Head -/
-- known blocks: 2 
def Bchannel_Channel_Head (cB cO : Nat) (W : World) (R : List Own) (Φ : PW) (J : Value → World → Prop) : Prop :=
  ∀ (b : Nat) (w0 : World) (R1 : List Own), Ctx W w0 (R ++ R1) Φ → ∃ (n2 : Int), w0.cell? (Addr.mk cB (cO + 25) none) = some (Value.int IntKind.i64 n2) ∧ Br (decide (n2 = 0)) (∀ (w3 : World)
  (R4 : List Own), Ctx W w3 (R ++ R4) Φ → J (Value.tuple #[Value.agg #[Value.int IntKind.i64 0, Value.int IntKind.i64 0, Value.int IntKind.i64 0, Value.int IntKind.i64 0, Value.int
  IntKind.i64 0, Value.slice none 0 0], Value.bool false]) w3) (∃ (R5 : List Own), ∃ (Φ6 : PW), Stable Φ6 ∧ (∀ (w7 : World) (R8 : List Own), Ctx W w7 (R ++ R8) Φ → Ctx W w7 (R5 ++ R8) Φ6) ∧ ∃
  (n9 : Int), (∀ (w10 : World) (R11 : List Own), Ctx W w10 (R5 ++ R11) Φ6 → ∃ (n12 : Int), w10.cell? (Addr.mk cB (cO + 24) none) = some (Value.int IntKind.i64 n12) ∧ Value.int IntKind.i64 n12
  = Value.int IntKind.i64 n9) ∧ (0 ≤ n9 ∧ n9 < 4) ∧ ∀ (w13 : World) (R14 : List Own), Ctx W w13 (R ++ R14) Φ → ∃ (n15 : Int), ∃ (n16 : Int), ∃ (n17 : Int), ∃ (n18 : Int), ∃ (n19 : Int), ∃
  (p20 : Option Addr), ∃ (k21 : Nat), ∃ (k22 : Nat), RowAt w13 cB (cO + n9.toNat * 6) [Value.int IntKind.i64 n15, Value.int IntKind.i64 n16, Value.int IntKind.i64 n17, Value.int IntKind.i64
  n18, Value.int IntKind.i64 n19, Value.slice p20 k21 k22] ∧ ∀ (w23 : World) (R24 : List Own), Ctx W w23 (R ++ R24) Φ → Calls Tryz.prog F.channel_clone #[Value.agg #[Value.int IntKind.i64
  n15, Value.int IntKind.i64 n16, Value.int IntKind.i64 n17, Value.int IntKind.i64 n18, Value.int IntKind.i64 n19, Value.slice p20 k21 k22]] w23 fun (e25 : Ending) (w26 : World) => ∃ (n27 :
  Int), ∃ (n28 : Int), ∃ (n29 : Int), ∃ (n30 : Int), ∃ (n31 : Int), ∃ (p32 : Option Addr), ∃ (k33 : Nat), ∃ (k34 : Nat), e25 = Ending.returned (Value.agg #[Value.int IntKind.i64 n27,
  Value.int IntKind.i64 n28, Value.int IntKind.i64 n29, Value.int IntKind.i64 n30, Value.int IntKind.i64 n31, Value.slice p32 k33 k34]) ∧ ∃ (R35 : List Own), ∃ (Φ36 : PW), Stable Φ36 ∧ Ctx W
  w26 (R35 ++ R24) Φ36 ∧ (∀ (w37 : World) (R38 : List Own), Ctx W w37 (R35 ++ R38) Φ36 → Ctx W w37 (R5 ++ R38) Φ6) ∧ (∀ (w39 : World) (R40 : List Own), Ctx W w39 (R35 ++ R40) Φ36 → Ctx W w39
  (R5 ++ R40) Φ6) ∧ ∀ (w41 : World) (R42 : List Own), Ctx W w41 (R35 ++ R42) Φ36 → J (Value.tuple #[Value.agg #[Value.int IntKind.i64 n27, Value.int IntKind.i64 n28, Value.int IntKind.i64
  n29, Value.int IntKind.i64 n30, Value.int IntKind.i64 n31, Value.slice p32 k33 k34], Value.bool true]) w41)

theorem Bchannel_Channel_Head_run (cB cO : Nat) {W w : World} {R : List Own} {Φ : PW} [Stable Φ] {J : Value → World → Prop} (c : Ctx W w R Φ) (h : Bchannel_Channel_Head cB cO W R Φ J) : Calls Tryz.prog F.channel_Channel_Head #[.pointer (some ⟨cB, cO, none⟩)] w fun e w' => ∃ v, e = .returned v ∧ J v w' :=
  vcFS_sound (H := { keep := some [0, 2, 3, 8], track := [2], stages := [(3, [.late [8] [0, 1, 2, 5, 3, 6, 4, 7, 8] [(9, []), (10, [11])]])] }) (by rw [show vcFS Tryz.prog W { keep := some [0, 2, 3, 8], track := [2], stages := [(3, [.late [8] [0, 1, 2, 5, 3, 6, 4, 7, 8] [(9, []), (10, [11])]])] } F.channel_Channel_Head #[.pointer (some ⟨cB, cO, none⟩)] R Φ J = Bchannel_Channel_Head cB cO W R Φ J by kernel_rfl]; exact h) c

/-- delta.Consolidated -/
-- loop at region 2: 7 ; blocks 
-- known blocks: 4 d
def Bdelta_Consolidated (lP : Option Addr) (lN lC : Nat) (W : World) (R : List Own) (Φ : PW) (J : Value → World → Prop) : Prop :=
  exI fun (I0 : Int → List Own → PW → Nat → Prop) => (∃ (R1 : List Own), ∃ (Φ2 : PW), ∃ (k3 : Nat), Stable Φ2 ∧ (∀ (w4 : World) (R5 : List Own), Ctx W w4 (R ++ R5) Φ → Ctx W w4 (R1 ++ R5) Φ2)
  ∧ I0 0 R1 Φ2 k3) ∧ ∀ (n6 : Int) (R7 : List Own) (I8 : List Nat → World → Prop) (k9 : Nat), Stable I8 → I0 n6 R7 I8 k9 → Br (decide (n6 < (↑lN : Int))) ((0 ≤ n6 ∧ n6 < (↑lN : Int)) ∧ ptrK
  none lP fun (k10 k11 : Nat) => ∀ (w12 : World) (R13 : List Own), Ctx W w12 (R7 ++ R13) I8 → ∃ (n14 : Int), ∃ (p15 : Option Addr), ∃ (k16 : Nat), ∃ (k17 : Nat), ∃ (n18 : Int), RowAt w12 k10
  (k11 + n6.toNat * 3) [Value.int IntKind.i64 n14, Value.slice p15 k16 k17, Value.int IntKind.i64 n18] ∧ ∀ (b : Nat), ∃ (R19 : List Own), ∃ (Φ20 : PW), Stable Φ20 ∧ (∀ (w21 : World) (R22 :
  List Own), Ctx W w21 (R7 ++ R22) I8 → Ctx W w21 (R19 ++ R22) Φ20) ∧ Br (decide (n18 = 0)) (∀ (w23 : World) (R24 : List Own), Ctx W w23 (R7 ++ R24) I8 → J (Value.bool false) w23) (Br (decide
  (0 < n6)) (I64 (n6 - 1) ∧ (0 ≤ n6 - 1 ∧ n6 - 1 < (↑lN : Int)) ∧ ptrK none lP fun (k25 k26 : Nat) => ∃ (n27 : Int), ∃ (p28 : Option Addr), ∃ (k29 : Nat), ∃ (k30 : Nat), ∃ (n31 : Int), (∀
  (w32 : World) (R33 : List Own), Ctx W w32 (R19 ++ R33) Φ20 → ∃ (n34 : Int), ∃ (p35 : Option Addr), ∃ (k36 : Nat), ∃ (k37 : Nat), ∃ (n38 : Int), RowAt w32 k25 (k26 + (n6 - 1).toNat * 3)
  [Value.int IntKind.i64 n34, Value.slice p35 k36 k37, Value.int IntKind.i64 n38] ∧ Value.agg #[Value.int IntKind.i64 n34, Value.slice p35 k36 k37, Value.int IntKind.i64 n38] = Value.agg
  #[Value.int IntKind.i64 n27, Value.slice p28 k29 k30, Value.int IntKind.i64 n31]) ∧ ∀ (w39 : World) (R40 : List Own), Ctx W w39 (R7 ++ R40) I8 → Calls Tryz.prog F.delta_compare #[Value.agg
  #[Value.int IntKind.i64 n27, Value.slice p28 k29 k30, Value.int IntKind.i64 n31], Value.agg #[Value.int IntKind.i64 n14, Value.slice p15 k16 k17, Value.int IntKind.i64 n18]] w39 fun (e41 :
  Ending) (w42 : World) => ∃ (n43 : Int), e41 = Ending.returned (Value.int IntKind.i64 n43) ∧ ∃ (R44 : List Own), ∃ (Φ45 : PW), Stable Φ45 ∧ Ctx W w42 (R44 ++ R40) Φ45 ∧ Br (decide (0 ≤ n43))
  (∀ (w46 : World) (R47 : List Own), Ctx W w46 (R44 ++ R47) Φ45 → J (Value.bool false) w46) (I64 (n6 + 1) ∧ ∃ (R48 : List Own), ∃ (Φ49 : PW), ∃ (k50 : Nat), Stable Φ49 ∧ (∀ (w51 : World) (R52
  : List Own), Ctx W w51 (R44 ++ R52) Φ45 → Ctx W w51 (R48 ++ R52) Φ49) ∧ I0 (n6 + 1) R48 Φ49 k50 ∧ k50 < k9)) (I64 (n6 + 1) ∧ ∃ (R53 : List Own), ∃ (Φ54 : PW), ∃ (k55 : Nat), Stable Φ54 ∧ (∀
  (w56 : World) (R57 : List Own), Ctx W w56 (R7 ++ R57) I8 → Ctx W w56 (R53 ++ R57) Φ54) ∧ I0 (n6 + 1) R53 Φ54 k55 ∧ k55 < k9))) (∀ (w58 : World) (R59 : List Own), Ctx W w58 (R7 ++ R59) I8 →
  J (Value.bool true) w58)

theorem Bdelta_Consolidated_run (lP : Option Addr) (lN lC : Nat) {W w : World} {R : List Own} {Φ : PW} [Stable Φ] {J : Value → World → Prop} (c : Ctx W w R Φ) (h : Bdelta_Consolidated lP lN lC W R Φ J) : Calls Tryz.prog F.delta_Consolidated #[.slice lP lN lC] w fun e w' => ∃ v, e = .returned v ∧ J v w' :=
  vcFS_sound (H := { keep := some [0, 2, 3, 4, 5, 6, 7, 8, 28], track := [4], stages := [(4, [.held [(0, true), (1, true), (2, true), (3, true), (4, true), (5, true), (6, true), (7, true), (8, true), (12, true), (9, true), (10, true), (11, true)], .stage [] (some 13), .stage [14, 15, 16] none])], loops := [(2, [(7, .one (.int .i64))], [])] }) (by rw [show vcFS Tryz.prog W { keep := some [0, 2, 3, 4, 5, 6, 7, 8, 28], track := [4], stages := [(4, [.held [(0, true), (1, true), (2, true), (3, true), (4, true), (5, true), (6, true), (7, true), (8, true), (12, true), (9, true), (10, true), (11, true)], .stage [] (some 13), .stage [14, 15, 16] none])], loops := [(2, [(7, .one (.int .i64))], [])] } F.delta_Consolidated #[.slice lP lN lC] R Φ J = Bdelta_Consolidated lP lN lC W R Φ J by kernel_rfl]; exact h) c

/-- slices.ContainsFunc[[]api.Delta,api.Delta] -/
def Bslices_ContainsFunc_api_Delta_api_Delta (sP : Option Addr) (sN sC : Nat) (fF : FuncId) (fC : Array Value) (W : World) (R : List Own) (Φ : PW) (J : Value → World → Prop) : Prop :=
  ∀ (w0 : World) (R1 : List Own), Ctx W w0 (R ++ R1) Φ → Calls Tryz.prog F.slices_IndexFunc_api_Delta_api_Delta #[Value.slice sP sN sC, Value.func (Fn.func fF) #[] fC] w0 fun (e2 : Ending)
  (w3 : World) => ∃ (n4 : Int), e2 = Ending.returned (Value.int IntKind.i64 n4) ∧ ∃ (R5 : List Own), ∃ (Φ6 : PW), Stable Φ6 ∧ Ctx W w3 (R5 ++ R1) Φ6 ∧ ∀ (w7 : World) (R8 : List Own), Ctx W w7
  (R5 ++ R8) Φ6 → J (Value.bool (decide (0 ≤ n4))) w7

theorem Bslices_ContainsFunc_api_Delta_api_Delta_run (sP : Option Addr) (sN sC : Nat) (fF : FuncId) (fC : Array Value) {W w : World} {R : List Own} {Φ : PW} [Stable Φ] {J : Value → World → Prop} (c : Ctx W w R Φ) (h : Bslices_ContainsFunc_api_Delta_api_Delta sP sN sC fF fC W R Φ J) : Calls Tryz.prog F.slices_ContainsFunc_api_Delta_api_Delta #[.slice sP sN sC, .func (.func fF) #[] fC] w fun e w' => ∃ v, e = .returned v ∧ J v w' :=
  vcFS_sound (H := { keep := some [0, 1, 4] }) (by rw [show vcFS Tryz.prog W { keep := some [0, 1, 4] } F.slices_ContainsFunc_api_Delta_api_Delta #[.slice sP sN sC, .func (.func fF) #[] fC] R Φ J = Bslices_ContainsFunc_api_Delta_api_Delta sP sN sC fF fC W R Φ J by kernel_rfl]; exact h) c

/-- channel.Right$1 -/
-- known blocks: 1 d
def Bchannel_Right_1 (d0 : Int) (d1P : Option Addr) (d1N d1C : Nat) (d2 : Int) (W : World) (R : List Own) (Φ : PW) (J : Value → World → Prop) : Prop :=
  ∀ (b : Nat) (w0 : World) (R1 : List Own), Ctx W w0 (R ++ R1) Φ → Calls Tryz.prog F.value_RightRow #[Value.slice d1P d1N d1C] w0 fun (e2 : Ending) (w3 : World) => ∃ (c4 : Bool), e2 =
  Ending.returned (Value.bool c4) ∧ ∃ (R5 : List Own), ∃ (Φ6 : PW), Stable Φ6 ∧ Ctx W w3 (R5 ++ R1) Φ6 ∧ ∀ (w7 : World) (R8 : List Own), Ctx W w7 (R5 ++ R8) Φ6 → J (Value.bool !c4) w7

theorem Bchannel_Right_1_run (d0 : Int) (d1P : Option Addr) (d1N d1C : Nat) (d2 : Int) {W w : World} {R : List Own} {Φ : PW} [Stable Φ] {J : Value → World → Prop} (c : Ctx W w R Φ) (h : Bchannel_Right_1 d0 d1P d1N d1C d2 W R Φ J) : Calls Tryz.prog F.channel_Right_1 #[.agg #[.int .i64 d0, .slice d1P d1N d1C, .int .i64 d2]] w fun e w' => ∃ v, e = .returned v ∧ J v w' :=
  vcFS_sound (H := { keep := some [1, 2], track := [1] }) (by rw [show vcFS Tryz.prog W { keep := some [1, 2], track := [1] } F.channel_Right_1 #[.agg #[.int .i64 d0, .slice d1P d1N d1C, .int .i64 d2]] R Φ J = Bchannel_Right_1 d0 d1P d1N d1C d2 W R Φ J by kernel_rfl]; exact h) c

/-- errataref28.Consolidated -/
-- loop at region 2: 3 i; blocks 
def Berrataref28_Consolidated (lP : Option Addr) (lN lC : Nat) (W : World) (R : List Own) (Φ : PW) (J : Value → World → Prop) : Prop :=
  exI fun (I0 : Int → List Own → PW → Nat → Prop) => (∃ (R1 : List Own), ∃ (Φ2 : PW), ∃ (k3 : Nat), Stable Φ2 ∧ (∀ (w4 : World) (R5 : List Own), Ctx W w4 (R ++ R5) Φ → Ctx W w4 (R1 ++ R5) Φ2)
  ∧ I0 0 R1 Φ2 k3) ∧ ∀ (n6 : Int) (R7 : List Own) (I8 : List Nat → World → Prop) (k9 : Nat), Stable I8 → I0 n6 R7 I8 k9 → Br (decide (n6 < (↑lN : Int))) (∃ (R10 : List Own), ∃ (Φ11 : PW),
  Stable Φ11 ∧ (∀ (w12 : World) (R13 : List Own), Ctx W w12 (R7 ++ R13) I8 → Ctx W w12 (R10 ++ R13) Φ11) ∧ (0 ≤ n6 ∧ n6 < (↑lN : Int)) ∧ ptrK none lP fun (k14 k15 : Nat) => ∃ (n16 : Int), (∀
  (w17 : World) (R18 : List Own), Ctx W w17 (R10 ++ R18) Φ11 → ∃ (n19 : Int), w17.cell? (Addr.mk k14 (k15 + n6.toNat * 3 + 2) none) = some (Value.int IntKind.i64 n19) ∧ Value.int IntKind.i64
  n19 = Value.int IntKind.i64 n16) ∧ Br (decide (n16 = 0)) (∀ (w20 : World) (R21 : List Own), Ctx W w20 (R7 ++ R21) I8 → J (Value.bool false) w20) (Br (decide (0 < n6)) (I64 (n6 - 1) ∧ (0 ≤
  n6 ∧ n6 < (↑lN : Int)) ∧ ptrK none lP fun (k22 k23 : Nat) => ∃ (n24 : Int), ∃ (p25 : Option Addr), ∃ (k26 : Nat), ∃ (k27 : Nat), ∃ (n28 : Int), (∀ (w29 : World) (R30 : List Own), Ctx W w29
  (R10 ++ R30) Φ11 → ∃ (n31 : Int), ∃ (p32 : Option Addr), ∃ (k33 : Nat), ∃ (k34 : Nat), ∃ (n35 : Int), RowAt w29 k22 (k23 + n6.toNat * 3) [Value.int IntKind.i64 n31, Value.slice p32 k33 k34,
  Value.int IntKind.i64 n35] ∧ Value.agg #[Value.int IntKind.i64 n31, Value.slice p32 k33 k34, Value.int IntKind.i64 n35] = Value.agg #[Value.int IntKind.i64 n24, Value.slice p25 k26 k27,
  Value.int IntKind.i64 n28]) ∧ (0 ≤ max (n6 - 1) 0 ∧ max (n6 - 1) 0 < (↑lN : Int)) ∧ ptrK none lP fun (k36 k37 : Nat) => ∃ (n38 : Int), ∃ (p39 : Option Addr), ∃ (k40 : Nat), ∃ (k41 : Nat), ∃
  (n42 : Int), (∀ (w43 : World) (R44 : List Own), Ctx W w43 (R10 ++ R44) Φ11 → ∃ (n45 : Int), ∃ (p46 : Option Addr), ∃ (k47 : Nat), ∃ (k48 : Nat), ∃ (n49 : Int), RowAt w43 k36 (k37 + (max (n6
  - 1) 0).toNat * 3) [Value.int IntKind.i64 n45, Value.slice p46 k47 k48, Value.int IntKind.i64 n49] ∧ Value.agg #[Value.int IntKind.i64 n45, Value.slice p46 k47 k48, Value.int IntKind.i64
  n49] = Value.agg #[Value.int IntKind.i64 n38, Value.slice p39 k40 k41, Value.int IntKind.i64 n42]) ∧ ∀ (w50 : World) (R51 : List Own), Ctx W w50 (R7 ++ R51) I8 → Calls Tryz.prog
  F.errataref28_Compare #[Value.agg #[Value.int IntKind.i64 n38, Value.slice p39 k40 k41, Value.int IntKind.i64 n42], Value.agg #[Value.int IntKind.i64 n24, Value.slice p25 k26 k27, Value.int
  IntKind.i64 n28]] w50 fun (e52 : Ending) (w53 : World) => ∃ (n54 : Int), e52 = Ending.returned (Value.int IntKind.i64 n54) ∧ ∃ (R55 : List Own), ∃ (Φ56 : PW), Stable Φ56 ∧ Ctx W w53 (R55 ++
  R51) Φ56 ∧ Br (decide (0 ≤ n54)) (∀ (w57 : World) (R58 : List Own), Ctx W w57 (R55 ++ R58) Φ56 → J (Value.bool false) w57) (I64 (n6 + 1) ∧ ∃ (R59 : List Own), ∃ (Φ60 : PW), ∃ (k61 : Nat),
  Stable Φ60 ∧ (∀ (w62 : World) (R63 : List Own), Ctx W w62 (R55 ++ R63) Φ56 → Ctx W w62 (R59 ++ R63) Φ60) ∧ I0 (n6 + 1) R59 Φ60 k61 ∧ k61 < k9)) (I64 (n6 + 1) ∧ ∃ (R64 : List Own), ∃ (Φ65 :
  PW), ∃ (k66 : Nat), Stable Φ65 ∧ (∀ (w67 : World) (R68 : List Own), Ctx W w67 (R7 ++ R68) I8 → Ctx W w67 (R64 ++ R68) Φ65) ∧ I0 (n6 + 1) R64 Φ65 k66 ∧ k66 < k9))) (∀ (w69 : World) (R70 :
  List Own), Ctx W w69 (R7 ++ R70) I8 → J (Value.bool true) w69)

theorem Berrataref28_Consolidated_run (lP : Option Addr) (lN lC : Nat) {W w : World} {R : List Own} {Φ : PW} [Stable Φ] {J : Value → World → Prop} (c : Ctx W w R Φ) (h : Berrataref28_Consolidated lP lN lC W R Φ J) : Calls Tryz.prog F.errataref28_Consolidated #[.slice lP lN lC] w fun e w' => ∃ v, e = .returned v ∧ J v w' :=
  vcFS_sound (H := { keep := some [0, 2, 3, 7, 33], stages := [(4, [.held [(0, true), (1, true), (2, true), (3, true), (4, true), (5, true), (6, true), (7, true), (8, true), (9, true), (10, true), (11, true), (16, true), (17, true), (12, true), (18, true), (13, true), (19, true), (14, true), (15, true)], .stage [] (some 20), .stage [21, 22, 23] none])], loops := [(2, [(3, .one (.int .i64))], [])] }) (by rw [show vcFS Tryz.prog W { keep := some [0, 2, 3, 7, 33], stages := [(4, [.held [(0, true), (1, true), (2, true), (3, true), (4, true), (5, true), (6, true), (7, true), (8, true), (9, true), (10, true), (11, true), (16, true), (17, true), (12, true), (18, true), (13, true), (19, true), (14, true), (15, true)], .stage [] (some 20), .stage [21, 22, 23] none])], loops := [(2, [(3, .one (.int .i64))], [])] } F.errataref28_Consolidated #[.slice lP lN lC] R Φ J = Berrataref28_Consolidated lP lN lC W R Φ J by kernel_rfl]; exact h) c

/-- errataref01.Int -/
def Berrataref01_Int (n : Int) (W : World) (R : List Own) (Φ : PW) (J : Value → World → Prop) : Prop :=
  Br (decide (n < 0)) (∀ (w0 : World) (R1 : List Own), Ctx W w0 (R ++ R1) Φ → Calls Tryz.prog F.errataref01_digits #[Value.int IntKind.i64 n] w0 fun (e2 : Ending) (w3 : World) => ∃ (s4 :
  ByteArray), e2 = Ending.returned (Value.string s4) ∧ ∃ (R5 : List Own), ∃ (Φ6 : PW), Stable Φ6 ∧ Ctx W w3 (R5 ++ R1) Φ6 ∧ ((ByteArray.mk #[OfNat.ofNat 45]).size + s4.size).le
  9223372036854775807 ∧ ((ByteArray.mk #[OfNat.ofNat 45] ++ s4).size + (ByteArray.mk #[OfNat.ofNat 59]).size).le 9223372036854775807 ∧ ∀ (w7 : World) (R8 : List Own), Ctx W w7 (R5 ++ R8) Φ6 →
  J (Value.string (ByteArray.mk #[OfNat.ofNat 45] ++ s4 ++ ByteArray.mk #[OfNat.ofNat 59])) w7) (I64 (0 - n) ∧ ∀ (w9 : World) (R10 : List Own), Ctx W w9 (R ++ R10) Φ → Calls Tryz.prog
  F.errataref01_digits #[Value.int IntKind.i64 (0 - n)] w9 fun (e11 : Ending) (w12 : World) => ∃ (s13 : ByteArray), e11 = Ending.returned (Value.string s13) ∧ ∃ (R14 : List Own), ∃ (Φ15 :
  PW), Stable Φ15 ∧ Ctx W w12 (R14 ++ R10) Φ15 ∧ (s13.size + (ByteArray.mk #[OfNat.ofNat 59]).size).le 9223372036854775807 ∧ ∀ (w16 : World) (R17 : List Own), Ctx W w16 (R14 ++ R17) Φ15 → J
  (Value.string (s13 ++ ByteArray.mk #[OfNat.ofNat 59])) w16)

theorem Berrataref01_Int_run (n : Int) {W w : World} {R : List Own} {Φ : PW} [Stable Φ] {J : Value → World → Prop} (c : Ctx W w R Φ) (h : Berrataref01_Int n W R Φ J) : Calls Tryz.prog F.errataref01_Int #[.int .i64 n] w fun e w' => ∃ v, e = .returned v ∧ J v w' :=
  vcFS_sound (H := { keep := some [0, 2, 4] }) (by rw [show vcFS Tryz.prog W { keep := some [0, 2, 4] } F.errataref01_Int #[.int .i64 n] R Φ J = Berrataref01_Int n W R Φ J by kernel_rfl]; exact h) c

/-- errataref01.Num -/
def Berrataref01_Num (n : Int) (W : World) (R : List Own) (Φ : PW) (J : Value → World → Prop) : Prop :=
  Br (decide (n < 0)) (∀ (w0 : World) (R1 : List Own), Ctx W w0 (R ++ R1) Φ → J (Value.string (ByteArray.mk #[])) w0) (∀ (w2 : World) (R3 : List Own), Ctx W w2 (R ++ R3) Φ → Calls Tryz.prog
  F.errataref01_Int #[Value.int IntKind.i64 n] w2 fun (e4 : Ending) (w5 : World) => ∃ (s6 : ByteArray), e4 = Ending.returned (Value.string s6) ∧ ∃ (R7 : List Own), ∃ (Φ8 : PW), Stable Φ8 ∧
  Ctx W w5 (R7 ++ R3) Φ8 ∧ ∀ (w9 : World) (R10 : List Own), Ctx W w9 (R7 ++ R10) Φ8 → J (Value.string s6) w9)

theorem Berrataref01_Num_run (n : Int) {W w : World} {R : List Own} {Φ : PW} [Stable Φ] {J : Value → World → Prop} (c : Ctx W w R Φ) (h : Berrataref01_Num n W R Φ J) : Calls Tryz.prog F.errataref01_Num #[.int .i64 n] w fun e w' => ∃ v, e = .returned v ∧ J v w' :=
  vcFS_sound (H := { keep := some [0, 2, 4] }) (by rw [show vcFS Tryz.prog W { keep := some [0, 2, 4] } F.errataref01_Num #[.int .i64 n] R Φ J = Berrataref01_Num n W R Φ J by kernel_rfl]; exact h) c

/-- errataref01.Text -/
def Berrataref01_Text (s : ByteArray) (W : World) (R : List Own) (Φ : PW) (J : Value → World → Prop) : Prop :=
  I64 (0 - (↑s.size : Int)) ∧ ∀ (w0 : World) (R1 : List Own), Ctx W w0 (R ++ R1) Φ → Calls Tryz.prog F.errataref01_digits #[Value.int IntKind.i64 (0 - (↑s.size : Int))] w0 fun (e2 : Ending)
  (w3 : World) => ∃ (s4 : ByteArray), e2 = Ending.returned (Value.string s4) ∧ ∃ (R5 : List Own), ∃ (Φ6 : PW), Stable Φ6 ∧ Ctx W w3 (R5 ++ R1) Φ6 ∧ (s4.size + (ByteArray.mk #[OfNat.ofNat
  58]).size).le 9223372036854775807 ∧ ((s4 ++ ByteArray.mk #[OfNat.ofNat 58]).size + s.size).le 9223372036854775807 ∧ ((s4 ++ ByteArray.mk #[OfNat.ofNat 58] ++ s).size + (ByteArray.mk
  #[OfNat.ofNat 44]).size).le 9223372036854775807 ∧ ∀ (w7 : World) (R8 : List Own), Ctx W w7 (R5 ++ R8) Φ6 → J (Value.string (s4 ++ ByteArray.mk #[OfNat.ofNat 58] ++ s ++ ByteArray.mk
  #[OfNat.ofNat 44])) w7

theorem Berrataref01_Text_run (s : ByteArray) {W w : World} {R : List Own} {Φ : PW} [Stable Φ] {J : Value → World → Prop} (c : Ctx W w R Φ) (h : Berrataref01_Text s W R Φ J) : Calls Tryz.prog F.errataref01_Text #[.string s] w fun e w' => ∃ v, e = .returned v ∧ J v w' :=
  vcFS_sound (H := { keep := some [0, 2] }) (by rw [show vcFS Tryz.prog W { keep := some [0, 2] } F.errataref01_Text #[.string s] R Φ J = Berrataref01_Text s W R Φ J by kernel_rfl]; exact h) c

/-- errataref01.Open -/
def Berrataref01_Open (s : ByteArray) (W : World) (R : List Own) (Φ : PW) (J : Value → World → Prop) : Prop :=
  ∀ (k0 : Nat) (w1 : World) (R2 : List Own), Ctx W w1 (Own.blk k0 [Value.string s, Value.bool false] 93 :: R ++ R2) Φ → J (Value.pointer (some (Addr.mk k0 0 none))) w1

theorem Berrataref01_Open_run (s : ByteArray) {W w : World} {R : List Own} {Φ : PW} [Stable Φ] {J : Value → World → Prop} (c : Ctx W w R Φ) (h : Berrataref01_Open s W R Φ J) : Calls Tryz.prog F.errataref01_Open #[.string s] w fun e w' => ∃ v, e = .returned v ∧ J v w' :=
  vcFS_sound (H := { keep := some [0, 2] }) (by rw [show vcFS Tryz.prog W { keep := some [0, 2] } F.errataref01_Open #[.string s] R Φ J = Berrataref01_Open s W R Φ J by kernel_rfl]; exact h) c

/-- (*errataref01.Reader).Int -/
def Berrataref01_Reader_Int (rB rO : Nat) (W : World) (R : List Own) (Φ : PW) (J : Value → World → Prop) : Prop :=
  ∀ (w0 : World) (R1 : List Own), Ctx W w0 (R ++ R1) Φ → Calls Tryz.prog F.errataref01_Reader_ahead #[Value.pointer (some (Addr.mk rB rO none)), Value.int IntKind.u8 59] w0 fun (e2 : Ending)
  (w3 : World) => ∃ (n4 : Int), e2 = Ending.returned (Value.int IntKind.i64 n4) ∧ ∃ (R5 : List Own), ∃ (Φ6 : PW), Stable Φ6 ∧ Ctx W w3 (R5 ++ R1) Φ6 ∧ ∀ (w7 : World) (R8 : List Own), Ctx W w7
  (R5 ++ R8) Φ6 → J (Value.int IntKind.i64 n4) w7

theorem Berrataref01_Reader_Int_run (rB rO : Nat) {W w : World} {R : List Own} {Φ : PW} [Stable Φ] {J : Value → World → Prop} (c : Ctx W w R Φ) (h : Berrataref01_Reader_Int rB rO W R Φ J) : Calls Tryz.prog F.errataref01_Reader_Int #[.pointer (some ⟨rB, rO, none⟩)] w fun e w' => ∃ v, e = .returned v ∧ J v w' :=
  vcFS_sound (H := { keep := some [0, 2] }) (by rw [show vcFS Tryz.prog W { keep := some [0, 2] } F.errataref01_Reader_Int #[.pointer (some ⟨rB, rO, none⟩)] R Φ J = Berrataref01_Reader_Int rB rO W R Φ J by kernel_rfl]; exact h) c

/-- (*errataref01.Reader).Num -/
def Berrataref01_Reader_Num (rB rO : Nat) (W : World) (R : List Own) (Φ : PW) (J : Value → World → Prop) : Prop :=
  ∀ (w0 : World) (R1 : List Own), Ctx W w0 (R ++ R1) Φ → Calls Tryz.prog F.errataref01_Reader_number #[Value.pointer (some (Addr.mk rB rO none)), Value.int IntKind.u8 59] w0 fun (e2 : Ending)
  (w3 : World) => ∃ (n4 : Int), e2 = Ending.returned (Value.int IntKind.i64 n4) ∧ ∃ (R5 : List Own), ∃ (Φ6 : PW), Stable Φ6 ∧ Ctx W w3 (R5 ++ R1) Φ6 ∧ ∀ (w7 : World) (R8 : List Own), Ctx W w7
  (R5 ++ R8) Φ6 → J (Value.int IntKind.i64 n4) w7

theorem Berrataref01_Reader_Num_run (rB rO : Nat) {W w : World} {R : List Own} {Φ : PW} [Stable Φ] {J : Value → World → Prop} (c : Ctx W w R Φ) (h : Berrataref01_Reader_Num rB rO W R Φ J) : Calls Tryz.prog F.errataref01_Reader_Num #[.pointer (some ⟨rB, rO, none⟩)] w fun e w' => ∃ v, e = .returned v ∧ J v w' :=
  vcFS_sound (H := { keep := some [0, 2] }) (by rw [show vcFS Tryz.prog W { keep := some [0, 2] } F.errataref01_Reader_Num #[.pointer (some ⟨rB, rO, none⟩)] R Φ J = Berrataref01_Reader_Num rB rO W R Φ J by kernel_rfl]; exact h) c

/-- (*errataref01.Reader).Left -/
def Berrataref01_Reader_Left (rB rO : Nat) (W : World) (R : List Own) (Φ : PW) (J : Value → World → Prop) : Prop :=
  ∀ (w0 : World) (R1 : List Own), Ctx W w0 (R ++ R1) Φ → ∃ (s2 : ByteArray), w0.cell? (Addr.mk rB rO none) = some (Value.string s2) ∧ ∀ (w3 : World) (R4 : List Own), Ctx W w3 (R ++ R4) Φ → J
  (Value.int IntKind.i64 (↑s2.size : Int)) w3

theorem Berrataref01_Reader_Left_run (rB rO : Nat) {W w : World} {R : List Own} {Φ : PW} [Stable Φ] {J : Value → World → Prop} (c : Ctx W w R Φ) (h : Berrataref01_Reader_Left rB rO W R Φ J) : Calls Tryz.prog F.errataref01_Reader_Left #[.pointer (some ⟨rB, rO, none⟩)] w fun e w' => ∃ v, e = .returned v ∧ J v w' :=
  vcFS_sound (H := { keep := some [0, 2] }) (by rw [show vcFS Tryz.prog W { keep := some [0, 2] } F.errataref01_Reader_Left #[.pointer (some ⟨rB, rO, none⟩)] R Φ J = Berrataref01_Reader_Left rB rO W R Φ J by kernel_rfl]; exact h) c

/-- (*errataref01.Reader).Text -/
def Berrataref01_Reader_Text (rB rO : Nat) (W : World) (R : List Own) (Φ : PW) (J : Value → World → Prop) : Prop :=
  ∀ (w0 : World) (R1 : List Own), Ctx W w0 (R ++ R1) Φ → Calls Tryz.prog F.errataref01_Reader_number #[Value.pointer (some (Addr.mk rB rO none)), Value.int IntKind.u8 58] w0 fun (e2 : Ending)
  (w3 : World) => ∃ (n4 : Int), e2 = Ending.returned (Value.int IntKind.i64 n4) ∧ ∃ (R5 : List Own), ∃ (Φ6 : PW), Stable Φ6 ∧ Ctx W w3 (R5 ++ R1) Φ6 ∧ ∀ (w7 : World) (R8 : List Own), Ctx W w7
  (R5 ++ R8) Φ6 → ∃ (c9 : Bool), w7.cell? (Addr.mk rB (rO + 1) none) = some (Value.bool c9) ∧ ∃ (s10 : ByteArray), ((!c9) = true → w7.cell? (Addr.mk rB rO none) = some (Value.string s10)) ∧
  Br (c9 || decide ((↑s10.size : Int) ≤ n4)) (∀ (w11 : World) (R12 : List Own), Ctx W w11 (R5 ++ R12) Φ6 → Calls Tryz.prog F.errataref01_Reader_fail #[Value.pointer (some (Addr.mk rB rO
  none))] w11 fun (e13 : Ending) (w14 : World) => ∃ (n15 : Int), e13 = Ending.returned (Value.int IntKind.i64 n15) ∧ ∃ (R16 : List Own), ∃ (Φ17 : PW), Stable Φ17 ∧ Ctx W w14 (R16 ++ R12) Φ17
  ∧ ∀ (w18 : World) (R19 : List Own), Ctx W w18 (R16 ++ R19) Φ17 → J (Value.string (ByteArray.mk #[])) w18) (∀ (w20 : World) (R21 : List Own), Ctx W w20 (R5 ++ R21) Φ6 → ∃ (s22 : ByteArray),
  w20.cell? (Addr.mk rB rO none) = some (Value.string s22) ∧ (0 ≤ n4 ∧ n4 ≤ (↑s22.size : Int)) ∧ ∀ (w23 : World) (R24 : List Own), Ctx W w23 (R5 ++ R24) Φ6 → ∃ (s25 : ByteArray), w23.cell?
  (Addr.mk rB rO none) = some (Value.string s25) ∧ (0 ≤ n4 ∧ n4 ≤ (↑s25.size : Int) ∧ s25.size ≤ s25.size) ∧ ∀ (w26 : World) (R27 : List Own), Ctx W w26 (R5 ++ R27) Φ6 → CanWrite w26 rB rO 1
  ∧ ∀ (w28 : World), w28 = w26.setCell (Addr.mk rB rO none) (Value.string (s25.extract n4.toNat s25.size)) → ∃ (R29 : List Own), ∃ (Φ30 : PW), Stable Φ30 ∧ Ctx W w28 (R29 ++ R27) Φ30 ∧ ∀ (w31
  : World) (R32 : List Own), Ctx W w31 (R29 ++ R32) Φ30 → Calls Tryz.prog F.errataref01_Reader_close #[Value.pointer (some (Addr.mk rB rO none)), Value.int IntKind.u8 44] w31 fun (e33 :
  Ending) (w34 : World) => ∃ (c35 : Bool), e33 = Ending.returned (Value.bool c35) ∧ ∃ (R36 : List Own), ∃ (Φ37 : PW), Stable Φ37 ∧ Ctx W w34 (R36 ++ R32) Φ37 ∧ Br (!c35) (∀ (w38 : World) (R39
  : List Own), Ctx W w38 (R36 ++ R39) Φ37 → J (Value.string (ByteArray.mk #[])) w38) (∀ (w40 : World) (R41 : List Own), Ctx W w40 (R36 ++ R41) Φ37 → J (Value.string (s22.extract 0 n4.toNat))
  w40))

theorem Berrataref01_Reader_Text_run (rB rO : Nat) {W w : World} {R : List Own} {Φ : PW} [Stable Φ] {J : Value → World → Prop} (c : Ctx W w R Φ) (h : Berrataref01_Reader_Text rB rO W R Φ J) : Calls Tryz.prog F.errataref01_Reader_Text #[.pointer (some ⟨rB, rO, none⟩)] w fun e w' => ∃ v, e = .returned v ∧ J v w' :=
  vcFS_sound (H := { keep := some [0, 2, 3, 4, 19, 39] }) (by rw [show vcFS Tryz.prog W { keep := some [0, 2, 3, 4, 19, 39] } F.errataref01_Reader_Text #[.pointer (some ⟨rB, rO, none⟩)] R Φ J = Berrataref01_Reader_Text rB rO W R Φ J by kernel_rfl]; exact h) c

/-- (*errataref01.Reader).Done -/
def Berrataref01_Reader_Done (rB rO : Nat) (W : World) (R : List Own) (Φ : PW) (J : Value → World → Prop) : Prop :=
  ∀ (w0 : World) (R1 : List Own), Ctx W w0 (R ++ R1) Φ → ∃ (c2 : Bool), w0.cell? (Addr.mk rB (rO + 1) none) = some (Value.bool c2) ∧ ∃ (s3 : ByteArray), ((!c2) = true → w0.cell? (Addr.mk rB
  rO none) = some (Value.string s3)) ∧ ∀ (w4 : World) (R5 : List Own), Ctx W w4 (R ++ R5) Φ → J (Value.bool (!c2 && decide (s3 = ByteArray.mk #[]))) w4

theorem Berrataref01_Reader_Done_run (rB rO : Nat) {W w : World} {R : List Own} {Φ : PW} [Stable Φ] {J : Value → World → Prop} (c : Ctx W w R Φ) (h : Berrataref01_Reader_Done rB rO W R Φ J) : Calls Tryz.prog F.errataref01_Reader_Done #[.pointer (some ⟨rB, rO, none⟩)] w fun e w' => ∃ v, e = .returned v ∧ J v w' :=
  vcFS_sound (H := { keep := some [0, 2] }) (by rw [show vcFS Tryz.prog W { keep := some [0, 2] } F.errataref01_Reader_Done #[.pointer (some ⟨rB, rO, none⟩)] R Φ J = Berrataref01_Reader_Done rB rO W R Φ J by kernel_rfl]; exact h) c

/-- delta.Read -/
-- loop at region 4: 5 out, 15 ; blocks 
-- known blocks: 6 d
def Bdelta_Read (s : ByteArray) (W : World) (R : List Own) (Φ : PW) (J : Value → World → Prop) : Prop :=
  ∀ (w0 : World) (R1 : List Own), Ctx W w0 (R ++ R1) Φ → Calls Tryz.prog F.wire_Open #[Value.string s] w0 fun (e2 : Ending) (w3 : World) => ∃ (p4 : Option Addr), e2 = Ending.returned
  (Value.pointer p4) ∧ ∃ (R5 : List Own), ∃ (Φ6 : PW), Stable Φ6 ∧ Ctx W w3 (R5 ++ R1) Φ6 ∧ ∀ (w7 : World) (R8 : List Own), Ctx W w7 (R5 ++ R8) Φ6 → Calls Tryz.prog F.wire_Reader_Num
  #[Value.pointer p4] w7 fun (e9 : Ending) (w10 : World) => ∃ (n11 : Int), e9 = Ending.returned (Value.int IntKind.i64 n11) ∧ ∃ (R12 : List Own), ∃ (Φ13 : PW), Stable Φ13 ∧ Ctx W w10 (R12 ++
  R8) Φ13 ∧ exI fun (I14 : Option Addr → Nat → Nat → Int → List Own → PW → Nat → Prop) => (∃ (R15 : List Own), ∃ (Φ16 : PW), ∃ (k17 : Nat), Stable Φ16 ∧ (∀ (w18 : World) (R19 : List Own), Ctx
  W w18 (R12 ++ R19) Φ13 → Ctx W w18 (R15 ++ R19) Φ16) ∧ I14 none 0 0 0 R15 Φ16 k17) ∧ ∀ (p20 : Option Addr) (k21 k22 : Nat) (n23 : Int) (R24 : List Own) (I25 : List Nat → World → Prop) (k26
  : Nat), Stable I25 → I14 p20 k21 k22 n23 R24 I25 k26 → Br (decide (n23 < min n11 (↑s.size : Int))) (∀ (w27 : World) (R28 : List Own), Ctx W w27 (R24 ++ R28) I25 → Calls Tryz.prog
  F.wire_Reader_Int #[Value.pointer p4] w27 fun (e29 : Ending) (w30 : World) => ∃ (n31 : Int), e29 = Ending.returned (Value.int IntKind.i64 n31) ∧ ∃ (R32 : List Own), ∃ (Φ33 : PW), Stable Φ33
  ∧ Ctx W w30 (R32 ++ R28) Φ33 ∧ ∀ (b : Nat) (w34 : World) (R35 : List Own), Ctx W w34 (R32 ++ R35) Φ33 → Calls Tryz.prog F.wire_Reader_Text #[Value.pointer p4] w34 fun (e36 : Ending) (w37 :
  World) => ∃ (s38 : ByteArray), e36 = Ending.returned (Value.string s38) ∧ ∃ (R39 : List Own), ∃ (Φ40 : PW), Stable Φ40 ∧ Ctx W w37 (R39 ++ R35) Φ40 ∧ ∀ (w41 : World) (R42 : List Own), Ctx W
  w41 (R39 ++ R42) Φ40 → Calls Tryz.prog F.value_ReadRow #[Value.string s38] w41 fun (e43 : Ending) (w44 : World) => ∃ (p45 : Option Addr), ∃ (k46 : Nat), ∃ (k47 : Nat), ∃ (c48 : Bool), e43 =
  Ending.returned (Value.tuple #[Value.slice p45 k46 k47, Value.bool c48]) ∧ ∃ (R49 : List Own), ∃ (Φ50 : PW), Stable Φ50 ∧ Ctx W w44 (R49 ++ R42) Φ50 ∧ Br (!c48) (∀ (w51 : World) (R52 : List
  Own), Ctx W w51 (R49 ++ R52) Φ50 → J (Value.tuple #[Value.slice none 0 0, Value.bool false]) w51) (∀ (w53 : World) (R54 : List Own), Ctx W w53 (R49 ++ R54) Φ50 → Calls Tryz.prog
  F.wire_Reader_Int #[Value.pointer p4] w53 fun (e55 : Ending) (w56 : World) => ∃ (n57 : Int), e55 = Ending.returned (Value.int IntKind.i64 n57) ∧ ∃ (R58 : List Own), ∃ (Φ59 : PW), Stable Φ59
  ∧ Ctx W w56 (R58 ++ R54) Φ59 ∧ ∀ (k60 : Nat) (w61 : World) (R62 : List Own), Ctx W w61 (Own.blk k60 [Value.int IntKind.i64 n31, Value.slice p45 k46 k47, Value.int IntKind.i64 n57] 62 :: R58
  ++ R62) Φ59 → ∃ (p63 : Option Addr), ∃ (k64 : Nat), ∃ (k65 : Nat), ∃ (w66 : World), Sem.run Tryz.prog (builtin Builtin.append #[30, 30] 30 #[false, false] #[Value.slice p20 k21 k22,
  Value.slice (some (Addr.mk k60 0 none)) 1 1]) w61 = Result.ok (Next.value (Value.slice p63 k64 k65)) w66 ∧ ∃ (R67 : List Own), ∃ (Φ68 : PW), Stable Φ68 ∧ Ctx W w66 (R67 ++ R62) Φ68 ∧ I64
  (n23 + 1) ∧ ∃ (R69 : List Own), ∃ (Φ70 : PW), ∃ (k71 : Nat), Stable Φ70 ∧ (∀ (w72 : World) (R73 : List Own), Ctx W w72 (R67 ++ R73) Φ68 → Ctx W w72 (R69 ++ R73) Φ70) ∧ I14 p63 k64 k65 (n23
  + 1) R69 Φ70 k71 ∧ k71 < k26)) (∀ (w74 : World) (R75 : List Own), Ctx W w74 (R24 ++ R75) I25 → Calls Tryz.prog F.delta_Consolidated #[Value.slice p20 k21 k22] w74 fun (e76 : Ending) (w77 :
  World) => ∃ (c78 : Bool), e76 = Ending.returned (Value.bool c78) ∧ ∃ (R79 : List Own), ∃ (Φ80 : PW), Stable Φ80 ∧ Ctx W w77 (R79 ++ R75) Φ80 ∧ Br (!c78) (∀ (w81 : World) (R82 : List Own),
  Ctx W w81 (R79 ++ R82) Φ80 → J (Value.tuple #[Value.slice none 0 0, Value.bool false]) w81) (∀ (w83 : World) (R84 : List Own), Ctx W w83 (R79 ++ R84) Φ80 → Calls Tryz.prog F.delta_Bytes
  #[Value.slice p20 k21 k22] w83 fun (e85 : Ending) (w86 : World) => ∃ (s87 : ByteArray), e85 = Ending.returned (Value.string s87) ∧ ∃ (R88 : List Own), ∃ (Φ89 : PW), Stable Φ89 ∧ Ctx W w86
  (R88 ++ R84) Φ89 ∧ Br (decide (s87 ≠ s)) (∀ (w90 : World) (R91 : List Own), Ctx W w90 (R88 ++ R91) Φ89 → J (Value.tuple #[Value.slice none 0 0, Value.bool false]) w90) (∀ (w92 : World) (R93
  : List Own), Ctx W w92 (R88 ++ R93) Φ89 → J (Value.tuple #[Value.slice p20 k21 k22, Value.bool true]) w92)))

theorem Bdelta_Read_run (s : ByteArray) {W w : World} {R : List Own} {Φ : PW} [Stable Φ] {J : Value → World → Prop} (c : Ctx W w R Φ) (h : Bdelta_Read s W R Φ J) : Calls Tryz.prog F.delta_Read #[.string s] w fun e w' => ∃ v, e = .returned v ∧ J v w' :=
  vcFS_sound (H := { keep := some [0, 2, 3, 4, 5, 6, 7, 14, 15, 16, 28, 45], track := [6], split := [13], loops := [(4, [(5, .one (.slice)), (15, .one (.int .i64))], [])] }) (by rw [show vcFS Tryz.prog W { keep := some [0, 2, 3, 4, 5, 6, 7, 14, 15, 16, 28, 45], track := [6], split := [13], loops := [(4, [(5, .one (.slice)), (15, .one (.int .i64))], [])] } F.delta_Read #[.string s] R Φ J = Bdelta_Read s W R Φ J by kernel_rfl]; exact h) c

/-- errataref28.Read -/
-- loop at region 5: 6 out, 7 i; blocks 
-- known blocks: 8 d
def Berrataref28_Read (s : ByteArray) (W : World) (R : List Own) (Φ : PW) (J : Value → World → Prop) : Prop :=
  ∀ (w0 : World) (R1 : List Own), Ctx W w0 (R ++ R1) Φ → Calls Tryz.prog F.errataref01_Open #[Value.string s] w0 fun (e2 : Ending) (w3 : World) => ∃ (p4 : Option Addr), e2 = Ending.returned
  (Value.pointer p4) ∧ ∃ (R5 : List Own), ∃ (Φ6 : PW), Stable Φ6 ∧ Ctx W w3 (R5 ++ R1) Φ6 ∧ ∀ (w7 : World) (R8 : List Own), Ctx W w7 (R5 ++ R8) Φ6 → Calls Tryz.prog F.errataref01_Reader_Num
  #[Value.pointer p4] w7 fun (e9 : Ending) (w10 : World) => ∃ (n11 : Int), e9 = Ending.returned (Value.int IntKind.i64 n11) ∧ ∃ (R12 : List Own), ∃ (Φ13 : PW), Stable Φ13 ∧ Ctx W w10 (R12 ++
  R8) Φ13 ∧ exI fun (I14 : Option Addr → Nat → Nat → Int → List Own → PW → Nat → Prop) => (∃ (R15 : List Own), ∃ (Φ16 : PW), ∃ (k17 : Nat), Stable Φ16 ∧ (∀ (w18 : World) (R19 : List Own), Ctx
  W w18 (R12 ++ R19) Φ13 → Ctx W w18 (R15 ++ R19) Φ16) ∧ I14 none 0 0 0 R15 Φ16 k17) ∧ ∀ (p20 : Option Addr) (k21 k22 : Nat) (n23 : Int) (R24 : List Own) (I25 : List Nat → World → Prop) (k26
  : Nat), Stable I25 → I14 p20 k21 k22 n23 R24 I25 k26 → ∀ (w27 : World) (R28 : List Own), Ctx W w27 (R24 ++ R28) I25 → Br (decide (n23 < n11) && decide (n23 ≤ (↑s.size : Int))) (∀ (w29 :
  World) (R30 : List Own), Ctx W w29 (R24 ++ R30) I25 → Calls Tryz.prog F.errataref01_Reader_Int #[Value.pointer p4] w29 fun (e31 : Ending) (w32 : World) => ∃ (n33 : Int), e31 =
  Ending.returned (Value.int IntKind.i64 n33) ∧ ∃ (R34 : List Own), ∃ (Φ35 : PW), Stable Φ35 ∧ Ctx W w32 (R34 ++ R30) Φ35 ∧ ∀ (b : Nat) (w36 : World) (R37 : List Own), Ctx W w36 (R34 ++ R37)
  Φ35 → Calls Tryz.prog F.errataref01_Reader_Text #[Value.pointer p4] w36 fun (e38 : Ending) (w39 : World) => ∃ (s40 : ByteArray), e38 = Ending.returned (Value.string s40) ∧ ∃ (R41 : List
  Own), ∃ (Φ42 : PW), Stable Φ42 ∧ Ctx W w39 (R41 ++ R37) Φ42 ∧ ∀ (w43 : World) (R44 : List Own), Ctx W w43 (R41 ++ R44) Φ42 → Calls Tryz.prog F.errataref03_ReadRow #[Value.string s40] w43
  fun (e45 : Ending) (w46 : World) => ∃ (p47 : Option Addr), ∃ (k48 : Nat), ∃ (k49 : Nat), ∃ (c50 : Bool), e45 = Ending.returned (Value.tuple #[Value.slice p47 k48 k49, Value.bool c50]) ∧ ∃
  (R51 : List Own), ∃ (Φ52 : PW), Stable Φ52 ∧ Ctx W w46 (R51 ++ R44) Φ52 ∧ Br (!c50) (∀ (w53 : World) (R54 : List Own), Ctx W w53 (R51 ++ R54) Φ52 → J (Value.tuple #[Value.slice none 0 0,
  Value.bool false]) w53) (∀ (w55 : World) (R56 : List Own), Ctx W w55 (R51 ++ R56) Φ52 → Calls Tryz.prog F.errataref01_Reader_Int #[Value.pointer p4] w55 fun (e57 : Ending) (w58 : World) =>
  ∃ (n59 : Int), e57 = Ending.returned (Value.int IntKind.i64 n59) ∧ ∃ (R60 : List Own), ∃ (Φ61 : PW), Stable Φ61 ∧ Ctx W w58 (R60 ++ R56) Φ61 ∧ ∀ (k62 : Nat) (w63 : World) (R64 : List Own),
  Ctx W w63 (Own.blk k62 [Value.int IntKind.i64 n33, Value.slice p47 k48 k49, Value.int IntKind.i64 n59] 62 :: R60 ++ R64) Φ61 → ∃ (p65 : Option Addr), ∃ (k66 : Nat), ∃ (k67 : Nat), ∃ (w68 :
  World), Sem.run Tryz.prog (builtin Builtin.append #[30, 30] 30 #[false, false] #[Value.slice p20 k21 k22, Value.slice (some (Addr.mk k62 0 none)) 1 1]) w63 = Result.ok (Next.value
  (Value.slice p65 k66 k67)) w68 ∧ ∃ (R69 : List Own), ∃ (Φ70 : PW), Stable Φ70 ∧ Ctx W w68 (R69 ++ R64) Φ70 ∧ I64 (n23 + 1) ∧ ∃ (R71 : List Own), ∃ (Φ72 : PW), ∃ (k73 : Nat), Stable Φ72 ∧ (∀
  (w74 : World) (R75 : List Own), Ctx W w74 (R69 ++ R75) Φ70 → Ctx W w74 (R71 ++ R75) Φ72) ∧ I14 p65 k66 k67 (n23 + 1) R71 Φ72 k73 ∧ k73 < k26)) (∀ (w76 : World) (R77 : List Own), Ctx W w76
  (R24 ++ R77) I25 → Calls Tryz.prog F.errataref28_Consolidated #[Value.slice p20 k21 k22] w76 fun (e78 : Ending) (w79 : World) => ∃ (c80 : Bool), e78 = Ending.returned (Value.bool c80) ∧ ∃
  (R81 : List Own), ∃ (Φ82 : PW), Stable Φ82 ∧ Ctx W w79 (R81 ++ R77) Φ82 ∧ Br (!c80) (∀ (w83 : World) (R84 : List Own), Ctx W w83 (R81 ++ R84) Φ82 → J (Value.tuple #[Value.slice none 0 0,
  Value.bool false]) w83) (∀ (w85 : World) (R86 : List Own), Ctx W w85 (R81 ++ R86) Φ82 → Calls Tryz.prog F.errataref28_Bytes #[Value.slice p20 k21 k22] w85 fun (e87 : Ending) (w88 : World)
  => ∃ (s89 : ByteArray), e87 = Ending.returned (Value.string s89) ∧ ∃ (R90 : List Own), ∃ (Φ91 : PW), Stable Φ91 ∧ Ctx W w88 (R90 ++ R86) Φ91 ∧ Br (decide (s89 ≠ s)) (∀ (w92 : World) (R93 :
  List Own), Ctx W w92 (R90 ++ R93) Φ91 → J (Value.tuple #[Value.slice none 0 0, Value.bool false]) w92) (∀ (w94 : World) (R95 : List Own), Ctx W w94 (R90 ++ R95) Φ91 → J (Value.tuple
  #[Value.slice p20 k21 k22, Value.bool true]) w94)))

theorem Berrataref28_Read_run (s : ByteArray) {W w : World} {R : List Own} {Φ : PW} [Stable Φ] {J : Value → World → Prop} (c : Ctx W w R Φ) (h : Berrataref28_Read s W R Φ J) : Calls Tryz.prog F.errataref28_Read #[.string s] w fun e w' => ∃ v, e = .returned v ∧ J v w' :=
  vcFS_sound (H := { keep := some [0, 2, 3, 4, 5, 6, 7, 8, 9, 10, 23, 36, 54], track := [8], split := [14], loops := [(5, [(6, .one (.slice)), (7, .one (.int .i64))], [])] }) (by rw [show vcFS Tryz.prog W { keep := some [0, 2, 3, 4, 5, 6, 7, 8, 9, 10, 23, 36, 54], track := [8], split := [14], loops := [(5, [(6, .one (.slice)), (7, .one (.int .i64))], [])] } F.errataref28_Read #[.string s] R Φ J = Berrataref28_Read s W R Φ J by kernel_rfl]; exact h) c

/-- delta.Bytes -/
-- loop at region 5: 15 ; blocks 
-- known blocks: 6 d
def Bdelta_Bytes (lP : Option Addr) (lN lC : Nat) (W : World) (R : List Own) (Φ : PW) (J : Value → World → Prop) : Prop :=
  ∀ (w0 : World) (R1 : List Own), Ctx W w0 (R ++ R1) Φ → Calls Tryz.prog F.delta_Consolidate #[Value.slice lP lN lC] w0 fun (e2 : Ending) (w3 : World) => ∃ (p4 : Option Addr), ∃ (k5 : Nat), ∃
  (k6 : Nat), e2 = Ending.returned (Value.slice p4 k5 k6) ∧ ∃ (R7 : List Own), ∃ (Φ8 : PW), Stable Φ8 ∧ Ctx W w3 (R7 ++ R1) Φ8 ∧ ∀ (k9 : Nat) (w10 : World) (R11 : List Own), Ctx W w10
  (Own.blk k9 [Value.pointer none, Value.slice none 0 0] 102 :: R7 ++ R11) Φ8 → Calls Tryz.prog F.wire_Num #[Value.int IntKind.i64 (↑k5 : Int)] w10 fun (e12 : Ending) (w13 : World) => ∃ (s14
  : ByteArray), e12 = Ending.returned (Value.string s14) ∧ ∃ (R15 : List Own), ∃ (Φ16 : PW), Stable Φ16 ∧ Ctx W w13 (R15 ++ R11) Φ16 ∧ ∀ (w17 : World) (R18 : List Own), Ctx W w17 (R15 ++ R18)
  Φ16 → Calls Tryz.prog F.strings_Builder_WriteString #[Value.pointer (some (Addr.mk k9 0 none)), Value.string s14] w17 fun (e19 : Ending) (w20 : World) => ∃ (n21 : Int), ∃ (v22 : Value), e19
  = Ending.returned (Value.tuple #[Value.int IntKind.i64 n21, v22]) ∧ ∃ (R23 : List Own), ∃ (Φ24 : PW), Stable Φ24 ∧ Ctx W w20 (R23 ++ R18) Φ24 ∧ exI fun (I25 : Int → List Own → PW → Nat →
  Prop) => (∃ (R26 : List Own), ∃ (Φ27 : PW), ∃ (k28 : Nat), Stable Φ27 ∧ (∀ (w29 : World) (R30 : List Own), Ctx W w29 (R23 ++ R30) Φ24 → Ctx W w29 (R26 ++ R30) Φ27) ∧ I25 0 R26 Φ27 k28) ∧ ∀
  (n31 : Int) (R32 : List Own) (I33 : List Nat → World → Prop) (k34 : Nat), Stable I33 → I25 n31 R32 I33 k34 → Br (decide (n31 < (↑k5 : Int))) ((0 ≤ n31 ∧ n31 < (↑k5 : Int)) ∧ ptrK none p4
  fun (k35 k36 : Nat) => ∀ (w37 : World) (R38 : List Own), Ctx W w37 (R32 ++ R38) I33 → ∃ (n39 : Int), ∃ (p40 : Option Addr), ∃ (k41 : Nat), ∃ (k42 : Nat), ∃ (n43 : Int), RowAt w37 k35 (k36 +
  n31.toNat * 3) [Value.int IntKind.i64 n39, Value.slice p40 k41 k42, Value.int IntKind.i64 n43] ∧ ∀ (b : Nat), ∃ (R44 : List Own), ∃ (Φ45 : PW), Stable Φ45 ∧ (∀ (w46 : World) (R47 : List
  Own), Ctx W w46 (R32 ++ R47) I33 → Ctx W w46 (R44 ++ R47) Φ45) ∧ ∀ (w48 : World) (R49 : List Own), Ctx W w48 (R32 ++ R49) I33 → Calls Tryz.prog F.wire_Int #[Value.int IntKind.i64 n39] w48
  fun (e50 : Ending) (w51 : World) => ∃ (s52 : ByteArray), e50 = Ending.returned (Value.string s52) ∧ ∃ (R53 : List Own), ∃ (Φ54 : PW), Stable Φ54 ∧ Ctx W w51 (R53 ++ R49) Φ54 ∧ (∀ (w55 :
  World) (R56 : List Own), Ctx W w55 (R53 ++ R56) Φ54 → Ctx W w55 (R44 ++ R56) Φ45) ∧ ∀ (w57 : World) (R58 : List Own), Ctx W w57 (R53 ++ R58) Φ54 → Calls Tryz.prog F.value_RowBytes
  #[Value.slice p40 k41 k42] w57 fun (e59 : Ending) (w60 : World) => ∃ (s61 : ByteArray), e59 = Ending.returned (Value.string s61) ∧ ∃ (R62 : List Own), ∃ (Φ63 : PW), Stable Φ63 ∧ Ctx W w60
  (R62 ++ R58) Φ63 ∧ (∀ (w64 : World) (R65 : List Own), Ctx W w64 (R62 ++ R65) Φ63 → Ctx W w64 (R44 ++ R65) Φ45) ∧ ∀ (w66 : World) (R67 : List Own), Ctx W w66 (R62 ++ R67) Φ63 → Calls
  Tryz.prog F.wire_Text #[Value.string s61] w66 fun (e68 : Ending) (w69 : World) => ∃ (s70 : ByteArray), e68 = Ending.returned (Value.string s70) ∧ ∃ (R71 : List Own), ∃ (Φ72 : PW), Stable
  Φ72 ∧ Ctx W w69 (R71 ++ R67) Φ72 ∧ (∀ (w73 : World) (R74 : List Own), Ctx W w73 (R71 ++ R74) Φ72 → Ctx W w73 (R44 ++ R74) Φ45) ∧ (s52.size + s70.size).le 9223372036854775807 ∧ ∀ (w75 :
  World) (R76 : List Own), Ctx W w75 (R71 ++ R76) Φ72 → Calls Tryz.prog F.wire_Int #[Value.int IntKind.i64 n43] w75 fun (e77 : Ending) (w78 : World) => ∃ (s79 : ByteArray), e77 =
  Ending.returned (Value.string s79) ∧ ∃ (R80 : List Own), ∃ (Φ81 : PW), Stable Φ81 ∧ Ctx W w78 (R80 ++ R76) Φ81 ∧ (∀ (w82 : World) (R83 : List Own), Ctx W w82 (R80 ++ R83) Φ81 → Ctx W w82
  (R44 ++ R83) Φ45) ∧ ((s52 ++ s70).size + s79.size).le 9223372036854775807 ∧ ∀ (w84 : World) (R85 : List Own), Ctx W w84 (R80 ++ R85) Φ81 → Calls Tryz.prog F.strings_Builder_WriteString
  #[Value.pointer (some (Addr.mk k9 0 none)), Value.string (s52 ++ s70 ++ s79)] w84 fun (e86 : Ending) (w87 : World) => ∃ (n88 : Int), ∃ (v89 : Value), e86 = Ending.returned (Value.tuple
  #[Value.int IntKind.i64 n88, v89]) ∧ ∃ (R90 : List Own), ∃ (Φ91 : PW), Stable Φ91 ∧ Ctx W w87 (R90 ++ R85) Φ91 ∧ I64 (n31 + 1) ∧ ∃ (R92 : List Own), ∃ (Φ93 : PW), ∃ (k94 : Nat), Stable Φ93
  ∧ (∀ (w95 : World) (R96 : List Own), Ctx W w95 (R90 ++ R96) Φ91 → Ctx W w95 (R92 ++ R96) Φ93) ∧ I25 (n31 + 1) R92 Φ93 k94 ∧ k94 < k34) (∀ (w97 : World) (R98 : List Own), Ctx W w97 (R32 ++
  R98) I33 → Calls Tryz.prog F.strings_Builder_String #[Value.pointer (some (Addr.mk k9 0 none))] w97 fun (e99 : Ending) (w100 : World) => ∃ (s101 : ByteArray), e99 = Ending.returned
  (Value.string s101) ∧ ∃ (R102 : List Own), ∃ (Φ103 : PW), Stable Φ103 ∧ Ctx W w100 (R102 ++ R98) Φ103 ∧ ∀ (w104 : World) (R105 : List Own), Ctx W w104 (R102 ++ R105) Φ103 → J (Value.string
  s101) w104)

theorem Bdelta_Bytes_run (lP : Option Addr) (lN lC : Nat) {W w : World} {R : List Own} {Φ : PW} [Stable Φ] {J : Value → World → Prop} (c : Ctx W w R Φ) (h : Bdelta_Bytes lP lN lC W R Φ J) : Calls Tryz.prog F.delta_Bytes #[.slice lP lN lC] w fun e w' => ∃ v, e = .returned v ∧ J v w' :=
  vcFS_sound (H := { keep := some [0, 2, 3, 4, 6, 13, 14, 15, 16], track := [6], stages := [(7, [.held [(0, true), (3, true), (8, true), (1, true), (4, true), (9, true), (2, false), (5, false), (6, false), (7, true), (10, false)], .stage [11] (some 12)])], loops := [(5, [(15, .one (.int .i64))], [])] }) (by rw [show vcFS Tryz.prog W { keep := some [0, 2, 3, 4, 6, 13, 14, 15, 16], track := [6], stages := [(7, [.held [(0, true), (3, true), (8, true), (1, true), (4, true), (9, true), (2, false), (5, false), (6, false), (7, true), (10, false)], .stage [11] (some 12)])], loops := [(5, [(15, .one (.int .i64))], [])] } F.delta_Bytes #[.slice lP lN lC] R Φ J = Bdelta_Bytes lP lN lC W R Φ J by kernel_rfl]; exact h) c

/-- slices.IndexFunc[[]api.Delta,api.Delta] -/
-- loop at region 2: 8 ; blocks 
def Bslices_IndexFunc_api_Delta_api_Delta (sP : Option Addr) (sN sC : Nat) (fF : FuncId) (fC : Array Value) (W : World) (R : List Own) (Φ : PW) (J : Value → World → Prop) : Prop :=
  exI fun (I0 : Int → List Own → PW → Nat → Prop) => (∃ (R1 : List Own), ∃ (Φ2 : PW), ∃ (k3 : Nat), Stable Φ2 ∧ (∀ (w4 : World) (R5 : List Own), Ctx W w4 (R ++ R5) Φ → Ctx W w4 (R1 ++ R5) Φ2)
  ∧ I0 0 R1 Φ2 k3) ∧ ∀ (n6 : Int) (R7 : List Own) (I8 : List Nat → World → Prop) (k9 : Nat), Stable I8 → I0 n6 R7 I8 k9 → Br (decide (n6 < (↑sN : Int))) ((0 ≤ n6 ∧ n6 < (↑sN : Int)) ∧ ptrK
  none sP fun (k10 k11 : Nat) => ∀ (w12 : World) (R13 : List Own), Ctx W w12 (R7 ++ R13) I8 → ∃ (n14 : Int), ∃ (p15 : Option Addr), ∃ (k16 : Nat), ∃ (k17 : Nat), ∃ (n18 : Int), RowAt w12 k10
  (k11 + n6.toNat * 3) [Value.int IntKind.i64 n14, Value.slice p15 k16 k17, Value.int IntKind.i64 n18] ∧ ∀ (w19 : World) (R20 : List Own), Ctx W w19 (R7 ++ R20) I8 → okFun Tryz.prog fF = true
  ∧ Calls Tryz.prog fF (Array.mk (Value.agg #[Value.int IntKind.i64 n14, Value.slice p15 k16 k17, Value.int IntKind.i64 n18] :: fC.toList)) w19 fun (e21 : Ending) (w22 : World) => ∃ (c23 :
  Bool), e21 = Ending.returned (Value.bool c23) ∧ ∃ (R24 : List Own), ∃ (Φ25 : PW), Stable Φ25 ∧ Ctx W w22 (R24 ++ R20) Φ25 ∧ Br c23 (∀ (w26 : World) (R27 : List Own), Ctx W w26 (R24 ++ R27)
  Φ25 → J (Value.int IntKind.i64 n6) w26) (I64 (n6 + 1) ∧ ∃ (R28 : List Own), ∃ (Φ29 : PW), ∃ (k30 : Nat), Stable Φ29 ∧ (∀ (w31 : World) (R32 : List Own), Ctx W w31 (R24 ++ R32) Φ25 → Ctx W
  w31 (R28 ++ R32) Φ29) ∧ I0 (n6 + 1) R28 Φ29 k30 ∧ k30 < k9)) (∀ (w33 : World) (R34 : List Own), Ctx W w33 (R7 ++ R34) I8 → J (Value.int IntKind.i64 (-1)) w33)

theorem Bslices_IndexFunc_api_Delta_api_Delta_run (sP : Option Addr) (sN sC : Nat) (fF : FuncId) (fC : Array Value) {W w : World} {R : List Own} {Φ : PW} [Stable Φ] {J : Value → World → Prop} (c : Ctx W w R Φ) (h : Bslices_IndexFunc_api_Delta_api_Delta sP sN sC fF fC W R Φ J) : Calls Tryz.prog F.slices_IndexFunc_api_Delta_api_Delta #[.slice sP sN sC, .func (.func fF) #[] fC] w fun e w' => ∃ v, e = .returned v ∧ J v w' :=
  vcFS_sound (H := { keep := some [0, 1, 4, 5, 7, 8, 9, 16], wrap := [16], loops := [(2, [(8, .one (.int .i64))], [])] }) (by rw [show vcFS Tryz.prog W { keep := some [0, 1, 4, 5, 7, 8, 9, 16], wrap := [16], loops := [(2, [(8, .one (.int .i64))], [])] } F.slices_IndexFunc_api_Delta_api_Delta #[.slice sP sN sC, .func (.func fF) #[] fC] R Φ J = Bslices_IndexFunc_api_Delta_api_Delta sP sN sC fF fC W R Φ J by kernel_rfl]; exact h) c

/-- errataref28.Compare -/
-- known blocks: 2 a, 3 b
def Berrataref28_Compare (a0 : Int) (a1P : Option Addr) (a1N a1C : Nat) (a2 : Int) (b0 : Int) (b1P : Option Addr) (b1N b1C : Nat) (b2 : Int) (W : World) (R : List Own) (Φ : PW) (J : Value → World → Prop) : Prop :=
  ∀ (b b : Nat), Br (decide (a0 < b0)) (∀ (w0 : World) (R1 : List Own), Ctx W w0 (R ++ R1) Φ → J (Value.int IntKind.i64 (-1)) w0) (Br (decide (b0 < a0)) (∀ (w2 : World) (R3 : List Own), Ctx W
  w2 (R ++ R3) Φ → J (Value.int IntKind.i64 1) w2) (∀ (w4 : World) (R5 : List Own), Ctx W w4 (R ++ R5) Φ → Calls Tryz.prog F.errataref03_CompareRows #[Value.slice a1P a1N a1C, Value.slice b1P
  b1N b1C] w4 fun (e6 : Ending) (w7 : World) => ∃ (n8 : Int), e6 = Ending.returned (Value.int IntKind.i64 n8) ∧ ∃ (R9 : List Own), ∃ (Φ10 : PW), Stable Φ10 ∧ Ctx W w7 (R9 ++ R5) Φ10 ∧ ∀ (w11
  : World) (R12 : List Own), Ctx W w11 (R9 ++ R12) Φ10 → J (Value.int IntKind.i64 n8) w11))

theorem Berrataref28_Compare_run (a0 : Int) (a1P : Option Addr) (a1N a1C : Nat) (a2 : Int) (b0 : Int) (b1P : Option Addr) (b1N b1C : Nat) (b2 : Int) {W w : World} {R : List Own} {Φ : PW} [Stable Φ] {J : Value → World → Prop} (c : Ctx W w R Φ) (h : Berrataref28_Compare a0 a1P a1N a1C a2 b0 b1P b1N b1C b2 W R Φ J) : Calls Tryz.prog F.errataref28_Compare #[.agg #[.int .i64 a0, .slice a1P a1N a1C, .int .i64 a2], .agg #[.int .i64 b0, .slice b1P b1N b1C, .int .i64 b2]] w fun e w' => ∃ v, e = .returned v ∧ J v w' :=
  vcFS_sound (H := { keep := some [2, 3, 4, 9, 14], track := [2, 3] }) (by rw [show vcFS Tryz.prog W { keep := some [2, 3, 4, 9, 14], track := [2, 3] } F.errataref28_Compare #[.agg #[.int .i64 a0, .slice a1P a1N a1C, .int .i64 a2], .agg #[.int .i64 b0, .slice b1P b1N b1C, .int .i64 b2]] R Φ J = Berrataref28_Compare a0 a1P a1N a1C a2 b0 b1P b1N b1C b2 W R Φ J by kernel_rfl]; exact h) c

/-- errataref01.digits -/
def Berrataref01_digits (n : Int) (W : World) (R : List Own) (Φ : PW) (J : Value → World → Prop) : Prop :=
  ((10 : Int) = 0 → False) ∧ I64 (48 - n.tmod 10) ∧ ∀ (k0 : Nat) (w1 : World) (R2 : List Own), Ctx W w1 (Own.blk k0 [Value.int IntKind.u8 (IntKind.u8.wrap (48 - n.tmod 10))] 5 :: R ++ R2) Φ →
  ∃ (s3 : ByteArray), ∃ (w4 : World), Sem.run Tryz.prog (convert 100 9 (Value.slice (some (Addr.mk k0 0 none)) 1 1)) w1 = Result.ok (Value.string s3) w4 ∧ ∃ (R5 : List Own), ∃ (Φ6 : PW),
  Stable Φ6 ∧ Ctx W w4 (R5 ++ R2) Φ6 ∧ Br (decide (-10 < n)) (∀ (w7 : World) (R8 : List Own), Ctx W w7 (R5 ++ R8) Φ6 → J (Value.string s3) w7) (((10 : Int) = 0 → False) ∧ I64 (n.tdiv 10) ∧ ∀
  (w9 : World) (R10 : List Own), Ctx W w9 (R5 ++ R10) Φ6 → Calls Tryz.prog F.errataref01_digits #[Value.int IntKind.i64 (n.tdiv 10)] w9 fun (e11 : Ending) (w12 : World) => ∃ (s13 :
  ByteArray), e11 = Ending.returned (Value.string s13) ∧ ∃ (R14 : List Own), ∃ (Φ15 : PW), Stable Φ15 ∧ Ctx W w12 (R14 ++ R10) Φ15 ∧ (s13.size + s3.size).le 9223372036854775807 ∧ ∀ (w16 :
  World) (R17 : List Own), Ctx W w16 (R14 ++ R17) Φ15 → J (Value.string (s13 ++ s3)) w16)

theorem Berrataref01_digits_run (n : Int) {W w : World} {R : List Own} {Φ : PW} [Stable Φ] {J : Value → World → Prop} (c : Ctx W w R Φ) (h : Berrataref01_digits n W R Φ J) : Calls Tryz.prog F.errataref01_digits #[.int .i64 n] w fun e w' => ∃ v, e = .returned v ∧ J v w' :=
  vcFS_sound (H := { keep := some [0, 2, 3, 11] }) (by rw [show vcFS Tryz.prog W { keep := some [0, 2, 3, 11] } F.errataref01_digits #[.int .i64 n] R Φ J = Berrataref01_digits n W R Φ J by kernel_rfl]; exact h) c

/-- errataref28.Bytes -/
-- loop at region 4: 4 s, 5 i; blocks 
def Berrataref28_Bytes (lP : Option Addr) (lN lC : Nat) (W : World) (R : List Own) (Φ : PW) (J : Value → World → Prop) : Prop :=
  ∀ (w0 : World) (R1 : List Own), Ctx W w0 (R ++ R1) Φ → Calls Tryz.prog F.errataref28_Consolidate #[Value.slice lP lN lC] w0 fun (e2 : Ending) (w3 : World) => ∃ (p4 : Option Addr), ∃ (k5 :
  Nat), ∃ (k6 : Nat), e2 = Ending.returned (Value.slice p4 k5 k6) ∧ ∃ (R7 : List Own), ∃ (Φ8 : PW), Stable Φ8 ∧ Ctx W w3 (R7 ++ R1) Φ8 ∧ ∀ (w9 : World) (R10 : List Own), Ctx W w9 (R7 ++ R10)
  Φ8 → Calls Tryz.prog F.errataref01_Num #[Value.int IntKind.i64 (↑k5 : Int)] w9 fun (e11 : Ending) (w12 : World) => ∃ (s13 : ByteArray), e11 = Ending.returned (Value.string s13) ∧ ∃ (R14 :
  List Own), ∃ (Φ15 : PW), Stable Φ15 ∧ Ctx W w12 (R14 ++ R10) Φ15 ∧ exI fun (I16 : ByteArray → Int → List Own → PW → Nat → Prop) => (∃ (R17 : List Own), ∃ (Φ18 : PW), ∃ (k19 : Nat), Stable
  Φ18 ∧ (∀ (w20 : World) (R21 : List Own), Ctx W w20 (R14 ++ R21) Φ15 → Ctx W w20 (R17 ++ R21) Φ18) ∧ I16 s13 0 R17 Φ18 k19) ∧ ∀ (s22 : ByteArray) (n23 : Int) (R24 : List Own) (I25 : List Nat
  → World → Prop) (k26 : Nat), Stable I25 → I16 s22 n23 R24 I25 k26 → Br (decide (n23 < (↑k5 : Int))) (∃ (R27 : List Own), ∃ (Φ28 : PW), Stable Φ28 ∧ (∀ (w29 : World) (R30 : List Own), Ctx W
  w29 (R24 ++ R30) I25 → Ctx W w29 (R27 ++ R30) Φ28) ∧ (0 ≤ n23 ∧ n23 < (↑k5 : Int)) ∧ ptrK none p4 fun (k31 k32 : Nat) => (0 ≤ n23 ∧ n23 < (↑k5 : Int)) ∧ ptrK none p4 fun (k33 k34 : Nat) =>
  (0 ≤ n23 ∧ n23 < (↑k5 : Int)) ∧ ptrK none p4 fun (k35 k36 : Nat) => ∃ (n37 : Int), (∀ (w38 : World) (R39 : List Own), Ctx W w38 (R27 ++ R39) Φ28 → ∃ (n40 : Int), w38.cell? (Addr.mk k31 (k32
  + n23.toNat * 3) none) = some (Value.int IntKind.i64 n40) ∧ Value.int IntKind.i64 n40 = Value.int IntKind.i64 n37) ∧ ∃ (p41 : Option Addr), ∃ (k42 : Nat), ∃ (k43 : Nat), (∀ (w44 : World)
  (R45 : List Own), Ctx W w44 (R27 ++ R45) Φ28 → ∃ (p46 : Option Addr), ∃ (k47 : Nat), ∃ (k48 : Nat), w44.cell? (Addr.mk k33 (k34 + n23.toNat * 3 + 1) none) = some (Value.slice p46 k47 k48) ∧
  Value.slice p46 k47 k48 = Value.slice p41 k42 k43) ∧ ∃ (n49 : Int), (∀ (w50 : World) (R51 : List Own), Ctx W w50 (R27 ++ R51) Φ28 → ∃ (n52 : Int), w50.cell? (Addr.mk k35 (k36 + n23.toNat *
  3 + 2) none) = some (Value.int IntKind.i64 n52) ∧ Value.int IntKind.i64 n52 = Value.int IntKind.i64 n49) ∧ ∀ (w53 : World) (R54 : List Own), Ctx W w53 (R24 ++ R54) I25 → Calls Tryz.prog
  F.errataref01_Int #[Value.int IntKind.i64 n37] w53 fun (e55 : Ending) (w56 : World) => ∃ (s57 : ByteArray), e55 = Ending.returned (Value.string s57) ∧ ∃ (R58 : List Own), ∃ (Φ59 : PW),
  Stable Φ59 ∧ Ctx W w56 (R58 ++ R54) Φ59 ∧ (∀ (w60 : World) (R61 : List Own), Ctx W w60 (R58 ++ R61) Φ59 → Ctx W w60 (R27 ++ R61) Φ28) ∧ (s22.size + s57.size).le 9223372036854775807 ∧ ∀ (w62
  : World) (R63 : List Own), Ctx W w62 (R58 ++ R63) Φ59 → Calls Tryz.prog F.errataref03_RowBytes #[Value.slice p41 k42 k43] w62 fun (e64 : Ending) (w65 : World) => ∃ (s66 : ByteArray), e64 =
  Ending.returned (Value.string s66) ∧ ∃ (R67 : List Own), ∃ (Φ68 : PW), Stable Φ68 ∧ Ctx W w65 (R67 ++ R63) Φ68 ∧ (∀ (w69 : World) (R70 : List Own), Ctx W w69 (R67 ++ R70) Φ68 → Ctx W w69
  (R27 ++ R70) Φ28) ∧ ∀ (w71 : World) (R72 : List Own), Ctx W w71 (R67 ++ R72) Φ68 → Calls Tryz.prog F.errataref01_Text #[Value.string s66] w71 fun (e73 : Ending) (w74 : World) => ∃ (s75 :
  ByteArray), e73 = Ending.returned (Value.string s75) ∧ ∃ (R76 : List Own), ∃ (Φ77 : PW), Stable Φ77 ∧ Ctx W w74 (R76 ++ R72) Φ77 ∧ (∀ (w78 : World) (R79 : List Own), Ctx W w78 (R76 ++ R79)
  Φ77 → Ctx W w78 (R27 ++ R79) Φ28) ∧ ((s22 ++ s57).size + s75.size).le 9223372036854775807 ∧ ∀ (w80 : World) (R81 : List Own), Ctx W w80 (R76 ++ R81) Φ77 → Calls Tryz.prog F.errataref01_Int
  #[Value.int IntKind.i64 n49] w80 fun (e82 : Ending) (w83 : World) => ∃ (s84 : ByteArray), e82 = Ending.returned (Value.string s84) ∧ ∃ (R85 : List Own), ∃ (Φ86 : PW), Stable Φ86 ∧ Ctx W w83
  (R85 ++ R81) Φ86 ∧ (∀ (w87 : World) (R88 : List Own), Ctx W w87 (R85 ++ R88) Φ86 → Ctx W w87 (R27 ++ R88) Φ28) ∧ ((s22 ++ s57 ++ s75).size + s84.size).le 9223372036854775807 ∧ I64 (n23 + 1)
  ∧ ∃ (R89 : List Own), ∃ (Φ90 : PW), ∃ (k91 : Nat), Stable Φ90 ∧ (∀ (w92 : World) (R93 : List Own), Ctx W w92 (R85 ++ R93) Φ86 → Ctx W w92 (R89 ++ R93) Φ90) ∧ I16 (s22 ++ s57 ++ s75 ++ s84)
  (n23 + 1) R89 Φ90 k91 ∧ k91 < k26) (∀ (w94 : World) (R95 : List Own), Ctx W w94 (R24 ++ R95) I25 → J (Value.string s22) w94)

theorem Berrataref28_Bytes_run (lP : Option Addr) (lN lC : Nat) {W w : World} {R : List Own} {Φ : PW} [Stable Φ] {J : Value → World → Prop} (c : Ctx W w R Φ) (h : Berrataref28_Bytes lP lN lC W R Φ J) : Calls Tryz.prog F.errataref28_Bytes #[.slice lP lN lC] w fun e w' => ∃ v, e = .returned v ∧ J v w' :=
  vcFS_sound (H := { keep := some [0, 2, 3, 4, 5, 14], stages := [(6, [.held [(0, true), (1, true), (2, true), (8, true), (9, true), (16, true), (17, true), (3, true), (10, true), (18, true), (4, true), (11, true), (19, true), (5, true), (12, true), (20, true), (6, false), (7, true), (13, false), (14, false), (15, true), (21, false)], .stage [22, 23] none])], loops := [(4, [(4, .one (.str)), (5, .one (.int .i64))], [])] }) (by rw [show vcFS Tryz.prog W { keep := some [0, 2, 3, 4, 5, 14], stages := [(6, [.held [(0, true), (1, true), (2, true), (8, true), (9, true), (16, true), (17, true), (3, true), (10, true), (18, true), (4, true), (11, true), (19, true), (5, true), (12, true), (20, true), (6, false), (7, true), (13, false), (14, false), (15, true), (21, false)], .stage [22, 23] none])], loops := [(4, [(4, .one (.str)), (5, .one (.int .i64))], [])] } F.errataref28_Bytes #[.slice lP lN lC] R Φ J = Berrataref28_Bytes lP lN lC W R Φ J by kernel_rfl]; exact h) c

/-- (*errataref01.Reader).ahead -/
-- loop at region 2: 5 n; blocks 
def Berrataref01_Reader_ahead (rB rO : Nat) (endx : Int) (W : World) (R : List Own) (Φ : PW) (J : Value → World → Prop) : Prop :=
  exI fun (I0 : Int → List Own → PW → Nat → Prop) => (∃ (R1 : List Own), ∃ (Φ2 : PW), ∃ (k3 : Nat), Stable Φ2 ∧ (∀ (w4 : World) (R5 : List Own), Ctx W w4 (R ++ R5) Φ → Ctx W w4 (R1 ++ R5) Φ2)
  ∧ I0 0 R1 Φ2 k3) ∧ ∀ (n6 : Int) (R7 : List Own) (I8 : List Nat → World → Prop) (k9 : Nat), Stable I8 → I0 n6 R7 I8 k9 → ∀ (w10 : World) (R11 : List Own), Ctx W w10 (R7 ++ R11) I8 → ∃ (s12 :
  ByteArray), w10.cell? (Addr.mk rB rO none) = some (Value.string s12) ∧ ∃ (s13 : ByteArray), ((decide (n6 < (↑s12.size : Int)) && decide (n6 < 21)) = true → w10.cell? (Addr.mk rB rO none) =
  some (Value.string s13)) ∧ ∃ (u14 : UInt8), ((decide (n6 < (↑s12.size : Int)) && decide (n6 < 21)) = true → 0 ≤ n6 ∧ s13.data.toList.get?Internal n6.toNat = some u14) ∧ Br (decide (n6 <
  (↑s12.size : Int)) && decide (n6 < 21) && decide ((↑u14.toNat : Int) ≠ endx)) (I64 (n6 + 1) ∧ ∃ (R15 : List Own), ∃ (Φ16 : PW), ∃ (k17 : Nat), Stable Φ16 ∧ (∀ (w18 : World) (R19 : List
  Own), Ctx W w18 (R7 ++ R19) I8 → Ctx W w18 (R15 ++ R19) Φ16) ∧ I0 (n6 + 1) R15 Φ16 k17 ∧ k17 < k9) (∀ (w20 : World) (R21 : List Own), Ctx W w20 (R7 ++ R21) I8 → ∃ (s22 : ByteArray),
  w20.cell? (Addr.mk rB rO none) = some (Value.string s22) ∧ Br (decide ((↑s22.size : Int) ≤ n6)) (∀ (w23 : World) (R24 : List Own), Ctx W w23 (R7 ++ R24) I8 → Calls Tryz.prog
  F.errataref01_Reader_fail #[Value.pointer (some (Addr.mk rB rO none))] w23 fun (e25 : Ending) (w26 : World) => ∃ (n27 : Int), e25 = Ending.returned (Value.int IntKind.i64 n27) ∧ ∃ (R28 :
  List Own), ∃ (Φ29 : PW), Stable Φ29 ∧ Ctx W w26 (R28 ++ R24) Φ29 ∧ ∀ (w30 : World) (R31 : List Own), Ctx W w30 (R28 ++ R31) Φ29 → J (Value.int IntKind.i64 n27) w30) (∀ (w32 : World) (R33 :
  List Own), Ctx W w32 (R7 ++ R33) I8 → ∃ (s34 : ByteArray), w32.cell? (Addr.mk rB rO none) = some (Value.string s34) ∧ ∃ (u35 : UInt8), (0 ≤ n6 ∧ s34.data.toList.get?Internal n6.toNat = some
  u35) ∧ Br (decide ((↑u35.toNat : Int) ≠ endx)) (∀ (w36 : World) (R37 : List Own), Ctx W w36 (R7 ++ R37) I8 → Calls Tryz.prog F.errataref01_Reader_fail #[Value.pointer (some (Addr.mk rB rO
  none))] w36 fun (e38 : Ending) (w39 : World) => ∃ (n40 : Int), e38 = Ending.returned (Value.int IntKind.i64 n40) ∧ ∃ (R41 : List Own), ∃ (Φ42 : PW), Stable Φ42 ∧ Ctx W w39 (R41 ++ R37) Φ42
  ∧ ∀ (w43 : World) (R44 : List Own), Ctx W w43 (R41 ++ R44) Φ42 → J (Value.int IntKind.i64 n40) w43) (∀ (w45 : World) (R46 : List Own), Ctx W w45 (R7 ++ R46) I8 → ∃ (s47 : ByteArray),
  w45.cell? (Addr.mk rB rO none) = some (Value.string s47) ∧ (0 ≤ n6 ∧ n6 ≤ (↑s47.size : Int)) ∧ ∀ (w48 : World) (R49 : List Own), Ctx W w48 (R7 ++ R49) I8 → Calls Tryz.prog
  F.errataref01_Back #[Value.string (s47.extract 0 n6.toNat)] w48 fun (e50 : Ending) (w51 : World) => ∃ (n52 : Int), ∃ (c53 : Bool), e50 = Ending.returned (Value.tuple #[Value.int IntKind.i64
  n52, Value.bool c53]) ∧ ∃ (R54 : List Own), ∃ (Φ55 : PW), Stable Φ55 ∧ Ctx W w51 (R54 ++ R49) Φ55 ∧ Br (!c53) (∀ (w56 : World) (R57 : List Own), Ctx W w56 (R54 ++ R57) Φ55 → Calls Tryz.prog
  F.errataref01_Reader_fail #[Value.pointer (some (Addr.mk rB rO none))] w56 fun (e58 : Ending) (w59 : World) => ∃ (n60 : Int), e58 = Ending.returned (Value.int IntKind.i64 n60) ∧ ∃ (R61 :
  List Own), ∃ (Φ62 : PW), Stable Φ62 ∧ Ctx W w59 (R61 ++ R57) Φ62 ∧ ∀ (w63 : World) (R64 : List Own), Ctx W w63 (R61 ++ R64) Φ62 → J (Value.int IntKind.i64 n60) w63) (∀ (w65 : World) (R66 :
  List Own), Ctx W w65 (R54 ++ R66) Φ55 → ∃ (s67 : ByteArray), w65.cell? (Addr.mk rB rO none) = some (Value.string s67) ∧ I64 (n6 + 1) ∧ (0 ≤ n6 + 1 ∧ n6 + 1 ≤ (↑s67.size : Int) ∧ s67.size ≤
  s67.size) ∧ ∀ (w68 : World) (R69 : List Own), Ctx W w68 (R54 ++ R69) Φ55 → CanWrite w68 rB rO 1 ∧ ∀ (w70 : World), w70 = w68.setCell (Addr.mk rB rO none) (Value.string (s67.extract (n6 +
  1).toNat s67.size)) → ∃ (R71 : List Own), ∃ (Φ72 : PW), Stable Φ72 ∧ Ctx W w70 (R71 ++ R69) Φ72 ∧ ∀ (w73 : World) (R74 : List Own), Ctx W w73 (R71 ++ R74) Φ72 → J (Value.int IntKind.i64
  n52) w73))))

theorem Berrataref01_Reader_ahead_run (rB rO : Nat) (endx : Int) {W w : World} {R : List Own} {Φ : PW} [Stable Φ] {J : Value → World → Prop} (c : Ctx W w R Φ) (h : Berrataref01_Reader_ahead rB rO endx W R Φ J) : Calls Tryz.prog F.errataref01_Reader_ahead #[.pointer (some ⟨rB, rO, none⟩), .int .u8 endx] w fun e w' => ∃ v, e = .returned v ∧ J v w' :=
  vcFS_sound (H := { keep := some [0, 1, 4, 5, 6, 7, 28, 37, 47, 61], loops := [(2, [(5, .one (.int .i64))], [])] }) (by rw [show vcFS Tryz.prog W { keep := some [0, 1, 4, 5, 6, 7, 28, 37, 47, 61], loops := [(2, [(5, .one (.int .i64))], [])] } F.errataref01_Reader_ahead #[.pointer (some ⟨rB, rO, none⟩), .int .u8 endx] R Φ J = Berrataref01_Reader_ahead rB rO endx W R Φ J by kernel_rfl]; exact h) c

/-- (*errataref01.Reader).number -/
def Berrataref01_Reader_number (rB rO : Nat) (endx : Int) (W : World) (R : List Own) (Φ : PW) (J : Value → World → Prop) : Prop :=
  ∀ (w0 : World) (R1 : List Own), Ctx W w0 (R ++ R1) Φ → Calls Tryz.prog F.errataref01_Reader_ahead #[Value.pointer (some (Addr.mk rB rO none)), Value.int IntKind.u8 endx] w0 fun (e2 :
  Ending) (w3 : World) => ∃ (n4 : Int), e2 = Ending.returned (Value.int IntKind.i64 n4) ∧ ∃ (R5 : List Own), ∃ (Φ6 : PW), Stable Φ6 ∧ Ctx W w3 (R5 ++ R1) Φ6 ∧ Br (decide (n4 < 0)) (∀ (w7 :
  World) (R8 : List Own), Ctx W w7 (R5 ++ R8) Φ6 → Calls Tryz.prog F.errataref01_Reader_fail #[Value.pointer (some (Addr.mk rB rO none))] w7 fun (e9 : Ending) (w10 : World) => ∃ (n11 : Int),
  e9 = Ending.returned (Value.int IntKind.i64 n11) ∧ ∃ (R12 : List Own), ∃ (Φ13 : PW), Stable Φ13 ∧ Ctx W w10 (R12 ++ R8) Φ13 ∧ ∀ (w14 : World) (R15 : List Own), Ctx W w14 (R12 ++ R15) Φ13 →
  J (Value.int IntKind.i64 n11) w14) (∀ (w16 : World) (R17 : List Own), Ctx W w16 (R5 ++ R17) Φ6 → J (Value.int IntKind.i64 n4) w16)

theorem Berrataref01_Reader_number_run (rB rO : Nat) (endx : Int) {W w : World} {R : List Own} {Φ : PW} [Stable Φ] {J : Value → World → Prop} (c : Ctx W w R Φ) (h : Berrataref01_Reader_number rB rO endx W R Φ J) : Calls Tryz.prog F.errataref01_Reader_number #[.pointer (some ⟨rB, rO, none⟩), .int .u8 endx] w fun e w' => ∃ v, e = .returned v ∧ J v w' :=
  vcFS_sound (H := { keep := some [0, 1, 4, 5, 10] }) (by rw [show vcFS Tryz.prog W { keep := some [0, 1, 4, 5, 10] } F.errataref01_Reader_number #[.pointer (some ⟨rB, rO, none⟩), .int .u8 endx] R Φ J = Berrataref01_Reader_number rB rO endx W R Φ J by kernel_rfl]; exact h) c

/-- (*errataref01.Reader).fail -/
def Berrataref01_Reader_fail (rB rO : Nat) (W : World) (R : List Own) (Φ : PW) (J : Value → World → Prop) : Prop :=
  ∀ (w0 : World) (R1 : List Own), Ctx W w0 (R ++ R1) Φ → CanWrite w0 rB rO 1 ∧ ∀ (w2 : World), w2 = w0.setCell (Addr.mk rB rO none) (Value.string (ByteArray.mk #[])) → ∃ (R3 : List Own), ∃
  (Φ4 : PW), Stable Φ4 ∧ Ctx W w2 (R3 ++ R1) Φ4 ∧ ∀ (w5 : World) (R6 : List Own), Ctx W w5 (R3 ++ R6) Φ4 → CanWrite w5 rB (rO + 1) 1 ∧ ∀ (w7 : World), w7 = w5.setCell (Addr.mk rB (rO + 1)
  none) (Value.bool true) → ∃ (R8 : List Own), ∃ (Φ9 : PW), Stable Φ9 ∧ Ctx W w7 (R8 ++ R6) Φ9 ∧ ∀ (w10 : World) (R11 : List Own), Ctx W w10 (R8 ++ R11) Φ9 → J (Value.int IntKind.i64 0) w10

theorem Berrataref01_Reader_fail_run (rB rO : Nat) {W w : World} {R : List Own} {Φ : PW} [Stable Φ] {J : Value → World → Prop} (c : Ctx W w R Φ) (h : Berrataref01_Reader_fail rB rO W R Φ J) : Calls Tryz.prog F.errataref01_Reader_fail #[.pointer (some ⟨rB, rO, none⟩)] w fun e w' => ∃ v, e = .returned v ∧ J v w' :=
  vcFS_sound (H := { keep := some [0, 2] }) (by rw [show vcFS Tryz.prog W { keep := some [0, 2] } F.errataref01_Reader_fail #[.pointer (some ⟨rB, rO, none⟩)] R Φ J = Berrataref01_Reader_fail rB rO W R Φ J by kernel_rfl]; exact h) c

/-- (*errataref01.Reader).close -/
def Berrataref01_Reader_close (rB rO : Nat) (endx : Int) (W : World) (R : List Own) (Φ : PW) (J : Value → World → Prop) : Prop :=
  ∀ (w0 : World) (R1 : List Own), Ctx W w0 (R ++ R1) Φ → ∃ (s2 : ByteArray), w0.cell? (Addr.mk rB rO none) = some (Value.string s2) ∧ Br (decide ((↑s2.size : Int) = 0)) (∀ (w3 : World) (R4 :
  List Own), Ctx W w3 (R ++ R4) Φ → Calls Tryz.prog F.errataref01_Reader_fail #[Value.pointer (some (Addr.mk rB rO none))] w3 fun (e5 : Ending) (w6 : World) => ∃ (n7 : Int), e5 =
  Ending.returned (Value.int IntKind.i64 n7) ∧ ∃ (R8 : List Own), ∃ (Φ9 : PW), Stable Φ9 ∧ Ctx W w6 (R8 ++ R4) Φ9 ∧ ∀ (w10 : World) (R11 : List Own), Ctx W w10 (R8 ++ R11) Φ9 → J (Value.bool
  false) w10) (∀ (w12 : World) (R13 : List Own), Ctx W w12 (R ++ R13) Φ → ∃ (s14 : ByteArray), w12.cell? (Addr.mk rB rO none) = some (Value.string s14) ∧ ∃ (u15 : UInt8), ((0 : Int) ≤ 0 ∧
  s14.data.toList.get?Internal 0 = some u15) ∧ Br (decide ((↑u15.toNat : Int) ≠ endx)) (∀ (w16 : World) (R17 : List Own), Ctx W w16 (R ++ R17) Φ → Calls Tryz.prog F.errataref01_Reader_fail
  #[Value.pointer (some (Addr.mk rB rO none))] w16 fun (e18 : Ending) (w19 : World) => ∃ (n20 : Int), e18 = Ending.returned (Value.int IntKind.i64 n20) ∧ ∃ (R21 : List Own), ∃ (Φ22 : PW),
  Stable Φ22 ∧ Ctx W w19 (R21 ++ R17) Φ22 ∧ ∀ (w23 : World) (R24 : List Own), Ctx W w23 (R21 ++ R24) Φ22 → J (Value.bool false) w23) (∀ (w25 : World) (R26 : List Own), Ctx W w25 (R ++ R26) Φ
  → ∃ (s27 : ByteArray), w25.cell? (Addr.mk rB rO none) = some (Value.string s27) ∧ ((0 : Int) ≤ 1 ∧ 1 ≤ (↑s27.size : Int) ∧ s27.size ≤ s27.size) ∧ ∀ (w28 : World) (R29 : List Own), Ctx W w28
  (R ++ R29) Φ → CanWrite w28 rB rO 1 ∧ ∀ (w30 : World), w30 = w28.setCell (Addr.mk rB rO none) (Value.string (s27.extract 1 s27.size)) → ∃ (R31 : List Own), ∃ (Φ32 : PW), Stable Φ32 ∧ Ctx W
  w30 (R31 ++ R29) Φ32 ∧ ∀ (w33 : World) (R34 : List Own), Ctx W w33 (R31 ++ R34) Φ32 → J (Value.bool true) w33))

theorem Berrataref01_Reader_close_run (rB rO : Nat) (endx : Int) {W w : World} {R : List Own} {Φ : PW} [Stable Φ] {J : Value → World → Prop} (c : Ctx W w R Φ) (h : Berrataref01_Reader_close rB rO endx W R Φ J) : Calls Tryz.prog F.errataref01_Reader_close #[.pointer (some ⟨rB, rO, none⟩), .int .u8 endx] w fun e w' => ∃ v, e = .returned v ∧ J v w' :=
  vcFS_sound (H := { keep := some [0, 1, 4, 10, 19] }) (by rw [show vcFS Tryz.prog W { keep := some [0, 1, 4, 10, 19] } F.errataref01_Reader_close #[.pointer (some ⟨rB, rO, none⟩), .int .u8 endx] R Φ J = Berrataref01_Reader_close rB rO endx W R Φ J by kernel_rfl]; exact h) c

/-- errataref03.ReadRow -/
-- loop at region 5: 6 out, 7 i; blocks 
-- known blocks: 8 v
def Berrataref03_ReadRow (s : ByteArray) (W : World) (R : List Own) (Φ : PW) (J : Value → World → Prop) : Prop :=
  ∀ (w0 : World) (R1 : List Own), Ctx W w0 (R ++ R1) Φ → Calls Tryz.prog F.errataref01_Open #[Value.string s] w0 fun (e2 : Ending) (w3 : World) => ∃ (p4 : Option Addr), e2 = Ending.returned
  (Value.pointer p4) ∧ ∃ (R5 : List Own), ∃ (Φ6 : PW), Stable Φ6 ∧ Ctx W w3 (R5 ++ R1) Φ6 ∧ ∀ (w7 : World) (R8 : List Own), Ctx W w7 (R5 ++ R8) Φ6 → Calls Tryz.prog F.errataref01_Reader_Num
  #[Value.pointer p4] w7 fun (e9 : Ending) (w10 : World) => ∃ (n11 : Int), e9 = Ending.returned (Value.int IntKind.i64 n11) ∧ ∃ (R12 : List Own), ∃ (Φ13 : PW), Stable Φ13 ∧ Ctx W w10 (R12 ++
  R8) Φ13 ∧ exI fun (I14 : Option Addr → Nat → Nat → Int → List Own → PW → Nat → Prop) => (∃ (R15 : List Own), ∃ (Φ16 : PW), ∃ (k17 : Nat), Stable Φ16 ∧ (∀ (w18 : World) (R19 : List Own), Ctx
  W w18 (R12 ++ R19) Φ13 → Ctx W w18 (R15 ++ R19) Φ16) ∧ I14 none 0 0 0 R15 Φ16 k17) ∧ ∀ (p20 : Option Addr) (k21 k22 : Nat) (n23 : Int) (R24 : List Own) (I25 : List Nat → World → Prop) (k26
  : Nat), Stable I25 → I14 p20 k21 k22 n23 R24 I25 k26 → ∀ (w27 : World) (R28 : List Own), Ctx W w27 (R24 ++ R28) I25 → Br (decide (n23 < n11) && decide (n23 < (↑s.size : Int))) (∀ (b : Nat)
  (w29 : World) (R30 : List Own), Ctx W w29 (R24 ++ R30) I25 → Calls Tryz.prog F.errataref01_Reader_Int #[Value.pointer p4] w29 fun (e31 : Ending) (w32 : World) => ∃ (n33 : Int), e31 =
  Ending.returned (Value.int IntKind.i64 n33) ∧ ∃ (R34 : List Own), ∃ (Φ35 : PW), Stable Φ35 ∧ Ctx W w32 (R34 ++ R30) Φ35 ∧ ∀ (w36 : World) (R37 : List Own), Ctx W w36 (R34 ++ R37) Φ35 →
  Calls Tryz.prog F.errataref01_Reader_Int #[Value.pointer p4] w36 fun (e38 : Ending) (w39 : World) => ∃ (n40 : Int), e38 = Ending.returned (Value.int IntKind.i64 n40) ∧ ∃ (R41 : List Own), ∃
  (Φ42 : PW), Stable Φ42 ∧ Ctx W w39 (R41 ++ R37) Φ42 ∧ ∀ (w43 : World) (R44 : List Own), Ctx W w43 (R41 ++ R44) Φ42 → Calls Tryz.prog F.errataref01_Reader_Text #[Value.pointer p4] w43 fun
  (e45 : Ending) (w46 : World) => ∃ (s47 : ByteArray), e45 = Ending.returned (Value.string s47) ∧ ∃ (R48 : List Own), ∃ (Φ49 : PW), Stable Φ49 ∧ Ctx W w46 (R48 ++ R44) Φ49 ∧ ∀ (k50 : Nat)
  (w51 : World) (R52 : List Own), Ctx W w51 (Own.blk k50 [Value.int IntKind.i64 n33, Value.int IntKind.i64 n40, Value.string s47] 83 :: R48 ++ R52) Φ49 → ∃ (p53 : Option Addr), ∃ (k54 : Nat),
  ∃ (k55 : Nat), ∃ (w56 : World), Sem.run Tryz.prog (builtin Builtin.append #[60, 60] 60 #[false, false] #[Value.slice p20 k21 k22, Value.slice (some (Addr.mk k50 0 none)) 1 1]) w51 =
  Result.ok (Next.value (Value.slice p53 k54 k55)) w56 ∧ ∃ (R57 : List Own), ∃ (Φ58 : PW), Stable Φ58 ∧ Ctx W w56 (R57 ++ R52) Φ58 ∧ I64 (n23 + 1) ∧ ∃ (R59 : List Own), ∃ (Φ60 : PW), ∃ (k61 :
  Nat), Stable Φ60 ∧ (∀ (w62 : World) (R63 : List Own), Ctx W w62 (R57 ++ R63) Φ58 → Ctx W w62 (R59 ++ R63) Φ60) ∧ I14 p53 k54 k55 (n23 + 1) R59 Φ60 k61 ∧ k61 < k26) (∀ (w64 : World) (R65 :
  List Own), Ctx W w64 (R24 ++ R65) I25 → Calls Tryz.prog F.errataref01_Reader_Done #[Value.pointer p4] w64 fun (e66 : Ending) (w67 : World) => ∃ (c68 : Bool), e66 = Ending.returned
  (Value.bool c68) ∧ ∃ (R69 : List Own), ∃ (Φ70 : PW), Stable Φ70 ∧ Ctx W w67 (R69 ++ R65) Φ70 ∧ Br (!c68) (∀ (w71 : World) (R72 : List Own), Ctx W w71 (R69 ++ R72) Φ70 → J (Value.tuple
  #[Value.slice none 0 0, Value.bool false]) w71) (Br (decide ((↑k21 : Int) ≠ n11)) (∀ (w73 : World) (R74 : List Own), Ctx W w73 (R69 ++ R74) Φ70 → J (Value.tuple #[Value.slice none 0 0,
  Value.bool false]) w73) (∀ (w75 : World) (R76 : List Own), Ctx W w75 (R69 ++ R76) Φ70 → J (Value.tuple #[Value.slice p20 k21 k22, Value.bool true]) w75)))

theorem Berrataref03_ReadRow_run (s : ByteArray) {W w : World} {R : List Own} {Φ : PW} [Stable Φ] {J : Value → World → Prop} (c : Ctx W w R Φ) (h : Berrataref03_ReadRow s W R Φ J) : Calls Tryz.prog F.errataref03_ReadRow #[.string s] w fun e w' => ∃ v, e = .returned v ∧ J v w' :=
  vcFS_sound (H := { keep := some [0, 2, 3, 4, 5, 6, 7, 8, 21, 46], track := [8], split := [12], loops := [(5, [(6, .one (.slice)), (7, .one (.int .i64))], [])] }) (by rw [show vcFS Tryz.prog W { keep := some [0, 2, 3, 4, 5, 6, 7, 8, 21, 46], track := [8], split := [12], loops := [(5, [(6, .one (.slice)), (7, .one (.int .i64))], [])] } F.errataref03_ReadRow #[.string s] R Φ J = Berrataref03_ReadRow s W R Φ J by kernel_rfl]; exact h) c

/-- errataref28.Consolidate -/
-- loop at region 7: 6 n, 7 k; blocks 
-- loop at region 4: 4 out, 5 i; blocks 
def Berrataref28_Consolidate (lP : Option Addr) (lN lC : Nat) (W : World) (R : List Own) (Φ : PW) (J : Value → World → Prop) : Prop :=
  ∀ (w0 : World) (R1 : List Own), Ctx W w0 (R ++ R1) Φ → Calls Tryz.prog F.errataref28_sorted #[Value.slice lP lN lC] w0 fun (e2 : Ending) (w3 : World) => ∃ (p4 : Option Addr), ∃ (k5 : Nat),
  ∃ (k6 : Nat), e2 = Ending.returned (Value.slice p4 k5 k6) ∧ ∃ (R7 : List Own), ∃ (Φ8 : PW), Stable Φ8 ∧ Ctx W w3 (R7 ++ R1) Φ8 ∧ exI fun (I9 : Option Addr → Nat → Nat → Int → List Own → PW
  → Nat → Prop) => (∃ (R10 : List Own), ∃ (Φ11 : PW), ∃ (k12 : Nat), Stable Φ11 ∧ (∀ (w13 : World) (R14 : List Own), Ctx W w13 (R7 ++ R14) Φ8 → Ctx W w13 (R10 ++ R14) Φ11) ∧ I9 none 0 0 0 R10
  Φ11 k12) ∧ ∀ (p15 : Option Addr) (k16 k17 : Nat) (n18 : Int) (R19 : List Own) (I20 : List Nat → World → Prop) (k21 : Nat), Stable I20 → I9 p15 k16 k17 n18 R19 I20 k21 → Br (decide (n18 <
  (↑k5 : Int))) (exI fun (I22 : Int → Int → List Own → PW → Nat → Prop) => (∃ (R23 : List Own), ∃ (Φ24 : PW), ∃ (k25 : Nat), Stable Φ24 ∧ (∀ (w26 : World) (R27 : List Own), Ctx W w26 (R19 ++
  R27) I20 → Ctx W w26 (R23 ++ R27) Φ24) ∧ I22 0 n18 R23 Φ24 k25) ∧ ∀ (n28 n29 : Int) (R30 : List Own) (I31 : List Nat → World → Prop) (k32 : Nat), Stable I31 → I22 n28 n29 R30 I31 k32 → ∃
  (R33 : List Own), ∃ (Φ34 : PW), Stable Φ34 ∧ (∀ (w35 : World) (R36 : List Own), Ctx W w35 (R30 ++ R36) I31 → Ctx W w35 (R33 ++ R36) Φ34) ∧ Br (decide (n29 < (↑k5 : Int))) ((0 ≤ n18 ∧ n18 <
  (↑k5 : Int)) ∧ ptrK none p4 fun (k37 k38 : Nat) => ∃ (n39 : Int), ∃ (p40 : Option Addr), ∃ (k41 : Nat), ∃ (k42 : Nat), ∃ (n43 : Int), (∀ (w44 : World) (R45 : List Own), Ctx W w44 (R33 ++
  R45) Φ34 → ∃ (n46 : Int), ∃ (p47 : Option Addr), ∃ (k48 : Nat), ∃ (k49 : Nat), ∃ (n50 : Int), RowAt w44 k37 (k38 + n18.toNat * 3) [Value.int IntKind.i64 n46, Value.slice p47 k48 k49,
  Value.int IntKind.i64 n50] ∧ Value.agg #[Value.int IntKind.i64 n46, Value.slice p47 k48 k49, Value.int IntKind.i64 n50] = Value.agg #[Value.int IntKind.i64 n39, Value.slice p40 k41 k42,
  Value.int IntKind.i64 n43]) ∧ I64 ((↑k5 : Int) - 1) ∧ (0 ≤ min n29 ((↑k5 : Int) - 1) ∧ min n29 ((↑k5 : Int) - 1) < (↑k5 : Int)) ∧ ptrK none p4 fun (k51 k52 : Nat) => ∃ (n53 : Int), ∃ (p54 :
  Option Addr), ∃ (k55 : Nat), ∃ (k56 : Nat), ∃ (n57 : Int), (∀ (w58 : World) (R59 : List Own), Ctx W w58 (R33 ++ R59) Φ34 → ∃ (n60 : Int), ∃ (p61 : Option Addr), ∃ (k62 : Nat), ∃ (k63 :
  Nat), ∃ (n64 : Int), RowAt w58 k51 (k52 + (min n29 ((↑k5 : Int) - 1)).toNat * 3) [Value.int IntKind.i64 n60, Value.slice p61 k62 k63, Value.int IntKind.i64 n64] ∧ Value.agg #[Value.int
  IntKind.i64 n60, Value.slice p61 k62 k63, Value.int IntKind.i64 n64] = Value.agg #[Value.int IntKind.i64 n53, Value.slice p54 k55 k56, Value.int IntKind.i64 n57]) ∧ ∀ (w65 : World) (R66 :
  List Own), Ctx W w65 (R30 ++ R66) I31 → Calls Tryz.prog F.errataref28_Compare #[Value.agg #[Value.int IntKind.i64 n39, Value.slice p40 k41 k42, Value.int IntKind.i64 n43], Value.agg
  #[Value.int IntKind.i64 n53, Value.slice p54 k55 k56, Value.int IntKind.i64 n57]] w65 fun (e67 : Ending) (w68 : World) => ∃ (n69 : Int), e67 = Ending.returned (Value.int IntKind.i64 n69) ∧
  ∃ (R70 : List Own), ∃ (Φ71 : PW), Stable Φ71 ∧ Ctx W w68 (R70 ++ R66) Φ71 ∧ Br (decide (n69 = 0)) ((0 ≤ n29 ∧ n29 < (↑k5 : Int)) ∧ ptrK none p4 fun (k72 k73 : Nat) => ∀ (w74 : World) (R75 :
  List Own), Ctx W w74 (R70 ++ R75) Φ71 → ∃ (n76 : Int), w74.cell? (Addr.mk k72 (k73 + n29.toNat * 3 + 2) none) = some (Value.int IntKind.i64 n76) ∧ I64 (n29 + 1) ∧ ∃ (R77 : List Own), ∃ (Φ78
  : PW), ∃ (k79 : Nat), Stable Φ78 ∧ (∀ (w80 : World) (R81 : List Own), Ctx W w80 (R70 ++ R81) Φ71 → Ctx W w80 (R77 ++ R81) Φ78) ∧ I22 (IntKind.i64.wrap (n28 + n76)) (n29 + 1) R77 Φ78 k79 ∧
  k79 < k32) (Br (decide (n28 ≠ 0)) ((0 ≤ n18 ∧ n18 < (↑k5 : Int)) ∧ ptrK none p4 fun (k82 k83 : Nat) => ∀ (w84 : World) (R85 : List Own), Ctx W w84 (R70 ++ R85) Φ71 → ∃ (n86 : Int), ∃ (p87 :
  Option Addr), ∃ (k88 : Nat), ∃ (k89 : Nat), ∃ (n90 : Int), RowAt w84 k82 (k83 + n18.toNat * 3) [Value.int IntKind.i64 n86, Value.slice p87 k88 k89, Value.int IntKind.i64 n90] ∧ ∀ (w91 :
  World) (R92 : List Own), Ctx W w91 (R70 ++ R92) Φ71 → Calls Tryz.prog F.errataref28_clone #[Value.agg #[Value.int IntKind.i64 n86, Value.slice p87 k88 k89, Value.int IntKind.i64 n90],
  Value.int IntKind.i64 n28] w91 fun (e93 : Ending) (w94 : World) => ∃ (n95 : Int), ∃ (p96 : Option Addr), ∃ (k97 : Nat), ∃ (k98 : Nat), ∃ (n99 : Int), e93 = Ending.returned (Value.agg
  #[Value.int IntKind.i64 n95, Value.slice p96 k97 k98, Value.int IntKind.i64 n99]) ∧ ∃ (R100 : List Own), ∃ (Φ101 : PW), Stable Φ101 ∧ Ctx W w94 (R100 ++ R92) Φ101 ∧ ∀ (k102 : Nat) (w103 :
  World) (R104 : List Own), Ctx W w103 (Own.blk k102 [Value.int IntKind.i64 n95, Value.slice p96 k97 k98, Value.int IntKind.i64 n99] 62 :: R100 ++ R104) Φ101 → ∃ (p105 : Option Addr), ∃ (k106
  : Nat), ∃ (k107 : Nat), ∃ (w108 : World), Sem.run Tryz.prog (builtin Builtin.append #[30, 30] 30 #[false, false] #[Value.slice p15 k16 k17, Value.slice (some (Addr.mk k102 0 none)) 1 1])
  w103 = Result.ok (Next.value (Value.slice p105 k106 k107)) w108 ∧ ∃ (R109 : List Own), ∃ (Φ110 : PW), Stable Φ110 ∧ Ctx W w108 (R109 ++ R104) Φ110 ∧ ∃ (R111 : List Own), ∃ (Φ112 : PW), ∃
  (k113 : Nat), Stable Φ112 ∧ (∀ (w114 : World) (R115 : List Own), Ctx W w114 (R109 ++ R115) Φ110 → Ctx W w114 (R111 ++ R115) Φ112) ∧ I9 p105 k106 k107 n29 R111 Φ112 k113 ∧ k113 < k21) (∃
  (R116 : List Own), ∃ (Φ117 : PW), ∃ (k118 : Nat), Stable Φ117 ∧ (∀ (w119 : World) (R120 : List Own), Ctx W w119 (R70 ++ R120) Φ71 → Ctx W w119 (R116 ++ R120) Φ117) ∧ I9 p15 k16 k17 n29 R116
  Φ117 k118 ∧ k118 < k21))) (Br (decide (n28 ≠ 0)) ((0 ≤ n18 ∧ n18 < (↑k5 : Int)) ∧ ptrK none p4 fun (k121 k122 : Nat) => ∀ (w123 : World) (R124 : List Own), Ctx W w123 (R30 ++ R124) I31 → ∃
  (n125 : Int), ∃ (p126 : Option Addr), ∃ (k127 : Nat), ∃ (k128 : Nat), ∃ (n129 : Int), RowAt w123 k121 (k122 + n18.toNat * 3) [Value.int IntKind.i64 n125, Value.slice p126 k127 k128,
  Value.int IntKind.i64 n129] ∧ ∀ (w130 : World) (R131 : List Own), Ctx W w130 (R30 ++ R131) I31 → Calls Tryz.prog F.errataref28_clone #[Value.agg #[Value.int IntKind.i64 n125, Value.slice
  p126 k127 k128, Value.int IntKind.i64 n129], Value.int IntKind.i64 n28] w130 fun (e132 : Ending) (w133 : World) => ∃ (n134 : Int), ∃ (p135 : Option Addr), ∃ (k136 : Nat), ∃ (k137 : Nat), ∃
  (n138 : Int), e132 = Ending.returned (Value.agg #[Value.int IntKind.i64 n134, Value.slice p135 k136 k137, Value.int IntKind.i64 n138]) ∧ ∃ (R139 : List Own), ∃ (Φ140 : PW), Stable Φ140 ∧
  Ctx W w133 (R139 ++ R131) Φ140 ∧ ∀ (k141 : Nat) (w142 : World) (R143 : List Own), Ctx W w142 (Own.blk k141 [Value.int IntKind.i64 n134, Value.slice p135 k136 k137, Value.int IntKind.i64
  n138] 62 :: R139 ++ R143) Φ140 → ∃ (p144 : Option Addr), ∃ (k145 : Nat), ∃ (k146 : Nat), ∃ (w147 : World), Sem.run Tryz.prog (builtin Builtin.append #[30, 30] 30 #[false, false]
  #[Value.slice p15 k16 k17, Value.slice (some (Addr.mk k141 0 none)) 1 1]) w142 = Result.ok (Next.value (Value.slice p144 k145 k146)) w147 ∧ ∃ (R148 : List Own), ∃ (Φ149 : PW), Stable Φ149 ∧
  Ctx W w147 (R148 ++ R143) Φ149 ∧ ∃ (R150 : List Own), ∃ (Φ151 : PW), ∃ (k152 : Nat), Stable Φ151 ∧ (∀ (w153 : World) (R154 : List Own), Ctx W w153 (R148 ++ R154) Φ149 → Ctx W w153 (R150 ++
  R154) Φ151) ∧ I9 p144 k145 k146 n29 R150 Φ151 k152 ∧ k152 < k21) (∃ (R155 : List Own), ∃ (Φ156 : PW), ∃ (k157 : Nat), Stable Φ156 ∧ (∀ (w158 : World) (R159 : List Own), Ctx W w158 (R30 ++
  R159) I31 → Ctx W w158 (R155 ++ R159) Φ156) ∧ I9 p15 k16 k17 n29 R155 Φ156 k157 ∧ k157 < k21))) (∀ (w160 : World) (R161 : List Own), Ctx W w160 (R19 ++ R161) I20 → J (Value.slice p15 k16
  k17) w160)

theorem Berrataref28_Consolidate_run (lP : Option Addr) (lN lC : Nat) {W w : World} {R : List Own} {Φ : PW} [Stable Φ] {J : Value → World → Prop} (c : Ctx W w R Φ) (h : Berrataref28_Consolidate lP lN lC W R Φ J) : Calls Tryz.prog F.errataref28_Consolidate #[.slice lP lN lC] w fun e w' => ∃ v, e = .returned v ∧ J v w' :=
  vcFS_sound (H := { keep := some [0, 2, 3, 4, 5, 6, 7, 13, 34, 45], wrap := [41], stages := [(7, [.held [(0, true), (1, true), (2, true), (3, true), (4, true), (5, true), (6, true), (9, true), (10, true), (11, true), (7, true), (12, true), (8, true), (13, true), (14, true), (15, true), (16, true)], .stage [] (some 17), .stage [18, 19] none])], loops := [(7, [(6, .one (.int .i64)), (7, .one (.int .i64))], []), (4, [(4, .one (.slice)), (5, .one (.int .i64))], [])] }) (by rw [show vcFS Tryz.prog W { keep := some [0, 2, 3, 4, 5, 6, 7, 13, 34, 45], wrap := [41], stages := [(7, [.held [(0, true), (1, true), (2, true), (3, true), (4, true), (5, true), (6, true), (9, true), (10, true), (11, true), (7, true), (12, true), (8, true), (13, true), (14, true), (15, true), (16, true)], .stage [] (some 17), .stage [18, 19] none])], loops := [(7, [(6, .one (.int .i64)), (7, .one (.int .i64))], []), (4, [(4, .one (.slice)), (5, .one (.int .i64))], [])] } F.errataref28_Consolidate #[.slice lP lN lC] R Φ J = Berrataref28_Consolidate lP lN lC W R Φ J by kernel_rfl]; exact h) c

/-- errataref03.RowBytes -/
-- loop at region 3: 3 s, 4 i; blocks 
def Berrataref03_RowBytes (rP : Option Addr) (rN rC : Nat) (W : World) (R : List Own) (Φ : PW) (J : Value → World → Prop) : Prop :=
  ∀ (w0 : World) (R1 : List Own), Ctx W w0 (R ++ R1) Φ → Calls Tryz.prog F.errataref01_Num #[Value.int IntKind.i64 (↑rN : Int)] w0 fun (e2 : Ending) (w3 : World) => ∃ (s4 : ByteArray), e2 =
  Ending.returned (Value.string s4) ∧ ∃ (R5 : List Own), ∃ (Φ6 : PW), Stable Φ6 ∧ Ctx W w3 (R5 ++ R1) Φ6 ∧ exI fun (I7 : ByteArray → Int → List Own → PW → Nat → Prop) => (∃ (R8 : List Own), ∃
  (Φ9 : PW), ∃ (k10 : Nat), Stable Φ9 ∧ (∀ (w11 : World) (R12 : List Own), Ctx W w11 (R5 ++ R12) Φ6 → Ctx W w11 (R8 ++ R12) Φ9) ∧ I7 s4 0 R8 Φ9 k10) ∧ ∀ (s13 : ByteArray) (n14 : Int) (R15 :
  List Own) (I16 : List Nat → World → Prop) (k17 : Nat), Stable I16 → I7 s13 n14 R15 I16 k17 → Br (decide (n14 < (↑rN : Int))) ((0 ≤ n14 ∧ n14 < (↑rN : Int)) ∧ ptrK none rP fun (k18 k19 :
  Nat) => ∀ (w20 : World) (R21 : List Own), Ctx W w20 (R15 ++ R21) I16 → ∃ (n22 : Int), ∃ (n23 : Int), ∃ (s24 : ByteArray), RowAt w20 k18 (k19 + n14.toNat * 3) [Value.int IntKind.i64 n22,
  Value.int IntKind.i64 n23, Value.string s24] ∧ ∀ (w25 : World) (R26 : List Own), Ctx W w25 (R15 ++ R26) I16 → Calls Tryz.prog F.errataref03_Bytes #[Value.agg #[Value.int IntKind.i64 n22,
  Value.int IntKind.i64 n23, Value.string s24]] w25 fun (e27 : Ending) (w28 : World) => ∃ (s29 : ByteArray), e27 = Ending.returned (Value.string s29) ∧ ∃ (R30 : List Own), ∃ (Φ31 : PW),
  Stable Φ31 ∧ Ctx W w28 (R30 ++ R26) Φ31 ∧ (s13.size + s29.size).le 9223372036854775807 ∧ I64 (n14 + 1) ∧ ∃ (R32 : List Own), ∃ (Φ33 : PW), ∃ (k34 : Nat), Stable Φ33 ∧ (∀ (w35 : World) (R36
  : List Own), Ctx W w35 (R30 ++ R36) Φ31 → Ctx W w35 (R32 ++ R36) Φ33) ∧ I7 (s13 ++ s29) (n14 + 1) R32 Φ33 k34 ∧ k34 < k17) (∀ (w37 : World) (R38 : List Own), Ctx W w37 (R15 ++ R38) I16 → J
  (Value.string s13) w37)

theorem Berrataref03_RowBytes_run (rP : Option Addr) (rN rC : Nat) {W w : World} {R : List Own} {Φ : PW} [Stable Φ] {J : Value → World → Prop} (c : Ctx W w R Φ) (h : Berrataref03_RowBytes rP rN rC W R Φ J) : Calls Tryz.prog F.errataref03_RowBytes #[.slice rP rN rC] w fun e w' => ∃ v, e = .returned v ∧ J v w' :=
  vcFS_sound (H := { keep := some [0, 2, 3, 4, 11], loops := [(3, [(3, .one (.str)), (4, .one (.int .i64))], [])] }) (by rw [show vcFS Tryz.prog W { keep := some [0, 2, 3, 4, 11], loops := [(3, [(3, .one (.str)), (4, .one (.int .i64))], [])] } F.errataref03_RowBytes #[.slice rP rN rC] R Φ J = Berrataref03_RowBytes rP rN rC W R Φ J by kernel_rfl]; exact h) c

/-- errataref28.sorted -/
-- loop at region 8: 5 out, 6 i, 7 k; blocks 
def Berrataref28_sorted (lP : Option Addr) (lN lC : Nat) (W : World) (R : List Own) (Φ : PW) (J : Value → World → Prop) : Prop :=
  Br (decide ((↑lN : Int) < 2)) (∀ (w0 : World) (R1 : List Own), Ctx W w0 (R ++ R1) Φ → J (Value.slice lP lN lC) w0) (((2 : Int) = 0 → False) ∧ I64 ((↑lN : Int).tdiv 2) ∧ (0 ≤ (↑lN :
  Int).tdiv 2 ∧ (↑lN : Int).tdiv 2 ≤ (↑lC : Int)) ∧ ∀ (w2 : World) (R3 : List Own), Ctx W w2 (R ++ R3) Φ → Calls Tryz.prog F.errataref28_sorted #[Value.slice (subPtr lP 3 0 lC) ((↑lN :
  Int).tdiv 2).toNat lC] w2 fun (e4 : Ending) (w5 : World) => ∃ (p6 : Option Addr), ∃ (k7 : Nat), ∃ (k8 : Nat), e4 = Ending.returned (Value.slice p6 k7 k8) ∧ ∃ (R9 : List Own), ∃ (Φ10 : PW),
  Stable Φ10 ∧ Ctx W w5 (R9 ++ R3) Φ10 ∧ ((2 : Int) = 0 → False) ∧ I64 ((↑lN : Int).tdiv 2) ∧ (0 ≤ (↑lN : Int).tdiv 2 ∧ (↑lN : Int).tdiv 2 ≤ (↑lN : Int) ∧ lN ≤ lC) ∧ ∀ (w11 : World) (R12 :
  List Own), Ctx W w11 (R9 ++ R12) Φ10 → Calls Tryz.prog F.errataref28_sorted #[Value.slice (subPtr lP 3 ((↑lN : Int).tdiv 2).toNat lC) (lN - ((↑lN : Int).tdiv 2).toNat) (lC - ((↑lN :
  Int).tdiv 2).toNat)] w11 fun (e13 : Ending) (w14 : World) => ∃ (p15 : Option Addr), ∃ (k16 : Nat), ∃ (k17 : Nat), e13 = Ending.returned (Value.slice p15 k16 k17) ∧ ∃ (R18 : List Own), ∃
  (Φ19 : PW), Stable Φ19 ∧ Ctx W w14 (R18 ++ R12) Φ19 ∧ exI fun (I20 : Option Addr → Nat → Nat → Int → Int → List Own → PW → Nat → Prop) => (∃ (R21 : List Own), ∃ (Φ22 : PW), ∃ (k23 : Nat),
  Stable Φ22 ∧ (∀ (w24 : World) (R25 : List Own), Ctx W w24 (R18 ++ R25) Φ19 → Ctx W w24 (R21 ++ R25) Φ22) ∧ I20 none 0 0 0 0 R21 Φ22 k23) ∧ ∀ (p26 : Option Addr) (k27 k28 : Nat) (n29 n30 :
  Int) (R31 : List Own) (I32 : List Nat → World → Prop) (k33 : Nat), Stable I32 → I20 p26 k27 k28 n29 n30 R31 I32 k33 → ∀ (w34 : World) (R35 : List Own), Ctx W w34 (R31 ++ R35) I32 → Br
  (decide (n29 < (↑k7 : Int)) || decide (n30 < (↑k16 : Int))) (∀ (w36 : World) (R37 : List Own), Ctx W w36 (R31 ++ R37) I32 → Br (decide (n29 < (↑k7 : Int)) && decide (n30 < (↑k16 : Int))) (∃
  (R38 : List Own), ∃ (Φ39 : PW), Stable Φ39 ∧ (∀ (w40 : World) (R41 : List Own), Ctx W w40 (R31 ++ R41) I32 → Ctx W w40 (R38 ++ R41) Φ39) ∧ (0 ≤ n29 ∧ n29 < (↑k7 : Int)) ∧ ptrK none p6 fun
  (k42 k43 : Nat) => (0 ≤ n30 ∧ n30 < (↑k16 : Int)) ∧ ptrK none p15 fun (k44 k45 : Nat) => ∃ (n46 : Int), ∃ (p47 : Option Addr), ∃ (k48 : Nat), ∃ (k49 : Nat), ∃ (n50 : Int), (∀ (w51 : World)
  (R52 : List Own), Ctx W w51 (R38 ++ R52) Φ39 → ∃ (n53 : Int), ∃ (p54 : Option Addr), ∃ (k55 : Nat), ∃ (k56 : Nat), ∃ (n57 : Int), RowAt w51 k42 (k43 + n29.toNat * 3) [Value.int IntKind.i64
  n53, Value.slice p54 k55 k56, Value.int IntKind.i64 n57] ∧ Value.agg #[Value.int IntKind.i64 n53, Value.slice p54 k55 k56, Value.int IntKind.i64 n57] = Value.agg #[Value.int IntKind.i64
  n46, Value.slice p47 k48 k49, Value.int IntKind.i64 n50]) ∧ ∃ (n58 : Int), ∃ (p59 : Option Addr), ∃ (k60 : Nat), ∃ (k61 : Nat), ∃ (n62 : Int), (∀ (w63 : World) (R64 : List Own), Ctx W w63
  (R38 ++ R64) Φ39 → ∃ (n65 : Int), ∃ (p66 : Option Addr), ∃ (k67 : Nat), ∃ (k68 : Nat), ∃ (n69 : Int), RowAt w63 k44 (k45 + n30.toNat * 3) [Value.int IntKind.i64 n65, Value.slice p66 k67
  k68, Value.int IntKind.i64 n69] ∧ Value.agg #[Value.int IntKind.i64 n65, Value.slice p66 k67 k68, Value.int IntKind.i64 n69] = Value.agg #[Value.int IntKind.i64 n58, Value.slice p59 k60
  k61, Value.int IntKind.i64 n62]) ∧ ∀ (w70 : World) (R71 : List Own), Ctx W w70 (R31 ++ R71) I32 → Calls Tryz.prog F.errataref28_Compare #[Value.agg #[Value.int IntKind.i64 n46, Value.slice
  p47 k48 k49, Value.int IntKind.i64 n50], Value.agg #[Value.int IntKind.i64 n58, Value.slice p59 k60 k61, Value.int IntKind.i64 n62]] w70 fun (e72 : Ending) (w73 : World) => ∃ (n74 : Int),
  e72 = Ending.returned (Value.int IntKind.i64 n74) ∧ ∃ (R75 : List Own), ∃ (Φ76 : PW), Stable Φ76 ∧ Ctx W w73 (R75 ++ R71) Φ76 ∧ Br (decide (n74 ≤ 0)) ((0 ≤ n29 ∧ n29 < (↑k7 : Int)) ∧ ptrK
  none p6 fun (k77 k78 : Nat) => ∀ (w79 : World) (R80 : List Own), Ctx W w79 (R75 ++ R80) Φ76 → ∃ (n81 : Int), ∃ (p82 : Option Addr), ∃ (k83 : Nat), ∃ (k84 : Nat), ∃ (n85 : Int), RowAt w79
  k77 (k78 + n29.toNat * 3) [Value.int IntKind.i64 n81, Value.slice p82 k83 k84, Value.int IntKind.i64 n85] ∧ ∀ (k86 : Nat) (w87 : World) (R88 : List Own), Ctx W w87 (Own.blk k86 [Value.int
  IntKind.i64 n81, Value.slice p82 k83 k84, Value.int IntKind.i64 n85] 62 :: R75 ++ R88) Φ76 → ∃ (p89 : Option Addr), ∃ (k90 : Nat), ∃ (k91 : Nat), ∃ (w92 : World), Sem.run Tryz.prog (builtin
  Builtin.append #[30, 30] 30 #[false, false] #[Value.slice p26 k27 k28, Value.slice (some (Addr.mk k86 0 none)) 1 1]) w87 = Result.ok (Next.value (Value.slice p89 k90 k91)) w92 ∧ ∃ (R93 :
  List Own), ∃ (Φ94 : PW), Stable Φ94 ∧ Ctx W w92 (R93 ++ R88) Φ94 ∧ I64 (n29 + 1) ∧ ∃ (R95 : List Own), ∃ (Φ96 : PW), ∃ (k97 : Nat), Stable Φ96 ∧ (∀ (w98 : World) (R99 : List Own), Ctx W w98
  (R93 ++ R99) Φ94 → Ctx W w98 (R95 ++ R99) Φ96) ∧ I20 p89 k90 k91 (n29 + 1) n30 R95 Φ96 k97 ∧ k97 < k33) ((0 ≤ n30 ∧ n30 < (↑k16 : Int)) ∧ ptrK none p15 fun (k100 k101 : Nat) => ∀ (w102 :
  World) (R103 : List Own), Ctx W w102 (R75 ++ R103) Φ76 → ∃ (n104 : Int), ∃ (p105 : Option Addr), ∃ (k106 : Nat), ∃ (k107 : Nat), ∃ (n108 : Int), RowAt w102 k100 (k101 + n30.toNat * 3)
  [Value.int IntKind.i64 n104, Value.slice p105 k106 k107, Value.int IntKind.i64 n108] ∧ ∀ (k109 : Nat) (w110 : World) (R111 : List Own), Ctx W w110 (Own.blk k109 [Value.int IntKind.i64 n104,
  Value.slice p105 k106 k107, Value.int IntKind.i64 n108] 62 :: R75 ++ R111) Φ76 → ∃ (p112 : Option Addr), ∃ (k113 : Nat), ∃ (k114 : Nat), ∃ (w115 : World), Sem.run Tryz.prog (builtin
  Builtin.append #[30, 30] 30 #[false, false] #[Value.slice p26 k27 k28, Value.slice (some (Addr.mk k109 0 none)) 1 1]) w110 = Result.ok (Next.value (Value.slice p112 k113 k114)) w115 ∧ ∃
  (R116 : List Own), ∃ (Φ117 : PW), Stable Φ117 ∧ Ctx W w115 (R116 ++ R111) Φ117 ∧ I64 (n30 + 1) ∧ ∃ (R118 : List Own), ∃ (Φ119 : PW), ∃ (k120 : Nat), Stable Φ119 ∧ (∀ (w121 : World) (R122 :
  List Own), Ctx W w121 (R116 ++ R122) Φ117 → Ctx W w121 (R118 ++ R122) Φ119) ∧ I20 p112 k113 k114 n29 (n30 + 1) R118 Φ119 k120 ∧ k120 < k33)) (Br (decide ((↑k16 : Int) ≤ n30)) ((0 ≤ n29 ∧
  n29 < (↑k7 : Int)) ∧ ptrK none p6 fun (k123 k124 : Nat) => ∀ (w125 : World) (R126 : List Own), Ctx W w125 (R31 ++ R126) I32 → ∃ (n127 : Int), ∃ (p128 : Option Addr), ∃ (k129 : Nat), ∃ (k130
  : Nat), ∃ (n131 : Int), RowAt w125 k123 (k124 + n29.toNat * 3) [Value.int IntKind.i64 n127, Value.slice p128 k129 k130, Value.int IntKind.i64 n131] ∧ ∀ (k132 : Nat) (w133 : World) (R134 :
  List Own), Ctx W w133 (Own.blk k132 [Value.int IntKind.i64 n127, Value.slice p128 k129 k130, Value.int IntKind.i64 n131] 62 :: R31 ++ R134) I32 → ∃ (p135 : Option Addr), ∃ (k136 : Nat), ∃
  (k137 : Nat), ∃ (w138 : World), Sem.run Tryz.prog (builtin Builtin.append #[30, 30] 30 #[false, false] #[Value.slice p26 k27 k28, Value.slice (some (Addr.mk k132 0 none)) 1 1]) w133 =
  Result.ok (Next.value (Value.slice p135 k136 k137)) w138 ∧ ∃ (R139 : List Own), ∃ (Φ140 : PW), Stable Φ140 ∧ Ctx W w138 (R139 ++ R134) Φ140 ∧ I64 (n29 + 1) ∧ ∃ (R141 : List Own), ∃ (Φ142 :
  PW), ∃ (k143 : Nat), Stable Φ142 ∧ (∀ (w144 : World) (R145 : List Own), Ctx W w144 (R139 ++ R145) Φ140 → Ctx W w144 (R141 ++ R145) Φ142) ∧ I20 p135 k136 k137 (n29 + 1) n30 R141 Φ142 k143 ∧
  k143 < k33) ((0 ≤ n30 ∧ n30 < (↑k16 : Int)) ∧ ptrK none p15 fun (k146 k147 : Nat) => ∀ (w148 : World) (R149 : List Own), Ctx W w148 (R31 ++ R149) I32 → ∃ (n150 : Int), ∃ (p151 : Option
  Addr), ∃ (k152 : Nat), ∃ (k153 : Nat), ∃ (n154 : Int), RowAt w148 k146 (k147 + n30.toNat * 3) [Value.int IntKind.i64 n150, Value.slice p151 k152 k153, Value.int IntKind.i64 n154] ∧ ∀ (k155
  : Nat) (w156 : World) (R157 : List Own), Ctx W w156 (Own.blk k155 [Value.int IntKind.i64 n150, Value.slice p151 k152 k153, Value.int IntKind.i64 n154] 62 :: R31 ++ R157) I32 → ∃ (p158 :
  Option Addr), ∃ (k159 : Nat), ∃ (k160 : Nat), ∃ (w161 : World), Sem.run Tryz.prog (builtin Builtin.append #[30, 30] 30 #[false, false] #[Value.slice p26 k27 k28, Value.slice (some (Addr.mk
  k155 0 none)) 1 1]) w156 = Result.ok (Next.value (Value.slice p158 k159 k160)) w161 ∧ ∃ (R162 : List Own), ∃ (Φ163 : PW), Stable Φ163 ∧ Ctx W w161 (R162 ++ R157) Φ163 ∧ I64 (n30 + 1) ∧ ∃
  (R164 : List Own), ∃ (Φ165 : PW), ∃ (k166 : Nat), Stable Φ165 ∧ (∀ (w167 : World) (R168 : List Own), Ctx W w167 (R162 ++ R168) Φ163 → Ctx W w167 (R164 ++ R168) Φ165) ∧ I20 p158 k159 k160
  n29 (n30 + 1) R164 Φ165 k166 ∧ k166 < k33))) (∀ (w169 : World) (R170 : List Own), Ctx W w169 (R31 ++ R170) I32 → J (Value.slice p26 k27 k28) w169))

theorem Berrataref28_sorted_run (lP : Option Addr) (lN lC : Nat) {W w : World} {R : List Own} {Φ : PW} [Stable Φ] {J : Value → World → Prop} (c : Ctx W w R Φ) (h : Berrataref28_sorted lP lN lC W R Φ J) : Calls Tryz.prog F.errataref28_sorted #[.slice lP lN lC] w fun e w' => ∃ v, e = .returned v ∧ J v w' :=
  vcFS_sound (H := { keep := some [0, 2, 3, 4, 5, 6, 7, 8, 11, 34, 48, 59], stages := [(11, [.held [(0, true), (1, true), (4, true), (5, true), (2, true), (6, true), (3, true), (7, true)], .stage [] (some 8), .stage [9, 10] none])], loops := [(8, [(5, .one (.slice)), (6, .one (.int .i64)), (7, .one (.int .i64))], [])] }) (by rw [show vcFS Tryz.prog W { keep := some [0, 2, 3, 4, 5, 6, 7, 8, 11, 34, 48, 59], stages := [(11, [.held [(0, true), (1, true), (4, true), (5, true), (2, true), (6, true), (3, true), (7, true)], .stage [] (some 8), .stage [9, 10] none])], loops := [(8, [(5, .one (.slice)), (6, .one (.int .i64)), (7, .one (.int .i64))], [])] } F.errataref28_sorted #[.slice lP lN lC] R Φ J = Berrataref28_sorted lP lN lC W R Φ J by kernel_rfl]; exact h) c

/-- errataref28.clone -/
-- known blocks: 2 d, 4 
def Berrataref28_clone (d0 : Int) (d1P : Option Addr) (d1N d1C : Nat) (d2 : Int) (n : Int) (W : World) (R : List Own) (Φ : PW) (J : Value → World → Prop) : Prop :=
  ∀ (b b : Nat), ∃ (R0 : List Own), ∃ (Φ1 : PW), Stable Φ1 ∧ (∀ (w2 : World) (R3 : List Own), Ctx W w2 (R ++ R3) Φ → Ctx W w2 (R0 ++ R3) Φ1) ∧ ∀ (k4 : Nat), (∀ (w5 : World) (R6 : List Own),
  Ctx W w5 (Own.blk k4 [] 83 :: R ++ R6) Φ → Ctx W w5 (R0 ++ R6) Φ1) ∧ ∀ (w7 : World) (R8 : List Own), Ctx W w7 (Own.blk k4 [] 83 :: R ++ R8) Φ → ∃ (p9 : Option Addr), ∃ (k10 : Nat), ∃ (k11 :
  Nat), ∃ (w12 : World), Sem.run Tryz.prog (builtin Builtin.append #[60, 60] 60 #[false, false] #[Value.slice (some (Addr.mk k4 0 none)) 0 0, Value.slice d1P d1N d1C]) w7 = Result.ok
  (Next.value (Value.slice p9 k10 k11)) w12 ∧ ∃ (R13 : List Own), ∃ (Φ14 : PW), Stable Φ14 ∧ Ctx W w12 (R13 ++ R8) Φ14 ∧ (∀ (w15 : World) (R16 : List Own), Ctx W w15 (R13 ++ R16) Φ14 → Ctx W
  w15 (R0 ++ R16) Φ1) ∧ ∀ (w17 : World) (R18 : List Own), Ctx W w17 (R13 ++ R18) Φ14 → J (Value.agg #[Value.int IntKind.i64 d0, Value.slice p9 k10 k11, Value.int IntKind.i64 n]) w17

theorem Berrataref28_clone_run (d0 : Int) (d1P : Option Addr) (d1N d1C : Nat) (d2 : Int) (n : Int) {W w : World} {R : List Own} {Φ : PW} [Stable Φ] {J : Value → World → Prop} (c : Ctx W w R Φ) (h : Berrataref28_clone d0 d1P d1N d1C d2 n W R Φ J) : Calls Tryz.prog F.errataref28_clone #[.agg #[.int .i64 d0, .slice d1P d1N d1C, .int .i64 d2], .int .i64 n] w fun e w' => ∃ v, e = .returned v ∧ J v w' :=
  vcFS_sound (H := { keep := some [1, 2, 4], track := [2, 4], stages := [(1, [.held [(0, true), (3, true), (6, true), (1, true), (4, true), (2, false), (5, false)], .stage [7] (some 8)])] }) (by rw [show vcFS Tryz.prog W { keep := some [1, 2, 4], track := [2, 4], stages := [(1, [.held [(0, true), (3, true), (6, true), (1, true), (4, true), (2, false), (5, false)], .stage [7] (some 8)])] } F.errataref28_clone #[.agg #[.int .i64 d0, .slice d1P d1N d1C, .int .i64 d2], .int .i64 n] R Φ J = Berrataref28_clone d0 d1P d1N d1C d2 n W R Φ J by kernel_rfl]; exact h) c

/-- errataref03.Bytes -/
-- known blocks: 1 v
def Berrataref03_Bytes (v0 : Int) (v1 : Int) (v2 : ByteArray) (W : World) (R : List Own) (Φ : PW) (J : Value → World → Prop) : Prop :=
  ∀ (b : Nat), ∃ (R0 : List Own), ∃ (Φ1 : PW), Stable Φ1 ∧ (∀ (w2 : World) (R3 : List Own), Ctx W w2 (R ++ R3) Φ → Ctx W w2 (R0 ++ R3) Φ1) ∧ ∀ (w4 : World) (R5 : List Own), Ctx W w4 (R ++ R5)
  Φ → Calls Tryz.prog F.errataref01_Int #[Value.int IntKind.i64 v0] w4 fun (e6 : Ending) (w7 : World) => ∃ (s8 : ByteArray), e6 = Ending.returned (Value.string s8) ∧ ∃ (R9 : List Own), ∃ (Φ10
  : PW), Stable Φ10 ∧ Ctx W w7 (R9 ++ R5) Φ10 ∧ (∀ (w11 : World) (R12 : List Own), Ctx W w11 (R9 ++ R12) Φ10 → Ctx W w11 (R0 ++ R12) Φ1) ∧ ∀ (w13 : World) (R14 : List Own), Ctx W w13 (R9 ++
  R14) Φ10 → Calls Tryz.prog F.errataref01_Int #[Value.int IntKind.i64 v1] w13 fun (e15 : Ending) (w16 : World) => ∃ (s17 : ByteArray), e15 = Ending.returned (Value.string s17) ∧ ∃ (R18 :
  List Own), ∃ (Φ19 : PW), Stable Φ19 ∧ Ctx W w16 (R18 ++ R14) Φ19 ∧ (∀ (w20 : World) (R21 : List Own), Ctx W w20 (R18 ++ R21) Φ19 → Ctx W w20 (R0 ++ R21) Φ1) ∧ (s8.size + s17.size).le
  9223372036854775807 ∧ ∀ (w22 : World) (R23 : List Own), Ctx W w22 (R18 ++ R23) Φ19 → Calls Tryz.prog F.errataref01_Text #[Value.string v2] w22 fun (e24 : Ending) (w25 : World) => ∃ (s26 :
  ByteArray), e24 = Ending.returned (Value.string s26) ∧ ∃ (R27 : List Own), ∃ (Φ28 : PW), Stable Φ28 ∧ Ctx W w25 (R27 ++ R23) Φ28 ∧ (∀ (w29 : World) (R30 : List Own), Ctx W w29 (R27 ++ R30)
  Φ28 → Ctx W w29 (R0 ++ R30) Φ1) ∧ ((s8 ++ s17).size + s26.size).le 9223372036854775807 ∧ ∀ (w31 : World) (R32 : List Own), Ctx W w31 (R27 ++ R32) Φ28 → J (Value.string (s8 ++ s17 ++ s26))
  w31

theorem Berrataref03_Bytes_run (v0 : Int) (v1 : Int) (v2 : ByteArray) {W w : World} {R : List Own} {Φ : PW} [Stable Φ] {J : Value → World → Prop} (c : Ctx W w R Φ) (h : Berrataref03_Bytes v0 v1 v2 W R Φ J) : Calls Tryz.prog F.errataref03_Bytes #[.agg #[.int .i64 v0, .int .i64 v1, .string v2]] w fun e w' => ∃ v, e = .returned v ∧ J v w' :=
  vcFS_sound (H := { keep := some [1, 2], track := [1], stages := [(1, [.held [(0, true), (3, true), (7, true), (1, true), (4, true), (8, true), (2, false), (5, false), (6, true), (9, false)], .stage [10, 11] none])] }) (by rw [show vcFS Tryz.prog W { keep := some [1, 2], track := [1], stages := [(1, [.held [(0, true), (3, true), (7, true), (1, true), (4, true), (8, true), (2, false), (5, false), (6, true), (9, false)], .stage [10, 11] none])] } F.errataref03_Bytes #[.agg #[.int .i64 v0, .int .i64 v1, .string v2]] R Φ J = Berrataref03_Bytes v0 v1 v2 W R Φ J by kernel_rfl]; exact h) c

end Go.Proofs.YtfpgbejdlikpgaaGreatDoor
end

