/-
  The conditions of the walks of some functions, one formula each; 'B<f>_run' says that they suffice. The formulas are printed by a program; the kernel compares them with the functions' code.
-/
import Derived.Test.YticgmbmghnikeaaBa
namespace Go.Proofs.Yticgmbmghnikeaa
set_option linter.unusedVariables false
set_option linter.unusedSimpArgs false
set_option maxRecDepth 100000
open Go.Vc

/-- erratalaw36.ChannelOrder -/
-- loop at region 8: 5 sent, 6 taken, 7 i; blocks 
-- cut 28: 14 full; blocks 
-- cut 30: ; blocks 
-- cut 32: 5 sent; blocks 
-- known blocks: 8 first, 10 m, 12 m
def Berratalaw36_ChannelOrder (lP : Option Addr) (lN lC : Nat) (W : World) (R : List Own) (Φ : PW) (J : Value → World → Prop) : Prop :=
  ∀ (w0 : World) (R1 : List Own), Ctx W w0 (R ++ R1) Φ → Calls Try.prog F.erratalaw36_small #[] w0 fun (e2 : Ending) (w3 : World) => ∃ (c4 : Bool), e2 = Ending.returned (Value.bool c4) ∧ ∃
  (R5 : List Own), ∃ (Φ6 : PW), Stable Φ6 ∧ Ctx W w3 (R5 ++ R1) Φ6 ∧ ∀ (w7 : World) (R8 : List Own), Ctx W w7 (R5 ++ R8) Φ6 → Calls Try.prog F.channel_New #[] w7 fun (e9 : Ending) (w10 :
  World) => ∃ (p11 : Option Addr), e9 = Ending.returned (Value.pointer p11) ∧ ∃ (R12 : List Own), ∃ (Φ13 : PW), Stable Φ13 ∧ Ctx W w10 (R12 ++ R8) Φ13 ∧ ∀ (w14 : World) (R15 : List Own), Ctx
  W w14 (R12 ++ R15) Φ13 → Calls Try.prog F.erratalaw36_few #[Value.slice lP lN lC, Value.int IntKind.i64 150] w14 fun (e16 : Ending) (w17 : World) => ∃ (c18 : Bool), e16 = Ending.returned
  (Value.bool c18) ∧ ∃ (R19 : List Own), ∃ (Φ20 : PW), Stable Φ20 ∧ Ctx W w17 (R19 ++ R15) Φ20 ∧ Br (!c18) (∀ (w21 : World) (R22 : List Own), Ctx W w21 (R19 ++ R22) Φ20 → ∀ (w23 : World) (R24
  : List Own), Ctx W w23 (R19 ++ R24) Φ20 → J (Value.bool (c4 && !p11.isNone)) w23) (Br p11.isNone (∀ (w25 : World) (R26 : List Own), Ctx W w25 (R19 ++ R26) Φ20 → ∀ (w27 : World) (R28 : List
  Own), Ctx W w27 (R19 ++ R28) Φ20 → J (Value.bool (c4 && !p11.isNone)) w27) (exI fun (I29 : Option Addr → Nat → Nat → Int → Int → List Own → PW → Nat → Prop) => (∃ (R30 : List Own), ∃ (Φ31 :
  PW), ∃ (k32 : Nat), Stable Φ31 ∧ (∀ (w33 : World) (R34 : List Own), Ctx W w33 (R19 ++ R34) Φ20 → Ctx W w33 (R30 ++ R34) Φ31) ∧ I29 none 0 0 0 0 R30 Φ31 k32) ∧ ∀ (p35 : Option Addr) (k36 k37
  : Nat) (n38 n39 : Int) (R40 : List Own) (I41 : List Nat → World → Prop) (k42 : Nat), Stable I41 → I29 p35 k36 k37 n38 n39 R40 I41 k42 → Br (decide (n39 < (↑lN : Int))) ((0 ≤ n39 ∧ n39 <
  (↑lN : Int)) ∧ ptrK none lP fun (k43 k44 : Nat) => ∀ (w45 : World) (R46 : List Own), Ctx W w45 (R40 ++ R46) I41 → ∃ (n47 : Int), ∃ (n48 : Int), ∃ (n49 : Int), ∃ (n50 : Int), ∃ (n51 : Int),
  ∃ (p52 : Option Addr), ∃ (k53 : Nat), ∃ (k54 : Nat), RowAt w45 k43 (k44 + n39.toNat * 7 + 1) [Value.int IntKind.i64 n47, Value.int IntKind.i64 n48, Value.int IntKind.i64 n49, Value.int
  IntKind.i64 n50, Value.int IntKind.i64 n51, Value.slice p52 k53 k54] ∧ ∀ (w55 : World) (R56 : List Own), Ctx W w55 (R40 ++ R56) I41 → Calls Try.prog F.erratalaw36_right #[Value.agg
  #[Value.int IntKind.i64 n47, Value.int IntKind.i64 n48, Value.int IntKind.i64 n49, Value.int IntKind.i64 n50, Value.int IntKind.i64 n51, Value.slice p52 k53 k54]] w55 fun (e57 : Ending)
  (w58 : World) => ∃ (c59 : Bool), e57 = Ending.returned (Value.bool c59) ∧ ∃ (R60 : List Own), ∃ (Φ61 : PW), Stable Φ61 ∧ Ctx W w58 (R60 ++ R56) Φ61 ∧ Br (!c59) (∀ (w62 : World) (R63 : List
  Own), Ctx W w62 (R60 ++ R63) Φ61 → J (Value.bool c4) w62) (∀ (w64 : World) (R65 : List Own), Ctx W w64 (R60 ++ R65) Φ61 → Calls Try.prog F.channel_Channel_Head #[Value.pointer p11] w64 fun
  (e66 : Ending) (w67 : World) => ∃ (n68 : Int), ∃ (n69 : Int), ∃ (n70 : Int), ∃ (n71 : Int), ∃ (n72 : Int), ∃ (p73 : Option Addr), ∃ (k74 : Nat), ∃ (k75 : Nat), ∃ (c76 : Bool), e66 =
  Ending.returned (Value.tuple #[Value.agg #[Value.int IntKind.i64 n68, Value.int IntKind.i64 n69, Value.int IntKind.i64 n70, Value.int IntKind.i64 n71, Value.int IntKind.i64 n72, Value.slice
  p73 k74 k75], Value.bool c76]) ∧ ∃ (R77 : List Own), ∃ (Φ78 : PW), Stable Φ78 ∧ Ctx W w67 (R77 ++ R65) Φ78 ∧ ∀ (b : Nat), Br (c76 != decide (n38 < (↑k36 : Int))) (∀ (w79 : World) (R80 :
  List Own), Ctx W w79 (R77 ++ R80) Φ78 → J (Value.bool false) w79) ((0 ≤ n39 ∧ n39 < (↑lN : Int)) ∧ ptrK none lP fun (k81 k82 : Nat) => ∀ (w83 : World) (R84 : List Own), Ctx W w83 (R77 ++
  R84) Φ78 → ∃ (n85 : Int), w83.cell? (Addr.mk k81 (k82 + n39.toNat * 7) none) = some (Value.int IntKind.i64 n85) ∧ ∃ (n86 : Int), (∀ (w87 : World), Sem.run Try.prog (binOp BinOp.and 3
  (Value.int IntKind.i64 n85) (Value.int IntKind.i64 3)) w87 = Result.ok (Value.int IntKind.i64 n86) w87) ∧ Br (decide (n86 = 2)) (∀ (w88 : World) (R89 : List Own), Ctx W w88 (R77 ++ R89) Φ78
  → Calls Try.prog F.channel_Channel_Take #[Value.pointer p11] w88 fun (e90 : Ending) (w91 : World) => ∃ (n92 : Int), ∃ (n93 : Int), ∃ (n94 : Int), ∃ (n95 : Int), ∃ (n96 : Int), ∃ (p97 :
  Option Addr), ∃ (k98 : Nat), ∃ (k99 : Nat), ∃ (n100 : Int), e90 = Ending.returned (Value.tuple #[Value.agg #[Value.int IntKind.i64 n92, Value.int IntKind.i64 n93, Value.int IntKind.i64 n94,
  Value.int IntKind.i64 n95, Value.int IntKind.i64 n96, Value.slice p97 k98 k99], Value.int IntKind.i64 n100]) ∧ ∃ (R101 : List Own), ∃ (Φ102 : PW), Stable Φ102 ∧ Ctx W w91 (R101 ++ R89) Φ102
  ∧ ∀ (b : Nat), Br (decide (n100 = 0) != c76) (∀ (w103 : World) (R104 : List Own), Ctx W w103 (R101 ++ R104) Φ102 → J (Value.bool false) w103) (∀ (w105 : World) (R106 : List Own), Ctx W w105
  (R101 ++ R106) Φ102 → Calls Try.prog F.errataref36_Same #[Value.agg #[Value.int IntKind.i64 n92, Value.int IntKind.i64 n93, Value.int IntKind.i64 n94, Value.int IntKind.i64 n95, Value.int
  IntKind.i64 n96, Value.slice p97 k98 k99], Value.agg #[Value.int IntKind.i64 n68, Value.int IntKind.i64 n69, Value.int IntKind.i64 n70, Value.int IntKind.i64 n71, Value.int IntKind.i64 n72,
  Value.slice p73 k74 k75]] w105 fun (e107 : Ending) (w108 : World) => ∃ (c109 : Bool), e107 = Ending.returned (Value.bool c109) ∧ ∃ (R110 : List Own), ∃ (Φ111 : PW), Stable Φ111 ∧ Ctx W w108
  (R110 ++ R106) Φ111 ∧ Br (!c109) (∀ (w112 : World) (R113 : List Own), Ctx W w112 (R110 ++ R113) Φ111 → J (Value.bool false) w112) (Br c76 (∃ (R114 : List Own), ∃ (Φ115 : PW), Stable Φ115 ∧
  (∀ (w116 : World) (R117 : List Own), Ctx W w116 (R110 ++ R117) Φ111 → Ctx W w116 (R114 ++ R117) Φ115) ∧ (0 ≤ n38 ∧ n38 < (↑k36 : Int)) ∧ ptrK none p35 fun (k118 k119 : Nat) => ∀ (w120 :
  World) (R121 : List Own), Ctx W w120 (R110 ++ R121) Φ111 → ∃ (n122 : Int), ∃ (n123 : Int), ∃ (n124 : Int), ∃ (n125 : Int), ∃ (n126 : Int), ∃ (p127 : Option Addr), ∃ (k128 : Nat), ∃ (k129 :
  Nat), RowAt w120 k118 (k119 + n38.toNat * 6) [Value.int IntKind.i64 n122, Value.int IntKind.i64 n123, Value.int IntKind.i64 n124, Value.int IntKind.i64 n125, Value.int IntKind.i64 n126,
  Value.slice p127 k128 k129] ∧ ∀ (w130 : World) (R131 : List Own), Ctx W w130 (R110 ++ R131) Φ111 → Calls Try.prog F.errataref36_Same #[Value.agg #[Value.int IntKind.i64 n92, Value.int
  IntKind.i64 n93, Value.int IntKind.i64 n94, Value.int IntKind.i64 n95, Value.int IntKind.i64 n96, Value.slice p97 k98 k99], Value.agg #[Value.int IntKind.i64 n122, Value.int IntKind.i64
  n123, Value.int IntKind.i64 n124, Value.int IntKind.i64 n125, Value.int IntKind.i64 n126, Value.slice p127 k128 k129]] w130 fun (e132 : Ending) (w133 : World) => ∃ (c134 : Bool), e132 =
  Ending.returned (Value.bool c134) ∧ ∃ (R135 : List Own), ∃ (Φ136 : PW), Stable Φ136 ∧ Ctx W w133 (R135 ++ R131) Φ136 ∧ (∀ (w137 : World) (R138 : List Own), Ctx W w137 (R135 ++ R138) Φ136 →
  Ctx W w137 (R114 ++ R138) Φ115) ∧ Br (!c134) (∀ (w139 : World) (R140 : List Own), Ctx W w139 (R135 ++ R140) Φ136 → J (Value.bool false) w139) (I64 (n38 + 1) ∧ ∀ (w141 : World) (R142 : List
  Own), Ctx W w141 (R135 ++ R142) Φ136 → Calls Try.prog F.erratalaw36_spoil #[Value.agg #[Value.int IntKind.i64 n92, Value.int IntKind.i64 n93, Value.int IntKind.i64 n94, Value.int
  IntKind.i64 n95, Value.int IntKind.i64 n96, Value.slice p97 k98 k99]] w141 fun (e143 : Ending) (w144 : World) => e143 = Ending.returned (Value.tuple #[]) ∧ ∃ (R145 : List Own), ∃ (Φ146 :
  PW), Stable Φ146 ∧ Ctx W w144 (R145 ++ R142) Φ146 ∧ ∀ (w147 : World) (R148 : List Own), Ctx W w147 (R145 ++ R148) Φ146 → Calls Try.prog F.erratalaw36_spoil #[Value.agg #[Value.int
  IntKind.i64 n68, Value.int IntKind.i64 n69, Value.int IntKind.i64 n70, Value.int IntKind.i64 n71, Value.int IntKind.i64 n72, Value.slice p73 k74 k75]] w147 fun (e149 : Ending) (w150 :
  World) => e149 = Ending.returned (Value.tuple #[]) ∧ ∃ (R151 : List Own), ∃ (Φ152 : PW), Stable Φ152 ∧ Ctx W w150 (R151 ++ R148) Φ152 ∧ I64 (n39 + 1) ∧ ∃ (R153 : List Own), ∃ (Φ154 : PW), ∃
  (k155 : Nat), Stable Φ154 ∧ (∀ (w156 : World) (R157 : List Own), Ctx W w156 (R151 ++ R157) Φ152 → Ctx W w156 (R153 ++ R157) Φ154) ∧ I29 p35 k36 k37 (n38 + 1) (n39 + 1) R153 Φ154 k155 ∧ k155
  < k42)) (∀ (w158 : World) (R159 : List Own), Ctx W w158 (R110 ++ R159) Φ111 → Calls Try.prog F.erratalaw36_spoil #[Value.agg #[Value.int IntKind.i64 n92, Value.int IntKind.i64 n93,
  Value.int IntKind.i64 n94, Value.int IntKind.i64 n95, Value.int IntKind.i64 n96, Value.slice p97 k98 k99]] w158 fun (e160 : Ending) (w161 : World) => e160 = Ending.returned (Value.tuple
  #[]) ∧ ∃ (R162 : List Own), ∃ (Φ163 : PW), Stable Φ163 ∧ Ctx W w161 (R162 ++ R159) Φ163 ∧ ∀ (w164 : World) (R165 : List Own), Ctx W w164 (R162 ++ R165) Φ163 → Calls Try.prog
  F.erratalaw36_spoil #[Value.agg #[Value.int IntKind.i64 n68, Value.int IntKind.i64 n69, Value.int IntKind.i64 n70, Value.int IntKind.i64 n71, Value.int IntKind.i64 n72, Value.slice p73 k74
  k75]] w164 fun (e166 : Ending) (w167 : World) => e166 = Ending.returned (Value.tuple #[]) ∧ ∃ (R168 : List Own), ∃ (Φ169 : PW), Stable Φ169 ∧ Ctx W w167 (R168 ++ R165) Φ169 ∧ I64 (n39 + 1)
  ∧ ∃ (R170 : List Own), ∃ (Φ171 : PW), ∃ (k172 : Nat), Stable Φ171 ∧ (∀ (w173 : World) (R174 : List Own), Ctx W w173 (R168 ++ R174) Φ169 → Ctx W w173 (R170 ++ R174) Φ171) ∧ I29 p35 k36 k37
  n38 (n39 + 1) R170 Φ171 k172 ∧ k172 < k42)))) ((0 ≤ n39 ∧ n39 < (↑lN : Int)) ∧ ptrK none lP fun (k175 k176 : Nat) => ∀ (w177 : World) (R178 : List Own), Ctx W w177 (R77 ++ R178) Φ78 → ∃
  (n179 : Int), ∃ (n180 : Int), ∃ (n181 : Int), ∃ (n182 : Int), ∃ (n183 : Int), ∃ (p184 : Option Addr), ∃ (k185 : Nat), ∃ (k186 : Nat), RowAt w177 k175 (k176 + n39.toNat * 7 + 1) [Value.int
  IntKind.i64 n179, Value.int IntKind.i64 n180, Value.int IntKind.i64 n181, Value.int IntKind.i64 n182, Value.int IntKind.i64 n183, Value.slice p184 k185 k186] ∧ ∀ (w187 : World) (R188 : List
  Own), Ctx W w187 (R77 ++ R188) Φ78 → Calls Try.prog F.errataref36_Clone #[Value.agg #[Value.int IntKind.i64 n179, Value.int IntKind.i64 n180, Value.int IntKind.i64 n181, Value.int
  IntKind.i64 n182, Value.int IntKind.i64 n183, Value.slice p184 k185 k186]] w187 fun (e189 : Ending) (w190 : World) => ∃ (n191 : Int), ∃ (n192 : Int), ∃ (n193 : Int), ∃ (n194 : Int), ∃ (n195
  : Int), ∃ (p196 : Option Addr), ∃ (k197 : Nat), ∃ (k198 : Nat), e189 = Ending.returned (Value.agg #[Value.int IntKind.i64 n191, Value.int IntKind.i64 n192, Value.int IntKind.i64 n193,
  Value.int IntKind.i64 n194, Value.int IntKind.i64 n195, Value.slice p196 k197 k198]) ∧ ∃ (R199 : List Own), ∃ (Φ200 : PW), Stable Φ200 ∧ Ctx W w190 (R199 ++ R188) Φ200 ∧ ∀ (b : Nat) (w201 :
  World) (R202 : List Own), Ctx W w201 (R199 ++ R202) Φ200 → Calls Try.prog F.channel_Channel_Send #[Value.pointer p11, Value.agg #[Value.int IntKind.i64 n191, Value.int IntKind.i64 n192,
  Value.int IntKind.i64 n193, Value.int IntKind.i64 n194, Value.int IntKind.i64 n195, Value.slice p196 k197 k198]] w201 fun (e203 : Ending) (w204 : World) => ∃ (n205 : Int), e203 =
  Ending.returned (Value.int IntKind.i64 n205) ∧ ∃ (R206 : List Own), ∃ (Φ207 : PW), Stable Φ207 ∧ Ctx W w204 (R206 ++ R202) Φ207 ∧ exI fun (I208 : Bool → List Own → PW → Prop) => (I64 ((↑k36
  : Int) - n38) ∧ ∃ (R209 : List Own), ∃ (Φ210 : PW), Stable Φ210 ∧ (∀ (w211 : World) (R212 : List Own), Ctx W w211 (R206 ++ R212) Φ207 → Ctx W w211 (R209 ++ R212) Φ210) ∧ I208 (decide ((↑k36
  : Int) - n38 = 4)) R209 Φ210) ∧ ∀ (c213 : Bool) (R214 : List Own) (I215 : List Nat → World → Prop), Stable I215 → I208 c213 R214 I215 → exI fun (I216 : List Own → PW → Prop) => (∀ (w217 :
  World) (R218 : List Own), Ctx W w217 (R214 ++ R218) I215 → Calls Try.prog F.channel_Right #[Value.agg #[Value.int IntKind.i64 n191, Value.int IntKind.i64 n192, Value.int IntKind.i64 n193,
  Value.int IntKind.i64 n194, Value.int IntKind.i64 n195, Value.slice p196 k197 k198]] w217 fun (e219 : Ending) (w220 : World) => ∃ (c221 : Bool), e219 = Ending.returned (Value.bool c221) ∧ ∃
  (R222 : List Own), ∃ (Φ223 : PW), Stable Φ223 ∧ Ctx W w220 (R222 ++ R218) Φ223 ∧ Br (!c221) (Br (decide (n205 ≠ 1)) (∀ (w224 : World) (R225 : List Own), Ctx W w224 (R222 ++ R225) Φ223 → J
  (Value.bool false) w224) (∀ (w226 : World) (R227 : List Own), Ctx W w226 (R222 ++ R227) Φ223 → Calls Try.prog F.channel_Right #[Value.agg #[Value.int IntKind.i64 n191, Value.int IntKind.i64
  n192, Value.int IntKind.i64 n193, Value.int IntKind.i64 n194, Value.int IntKind.i64 n195, Value.slice p196 k197 k198]] w226 fun (e228 : Ending) (w229 : World) => ∃ (c230 : Bool), e228 =
  Ending.returned (Value.bool c230) ∧ ∃ (R231 : List Own), ∃ (Φ232 : PW), Stable Φ232 ∧ Ctx W w229 (R231 ++ R227) Φ232 ∧ Br c230 (Br (decide (n205 = 27) != c213) (∀ (w233 : World) (R234 :
  List Own), Ctx W w233 (R231 ++ R234) Φ232 → J (Value.bool false) w233) (∀ (w235 : World) (R236 : List Own), Ctx W w235 (R231 ++ R236) Φ232 → Calls Try.prog F.channel_Right #[Value.agg
  #[Value.int IntKind.i64 n191, Value.int IntKind.i64 n192, Value.int IntKind.i64 n193, Value.int IntKind.i64 n194, Value.int IntKind.i64 n195, Value.slice p196 k197 k198]] w235 fun (e237 :
  Ending) (w238 : World) => ∃ (c239 : Bool), e237 = Ending.returned (Value.bool c239) ∧ ∃ (R240 : List Own), ∃ (Φ241 : PW), Stable Φ241 ∧ Ctx W w238 (R240 ++ R236) Φ241 ∧ Br c239 (Br (!c213)
  (Br (decide (n205 ≠ 0)) (∀ (w242 : World) (R243 : List Own), Ctx W w242 (R240 ++ R243) Φ241 → J (Value.bool false) w242) (∃ (R244 : List Own), ∃ (Φ245 : PW), Stable Φ245 ∧ (∀ (w246 : World)
  (R247 : List Own), Ctx W w246 (R240 ++ R247) Φ241 → Ctx W w246 (R244 ++ R247) Φ245) ∧ I216 R244 Φ245)) (∃ (R248 : List Own), ∃ (Φ249 : PW), Stable Φ249 ∧ (∀ (w250 : World) (R251 : List
  Own), Ctx W w250 (R240 ++ R251) Φ241 → Ctx W w250 (R248 ++ R251) Φ249) ∧ I216 R248 Φ249)) (∃ (R252 : List Own), ∃ (Φ253 : PW), Stable Φ253 ∧ (∀ (w254 : World) (R255 : List Own), Ctx W w254
  (R240 ++ R255) Φ241 → Ctx W w254 (R252 ++ R255) Φ253) ∧ I216 R252 Φ253))) (∀ (w256 : World) (R257 : List Own), Ctx W w256 (R231 ++ R257) Φ232 → Calls Try.prog F.channel_Right #[Value.agg
  #[Value.int IntKind.i64 n191, Value.int IntKind.i64 n192, Value.int IntKind.i64 n193, Value.int IntKind.i64 n194, Value.int IntKind.i64 n195, Value.slice p196 k197 k198]] w256 fun (e258 :
  Ending) (w259 : World) => ∃ (c260 : Bool), e258 = Ending.returned (Value.bool c260) ∧ ∃ (R261 : List Own), ∃ (Φ262 : PW), Stable Φ262 ∧ Ctx W w259 (R261 ++ R257) Φ262 ∧ Br c260 (Br (!c213)
  (Br (decide (n205 ≠ 0)) (∀ (w263 : World) (R264 : List Own), Ctx W w263 (R261 ++ R264) Φ262 → J (Value.bool false) w263) (∃ (R265 : List Own), ∃ (Φ266 : PW), Stable Φ266 ∧ (∀ (w267 : World)
  (R268 : List Own), Ctx W w267 (R261 ++ R268) Φ262 → Ctx W w267 (R265 ++ R268) Φ266) ∧ I216 R265 Φ266)) (∃ (R269 : List Own), ∃ (Φ270 : PW), Stable Φ270 ∧ (∀ (w271 : World) (R272 : List
  Own), Ctx W w271 (R261 ++ R272) Φ262 → Ctx W w271 (R269 ++ R272) Φ270) ∧ I216 R269 Φ270)) (∃ (R273 : List Own), ∃ (Φ274 : PW), Stable Φ274 ∧ (∀ (w275 : World) (R276 : List Own), Ctx W w275
  (R261 ++ R276) Φ262 → Ctx W w275 (R273 ++ R276) Φ274) ∧ I216 R273 Φ274)))) (∀ (w277 : World) (R278 : List Own), Ctx W w277 (R222 ++ R278) Φ223 → Calls Try.prog F.channel_Right #[Value.agg
  #[Value.int IntKind.i64 n191, Value.int IntKind.i64 n192, Value.int IntKind.i64 n193, Value.int IntKind.i64 n194, Value.int IntKind.i64 n195, Value.slice p196 k197 k198]] w277 fun (e279 :
  Ending) (w280 : World) => ∃ (c281 : Bool), e279 = Ending.returned (Value.bool c281) ∧ ∃ (R282 : List Own), ∃ (Φ283 : PW), Stable Φ283 ∧ Ctx W w280 (R282 ++ R278) Φ283 ∧ Br c281 (Br (decide
  (n205 = 27) != c213) (∀ (w284 : World) (R285 : List Own), Ctx W w284 (R282 ++ R285) Φ283 → J (Value.bool false) w284) (∀ (w286 : World) (R287 : List Own), Ctx W w286 (R282 ++ R287) Φ283 →
  Calls Try.prog F.channel_Right #[Value.agg #[Value.int IntKind.i64 n191, Value.int IntKind.i64 n192, Value.int IntKind.i64 n193, Value.int IntKind.i64 n194, Value.int IntKind.i64 n195,
  Value.slice p196 k197 k198]] w286 fun (e288 : Ending) (w289 : World) => ∃ (c290 : Bool), e288 = Ending.returned (Value.bool c290) ∧ ∃ (R291 : List Own), ∃ (Φ292 : PW), Stable Φ292 ∧ Ctx W
  w289 (R291 ++ R287) Φ292 ∧ Br c290 (Br (!c213) (Br (decide (n205 ≠ 0)) (∀ (w293 : World) (R294 : List Own), Ctx W w293 (R291 ++ R294) Φ292 → J (Value.bool false) w293) (∃ (R295 : List Own),
  ∃ (Φ296 : PW), Stable Φ296 ∧ (∀ (w297 : World) (R298 : List Own), Ctx W w297 (R291 ++ R298) Φ292 → Ctx W w297 (R295 ++ R298) Φ296) ∧ I216 R295 Φ296)) (∃ (R299 : List Own), ∃ (Φ300 : PW),
  Stable Φ300 ∧ (∀ (w301 : World) (R302 : List Own), Ctx W w301 (R291 ++ R302) Φ292 → Ctx W w301 (R299 ++ R302) Φ300) ∧ I216 R299 Φ300)) (∃ (R303 : List Own), ∃ (Φ304 : PW), Stable Φ304 ∧ (∀
  (w305 : World) (R306 : List Own), Ctx W w305 (R291 ++ R306) Φ292 → Ctx W w305 (R303 ++ R306) Φ304) ∧ I216 R303 Φ304))) (∀ (w307 : World) (R308 : List Own), Ctx W w307 (R282 ++ R308) Φ283 →
  Calls Try.prog F.channel_Right #[Value.agg #[Value.int IntKind.i64 n191, Value.int IntKind.i64 n192, Value.int IntKind.i64 n193, Value.int IntKind.i64 n194, Value.int IntKind.i64 n195,
  Value.slice p196 k197 k198]] w307 fun (e309 : Ending) (w310 : World) => ∃ (c311 : Bool), e309 = Ending.returned (Value.bool c311) ∧ ∃ (R312 : List Own), ∃ (Φ313 : PW), Stable Φ313 ∧ Ctx W
  w310 (R312 ++ R308) Φ313 ∧ Br c311 (Br (!c213) (Br (decide (n205 ≠ 0)) (∀ (w314 : World) (R315 : List Own), Ctx W w314 (R312 ++ R315) Φ313 → J (Value.bool false) w314) (∃ (R316 : List Own),
  ∃ (Φ317 : PW), Stable Φ317 ∧ (∀ (w318 : World) (R319 : List Own), Ctx W w318 (R312 ++ R319) Φ313 → Ctx W w318 (R316 ++ R319) Φ317) ∧ I216 R316 Φ317)) (∃ (R320 : List Own), ∃ (Φ321 : PW),
  Stable Φ321 ∧ (∀ (w322 : World) (R323 : List Own), Ctx W w322 (R312 ++ R323) Φ313 → Ctx W w322 (R320 ++ R323) Φ321) ∧ I216 R320 Φ321)) (∃ (R324 : List Own), ∃ (Φ325 : PW), Stable Φ325 ∧ (∀
  (w326 : World) (R327 : List Own), Ctx W w326 (R312 ++ R327) Φ313 → Ctx W w326 (R324 ++ R327) Φ325) ∧ I216 R324 Φ325)))) ∧ ∀ (R328 : List Own) (I329 : List Nat → World → Prop), Stable I329 →
  I216 R328 I329 → exI fun (I330 : Option Addr → Nat → Nat → List Own → PW → Prop) => Br (decide (n205 = 0)) (∀ (w331 : World) (R332 : List Own), Ctx W w331 (R328 ++ R332) I329 → Calls
  Try.prog F.errataref36_Clone #[Value.agg #[Value.int IntKind.i64 n191, Value.int IntKind.i64 n192, Value.int IntKind.i64 n193, Value.int IntKind.i64 n194, Value.int IntKind.i64 n195,
  Value.slice p196 k197 k198]] w331 fun (e333 : Ending) (w334 : World) => ∃ (n335 : Int), ∃ (n336 : Int), ∃ (n337 : Int), ∃ (n338 : Int), ∃ (n339 : Int), ∃ (p340 : Option Addr), ∃ (k341 :
  Nat), ∃ (k342 : Nat), e333 = Ending.returned (Value.agg #[Value.int IntKind.i64 n335, Value.int IntKind.i64 n336, Value.int IntKind.i64 n337, Value.int IntKind.i64 n338, Value.int
  IntKind.i64 n339, Value.slice p340 k341 k342]) ∧ ∃ (R343 : List Own), ∃ (Φ344 : PW), Stable Φ344 ∧ Ctx W w334 (R343 ++ R332) Φ344 ∧ ∀ (k345 : Nat) (w346 : World) (R347 : List Own), Ctx W
  w346 (Own.blk k345 [Value.int IntKind.i64 n335, Value.int IntKind.i64 n336, Value.int IntKind.i64 n337, Value.int IntKind.i64 n338, Value.int IntKind.i64 n339, Value.slice p340 k341 k342]
  31 :: R343 ++ R347) Φ344 → ∃ (p348 : Option Addr), ∃ (k349 : Nat), ∃ (k350 : Nat), ∃ (w351 : World), Sem.run Try.prog (builtin Builtin.append #[22, 22] 22 #[false, false] #[Value.slice p35
  k36 k37, Value.slice (some (Addr.mk k345 0 none)) 1 1]) w346 = Result.ok (Next.value (Value.slice p348 k349 k350)) w351 ∧ ∃ (R352 : List Own), ∃ (Φ353 : PW), Stable Φ353 ∧ Ctx W w351 (R352
  ++ R347) Φ353 ∧ ∃ (R354 : List Own), ∃ (Φ355 : PW), Stable Φ355 ∧ (∀ (w356 : World) (R357 : List Own), Ctx W w356 (R352 ++ R357) Φ353 → Ctx W w356 (R354 ++ R357) Φ355) ∧ I330 p348 k349 k350
  R354 Φ355) (∃ (R358 : List Own), ∃ (Φ359 : PW), Stable Φ359 ∧ (∀ (w360 : World) (R361 : List Own), Ctx W w360 (R328 ++ R361) I329 → Ctx W w360 (R358 ++ R361) Φ359) ∧ I330 p35 k36 k37 R358
  Φ359) ∧ ∀ (p362 : Option Addr) (k363 k364 : Nat) (R365 : List Own) (I366 : List Nat → World → Prop), Stable I366 → I330 p362 k363 k364 R365 I366 → ∀ (w367 : World) (R368 : List Own), Ctx W
  w367 (R365 ++ R368) I366 → Calls Try.prog F.erratalaw36_spoil #[Value.agg #[Value.int IntKind.i64 n191, Value.int IntKind.i64 n192, Value.int IntKind.i64 n193, Value.int IntKind.i64 n194,
  Value.int IntKind.i64 n195, Value.slice p196 k197 k198]] w367 fun (e369 : Ending) (w370 : World) => e369 = Ending.returned (Value.tuple #[]) ∧ ∃ (R371 : List Own), ∃ (Φ372 : PW), Stable
  Φ372 ∧ Ctx W w370 (R371 ++ R368) Φ372 ∧ ∀ (w373 : World) (R374 : List Own), Ctx W w373 (R371 ++ R374) Φ372 → ∃ (n375 : Int), (∀ (w376 : World), w376 = w373 → Calls Try.prog
  F.channel_Channel_Len #[Value.pointer p11] w376 fun (e377 : Ending) (w378 : World) => e377 = Ending.returned (Value.int IntKind.i64 n375) ∧ w378 = w373) ∧ I64 ((↑k363 : Int) - n38) ∧ ∃
  (n379 : Int), ((!decide (n375 ≠ (↑k363 : Int) - n38)) = true → ∀ (w380 : World), w380 = w373 → Calls Try.prog F.channel_Channel_Len #[Value.pointer p11] w380 fun (e381 : Ending) (w382 :
  World) => e381 = Ending.returned (Value.int IntKind.i64 n379) ∧ w382 = w373) ∧ Br (decide (n375 ≠ (↑k363 : Int) - n38) || decide (4 < n379)) (∀ (w383 : World) (R384 : List Own), Ctx W w383
  (R371 ++ R384) Φ372 → J (Value.bool false) w383) (I64 (n39 + 1) ∧ ∃ (R385 : List Own), ∃ (Φ386 : PW), ∃ (k387 : Nat), Stable Φ386 ∧ (∀ (w388 : World) (R389 : List Own), Ctx W w388 (R371 ++
  R389) Φ372 → Ctx W w388 (R385 ++ R389) Φ386) ∧ I29 p362 k363 k364 n38 (n39 + 1) R385 Φ386 k387 ∧ k387 < k42))))) (∃ (R390 : List Own), ∃ (Φ391 : PW), Stable Φ391 ∧ (∀ (w392 : World) (R393 :
  List Own), Ctx W w392 (R40 ++ R393) I41 → Ctx W w392 (R390 ++ R393) Φ391) ∧ Br c4 ((0 ≤ n38 ∧ n38 ≤ (↑k36 : Int) ∧ k36 ≤ k37) ∧ ∀ (w394 : World) (R395 : List Own), Ctx W w394 (R40 ++ R395)
  I41 → Calls Try.prog F.channel_Channel_List #[Value.pointer p11] w394 fun (e396 : Ending) (w397 : World) => ∃ (p398 : Option Addr), ∃ (k399 : Nat), ∃ (k400 : Nat), e396 = Ending.returned
  (Value.slice p398 k399 k400) ∧ ∃ (R401 : List Own), ∃ (Φ402 : PW), Stable Φ402 ∧ Ctx W w397 (R401 ++ R395) Φ402 ∧ (∀ (w403 : World) (R404 : List Own), Ctx W w403 (R401 ++ R404) Φ402 → Ctx W
  w403 (R390 ++ R404) Φ391) ∧ ∀ (w405 : World) (R406 : List Own), Ctx W w405 (R401 ++ R406) Φ402 → Calls Try.prog F.errataref36_SameList #[Value.slice p398 k399 k400, Value.slice (subPtr p35
  6 n38.toNat k37) (k36 - n38.toNat) (k37 - n38.toNat)] w405 fun (e407 : Ending) (w408 : World) => ∃ (c409 : Bool), e407 = Ending.returned (Value.bool c409) ∧ ∃ (R410 : List Own), ∃ (Φ411 :
  PW), Stable Φ411 ∧ Ctx W w408 (R410 ++ R406) Φ411 ∧ (∀ (w412 : World) (R413 : List Own), Ctx W w412 (R410 ++ R413) Φ411 → Ctx W w412 (R390 ++ R413) Φ391) ∧ Br c409 (∀ (w414 : World) (R415 :
  List Own), Ctx W w414 (R410 ++ R415) Φ411 → Calls Try.prog F.channel_Channel_Sent #[Value.pointer p11] w414 fun (e416 : Ending) (w417 : World) => ∃ (n418 : Int), e416 = Ending.returned
  (Value.int IntKind.i64 n418) ∧ ∃ (R419 : List Own), ∃ (Φ420 : PW), Stable Φ420 ∧ Ctx W w417 (R419 ++ R415) Φ420 ∧ (∀ (w421 : World) (R422 : List Own), Ctx W w421 (R419 ++ R422) Φ420 → Ctx W
  w421 (R390 ++ R422) Φ391) ∧ ∀ (w423 : World) (R424 : List Own), Ctx W w423 (R419 ++ R424) Φ420 → J (Value.bool (decide (n418 = (↑k36 : Int)))) w423) (∀ (w425 : World) (R426 : List Own), Ctx
  W w425 (R410 ++ R426) Φ411 → J (Value.bool false) w425)) (∀ (w427 : World) (R428 : List Own), Ctx W w427 (R40 ++ R428) I41 → J (Value.bool false) w427))))

theorem Berratalaw36_ChannelOrder_run (lP : Option Addr) (lN lC : Nat) {W w : World} {R : List Own} {Φ : PW} [Stable Φ] {J : Value → World → Prop} (c : Ctx W w R Φ) (h : Berratalaw36_ChannelOrder lP lN lC W R Φ J) : Calls Try.prog F.erratalaw36_ChannelOrder #[.slice lP lN lC] w fun e w' => ∃ v, e = .returned v ∧ J v w' :=
  vcFS_sound (H := { keep := some [0, 2, 3, 4, 5, 6, 7, 8, 9, 10, 11, 12, 13, 14, 23, 32, 41, 53, 60, 75, 76, 83, 132, 134, 153], track := [8, 10, 12], stages := [(20, [.late [0, 4] [0, 1, 2, 3, 4] [(5, [6])]]), (35, [.held [(0, true), (1, true), (2, true), (4, true), (5, true), (6, true), (3, false), (7, false), (8, true), (9, true), (10, true), (12, true), (13, true), (11, false), (14, true), (15, true), (16, true)]])], split := [3, 17, 28], loops := [(8, [(5, .one (.slice)), (6, .one (.int .i64)), (7, .one (.int .i64))], [])], cuts := [(28, [(14, .one (.bool))], []), (30, [], []), (32, [(5, .one (.slice))], [])] }) (by rw [show vcFS Try.prog W { keep := some [0, 2, 3, 4, 5, 6, 7, 8, 9, 10, 11, 12, 13, 14, 23, 32, 41, 53, 60, 75, 76, 83, 132, 134, 153], track := [8, 10, 12], stages := [(20, [.late [0, 4] [0, 1, 2, 3, 4] [(5, [6])]]), (35, [.held [(0, true), (1, true), (2, true), (4, true), (5, true), (6, true), (3, false), (7, false), (8, true), (9, true), (10, true), (12, true), (13, true), (11, false), (14, true), (15, true), (16, true)]])], split := [3, 17, 28], loops := [(8, [(5, .one (.slice)), (6, .one (.int .i64)), (7, .one (.int .i64))], [])], cuts := [(28, [(14, .one (.bool))], []), (30, [], []), (32, [(5, .one (.slice))], [])] } F.erratalaw36_ChannelOrder #[.slice lP lN lC] R Φ J = Berratalaw36_ChannelOrder lP lN lC W R Φ J by kernel_rfl]; exact h) c

/-- erratalaw36.few -/
-- loop at region 2: 5 i; blocks 
def Berratalaw36_few (lP : Option Addr) (lN lC : Nat) (n : Int) (W : World) (R : List Own) (Φ : PW) (J : Value → World → Prop) : Prop :=
  exI fun (I0 : Int → List Own → PW → Nat → Prop) => (∃ (R1 : List Own), ∃ (Φ2 : PW), ∃ (k3 : Nat), Stable Φ2 ∧ (∀ (w4 : World) (R5 : List Own), Ctx W w4 (R ++ R5) Φ → Ctx W w4 (R1 ++ R5) Φ2)
  ∧ I0 0 R1 Φ2 k3) ∧ ∀ (n6 : Int) (R7 : List Own) (I8 : List Nat → World → Prop) (k9 : Nat), Stable I8 → I0 n6 R7 I8 k9 → Br (decide (n6 < (↑lN : Int))) ((0 ≤ n6 ∧ n6 < (↑lN : Int)) ∧ ptrK
  none lP fun (k10 k11 : Nat) => ∀ (w12 : World) (R13 : List Own), Ctx W w12 (R7 ++ R13) I8 → ∃ (n14 : Int), ∃ (n15 : Int), ∃ (n16 : Int), ∃ (n17 : Int), ∃ (n18 : Int), ∃ (p19 : Option Addr),
  ∃ (k20 : Nat), ∃ (k21 : Nat), RowAt w12 k10 (k11 + n6.toNat * 7 + 1) [Value.int IntKind.i64 n14, Value.int IntKind.i64 n15, Value.int IntKind.i64 n16, Value.int IntKind.i64 n17, Value.int
  IntKind.i64 n18, Value.slice p19 k20 k21] ∧ ∀ (w22 : World) (R23 : List Own), Ctx W w22 (R7 ++ R23) I8 → Calls Try.prog F.errataref36_Few #[Value.agg #[Value.int IntKind.i64 n14, Value.int
  IntKind.i64 n15, Value.int IntKind.i64 n16, Value.int IntKind.i64 n17, Value.int IntKind.i64 n18, Value.slice p19 k20 k21]] w22 fun (e24 : Ending) (w25 : World) => ∃ (c26 : Bool), e24 =
  Ending.returned (Value.bool c26) ∧ ∃ (R27 : List Own), ∃ (Φ28 : PW), Stable Φ28 ∧ Ctx W w25 (R27 ++ R23) Φ28 ∧ Br (!c26) (∀ (w29 : World) (R30 : List Own), Ctx W w29 (R27 ++ R30) Φ28 → J
  (Value.bool false) w29) (I64 (n6 + 1) ∧ ∃ (R31 : List Own), ∃ (Φ32 : PW), ∃ (k33 : Nat), Stable Φ32 ∧ (∀ (w34 : World) (R35 : List Own), Ctx W w34 (R27 ++ R35) Φ28 → Ctx W w34 (R31 ++ R35)
  Φ32) ∧ I0 (n6 + 1) R31 Φ32 k33 ∧ k33 < k9)) (∀ (w36 : World) (R37 : List Own), Ctx W w36 (R7 ++ R37) I8 → J (Value.bool (decide ((↑lN : Int) ≤ n))) w36)

theorem Berratalaw36_few_run (lP : Option Addr) (lN lC : Nat) (n : Int) {W w : World} {R : List Own} {Φ : PW} [Stable Φ] {J : Value → World → Prop} (c : Ctx W w R Φ) (h : Berratalaw36_few lP lN lC n W R Φ J) : Calls Try.prog F.erratalaw36_few #[.slice lP lN lC, .int .i64 n] w fun e w' => ∃ v, e = .returned v ∧ J v w' :=
  vcFS_sound (H := { keep := some [0, 1, 4, 5, 9, 18], loops := [(2, [(5, .one (.int .i64))], [])] }) (by rw [show vcFS Try.prog W { keep := some [0, 1, 4, 5, 9, 18], loops := [(2, [(5, .one (.int .i64))], [])] } F.erratalaw36_few #[.slice lP lN lC, .int .i64 n] R Φ J = Berratalaw36_few lP lN lC n W R Φ J by kernel_rfl]; exact h) c

/-- erratalaw36.spoil -/
-- loop at region 6: 3 n; blocks 
-- loop at region 2: 2 k; blocks 
-- known blocks: 1 m
def Berratalaw36_spoil (m0 : Int) (m1 : Int) (m2 : Int) (m3 : Int) (m4 : Int) (m5P : Option Addr) (m5N m5C : Nat) (W : World) (R : List Own) (Φ : PW) (J : Value → World → Prop) : Prop :=
  ∀ (b : Nat), exI fun (I0 : Int → List Own → PW → Nat → Prop) => (∃ (R1 : List Own), ∃ (Φ2 : PW), ∃ (k3 : Nat), Stable Φ2 ∧ (∀ (w4 : World) (R5 : List Own), Ctx W w4 (R ++ R5) Φ → Ctx W w4
  (R1 ++ R5) Φ2) ∧ I0 0 R1 Φ2 k3) ∧ ∀ (n6 : Int) (R7 : List Own) (I8 : List Nat → World → Prop) (k9 : Nat), Stable I8 → I0 n6 R7 I8 k9 → Br (decide (n6 < (↑m5N : Int))) ((0 ≤ n6 ∧ n6 < (↑m5N
  : Int)) ∧ ptrK none m5P fun (k10 k11 : Nat) => ∀ (w12 : World) (R13 : List Own), Ctx W w12 (R7 ++ R13) I8 → ∃ (n14 : Int), w12.cell? (Addr.mk k10 (k11 + n6.toNat * 3) none) = some
  (Value.int IntKind.i64 n14) ∧ (0 ≤ n6 ∧ n6 < (↑m5N : Int)) ∧ ptrK none m5P fun (k15 k16 : Nat) => ∀ (w17 : World) (R18 : List Own), Ctx W w17 (R7 ++ R18) I8 → CanWrite w17 k15 (k16 +
  n6.toNat * 3) 1 ∧ ∀ (w19 : World), w19 = w17.setCell (Addr.mk k15 (k16 + n6.toNat * 3) none) (Value.int IntKind.i64 (IntKind.i64.wrap (n14 + 1))) → ∃ (R20 : List Own), ∃ (Φ21 : PW), Stable
  Φ21 ∧ Ctx W w19 (R20 ++ R18) Φ21 ∧ exI fun (I22 : Int → List Own → PW → Nat → Prop) => (∃ (R23 : List Own), ∃ (Φ24 : PW), ∃ (k25 : Nat), Stable Φ24 ∧ (∀ (w26 : World) (R27 : List Own), Ctx
  W w26 (R20 ++ R27) Φ21 → Ctx W w26 (R23 ++ R27) Φ24) ∧ I22 0 R23 Φ24 k25) ∧ ∀ (n28 : Int) (R29 : List Own) (I30 : List Nat → World → Prop) (k31 : Nat), Stable I30 → I22 n28 R29 I30 k31 → (0
  ≤ n6 ∧ n6 < (↑m5N : Int)) ∧ ptrK none m5P fun (k32 k33 : Nat) => ∀ (w34 : World) (R35 : List Own), Ctx W w34 (R29 ++ R35) I30 → ∃ (p36 : Option Addr), ∃ (k37 : Nat), ∃ (k38 : Nat),
  w34.cell? (Addr.mk k32 (k33 + n6.toNat * 3 + 1) none) = some (Value.slice p36 k37 k38) ∧ Br (decide (n28 < (↑k37 : Int))) ((0 ≤ n6 ∧ n6 < (↑m5N : Int)) ∧ ptrK none m5P fun (k39 k40 : Nat)
  => ∀ (w41 : World) (R42 : List Own), Ctx W w41 (R29 ++ R42) I30 → ∃ (p43 : Option Addr), ∃ (k44 : Nat), ∃ (k45 : Nat), w41.cell? (Addr.mk k39 (k40 + n6.toNat * 3 + 1) none) = some
  (Value.slice p43 k44 k45) ∧ (0 ≤ n28 ∧ n28 < (↑k44 : Int)) ∧ ptrK none p43 fun (k46 k47 : Nat) => ∀ (w48 : World) (R49 : List Own), Ctx W w48 (R29 ++ R49) I30 → ∃ (n50 : Int), w48.cell?
  (Addr.mk k46 (k47 + n28.toNat * 3 + 1) none) = some (Value.int IntKind.i64 n50) ∧ (0 ≤ n28 ∧ n28 < (↑k44 : Int)) ∧ ptrK none p43 fun (k51 k52 : Nat) => ∀ (w53 : World) (R54 : List Own), Ctx
  W w53 (R29 ++ R54) I30 → CanWrite w53 k51 (k52 + n28.toNat * 3 + 1) 1 ∧ ∀ (w55 : World), w55 = w53.setCell (Addr.mk k51 (k52 + n28.toNat * 3 + 1) none) (Value.int IntKind.i64
  (IntKind.i64.wrap (n50 + 1))) → ∃ (R56 : List Own), ∃ (Φ57 : PW), Stable Φ57 ∧ Ctx W w55 (R56 ++ R54) Φ57 ∧ I64 (n28 + 1) ∧ ∃ (R58 : List Own), ∃ (Φ59 : PW), ∃ (k60 : Nat), Stable Φ59 ∧ (∀
  (w61 : World) (R62 : List Own), Ctx W w61 (R56 ++ R62) Φ57 → Ctx W w61 (R58 ++ R62) Φ59) ∧ I22 (n28 + 1) R58 Φ59 k60 ∧ k60 < k31) (I64 (n6 + 1) ∧ ∃ (R63 : List Own), ∃ (Φ64 : PW), ∃ (k65 :
  Nat), Stable Φ64 ∧ (∀ (w66 : World) (R67 : List Own), Ctx W w66 (R29 ++ R67) I30 → Ctx W w66 (R63 ++ R67) Φ64) ∧ I0 (n6 + 1) R63 Φ64 k65 ∧ k65 < k9)) (∀ (w68 : World) (R69 : List Own), Ctx
  W w68 (R7 ++ R69) I8 → J (Value.tuple #[]) w68)

theorem Berratalaw36_spoil_run (m0 : Int) (m1 : Int) (m2 : Int) (m3 : Int) (m4 : Int) (m5P : Option Addr) (m5N m5C : Nat) {W w : World} {R : List Own} {Φ : PW} [Stable Φ] {J : Value → World → Prop} (c : Ctx W w R Φ) (h : Berratalaw36_spoil m0 m1 m2 m3 m4 m5P m5N m5C W R Φ J) : Calls Try.prog F.erratalaw36_spoil #[.agg #[.int .i64 m0, .int .i64 m1, .int .i64 m2, .int .i64 m3, .int .i64 m4, .slice m5P m5N m5C]] w fun e w' => ∃ v, e = .returned v ∧ J v w' :=
  vcFS_sound (H := { keep := some [1, 2, 3, 8, 28], wrap := [17, 41], track := [1], loops := [(6, [(3, .one (.int .i64))], []), (2, [(2, .one (.int .i64))], [])] }) (by rw [show vcFS Try.prog W { keep := some [1, 2, 3, 8, 28], wrap := [17, 41], track := [1], loops := [(6, [(3, .one (.int .i64))], []), (2, [(2, .one (.int .i64))], [])] } F.erratalaw36_spoil #[.agg #[.int .i64 m0, .int .i64 m1, .int .i64 m2, .int .i64 m3, .int .i64 m4, .slice m5P m5N m5C]] R Φ J = Berratalaw36_spoil m0 m1 m2 m3 m4 m5P m5N m5C W R Φ J by kernel_rfl]; exact h) c

/-- errataref36.Clone -/
-- loop at region 4: 4 i; blocks 1 m
-- known blocks: 1 m, 2 
def Berrataref36_Clone (m0 : Int) (m1 : Int) (m2 : Int) (m3 : Int) (m4 : Int) (m5P : Option Addr) (m5N m5C : Nat) (W : World) (R : List Own) (Φ : PW) (J : Value → World → Prop) : Prop :=
  ∀ (b b : Nat), exI fun (I0 : Int → Int → Int → Int → Int → Int → Option Addr → Nat → Nat → List Own → PW → Nat → Prop) => (∃ (R1 : List Own), ∃ (Φ2 : PW), ∃ (k3 : Nat), Stable Φ2 ∧ (∀ (w4 :
  World) (R5 : List Own), Ctx W w4 (R ++ R5) Φ → Ctx W w4 (R1 ++ R5) Φ2) ∧ I0 0 m0 m1 m2 m3 m4 none 0 0 R1 Φ2 k3) ∧ ∀ (n6 n7 n8 n9 n10 n11 : Int) (p12 : Option Addr) (k13 k14 : Nat) (R15 :
  List Own) (I16 : List Nat → World → Prop) (k17 : Nat), Stable I16 → I0 n6 n7 n8 n9 n10 n11 p12 k13 k14 R15 I16 k17 → Br (decide (n6 < (↑m5N : Int))) (∃ (R18 : List Own), ∃ (Φ19 : PW),
  Stable Φ19 ∧ (∀ (w20 : World) (R21 : List Own), Ctx W w20 (R15 ++ R21) I16 → Ctx W w20 (R18 ++ R21) Φ19) ∧ (0 ≤ n6 ∧ n6 < (↑m5N : Int)) ∧ ptrK none m5P fun (k22 k23 : Nat) => (0 ≤ n6 ∧ n6 <
  (↑m5N : Int)) ∧ ptrK none m5P fun (k24 k25 : Nat) => (0 ≤ n6 ∧ n6 < (↑m5N : Int)) ∧ ptrK none m5P fun (k26 k27 : Nat) => ∃ (n28 : Int), (∀ (w29 : World) (R30 : List Own), Ctx W w29 (R18 ++
  R30) Φ19 → ∃ (n31 : Int), w29.cell? (Addr.mk k22 (k23 + n6.toNat * 3) none) = some (Value.int IntKind.i64 n31) ∧ Value.int IntKind.i64 n31 = Value.int IntKind.i64 n28) ∧ ∃ (p32 : Option
  Addr), ∃ (k33 : Nat), ∃ (k34 : Nat), (∀ (w35 : World) (R36 : List Own), Ctx W w35 (R18 ++ R36) Φ19 → ∃ (p37 : Option Addr), ∃ (k38 : Nat), ∃ (k39 : Nat), w35.cell? (Addr.mk k24 (k25 +
  n6.toNat * 3 + 1) none) = some (Value.slice p37 k38 k39) ∧ Value.slice p37 k38 k39 = Value.slice p32 k33 k34) ∧ ∃ (n40 : Int), (∀ (w41 : World) (R42 : List Own), Ctx W w41 (R18 ++ R42) Φ19
  → ∃ (n43 : Int), w41.cell? (Addr.mk k26 (k27 + n6.toNat * 3 + 2) none) = some (Value.int IntKind.i64 n43) ∧ Value.int IntKind.i64 n43 = Value.int IntKind.i64 n40) ∧ ∀ (k44 : Nat), (∀ (w45 :
  World) (R46 : List Own), Ctx W w45 (Own.blk k44 [] 58 :: R15 ++ R46) I16 → Ctx W w45 (R18 ++ R46) Φ19) ∧ ∀ (w47 : World) (R48 : List Own), Ctx W w47 (Own.blk k44 [] 58 :: R15 ++ R48) I16 →
  ∃ (p49 : Option Addr), ∃ (k50 : Nat), ∃ (k51 : Nat), ∃ (w52 : World), Sem.run Try.prog (builtin Builtin.append #[54, 54] 54 #[false, false] #[Value.slice (some (Addr.mk k44 0 none)) 0 0,
  Value.slice p32 k33 k34]) w47 = Result.ok (Next.value (Value.slice p49 k50 k51)) w52 ∧ ∃ (R53 : List Own), ∃ (Φ54 : PW), Stable Φ54 ∧ Ctx W w52 (R53 ++ R48) Φ54 ∧ (∀ (w55 : World) (R56 :
  List Own), Ctx W w55 (R53 ++ R56) Φ54 → Ctx W w55 (R18 ++ R56) Φ19) ∧ ∀ (k57 : Nat), (∀ (w58 : World) (R59 : List Own), Ctx W w58 (Own.blk k57 [Value.int IntKind.i64 n28, Value.slice p49
  k50 k51, Value.int IntKind.i64 n40] 56 :: R53 ++ R59) Φ54 → Ctx W w58 (R18 ++ R59) Φ19) ∧ ∀ (w60 : World) (R61 : List Own), Ctx W w60 (Own.blk k57 [Value.int IntKind.i64 n28, Value.slice
  p49 k50 k51, Value.int IntKind.i64 n40] 56 :: R53 ++ R61) Φ54 → ∃ (p62 : Option Addr), ∃ (k63 : Nat), ∃ (k64 : Nat), ∃ (w65 : World), Sem.run Try.prog (builtin Builtin.append #[29, 29] 29
  #[false, false] #[Value.slice p12 k13 k14, Value.slice (some (Addr.mk k57 0 none)) 1 1]) w60 = Result.ok (Next.value (Value.slice p62 k63 k64)) w65 ∧ ∃ (R66 : List Own), ∃ (Φ67 : PW),
  Stable Φ67 ∧ Ctx W w65 (R66 ++ R61) Φ67 ∧ (∀ (w68 : World) (R69 : List Own), Ctx W w68 (R66 ++ R69) Φ67 → Ctx W w68 (R18 ++ R69) Φ19) ∧ I64 (n6 + 1) ∧ ∃ (R70 : List Own), ∃ (Φ71 : PW), ∃
  (k72 : Nat), Stable Φ71 ∧ (∀ (w73 : World) (R74 : List Own), Ctx W w73 (R66 ++ R74) Φ67 → Ctx W w73 (R70 ++ R74) Φ71) ∧ I0 (n6 + 1) n7 n8 n9 n10 n11 p62 k63 k64 R70 Φ71 k72 ∧ k72 < k17) (∀
  (w75 : World) (R76 : List Own), Ctx W w75 (R15 ++ R76) I16 → J (Value.agg #[Value.int IntKind.i64 n7, Value.int IntKind.i64 n8, Value.int IntKind.i64 n9, Value.int IntKind.i64 n10,
  Value.int IntKind.i64 n11, Value.slice p12 k13 k14]) w75)

theorem Berrataref36_Clone_run (m0 : Int) (m1 : Int) (m2 : Int) (m3 : Int) (m4 : Int) (m5P : Option Addr) (m5N m5C : Nat) {W w : World} {R : List Own} {Φ : PW} [Stable Φ] {J : Value → World → Prop} (c : Ctx W w R Φ) (h : Berrataref36_Clone m0 m1 m2 m3 m4 m5P m5N m5C W R Φ J) : Calls Try.prog F.errataref36_Clone #[.agg #[.int .i64 m0, .int .i64 m1, .int .i64 m2, .int .i64 m3, .int .i64 m4, .slice m5P m5N m5C]] w fun e w' => ∃ v, e = .returned v ∧ J v w' :=
  vcFS_sound (H := { keep := some [1, 2, 3, 4, 11], track := [1, 2], stages := [(6, [.held [(0, true), (2, true), (3, true), (8, true), (9, true), (14, true), (15, true), (1, true), (4, true), (10, true), (16, true), (5, true), (11, true), (17, true), (6, true), (12, true), (18, true), (7, false), (13, false), (19, true), (20, false), (21, false), (22, true)], .stage [] (some 23)])], loops := [(4, [(4, .one (.int .i64))], [(1, .agg [.int .i64, .int .i64, .int .i64, .int .i64, .int .i64, .slice])])] }) (by rw [show vcFS Try.prog W { keep := some [1, 2, 3, 4, 11], track := [1, 2], stages := [(6, [.held [(0, true), (2, true), (3, true), (8, true), (9, true), (14, true), (15, true), (1, true), (4, true), (10, true), (16, true), (5, true), (11, true), (17, true), (6, true), (12, true), (18, true), (7, false), (13, false), (19, true), (20, false), (21, false), (22, true)], .stage [] (some 23)])], loops := [(4, [(4, .one (.int .i64))], [(1, .agg [.int .i64, .int .i64, .int .i64, .int .i64, .int .i64, .slice])])] } F.errataref36_Clone #[.agg #[.int .i64 m0, .int .i64 m1, .int .i64 m2, .int .i64 m3, .int .i64 m4, .slice m5P m5N m5C]] R Φ J = Berrataref36_Clone m0 m1 m2 m3 m4 m5P m5N m5C W R Φ J by kernel_rfl]; exact h) c

/-- (*channel.Channel).List -/
-- loop at region 3: 3 out, 9 ; blocks 
def Bchannel_Channel_List (cB cO : Nat) (W : World) (R : List Own) (Φ : PW) (J : Value → World → Prop) : Prop :=
  ∀ (w0 : World) (R1 : List Own), Ctx W w0 (R ++ R1) Φ → ∃ (n2 : Int), w0.cell? (Addr.mk cB (cO + 25) none) = some (Value.int IntKind.i64 n2) ∧ exI fun (I3 : Option Addr → Nat → Nat → Int →
  List Own → PW → Nat → Prop) => (∃ (R4 : List Own), ∃ (Φ5 : PW), ∃ (k6 : Nat), Stable Φ5 ∧ (∀ (w7 : World) (R8 : List Own), Ctx W w7 (R ++ R8) Φ → Ctx W w7 (R4 ++ R8) Φ5) ∧ I3 none 0 0 0 R4
  Φ5 k6) ∧ ∀ (p9 : Option Addr) (k10 k11 : Nat) (n12 : Int) (R13 : List Own) (I14 : List Nat → World → Prop) (k15 : Nat), Stable I14 → I3 p9 k10 k11 n12 R13 I14 k15 → Br (decide (n12 < n2))
  (∃ (R16 : List Own), ∃ (Φ17 : PW), Stable Φ17 ∧ (∀ (w18 : World) (R19 : List Own), Ctx W w18 (R13 ++ R19) I14 → Ctx W w18 (R16 ++ R19) Φ17) ∧ ∃ (n20 : Int), (∀ (w21 : World) (R22 : List
  Own), Ctx W w21 (R16 ++ R22) Φ17 → ∃ (n23 : Int), w21.cell? (Addr.mk cB (cO + 24) none) = some (Value.int IntKind.i64 n23) ∧ Value.int IntKind.i64 n23 = Value.int IntKind.i64 n20) ∧ I64
  (n20 + n12) ∧ ((4 : Int) = 0 → False) ∧ (0 ≤ (n20 + n12).tmod 4 ∧ (n20 + n12).tmod (4 : Int) < 4) ∧ ∃ (n24 : Int), ∃ (n25 : Int), ∃ (n26 : Int), ∃ (n27 : Int), ∃ (n28 : Int), ∃ (p29 :
  Option Addr), ∃ (k30 : Nat), ∃ (k31 : Nat), (∀ (w32 : World) (R33 : List Own), Ctx W w32 (R16 ++ R33) Φ17 → ∃ (n34 : Int), ∃ (n35 : Int), ∃ (n36 : Int), ∃ (n37 : Int), ∃ (n38 : Int), ∃ (p39
  : Option Addr), ∃ (k40 : Nat), ∃ (k41 : Nat), RowAt w32 cB (cO + ((n20 + n12).tmod 4).toNat * 6) [Value.int IntKind.i64 n34, Value.int IntKind.i64 n35, Value.int IntKind.i64 n36, Value.int
  IntKind.i64 n37, Value.int IntKind.i64 n38, Value.slice p39 k40 k41] ∧ Value.agg #[Value.int IntKind.i64 n34, Value.int IntKind.i64 n35, Value.int IntKind.i64 n36, Value.int IntKind.i64
  n37, Value.int IntKind.i64 n38, Value.slice p39 k40 k41] = Value.agg #[Value.int IntKind.i64 n24, Value.int IntKind.i64 n25, Value.int IntKind.i64 n26, Value.int IntKind.i64 n27, Value.int
  IntKind.i64 n28, Value.slice p29 k30 k31]) ∧ ∀ (w42 : World) (R43 : List Own), Ctx W w42 (R13 ++ R43) I14 → Calls Try.prog F.channel_clone #[Value.agg #[Value.int IntKind.i64 n24, Value.int
  IntKind.i64 n25, Value.int IntKind.i64 n26, Value.int IntKind.i64 n27, Value.int IntKind.i64 n28, Value.slice p29 k30 k31]] w42 fun (e44 : Ending) (w45 : World) => ∃ (n46 : Int), ∃ (n47 :
  Int), ∃ (n48 : Int), ∃ (n49 : Int), ∃ (n50 : Int), ∃ (p51 : Option Addr), ∃ (k52 : Nat), ∃ (k53 : Nat), e44 = Ending.returned (Value.agg #[Value.int IntKind.i64 n46, Value.int IntKind.i64
  n47, Value.int IntKind.i64 n48, Value.int IntKind.i64 n49, Value.int IntKind.i64 n50, Value.slice p51 k52 k53]) ∧ ∃ (R54 : List Own), ∃ (Φ55 : PW), Stable Φ55 ∧ Ctx W w45 (R54 ++ R43) Φ55 ∧
  (∀ (w56 : World) (R57 : List Own), Ctx W w56 (R54 ++ R57) Φ55 → Ctx W w56 (R16 ++ R57) Φ17) ∧ ∀ (k58 : Nat), (∀ (w59 : World) (R60 : List Own), Ctx W w59 (Own.blk k58 [Value.int IntKind.i64
  n46, Value.int IntKind.i64 n47, Value.int IntKind.i64 n48, Value.int IntKind.i64 n49, Value.int IntKind.i64 n50, Value.slice p51 k52 k53] 31 :: R54 ++ R60) Φ55 → Ctx W w59 (R16 ++ R60) Φ17)
  ∧ ∀ (w61 : World) (R62 : List Own), Ctx W w61 (Own.blk k58 [Value.int IntKind.i64 n46, Value.int IntKind.i64 n47, Value.int IntKind.i64 n48, Value.int IntKind.i64 n49, Value.int IntKind.i64
  n50, Value.slice p51 k52 k53] 31 :: R54 ++ R62) Φ55 → ∃ (p63 : Option Addr), ∃ (k64 : Nat), ∃ (k65 : Nat), ∃ (w66 : World), Sem.run Try.prog (builtin Builtin.append #[22, 22] 22 #[false,
  false] #[Value.slice p9 k10 k11, Value.slice (some (Addr.mk k58 0 none)) 1 1]) w61 = Result.ok (Next.value (Value.slice p63 k64 k65)) w66 ∧ ∃ (R67 : List Own), ∃ (Φ68 : PW), Stable Φ68 ∧
  Ctx W w66 (R67 ++ R62) Φ68 ∧ (∀ (w69 : World) (R70 : List Own), Ctx W w69 (R67 ++ R70) Φ68 → Ctx W w69 (R16 ++ R70) Φ17) ∧ I64 (n12 + 1) ∧ ∃ (R71 : List Own), ∃ (Φ72 : PW), ∃ (k73 : Nat),
  Stable Φ72 ∧ (∀ (w74 : World) (R75 : List Own), Ctx W w74 (R67 ++ R75) Φ68 → Ctx W w74 (R71 ++ R75) Φ72) ∧ I3 p63 k64 k65 (n12 + 1) R71 Φ72 k73 ∧ k73 < k15) (∀ (w76 : World) (R77 : List
  Own), Ctx W w76 (R13 ++ R77) I14 → J (Value.slice p9 k10 k11) w76)

theorem Bchannel_Channel_List_run (cB cO : Nat) {W w : World} {R : List Own} {Φ : PW} [Stable Φ] {J : Value → World → Prop} (c : Ctx W w R Φ) (h : Bchannel_Channel_List cB cO W R Φ J) : Calls Try.prog F.channel_Channel_List #[.pointer (some ⟨cB, cO, none⟩)] w fun e w' => ∃ v, e = .returned v ∧ J v w' :=
  vcFS_sound (H := { keep := some [0, 2, 3, 4, 8, 9, 10], stages := [(5, [.late [] [0, 1, 2, 6, 3, 9, 4, 10, 5, 7, 8, 11, 12] [(13, []), (14, []), (15, [16])]])], loops := [(3, [(3, .one (.slice)), (9, .one (.int .i64))], [])] }) (by rw [show vcFS Try.prog W { keep := some [0, 2, 3, 4, 8, 9, 10], stages := [(5, [.late [] [0, 1, 2, 6, 3, 9, 4, 10, 5, 7, 8, 11, 12] [(13, []), (14, []), (15, [16])]])], loops := [(3, [(3, .one (.slice)), (9, .one (.int .i64))], [])] } F.channel_Channel_List #[.pointer (some ⟨cB, cO, none⟩)] R Φ J = Bchannel_Channel_List cB cO W R Φ J by kernel_rfl]; exact h) c

/-- (*channel.Channel).Sent -/
def Bchannel_Channel_Sent (cB cO : Nat) (W : World) (R : List Own) (Φ : PW) (J : Value → World → Prop) : Prop :=
  ∀ (w0 : World) (R1 : List Own), Ctx W w0 (R ++ R1) Φ → ∃ (n2 : Int), w0.cell? (Addr.mk cB (cO + 26) none) = some (Value.int IntKind.i64 n2) ∧ ∀ (w3 : World) (R4 : List Own), Ctx W w3 (R ++
  R4) Φ → J (Value.int IntKind.i64 n2) w3

theorem Bchannel_Channel_Sent_run (cB cO : Nat) {W w : World} {R : List Own} {Φ : PW} [Stable Φ] {J : Value → World → Prop} (c : Ctx W w R Φ) (h : Bchannel_Channel_Sent cB cO W R Φ J) : Calls Try.prog F.channel_Channel_Sent #[.pointer (some ⟨cB, cO, none⟩)] w fun e w' => ∃ v, e = .returned v ∧ J v w' :=
  vcFS_sound (H := { keep := some [0, 2] }) (by rw [show vcFS Try.prog W { keep := some [0, 2] } F.channel_Channel_Sent #[.pointer (some ⟨cB, cO, none⟩)] R Φ J = Bchannel_Channel_Sent cB cO W R Φ J by kernel_rfl]; exact h) c

end Go.Proofs.Yticgmbmghnikeaa
