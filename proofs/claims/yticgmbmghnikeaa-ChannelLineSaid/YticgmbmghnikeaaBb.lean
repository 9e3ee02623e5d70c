/-
  The conditions of the walks of some functions, one formula each; 'B<f>_run' says that they suffice. The formulas are printed by a program; the kernel compares them with the functions' code.
-/
import Derived.Test.YticgmbmghnikeaaBa
namespace Go.Proofs.Yticgmbmghnikeaa
set_option linter.unusedVariables false
set_option linter.unusedSimpArgs false
set_option maxRecDepth 100000
open Go.Vc

/-- erratalaw36.ChannelLine -/
-- loop at region 23: 14 can, 15 k; blocks 
-- loop at region 19: 11 next, 12 got, 13 i; blocks 
-- loop at region 12: 10 i; blocks 
-- loop at region 6: 8 line, 9 i; blocks 
-- cut 28: 16 from; blocks 
-- cut 31: 17 room; blocks 
-- cut 41: 18 k; blocks 
-- cut 49: 11 next; blocks 20 m
-- known blocks: 20 m, 21 x
def Cerratalaw36_ChannelLine (n : Int) (lP : Option Addr) (lN lC : Nat) (picksP : Option Addr) (picksN picksC : Nat) (W : World) (R : List Own) (Φ : PW) (J : Value → World → Prop) : Prop :=
  ∀ (w0 : World) (R1 : List Own), Ctx W w0 (R ++ R1) Φ → Calls Try.prog F.erratalaw36_small #[] w0 fun (e2 : Ending) (w3 : World) => ∃ (c4 : Bool), e2 = Ending.returned (Value.bool c4) ∧ ∃
  (R5 : List Own), ∃ (Φ6 : PW), Stable Φ6 ∧ Ctx W w3 (R5 ++ R1) Φ6 ∧ ∀ (w7 : World) (R8 : List Own), Ctx W w7 (R5 ++ R8) Φ6 → Br (decide (n < 1) || decide (6 < n) || decide (40 < (↑lN : Int))
  || decide (400 < (↑picksN : Int))) (∀ (w9 : World) (R10 : List Own), Ctx W w9 (R5 ++ R10) Φ6 → J (Value.bool c4) w9) (exI fun (I11 : Option Addr → Nat → Nat → Int → List Own → PW → Nat →
  Prop) => (∃ (R12 : List Own), ∃ (Φ13 : PW), ∃ (k14 : Nat), Stable Φ13 ∧ (∀ (w15 : World) (R16 : List Own), Ctx W w15 (R5 ++ R16) Φ6 → Ctx W w15 (R12 ++ R16) Φ13) ∧ I11 none 0 0 0 R12 Φ13
  k14) ∧ ∀ (p17 : Option Addr) (k18 k19 : Nat) (n20 : Int) (R21 : List Own) (I22 : List Nat → World → Prop) (k23 : Nat), Stable I22 → I11 p17 k18 k19 n20 R21 I22 k23 → Br (decide (n20 < n))
  (∀ (w24 : World) (R25 : List Own), Ctx W w24 (R21 ++ R25) I22 → Calls Try.prog F.channel_New #[] w24 fun (e26 : Ending) (w27 : World) => ∃ (p28 : Option Addr), e26 = Ending.returned
  (Value.pointer p28) ∧ ∃ (R29 : List Own), ∃ (Φ30 : PW), Stable Φ30 ∧ Ctx W w27 (R29 ++ R25) Φ30 ∧ ∀ (k31 : Nat) (w32 : World) (R33 : List Own), Ctx W w32 (Own.blk k31 [Value.pointer p28] 26
  :: R29 ++ R33) Φ30 → ∃ (p34 : Option Addr), ∃ (k35 : Nat), ∃ (k36 : Nat), ∃ (w37 : World), Sem.run Try.prog (builtin Builtin.append #[25, 25] 25 #[false, false] #[Value.slice p17 k18 k19,
  Value.slice (some (Addr.mk k31 0 none)) 1 1]) w32 = Result.ok (Next.value (Value.slice p34 k35 k36)) w37 ∧ ∃ (R38 : List Own), ∃ (Φ39 : PW), Stable Φ39 ∧ Ctx W w37 (R38 ++ R33) Φ39 ∧ (0 ≤
  n20 ∧ n20 < (↑k35 : Int)) ∧ ptrK none p34 fun (k40 k41 : Nat) => ∀ (w42 : World) (R43 : List Own), Ctx W w42 (R38 ++ R43) Φ39 → ∃ (p44 : Option Addr), w42.cell? (Addr.mk k40 (k41 +
  n20.toNat) none) = some (Value.pointer p44) ∧ Br p44.isNone (∀ (w45 : World) (R46 : List Own), Ctx W w45 (R38 ++ R46) Φ39 → J (Value.bool false) w45) (I64 (n20 + 1) ∧ ∃ (R47 : List Own), ∃
  (Φ48 : PW), ∃ (k49 : Nat), Stable Φ48 ∧ (∀ (w50 : World) (R51 : List Own), Ctx W w50 (R38 ++ R51) Φ39 → Ctx W w50 (R47 ++ R51) Φ48) ∧ I11 p34 k35 k36 (n20 + 1) R47 Φ48 k49 ∧ k49 < k23))
  (exI fun (I52 : Int → List Own → PW → Nat → Prop) => (∃ (R53 : List Own), ∃ (Φ54 : PW), ∃ (k55 : Nat), Stable Φ54 ∧ (∀ (w56 : World) (R57 : List Own), Ctx W w56 (R21 ++ R57) I22 → Ctx W w56
  (R53 ++ R57) Φ54) ∧ I52 0 R53 Φ54 k55) ∧ ∀ (n58 : Int) (R59 : List Own) (I60 : List Nat → World → Prop) (k61 : Nat), Stable I60 → I52 n58 R59 I60 k61 → Br (decide (n58 < (↑lN : Int))) ((0 ≤
  n58 ∧ n58 < (↑lN : Int)) ∧ ptrK none lP fun (k62 k63 : Nat) => ∀ (w64 : World) (R65 : List Own), Ctx W w64 (R59 ++ R65) I60 → ∃ (n66 : Int), ∃ (n67 : Int), ∃ (n68 : Int), ∃ (n69 : Int), ∃
  (n70 : Int), ∃ (p71 : Option Addr), ∃ (k72 : Nat), ∃ (k73 : Nat), RowAt w64 k62 (k63 + n58.toNat * 6) [Value.int IntKind.i64 n66, Value.int IntKind.i64 n67, Value.int IntKind.i64 n68,
  Value.int IntKind.i64 n69, Value.int IntKind.i64 n70, Value.slice p71 k72 k73] ∧ ∀ (w74 : World) (R75 : List Own), Ctx W w74 (R59 ++ R75) I60 → Calls Try.prog F.errataref36_Few #[Value.agg
  #[Value.int IntKind.i64 n66, Value.int IntKind.i64 n67, Value.int IntKind.i64 n68, Value.int IntKind.i64 n69, Value.int IntKind.i64 n70, Value.slice p71 k72 k73]] w74 fun (e76 : Ending)
  (w77 : World) => ∃ (c78 : Bool), e76 = Ending.returned (Value.bool c78) ∧ ∃ (R79 : List Own), ∃ (Φ80 : PW), Stable Φ80 ∧ Ctx W w77 (R79 ++ R75) Φ80 ∧ Br (!c78) (∀ (w81 : World) (R82 : List
  Own), Ctx W w81 (R79 ++ R82) Φ80 → J (Value.bool c4) w81) ((0 ≤ n58 ∧ n58 < (↑lN : Int)) ∧ ptrK none lP fun (k83 k84 : Nat) => ∀ (w85 : World) (R86 : List Own), Ctx W w85 (R79 ++ R86) Φ80 →
  ∃ (n87 : Int), ∃ (n88 : Int), ∃ (n89 : Int), ∃ (n90 : Int), ∃ (n91 : Int), ∃ (p92 : Option Addr), ∃ (k93 : Nat), ∃ (k94 : Nat), RowAt w85 k83 (k84 + n58.toNat * 6) [Value.int IntKind.i64
  n87, Value.int IntKind.i64 n88, Value.int IntKind.i64 n89, Value.int IntKind.i64 n90, Value.int IntKind.i64 n91, Value.slice p92 k93 k94] ∧ ∀ (w95 : World) (R96 : List Own), Ctx W w95 (R79
  ++ R96) Φ80 → Calls Try.prog F.erratalaw36_right #[Value.agg #[Value.int IntKind.i64 n87, Value.int IntKind.i64 n88, Value.int IntKind.i64 n89, Value.int IntKind.i64 n90, Value.int
  IntKind.i64 n91, Value.slice p92 k93 k94]] w95 fun (e97 : Ending) (w98 : World) => ∃ (c99 : Bool), e97 = Ending.returned (Value.bool c99) ∧ ∃ (R100 : List Own), ∃ (Φ101 : PW), Stable Φ101 ∧
  Ctx W w98 (R100 ++ R96) Φ101 ∧ Br (!c99) (∀ (w102 : World) (R103 : List Own), Ctx W w102 (R100 ++ R103) Φ101 → J (Value.bool c4) w102) ((0 ≤ n58 ∧ n58 < (↑lN : Int)) ∧ ptrK none lP fun
  (k104 k105 : Nat) => ∀ (w106 : World) (R107 : List Own), Ctx W w106 (R100 ++ R107) Φ101 → ∃ (n108 : Int), ∃ (n109 : Int), ∃ (n110 : Int), ∃ (n111 : Int), ∃ (n112 : Int), ∃ (p113 : Option
  Addr), ∃ (k114 : Nat), ∃ (k115 : Nat), RowAt w106 k104 (k105 + n58.toNat * 6) [Value.int IntKind.i64 n108, Value.int IntKind.i64 n109, Value.int IntKind.i64 n110, Value.int IntKind.i64
  n111, Value.int IntKind.i64 n112, Value.slice p113 k114 k115] ∧ ∀ (w116 : World) (R117 : List Own), Ctx W w116 (R100 ++ R117) Φ101 → Calls Try.prog F.channel_Right #[Value.agg #[Value.int
  IntKind.i64 n108, Value.int IntKind.i64 n109, Value.int IntKind.i64 n110, Value.int IntKind.i64 n111, Value.int IntKind.i64 n112, Value.slice p113 k114 k115]] w116 fun (e118 : Ending) (w119
  : World) => ∃ (c120 : Bool), e118 = Ending.returned (Value.bool c120) ∧ ∃ (R121 : List Own), ∃ (Φ122 : PW), Stable Φ122 ∧ Ctx W w119 (R121 ++ R117) Φ122 ∧ Br (!c120) (∀ (w123 : World) (R124
  : List Own), Ctx W w123 (R121 ++ R124) Φ122 → J (Value.bool c4) w123) (I64 (n58 + 1) ∧ ∃ (R125 : List Own), ∃ (Φ126 : PW), ∃ (k127 : Nat), Stable Φ126 ∧ (∀ (w128 : World) (R129 : List Own),
  Ctx W w128 (R121 ++ R129) Φ122 → Ctx W w128 (R125 ++ R129) Φ126) ∧ I52 (n58 + 1) R125 Φ126 k127 ∧ k127 < k61)))) (exI fun (I130 : Int → Option Addr → Nat → Nat → Int → List Own → PW → Nat →
  Prop) => (∃ (R131 : List Own), ∃ (Φ132 : PW), ∃ (k133 : Nat), Stable Φ132 ∧ (∀ (w134 : World) (R135 : List Own), Ctx W w134 (R59 ++ R135) I60 → Ctx W w134 (R131 ++ R135) Φ132) ∧ I130 0 none
  0 0 0 R131 Φ132 k133) ∧ ∀ (n136 : Int) (p137 : Option Addr) (k138 k139 : Nat) (n140 : Int) (R141 : List Own) (I142 : List Nat → World → Prop) (k143 : Nat), Stable I142 → I130 n136 p137 k138
  k139 n140 R141 I142 k143 → Br (decide ((↑k138 : Int) < (↑lN : Int))) (exI fun (I144 : Option Addr → Nat → Nat → Int → List Own → PW → Nat → Prop) => (∃ (R145 : List Own), ∃ (Φ146 : PW), ∃
  (k147 : Nat), Stable Φ146 ∧ (∀ (w148 : World) (R149 : List Own), Ctx W w148 (R141 ++ R149) I142 → Ctx W w148 (R145 ++ R149) Φ146) ∧ I144 none 0 0 0 R145 Φ146 k147) ∧ ∀ (p150 : Option Addr)
  (k151 k152 : Nat) (n153 : Int) (R154 : List Own) (I155 : List Nat → World → Prop) (k156 : Nat), Stable I155 → I144 p150 k151 k152 n153 R154 I155 k156 → Br (decide (n153 ≤ n)) (∀ (w157 :
  World) (R158 : List Own), Ctx W w157 (R154 ++ R158) I155 → exI fun (I159 : Bool → List Own → PW → Prop) => Br (decide (0 < n153)) (I64 (n153 - 1) ∧ (0 ≤ n153 - 1 ∧ n153 - 1 < (↑k18 : Int))
  ∧ ptrK none p17 fun (k160 k161 : Nat) => ∀ (w162 : World) (R163 : List Own), Ctx W w162 (R154 ++ R163) I155 → ∃ (p164 : Option Addr), w162.cell? (Addr.mk k160 (k161 + (n153 - 1).toNat)
  none) = some (Value.pointer p164) ∧ ∀ (w165 : World) (R166 : List Own), Ctx W w165 (R154 ++ R166) I155 → Calls Try.prog F.channel_Channel_Len #[Value.pointer p164] w165 fun (e167 : Ending)
  (w168 : World) => ∃ (n169 : Int), e167 = Ending.returned (Value.int IntKind.i64 n169) ∧ ∃ (R170 : List Own), ∃ (Φ171 : PW), Stable Φ171 ∧ Ctx W w168 (R170 ++ R166) Φ171 ∧ ∃ (R172 : List
  Own), ∃ (Φ173 : PW), Stable Φ173 ∧ (∀ (w174 : World) (R175 : List Own), Ctx W w174 (R170 ++ R175) Φ171 → Ctx W w174 (R172 ++ R175) Φ173) ∧ I159 (decide (0 < n169)) R172 Φ173) (∃ (R176 :
  List Own), ∃ (Φ177 : PW), Stable Φ177 ∧ (∀ (w178 : World) (R179 : List Own), Ctx W w178 (R154 ++ R179) I155 → Ctx W w178 (R176 ++ R179) Φ177) ∧ I159 (decide (n153 = 0) && decide (n136 <
  (↑lN : Int))) R176 Φ177) ∧ ∀ (c180 : Bool) (R181 : List Own) (I182 : List Nat → World → Prop), Stable I182 → I159 c180 R181 I182 → exI fun (I183 : Bool → List Own → PW → Prop) => Br (decide
  (n153 < n)) ((0 ≤ n153 ∧ n153 < (↑k18 : Int)) ∧ ptrK none p17 fun (k184 k185 : Nat) => ∀ (w186 : World) (R187 : List Own), Ctx W w186 (R181 ++ R187) I182 → ∃ (p188 : Option Addr),
  w186.cell? (Addr.mk k184 (k185 + n153.toNat) none) = some (Value.pointer p188) ∧ ∀ (w189 : World) (R190 : List Own), Ctx W w189 (R181 ++ R190) I182 → Calls Try.prog F.channel_Channel_Free
  #[Value.pointer p188] w189 fun (e191 : Ending) (w192 : World) => ∃ (n193 : Int), e191 = Ending.returned (Value.int IntKind.i64 n193) ∧ ∃ (R194 : List Own), ∃ (Φ195 : PW), Stable Φ195 ∧ Ctx
  W w192 (R194 ++ R190) Φ195 ∧ ∃ (R196 : List Own), ∃ (Φ197 : PW), Stable Φ197 ∧ (∀ (w198 : World) (R199 : List Own), Ctx W w198 (R194 ++ R199) Φ195 → Ctx W w198 (R196 ++ R199) Φ197) ∧ I183
  (decide (0 < n193)) R196 Φ197) (∃ (R200 : List Own), ∃ (Φ201 : PW), Stable Φ201 ∧ (∀ (w202 : World) (R203 : List Own), Ctx W w202 (R181 ++ R203) I182 → Ctx W w202 (R200 ++ R203) Φ201) ∧
  I183 (decide (n153 = n)) R200 Φ201) ∧ ∀ (c204 : Bool) (R205 : List Own) (I206 : List Nat → World → Prop), Stable I206 → I183 c204 R205 I206 → ∀ (w207 : World) (R208 : List Own), Ctx W w207
  (R205 ++ R208) I206 → Br (c180 && c204) (∀ (k209 : Nat) (w210 : World) (R211 : List Own), Ctx W w210 (Own.blk k209 [Value.int IntKind.i64 n153] 3 :: R205 ++ R211) I206 → ∃ (p212 : Option
  Addr), ∃ (k213 : Nat), ∃ (k214 : Nat), ∃ (w215 : World), Sem.run Try.prog (builtin Builtin.append #[23, 23] 23 #[false, false] #[Value.slice p150 k151 k152, Value.slice (some (Addr.mk k209
  0 none)) 1 1]) w210 = Result.ok (Next.value (Value.slice p212 k213 k214)) w215 ∧ ∃ (R216 : List Own), ∃ (Φ217 : PW), Stable Φ217 ∧ Ctx W w215 (R216 ++ R211) Φ217 ∧ I64 (n153 + 1) ∧ ∃ (R218
  : List Own), ∃ (Φ219 : PW), ∃ (k220 : Nat), Stable Φ219 ∧ (∀ (w221 : World) (R222 : List Own), Ctx W w221 (R216 ++ R222) Φ217 → Ctx W w221 (R218 ++ R222) Φ219) ∧ I144 p212 k213 k214 (n153 +
  1) R218 Φ219 k220 ∧ k220 < k156) (I64 (n153 + 1) ∧ ∃ (R223 : List Own), ∃ (Φ224 : PW), ∃ (k225 : Nat), Stable Φ224 ∧ (∀ (w226 : World) (R227 : List Own), Ctx W w226 (R205 ++ R227) I206 →
  Ctx W w226 (R223 ++ R227) Φ224) ∧ I144 p150 k151 k152 (n153 + 1) R223 Φ224 k225 ∧ k225 < k156)) (∀ (w228 : World) (R229 : List Own), Ctx W w228 (R154 ++ R229) I155 → Br (decide ((↑k151 :
  Int) = 0) || decide (400 < n140)) (∀ (w230 : World) (R231 : List Own), Ctx W w230 (R154 ++ R231) I155 → J (Value.bool false) w230) (((0 : Int) ≤ 0 ∧ 0 < (↑k151 : Int)) ∧ ptrK none p150 fun
  (k232 k233 : Nat) => ∀ (w234 : World) (R235 : List Own), Ctx W w234 (R154 ++ R235) I155 → ∃ (n236 : Int), w234.cell? (Addr.mk k232 k233 none) = some (Value.int IntKind.i64 n236) ∧ exI fun
  (I237 : Int → List Own → PW → Prop) => Br (decide (n140 < (↑picksN : Int))) ((0 ≤ n140 ∧ n140 < (↑picksN : Int)) ∧ ptrK none picksP fun (k238 k239 : Nat) => ∀ (w240 : World) (R241 : List
  Own), Ctx W w240 (R154 ++ R241) I155 → ∃ (n242 : Int), w240.cell? (Addr.mk k238 (k239 + n140.toNat) none) = some (Value.int IntKind.i64 n242) ∧ ((↑k151 : Int) = 0 → False) ∧ Br (decide
  (n242.tmod (↑k151 : Int) < 0)) (I64 (n242.tmod (↑k151 : Int) + (↑k151 : Int)) ∧ (0 ≤ n242.tmod (↑k151 : Int) + (↑k151 : Int) ∧ n242.tmod (↑k151 : Int) + (↑k151 : Int) < (↑k151 : Int)) ∧
  ptrK none p150 fun (k243 k244 : Nat) => ∀ (w245 : World) (R246 : List Own), Ctx W w245 (R154 ++ R246) I155 → ∃ (n247 : Int), w245.cell? (Addr.mk k243 (k244 + (n242.tmod (↑k151 : Int) +
  (↑k151 : Int)).toNat) none) = some (Value.int IntKind.i64 n247) ∧ ∃ (R248 : List Own), ∃ (Φ249 : PW), Stable Φ249 ∧ (∀ (w250 : World) (R251 : List Own), Ctx W w250 (R154 ++ R251) I155 → Ctx
  W w250 (R248 ++ R251) Φ249) ∧ I237 n247 R248 Φ249) ((0 ≤ n242.tmod (↑k151 : Int) ∧ n242.tmod (↑k151 : Int) < (↑k151 : Int)) ∧ ptrK none p150 fun (k252 k253 : Nat) => ∀ (w254 : World) (R255
  : List Own), Ctx W w254 (R154 ++ R255) I155 → ∃ (n256 : Int), w254.cell? (Addr.mk k252 (k253 + (n242.tmod (↑k151 : Int)).toNat) none) = some (Value.int IntKind.i64 n256) ∧ ∃ (R257 : List
  Own), ∃ (Φ258 : PW), Stable Φ258 ∧ (∀ (w259 : World) (R260 : List Own), Ctx W w259 (R154 ++ R260) I155 → Ctx W w259 (R257 ++ R260) Φ258) ∧ I237 n256 R257 Φ258)) (∃ (R261 : List Own), ∃
  (Φ262 : PW), Stable Φ262 ∧ (∀ (w263 : World) (R264 : List Own), Ctx W w263 (R154 ++ R264) I155 → Ctx W w263 (R261 ++ R264) Φ262) ∧ I237 n236 R261 Φ262) ∧ ∀ (n265 : Int) (R266 : List Own)
  (I267 : List Nat → World → Prop), Stable I267 → I237 n265 R266 I267 → ∀ (b : Nat), exI fun (I268 : Int → Int → Int → Int → Int → Int → Option Addr → Nat → Nat → List Own → PW → Prop) => Br
  (decide (n265 = 0)) ((0 ≤ n136 ∧ n136 < (↑lN : Int)) ∧ ptrK none lP fun (k269 k270 : Nat) => ∀ (w271 : World) (R272 : List Own), Ctx W w271 (R266 ++ R272) I267 → ∃ (n273 : Int), ∃ (n274 :
  Int), ∃ (n275 : Int), ∃ (n276 : Int), ∃ (n277 : Int), ∃ (p278 : Option Addr), ∃ (k279 : Nat), ∃ (k280 : Nat), RowAt w271 k269 (k270 + n136.toNat * 6) [Value.int IntKind.i64 n273, Value.int
  IntKind.i64 n274, Value.int IntKind.i64 n275, Value.int IntKind.i64 n276, Value.int IntKind.i64 n277, Value.slice p278 k279 k280] ∧ I64 (n136 + 1) ∧ ∃ (R281 : List Own), ∃ (Φ282 : PW),
  Stable Φ282 ∧ (∀ (w283 : World) (R284 : List Own), Ctx W w283 (R266 ++ R284) I267 → Ctx W w283 (R281 ++ R284) Φ282) ∧ I268 (n136 + 1) n273 n274 n275 n276 n277 p278 k279 k280 R281 Φ282) (I64
  (n265 - 1) ∧ (0 ≤ n265 - 1 ∧ n265 - 1 < (↑k18 : Int)) ∧ ptrK none p17 fun (k285 k286 : Nat) => ∀ (w287 : World) (R288 : List Own), Ctx W w287 (R266 ++ R288) I267 → ∃ (p289 : Option Addr),
  w287.cell? (Addr.mk k285 (k286 + (n265 - 1).toNat) none) = some (Value.pointer p289) ∧ ∀ (w290 : World) (R291 : List Own), Ctx W w290 (R266 ++ R291) I267 → Calls Try.prog
  F.channel_Channel_Take #[Value.pointer p289] w290 fun (e292 : Ending) (w293 : World) => ∃ (n294 : Int), ∃ (n295 : Int), ∃ (n296 : Int), ∃ (n297 : Int), ∃ (n298 : Int), ∃ (p299 : Option
  Addr), ∃ (k300 : Nat), ∃ (k301 : Nat), ∃ (n302 : Int), e292 = Ending.returned (Value.tuple #[Value.agg #[Value.int IntKind.i64 n294, Value.int IntKind.i64 n295, Value.int IntKind.i64 n296,
  Value.int IntKind.i64 n297, Value.int IntKind.i64 n298, Value.slice p299 k300 k301], Value.int IntKind.i64 n302]) ∧ ∃ (R303 : List Own), ∃ (Φ304 : PW), Stable Φ304 ∧ Ctx W w293 (R303 ++
  R291) Φ304 ∧ ∀ (b : Nat), Br (decide (n302 ≠ 0)) (∀ (w305 : World) (R306 : List Own), Ctx W w305 (R303 ++ R306) Φ304 → J (Value.bool false) w305) (∃ (R307 : List Own), ∃ (Φ308 : PW), Stable
  Φ308 ∧ (∀ (w309 : World) (R310 : List Own), Ctx W w309 (R303 ++ R310) Φ304 → Ctx W w309 (R307 ++ R310) Φ308) ∧ I268 n136 n294 n295 n296 n297 n298 p299 k300 k301 R307 Φ308)) ∧ ∀ (n311 n312
  n313 n314 n315 n316 : Int) (p317 : Option Addr) (k318 k319 : Nat) (R320 : List Own) (I321 : List Nat → World → Prop), Stable I321 → I268 n311 n312 n313 n314 n315 n316 p317 k318 k319 R320
  I321 → Br (decide (n265 = n)) (∀ (k322 : Nat) (w323 : World) (R324 : List Own), Ctx W w323 (Own.blk k322 [Value.int IntKind.i64 n312, Value.int IntKind.i64 n313, Value.int IntKind.i64 n314,
  Value.int IntKind.i64 n315, Value.int IntKind.i64 n316, Value.slice p317 k318 k319] 31 :: R320 ++ R324) I321 → ∃ (p325 : Option Addr), ∃ (k326 : Nat), ∃ (k327 : Nat), ∃ (w328 : World),
  Sem.run Try.prog (builtin Builtin.append #[22, 22] 22 #[false, false] #[Value.slice p137 k138 k139, Value.slice (some (Addr.mk k322 0 none)) 1 1]) w323 = Result.ok (Next.value (Value.slice
  p325 k326 k327)) w328 ∧ ∃ (R329 : List Own), ∃ (Φ330 : PW), Stable Φ330 ∧ Ctx W w328 (R329 ++ R324) Φ330 ∧ I64 (n140 + 1) ∧ ∃ (R331 : List Own), ∃ (Φ332 : PW), ∃ (k333 : Nat), Stable Φ332 ∧
  (∀ (w334 : World) (R335 : List Own), Ctx W w334 (R329 ++ R335) Φ330 → Ctx W w334 (R331 ++ R335) Φ332) ∧ I130 n311 p325 k326 k327 (n140 + 1) R331 Φ332 k333 ∧ k333 < k143) (∃ (R336 : List
  Own), ∃ (Φ337 : PW), Stable Φ337 ∧ (∀ (w338 : World) (R339 : List Own), Ctx W w338 (R320 ++ R339) I321 → Ctx W w338 (R336 ++ R339) Φ337) ∧ (0 ≤ n265 ∧ n265 < (↑k18 : Int)) ∧ ptrK none p17
  fun (k340 k341 : Nat) => ∀ (w342 : World) (R343 : List Own), Ctx W w342 (R320 ++ R343) I321 → ∃ (p344 : Option Addr), w342.cell? (Addr.mk k340 (k341 + n265.toNat) none) = some
  (Value.pointer p344) ∧ ∀ (w345 : World) (R346 : List Own), Ctx W w345 (R320 ++ R346) I321 → Calls Try.prog F.channel_Channel_Send #[Value.pointer p344, Value.agg #[Value.int IntKind.i64
  n312, Value.int IntKind.i64 n313, Value.int IntKind.i64 n314, Value.int IntKind.i64 n315, Value.int IntKind.i64 n316, Value.slice p317 k318 k319]] w345 fun (e347 : Ending) (w348 : World) =>
  ∃ (n349 : Int), e347 = Ending.returned (Value.int IntKind.i64 n349) ∧ ∃ (R350 : List Own), ∃ (Φ351 : PW), Stable Φ351 ∧ Ctx W w348 (R350 ++ R346) Φ351 ∧ (∀ (w352 : World) (R353 : List Own),
  Ctx W w352 (R350 ++ R353) Φ351 → Ctx W w352 (R336 ++ R353) Φ337) ∧ Br (decide (n349 ≠ 0)) (∀ (w354 : World) (R355 : List Own), Ctx W w354 (R350 ++ R355) Φ351 → J (Value.bool false) w354)
  (I64 (n140 + 1) ∧ ∃ (R356 : List Own), ∃ (Φ357 : PW), ∃ (k358 : Nat), Stable Φ357 ∧ (∀ (w359 : World) (R360 : List Own), Ctx W w359 (R350 ++ R360) Φ351 → Ctx W w359 (R356 ++ R360) Φ357) ∧
  I130 n311 p137 k138 k139 (n140 + 1) R356 Φ357 k358 ∧ k358 < k143))))) (Br c4 (∀ (w361 : World) (R362 : List Own), Ctx W w361 (R141 ++ R362) I142 → Calls Try.prog F.errataref36_SameList
  #[Value.slice p137 k138 k139, Value.slice lP lN lC] w361 fun (e363 : Ending) (w364 : World) => ∃ (c365 : Bool), e363 = Ending.returned (Value.bool c365) ∧ ∃ (R366 : List Own), ∃ (Φ367 :
  PW), Stable Φ367 ∧ Ctx W w364 (R366 ++ R362) Φ367 ∧ ∀ (w368 : World) (R369 : List Own), Ctx W w368 (R366 ++ R369) Φ367 → J (Value.bool c365) w368) (∀ (w370 : World) (R371 : List Own), Ctx W
  w370 (R141 ++ R371) I142 → J (Value.bool false) w370)))))

theorem Cerratalaw36_ChannelLine_run (n : Int) (lP : Option Addr) (lN lC : Nat) (picksP : Option Addr) (picksN picksC : Nat) {W w : World} {R : List Own} {Φ : PW} [Stable Φ] {J : Value → World → Prop} (c : Ctx W w R Φ) (h : Cerratalaw36_ChannelLine n lP lN lC picksP picksN picksC W R Φ J) : Calls Try.prog F.erratalaw36_ChannelLine #[.int .i64 n, .slice lP lN lC, .slice picksP picksN picksC] w fun e w' => ∃ v, e = .returned v ∧ J v w' :=
  vcFS_sound (H := { keep := some [0, 1, 2, 6, 7, 8, 9, 10, 11, 12, 13, 14, 15, 16, 17, 18, 19, 20, 21, 22, 39, 43, 54, 58, 82, 88, 93, 105, 118, 128, 139, 146, 155, 166, 183, 187, 198], track := [20, 21], stages := [(51, [.late [4, 3] [0, 1, 4, 2, 3] [(5, [6])]])], split := [14, 53], loops := [(23, [(14, .one (.slice)), (15, .one (.int .i64))], []), (19, [(11, .one (.int .i64)), (12, .one (.slice)), (13, .one (.int .i64))], []), (12, [(10, .one (.int .i64))], []), (6, [(8, .one (.slice)), (9, .one (.int .i64))], [])], cuts := [(28, [(16, .one (.bool))], []), (31, [(17, .one (.bool))], []), (41, [(18, .one (.int .i64))], []), (49, [(11, .one (.int .i64))], [(20, .agg [.int .i64, .int .i64, .int .i64, .int .i64, .int .i64, .slice])])] }) (by rw [show vcFS Try.prog W { keep := some [0, 1, 2, 6, 7, 8, 9, 10, 11, 12, 13, 14, 15, 16, 17, 18, 19, 20, 21, 22, 39, 43, 54, 58, 82, 88, 93, 105, 118, 128, 139, 146, 155, 166, 183, 187, 198], track := [20, 21], stages := [(51, [.late [4, 3] [0, 1, 4, 2, 3] [(5, [6])]])], split := [14, 53], loops := [(23, [(14, .one (.slice)), (15, .one (.int .i64))], []), (19, [(11, .one (.int .i64)), (12, .one (.slice)), (13, .one (.int .i64))], []), (12, [(10, .one (.int .i64))], []), (6, [(8, .one (.slice)), (9, .one (.int .i64))], [])], cuts := [(28, [(16, .one (.bool))], []), (31, [(17, .one (.bool))], []), (41, [(18, .one (.int .i64))], []), (49, [(11, .one (.int .i64))], [(20, .agg [.int .i64, .int .i64, .int .i64, .int .i64, .int .i64, .slice])])] } F.erratalaw36_ChannelLine #[.int .i64 n, .slice lP lN lC, .slice picksP picksN picksC] R Φ J = Cerratalaw36_ChannelLine n lP lN lC picksP picksN picksC W R Φ J by kernel_rfl]; exact h) c

end Go.Proofs.Yticgmbmghnikeaa
