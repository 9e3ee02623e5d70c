/-
  The conditions of the walks of some functions, one formula each; 'B<f>_run' says that they suffice. The formulas are printed by a program; the kernel compares them with the functions' code.
-/
import Derived.Test.YtmlnockcmdameaaCkC4
import Derived.Test.YtmlnockcmdameaaRows

section
namespace Go.Proofs.Ytmlnockcmdameaa
set_option linter.unusedVariables false
set_option linter.unusedSimpArgs false
set_option maxRecDepth 100000
open Go.Vc

abbrev F.erratalaw39_CheckpointCut : Nat := 3
abbrev F.erratalaw39_small : Nat := 4
abbrev F.erratalaw39_begin : Nat := 5
abbrev F.erratalaw39_net_source : Nat := 6
abbrev F.erratalaw39_mod : Nat := 7
abbrev F.erratalaw39_net_produce : Nat := 8
abbrev F.erratalaw39_mark : Nat := 9
abbrev F.erratalaw39_net_take : Nat := 10
abbrev F.erratalaw39_net_start : Nat := 11
abbrev F.erratalaw39_net_flush : Nat := 12
abbrev F.erratalaw39_net_whole : Nat := 13
abbrev F.erratalaw39_net_consistent : Nat := 14
abbrev F.erratalaw39_net_clear : Nat := 15
abbrev F.erratalaw39_net_drain : Nat := 16
abbrev F.channel_Channel_Len : Nat := 17
abbrev F.checkpoint_NewGate : Nat := 18
abbrev F.checkpoint_Gate_Arrive : Nat := 19
abbrev F.erratalaw39_barrier : Nat := 20
abbrev F.checkpoint_Gate_Busy : Nat := 21
abbrev F.channel_New : Nat := 22
abbrev F.channel_Channel_Head : Nat := 23
abbrev F.erratalaw39_net_inbound : Nat := 24
abbrev F.channel_Channel_Take : Nat := 25
abbrev F.erratalaw39_net_report : Nat := 26
abbrev F.channel_Channel_List : Nat := 27
abbrev F.channel_Channel_Free : Nat := 28
abbrev F.channel_Channel_Send : Nat := 29
abbrev F.checkpoint_Gate_barrier : Nat := 30
abbrev F.channel_clone : Nat := 31
abbrev F.channel_Right : Nat := 32
abbrev F.checkpoint_Gate_Cancel : Nat := 33
abbrev F.slices_Clone_api_Delta_api_Delta : Nat := 34
abbrev F.slices_Clone_api_Value_api_Value : Nat := 35
abbrev F.delta_Consolidated : Nat := 36
abbrev F.slices_ContainsFunc_api_Delta_api_Delta : Nat := 37
abbrev F.delta_compare : Nat := 40
abbrev F.slices_IndexFunc_api_Delta_api_Delta : Nat := 41
/-- erratalaw39.CheckpointCut -/
-- loop at region 44: 15 k; blocks 
-- loop at region 14: 10 made, 11 i; blocks 
-- loop at region 5: 8 k; blocks 
-- cut 34: 10 made; blocks 
-- known blocks: 12 o
def Berratalaw39_CheckpointCut (n : Int) (lP : Option Addr) (lN lC : Nat) (opsP : Option Addr) (opsN opsC : Nat) (W : World) (R : List Own) (Φ : PW) (J : Value → World → Prop) : Prop :=
  ∀ (w0 : World) (R1 : List Own), Ctx W w0 (R ++ R1) Φ → Calls Try.prog F.erratalaw39_small #[] w0 fun (e2 : Ending) (w3 : World) => ∃ (c4 : Bool), e2 = Ending.returned (Value.bool c4) ∧ ∃
  (R5 : List Own), ∃ (Φ6 : PW), Stable Φ6 ∧ Ctx W w3 (R5 ++ R1) Φ6 ∧ ∀ (w7 : World) (R8 : List Own), Ctx W w7 (R5 ++ R8) Φ6 → Br (decide (n < 1) || decide (5 < n) || decide (6 < (↑lN : Int))
  || decide (150 < (↑opsN : Int))) (∀ (w9 : World) (R10 : List Own), Ctx W w9 (R5 ++ R10) Φ6 → J (Value.bool c4) w9) (exI fun (I11 : Int → List Own → PW → Nat → Prop) => (∃ (R12 : List Own),
  ∃ (Φ13 : PW), ∃ (k14 : Nat), Stable Φ13 ∧ (∀ (w15 : World) (R16 : List Own), Ctx W w15 (R5 ++ R16) Φ6 → Ctx W w15 (R12 ++ R16) Φ13) ∧ I11 0 R12 Φ13 k14) ∧ ∀ (n17 : Int) (R18 : List Own)
  (I19 : List Nat → World → Prop) (k20 : Nat), Stable I19 → I11 n17 R18 I19 k20 → Br (decide (n17 < (↑lN : Int))) (∀ (w21 : World) (R22 : List Own), Ctx W w21 (R18 ++ R22) I19 → (0 ≤ n17 ∧
  n17 < (↑lN : Int)) ∧ ptrK none lP fun (k23 k24 : Nat) => ∃ (n25 : Int), w21.cell? (Addr.mk k23 (k24 + n17.toNat * 2) none) = some (Value.int IntKind.i64 n25) ∧ ((!decide (n25 < 0)) = true →
  0 ≤ n17 ∧ n17 < (↑lN : Int)) ∧ ptrK (some !decide (n25 < 0)) lP fun (k26 k27 : Nat) => ∃ (n28 : Int), ((!decide (n25 < 0)) = true → w21.cell? (Addr.mk k26 (k27 + n17.toNat * 2 + 1) none) =
  some (Value.int IntKind.i64 n28)) ∧ ((!(decide (n25 < 0) || decide (n ≤ n28))) = true → 0 ≤ n17 ∧ n17 < (↑lN : Int)) ∧ ptrK (some !(decide (n25 < 0) || decide (n ≤ n28))) lP fun (k29 k30 :
  Nat) => ∃ (n31 : Int), ((!(decide (n25 < 0) || decide (n ≤ n28))) = true → w21.cell? (Addr.mk k29 (k30 + n17.toNat * 2) none) = some (Value.int IntKind.i64 n31)) ∧ ((!(decide (n25 < 0) ||
  decide (n ≤ n28))) = true → 0 ≤ n17 ∧ n17 < (↑lN : Int)) ∧ ptrK (some !(decide (n25 < 0) || decide (n ≤ n28))) lP fun (k32 k33 : Nat) => ∃ (n34 : Int), ((!(decide (n25 < 0) || decide (n ≤
  n28))) = true → w21.cell? (Addr.mk k32 (k33 + n17.toNat * 2 + 1) none) = some (Value.int IntKind.i64 n34)) ∧ Br (decide (n25 < 0) || decide (n ≤ n28) || decide (n34 ≤ n31)) (∀ (w35 : World)
  (R36 : List Own), Ctx W w35 (R18 ++ R36) I19 → J (Value.bool c4) w35) (I64 (n17 + 1) ∧ ∃ (R37 : List Own), ∃ (Φ38 : PW), ∃ (k39 : Nat), Stable Φ38 ∧ (∀ (w40 : World) (R41 : List Own), Ctx W
  w40 (R18 ++ R41) I19 → Ctx W w40 (R37 ++ R41) Φ38) ∧ I11 (n17 + 1) R37 Φ38 k39 ∧ k39 < k20)) (∀ (w42 : World) (R43 : List Own), Ctx W w42 (R18 ++ R43) I19 → Calls Try.prog
  F.erratalaw39_begin #[Value.int IntKind.i64 n, Value.slice lP lN lC] w42 fun (e44 : Ending) (w45 : World) => ∃ (p46 : Option Addr), e44 = Ending.returned (Value.pointer p46) ∧ ∃ (R47 : List
  Own), ∃ (Φ48 : PW), Stable Φ48 ∧ Ctx W w45 (R47 ++ R43) Φ48 ∧ Br p46.isNone (∀ (w49 : World) (R50 : List Own), Ctx W w49 (R47 ++ R50) Φ48 → J (Value.bool false) w49) (exI fun (I51 : Int →
  Int → List Own → PW → Nat → Prop) => (∃ (R52 : List Own), ∃ (Φ53 : PW), ∃ (k54 : Nat), Stable Φ53 ∧ (∀ (w55 : World) (R56 : List Own), Ctx W w55 (R47 ++ R56) Φ48 → Ctx W w55 (R52 ++ R56)
  Φ53) ∧ I51 0 0 R52 Φ53 k54) ∧ ∀ (n57 n58 : Int) (R59 : List Own) (I60 : List Nat → World → Prop) (k61 : Nat), Stable I60 → I51 n57 n58 R59 I60 k61 → Br (decide (n58 < (↑opsN : Int))) ((0 ≤
  n58 ∧ n58 < (↑opsN : Int)) ∧ ptrK none opsP fun (k62 k63 : Nat) => ∀ (w64 : World) (R65 : List Own), Ctx W w64 (R59 ++ R65) I60 → ∃ (n66 : Int), ∃ (n67 : Int), ∃ (n68 : Int), RowAt w64 k62
  (k63 + n58.toNat * 3) [Value.int IntKind.i64 n66, Value.int IntKind.i64 n67, Value.int IntKind.i64 n68] ∧ ∀ (b : Nat), exI fun (I69 : Int → List Own → PW → Prop) => (∃ (n70 : Int), (∀ (w71
  : World), Sem.run Try.prog (binOp BinOp.and 3 (Value.int IntKind.i64 n66) (Value.int IntKind.i64 7)) w71 = Result.ok (Value.int IntKind.i64 n70) w71) ∧ Br (decide (n70 = 0)) (Br (decide
  (n70 = 0)) (∀ (w72 : World) (R73 : List Own), Ctx W w72 (R59 ++ R73) I60 → ∃ (n74 : Int), (∀ (w75 : World), (∃ (k76 : Nat), w75 = w72.drewN k76) → Calls Try.prog F.erratalaw39_mod
  #[Value.int IntKind.i64 n67, Value.int IntKind.i64 n] w75 fun (e77 : Ending) (w78 : World) => e77 = Ending.returned (Value.int IntKind.i64 n74) ∧ ∃ (k79 : Nat), w78 = w72.drewN k79) ∧ ∃
  (c80 : Bool), (∀ (w81 : World), (∃ (k82 : Nat), w81 = w72.drewN k82) → Calls Try.prog F.erratalaw39_net_source #[Value.pointer p46, Value.int IntKind.i64 n74] w81 fun (e83 : Ending) (w84 :
  World) => e83 = Ending.returned (Value.bool c80) ∧ ∃ (k85 : Nat), w84 = w72.drewN k85) ∧ ptrK (some c80) p46 fun (k86 k87 : Nat) => ∃ (p88 : Option Addr), ∃ (k89 : Nat), ∃ (k90 : Nat), (c80
  = true → w72.cell? (Addr.mk k86 (k87 + 3) none) = some (Value.slice p88 k89 k90)) ∧ ∃ (n91 : Int), (c80 = true → ∀ (w92 : World), (∃ (k93 : Nat), w92 = w72.drewN k93) → Calls Try.prog
  F.erratalaw39_mod #[Value.int IntKind.i64 n67, Value.int IntKind.i64 n] w92 fun (e94 : Ending) (w95 : World) => e94 = Ending.returned (Value.int IntKind.i64 n91) ∧ ∃ (k96 : Nat), w95 =
  w72.drewN k96) ∧ (c80 = true → 0 ≤ n91 ∧ n91 < (↑k89 : Int)) ∧ ptrK (some c80) p88 fun (k97 k98 : Nat) => ∃ (p99 : Option Addr), ∃ (k100 : Nat), ∃ (k101 : Nat), (c80 = true → w72.cell?
  (Addr.mk k97 (k98 + n91.toNat) none) = some (Value.slice p99 k100 k101)) ∧ Br (c80 && decide ((↑k100 : Int) = 0)) (∃ (R102 : List Own), ∃ (Φ103 : PW), Stable Φ103 ∧ (∀ (w104 : World) (R105
  : List Own), Ctx W w104 (R59 ++ R105) I60 → Ctx W w104 (R102 ++ R105) Φ103) ∧ ∀ (w106 : World) (R107 : List Own), Ctx W w106 (R59 ++ R107) I60 → Calls Try.prog F.erratalaw39_mod #[Value.int
  IntKind.i64 n67, Value.int IntKind.i64 n] w106 fun (e108 : Ending) (w109 : World) => ∃ (n110 : Int), e108 = Ending.returned (Value.int IntKind.i64 n110) ∧ ∃ (R111 : List Own), ∃ (Φ112 :
  PW), Stable Φ112 ∧ Ctx W w109 (R111 ++ R107) Φ112 ∧ (∀ (w113 : World) (R114 : List Own), Ctx W w113 (R111 ++ R114) Φ112 → Ctx W w113 (R102 ++ R114) Φ103) ∧ ∀ (w115 : World) (R116 : List
  Own), Ctx W w115 (R111 ++ R116) Φ112 → Calls Try.prog F.erratalaw39_mod #[Value.int IntKind.i64 n68, Value.int IntKind.i64 3] w115 fun (e117 : Ending) (w118 : World) => ∃ (n119 : Int), e117
  = Ending.returned (Value.int IntKind.i64 n119) ∧ ∃ (R120 : List Own), ∃ (Φ121 : PW), Stable Φ121 ∧ Ctx W w118 (R120 ++ R116) Φ121 ∧ (∀ (w122 : World) (R123 : List Own), Ctx W w122 (R120 ++
  R123) Φ121 → Ctx W w122 (R102 ++ R123) Φ103) ∧ ∀ (w124 : World) (R125 : List Own), Ctx W w124 (R120 ++ R125) Φ121 → Calls Try.prog F.erratalaw39_mark #[Value.int IntKind.i64 n119] w124 fun
  (e126 : Ending) (w127 : World) => ∃ (n128 : Int), ∃ (n129 : Int), ∃ (n130 : Int), ∃ (n131 : Int), ∃ (n132 : Int), ∃ (p133 : Option Addr), ∃ (k134 : Nat), ∃ (k135 : Nat), e126 =
  Ending.returned (Value.agg #[Value.int IntKind.i64 n128, Value.int IntKind.i64 n129, Value.int IntKind.i64 n130, Value.int IntKind.i64 n131, Value.int IntKind.i64 n132, Value.slice p133
  k134 k135]) ∧ ∃ (R136 : List Own), ∃ (Φ137 : PW), Stable Φ137 ∧ Ctx W w127 (R136 ++ R125) Φ137 ∧ (∀ (w138 : World) (R139 : List Own), Ctx W w138 (R136 ++ R139) Φ137 → Ctx W w138 (R102 ++
  R139) Φ103) ∧ ∀ (w140 : World) (R141 : List Own), Ctx W w140 (R136 ++ R141) Φ137 → Calls Try.prog F.erratalaw39_net_produce #[Value.pointer p46, Value.int IntKind.i64 n110, Value.agg
  #[Value.int IntKind.i64 n128, Value.int IntKind.i64 n129, Value.int IntKind.i64 n130, Value.int IntKind.i64 n131, Value.int IntKind.i64 n132, Value.slice p133 k134 k135]] w140 fun (e142 :
  Ending) (w143 : World) => e142 = Ending.returned (Value.tuple #[]) ∧ ∃ (R144 : List Own), ∃ (Φ145 : PW), Stable Φ145 ∧ Ctx W w143 (R144 ++ R141) Φ145 ∧ ∃ (R146 : List Own), ∃ (Φ147 : PW),
  Stable Φ147 ∧ (∀ (w148 : World) (R149 : List Own), Ctx W w148 (R144 ++ R149) Φ145 → Ctx W w148 (R146 ++ R149) Φ147) ∧ I69 n57 R146 Φ147) (∃ (R150 : List Own), ∃ (Φ151 : PW), Stable Φ151 ∧
  (∀ (w152 : World) (R153 : List Own), Ctx W w152 (R59 ++ R153) I60 → Ctx W w152 (R150 ++ R153) Φ151) ∧ I69 n57 R150 Φ151)) (Br (decide (n70 = 2)) (Br (decide (n70 = 2)) (Br (decide (0 < (↑lN
  : Int))) (∀ (w154 : World) (R155 : List Own), Ctx W w154 (R59 ++ R155) I60 → Calls Try.prog F.erratalaw39_mod #[Value.int IntKind.i64 n67, Value.int IntKind.i64 (↑lN : Int)] w154 fun (e156
  : Ending) (w157 : World) => ∃ (n158 : Int), e156 = Ending.returned (Value.int IntKind.i64 n158) ∧ ∃ (R159 : List Own), ∃ (Φ160 : PW), Stable Φ160 ∧ Ctx W w157 (R159 ++ R155) Φ160 ∧ ∀ (w161
  : World) (R162 : List Own), Ctx W w161 (R159 ++ R162) Φ160 → Calls Try.prog F.erratalaw39_net_take #[Value.pointer p46, Value.int IntKind.i64 n158] w161 fun (e163 : Ending) (w164 : World)
  => ∃ (c165 : Bool), ∃ (c166 : Bool), e163 = Ending.returned (Value.tuple #[Value.bool c165, Value.bool c166]) ∧ ∃ (R167 : List Own), ∃ (Φ168 : PW), Stable Φ168 ∧ Ctx W w164 (R167 ++ R162)
  Φ168 ∧ Br (!c166) (∀ (w169 : World) (R170 : List Own), Ctx W w169 (R167 ++ R170) Φ168 → J (Value.bool false) w169) (∃ (R171 : List Own), ∃ (Φ172 : PW), Stable Φ172 ∧ (∀ (w173 : World) (R174
  : List Own), Ctx W w173 (R167 ++ R174) Φ168 → Ctx W w173 (R171 ++ R174) Φ172) ∧ I69 n57 R171 Φ172)) (∃ (R175 : List Own), ∃ (Φ176 : PW), Stable Φ176 ∧ (∀ (w177 : World) (R178 : List Own),
  Ctx W w177 (R59 ++ R178) I60 → Ctx W w177 (R175 ++ R178) Φ176) ∧ I69 n57 R175 Φ176)) (Br (decide (n70 = 7)) (ptrK none p46 fun (k179 k180 : Nat) => ∀ (w181 : World) (R182 : List Own), Ctx W
  w181 (R59 ++ R182) I60 → ∃ (n183 : Int), w181.cell? (Addr.mk k179 (k180 + 10) none) = some (Value.int IntKind.i64 n183) ∧ Br (decide (n183 = 0)) (I64 (n57 + 1) ∧ ∃ (n184 : Int), (∀ (w185 :
  World), Sem.run Try.prog (binOp BinOp.and 3 (Value.int IntKind.i64 n68) (Value.int IntKind.i64 1)) w185 = Result.ok (Value.int IntKind.i64 n184) w185) ∧ ∀ (w186 : World) (R187 : List Own),
  Ctx W w186 (R59 ++ R187) I60 → Calls Try.prog F.erratalaw39_net_start #[Value.pointer p46, Value.int IntKind.i64 (n57 + 1), Value.int IntKind.i64 n184] w186 fun (e188 : Ending) (w189 :
  World) => e188 = Ending.returned (Value.tuple #[]) ∧ ∃ (R190 : List Own), ∃ (Φ191 : PW), Stable Φ191 ∧ Ctx W w189 (R190 ++ R187) Φ191 ∧ ∃ (R192 : List Own), ∃ (Φ193 : PW), Stable Φ193 ∧ (∀
  (w194 : World) (R195 : List Own), Ctx W w194 (R190 ++ R195) Φ191 → Ctx W w194 (R192 ++ R195) Φ193) ∧ I69 (n57 + 1) R192 Φ193) (∃ (R196 : List Own), ∃ (Φ197 : PW), Stable Φ197 ∧ (∀ (w198 :
  World) (R199 : List Own), Ctx W w198 (R59 ++ R199) I60 → Ctx W w198 (R196 ++ R199) Φ197) ∧ I69 n57 R196 Φ197)) (∀ (w200 : World) (R201 : List Own), Ctx W w200 (R59 ++ R201) I60 → Calls
  Try.prog F.erratalaw39_mod #[Value.int IntKind.i64 n67, Value.int IntKind.i64 n] w200 fun (e202 : Ending) (w203 : World) => ∃ (n204 : Int), e202 = Ending.returned (Value.int IntKind.i64
  n204) ∧ ∃ (R205 : List Own), ∃ (Φ206 : PW), Stable Φ206 ∧ Ctx W w203 (R205 ++ R201) Φ206 ∧ ∀ (w207 : World) (R208 : List Own), Ctx W w207 (R205 ++ R208) Φ206 → Calls Try.prog
  F.erratalaw39_net_flush #[Value.pointer p46, Value.int IntKind.i64 n204] w207 fun (e209 : Ending) (w210 : World) => ∃ (c211 : Bool), e209 = Ending.returned (Value.bool c211) ∧ ∃ (R212 :
  List Own), ∃ (Φ213 : PW), Stable Φ213 ∧ Ctx W w210 (R212 ++ R208) Φ213 ∧ ∃ (R214 : List Own), ∃ (Φ215 : PW), Stable Φ215 ∧ (∀ (w216 : World) (R217 : List Own), Ctx W w216 (R212 ++ R217)
  Φ213 → Ctx W w216 (R214 ++ R217) Φ215) ∧ I69 n57 R214 Φ215))) (Br (decide (n70 = 3)) (Br (decide (n70 = 3)) (Br (decide (0 < (↑lN : Int))) (∀ (w218 : World) (R219 : List Own), Ctx W w218
  (R59 ++ R219) I60 → Calls Try.prog F.erratalaw39_mod #[Value.int IntKind.i64 n67, Value.int IntKind.i64 (↑lN : Int)] w218 fun (e220 : Ending) (w221 : World) => ∃ (n222 : Int), e220 =
  Ending.returned (Value.int IntKind.i64 n222) ∧ ∃ (R223 : List Own), ∃ (Φ224 : PW), Stable Φ224 ∧ Ctx W w221 (R223 ++ R219) Φ224 ∧ ∀ (w225 : World) (R226 : List Own), Ctx W w225 (R223 ++
  R226) Φ224 → Calls Try.prog F.erratalaw39_net_take #[Value.pointer p46, Value.int IntKind.i64 n222] w225 fun (e227 : Ending) (w228 : World) => ∃ (c229 : Bool), ∃ (c230 : Bool), e227 =
  Ending.returned (Value.tuple #[Value.bool c229, Value.bool c230]) ∧ ∃ (R231 : List Own), ∃ (Φ232 : PW), Stable Φ232 ∧ Ctx W w228 (R231 ++ R226) Φ232 ∧ Br (!c230) (∀ (w233 : World) (R234 :
  List Own), Ctx W w233 (R231 ++ R234) Φ232 → J (Value.bool false) w233) (∃ (R235 : List Own), ∃ (Φ236 : PW), Stable Φ236 ∧ (∀ (w237 : World) (R238 : List Own), Ctx W w237 (R231 ++ R238) Φ232
  → Ctx W w237 (R235 ++ R238) Φ236) ∧ I69 n57 R235 Φ236)) (∃ (R239 : List Own), ∃ (Φ240 : PW), Stable Φ240 ∧ (∀ (w241 : World) (R242 : List Own), Ctx W w241 (R59 ++ R242) I60 → Ctx W w241
  (R239 ++ R242) Φ240) ∧ I69 n57 R239 Φ240)) (Br (decide (n70 = 7)) (ptrK none p46 fun (k243 k244 : Nat) => ∀ (w245 : World) (R246 : List Own), Ctx W w245 (R59 ++ R246) I60 → ∃ (n247 : Int),
  w245.cell? (Addr.mk k243 (k244 + 10) none) = some (Value.int IntKind.i64 n247) ∧ Br (decide (n247 = 0)) (I64 (n57 + 1) ∧ ∃ (n248 : Int), (∀ (w249 : World), Sem.run Try.prog (binOp BinOp.and
  3 (Value.int IntKind.i64 n68) (Value.int IntKind.i64 1)) w249 = Result.ok (Value.int IntKind.i64 n248) w249) ∧ ∀ (w250 : World) (R251 : List Own), Ctx W w250 (R59 ++ R251) I60 → Calls
  Try.prog F.erratalaw39_net_start #[Value.pointer p46, Value.int IntKind.i64 (n57 + 1), Value.int IntKind.i64 n248] w250 fun (e252 : Ending) (w253 : World) => e252 = Ending.returned
  (Value.tuple #[]) ∧ ∃ (R254 : List Own), ∃ (Φ255 : PW), Stable Φ255 ∧ Ctx W w253 (R254 ++ R251) Φ255 ∧ ∃ (R256 : List Own), ∃ (Φ257 : PW), Stable Φ257 ∧ (∀ (w258 : World) (R259 : List Own),
  Ctx W w258 (R254 ++ R259) Φ255 → Ctx W w258 (R256 ++ R259) Φ257) ∧ I69 (n57 + 1) R256 Φ257) (∃ (R260 : List Own), ∃ (Φ261 : PW), Stable Φ261 ∧ (∀ (w262 : World) (R263 : List Own), Ctx W
  w262 (R59 ++ R263) I60 → Ctx W w262 (R260 ++ R263) Φ261) ∧ I69 n57 R260 Φ261)) (∀ (w264 : World) (R265 : List Own), Ctx W w264 (R59 ++ R265) I60 → Calls Try.prog F.erratalaw39_mod
  #[Value.int IntKind.i64 n67, Value.int IntKind.i64 n] w264 fun (e266 : Ending) (w267 : World) => ∃ (n268 : Int), e266 = Ending.returned (Value.int IntKind.i64 n268) ∧ ∃ (R269 : List Own), ∃
  (Φ270 : PW), Stable Φ270 ∧ Ctx W w267 (R269 ++ R265) Φ270 ∧ ∀ (w271 : World) (R272 : List Own), Ctx W w271 (R269 ++ R272) Φ270 → Calls Try.prog F.erratalaw39_net_flush #[Value.pointer p46,
  Value.int IntKind.i64 n268] w271 fun (e273 : Ending) (w274 : World) => ∃ (c275 : Bool), e273 = Ending.returned (Value.bool c275) ∧ ∃ (R276 : List Own), ∃ (Φ277 : PW), Stable Φ277 ∧ Ctx W
  w274 (R276 ++ R272) Φ277 ∧ ∃ (R278 : List Own), ∃ (Φ279 : PW), Stable Φ279 ∧ (∀ (w280 : World) (R281 : List Own), Ctx W w280 (R276 ++ R281) Φ277 → Ctx W w280 (R278 ++ R281) Φ279) ∧ I69 n57
  R278 Φ279))) (Br (decide (n70 = 4)) (Br (decide (0 < (↑lN : Int))) (∀ (w282 : World) (R283 : List Own), Ctx W w282 (R59 ++ R283) I60 → Calls Try.prog F.erratalaw39_mod #[Value.int
  IntKind.i64 n67, Value.int IntKind.i64 (↑lN : Int)] w282 fun (e284 : Ending) (w285 : World) => ∃ (n286 : Int), e284 = Ending.returned (Value.int IntKind.i64 n286) ∧ ∃ (R287 : List Own), ∃
  (Φ288 : PW), Stable Φ288 ∧ Ctx W w285 (R287 ++ R283) Φ288 ∧ ∀ (w289 : World) (R290 : List Own), Ctx W w289 (R287 ++ R290) Φ288 → Calls Try.prog F.erratalaw39_net_take #[Value.pointer p46,
  Value.int IntKind.i64 n286] w289 fun (e291 : Ending) (w292 : World) => ∃ (c293 : Bool), ∃ (c294 : Bool), e291 = Ending.returned (Value.tuple #[Value.bool c293, Value.bool c294]) ∧ ∃ (R295 :
  List Own), ∃ (Φ296 : PW), Stable Φ296 ∧ Ctx W w292 (R295 ++ R290) Φ296 ∧ Br (!c294) (∀ (w297 : World) (R298 : List Own), Ctx W w297 (R295 ++ R298) Φ296 → J (Value.bool false) w297) (∃ (R299
  : List Own), ∃ (Φ300 : PW), Stable Φ300 ∧ (∀ (w301 : World) (R302 : List Own), Ctx W w301 (R295 ++ R302) Φ296 → Ctx W w301 (R299 ++ R302) Φ300) ∧ I69 n57 R299 Φ300)) (∃ (R303 : List Own), ∃
  (Φ304 : PW), Stable Φ304 ∧ (∀ (w305 : World) (R306 : List Own), Ctx W w305 (R59 ++ R306) I60 → Ctx W w305 (R303 ++ R306) Φ304) ∧ I69 n57 R303 Φ304)) (Br (decide (n70 = 7)) (ptrK none p46
  fun (k307 k308 : Nat) => ∀ (w309 : World) (R310 : List Own), Ctx W w309 (R59 ++ R310) I60 → ∃ (n311 : Int), w309.cell? (Addr.mk k307 (k308 + 10) none) = some (Value.int IntKind.i64 n311) ∧
  Br (decide (n311 = 0)) (I64 (n57 + 1) ∧ ∃ (n312 : Int), (∀ (w313 : World), Sem.run Try.prog (binOp BinOp.and 3 (Value.int IntKind.i64 n68) (Value.int IntKind.i64 1)) w313 = Result.ok
  (Value.int IntKind.i64 n312) w313) ∧ ∀ (w314 : World) (R315 : List Own), Ctx W w314 (R59 ++ R315) I60 → Calls Try.prog F.erratalaw39_net_start #[Value.pointer p46, Value.int IntKind.i64
  (n57 + 1), Value.int IntKind.i64 n312] w314 fun (e316 : Ending) (w317 : World) => e316 = Ending.returned (Value.tuple #[]) ∧ ∃ (R318 : List Own), ∃ (Φ319 : PW), Stable Φ319 ∧ Ctx W w317
  (R318 ++ R315) Φ319 ∧ ∃ (R320 : List Own), ∃ (Φ321 : PW), Stable Φ321 ∧ (∀ (w322 : World) (R323 : List Own), Ctx W w322 (R318 ++ R323) Φ319 → Ctx W w322 (R320 ++ R323) Φ321) ∧ I69 (n57 + 1)
  R320 Φ321) (∃ (R324 : List Own), ∃ (Φ325 : PW), Stable Φ325 ∧ (∀ (w326 : World) (R327 : List Own), Ctx W w326 (R59 ++ R327) I60 → Ctx W w326 (R324 ++ R327) Φ325) ∧ I69 n57 R324 Φ325)) (∀
  (w328 : World) (R329 : List Own), Ctx W w328 (R59 ++ R329) I60 → Calls Try.prog F.erratalaw39_mod #[Value.int IntKind.i64 n67, Value.int IntKind.i64 n] w328 fun (e330 : Ending) (w331 :
  World) => ∃ (n332 : Int), e330 = Ending.returned (Value.int IntKind.i64 n332) ∧ ∃ (R333 : List Own), ∃ (Φ334 : PW), Stable Φ334 ∧ Ctx W w331 (R333 ++ R329) Φ334 ∧ ∀ (w335 : World) (R336 :
  List Own), Ctx W w335 (R333 ++ R336) Φ334 → Calls Try.prog F.erratalaw39_net_flush #[Value.pointer p46, Value.int IntKind.i64 n332] w335 fun (e337 : Ending) (w338 : World) => ∃ (c339 :
  Bool), e337 = Ending.returned (Value.bool c339) ∧ ∃ (R340 : List Own), ∃ (Φ341 : PW), Stable Φ341 ∧ Ctx W w338 (R340 ++ R336) Φ341 ∧ ∃ (R342 : List Own), ∃ (Φ343 : PW), Stable Φ343 ∧ (∀
  (w344 : World) (R345 : List Own), Ctx W w344 (R340 ++ R345) Φ341 → Ctx W w344 (R342 ++ R345) Φ343) ∧ I69 n57 R342 Φ343)))))) (Br (decide (n70 = 1)) (∀ (w346 : World) (R347 : List Own), Ctx
  W w346 (R59 ++ R347) I60 → ∃ (n348 : Int), (∀ (w349 : World), (∃ (k350 : Nat), w349 = w346.drewN k350) → Calls Try.prog F.erratalaw39_mod #[Value.int IntKind.i64 n67, Value.int IntKind.i64
  n] w349 fun (e351 : Ending) (w352 : World) => e351 = Ending.returned (Value.int IntKind.i64 n348) ∧ ∃ (k353 : Nat), w352 = w346.drewN k353) ∧ ∃ (c354 : Bool), (∀ (w355 : World), (∃ (k356 :
  Nat), w355 = w346.drewN k356) → Calls Try.prog F.erratalaw39_net_source #[Value.pointer p46, Value.int IntKind.i64 n348] w355 fun (e357 : Ending) (w358 : World) => e357 = Ending.returned
  (Value.bool c354) ∧ ∃ (k359 : Nat), w358 = w346.drewN k359) ∧ ptrK (some c354) p46 fun (k360 k361 : Nat) => ∃ (p362 : Option Addr), ∃ (k363 : Nat), ∃ (k364 : Nat), (c354 = true → w346.cell?
  (Addr.mk k360 (k361 + 3) none) = some (Value.slice p362 k363 k364)) ∧ ∃ (n365 : Int), (c354 = true → ∀ (w366 : World), (∃ (k367 : Nat), w366 = w346.drewN k367) → Calls Try.prog
  F.erratalaw39_mod #[Value.int IntKind.i64 n67, Value.int IntKind.i64 n] w366 fun (e368 : Ending) (w369 : World) => e368 = Ending.returned (Value.int IntKind.i64 n365) ∧ ∃ (k370 : Nat), w369
  = w346.drewN k370) ∧ (c354 = true → 0 ≤ n365 ∧ n365 < (↑k363 : Int)) ∧ ptrK (some c354) p362 fun (k371 k372 : Nat) => ∃ (p373 : Option Addr), ∃ (k374 : Nat), ∃ (k375 : Nat), (c354 = true →
  w346.cell? (Addr.mk k371 (k372 + n365.toNat) none) = some (Value.slice p373 k374 k375)) ∧ Br (c354 && decide ((↑k374 : Int) = 0)) (∃ (R376 : List Own), ∃ (Φ377 : PW), Stable Φ377 ∧ (∀ (w378
  : World) (R379 : List Own), Ctx W w378 (R59 ++ R379) I60 → Ctx W w378 (R376 ++ R379) Φ377) ∧ ∀ (w380 : World) (R381 : List Own), Ctx W w380 (R59 ++ R381) I60 → Calls Try.prog
  F.erratalaw39_mod #[Value.int IntKind.i64 n67, Value.int IntKind.i64 n] w380 fun (e382 : Ending) (w383 : World) => ∃ (n384 : Int), e382 = Ending.returned (Value.int IntKind.i64 n384) ∧ ∃
  (R385 : List Own), ∃ (Φ386 : PW), Stable Φ386 ∧ Ctx W w383 (R385 ++ R381) Φ386 ∧ (∀ (w387 : World) (R388 : List Own), Ctx W w387 (R385 ++ R388) Φ386 → Ctx W w387 (R376 ++ R388) Φ377) ∧ ∀
  (w389 : World) (R390 : List Own), Ctx W w389 (R385 ++ R390) Φ386 → Calls Try.prog F.erratalaw39_mod #[Value.int IntKind.i64 n68, Value.int IntKind.i64 3] w389 fun (e391 : Ending) (w392 :
  World) => ∃ (n393 : Int), e391 = Ending.returned (Value.int IntKind.i64 n393) ∧ ∃ (R394 : List Own), ∃ (Φ395 : PW), Stable Φ395 ∧ Ctx W w392 (R394 ++ R390) Φ395 ∧ (∀ (w396 : World) (R397 :
  List Own), Ctx W w396 (R394 ++ R397) Φ395 → Ctx W w396 (R376 ++ R397) Φ377) ∧ ∀ (w398 : World) (R399 : List Own), Ctx W w398 (R394 ++ R399) Φ395 → Calls Try.prog F.erratalaw39_mark
  #[Value.int IntKind.i64 n393] w398 fun (e400 : Ending) (w401 : World) => ∃ (n402 : Int), ∃ (n403 : Int), ∃ (n404 : Int), ∃ (n405 : Int), ∃ (n406 : Int), ∃ (p407 : Option Addr), ∃ (k408 :
  Nat), ∃ (k409 : Nat), e400 = Ending.returned (Value.agg #[Value.int IntKind.i64 n402, Value.int IntKind.i64 n403, Value.int IntKind.i64 n404, Value.int IntKind.i64 n405, Value.int
  IntKind.i64 n406, Value.slice p407 k408 k409]) ∧ ∃ (R410 : List Own), ∃ (Φ411 : PW), Stable Φ411 ∧ Ctx W w401 (R410 ++ R399) Φ411 ∧ (∀ (w412 : World) (R413 : List Own), Ctx W w412 (R410 ++
  R413) Φ411 → Ctx W w412 (R376 ++ R413) Φ377) ∧ ∀ (w414 : World) (R415 : List Own), Ctx W w414 (R410 ++ R415) Φ411 → Calls Try.prog F.erratalaw39_net_produce #[Value.pointer p46, Value.int
  IntKind.i64 n384, Value.agg #[Value.int IntKind.i64 n402, Value.int IntKind.i64 n403, Value.int IntKind.i64 n404, Value.int IntKind.i64 n405, Value.int IntKind.i64 n406, Value.slice p407
  k408 k409]] w414 fun (e416 : Ending) (w417 : World) => e416 = Ending.returned (Value.tuple #[]) ∧ ∃ (R418 : List Own), ∃ (Φ419 : PW), Stable Φ419 ∧ Ctx W w417 (R418 ++ R415) Φ419 ∧ ∃ (R420
  : List Own), ∃ (Φ421 : PW), Stable Φ421 ∧ (∀ (w422 : World) (R423 : List Own), Ctx W w422 (R418 ++ R423) Φ419 → Ctx W w422 (R420 ++ R423) Φ421) ∧ I69 n57 R420 Φ421) (∃ (R424 : List Own), ∃
  (Φ425 : PW), Stable Φ425 ∧ (∀ (w426 : World) (R427 : List Own), Ctx W w426 (R59 ++ R427) I60 → Ctx W w426 (R424 ++ R427) Φ425) ∧ I69 n57 R424 Φ425)) (Br (decide (n70 = 2)) (Br (decide (n70
  = 2)) (Br (decide (0 < (↑lN : Int))) (∀ (w428 : World) (R429 : List Own), Ctx W w428 (R59 ++ R429) I60 → Calls Try.prog F.erratalaw39_mod #[Value.int IntKind.i64 n67, Value.int IntKind.i64
  (↑lN : Int)] w428 fun (e430 : Ending) (w431 : World) => ∃ (n432 : Int), e430 = Ending.returned (Value.int IntKind.i64 n432) ∧ ∃ (R433 : List Own), ∃ (Φ434 : PW), Stable Φ434 ∧ Ctx W w431
  (R433 ++ R429) Φ434 ∧ ∀ (w435 : World) (R436 : List Own), Ctx W w435 (R433 ++ R436) Φ434 → Calls Try.prog F.erratalaw39_net_take #[Value.pointer p46, Value.int IntKind.i64 n432] w435 fun
  (e437 : Ending) (w438 : World) => ∃ (c439 : Bool), ∃ (c440 : Bool), e437 = Ending.returned (Value.tuple #[Value.bool c439, Value.bool c440]) ∧ ∃ (R441 : List Own), ∃ (Φ442 : PW), Stable
  Φ442 ∧ Ctx W w438 (R441 ++ R436) Φ442 ∧ Br (!c440) (∀ (w443 : World) (R444 : List Own), Ctx W w443 (R441 ++ R444) Φ442 → J (Value.bool false) w443) (∃ (R445 : List Own), ∃ (Φ446 : PW),
  Stable Φ446 ∧ (∀ (w447 : World) (R448 : List Own), Ctx W w447 (R441 ++ R448) Φ442 → Ctx W w447 (R445 ++ R448) Φ446) ∧ I69 n57 R445 Φ446)) (∃ (R449 : List Own), ∃ (Φ450 : PW), Stable Φ450 ∧
  (∀ (w451 : World) (R452 : List Own), Ctx W w451 (R59 ++ R452) I60 → Ctx W w451 (R449 ++ R452) Φ450) ∧ I69 n57 R449 Φ450)) (Br (decide (n70 = 7)) (ptrK none p46 fun (k453 k454 : Nat) => ∀
  (w455 : World) (R456 : List Own), Ctx W w455 (R59 ++ R456) I60 → ∃ (n457 : Int), w455.cell? (Addr.mk k453 (k454 + 10) none) = some (Value.int IntKind.i64 n457) ∧ Br (decide (n457 = 0)) (I64
  (n57 + 1) ∧ ∃ (n458 : Int), (∀ (w459 : World), Sem.run Try.prog (binOp BinOp.and 3 (Value.int IntKind.i64 n68) (Value.int IntKind.i64 1)) w459 = Result.ok (Value.int IntKind.i64 n458) w459)
  ∧ ∀ (w460 : World) (R461 : List Own), Ctx W w460 (R59 ++ R461) I60 → Calls Try.prog F.erratalaw39_net_start #[Value.pointer p46, Value.int IntKind.i64 (n57 + 1), Value.int IntKind.i64 n458]
  w460 fun (e462 : Ending) (w463 : World) => e462 = Ending.returned (Value.tuple #[]) ∧ ∃ (R464 : List Own), ∃ (Φ465 : PW), Stable Φ465 ∧ Ctx W w463 (R464 ++ R461) Φ465 ∧ ∃ (R466 : List Own),
  ∃ (Φ467 : PW), Stable Φ467 ∧ (∀ (w468 : World) (R469 : List Own), Ctx W w468 (R464 ++ R469) Φ465 → Ctx W w468 (R466 ++ R469) Φ467) ∧ I69 (n57 + 1) R466 Φ467) (∃ (R470 : List Own), ∃ (Φ471 :
  PW), Stable Φ471 ∧ (∀ (w472 : World) (R473 : List Own), Ctx W w472 (R59 ++ R473) I60 → Ctx W w472 (R470 ++ R473) Φ471) ∧ I69 n57 R470 Φ471)) (∀ (w474 : World) (R475 : List Own), Ctx W w474
  (R59 ++ R475) I60 → Calls Try.prog F.erratalaw39_mod #[Value.int IntKind.i64 n67, Value.int IntKind.i64 n] w474 fun (e476 : Ending) (w477 : World) => ∃ (n478 : Int), e476 = Ending.returned
  (Value.int IntKind.i64 n478) ∧ ∃ (R479 : List Own), ∃ (Φ480 : PW), Stable Φ480 ∧ Ctx W w477 (R479 ++ R475) Φ480 ∧ ∀ (w481 : World) (R482 : List Own), Ctx W w481 (R479 ++ R482) Φ480 → Calls
  Try.prog F.erratalaw39_net_flush #[Value.pointer p46, Value.int IntKind.i64 n478] w481 fun (e483 : Ending) (w484 : World) => ∃ (c485 : Bool), e483 = Ending.returned (Value.bool c485) ∧ ∃
  (R486 : List Own), ∃ (Φ487 : PW), Stable Φ487 ∧ Ctx W w484 (R486 ++ R482) Φ487 ∧ ∃ (R488 : List Own), ∃ (Φ489 : PW), Stable Φ489 ∧ (∀ (w490 : World) (R491 : List Own), Ctx W w490 (R486 ++
  R491) Φ487 → Ctx W w490 (R488 ++ R491) Φ489) ∧ I69 n57 R488 Φ489))) (Br (decide (n70 = 3)) (Br (decide (n70 = 3)) (Br (decide (0 < (↑lN : Int))) (∀ (w492 : World) (R493 : List Own), Ctx W
  w492 (R59 ++ R493) I60 → Calls Try.prog F.erratalaw39_mod #[Value.int IntKind.i64 n67, Value.int IntKind.i64 (↑lN : Int)] w492 fun (e494 : Ending) (w495 : World) => ∃ (n496 : Int), e494 =
  Ending.returned (Value.int IntKind.i64 n496) ∧ ∃ (R497 : List Own), ∃ (Φ498 : PW), Stable Φ498 ∧ Ctx W w495 (R497 ++ R493) Φ498 ∧ ∀ (w499 : World) (R500 : List Own), Ctx W w499 (R497 ++
  R500) Φ498 → Calls Try.prog F.erratalaw39_net_take #[Value.pointer p46, Value.int IntKind.i64 n496] w499 fun (e501 : Ending) (w502 : World) => ∃ (c503 : Bool), ∃ (c504 : Bool), e501 =
  Ending.returned (Value.tuple #[Value.bool c503, Value.bool c504]) ∧ ∃ (R505 : List Own), ∃ (Φ506 : PW), Stable Φ506 ∧ Ctx W w502 (R505 ++ R500) Φ506 ∧ Br (!c504) (∀ (w507 : World) (R508 :
  List Own), Ctx W w507 (R505 ++ R508) Φ506 → J (Value.bool false) w507) (∃ (R509 : List Own), ∃ (Φ510 : PW), Stable Φ510 ∧ (∀ (w511 : World) (R512 : List Own), Ctx W w511 (R505 ++ R512) Φ506
  → Ctx W w511 (R509 ++ R512) Φ510) ∧ I69 n57 R509 Φ510)) (∃ (R513 : List Own), ∃ (Φ514 : PW), Stable Φ514 ∧ (∀ (w515 : World) (R516 : List Own), Ctx W w515 (R59 ++ R516) I60 → Ctx W w515
  (R513 ++ R516) Φ514) ∧ I69 n57 R513 Φ514)) (Br (decide (n70 = 7)) (ptrK none p46 fun (k517 k518 : Nat) => ∀ (w519 : World) (R520 : List Own), Ctx W w519 (R59 ++ R520) I60 → ∃ (n521 : Int),
  w519.cell? (Addr.mk k517 (k518 + 10) none) = some (Value.int IntKind.i64 n521) ∧ Br (decide (n521 = 0)) (I64 (n57 + 1) ∧ ∃ (n522 : Int), (∀ (w523 : World), Sem.run Try.prog (binOp BinOp.and
  3 (Value.int IntKind.i64 n68) (Value.int IntKind.i64 1)) w523 = Result.ok (Value.int IntKind.i64 n522) w523) ∧ ∀ (w524 : World) (R525 : List Own), Ctx W w524 (R59 ++ R525) I60 → Calls
  Try.prog F.erratalaw39_net_start #[Value.pointer p46, Value.int IntKind.i64 (n57 + 1), Value.int IntKind.i64 n522] w524 fun (e526 : Ending) (w527 : World) => e526 = Ending.returned
  (Value.tuple #[]) ∧ ∃ (R528 : List Own), ∃ (Φ529 : PW), Stable Φ529 ∧ Ctx W w527 (R528 ++ R525) Φ529 ∧ ∃ (R530 : List Own), ∃ (Φ531 : PW), Stable Φ531 ∧ (∀ (w532 : World) (R533 : List Own),
  Ctx W w532 (R528 ++ R533) Φ529 → Ctx W w532 (R530 ++ R533) Φ531) ∧ I69 (n57 + 1) R530 Φ531) (∃ (R534 : List Own), ∃ (Φ535 : PW), Stable Φ535 ∧ (∀ (w536 : World) (R537 : List Own), Ctx W
  w536 (R59 ++ R537) I60 → Ctx W w536 (R534 ++ R537) Φ535) ∧ I69 n57 R534 Φ535)) (∀ (w538 : World) (R539 : List Own), Ctx W w538 (R59 ++ R539) I60 → Calls Try.prog F.erratalaw39_mod
  #[Value.int IntKind.i64 n67, Value.int IntKind.i64 n] w538 fun (e540 : Ending) (w541 : World) => ∃ (n542 : Int), e540 = Ending.returned (Value.int IntKind.i64 n542) ∧ ∃ (R543 : List Own), ∃
  (Φ544 : PW), Stable Φ544 ∧ Ctx W w541 (R543 ++ R539) Φ544 ∧ ∀ (w545 : World) (R546 : List Own), Ctx W w545 (R543 ++ R546) Φ544 → Calls Try.prog F.erratalaw39_net_flush #[Value.pointer p46,
  Value.int IntKind.i64 n542] w545 fun (e547 : Ending) (w548 : World) => ∃ (c549 : Bool), e547 = Ending.returned (Value.bool c549) ∧ ∃ (R550 : List Own), ∃ (Φ551 : PW), Stable Φ551 ∧ Ctx W
  w548 (R550 ++ R546) Φ551 ∧ ∃ (R552 : List Own), ∃ (Φ553 : PW), Stable Φ553 ∧ (∀ (w554 : World) (R555 : List Own), Ctx W w554 (R550 ++ R555) Φ551 → Ctx W w554 (R552 ++ R555) Φ553) ∧ I69 n57
  R552 Φ553))) (Br (decide (n70 = 4)) (Br (decide (0 < (↑lN : Int))) (∀ (w556 : World) (R557 : List Own), Ctx W w556 (R59 ++ R557) I60 → Calls Try.prog F.erratalaw39_mod #[Value.int
  IntKind.i64 n67, Value.int IntKind.i64 (↑lN : Int)] w556 fun (e558 : Ending) (w559 : World) => ∃ (n560 : Int), e558 = Ending.returned (Value.int IntKind.i64 n560) ∧ ∃ (R561 : List Own), ∃
  (Φ562 : PW), Stable Φ562 ∧ Ctx W w559 (R561 ++ R557) Φ562 ∧ ∀ (w563 : World) (R564 : List Own), Ctx W w563 (R561 ++ R564) Φ562 → Calls Try.prog F.erratalaw39_net_take #[Value.pointer p46,
  Value.int IntKind.i64 n560] w563 fun (e565 : Ending) (w566 : World) => ∃ (c567 : Bool), ∃ (c568 : Bool), e565 = Ending.returned (Value.tuple #[Value.bool c567, Value.bool c568]) ∧ ∃ (R569 :
  List Own), ∃ (Φ570 : PW), Stable Φ570 ∧ Ctx W w566 (R569 ++ R564) Φ570 ∧ Br (!c568) (∀ (w571 : World) (R572 : List Own), Ctx W w571 (R569 ++ R572) Φ570 → J (Value.bool false) w571) (∃ (R573
  : List Own), ∃ (Φ574 : PW), Stable Φ574 ∧ (∀ (w575 : World) (R576 : List Own), Ctx W w575 (R569 ++ R576) Φ570 → Ctx W w575 (R573 ++ R576) Φ574) ∧ I69 n57 R573 Φ574)) (∃ (R577 : List Own), ∃
  (Φ578 : PW), Stable Φ578 ∧ (∀ (w579 : World) (R580 : List Own), Ctx W w579 (R59 ++ R580) I60 → Ctx W w579 (R577 ++ R580) Φ578) ∧ I69 n57 R577 Φ578)) (Br (decide (n70 = 7)) (ptrK none p46
  fun (k581 k582 : Nat) => ∀ (w583 : World) (R584 : List Own), Ctx W w583 (R59 ++ R584) I60 → ∃ (n585 : Int), w583.cell? (Addr.mk k581 (k582 + 10) none) = some (Value.int IntKind.i64 n585) ∧
  Br (decide (n585 = 0)) (I64 (n57 + 1) ∧ ∃ (n586 : Int), (∀ (w587 : World), Sem.run Try.prog (binOp BinOp.and 3 (Value.int IntKind.i64 n68) (Value.int IntKind.i64 1)) w587 = Result.ok
  (Value.int IntKind.i64 n586) w587) ∧ ∀ (w588 : World) (R589 : List Own), Ctx W w588 (R59 ++ R589) I60 → Calls Try.prog F.erratalaw39_net_start #[Value.pointer p46, Value.int IntKind.i64
  (n57 + 1), Value.int IntKind.i64 n586] w588 fun (e590 : Ending) (w591 : World) => e590 = Ending.returned (Value.tuple #[]) ∧ ∃ (R592 : List Own), ∃ (Φ593 : PW), Stable Φ593 ∧ Ctx W w591
  (R592 ++ R589) Φ593 ∧ ∃ (R594 : List Own), ∃ (Φ595 : PW), Stable Φ595 ∧ (∀ (w596 : World) (R597 : List Own), Ctx W w596 (R592 ++ R597) Φ593 → Ctx W w596 (R594 ++ R597) Φ595) ∧ I69 (n57 + 1)
  R594 Φ595) (∃ (R598 : List Own), ∃ (Φ599 : PW), Stable Φ599 ∧ (∀ (w600 : World) (R601 : List Own), Ctx W w600 (R59 ++ R601) I60 → Ctx W w600 (R598 ++ R601) Φ599) ∧ I69 n57 R598 Φ599)) (∀
  (w602 : World) (R603 : List Own), Ctx W w602 (R59 ++ R603) I60 → Calls Try.prog F.erratalaw39_mod #[Value.int IntKind.i64 n67, Value.int IntKind.i64 n] w602 fun (e604 : Ending) (w605 :
  World) => ∃ (n606 : Int), e604 = Ending.returned (Value.int IntKind.i64 n606) ∧ ∃ (R607 : List Own), ∃ (Φ608 : PW), Stable Φ608 ∧ Ctx W w605 (R607 ++ R603) Φ608 ∧ ∀ (w609 : World) (R610 :
  List Own), Ctx W w609 (R607 ++ R610) Φ608 → Calls Try.prog F.erratalaw39_net_flush #[Value.pointer p46, Value.int IntKind.i64 n606] w609 fun (e611 : Ending) (w612 : World) => ∃ (c613 :
  Bool), e611 = Ending.returned (Value.bool c613) ∧ ∃ (R614 : List Own), ∃ (Φ615 : PW), Stable Φ615 ∧ Ctx W w612 (R614 ++ R610) Φ615 ∧ ∃ (R616 : List Own), ∃ (Φ617 : PW), Stable Φ617 ∧ (∀
  (w618 : World) (R619 : List Own), Ctx W w618 (R614 ++ R619) Φ615 → Ctx W w618 (R616 ++ R619) Φ617) ∧ I69 n57 R616 Φ617))))))) ∧ ∀ (n620 : Int) (R621 : List Own) (I622 : List Nat → World →
  Prop), Stable I622 → I69 n620 R621 I622 → ptrK none p46 fun (k623 k624 : Nat) => ∀ (w625 : World) (R626 : List Own), Ctx W w625 (R621 ++ R626) I622 → ∃ (n627 : Int), w625.cell? (Addr.mk
  k623 (k624 + 10) none) = some (Value.int IntKind.i64 n627) ∧ Br (decide (0 < n627)) (∀ (w628 : World) (R629 : List Own), Ctx W w628 (R621 ++ R629) I622 → Calls Try.prog
  F.erratalaw39_net_whole #[Value.pointer p46] w628 fun (e630 : Ending) (w631 : World) => ∃ (c632 : Bool), e630 = Ending.returned (Value.bool c632) ∧ ∃ (R633 : List Own), ∃ (Φ634 : PW),
  Stable Φ634 ∧ Ctx W w631 (R633 ++ R629) Φ634 ∧ Br c632 (∀ (w635 : World) (R636 : List Own), Ctx W w635 (R633 ++ R636) Φ634 → Calls Try.prog F.erratalaw39_net_consistent #[Value.pointer p46]
  w635 fun (e637 : Ending) (w638 : World) => ∃ (c639 : Bool), e637 = Ending.returned (Value.bool c639) ∧ ∃ (R640 : List Own), ∃ (Φ641 : PW), Stable Φ641 ∧ Ctx W w638 (R640 ++ R636) Φ641 ∧ Br
  (!c639) (∀ (w642 : World) (R643 : List Own), Ctx W w642 (R640 ++ R643) Φ641 → J (Value.bool false) w642) (ptrK none p46 fun (k644 k645 : Nat) => ∀ (w646 : World) (R647 : List Own), Ctx W
  w646 (R640 ++ R647) Φ641 → CanWrite w646 k644 (k645 + 10) 1 ∧ ∀ (w648 : World), w648 = w646.setCell (Addr.mk k644 (k645 + 10) none) (Value.int IntKind.i64 0) → ∃ (R649 : List Own), ∃ (Φ650
  : PW), Stable Φ650 ∧ Ctx W w648 (R649 ++ R647) Φ650 ∧ ∀ (w651 : World) (R652 : List Own), Ctx W w651 (R649 ++ R652) Φ650 → Calls Try.prog F.erratalaw39_net_clear #[Value.pointer p46] w651
  fun (e653 : Ending) (w654 : World) => e653 = Ending.returned (Value.tuple #[]) ∧ ∃ (R655 : List Own), ∃ (Φ656 : PW), Stable Φ656 ∧ Ctx W w654 (R655 ++ R652) Φ656 ∧ I64 (n58 + 1) ∧ ∃ (R657 :
  List Own), ∃ (Φ658 : PW), ∃ (k659 : Nat), Stable Φ658 ∧ (∀ (w660 : World) (R661 : List Own), Ctx W w660 (R655 ++ R661) Φ656 → Ctx W w660 (R657 ++ R661) Φ658) ∧ I51 n620 (n58 + 1) R657 Φ658
  k659 ∧ k659 < k61)) (I64 (n58 + 1) ∧ ∃ (R662 : List Own), ∃ (Φ663 : PW), ∃ (k664 : Nat), Stable Φ663 ∧ (∀ (w665 : World) (R666 : List Own), Ctx W w665 (R633 ++ R666) Φ634 → Ctx W w665 (R662
  ++ R666) Φ663) ∧ I51 n620 (n58 + 1) R662 Φ663 k664 ∧ k664 < k61)) (I64 (n58 + 1) ∧ ∃ (R667 : List Own), ∃ (Φ668 : PW), ∃ (k669 : Nat), Stable Φ668 ∧ (∀ (w670 : World) (R671 : List Own), Ctx
  W w670 (R621 ++ R671) I622 → Ctx W w670 (R667 ++ R671) Φ668) ∧ I51 n620 (n58 + 1) R667 Φ668 k669 ∧ k669 < k61)) (∀ (w672 : World) (R673 : List Own), Ctx W w672 (R59 ++ R673) I60 → Calls
  Try.prog F.erratalaw39_net_drain #[Value.pointer p46] w672 fun (e674 : Ending) (w675 : World) => ∃ (c676 : Bool), e674 = Ending.returned (Value.bool c676) ∧ ∃ (R677 : List Own), ∃ (Φ678 :
  PW), Stable Φ678 ∧ Ctx W w675 (R677 ++ R673) Φ678 ∧ Br (!c676) (∀ (w679 : World) (R680 : List Own), Ctx W w679 (R677 ++ R680) Φ678 → J (Value.bool false) w679) (ptrK none p46 fun (k681 k682
  : Nat) => ∀ (w683 : World) (R684 : List Own), Ctx W w683 (R677 ++ R684) Φ678 → ∃ (n685 : Int), w683.cell? (Addr.mk k681 (k682 + 10) none) = some (Value.int IntKind.i64 n685) ∧ Br (decide (0
  < n685)) (∀ (w686 : World) (R687 : List Own), Ctx W w686 (R677 ++ R687) Φ678 → Calls Try.prog F.erratalaw39_net_whole #[Value.pointer p46] w686 fun (e688 : Ending) (w689 : World) => ∃ (c690
  : Bool), e688 = Ending.returned (Value.bool c690) ∧ ∃ (R691 : List Own), ∃ (Φ692 : PW), Stable Φ692 ∧ Ctx W w689 (R691 ++ R687) Φ692 ∧ Br (!c690) (∀ (w693 : World) (R694 : List Own), Ctx W
  w693 (R691 ++ R694) Φ692 → J (Value.bool false) w693) (∀ (w695 : World) (R696 : List Own), Ctx W w695 (R691 ++ R696) Φ692 → Calls Try.prog F.erratalaw39_net_consistent #[Value.pointer p46]
  w695 fun (e697 : Ending) (w698 : World) => ∃ (c699 : Bool), e697 = Ending.returned (Value.bool c699) ∧ ∃ (R700 : List Own), ∃ (Φ701 : PW), Stable Φ701 ∧ Ctx W w698 (R700 ++ R696) Φ701 ∧ Br
  (!c699) (∀ (w702 : World) (R703 : List Own), Ctx W w702 (R700 ++ R703) Φ701 → J (Value.bool false) w702) (exI fun (I704 : Int → List Own → PW → Nat → Prop) => (∃ (R705 : List Own), ∃ (Φ706
  : PW), ∃ (k707 : Nat), Stable Φ706 ∧ (∀ (w708 : World) (R709 : List Own), Ctx W w708 (R700 ++ R709) Φ701 → Ctx W w708 (R705 ++ R709) Φ706) ∧ I704 0 R705 Φ706 k707) ∧ ∀ (n710 : Int) (R711 :
  List Own) (I712 : List Nat → World → Prop) (k713 : Nat), Stable I712 → I704 n710 R711 I712 k713 → ptrK none p46 fun (k714 k715 : Nat) => ∀ (w716 : World) (R717 : List Own), Ctx W w716 (R711
  ++ R717) I712 → ∃ (p718 : Option Addr), ∃ (k719 : Nat), ∃ (k720 : Nat), w716.cell? (Addr.mk k714 (k715 + 1) none) = some (Value.slice p718 k719 k720) ∧ Br (decide (n710 < (↑k719 : Int)))
  (ptrK none p46 fun (k721 k722 : Nat) => ∀ (w723 : World) (R724 : List Own), Ctx W w723 (R711 ++ R724) I712 → ∃ (p725 : Option Addr), ∃ (k726 : Nat), ∃ (k727 : Nat), w723.cell? (Addr.mk k721
  (k722 + 1) none) = some (Value.slice p725 k726 k727) ∧ (0 ≤ n710 ∧ n710 < (↑k726 : Int)) ∧ ptrK none p725 fun (k728 k729 : Nat) => ∀ (w730 : World) (R731 : List Own), Ctx W w730 (R711 ++
  R731) I712 → ∃ (p732 : Option Addr), w730.cell? (Addr.mk k728 (k729 + n710.toNat) none) = some (Value.pointer p732) ∧ ∀ (w733 : World) (R734 : List Own), Ctx W w733 (R711 ++ R734) I712 →
  Calls Try.prog F.channel_Channel_Len #[Value.pointer p732] w733 fun (e735 : Ending) (w736 : World) => ∃ (n737 : Int), e735 = Ending.returned (Value.int IntKind.i64 n737) ∧ ∃ (R738 : List
  Own), ∃ (Φ739 : PW), Stable Φ739 ∧ Ctx W w736 (R738 ++ R734) Φ739 ∧ Br (decide (0 < n737)) (∀ (w740 : World) (R741 : List Own), Ctx W w740 (R738 ++ R741) Φ739 → J (Value.bool false) w740)
  (I64 (n710 + 1) ∧ ∃ (R742 : List Own), ∃ (Φ743 : PW), ∃ (k744 : Nat), Stable Φ743 ∧ (∀ (w745 : World) (R746 : List Own), Ctx W w745 (R738 ++ R746) Φ739 → Ctx W w745 (R742 ++ R746) Φ743) ∧
  I704 (n710 + 1) R742 Φ743 k744 ∧ k744 < k713)) (∀ (w747 : World) (R748 : List Own), Ctx W w747 (R711 ++ R748) I712 → J (Value.bool c4) w747)))) (exI fun (I749 : Int → List Own → PW → Nat →
  Prop) => (∃ (R750 : List Own), ∃ (Φ751 : PW), ∃ (k752 : Nat), Stable Φ751 ∧ (∀ (w753 : World) (R754 : List Own), Ctx W w753 (R677 ++ R754) Φ678 → Ctx W w753 (R750 ++ R754) Φ751) ∧ I749 0
  R750 Φ751 k752) ∧ ∀ (n755 : Int) (R756 : List Own) (I757 : List Nat → World → Prop) (k758 : Nat), Stable I757 → I749 n755 R756 I757 k758 → ptrK none p46 fun (k759 k760 : Nat) => ∀ (w761 :
  World) (R762 : List Own), Ctx W w761 (R756 ++ R762) I757 → ∃ (p763 : Option Addr), ∃ (k764 : Nat), ∃ (k765 : Nat), w761.cell? (Addr.mk k759 (k760 + 1) none) = some (Value.slice p763 k764
  k765) ∧ Br (decide (n755 < (↑k764 : Int))) (ptrK none p46 fun (k766 k767 : Nat) => ∀ (w768 : World) (R769 : List Own), Ctx W w768 (R756 ++ R769) I757 → ∃ (p770 : Option Addr), ∃ (k771 :
  Nat), ∃ (k772 : Nat), w768.cell? (Addr.mk k766 (k767 + 1) none) = some (Value.slice p770 k771 k772) ∧ (0 ≤ n755 ∧ n755 < (↑k771 : Int)) ∧ ptrK none p770 fun (k773 k774 : Nat) => ∀ (w775 :
  World) (R776 : List Own), Ctx W w775 (R756 ++ R776) I757 → ∃ (p777 : Option Addr), w775.cell? (Addr.mk k773 (k774 + n755.toNat) none) = some (Value.pointer p777) ∧ ∀ (w778 : World) (R779 :
  List Own), Ctx W w778 (R756 ++ R779) I757 → Calls Try.prog F.channel_Channel_Len #[Value.pointer p777] w778 fun (e780 : Ending) (w781 : World) => ∃ (n782 : Int), e780 = Ending.returned
  (Value.int IntKind.i64 n782) ∧ ∃ (R783 : List Own), ∃ (Φ784 : PW), Stable Φ784 ∧ Ctx W w781 (R783 ++ R779) Φ784 ∧ Br (decide (0 < n782)) (∀ (w785 : World) (R786 : List Own), Ctx W w785
  (R783 ++ R786) Φ784 → J (Value.bool false) w785) (I64 (n755 + 1) ∧ ∃ (R787 : List Own), ∃ (Φ788 : PW), ∃ (k789 : Nat), Stable Φ788 ∧ (∀ (w790 : World) (R791 : List Own), Ctx W w790 (R783 ++
  R791) Φ784 → Ctx W w790 (R787 ++ R791) Φ788) ∧ I749 (n755 + 1) R787 Φ788 k789 ∧ k789 < k758)) (∀ (w792 : World) (R793 : List Own), Ctx W w792 (R756 ++ R793) I757 → J (Value.bool c4)
  w792)))))))

theorem Berratalaw39_CheckpointCut_run (n : Int) (lP : Option Addr) (lN lC : Nat) (opsP : Option Addr) (opsN opsC : Nat) {W w : World} {R : List Own} {Φ : PW} [Stable Φ] {J : Value → World → Prop} (c : Ctx W w R Φ) (h : Berratalaw39_CheckpointCut n lP lN lC opsP opsN opsC W R Φ J) : Calls Try.prog F.erratalaw39_CheckpointCut #[.int .i64 n, .slice lP lN lC, .slice opsP opsN opsC] w fun e w' => ∃ v, e = .returned v ∧ J v w' :=
  vcFS_sound (H := { keep := some [0, 1, 2, 6, 7, 8, 9, 10, 11, 12, 14, 15, 32, 37, 67, 73, 77, 86, 93, 115, 126, 132, 144, 145, 151, 168, 171, 179, 194, 201, 212], track := [12], stages := [(22, [.held [(0, true), (1, true), (3, true), (5, true), (2, true), (6, true), (4, false), (7, false), (8, false)], .stage [] (some 9)])], split := [34, 41], loops := [(44, [(15, .one (.int .i64))], []), (14, [(10, .one (.int .i64)), (11, .one (.int .i64))], []), (5, [(8, .one (.int .i64))], [])], cuts := [(34, [(10, .one (.int .i64))], [])] }) (by rw [show vcFS Try.prog W { keep := some [0, 1, 2, 6, 7, 8, 9, 10, 11, 12, 14, 15, 32, 37, 67, 73, 77, 86, 93, 115, 126, 132, 144, 145, 151, 168, 171, 179, 194, 201, 212], track := [12], stages := [(22, [.held [(0, true), (1, true), (3, true), (5, true), (2, true), (6, true), (4, false), (7, false), (8, false)], .stage [] (some 9)])], split := [34, 41], loops := [(44, [(15, .one (.int .i64))], []), (14, [(10, .one (.int .i64)), (11, .one (.int .i64))], []), (5, [(8, .one (.int .i64))], [])], cuts := [(34, [(10, .one (.int .i64))], [])] } F.erratalaw39_CheckpointCut #[.int .i64 n, .slice lP lN lC, .slice opsP opsN opsC] R Φ J = Berratalaw39_CheckpointCut n lP lN lC opsP opsN opsC W R Φ J by kernel_rfl]; exact h) c

/-- erratalaw39.small -/
def Berratalaw39_small  (W : World) (R : List Own) (Φ : PW) (J : Value → World → Prop) : Prop :=
  ∀ (w0 : World) (R1 : List Own), Ctx W w0 (R ++ R1) Φ → Calls Try.prog F.checkpoint_NewGate #[Value.int IntKind.i64 2] w0 fun (e2 : Ending) (w3 : World) => ∃ (p4 : Option Addr), e2 =
  Ending.returned (Value.pointer p4) ∧ ∃ (R5 : List Own), ∃ (Φ6 : PW), Stable Φ6 ∧ Ctx W w3 (R5 ++ R1) Φ6 ∧ ∀ (w7 : World) (R8 : List Own), Ctx W w7 (R5 ++ R8) Φ6 → Calls Try.prog
  F.checkpoint_NewGate #[Value.int IntKind.i64 2] w7 fun (e9 : Ending) (w10 : World) => ∃ (p11 : Option Addr), e9 = Ending.returned (Value.pointer p11) ∧ ∃ (R12 : List Own), ∃ (Φ13 : PW),
  Stable Φ13 ∧ Ctx W w10 (R12 ++ R8) Φ13 ∧ ∀ (w14 : World) (R15 : List Own), Ctx W w14 (R12 ++ R15) Φ13 → Br (p4.isNone || p11.isNone) (∀ (w16 : World) (R17 : List Own), Ctx W w16 (R12 ++
  R17) Φ13 → J (Value.bool false) w16) (∀ (w18 : World) (R19 : List Own), Ctx W w18 (R12 ++ R19) Φ13 → Calls Try.prog F.erratalaw39_barrier #[Value.int IntKind.i64 1] w18 fun (e20 : Ending)
  (w21 : World) => ∃ (n22 : Int), ∃ (n23 : Int), ∃ (n24 : Int), ∃ (n25 : Int), ∃ (n26 : Int), ∃ (p27 : Option Addr), ∃ (k28 : Nat), ∃ (k29 : Nat), e20 = Ending.returned (Value.agg #[Value.int
  IntKind.i64 n22, Value.int IntKind.i64 n23, Value.int IntKind.i64 n24, Value.int IntKind.i64 n25, Value.int IntKind.i64 n26, Value.slice p27 k28 k29]) ∧ ∃ (R30 : List Own), ∃ (Φ31 : PW),
  Stable Φ31 ∧ Ctx W w21 (R30 ++ R19) Φ31 ∧ ∀ (w32 : World) (R33 : List Own), Ctx W w32 (R30 ++ R33) Φ31 → Calls Try.prog F.checkpoint_Gate_Arrive #[Value.pointer p4, Value.int IntKind.i64 0,
  Value.agg #[Value.int IntKind.i64 n22, Value.int IntKind.i64 n23, Value.int IntKind.i64 n24, Value.int IntKind.i64 n25, Value.int IntKind.i64 n26, Value.slice p27 k28 k29], Value.int
  IntKind.i64 0] w32 fun (e34 : Ending) (w35 : World) => ∃ (n36 : Int), e34 = Ending.returned (Value.int IntKind.i64 n36) ∧ ∃ (R37 : List Own), ∃ (Φ38 : PW), Stable Φ38 ∧ Ctx W w35 (R37 ++
  R33) Φ38 ∧ Br (decide (n36 = 3)) (∀ (w39 : World) (R40 : List Own), Ctx W w39 (R37 ++ R40) Φ38 → Calls Try.prog F.erratalaw39_mark #[Value.int IntKind.i64 5] w39 fun (e41 : Ending) (w42 :
  World) => ∃ (n43 : Int), ∃ (n44 : Int), ∃ (n45 : Int), ∃ (n46 : Int), ∃ (n47 : Int), ∃ (p48 : Option Addr), ∃ (k49 : Nat), ∃ (k50 : Nat), e41 = Ending.returned (Value.agg #[Value.int
  IntKind.i64 n43, Value.int IntKind.i64 n44, Value.int IntKind.i64 n45, Value.int IntKind.i64 n46, Value.int IntKind.i64 n47, Value.slice p48 k49 k50]) ∧ ∃ (R51 : List Own), ∃ (Φ52 : PW),
  Stable Φ52 ∧ Ctx W w42 (R51 ++ R40) Φ52 ∧ ∀ (w53 : World) (R54 : List Own), Ctx W w53 (R51 ++ R54) Φ52 → Calls Try.prog F.checkpoint_Gate_Arrive #[Value.pointer p4, Value.int IntKind.i64 0,
  Value.agg #[Value.int IntKind.i64 n43, Value.int IntKind.i64 n44, Value.int IntKind.i64 n45, Value.int IntKind.i64 n46, Value.int IntKind.i64 n47, Value.slice p48 k49 k50], Value.int
  IntKind.i64 0] w53 fun (e55 : Ending) (w56 : World) => ∃ (n57 : Int), e55 = Ending.returned (Value.int IntKind.i64 n57) ∧ ∃ (R58 : List Own), ∃ (Φ59 : PW), Stable Φ59 ∧ Ctx W w56 (R58 ++
  R54) Φ59 ∧ ∀ (w60 : World) (R61 : List Own), Ctx W w60 (R58 ++ R61) Φ59 → Calls Try.prog F.erratalaw39_mark #[Value.int IntKind.i64 5] w60 fun (e62 : Ending) (w63 : World) => ∃ (n64 : Int),
  ∃ (n65 : Int), ∃ (n66 : Int), ∃ (n67 : Int), ∃ (n68 : Int), ∃ (p69 : Option Addr), ∃ (k70 : Nat), ∃ (k71 : Nat), e62 = Ending.returned (Value.agg #[Value.int IntKind.i64 n64, Value.int
  IntKind.i64 n65, Value.int IntKind.i64 n66, Value.int IntKind.i64 n67, Value.int IntKind.i64 n68, Value.slice p69 k70 k71]) ∧ ∃ (R72 : List Own), ∃ (Φ73 : PW), Stable Φ73 ∧ Ctx W w63 (R72
  ++ R61) Φ73 ∧ ∀ (w74 : World) (R75 : List Own), Ctx W w74 (R72 ++ R75) Φ73 → Calls Try.prog F.checkpoint_Gate_Arrive #[Value.pointer p4, Value.int IntKind.i64 1, Value.agg #[Value.int
  IntKind.i64 n64, Value.int IntKind.i64 n65, Value.int IntKind.i64 n66, Value.int IntKind.i64 n67, Value.int IntKind.i64 n68, Value.slice p69 k70 k71], Value.int IntKind.i64 0] w74 fun (e76
  : Ending) (w77 : World) => ∃ (n78 : Int), e76 = Ending.returned (Value.int IntKind.i64 n78) ∧ ∃ (R79 : List Own), ∃ (Φ80 : PW), Stable Φ80 ∧ Ctx W w77 (R79 ++ R75) Φ80 ∧ Br (decide (n78 =
  1)) (∀ (w81 : World) (R82 : List Own), Ctx W w81 (R79 ++ R82) Φ80 → Calls Try.prog F.erratalaw39_barrier #[Value.int IntKind.i64 1] w81 fun (e83 : Ending) (w84 : World) => ∃ (n85 : Int), ∃
  (n86 : Int), ∃ (n87 : Int), ∃ (n88 : Int), ∃ (n89 : Int), ∃ (p90 : Option Addr), ∃ (k91 : Nat), ∃ (k92 : Nat), e83 = Ending.returned (Value.agg #[Value.int IntKind.i64 n85, Value.int
  IntKind.i64 n86, Value.int IntKind.i64 n87, Value.int IntKind.i64 n88, Value.int IntKind.i64 n89, Value.slice p90 k91 k92]) ∧ ∃ (R93 : List Own), ∃ (Φ94 : PW), Stable Φ94 ∧ Ctx W w84 (R93
  ++ R82) Φ94 ∧ ∀ (w95 : World) (R96 : List Own), Ctx W w95 (R93 ++ R96) Φ94 → Calls Try.prog F.checkpoint_Gate_Arrive #[Value.pointer p4, Value.int IntKind.i64 1, Value.agg #[Value.int
  IntKind.i64 n85, Value.int IntKind.i64 n86, Value.int IntKind.i64 n87, Value.int IntKind.i64 n88, Value.int IntKind.i64 n89, Value.slice p90 k91 k92], Value.int IntKind.i64 0] w95 fun (e97
  : Ending) (w98 : World) => ∃ (n99 : Int), e97 = Ending.returned (Value.int IntKind.i64 n99) ∧ ∃ (R100 : List Own), ∃ (Φ101 : PW), Stable Φ101 ∧ Ctx W w98 (R100 ++ R96) Φ101 ∧ ∀ (w102 :
  World) (R103 : List Own), Ctx W w102 (R100 ++ R103) Φ101 → Calls Try.prog F.erratalaw39_barrier #[Value.int IntKind.i64 1] w102 fun (e104 : Ending) (w105 : World) => ∃ (n106 : Int), ∃ (n107
  : Int), ∃ (n108 : Int), ∃ (n109 : Int), ∃ (n110 : Int), ∃ (p111 : Option Addr), ∃ (k112 : Nat), ∃ (k113 : Nat), e104 = Ending.returned (Value.agg #[Value.int IntKind.i64 n106, Value.int
  IntKind.i64 n107, Value.int IntKind.i64 n108, Value.int IntKind.i64 n109, Value.int IntKind.i64 n110, Value.slice p111 k112 k113]) ∧ ∃ (R114 : List Own), ∃ (Φ115 : PW), Stable Φ115 ∧ Ctx W
  w105 (R114 ++ R103) Φ115 ∧ ∀ (w116 : World) (R117 : List Own), Ctx W w116 (R114 ++ R117) Φ115 → Calls Try.prog F.checkpoint_Gate_Arrive #[Value.pointer p11, Value.int IntKind.i64 0,
  Value.agg #[Value.int IntKind.i64 n106, Value.int IntKind.i64 n107, Value.int IntKind.i64 n108, Value.int IntKind.i64 n109, Value.int IntKind.i64 n110, Value.slice p111 k112 k113],
  Value.int IntKind.i64 1] w116 fun (e118 : Ending) (w119 : World) => ∃ (n120 : Int), e118 = Ending.returned (Value.int IntKind.i64 n120) ∧ ∃ (R121 : List Own), ∃ (Φ122 : PW), Stable Φ122 ∧
  Ctx W w119 (R121 ++ R117) Φ122 ∧ Br (decide (n120 = 4)) (∀ (w123 : World) (R124 : List Own), Ctx W w123 (R121 ++ R124) Φ122 → Calls Try.prog F.erratalaw39_mark #[Value.int IntKind.i64 5]
  w123 fun (e125 : Ending) (w126 : World) => ∃ (n127 : Int), ∃ (n128 : Int), ∃ (n129 : Int), ∃ (n130 : Int), ∃ (n131 : Int), ∃ (p132 : Option Addr), ∃ (k133 : Nat), ∃ (k134 : Nat), e125 =
  Ending.returned (Value.agg #[Value.int IntKind.i64 n127, Value.int IntKind.i64 n128, Value.int IntKind.i64 n129, Value.int IntKind.i64 n130, Value.int IntKind.i64 n131, Value.slice p132
  k133 k134]) ∧ ∃ (R135 : List Own), ∃ (Φ136 : PW), Stable Φ136 ∧ Ctx W w126 (R135 ++ R124) Φ136 ∧ ∀ (w137 : World) (R138 : List Own), Ctx W w137 (R135 ++ R138) Φ136 → Calls Try.prog
  F.checkpoint_Gate_Arrive #[Value.pointer p11, Value.int IntKind.i64 0, Value.agg #[Value.int IntKind.i64 n127, Value.int IntKind.i64 n128, Value.int IntKind.i64 n129, Value.int IntKind.i64
  n130, Value.int IntKind.i64 n131, Value.slice p132 k133 k134], Value.int IntKind.i64 1] w137 fun (e139 : Ending) (w140 : World) => ∃ (n141 : Int), e139 = Ending.returned (Value.int
  IntKind.i64 n141) ∧ ∃ (R142 : List Own), ∃ (Φ143 : PW), Stable Φ143 ∧ Ctx W w140 (R142 ++ R138) Φ143 ∧ ∀ (w144 : World) (R145 : List Own), Ctx W w144 (R142 ++ R145) Φ143 → Calls Try.prog
  F.erratalaw39_mark #[Value.int IntKind.i64 5] w144 fun (e146 : Ending) (w147 : World) => ∃ (n148 : Int), ∃ (n149 : Int), ∃ (n150 : Int), ∃ (n151 : Int), ∃ (n152 : Int), ∃ (p153 : Option
  Addr), ∃ (k154 : Nat), ∃ (k155 : Nat), e146 = Ending.returned (Value.agg #[Value.int IntKind.i64 n148, Value.int IntKind.i64 n149, Value.int IntKind.i64 n150, Value.int IntKind.i64 n151,
  Value.int IntKind.i64 n152, Value.slice p153 k154 k155]) ∧ ∃ (R156 : List Own), ∃ (Φ157 : PW), Stable Φ157 ∧ Ctx W w147 (R156 ++ R145) Φ157 ∧ ∀ (w158 : World) (R159 : List Own), Ctx W w158
  (R156 ++ R159) Φ157 → Calls Try.prog F.checkpoint_Gate_Arrive #[Value.pointer p11, Value.int IntKind.i64 1, Value.agg #[Value.int IntKind.i64 n148, Value.int IntKind.i64 n149, Value.int
  IntKind.i64 n150, Value.int IntKind.i64 n151, Value.int IntKind.i64 n152, Value.slice p153 k154 k155], Value.int IntKind.i64 1] w158 fun (e160 : Ending) (w161 : World) => ∃ (n162 : Int),
  e160 = Ending.returned (Value.int IntKind.i64 n162) ∧ ∃ (R163 : List Own), ∃ (Φ164 : PW), Stable Φ164 ∧ Ctx W w161 (R163 ++ R159) Φ164 ∧ Br (decide (n162 = 2)) (∀ (w165 : World) (R166 :
  List Own), Ctx W w165 (R163 ++ R166) Φ164 → Calls Try.prog F.erratalaw39_barrier #[Value.int IntKind.i64 1] w165 fun (e167 : Ending) (w168 : World) => ∃ (n169 : Int), ∃ (n170 : Int), ∃
  (n171 : Int), ∃ (n172 : Int), ∃ (n173 : Int), ∃ (p174 : Option Addr), ∃ (k175 : Nat), ∃ (k176 : Nat), e167 = Ending.returned (Value.agg #[Value.int IntKind.i64 n169, Value.int IntKind.i64
  n170, Value.int IntKind.i64 n171, Value.int IntKind.i64 n172, Value.int IntKind.i64 n173, Value.slice p174 k175 k176]) ∧ ∃ (R177 : List Own), ∃ (Φ178 : PW), Stable Φ178 ∧ Ctx W w168 (R177
  ++ R166) Φ178 ∧ ∀ (w179 : World) (R180 : List Own), Ctx W w179 (R177 ++ R180) Φ178 → Calls Try.prog F.checkpoint_Gate_Arrive #[Value.pointer p11, Value.int IntKind.i64 1, Value.agg
  #[Value.int IntKind.i64 n169, Value.int IntKind.i64 n170, Value.int IntKind.i64 n171, Value.int IntKind.i64 n172, Value.int IntKind.i64 n173, Value.slice p174 k175 k176], Value.int
  IntKind.i64 1] w179 fun (e181 : Ending) (w182 : World) => ∃ (n183 : Int), e181 = Ending.returned (Value.int IntKind.i64 n183) ∧ ∃ (R184 : List Own), ∃ (Φ185 : PW), Stable Φ185 ∧ Ctx W w182
  (R184 ++ R180) Φ185 ∧ ∀ (w186 : World) (R187 : List Own), Ctx W w186 (R184 ++ R187) Φ185 → ∃ (c188 : Bool), ((decide (n57 = 0) && decide (n99 = 4) && decide (n141 = 1) && decide (n183 = 3))
  = true → ∀ (w189 : World), w189 = w186 → Calls Try.prog F.checkpoint_Gate_Busy #[Value.pointer p4] w189 fun (e190 : Ending) (w191 : World) => e190 = Ending.returned (Value.bool c188) ∧ w191
  = w186) ∧ ∃ (c192 : Bool), ((decide (n57 = 0) && decide (n99 = 4) && decide (n141 = 1) && decide (n183 = 3) && !c188) = true → ∀ (w193 : World), w193 = w186 → Calls Try.prog
  F.checkpoint_Gate_Busy #[Value.pointer p11] w193 fun (e194 : Ending) (w195 : World) => e194 = Ending.returned (Value.bool c192) ∧ w195 = w186) ∧ ∀ (w196 : World) (R197 : List Own), Ctx W
  w196 (R184 ++ R197) Φ185 → J (Value.bool (decide (n57 = 0) && decide (n99 = 4) && decide (n141 = 1) && decide (n183 = 3) && !c188 && !c192)) w196) (∀ (w198 : World) (R199 : List Own), Ctx W
  w198 (R163 ++ R199) Φ164 → ∃ (c200 : Bool), ((decide (n57 = 0) && decide (n99 = 4) && decide (n141 = 1) && false) = true → ∀ (w201 : World), w201 = w198 → Calls Try.prog
  F.checkpoint_Gate_Busy #[Value.pointer p4] w201 fun (e202 : Ending) (w203 : World) => e202 = Ending.returned (Value.bool c200) ∧ w203 = w198) ∧ ∃ (c204 : Bool), ((decide (n57 = 0) && decide
  (n99 = 4) && decide (n141 = 1) && false && !c200) = true → ∀ (w205 : World), w205 = w198 → Calls Try.prog F.checkpoint_Gate_Busy #[Value.pointer p11] w205 fun (e206 : Ending) (w207 : World)
  => e206 = Ending.returned (Value.bool c204) ∧ w207 = w198) ∧ ∀ (w208 : World) (R209 : List Own), Ctx W w208 (R163 ++ R209) Φ164 → J (Value.bool (decide (n57 = 0) && decide (n99 = 4) &&
  decide (n141 = 1) && false && !c200 && !c204)) w208)) (∀ (w210 : World) (R211 : List Own), Ctx W w210 (R121 ++ R211) Φ122 → Calls Try.prog F.erratalaw39_mark #[Value.int IntKind.i64 5] w210
  fun (e212 : Ending) (w213 : World) => ∃ (n214 : Int), ∃ (n215 : Int), ∃ (n216 : Int), ∃ (n217 : Int), ∃ (n218 : Int), ∃ (p219 : Option Addr), ∃ (k220 : Nat), ∃ (k221 : Nat), e212 =
  Ending.returned (Value.agg #[Value.int IntKind.i64 n214, Value.int IntKind.i64 n215, Value.int IntKind.i64 n216, Value.int IntKind.i64 n217, Value.int IntKind.i64 n218, Value.slice p219
  k220 k221]) ∧ ∃ (R222 : List Own), ∃ (Φ223 : PW), Stable Φ223 ∧ Ctx W w213 (R222 ++ R211) Φ223 ∧ ∀ (w224 : World) (R225 : List Own), Ctx W w224 (R222 ++ R225) Φ223 → Calls Try.prog
  F.checkpoint_Gate_Arrive #[Value.pointer p11, Value.int IntKind.i64 1, Value.agg #[Value.int IntKind.i64 n214, Value.int IntKind.i64 n215, Value.int IntKind.i64 n216, Value.int IntKind.i64
  n217, Value.int IntKind.i64 n218, Value.slice p219 k220 k221], Value.int IntKind.i64 1] w224 fun (e226 : Ending) (w227 : World) => ∃ (n228 : Int), e226 = Ending.returned (Value.int
  IntKind.i64 n228) ∧ ∃ (R229 : List Own), ∃ (Φ230 : PW), Stable Φ230 ∧ Ctx W w227 (R229 ++ R225) Φ230 ∧ Br (decide (n228 = 2)) (∀ (w231 : World) (R232 : List Own), Ctx W w231 (R229 ++ R232)
  Φ230 → Calls Try.prog F.erratalaw39_barrier #[Value.int IntKind.i64 1] w231 fun (e233 : Ending) (w234 : World) => ∃ (n235 : Int), ∃ (n236 : Int), ∃ (n237 : Int), ∃ (n238 : Int), ∃ (n239 :
  Int), ∃ (p240 : Option Addr), ∃ (k241 : Nat), ∃ (k242 : Nat), e233 = Ending.returned (Value.agg #[Value.int IntKind.i64 n235, Value.int IntKind.i64 n236, Value.int IntKind.i64 n237,
  Value.int IntKind.i64 n238, Value.int IntKind.i64 n239, Value.slice p240 k241 k242]) ∧ ∃ (R243 : List Own), ∃ (Φ244 : PW), Stable Φ244 ∧ Ctx W w234 (R243 ++ R232) Φ244 ∧ ∀ (w245 : World)
  (R246 : List Own), Ctx W w245 (R243 ++ R246) Φ244 → Calls Try.prog F.checkpoint_Gate_Arrive #[Value.pointer p11, Value.int IntKind.i64 1, Value.agg #[Value.int IntKind.i64 n235, Value.int
  IntKind.i64 n236, Value.int IntKind.i64 n237, Value.int IntKind.i64 n238, Value.int IntKind.i64 n239, Value.slice p240 k241 k242], Value.int IntKind.i64 1] w245 fun (e247 : Ending) (w248 :
  World) => ∃ (n249 : Int), e247 = Ending.returned (Value.int IntKind.i64 n249) ∧ ∃ (R250 : List Own), ∃ (Φ251 : PW), Stable Φ251 ∧ Ctx W w248 (R250 ++ R246) Φ251 ∧ ∀ (w252 : World) (R253 :
  List Own), Ctx W w252 (R250 ++ R253) Φ251 → ∃ (c254 : Bool), ((decide (n57 = 0) && decide (n99 = 4) && false && decide (n249 = 3)) = true → ∀ (w255 : World), w255 = w252 → Calls Try.prog
  F.checkpoint_Gate_Busy #[Value.pointer p4] w255 fun (e256 : Ending) (w257 : World) => e256 = Ending.returned (Value.bool c254) ∧ w257 = w252) ∧ ∃ (c258 : Bool), ((decide (n57 = 0) && decide
  (n99 = 4) && false && decide (n249 = 3) && !c254) = true → ∀ (w259 : World), w259 = w252 → Calls Try.prog F.checkpoint_Gate_Busy #[Value.pointer p11] w259 fun (e260 : Ending) (w261 : World)
  => e260 = Ending.returned (Value.bool c258) ∧ w261 = w252) ∧ ∀ (w262 : World) (R263 : List Own), Ctx W w262 (R250 ++ R263) Φ251 → J (Value.bool (decide (n57 = 0) && decide (n99 = 4) &&
  false && decide (n249 = 3) && !c254 && !c258)) w262) (∀ (w264 : World) (R265 : List Own), Ctx W w264 (R229 ++ R265) Φ230 → ∃ (c266 : Bool), ((decide (n57 = 0) && decide (n99 = 4) && false
  && false) = true → ∀ (w267 : World), w267 = w264 → Calls Try.prog F.checkpoint_Gate_Busy #[Value.pointer p4] w267 fun (e268 : Ending) (w269 : World) => e268 = Ending.returned (Value.bool
  c266) ∧ w269 = w264) ∧ ∃ (c270 : Bool), ((decide (n57 = 0) && decide (n99 = 4) && false && false && !c266) = true → ∀ (w271 : World), w271 = w264 → Calls Try.prog F.checkpoint_Gate_Busy
  #[Value.pointer p11] w271 fun (e272 : Ending) (w273 : World) => e272 = Ending.returned (Value.bool c270) ∧ w273 = w264) ∧ ∀ (w274 : World) (R275 : List Own), Ctx W w274 (R229 ++ R275) Φ230
  → J (Value.bool (decide (n57 = 0) && decide (n99 = 4) && false && false && !c266 && !c270)) w274))) (∀ (w276 : World) (R277 : List Own), Ctx W w276 (R79 ++ R277) Φ80 → Calls Try.prog
  F.erratalaw39_barrier #[Value.int IntKind.i64 1] w276 fun (e278 : Ending) (w279 : World) => ∃ (n280 : Int), ∃ (n281 : Int), ∃ (n282 : Int), ∃ (n283 : Int), ∃ (n284 : Int), ∃ (p285 : Option
  Addr), ∃ (k286 : Nat), ∃ (k287 : Nat), e278 = Ending.returned (Value.agg #[Value.int IntKind.i64 n280, Value.int IntKind.i64 n281, Value.int IntKind.i64 n282, Value.int IntKind.i64 n283,
  Value.int IntKind.i64 n284, Value.slice p285 k286 k287]) ∧ ∃ (R288 : List Own), ∃ (Φ289 : PW), Stable Φ289 ∧ Ctx W w279 (R288 ++ R277) Φ289 ∧ ∀ (w290 : World) (R291 : List Own), Ctx W w290
  (R288 ++ R291) Φ289 → Calls Try.prog F.checkpoint_Gate_Arrive #[Value.pointer p11, Value.int IntKind.i64 0, Value.agg #[Value.int IntKind.i64 n280, Value.int IntKind.i64 n281, Value.int
  IntKind.i64 n282, Value.int IntKind.i64 n283, Value.int IntKind.i64 n284, Value.slice p285 k286 k287], Value.int IntKind.i64 1] w290 fun (e292 : Ending) (w293 : World) => ∃ (n294 : Int),
  e292 = Ending.returned (Value.int IntKind.i64 n294) ∧ ∃ (R295 : List Own), ∃ (Φ296 : PW), Stable Φ296 ∧ Ctx W w293 (R295 ++ R291) Φ296 ∧ Br (decide (n294 = 4)) (∀ (w297 : World) (R298 :
  List Own), Ctx W w297 (R295 ++ R298) Φ296 → Calls Try.prog F.erratalaw39_mark #[Value.int IntKind.i64 5] w297 fun (e299 : Ending) (w300 : World) => ∃ (n301 : Int), ∃ (n302 : Int), ∃ (n303 :
  Int), ∃ (n304 : Int), ∃ (n305 : Int), ∃ (p306 : Option Addr), ∃ (k307 : Nat), ∃ (k308 : Nat), e299 = Ending.returned (Value.agg #[Value.int IntKind.i64 n301, Value.int IntKind.i64 n302,
  Value.int IntKind.i64 n303, Value.int IntKind.i64 n304, Value.int IntKind.i64 n305, Value.slice p306 k307 k308]) ∧ ∃ (R309 : List Own), ∃ (Φ310 : PW), Stable Φ310 ∧ Ctx W w300 (R309 ++
  R298) Φ310 ∧ ∀ (w311 : World) (R312 : List Own), Ctx W w311 (R309 ++ R312) Φ310 → Calls Try.prog F.checkpoint_Gate_Arrive #[Value.pointer p11, Value.int IntKind.i64 0, Value.agg #[Value.int
  IntKind.i64 n301, Value.int IntKind.i64 n302, Value.int IntKind.i64 n303, Value.int IntKind.i64 n304, Value.int IntKind.i64 n305, Value.slice p306 k307 k308], Value.int IntKind.i64 1] w311
  fun (e313 : Ending) (w314 : World) => ∃ (n315 : Int), e313 = Ending.returned (Value.int IntKind.i64 n315) ∧ ∃ (R316 : List Own), ∃ (Φ317 : PW), Stable Φ317 ∧ Ctx W w314 (R316 ++ R312) Φ317
  ∧ ∀ (w318 : World) (R319 : List Own), Ctx W w318 (R316 ++ R319) Φ317 → Calls Try.prog F.erratalaw39_mark #[Value.int IntKind.i64 5] w318 fun (e320 : Ending) (w321 : World) => ∃ (n322 :
  Int), ∃ (n323 : Int), ∃ (n324 : Int), ∃ (n325 : Int), ∃ (n326 : Int), ∃ (p327 : Option Addr), ∃ (k328 : Nat), ∃ (k329 : Nat), e320 = Ending.returned (Value.agg #[Value.int IntKind.i64 n322,
  Value.int IntKind.i64 n323, Value.int IntKind.i64 n324, Value.int IntKind.i64 n325, Value.int IntKind.i64 n326, Value.slice p327 k328 k329]) ∧ ∃ (R330 : List Own), ∃ (Φ331 : PW), Stable
  Φ331 ∧ Ctx W w321 (R330 ++ R319) Φ331 ∧ ∀ (w332 : World) (R333 : List Own), Ctx W w332 (R330 ++ R333) Φ331 → Calls Try.prog F.checkpoint_Gate_Arrive #[Value.pointer p11, Value.int
  IntKind.i64 1, Value.agg #[Value.int IntKind.i64 n322, Value.int IntKind.i64 n323, Value.int IntKind.i64 n324, Value.int IntKind.i64 n325, Value.int IntKind.i64 n326, Value.slice p327 k328
  k329], Value.int IntKind.i64 1] w332 fun (e334 : Ending) (w335 : World) => ∃ (n336 : Int), e334 = Ending.returned (Value.int IntKind.i64 n336) ∧ ∃ (R337 : List Own), ∃ (Φ338 : PW), Stable
  Φ338 ∧ Ctx W w335 (R337 ++ R333) Φ338 ∧ Br (decide (n336 = 2)) (∀ (w339 : World) (R340 : List Own), Ctx W w339 (R337 ++ R340) Φ338 → Calls Try.prog F.erratalaw39_barrier #[Value.int
  IntKind.i64 1] w339 fun (e341 : Ending) (w342 : World) => ∃ (n343 : Int), ∃ (n344 : Int), ∃ (n345 : Int), ∃ (n346 : Int), ∃ (n347 : Int), ∃ (p348 : Option Addr), ∃ (k349 : Nat), ∃ (k350 :
  Nat), e341 = Ending.returned (Value.agg #[Value.int IntKind.i64 n343, Value.int IntKind.i64 n344, Value.int IntKind.i64 n345, Value.int IntKind.i64 n346, Value.int IntKind.i64 n347,
  Value.slice p348 k349 k350]) ∧ ∃ (R351 : List Own), ∃ (Φ352 : PW), Stable Φ352 ∧ Ctx W w342 (R351 ++ R340) Φ352 ∧ ∀ (w353 : World) (R354 : List Own), Ctx W w353 (R351 ++ R354) Φ352 → Calls
  Try.prog F.checkpoint_Gate_Arrive #[Value.pointer p11, Value.int IntKind.i64 1, Value.agg #[Value.int IntKind.i64 n343, Value.int IntKind.i64 n344, Value.int IntKind.i64 n345, Value.int
  IntKind.i64 n346, Value.int IntKind.i64 n347, Value.slice p348 k349 k350], Value.int IntKind.i64 1] w353 fun (e355 : Ending) (w356 : World) => ∃ (n357 : Int), e355 = Ending.returned
  (Value.int IntKind.i64 n357) ∧ ∃ (R358 : List Own), ∃ (Φ359 : PW), Stable Φ359 ∧ Ctx W w356 (R358 ++ R354) Φ359 ∧ ∀ (w360 : World) (R361 : List Own), Ctx W w360 (R358 ++ R361) Φ359 → ∃
  (c362 : Bool), ((decide (n57 = 0) && false && decide (n315 = 1) && decide (n357 = 3)) = true → ∀ (w363 : World), w363 = w360 → Calls Try.prog F.checkpoint_Gate_Busy #[Value.pointer p4] w363
  fun (e364 : Ending) (w365 : World) => e364 = Ending.returned (Value.bool c362) ∧ w365 = w360) ∧ ∃ (c366 : Bool), ((decide (n57 = 0) && false && decide (n315 = 1) && decide (n357 = 3) &&
  !c362) = true → ∀ (w367 : World), w367 = w360 → Calls Try.prog F.checkpoint_Gate_Busy #[Value.pointer p11] w367 fun (e368 : Ending) (w369 : World) => e368 = Ending.returned (Value.bool
  c366) ∧ w369 = w360) ∧ ∀ (w370 : World) (R371 : List Own), Ctx W w370 (R358 ++ R371) Φ359 → J (Value.bool (decide (n57 = 0) && false && decide (n315 = 1) && decide (n357 = 3) && !c362 &&
  !c366)) w370) (∀ (w372 : World) (R373 : List Own), Ctx W w372 (R337 ++ R373) Φ338 → ∃ (c374 : Bool), ((decide (n57 = 0) && false && decide (n315 = 1) && false) = true → ∀ (w375 : World),
  w375 = w372 → Calls Try.prog F.checkpoint_Gate_Busy #[Value.pointer p4] w375 fun (e376 : Ending) (w377 : World) => e376 = Ending.returned (Value.bool c374) ∧ w377 = w372) ∧ ∃ (c378 : Bool),
  ((decide (n57 = 0) && false && decide (n315 = 1) && false && !c374) = true → ∀ (w379 : World), w379 = w372 → Calls Try.prog F.checkpoint_Gate_Busy #[Value.pointer p11] w379 fun (e380 :
  Ending) (w381 : World) => e380 = Ending.returned (Value.bool c378) ∧ w381 = w372) ∧ ∀ (w382 : World) (R383 : List Own), Ctx W w382 (R337 ++ R383) Φ338 → J (Value.bool (decide (n57 = 0) &&
  false && decide (n315 = 1) && false && !c374 && !c378)) w382)) (∀ (w384 : World) (R385 : List Own), Ctx W w384 (R295 ++ R385) Φ296 → Calls Try.prog F.erratalaw39_mark #[Value.int
  IntKind.i64 5] w384 fun (e386 : Ending) (w387 : World) => ∃ (n388 : Int), ∃ (n389 : Int), ∃ (n390 : Int), ∃ (n391 : Int), ∃ (n392 : Int), ∃ (p393 : Option Addr), ∃ (k394 : Nat), ∃ (k395 :
  Nat), e386 = Ending.returned (Value.agg #[Value.int IntKind.i64 n388, Value.int IntKind.i64 n389, Value.int IntKind.i64 n390, Value.int IntKind.i64 n391, Value.int IntKind.i64 n392,
  Value.slice p393 k394 k395]) ∧ ∃ (R396 : List Own), ∃ (Φ397 : PW), Stable Φ397 ∧ Ctx W w387 (R396 ++ R385) Φ397 ∧ ∀ (w398 : World) (R399 : List Own), Ctx W w398 (R396 ++ R399) Φ397 → Calls
  Try.prog F.checkpoint_Gate_Arrive #[Value.pointer p11, Value.int IntKind.i64 1, Value.agg #[Value.int IntKind.i64 n388, Value.int IntKind.i64 n389, Value.int IntKind.i64 n390, Value.int
  IntKind.i64 n391, Value.int IntKind.i64 n392, Value.slice p393 k394 k395], Value.int IntKind.i64 1] w398 fun (e400 : Ending) (w401 : World) => ∃ (n402 : Int), e400 = Ending.returned
  (Value.int IntKind.i64 n402) ∧ ∃ (R403 : List Own), ∃ (Φ404 : PW), Stable Φ404 ∧ Ctx W w401 (R403 ++ R399) Φ404 ∧ Br (decide (n402 = 2)) (∀ (w405 : World) (R406 : List Own), Ctx W w405
  (R403 ++ R406) Φ404 → Calls Try.prog F.erratalaw39_barrier #[Value.int IntKind.i64 1] w405 fun (e407 : Ending) (w408 : World) => ∃ (n409 : Int), ∃ (n410 : Int), ∃ (n411 : Int), ∃ (n412 :
  Int), ∃ (n413 : Int), ∃ (p414 : Option Addr), ∃ (k415 : Nat), ∃ (k416 : Nat), e407 = Ending.returned (Value.agg #[Value.int IntKind.i64 n409, Value.int IntKind.i64 n410, Value.int
  IntKind.i64 n411, Value.int IntKind.i64 n412, Value.int IntKind.i64 n413, Value.slice p414 k415 k416]) ∧ ∃ (R417 : List Own), ∃ (Φ418 : PW), Stable Φ418 ∧ Ctx W w408 (R417 ++ R406) Φ418 ∧ ∀
  (w419 : World) (R420 : List Own), Ctx W w419 (R417 ++ R420) Φ418 → Calls Try.prog F.checkpoint_Gate_Arrive #[Value.pointer p11, Value.int IntKind.i64 1, Value.agg #[Value.int IntKind.i64
  n409, Value.int IntKind.i64 n410, Value.int IntKind.i64 n411, Value.int IntKind.i64 n412, Value.int IntKind.i64 n413, Value.slice p414 k415 k416], Value.int IntKind.i64 1] w419 fun (e421 :
  Ending) (w422 : World) => ∃ (n423 : Int), e421 = Ending.returned (Value.int IntKind.i64 n423) ∧ ∃ (R424 : List Own), ∃ (Φ425 : PW), Stable Φ425 ∧ Ctx W w422 (R424 ++ R420) Φ425 ∧ ∀ (w426 :
  World) (R427 : List Own), Ctx W w426 (R424 ++ R427) Φ425 → ∃ (c428 : Bool), ((decide (n57 = 0) && false && false && decide (n423 = 3)) = true → ∀ (w429 : World), w429 = w426 → Calls
  Try.prog F.checkpoint_Gate_Busy #[Value.pointer p4] w429 fun (e430 : Ending) (w431 : World) => e430 = Ending.returned (Value.bool c428) ∧ w431 = w426) ∧ ∃ (c432 : Bool), ((decide (n57 = 0)
  && false && false && decide (n423 = 3) && !c428) = true → ∀ (w433 : World), w433 = w426 → Calls Try.prog F.checkpoint_Gate_Busy #[Value.pointer p11] w433 fun (e434 : Ending) (w435 : World)
  => e434 = Ending.returned (Value.bool c432) ∧ w435 = w426) ∧ ∀ (w436 : World) (R437 : List Own), Ctx W w436 (R424 ++ R437) Φ425 → J (Value.bool (decide (n57 = 0) && false && false && decide
  (n423 = 3) && !c428 && !c432)) w436) (∀ (w438 : World) (R439 : List Own), Ctx W w438 (R403 ++ R439) Φ404 → ∃ (c440 : Bool), ((decide (n57 = 0) && false && false && false) = true → ∀ (w441 :
  World), w441 = w438 → Calls Try.prog F.checkpoint_Gate_Busy #[Value.pointer p4] w441 fun (e442 : Ending) (w443 : World) => e442 = Ending.returned (Value.bool c440) ∧ w443 = w438) ∧ ∃ (c444
  : Bool), ((decide (n57 = 0) && false && false && false && !c440) = true → ∀ (w445 : World), w445 = w438 → Calls Try.prog F.checkpoint_Gate_Busy #[Value.pointer p11] w445 fun (e446 : Ending)
  (w447 : World) => e446 = Ending.returned (Value.bool c444) ∧ w447 = w438) ∧ ∀ (w448 : World) (R449 : List Own), Ctx W w448 (R403 ++ R449) Φ404 → J (Value.bool (decide (n57 = 0) && false &&
  false && false && !c440 && !c444)) w448)))) (∀ (w450 : World) (R451 : List Own), Ctx W w450 (R37 ++ R451) Φ38 → Calls Try.prog F.erratalaw39_mark #[Value.int IntKind.i64 5] w450 fun (e452 :
  Ending) (w453 : World) => ∃ (n454 : Int), ∃ (n455 : Int), ∃ (n456 : Int), ∃ (n457 : Int), ∃ (n458 : Int), ∃ (p459 : Option Addr), ∃ (k460 : Nat), ∃ (k461 : Nat), e452 = Ending.returned
  (Value.agg #[Value.int IntKind.i64 n454, Value.int IntKind.i64 n455, Value.int IntKind.i64 n456, Value.int IntKind.i64 n457, Value.int IntKind.i64 n458, Value.slice p459 k460 k461]) ∧ ∃
  (R462 : List Own), ∃ (Φ463 : PW), Stable Φ463 ∧ Ctx W w453 (R462 ++ R451) Φ463 ∧ ∀ (w464 : World) (R465 : List Own), Ctx W w464 (R462 ++ R465) Φ463 → Calls Try.prog F.checkpoint_Gate_Arrive
  #[Value.pointer p4, Value.int IntKind.i64 1, Value.agg #[Value.int IntKind.i64 n454, Value.int IntKind.i64 n455, Value.int IntKind.i64 n456, Value.int IntKind.i64 n457, Value.int
  IntKind.i64 n458, Value.slice p459 k460 k461], Value.int IntKind.i64 0] w464 fun (e466 : Ending) (w467 : World) => ∃ (n468 : Int), e466 = Ending.returned (Value.int IntKind.i64 n468) ∧ ∃
  (R469 : List Own), ∃ (Φ470 : PW), Stable Φ470 ∧ Ctx W w467 (R469 ++ R465) Φ470 ∧ Br (decide (n468 = 1)) (∀ (w471 : World) (R472 : List Own), Ctx W w471 (R469 ++ R472) Φ470 → Calls Try.prog
  F.erratalaw39_barrier #[Value.int IntKind.i64 1] w471 fun (e473 : Ending) (w474 : World) => ∃ (n475 : Int), ∃ (n476 : Int), ∃ (n477 : Int), ∃ (n478 : Int), ∃ (n479 : Int), ∃ (p480 : Option
  Addr), ∃ (k481 : Nat), ∃ (k482 : Nat), e473 = Ending.returned (Value.agg #[Value.int IntKind.i64 n475, Value.int IntKind.i64 n476, Value.int IntKind.i64 n477, Value.int IntKind.i64 n478,
  Value.int IntKind.i64 n479, Value.slice p480 k481 k482]) ∧ ∃ (R483 : List Own), ∃ (Φ484 : PW), Stable Φ484 ∧ Ctx W w474 (R483 ++ R472) Φ484 ∧ ∀ (w485 : World) (R486 : List Own), Ctx W w485
  (R483 ++ R486) Φ484 → Calls Try.prog F.checkpoint_Gate_Arrive #[Value.pointer p4, Value.int IntKind.i64 1, Value.agg #[Value.int IntKind.i64 n475, Value.int IntKind.i64 n476, Value.int
  IntKind.i64 n477, Value.int IntKind.i64 n478, Value.int IntKind.i64 n479, Value.slice p480 k481 k482], Value.int IntKind.i64 0] w485 fun (e487 : Ending) (w488 : World) => ∃ (n489 : Int),
  e487 = Ending.returned (Value.int IntKind.i64 n489) ∧ ∃ (R490 : List Own), ∃ (Φ491 : PW), Stable Φ491 ∧ Ctx W w488 (R490 ++ R486) Φ491 ∧ ∀ (w492 : World) (R493 : List Own), Ctx W w492 (R490
  ++ R493) Φ491 → Calls Try.prog F.erratalaw39_barrier #[Value.int IntKind.i64 1] w492 fun (e494 : Ending) (w495 : World) => ∃ (n496 : Int), ∃ (n497 : Int), ∃ (n498 : Int), ∃ (n499 : Int), ∃
  (n500 : Int), ∃ (p501 : Option Addr), ∃ (k502 : Nat), ∃ (k503 : Nat), e494 = Ending.returned (Value.agg #[Value.int IntKind.i64 n496, Value.int IntKind.i64 n497, Value.int IntKind.i64 n498,
  Value.int IntKind.i64 n499, Value.int IntKind.i64 n500, Value.slice p501 k502 k503]) ∧ ∃ (R504 : List Own), ∃ (Φ505 : PW), Stable Φ505 ∧ Ctx W w495 (R504 ++ R493) Φ505 ∧ ∀ (w506 : World)
  (R507 : List Own), Ctx W w506 (R504 ++ R507) Φ505 → Calls Try.prog F.checkpoint_Gate_Arrive #[Value.pointer p11, Value.int IntKind.i64 0, Value.agg #[Value.int IntKind.i64 n496, Value.int
  IntKind.i64 n497, Value.int IntKind.i64 n498, Value.int IntKind.i64 n499, Value.int IntKind.i64 n500, Value.slice p501 k502 k503], Value.int IntKind.i64 1] w506 fun (e508 : Ending) (w509 :
  World) => ∃ (n510 : Int), e508 = Ending.returned (Value.int IntKind.i64 n510) ∧ ∃ (R511 : List Own), ∃ (Φ512 : PW), Stable Φ512 ∧ Ctx W w509 (R511 ++ R507) Φ512 ∧ Br (decide (n510 = 4)) (∀
  (w513 : World) (R514 : List Own), Ctx W w513 (R511 ++ R514) Φ512 → Calls Try.prog F.erratalaw39_mark #[Value.int IntKind.i64 5] w513 fun (e515 : Ending) (w516 : World) => ∃ (n517 : Int), ∃
  (n518 : Int), ∃ (n519 : Int), ∃ (n520 : Int), ∃ (n521 : Int), ∃ (p522 : Option Addr), ∃ (k523 : Nat), ∃ (k524 : Nat), e515 = Ending.returned (Value.agg #[Value.int IntKind.i64 n517,
  Value.int IntKind.i64 n518, Value.int IntKind.i64 n519, Value.int IntKind.i64 n520, Value.int IntKind.i64 n521, Value.slice p522 k523 k524]) ∧ ∃ (R525 : List Own), ∃ (Φ526 : PW), Stable
  Φ526 ∧ Ctx W w516 (R525 ++ R514) Φ526 ∧ ∀ (w527 : World) (R528 : List Own), Ctx W w527 (R525 ++ R528) Φ526 → Calls Try.prog F.checkpoint_Gate_Arrive #[Value.pointer p11, Value.int
  IntKind.i64 0, Value.agg #[Value.int IntKind.i64 n517, Value.int IntKind.i64 n518, Value.int IntKind.i64 n519, Value.int IntKind.i64 n520, Value.int IntKind.i64 n521, Value.slice p522 k523
  k524], Value.int IntKind.i64 1] w527 fun (e529 : Ending) (w530 : World) => ∃ (n531 : Int), e529 = Ending.returned (Value.int IntKind.i64 n531) ∧ ∃ (R532 : List Own), ∃ (Φ533 : PW), Stable
  Φ533 ∧ Ctx W w530 (R532 ++ R528) Φ533 ∧ ∀ (w534 : World) (R535 : List Own), Ctx W w534 (R532 ++ R535) Φ533 → Calls Try.prog F.erratalaw39_mark #[Value.int IntKind.i64 5] w534 fun (e536 :
  Ending) (w537 : World) => ∃ (n538 : Int), ∃ (n539 : Int), ∃ (n540 : Int), ∃ (n541 : Int), ∃ (n542 : Int), ∃ (p543 : Option Addr), ∃ (k544 : Nat), ∃ (k545 : Nat), e536 = Ending.returned
  (Value.agg #[Value.int IntKind.i64 n538, Value.int IntKind.i64 n539, Value.int IntKind.i64 n540, Value.int IntKind.i64 n541, Value.int IntKind.i64 n542, Value.slice p543 k544 k545]) ∧ ∃
  (R546 : List Own), ∃ (Φ547 : PW), Stable Φ547 ∧ Ctx W w537 (R546 ++ R535) Φ547 ∧ ∀ (w548 : World) (R549 : List Own), Ctx W w548 (R546 ++ R549) Φ547 → Calls Try.prog F.checkpoint_Gate_Arrive
  #[Value.pointer p11, Value.int IntKind.i64 1, Value.agg #[Value.int IntKind.i64 n538, Value.int IntKind.i64 n539, Value.int IntKind.i64 n540, Value.int IntKind.i64 n541, Value.int
  IntKind.i64 n542, Value.slice p543 k544 k545], Value.int IntKind.i64 1] w548 fun (e550 : Ending) (w551 : World) => ∃ (n552 : Int), e550 = Ending.returned (Value.int IntKind.i64 n552) ∧ ∃
  (R553 : List Own), ∃ (Φ554 : PW), Stable Φ554 ∧ Ctx W w551 (R553 ++ R549) Φ554 ∧ Br (decide (n552 = 2)) (∀ (w555 : World) (R556 : List Own), Ctx W w555 (R553 ++ R556) Φ554 → Calls Try.prog
  F.erratalaw39_barrier #[Value.int IntKind.i64 1] w555 fun (e557 : Ending) (w558 : World) => ∃ (n559 : Int), ∃ (n560 : Int), ∃ (n561 : Int), ∃ (n562 : Int), ∃ (n563 : Int), ∃ (p564 : Option
  Addr), ∃ (k565 : Nat), ∃ (k566 : Nat), e557 = Ending.returned (Value.agg #[Value.int IntKind.i64 n559, Value.int IntKind.i64 n560, Value.int IntKind.i64 n561, Value.int IntKind.i64 n562,
  Value.int IntKind.i64 n563, Value.slice p564 k565 k566]) ∧ ∃ (R567 : List Own), ∃ (Φ568 : PW), Stable Φ568 ∧ Ctx W w558 (R567 ++ R556) Φ568 ∧ ∀ (w569 : World) (R570 : List Own), Ctx W w569
  (R567 ++ R570) Φ568 → Calls Try.prog F.checkpoint_Gate_Arrive #[Value.pointer p11, Value.int IntKind.i64 1, Value.agg #[Value.int IntKind.i64 n559, Value.int IntKind.i64 n560, Value.int
  IntKind.i64 n561, Value.int IntKind.i64 n562, Value.int IntKind.i64 n563, Value.slice p564 k565 k566], Value.int IntKind.i64 1] w569 fun (e571 : Ending) (w572 : World) => ∃ (n573 : Int),
  e571 = Ending.returned (Value.int IntKind.i64 n573) ∧ ∃ (R574 : List Own), ∃ (Φ575 : PW), Stable Φ575 ∧ Ctx W w572 (R574 ++ R570) Φ575 ∧ ∀ (w576 : World) (R577 : List Own), Ctx W w576 (R574
  ++ R577) Φ575 → ∃ (c578 : Bool), (false = true → ∀ (w579 : World), w579 = w576 → Calls Try.prog F.checkpoint_Gate_Busy #[Value.pointer p4] w579 fun (e580 : Ending) (w581 : World) => e580 =
  Ending.returned (Value.bool c578) ∧ w581 = w576) ∧ ∃ (c582 : Bool), (false = true → ∀ (w583 : World), w583 = w576 → Calls Try.prog F.checkpoint_Gate_Busy #[Value.pointer p11] w583 fun (e584
  : Ending) (w585 : World) => e584 = Ending.returned (Value.bool c582) ∧ w585 = w576) ∧ ∀ (w586 : World) (R587 : List Own), Ctx W w586 (R574 ++ R587) Φ575 → J (Value.bool false) w586) (∀
  (w588 : World) (R589 : List Own), Ctx W w588 (R553 ++ R589) Φ554 → ∃ (c590 : Bool), (false = true → ∀ (w591 : World), w591 = w588 → Calls Try.prog F.checkpoint_Gate_Busy #[Value.pointer p4]
  w591 fun (e592 : Ending) (w593 : World) => e592 = Ending.returned (Value.bool c590) ∧ w593 = w588) ∧ ∃ (c594 : Bool), (false = true → ∀ (w595 : World), w595 = w588 → Calls Try.prog
  F.checkpoint_Gate_Busy #[Value.pointer p11] w595 fun (e596 : Ending) (w597 : World) => e596 = Ending.returned (Value.bool c594) ∧ w597 = w588) ∧ ∀ (w598 : World) (R599 : List Own), Ctx W
  w598 (R553 ++ R599) Φ554 → J (Value.bool false) w598)) (∀ (w600 : World) (R601 : List Own), Ctx W w600 (R511 ++ R601) Φ512 → Calls Try.prog F.erratalaw39_mark #[Value.int IntKind.i64 5]
  w600 fun (e602 : Ending) (w603 : World) => ∃ (n604 : Int), ∃ (n605 : Int), ∃ (n606 : Int), ∃ (n607 : Int), ∃ (n608 : Int), ∃ (p609 : Option Addr), ∃ (k610 : Nat), ∃ (k611 : Nat), e602 =
  Ending.returned (Value.agg #[Value.int IntKind.i64 n604, Value.int IntKind.i64 n605, Value.int IntKind.i64 n606, Value.int IntKind.i64 n607, Value.int IntKind.i64 n608, Value.slice p609
  k610 k611]) ∧ ∃ (R612 : List Own), ∃ (Φ613 : PW), Stable Φ613 ∧ Ctx W w603 (R612 ++ R601) Φ613 ∧ ∀ (w614 : World) (R615 : List Own), Ctx W w614 (R612 ++ R615) Φ613 → Calls Try.prog
  F.checkpoint_Gate_Arrive #[Value.pointer p11, Value.int IntKind.i64 1, Value.agg #[Value.int IntKind.i64 n604, Value.int IntKind.i64 n605, Value.int IntKind.i64 n606, Value.int IntKind.i64
  n607, Value.int IntKind.i64 n608, Value.slice p609 k610 k611], Value.int IntKind.i64 1] w614 fun (e616 : Ending) (w617 : World) => ∃ (n618 : Int), e616 = Ending.returned (Value.int
  IntKind.i64 n618) ∧ ∃ (R619 : List Own), ∃ (Φ620 : PW), Stable Φ620 ∧ Ctx W w617 (R619 ++ R615) Φ620 ∧ Br (decide (n618 = 2)) (∀ (w621 : World) (R622 : List Own), Ctx W w621 (R619 ++ R622)
  Φ620 → Calls Try.prog F.erratalaw39_barrier #[Value.int IntKind.i64 1] w621 fun (e623 : Ending) (w624 : World) => ∃ (n625 : Int), ∃ (n626 : Int), ∃ (n627 : Int), ∃ (n628 : Int), ∃ (n629 :
  Int), ∃ (p630 : Option Addr), ∃ (k631 : Nat), ∃ (k632 : Nat), e623 = Ending.returned (Value.agg #[Value.int IntKind.i64 n625, Value.int IntKind.i64 n626, Value.int IntKind.i64 n627,
  Value.int IntKind.i64 n628, Value.int IntKind.i64 n629, Value.slice p630 k631 k632]) ∧ ∃ (R633 : List Own), ∃ (Φ634 : PW), Stable Φ634 ∧ Ctx W w624 (R633 ++ R622) Φ634 ∧ ∀ (w635 : World)
  (R636 : List Own), Ctx W w635 (R633 ++ R636) Φ634 → Calls Try.prog F.checkpoint_Gate_Arrive #[Value.pointer p11, Value.int IntKind.i64 1, Value.agg #[Value.int IntKind.i64 n625, Value.int
  IntKind.i64 n626, Value.int IntKind.i64 n627, Value.int IntKind.i64 n628, Value.int IntKind.i64 n629, Value.slice p630 k631 k632], Value.int IntKind.i64 1] w635 fun (e637 : Ending) (w638 :
  World) => ∃ (n639 : Int), e637 = Ending.returned (Value.int IntKind.i64 n639) ∧ ∃ (R640 : List Own), ∃ (Φ641 : PW), Stable Φ641 ∧ Ctx W w638 (R640 ++ R636) Φ641 ∧ ∀ (w642 : World) (R643 :
  List Own), Ctx W w642 (R640 ++ R643) Φ641 → ∃ (c644 : Bool), (false = true → ∀ (w645 : World), w645 = w642 → Calls Try.prog F.checkpoint_Gate_Busy #[Value.pointer p4] w645 fun (e646 :
  Ending) (w647 : World) => e646 = Ending.returned (Value.bool c644) ∧ w647 = w642) ∧ ∃ (c648 : Bool), (false = true → ∀ (w649 : World), w649 = w642 → Calls Try.prog F.checkpoint_Gate_Busy
  #[Value.pointer p11] w649 fun (e650 : Ending) (w651 : World) => e650 = Ending.returned (Value.bool c648) ∧ w651 = w642) ∧ ∀ (w652 : World) (R653 : List Own), Ctx W w652 (R640 ++ R653) Φ641
  → J (Value.bool false) w652) (∀ (w654 : World) (R655 : List Own), Ctx W w654 (R619 ++ R655) Φ620 → ∃ (c656 : Bool), (false = true → ∀ (w657 : World), w657 = w654 → Calls Try.prog
  F.checkpoint_Gate_Busy #[Value.pointer p4] w657 fun (e658 : Ending) (w659 : World) => e658 = Ending.returned (Value.bool c656) ∧ w659 = w654) ∧ ∃ (c660 : Bool), (false = true → ∀ (w661 :
  World), w661 = w654 → Calls Try.prog F.checkpoint_Gate_Busy #[Value.pointer p11] w661 fun (e662 : Ending) (w663 : World) => e662 = Ending.returned (Value.bool c660) ∧ w663 = w654) ∧ ∀ (w664
  : World) (R665 : List Own), Ctx W w664 (R619 ++ R665) Φ620 → J (Value.bool false) w664))) (∀ (w666 : World) (R667 : List Own), Ctx W w666 (R469 ++ R667) Φ470 → Calls Try.prog
  F.erratalaw39_barrier #[Value.int IntKind.i64 1] w666 fun (e668 : Ending) (w669 : World) => ∃ (n670 : Int), ∃ (n671 : Int), ∃ (n672 : Int), ∃ (n673 : Int), ∃ (n674 : Int), ∃ (p675 : Option
  Addr), ∃ (k676 : Nat), ∃ (k677 : Nat), e668 = Ending.returned (Value.agg #[Value.int IntKind.i64 n670, Value.int IntKind.i64 n671, Value.int IntKind.i64 n672, Value.int IntKind.i64 n673,
  Value.int IntKind.i64 n674, Value.slice p675 k676 k677]) ∧ ∃ (R678 : List Own), ∃ (Φ679 : PW), Stable Φ679 ∧ Ctx W w669 (R678 ++ R667) Φ679 ∧ ∀ (w680 : World) (R681 : List Own), Ctx W w680
  (R678 ++ R681) Φ679 → Calls Try.prog F.checkpoint_Gate_Arrive #[Value.pointer p11, Value.int IntKind.i64 0, Value.agg #[Value.int IntKind.i64 n670, Value.int IntKind.i64 n671, Value.int
  IntKind.i64 n672, Value.int IntKind.i64 n673, Value.int IntKind.i64 n674, Value.slice p675 k676 k677], Value.int IntKind.i64 1] w680 fun (e682 : Ending) (w683 : World) => ∃ (n684 : Int),
  e682 = Ending.returned (Value.int IntKind.i64 n684) ∧ ∃ (R685 : List Own), ∃ (Φ686 : PW), Stable Φ686 ∧ Ctx W w683 (R685 ++ R681) Φ686 ∧ Br (decide (n684 = 4)) (∀ (w687 : World) (R688 :
  List Own), Ctx W w687 (R685 ++ R688) Φ686 → Calls Try.prog F.erratalaw39_mark #[Value.int IntKind.i64 5] w687 fun (e689 : Ending) (w690 : World) => ∃ (n691 : Int), ∃ (n692 : Int), ∃ (n693 :
  Int), ∃ (n694 : Int), ∃ (n695 : Int), ∃ (p696 : Option Addr), ∃ (k697 : Nat), ∃ (k698 : Nat), e689 = Ending.returned (Value.agg #[Value.int IntKind.i64 n691, Value.int IntKind.i64 n692,
  Value.int IntKind.i64 n693, Value.int IntKind.i64 n694, Value.int IntKind.i64 n695, Value.slice p696 k697 k698]) ∧ ∃ (R699 : List Own), ∃ (Φ700 : PW), Stable Φ700 ∧ Ctx W w690 (R699 ++
  R688) Φ700 ∧ ∀ (w701 : World) (R702 : List Own), Ctx W w701 (R699 ++ R702) Φ700 → Calls Try.prog F.checkpoint_Gate_Arrive #[Value.pointer p11, Value.int IntKind.i64 0, Value.agg #[Value.int
  IntKind.i64 n691, Value.int IntKind.i64 n692, Value.int IntKind.i64 n693, Value.int IntKind.i64 n694, Value.int IntKind.i64 n695, Value.slice p696 k697 k698], Value.int IntKind.i64 1] w701
  fun (e703 : Ending) (w704 : World) => ∃ (n705 : Int), e703 = Ending.returned (Value.int IntKind.i64 n705) ∧ ∃ (R706 : List Own), ∃ (Φ707 : PW), Stable Φ707 ∧ Ctx W w704 (R706 ++ R702) Φ707
  ∧ ∀ (w708 : World) (R709 : List Own), Ctx W w708 (R706 ++ R709) Φ707 → Calls Try.prog F.erratalaw39_mark #[Value.int IntKind.i64 5] w708 fun (e710 : Ending) (w711 : World) => ∃ (n712 :
  Int), ∃ (n713 : Int), ∃ (n714 : Int), ∃ (n715 : Int), ∃ (n716 : Int), ∃ (p717 : Option Addr), ∃ (k718 : Nat), ∃ (k719 : Nat), e710 = Ending.returned (Value.agg #[Value.int IntKind.i64 n712,
  Value.int IntKind.i64 n713, Value.int IntKind.i64 n714, Value.int IntKind.i64 n715, Value.int IntKind.i64 n716, Value.slice p717 k718 k719]) ∧ ∃ (R720 : List Own), ∃ (Φ721 : PW), Stable
  Φ721 ∧ Ctx W w711 (R720 ++ R709) Φ721 ∧ ∀ (w722 : World) (R723 : List Own), Ctx W w722 (R720 ++ R723) Φ721 → Calls Try.prog F.checkpoint_Gate_Arrive #[Value.pointer p11, Value.int
  IntKind.i64 1, Value.agg #[Value.int IntKind.i64 n712, Value.int IntKind.i64 n713, Value.int IntKind.i64 n714, Value.int IntKind.i64 n715, Value.int IntKind.i64 n716, Value.slice p717 k718
  k719], Value.int IntKind.i64 1] w722 fun (e724 : Ending) (w725 : World) => ∃ (n726 : Int), e724 = Ending.returned (Value.int IntKind.i64 n726) ∧ ∃ (R727 : List Own), ∃ (Φ728 : PW), Stable
  Φ728 ∧ Ctx W w725 (R727 ++ R723) Φ728 ∧ Br (decide (n726 = 2)) (∀ (w729 : World) (R730 : List Own), Ctx W w729 (R727 ++ R730) Φ728 → Calls Try.prog F.erratalaw39_barrier #[Value.int
  IntKind.i64 1] w729 fun (e731 : Ending) (w732 : World) => ∃ (n733 : Int), ∃ (n734 : Int), ∃ (n735 : Int), ∃ (n736 : Int), ∃ (n737 : Int), ∃ (p738 : Option Addr), ∃ (k739 : Nat), ∃ (k740 :
  Nat), e731 = Ending.returned (Value.agg #[Value.int IntKind.i64 n733, Value.int IntKind.i64 n734, Value.int IntKind.i64 n735, Value.int IntKind.i64 n736, Value.int IntKind.i64 n737,
  Value.slice p738 k739 k740]) ∧ ∃ (R741 : List Own), ∃ (Φ742 : PW), Stable Φ742 ∧ Ctx W w732 (R741 ++ R730) Φ742 ∧ ∀ (w743 : World) (R744 : List Own), Ctx W w743 (R741 ++ R744) Φ742 → Calls
  Try.prog F.checkpoint_Gate_Arrive #[Value.pointer p11, Value.int IntKind.i64 1, Value.agg #[Value.int IntKind.i64 n733, Value.int IntKind.i64 n734, Value.int IntKind.i64 n735, Value.int
  IntKind.i64 n736, Value.int IntKind.i64 n737, Value.slice p738 k739 k740], Value.int IntKind.i64 1] w743 fun (e745 : Ending) (w746 : World) => ∃ (n747 : Int), e745 = Ending.returned
  (Value.int IntKind.i64 n747) ∧ ∃ (R748 : List Own), ∃ (Φ749 : PW), Stable Φ749 ∧ Ctx W w746 (R748 ++ R744) Φ749 ∧ ∀ (w750 : World) (R751 : List Own), Ctx W w750 (R748 ++ R751) Φ749 → ∃
  (c752 : Bool), (false = true → ∀ (w753 : World), w753 = w750 → Calls Try.prog F.checkpoint_Gate_Busy #[Value.pointer p4] w753 fun (e754 : Ending) (w755 : World) => e754 = Ending.returned
  (Value.bool c752) ∧ w755 = w750) ∧ ∃ (c756 : Bool), (false = true → ∀ (w757 : World), w757 = w750 → Calls Try.prog F.checkpoint_Gate_Busy #[Value.pointer p11] w757 fun (e758 : Ending) (w759
  : World) => e758 = Ending.returned (Value.bool c756) ∧ w759 = w750) ∧ ∀ (w760 : World) (R761 : List Own), Ctx W w760 (R748 ++ R761) Φ749 → J (Value.bool false) w760) (∀ (w762 : World) (R763
  : List Own), Ctx W w762 (R727 ++ R763) Φ728 → ∃ (c764 : Bool), (false = true → ∀ (w765 : World), w765 = w762 → Calls Try.prog F.checkpoint_Gate_Busy #[Value.pointer p4] w765 fun (e766 :
  Ending) (w767 : World) => e766 = Ending.returned (Value.bool c764) ∧ w767 = w762) ∧ ∃ (c768 : Bool), (false = true → ∀ (w769 : World), w769 = w762 → Calls Try.prog F.checkpoint_Gate_Busy
  #[Value.pointer p11] w769 fun (e770 : Ending) (w771 : World) => e770 = Ending.returned (Value.bool c768) ∧ w771 = w762) ∧ ∀ (w772 : World) (R773 : List Own), Ctx W w772 (R727 ++ R773) Φ728
  → J (Value.bool false) w772)) (∀ (w774 : World) (R775 : List Own), Ctx W w774 (R685 ++ R775) Φ686 → Calls Try.prog F.erratalaw39_mark #[Value.int IntKind.i64 5] w774 fun (e776 : Ending)
  (w777 : World) => ∃ (n778 : Int), ∃ (n779 : Int), ∃ (n780 : Int), ∃ (n781 : Int), ∃ (n782 : Int), ∃ (p783 : Option Addr), ∃ (k784 : Nat), ∃ (k785 : Nat), e776 = Ending.returned (Value.agg
  #[Value.int IntKind.i64 n778, Value.int IntKind.i64 n779, Value.int IntKind.i64 n780, Value.int IntKind.i64 n781, Value.int IntKind.i64 n782, Value.slice p783 k784 k785]) ∧ ∃ (R786 : List
  Own), ∃ (Φ787 : PW), Stable Φ787 ∧ Ctx W w777 (R786 ++ R775) Φ787 ∧ ∀ (w788 : World) (R789 : List Own), Ctx W w788 (R786 ++ R789) Φ787 → Calls Try.prog F.checkpoint_Gate_Arrive
  #[Value.pointer p11, Value.int IntKind.i64 1, Value.agg #[Value.int IntKind.i64 n778, Value.int IntKind.i64 n779, Value.int IntKind.i64 n780, Value.int IntKind.i64 n781, Value.int
  IntKind.i64 n782, Value.slice p783 k784 k785], Value.int IntKind.i64 1] w788 fun (e790 : Ending) (w791 : World) => ∃ (n792 : Int), e790 = Ending.returned (Value.int IntKind.i64 n792) ∧ ∃
  (R793 : List Own), ∃ (Φ794 : PW), Stable Φ794 ∧ Ctx W w791 (R793 ++ R789) Φ794 ∧ Br (decide (n792 = 2)) (∀ (w795 : World) (R796 : List Own), Ctx W w795 (R793 ++ R796) Φ794 → Calls Try.prog
  F.erratalaw39_barrier #[Value.int IntKind.i64 1] w795 fun (e797 : Ending) (w798 : World) => ∃ (n799 : Int), ∃ (n800 : Int), ∃ (n801 : Int), ∃ (n802 : Int), ∃ (n803 : Int), ∃ (p804 : Option
  Addr), ∃ (k805 : Nat), ∃ (k806 : Nat), e797 = Ending.returned (Value.agg #[Value.int IntKind.i64 n799, Value.int IntKind.i64 n800, Value.int IntKind.i64 n801, Value.int IntKind.i64 n802,
  Value.int IntKind.i64 n803, Value.slice p804 k805 k806]) ∧ ∃ (R807 : List Own), ∃ (Φ808 : PW), Stable Φ808 ∧ Ctx W w798 (R807 ++ R796) Φ808 ∧ ∀ (w809 : World) (R810 : List Own), Ctx W w809
  (R807 ++ R810) Φ808 → Calls Try.prog F.checkpoint_Gate_Arrive #[Value.pointer p11, Value.int IntKind.i64 1, Value.agg #[Value.int IntKind.i64 n799, Value.int IntKind.i64 n800, Value.int
  IntKind.i64 n801, Value.int IntKind.i64 n802, Value.int IntKind.i64 n803, Value.slice p804 k805 k806], Value.int IntKind.i64 1] w809 fun (e811 : Ending) (w812 : World) => ∃ (n813 : Int),
  e811 = Ending.returned (Value.int IntKind.i64 n813) ∧ ∃ (R814 : List Own), ∃ (Φ815 : PW), Stable Φ815 ∧ Ctx W w812 (R814 ++ R810) Φ815 ∧ ∀ (w816 : World) (R817 : List Own), Ctx W w816 (R814
  ++ R817) Φ815 → ∃ (c818 : Bool), (false = true → ∀ (w819 : World), w819 = w816 → Calls Try.prog F.checkpoint_Gate_Busy #[Value.pointer p4] w819 fun (e820 : Ending) (w821 : World) => e820 =
  Ending.returned (Value.bool c818) ∧ w821 = w816) ∧ ∃ (c822 : Bool), (false = true → ∀ (w823 : World), w823 = w816 → Calls Try.prog F.checkpoint_Gate_Busy #[Value.pointer p11] w823 fun (e824
  : Ending) (w825 : World) => e824 = Ending.returned (Value.bool c822) ∧ w825 = w816) ∧ ∀ (w826 : World) (R827 : List Own), Ctx W w826 (R814 ++ R827) Φ815 → J (Value.bool false) w826) (∀
  (w828 : World) (R829 : List Own), Ctx W w828 (R793 ++ R829) Φ794 → ∃ (c830 : Bool), (false = true → ∀ (w831 : World), w831 = w828 → Calls Try.prog F.checkpoint_Gate_Busy #[Value.pointer p4]
  w831 fun (e832 : Ending) (w833 : World) => e832 = Ending.returned (Value.bool c830) ∧ w833 = w828) ∧ ∃ (c834 : Bool), (false = true → ∀ (w835 : World), w835 = w828 → Calls Try.prog
  F.checkpoint_Gate_Busy #[Value.pointer p11] w835 fun (e836 : Ending) (w837 : World) => e836 = Ending.returned (Value.bool c834) ∧ w837 = w828) ∧ ∀ (w838 : World) (R839 : List Own), Ctx W
  w838 (R793 ++ R839) Φ794 → J (Value.bool false) w838)))))

theorem Berratalaw39_small_run  {W w : World} {R : List Own} {Φ : PW} [Stable Φ] {J : Value → World → Prop} (c : Ctx W w R Φ) (h : Berratalaw39_small  W R Φ J) : Calls Try.prog F.erratalaw39_small #[] w fun e w' => ∃ v, e = .returned v ∧ J v w' :=
  vcFS_sound (H := { keep := some [0, 1, 2, 3, 4, 5, 6, 14], split := [5, 6, 7, 8] }) (by rw [show vcFS Try.prog W { keep := some [0, 1, 2, 3, 4, 5, 6, 14], split := [5, 6, 7, 8] } F.erratalaw39_small #[] R Φ J = Berratalaw39_small  W R Φ J by kernel_rfl]; exact h) c

/-- erratalaw39.begin -/
-- loop at region 17: 9 k; blocks 
-- loop at region 7: 7 in, 8 k; blocks 
-- loop at region 3: 6 i; blocks 
def Berratalaw39_begin (n : Int) (lP : Option Addr) (lN lC : Nat) (W : World) (R : List Own) (Φ : PW) (J : Value → World → Prop) : Prop :=
  ∀ (k0 : Nat), exI fun (I1 : Int → List Own → PW → Nat → Prop) => (∃ (R2 : List Own), ∃ (Φ3 : PW), ∃ (k4 : Nat), Stable Φ3 ∧ (∀ (w5 : World) (R6 : List Own), Ctx W w5 (Own.blk k0
  [Value.slice lP lN lC, Value.slice none 0 0, Value.slice none 0 0, Value.slice none 0 0, Value.slice none 0 0, Value.slice none 0 0, Value.slice none 0 0, Value.slice none 0 0, Value.slice
  none 0 0, Value.int IntKind.i64 0, Value.int IntKind.i64 0] 40 :: R ++ R6) Φ → Ctx W w5 (R2 ++ R6) Φ3) ∧ I1 0 R2 Φ3 k4) ∧ ∀ (n7 : Int) (R8 : List Own) (I9 : List Nat → World → Prop) (k10 :
  Nat), Stable I9 → I1 n7 R8 I9 k10 → Br (decide (n7 < n)) (exI fun (I11 : Int → Int → List Own → PW → Nat → Prop) => (∃ (R12 : List Own), ∃ (Φ13 : PW), ∃ (k14 : Nat), Stable Φ13 ∧ (∀ (w15 :
  World) (R16 : List Own), Ctx W w15 (R8 ++ R16) I9 → Ctx W w15 (R12 ++ R16) Φ13) ∧ I11 0 0 R12 Φ13 k14) ∧ ∀ (n17 n18 : Int) (R19 : List Own) (I20 : List Nat → World → Prop) (k21 : Nat),
  Stable I20 → I11 n17 n18 R19 I20 k21 → Br (decide (n18 < (↑lN : Int))) ((0 ≤ n18 ∧ n18 < (↑lN : Int)) ∧ ptrK none lP fun (k22 k23 : Nat) => ∀ (w24 : World) (R25 : List Own), Ctx W w24 (R19
  ++ R25) I20 → ∃ (n26 : Int), w24.cell? (Addr.mk k22 (k23 + n18.toNat * 2 + 1) none) = some (Value.int IntKind.i64 n26) ∧ Br (decide (n26 = n7)) (I64 (n17 + 1) ∧ I64 (n18 + 1) ∧ ∃ (R27 :
  List Own), ∃ (Φ28 : PW), ∃ (k29 : Nat), Stable Φ28 ∧ (∀ (w30 : World) (R31 : List Own), Ctx W w30 (R19 ++ R31) I20 → Ctx W w30 (R27 ++ R31) Φ28) ∧ I11 (n17 + 1) (n18 + 1) R27 Φ28 k29 ∧ k29
  < k21) (I64 (n18 + 1) ∧ ∃ (R32 : List Own), ∃ (Φ33 : PW), ∃ (k34 : Nat), Stable Φ33 ∧ (∀ (w35 : World) (R36 : List Own), Ctx W w35 (R19 ++ R36) I20 → Ctx W w35 (R32 ++ R36) Φ33) ∧ I11 n17
  (n18 + 1) R32 Φ33 k34 ∧ k34 < k21)) (∃ (R37 : List Own), ∃ (Φ38 : PW), Stable Φ38 ∧ (∀ (w39 : World) (R40 : List Own), Ctx W w39 (R19 ++ R40) I20 → Ctx W w39 (R37 ++ R40) Φ38) ∧ ∃ (p41 :
  Option Addr), ∃ (k42 : Nat), ∃ (k43 : Nat), (∀ (w44 : World) (R45 : List Own), Ctx W w44 (R37 ++ R45) Φ38 → ∃ (p46 : Option Addr), ∃ (k47 : Nat), ∃ (k48 : Nat), w44.cell? (Addr.mk k0 2
  none) = some (Value.slice p46 k47 k48) ∧ Value.slice p46 k47 k48 = Value.slice p41 k42 k43) ∧ ∀ (w49 : World) (R50 : List Own), Ctx W w49 (R19 ++ R50) I20 → Calls Try.prog
  F.checkpoint_NewGate #[Value.int IntKind.i64 n17] w49 fun (e51 : Ending) (w52 : World) => ∃ (p53 : Option Addr), e51 = Ending.returned (Value.pointer p53) ∧ ∃ (R54 : List Own), ∃ (Φ55 :
  PW), Stable Φ55 ∧ Ctx W w52 (R54 ++ R50) Φ55 ∧ (∀ (w56 : World) (R57 : List Own), Ctx W w56 (R54 ++ R57) Φ55 → Ctx W w56 (R37 ++ R57) Φ38) ∧ ∀ (k58 : Nat), (∀ (w59 : World) (R60 : List
  Own), Ctx W w59 (Own.blk k58 [Value.pointer p53] 52 :: R54 ++ R60) Φ55 → Ctx W w59 (R37 ++ R60) Φ38) ∧ ∀ (w61 : World) (R62 : List Own), Ctx W w61 (Own.blk k58 [Value.pointer p53] 52 :: R54
  ++ R62) Φ55 → ∃ (p63 : Option Addr), ∃ (k64 : Nat), ∃ (k65 : Nat), ∃ (w66 : World), Sem.run Try.prog (builtin Builtin.append #[35, 35] 35 #[false, false] #[Value.slice p41 k42 k43,
  Value.slice (some (Addr.mk k58 0 none)) 1 1]) w61 = Result.ok (Next.value (Value.slice p63 k64 k65)) w66 ∧ ∃ (R67 : List Own), ∃ (Φ68 : PW), Stable Φ68 ∧ Ctx W w66 (R67 ++ R62) Φ68 ∧ (∀
  (w69 : World) (R70 : List Own), Ctx W w69 (R67 ++ R70) Φ68 → Ctx W w69 (R37 ++ R70) Φ38) ∧ ∀ (w71 : World) (R72 : List Own), Ctx W w71 (R67 ++ R72) Φ68 → CanWrite w71 k0 2 1 ∧ ∀ (w73 :
  World), w73 = w71.setCell (Addr.mk k0 2 none) (Value.slice p63 k64 k65) → ∃ (R74 : List Own), ∃ (Φ75 : PW), Stable Φ75 ∧ Ctx W w73 (R74 ++ R72) Φ75 ∧ ∀ (w76 : World) (R77 : List Own), Ctx W
  w76 (R74 ++ R77) Φ75 → ∃ (p78 : Option Addr), ∃ (k79 : Nat), ∃ (k80 : Nat), w76.cell? (Addr.mk k0 3 none) = some (Value.slice p78 k79 k80) ∧ ∀ (k81 : Nat) (w82 : World) (R83 : List Own),
  Ctx W w82 (Own.blk k81 [Value.slice none 0 0] 33 :: R74 ++ R83) Φ75 → ∃ (p84 : Option Addr), ∃ (k85 : Nat), ∃ (k86 : Nat), ∃ (w87 : World), Sem.run Try.prog (builtin Builtin.append #[36,
  36] 36 #[false, false] #[Value.slice p78 k79 k80, Value.slice (some (Addr.mk k81 0 none)) 1 1]) w82 = Result.ok (Next.value (Value.slice p84 k85 k86)) w87 ∧ ∃ (R88 : List Own), ∃ (Φ89 :
  PW), Stable Φ89 ∧ Ctx W w87 (R88 ++ R83) Φ89 ∧ ∀ (w90 : World) (R91 : List Own), Ctx W w90 (R88 ++ R91) Φ89 → CanWrite w90 k0 3 1 ∧ ∀ (w92 : World), w92 = w90.setCell (Addr.mk k0 3 none)
  (Value.slice p84 k85 k86) → ∃ (R93 : List Own), ∃ (Φ94 : PW), Stable Φ94 ∧ Ctx W w92 (R93 ++ R91) Φ94 ∧ ∀ (w95 : World) (R96 : List Own), Ctx W w95 (R93 ++ R96) Φ94 → ∃ (p97 : Option Addr),
  ∃ (k98 : Nat), ∃ (k99 : Nat), w95.cell? (Addr.mk k0 2 none) = some (Value.slice p97 k98 k99) ∧ (0 ≤ n7 ∧ n7 < (↑k98 : Int)) ∧ ptrK none p97 fun (k100 k101 : Nat) => ∀ (w102 : World) (R103 :
  List Own), Ctx W w102 (R93 ++ R103) Φ94 → ∃ (p104 : Option Addr), w102.cell? (Addr.mk k100 (k101 + n7.toNat) none) = some (Value.pointer p104) ∧ Br p104.isNone (∀ (w105 : World) (R106 :
  List Own), Ctx W w105 (R93 ++ R106) Φ94 → J (Value.pointer none) w105) (I64 (n7 + 1) ∧ ∃ (R107 : List Own), ∃ (Φ108 : PW), ∃ (k109 : Nat), Stable Φ108 ∧ (∀ (w110 : World) (R111 : List Own),
  Ctx W w110 (R93 ++ R111) Φ94 → Ctx W w110 (R107 ++ R111) Φ108) ∧ I1 (n7 + 1) R107 Φ108 k109 ∧ k109 < k10))) ((0 ≤ n ∧ n ≤ n ∧ 1 * n ≤ 281474976710656 ∧ n ≤ 9223372036854775807) ∧ ∀ (k112 :
  Nat) (w113 : World) (R114 : List Own), Ctx W w113 (Own.blk k112 (List.replicate n.toNat (Value.bool false)) 4 :: R8 ++ R114) I9 → CanWrite w113 k0 4 1 ∧ ∀ (w115 : World), w115 =
  w113.setCell (Addr.mk k0 4 none) (Value.slice (some (Addr.mk k112 0 none)) n.toNat n.toNat) → ∃ (R116 : List Own), ∃ (Φ117 : PW), Stable Φ117 ∧ Ctx W w115 (R116 ++ R114) Φ117 ∧ exI fun
  (I118 : Int → List Own → PW → Nat → Prop) => (∃ (R119 : List Own), ∃ (Φ120 : PW), ∃ (k121 : Nat), Stable Φ120 ∧ (∀ (w122 : World) (R123 : List Own), Ctx W w122 (R116 ++ R123) Φ117 → Ctx W
  w122 (R119 ++ R123) Φ120) ∧ I118 0 R119 Φ120 k121) ∧ ∀ (n124 : Int) (R125 : List Own) (I126 : List Nat → World → Prop) (k127 : Nat), Stable I126 → I118 n124 R125 I126 k127 → Br (decide
  (n124 < (↑lN : Int))) (∃ (R128 : List Own), ∃ (Φ129 : PW), Stable Φ129 ∧ (∀ (w130 : World) (R131 : List Own), Ctx W w130 (R125 ++ R131) I126 → Ctx W w130 (R128 ++ R131) Φ129) ∧ ∃ (p132 :
  Option Addr), ∃ (k133 : Nat), ∃ (k134 : Nat), (∀ (w135 : World) (R136 : List Own), Ctx W w135 (R128 ++ R136) Φ129 → ∃ (p137 : Option Addr), ∃ (k138 : Nat), ∃ (k139 : Nat), w135.cell?
  (Addr.mk k0 1 none) = some (Value.slice p137 k138 k139) ∧ Value.slice p137 k138 k139 = Value.slice p132 k133 k134) ∧ ∀ (w140 : World) (R141 : List Own), Ctx W w140 (R125 ++ R141) I126 →
  Calls Try.prog F.channel_New #[] w140 fun (e142 : Ending) (w143 : World) => ∃ (p144 : Option Addr), e142 = Ending.returned (Value.pointer p144) ∧ ∃ (R145 : List Own), ∃ (Φ146 : PW), Stable
  Φ146 ∧ Ctx W w143 (R145 ++ R141) Φ146 ∧ (∀ (w147 : World) (R148 : List Own), Ctx W w147 (R145 ++ R148) Φ146 → Ctx W w147 (R128 ++ R148) Φ129) ∧ ∀ (k149 : Nat), (∀ (w150 : World) (R151 :
  List Own), Ctx W w150 (Own.blk k149 [Value.pointer p144] 49 :: R145 ++ R151) Φ146 → Ctx W w150 (R128 ++ R151) Φ129) ∧ ∀ (w152 : World) (R153 : List Own), Ctx W w152 (Own.blk k149
  [Value.pointer p144] 49 :: R145 ++ R153) Φ146 → ∃ (p154 : Option Addr), ∃ (k155 : Nat), ∃ (k156 : Nat), ∃ (w157 : World), Sem.run Try.prog (builtin Builtin.append #[34, 34] 34 #[false,
  false] #[Value.slice p132 k133 k134, Value.slice (some (Addr.mk k149 0 none)) 1 1]) w152 = Result.ok (Next.value (Value.slice p154 k155 k156)) w157 ∧ ∃ (R158 : List Own), ∃ (Φ159 : PW),
  Stable Φ159 ∧ Ctx W w157 (R158 ++ R153) Φ159 ∧ (∀ (w160 : World) (R161 : List Own), Ctx W w160 (R158 ++ R161) Φ159 → Ctx W w160 (R128 ++ R161) Φ129) ∧ ∀ (w162 : World) (R163 : List Own),
  Ctx W w162 (R158 ++ R163) Φ159 → CanWrite w162 k0 1 1 ∧ ∀ (w164 : World), w164 = w162.setCell (Addr.mk k0 1 none) (Value.slice p154 k155 k156) → ∃ (R165 : List Own), ∃ (Φ166 : PW), Stable
  Φ166 ∧ Ctx W w164 (R165 ++ R163) Φ166 ∧ ∀ (w167 : World) (R168 : List Own), Ctx W w167 (R165 ++ R168) Φ166 → ∃ (p169 : Option Addr), ∃ (k170 : Nat), ∃ (k171 : Nat), w167.cell? (Addr.mk k0 5
  none) = some (Value.slice p169 k170 k171) ∧ ∀ (k172 : Nat) (w173 : World) (R174 : List Own), Ctx W w173 (Own.blk k172 [Value.slice none 0 0] 58 :: R165 ++ R174) Φ166 → ∃ (p175 : Option
  Addr), ∃ (k176 : Nat), ∃ (k177 : Nat), ∃ (w178 : World), Sem.run Try.prog (builtin Builtin.append #[38, 38] 38 #[false, false] #[Value.slice p169 k170 k171, Value.slice (some (Addr.mk k172
  0 none)) 1 1]) w173 = Result.ok (Next.value (Value.slice p175 k176 k177)) w178 ∧ ∃ (R179 : List Own), ∃ (Φ180 : PW), Stable Φ180 ∧ Ctx W w178 (R179 ++ R174) Φ180 ∧ ∀ (w181 : World) (R182 :
  List Own), Ctx W w181 (R179 ++ R182) Φ180 → CanWrite w181 k0 5 1 ∧ ∀ (w183 : World), w183 = w181.setCell (Addr.mk k0 5 none) (Value.slice p175 k176 k177) → ∃ (R184 : List Own), ∃ (Φ185 :
  PW), Stable Φ185 ∧ Ctx W w183 (R184 ++ R182) Φ185 ∧ ∀ (w186 : World) (R187 : List Own), Ctx W w186 (R184 ++ R187) Φ185 → ∃ (p188 : Option Addr), ∃ (k189 : Nat), ∃ (k190 : Nat), w186.cell?
  (Addr.mk k0 6 none) = some (Value.slice p188 k189 k190) ∧ ∀ (k191 : Nat) (w192 : World) (R193 : List Own), Ctx W w192 (Own.blk k191 [Value.slice none 0 0] 58 :: R184 ++ R193) Φ185 → ∃ (p194
  : Option Addr), ∃ (k195 : Nat), ∃ (k196 : Nat), ∃ (w197 : World), Sem.run Try.prog (builtin Builtin.append #[38, 38] 38 #[false, false] #[Value.slice p188 k189 k190, Value.slice (some
  (Addr.mk k191 0 none)) 1 1]) w192 = Result.ok (Next.value (Value.slice p194 k195 k196)) w197 ∧ ∃ (R198 : List Own), ∃ (Φ199 : PW), Stable Φ199 ∧ Ctx W w197 (R198 ++ R193) Φ199 ∧ ∀ (w200 :
  World) (R201 : List Own), Ctx W w200 (R198 ++ R201) Φ199 → CanWrite w200 k0 6 1 ∧ ∀ (w202 : World), w202 = w200.setCell (Addr.mk k0 6 none) (Value.slice p194 k195 k196) → ∃ (R203 : List
  Own), ∃ (Φ204 : PW), Stable Φ204 ∧ Ctx W w202 (R203 ++ R201) Φ204 ∧ ∀ (w205 : World) (R206 : List Own), Ctx W w205 (R203 ++ R206) Φ204 → ∃ (p207 : Option Addr), ∃ (k208 : Nat), ∃ (k209 :
  Nat), w205.cell? (Addr.mk k0 7 none) = some (Value.slice p207 k208 k209) ∧ ∀ (k210 : Nat) (w211 : World) (R212 : List Own), Ctx W w211 (Own.blk k210 [Value.slice none 0 0] 58 :: R203 ++
  R212) Φ204 → ∃ (p213 : Option Addr), ∃ (k214 : Nat), ∃ (k215 : Nat), ∃ (w216 : World), Sem.run Try.prog (builtin Builtin.append #[38, 38] 38 #[false, false] #[Value.slice p207 k208 k209,
  Value.slice (some (Addr.mk k210 0 none)) 1 1]) w211 = Result.ok (Next.value (Value.slice p213 k214 k215)) w216 ∧ ∃ (R217 : List Own), ∃ (Φ218 : PW), Stable Φ218 ∧ Ctx W w216 (R217 ++ R212)
  Φ218 ∧ ∀ (w219 : World) (R220 : List Own), Ctx W w219 (R217 ++ R220) Φ218 → CanWrite w219 k0 7 1 ∧ ∀ (w221 : World), w221 = w219.setCell (Addr.mk k0 7 none) (Value.slice p213 k214 k215) → ∃
  (R222 : List Own), ∃ (Φ223 : PW), Stable Φ223 ∧ Ctx W w221 (R222 ++ R220) Φ223 ∧ ∀ (w224 : World) (R225 : List Own), Ctx W w224 (R222 ++ R225) Φ223 → ∃ (p226 : Option Addr), ∃ (k227 : Nat),
  ∃ (k228 : Nat), w224.cell? (Addr.mk k0 8 none) = some (Value.slice p226 k227 k228) ∧ ∀ (k229 : Nat) (w230 : World) (R231 : List Own), Ctx W w230 (Own.blk k229 [Value.slice none 0 0] 58 ::
  R222 ++ R231) Φ223 → ∃ (p232 : Option Addr), ∃ (k233 : Nat), ∃ (k234 : Nat), ∃ (w235 : World), Sem.run Try.prog (builtin Builtin.append #[38, 38] 38 #[false, false] #[Value.slice p226 k227
  k228, Value.slice (some (Addr.mk k229 0 none)) 1 1]) w230 = Result.ok (Next.value (Value.slice p232 k233 k234)) w235 ∧ ∃ (R236 : List Own), ∃ (Φ237 : PW), Stable Φ237 ∧ Ctx W w235 (R236 ++
  R231) Φ237 ∧ ∀ (w238 : World) (R239 : List Own), Ctx W w238 (R236 ++ R239) Φ237 → CanWrite w238 k0 8 1 ∧ ∀ (w240 : World), w240 = w238.setCell (Addr.mk k0 8 none) (Value.slice p232 k233
  k234) → ∃ (R241 : List Own), ∃ (Φ242 : PW), Stable Φ242 ∧ Ctx W w240 (R241 ++ R239) Φ242 ∧ ∀ (w243 : World) (R244 : List Own), Ctx W w243 (R241 ++ R244) Φ242 → ∃ (p245 : Option Addr), ∃
  (k246 : Nat), ∃ (k247 : Nat), w243.cell? (Addr.mk k0 1 none) = some (Value.slice p245 k246 k247) ∧ (0 ≤ n124 ∧ n124 < (↑k246 : Int)) ∧ ptrK none p245 fun (k248 k249 : Nat) => ∀ (w250 :
  World) (R251 : List Own), Ctx W w250 (R241 ++ R251) Φ242 → ∃ (p252 : Option Addr), w250.cell? (Addr.mk k248 (k249 + n124.toNat) none) = some (Value.pointer p252) ∧ Br p252.isNone (∀ (w253 :
  World) (R254 : List Own), Ctx W w253 (R241 ++ R254) Φ242 → J (Value.pointer none) w253) (I64 (n124 + 1) ∧ ∃ (R255 : List Own), ∃ (Φ256 : PW), ∃ (k257 : Nat), Stable Φ256 ∧ (∀ (w258 : World)
  (R259 : List Own), Ctx W w258 (R241 ++ R259) Φ242 → Ctx W w258 (R255 ++ R259) Φ256) ∧ I118 (n124 + 1) R255 Φ256 k257 ∧ k257 < k127)) (∀ (w260 : World) (R261 : List Own), Ctx W w260 (R125 ++
  R261) I126 → J (Value.pointer (some (Addr.mk k0 0 none))) w260))

theorem Berratalaw39_begin_run (n : Int) (lP : Option Addr) (lN lC : Nat) {W w : World} {R : List Own} {Φ : PW} [Stable Φ] {J : Value → World → Prop} (c : Ctx W w R Φ) (h : Berratalaw39_begin n lP lN lC W R Φ J) : Calls Try.prog F.erratalaw39_begin #[.int .i64 n, .slice lP lN lC] w fun e w' => ∃ v, e = .returned v ∧ J v w' :=
  vcFS_sound (H := { keep := some [0, 1, 4, 5, 6, 7, 8, 9, 15, 21, 30, 60, 69, 125], stages := [(11, [.held [(0, true), (1, true), (5, true), (2, true), (3, true), (4, true), (6, false), (7, false), (8, false)], .stage [9] none, .stage [10] (some 11)]), (19, [.held [(0, true), (1, true), (2, true), (3, true), (4, true), (5, false), (6, false), (7, false)], .stage [8] none, .stage [9] (some 10)])], loops := [(17, [(9, .one (.int .i64))], []), (7, [(7, .one (.int .i64)), (8, .one (.int .i64))], []), (3, [(6, .one (.int .i64))], [])] }) (by rw [show vcFS Try.prog W { keep := some [0, 1, 4, 5, 6, 7, 8, 9, 15, 21, 30, 60, 69, 125], stages := [(11, [.held [(0, true), (1, true), (5, true), (2, true), (3, true), (4, true), (6, false), (7, false), (8, false)], .stage [9] none, .stage [10] (some 11)]), (19, [.held [(0, true), (1, true), (2, true), (3, true), (4, true), (5, false), (6, false), (7, false)], .stage [8] none, .stage [9] (some 10)])], loops := [(17, [(9, .one (.int .i64))], []), (7, [(7, .one (.int .i64)), (8, .one (.int .i64))], []), (3, [(6, .one (.int .i64))], [])] } F.erratalaw39_begin #[.int .i64 n, .slice lP lN lC] R Φ J = Berratalaw39_begin n lP lN lC W R Φ J by kernel_rfl]; exact h) c

/-- (*erratalaw39.net).produce -/
-- loop at region 2: 6 k; blocks 
-- known blocks: 5 m
def Berratalaw39_net_produce (xB xO : Nat) (i : Int) (m0 : Int) (m1 : Int) (m2 : Int) (m3 : Int) (m4 : Int) (m5P : Option Addr) (m5N m5C : Nat) (W : World) (R : List Own) (Φ : PW) (J : Value → World → Prop) : Prop :=
  ∀ (b : Nat), exI fun (I0 : Int → List Own → PW → Nat → Prop) => (∃ (R1 : List Own), ∃ (Φ2 : PW), ∃ (k3 : Nat), Stable Φ2 ∧ (∀ (w4 : World) (R5 : List Own), Ctx W w4 (R ++ R5) Φ → Ctx W w4
  (R1 ++ R5) Φ2) ∧ I0 0 R1 Φ2 k3) ∧ ∀ (n6 : Int) (R7 : List Own) (I8 : List Nat → World → Prop) (k9 : Nat), Stable I8 → I0 n6 R7 I8 k9 → ∀ (w10 : World) (R11 : List Own), Ctx W w10 (R7 ++
  R11) I8 → ∃ (p12 : Option Addr), ∃ (k13 : Nat), ∃ (k14 : Nat), w10.cell? (Addr.mk xB xO none) = some (Value.slice p12 k13 k14) ∧ Br (decide (n6 < (↑k13 : Int))) (∀ (w15 : World) (R16 : List
  Own), Ctx W w15 (R7 ++ R16) I8 → ∃ (p17 : Option Addr), ∃ (k18 : Nat), ∃ (k19 : Nat), w15.cell? (Addr.mk xB xO none) = some (Value.slice p17 k18 k19) ∧ (0 ≤ n6 ∧ n6 < (↑k18 : Int)) ∧ ptrK
  none p17 fun (k20 k21 : Nat) => ∀ (w22 : World) (R23 : List Own), Ctx W w22 (R7 ++ R23) I8 → ∃ (n24 : Int), w22.cell? (Addr.mk k20 (k21 + n6.toNat * 2) none) = some (Value.int IntKind.i64
  n24) ∧ Br (decide (n24 = i)) (∃ (R25 : List Own), ∃ (Φ26 : PW), Stable Φ26 ∧ (∀ (w27 : World) (R28 : List Own), Ctx W w27 (R7 ++ R28) I8 → Ctx W w27 (R25 ++ R28) Φ26) ∧ ∃ (p29 : Option
  Addr), ∃ (k30 : Nat), ∃ (k31 : Nat), (∀ (w32 : World) (R33 : List Own), Ctx W w32 (R25 ++ R33) Φ26 → ∃ (p34 : Option Addr), ∃ (k35 : Nat), ∃ (k36 : Nat), w32.cell? (Addr.mk xB (xO + 3)
  none) = some (Value.slice p34 k35 k36) ∧ Value.slice p34 k35 k36 = Value.slice p29 k30 k31) ∧ ∃ (p37 : Option Addr), ∃ (k38 : Nat), ∃ (k39 : Nat), (∀ (w40 : World) (R41 : List Own), Ctx W
  w40 (R25 ++ R41) Φ26 → ∃ (p42 : Option Addr), ∃ (k43 : Nat), ∃ (k44 : Nat), w40.cell? (Addr.mk xB (xO + 3) none) = some (Value.slice p42 k43 k44) ∧ Value.slice p42 k43 k44 = Value.slice p37
  k38 k39) ∧ (0 ≤ i ∧ i < (↑k38 : Int)) ∧ ptrK none p37 fun (k45 k46 : Nat) => ∃ (p47 : Option Addr), ∃ (k48 : Nat), ∃ (k49 : Nat), (∀ (w50 : World) (R51 : List Own), Ctx W w50 (R25 ++ R51)
  Φ26 → ∃ (p52 : Option Addr), ∃ (k53 : Nat), ∃ (k54 : Nat), w50.cell? (Addr.mk k45 (k46 + i.toNat) none) = some (Value.slice p52 k53 k54) ∧ Value.slice p52 k53 k54 = Value.slice p47 k48 k49)
  ∧ ∀ (k55 : Nat), (∀ (w56 : World) (R57 : List Own), Ctx W w56 (Own.blk k55 [Value.int IntKind.i64 n6, Value.int IntKind.i64 m0, Value.int IntKind.i64 m1, Value.int IntKind.i64 m2, Value.int
  IntKind.i64 m3, Value.int IntKind.i64 m4, Value.slice m5P m5N m5C] 57 :: R7 ++ R57) I8 → Ctx W w56 (R25 ++ R57) Φ26) ∧ ∀ (w58 : World) (R59 : List Own), Ctx W w58 (Own.blk k55 [Value.int
  IntKind.i64 n6, Value.int IntKind.i64 m0, Value.int IntKind.i64 m1, Value.int IntKind.i64 m2, Value.int IntKind.i64 m3, Value.int IntKind.i64 m4, Value.slice m5P m5N m5C] 57 :: R7 ++ R59)
  I8 → ∃ (p60 : Option Addr), ∃ (k61 : Nat), ∃ (k62 : Nat), ∃ (w63 : World), Sem.run Try.prog (builtin Builtin.append #[33, 33] 33 #[false, false] #[Value.slice p47 k48 k49, Value.slice (some
  (Addr.mk k55 0 none)) 1 1]) w58 = Result.ok (Next.value (Value.slice p60 k61 k62)) w63 ∧ ∃ (R64 : List Own), ∃ (Φ65 : PW), Stable Φ65 ∧ Ctx W w63 (R64 ++ R59) Φ65 ∧ (∀ (w66 : World) (R67 :
  List Own), Ctx W w66 (R64 ++ R67) Φ65 → Ctx W w66 (R25 ++ R67) Φ26) ∧ (0 ≤ i ∧ i < (↑k30 : Int)) ∧ ptrK none p29 fun (k68 k69 : Nat) => ∀ (w70 : World) (R71 : List Own), Ctx W w70 (R64 ++
  R71) Φ65 → CanWrite w70 k68 (k69 + i.toNat) 1 ∧ ∀ (w72 : World), w72 = w70.setCell (Addr.mk k68 (k69 + i.toNat) none) (Value.slice p60 k61 k62) → ∃ (R73 : List Own), ∃ (Φ74 : PW), Stable
  Φ74 ∧ Ctx W w72 (R73 ++ R71) Φ74 ∧ ∀ (w75 : World) (R76 : List Own), Ctx W w75 (R73 ++ R76) Φ74 → ∃ (p77 : Option Addr), ∃ (k78 : Nat), ∃ (k79 : Nat), w75.cell? (Addr.mk xB (xO + 4) none) =
  some (Value.slice p77 k78 k79) ∧ (0 ≤ i ∧ i < (↑k78 : Int)) ∧ ptrK none p77 fun (k80 k81 : Nat) => ∀ (w82 : World) (R83 : List Own), Ctx W w82 (R73 ++ R83) Φ74 → ∃ (c84 : Bool), w82.cell?
  (Addr.mk k80 (k81 + i.toNat) none) = some (Value.bool c84) ∧ Br (!c84) (∃ (R85 : List Own), ∃ (Φ86 : PW), Stable Φ86 ∧ (∀ (w87 : World) (R88 : List Own), Ctx W w87 (R73 ++ R88) Φ74 → Ctx W
  w87 (R85 ++ R88) Φ86) ∧ ∃ (p89 : Option Addr), ∃ (k90 : Nat), ∃ (k91 : Nat), (∀ (w92 : World) (R93 : List Own), Ctx W w92 (R85 ++ R93) Φ86 → ∃ (p94 : Option Addr), ∃ (k95 : Nat), ∃ (k96 :
  Nat), w92.cell? (Addr.mk xB (xO + 5) none) = some (Value.slice p94 k95 k96) ∧ Value.slice p94 k95 k96 = Value.slice p89 k90 k91) ∧ ∃ (p97 : Option Addr), ∃ (k98 : Nat), ∃ (k99 : Nat), (∀
  (w100 : World) (R101 : List Own), Ctx W w100 (R85 ++ R101) Φ86 → ∃ (p102 : Option Addr), ∃ (k103 : Nat), ∃ (k104 : Nat), w100.cell? (Addr.mk xB (xO + 5) none) = some (Value.slice p102 k103
  k104) ∧ Value.slice p102 k103 k104 = Value.slice p97 k98 k99) ∧ (0 ≤ n6 ∧ n6 < (↑k98 : Int)) ∧ ptrK none p97 fun (k105 k106 : Nat) => ∃ (p107 : Option Addr), ∃ (k108 : Nat), ∃ (k109 : Nat),
  (∀ (w110 : World) (R111 : List Own), Ctx W w110 (R85 ++ R111) Φ86 → ∃ (p112 : Option Addr), ∃ (k113 : Nat), ∃ (k114 : Nat), w110.cell? (Addr.mk k105 (k106 + n6.toNat) none) = some
  (Value.slice p112 k113 k114) ∧ Value.slice p112 k113 k114 = Value.slice p107 k108 k109) ∧ ∀ (k115 : Nat), (∀ (w116 : World) (R117 : List Own), Ctx W w116 (Own.blk k115 [Value.int
  IntKind.i64 m4] 3 :: R73 ++ R117) Φ74 → Ctx W w116 (R85 ++ R117) Φ86) ∧ ∀ (w118 : World) (R119 : List Own), Ctx W w118 (Own.blk k115 [Value.int IntKind.i64 m4] 3 :: R73 ++ R119) Φ74 → ∃
  (p120 : Option Addr), ∃ (k121 : Nat), ∃ (k122 : Nat), ∃ (w123 : World), Sem.run Try.prog (builtin Builtin.append #[58, 58] 58 #[false, false] #[Value.slice p107 k108 k109, Value.slice (some
  (Addr.mk k115 0 none)) 1 1]) w118 = Result.ok (Next.value (Value.slice p120 k121 k122)) w123 ∧ ∃ (R124 : List Own), ∃ (Φ125 : PW), Stable Φ125 ∧ Ctx W w123 (R124 ++ R119) Φ125 ∧ (∀ (w126 :
  World) (R127 : List Own), Ctx W w126 (R124 ++ R127) Φ125 → Ctx W w126 (R85 ++ R127) Φ86) ∧ (0 ≤ n6 ∧ n6 < (↑k90 : Int)) ∧ ptrK none p89 fun (k128 k129 : Nat) => ∀ (w130 : World) (R131 :
  List Own), Ctx W w130 (R124 ++ R131) Φ125 → CanWrite w130 k128 (k129 + n6.toNat) 1 ∧ ∀ (w132 : World), w132 = w130.setCell (Addr.mk k128 (k129 + n6.toNat) none) (Value.slice p120 k121 k122)
  → ∃ (R133 : List Own), ∃ (Φ134 : PW), Stable Φ134 ∧ Ctx W w132 (R133 ++ R131) Φ134 ∧ I64 (n6 + 1) ∧ ∃ (R135 : List Own), ∃ (Φ136 : PW), ∃ (k137 : Nat), Stable Φ136 ∧ (∀ (w138 : World) (R139
  : List Own), Ctx W w138 (R133 ++ R139) Φ134 → Ctx W w138 (R135 ++ R139) Φ136) ∧ I0 (n6 + 1) R135 Φ136 k137 ∧ k137 < k9) (I64 (n6 + 1) ∧ ∃ (R140 : List Own), ∃ (Φ141 : PW), ∃ (k142 : Nat),
  Stable Φ141 ∧ (∀ (w143 : World) (R144 : List Own), Ctx W w143 (R73 ++ R144) Φ74 → Ctx W w143 (R140 ++ R144) Φ141) ∧ I0 (n6 + 1) R140 Φ141 k142 ∧ k142 < k9)) (I64 (n6 + 1) ∧ ∃ (R145 : List
  Own), ∃ (Φ146 : PW), ∃ (k147 : Nat), Stable Φ146 ∧ (∀ (w148 : World) (R149 : List Own), Ctx W w148 (R7 ++ R149) I8 → Ctx W w148 (R145 ++ R149) Φ146) ∧ I0 (n6 + 1) R145 Φ146 k147 ∧ k147 <
  k9)) (∀ (w150 : World) (R151 : List Own), Ctx W w150 (R7 ++ R151) I8 → J (Value.tuple #[]) w150)

theorem Berratalaw39_net_produce_run (xB xO : Nat) (i : Int) (m0 : Int) (m1 : Int) (m2 : Int) (m3 : Int) (m4 : Int) (m5P : Option Addr) (m5N m5C : Nat) {W w : World} {R : List Own} {Φ : PW} [Stable Φ] {J : Value → World → Prop} (c : Ctx W w R Φ) (h : Berratalaw39_net_produce xB xO i m0 m1 m2 m3 m4 m5P m5N m5C W R Φ J) : Calls Try.prog F.erratalaw39_net_produce #[.pointer (some ⟨xB, xO, none⟩), .int .i64 i, .agg #[.int .i64 m0, .int .i64 m1, .int .i64 m2, .int .i64 m3, .int .i64 m4, .slice m5P m5N m5C]] w fun e w' => ∃ v, e = .returned v ∧ J v w' :=
  vcFS_sound (H := { keep := some [0, 1, 5, 6, 13, 25, 51], track := [5], stages := [(5, [.held [(0, true), (4, true), (5, true), (9, true), (12, true), (13, true), (1, true), (6, true), (14, true), (2, true), (7, true), (3, true), (8, true), (10, true), (11, true), (15, false), (16, false)], .stage [17] (some 18)]), (7, [.held [(0, true), (4, true), (5, true), (9, true), (12, true), (1, true), (6, true), (13, true), (2, true), (7, true), (3, true), (8, true), (10, true), (11, true), (14, false), (15, false)], .stage [16] (some 17)])], loops := [(2, [(6, .one (.int .i64))], [])] }) (by rw [show vcFS Try.prog W { keep := some [0, 1, 5, 6, 13, 25, 51], track := [5], stages := [(5, [.held [(0, true), (4, true), (5, true), (9, true), (12, true), (13, true), (1, true), (6, true), (14, true), (2, true), (7, true), (3, true), (8, true), (10, true), (11, true), (15, false), (16, false)], .stage [17] (some 18)]), (7, [.held [(0, true), (4, true), (5, true), (9, true), (12, true), (1, true), (6, true), (13, true), (2, true), (7, true), (3, true), (8, true), (10, true), (11, true), (14, false), (15, false)], .stage [16] (some 17)])], loops := [(2, [(6, .one (.int .i64))], [])] } F.erratalaw39_net_produce #[.pointer (some ⟨xB, xO, none⟩), .int .i64 i, .agg #[.int .i64 m0, .int .i64 m1, .int .i64 m2, .int .i64 m3, .int .i64 m4, .slice m5P m5N m5C]] R Φ J = Berratalaw39_net_produce xB xO i m0 m1 m2 m3 m4 m5P m5N m5C W R Φ J by kernel_rfl]; exact h) c

/-- erratalaw39.mark -/
-- known blocks: 2 
def Berratalaw39_mark (n : Int) (W : World) (R : List Own) (Φ : PW) (J : Value → World → Prop) : Prop :=
  ∀ (b : Nat) (w0 : World) (R1 : List Own), Ctx W w0 (R ++ R1) Φ → J (Value.agg #[Value.int IntKind.i64 2, Value.int IntKind.i64 0, Value.int IntKind.i64 0, Value.int IntKind.i64 0, Value.int
  IntKind.i64 n, Value.slice none 0 0]) w0

theorem Berratalaw39_mark_run (n : Int) {W w : World} {R : List Own} {Φ : PW} [Stable Φ] {J : Value → World → Prop} (c : Ctx W w R Φ) (h : Berratalaw39_mark n W R Φ J) : Calls Try.prog F.erratalaw39_mark #[.int .i64 n] w fun e w' => ∃ v, e = .returned v ∧ J v w' :=
  vcFS_sound (H := { keep := some [0, 2], track := [2] }) (by rw [show vcFS Try.prog W { keep := some [0, 2], track := [2] } F.erratalaw39_mark #[.int .i64 n] R Φ J = Berratalaw39_mark n W R Φ J by kernel_rfl]; exact h) c

/-- (*erratalaw39.net).take -/
-- cut 16: ; blocks 
-- cut 18: ; blocks 
-- known blocks: 7 m
def Berratalaw39_net_take (xB xO : Nat) (edge : Int) (W : World) (R : List Own) (Φ : PW) (J : Value → World → Prop) : Prop :=
  ∀ (w0 : World) (R1 : List Own), Ctx W w0 (R ++ R1) Φ → ∃ (p2 : Option Addr), ∃ (k3 : Nat), ∃ (k4 : Nat), w0.cell? (Addr.mk xB xO none) = some (Value.slice p2 k3 k4) ∧ (0 ≤ edge ∧ edge <
  (↑k3 : Int)) ∧ ptrK none p2 fun (k5 k6 : Nat) => ∀ (w7 : World) (R8 : List Own), Ctx W w7 (R ++ R8) Φ → ∃ (n9 : Int), w7.cell? (Addr.mk k5 (k6 + edge.toNat * 2 + 1) none) = some (Value.int
  IntKind.i64 n9) ∧ ∀ (w10 : World) (R11 : List Own), Ctx W w10 (R ++ R11) Φ → ∃ (p12 : Option Addr), ∃ (k13 : Nat), ∃ (k14 : Nat), w10.cell? (Addr.mk xB (xO + 1) none) = some (Value.slice
  p12 k13 k14) ∧ (0 ≤ edge ∧ edge < (↑k13 : Int)) ∧ ptrK none p12 fun (k15 k16 : Nat) => ∀ (w17 : World) (R18 : List Own), Ctx W w17 (R ++ R18) Φ → ∃ (p19 : Option Addr), w17.cell? (Addr.mk
  k15 (k16 + edge.toNat) none) = some (Value.pointer p19) ∧ ∀ (w20 : World) (R21 : List Own), Ctx W w20 (R ++ R21) Φ → Calls Try.prog F.channel_Channel_Head #[Value.pointer p19] w20 fun (e22
  : Ending) (w23 : World) => ∃ (n24 : Int), ∃ (n25 : Int), ∃ (n26 : Int), ∃ (n27 : Int), ∃ (n28 : Int), ∃ (p29 : Option Addr), ∃ (k30 : Nat), ∃ (k31 : Nat), ∃ (c32 : Bool), e22 =
  Ending.returned (Value.tuple #[Value.agg #[Value.int IntKind.i64 n24, Value.int IntKind.i64 n25, Value.int IntKind.i64 n26, Value.int IntKind.i64 n27, Value.int IntKind.i64 n28, Value.slice
  p29 k30 k31], Value.bool c32]) ∧ ∃ (R33 : List Own), ∃ (Φ34 : PW), Stable Φ34 ∧ Ctx W w23 (R33 ++ R21) Φ34 ∧ ∀ (b : Nat) (w35 : World) (R36 : List Own), Ctx W w35 (R33 ++ R36) Φ34 → ∃ (p37
  : Option Addr), ∃ (k38 : Nat), ∃ (k39 : Nat), ((!!c32) = true → w35.cell? (Addr.mk xB (xO + 3) none) = some (Value.slice p37 k38 k39)) ∧ ((!!c32) = true → 0 ≤ n9 ∧ n9 < (↑k38 : Int)) ∧ ptrK
  (some !!c32) p37 fun (k40 k41 : Nat) => ∃ (p42 : Option Addr), ∃ (k43 : Nat), ∃ (k44 : Nat), ((!!c32) = true → w35.cell? (Addr.mk k40 (k41 + n9.toNat) none) = some (Value.slice p42 k43
  k44)) ∧ ∃ (n45 : Int), ((!!c32 && decide (0 < (↑k43 : Int))) = true → w35.cell? (Addr.mk xB (xO + 9) none) = some (Value.int IntKind.i64 n45)) ∧ Br (!c32 || decide (0 < (↑k43 : Int)) &&
  (decide (n45 ≠ 1) || decide (n24 ≠ 1))) (∀ (w46 : World) (R47 : List Own), Ctx W w46 (R33 ++ R47) Φ34 → J (Value.tuple #[Value.bool false, Value.bool true]) w46) (∃ (R48 : List Own), ∃ (Φ49
  : PW), Stable Φ49 ∧ (∀ (w50 : World) (R51 : List Own), Ctx W w50 (R33 ++ R51) Φ34 → Ctx W w50 (R48 ++ R51) Φ49) ∧ ∃ (p52 : Option Addr), ∃ (k53 : Nat), ∃ (k54 : Nat), (∀ (w55 : World) (R56
  : List Own), Ctx W w55 (R48 ++ R56) Φ49 → ∃ (p57 : Option Addr), ∃ (k58 : Nat), ∃ (k59 : Nat), w55.cell? (Addr.mk xB (xO + 2) none) = some (Value.slice p57 k58 k59) ∧ Value.slice p57 k58
  k59 = Value.slice p52 k53 k54) ∧ ∃ (n60 : Int), (∀ (w61 : World) (R62 : List Own), Ctx W w61 (R48 ++ R62) Φ49 → ∃ (n63 : Int), w61.cell? (Addr.mk xB (xO + 9) none) = some (Value.int
  IntKind.i64 n63) ∧ Value.int IntKind.i64 n63 = Value.int IntKind.i64 n60) ∧ (0 ≤ n9 ∧ n9 < (↑k53 : Int)) ∧ ptrK none p52 fun (k64 k65 : Nat) => ∃ (p66 : Option Addr), (∀ (w67 : World) (R68
  : List Own), Ctx W w67 (R48 ++ R68) Φ49 → ∃ (p69 : Option Addr), w67.cell? (Addr.mk k64 (k65 + n9.toNat) none) = some (Value.pointer p69) ∧ Value.pointer p69 = Value.pointer p66) ∧ ∀ (w70 :
  World) (R71 : List Own), Ctx W w70 (R33 ++ R71) Φ34 → Calls Try.prog F.erratalaw39_net_inbound #[Value.pointer (some (Addr.mk xB xO none)), Value.int IntKind.i64 edge] w70 fun (e72 :
  Ending) (w73 : World) => ∃ (n74 : Int), e72 = Ending.returned (Value.int IntKind.i64 n74) ∧ ∃ (R75 : List Own), ∃ (Φ76 : PW), Stable Φ76 ∧ Ctx W w73 (R75 ++ R71) Φ76 ∧ (∀ (w77 : World) (R78
  : List Own), Ctx W w77 (R75 ++ R78) Φ76 → Ctx W w77 (R48 ++ R78) Φ49) ∧ ∀ (w79 : World) (R80 : List Own), Ctx W w79 (R75 ++ R80) Φ76 → Calls Try.prog F.checkpoint_Gate_Arrive
  #[Value.pointer p66, Value.int IntKind.i64 n74, Value.agg #[Value.int IntKind.i64 n24, Value.int IntKind.i64 n25, Value.int IntKind.i64 n26, Value.int IntKind.i64 n27, Value.int IntKind.i64
  n28, Value.slice p29 k30 k31], Value.int IntKind.i64 n60] w79 fun (e81 : Ending) (w82 : World) => ∃ (n83 : Int), e81 = Ending.returned (Value.int IntKind.i64 n83) ∧ ∃ (R84 : List Own), ∃
  (Φ85 : PW), Stable Φ85 ∧ Ctx W w82 (R84 ++ R80) Φ85 ∧ Br (decide (n83 = 0)) (∀ (w86 : World) (R87 : List Own), Ctx W w86 (R84 ++ R87) Φ85 → J (Value.tuple #[Value.bool false, Value.bool
  true]) w86) (Br (decide (n83 = -1)) (∀ (w88 : World) (R89 : List Own), Ctx W w88 (R84 ++ R89) Φ85 → J (Value.tuple #[Value.bool false, Value.bool false]) w88) (∀ (w90 : World) (R91 : List
  Own), Ctx W w90 (R84 ++ R91) Φ85 → ∃ (p92 : Option Addr), ∃ (k93 : Nat), ∃ (k94 : Nat), w90.cell? (Addr.mk xB (xO + 1) none) = some (Value.slice p92 k93 k94) ∧ (0 ≤ edge ∧ edge < (↑k93 :
  Int)) ∧ ptrK none p92 fun (k95 k96 : Nat) => ∀ (w97 : World) (R98 : List Own), Ctx W w97 (R84 ++ R98) Φ85 → ∃ (p99 : Option Addr), w97.cell? (Addr.mk k95 (k96 + edge.toNat) none) = some
  (Value.pointer p99) ∧ ∀ (w100 : World) (R101 : List Own), Ctx W w100 (R84 ++ R101) Φ85 → Calls Try.prog F.channel_Channel_Take #[Value.pointer p99] w100 fun (e102 : Ending) (w103 : World)
  => ∃ (n104 : Int), ∃ (n105 : Int), ∃ (n106 : Int), ∃ (n107 : Int), ∃ (n108 : Int), ∃ (p109 : Option Addr), ∃ (k110 : Nat), ∃ (k111 : Nat), ∃ (n112 : Int), e102 = Ending.returned
  (Value.tuple #[Value.agg #[Value.int IntKind.i64 n104, Value.int IntKind.i64 n105, Value.int IntKind.i64 n106, Value.int IntKind.i64 n107, Value.int IntKind.i64 n108, Value.slice p109 k110
  k111], Value.int IntKind.i64 n112]) ∧ ∃ (R113 : List Own), ∃ (Φ114 : PW), Stable Φ114 ∧ Ctx W w103 (R113 ++ R101) Φ114 ∧ Br (decide (n83 = 1)) (Br (decide (n83 = 1)) (exI fun (I115 : List
  Own → PW → Prop) => (∀ (w116 : World) (R117 : List Own), Ctx W w116 (R113 ++ R117) Φ114 → ∃ (p118 : Option Addr), ∃ (k119 : Nat), ∃ (k120 : Nat), w116.cell? (Addr.mk xB (xO + 4) none) =
  some (Value.slice p118 k119 k120) ∧ (0 ≤ n9 ∧ n9 < (↑k119 : Int)) ∧ ptrK none p118 fun (k121 k122 : Nat) => ∀ (w123 : World) (R124 : List Own), Ctx W w123 (R113 ++ R124) Φ114 → ∃ (c125 :
  Bool), w123.cell? (Addr.mk k121 (k122 + n9.toNat) none) = some (Value.bool c125) ∧ Br (!c125) (∃ (R126 : List Own), ∃ (Φ127 : PW), Stable Φ127 ∧ (∀ (w128 : World) (R129 : List Own), Ctx W
  w128 (R113 ++ R129) Φ114 → Ctx W w128 (R126 ++ R129) Φ127) ∧ ∃ (p130 : Option Addr), ∃ (k131 : Nat), ∃ (k132 : Nat), (∀ (w133 : World) (R134 : List Own), Ctx W w133 (R126 ++ R134) Φ127 → ∃
  (p135 : Option Addr), ∃ (k136 : Nat), ∃ (k137 : Nat), w133.cell? (Addr.mk xB (xO + 7) none) = some (Value.slice p135 k136 k137) ∧ Value.slice p135 k136 k137 = Value.slice p130 k131 k132) ∧
  ∃ (p138 : Option Addr), ∃ (k139 : Nat), ∃ (k140 : Nat), (∀ (w141 : World) (R142 : List Own), Ctx W w141 (R126 ++ R142) Φ127 → ∃ (p143 : Option Addr), ∃ (k144 : Nat), ∃ (k145 : Nat),
  w141.cell? (Addr.mk xB (xO + 7) none) = some (Value.slice p143 k144 k145) ∧ Value.slice p143 k144 k145 = Value.slice p138 k139 k140) ∧ (0 ≤ edge ∧ edge < (↑k139 : Int)) ∧ ptrK none p138 fun
  (k146 k147 : Nat) => ∃ (p148 : Option Addr), ∃ (k149 : Nat), ∃ (k150 : Nat), (∀ (w151 : World) (R152 : List Own), Ctx W w151 (R126 ++ R152) Φ127 → ∃ (p153 : Option Addr), ∃ (k154 : Nat), ∃
  (k155 : Nat), w151.cell? (Addr.mk k146 (k147 + edge.toNat) none) = some (Value.slice p153 k154 k155) ∧ Value.slice p153 k154 k155 = Value.slice p148 k149 k150) ∧ ∀ (k156 : Nat), (∀ (w157 :
  World) (R158 : List Own), Ctx W w157 (Own.blk k156 [Value.int IntKind.i64 n28] 3 :: R113 ++ R158) Φ114 → Ctx W w157 (R126 ++ R158) Φ127) ∧ ∀ (w159 : World) (R160 : List Own), Ctx W w159
  (Own.blk k156 [Value.int IntKind.i64 n28] 3 :: R113 ++ R160) Φ114 → ∃ (p161 : Option Addr), ∃ (k162 : Nat), ∃ (k163 : Nat), ∃ (w164 : World), Sem.run Try.prog (builtin Builtin.append #[58,
  58] 58 #[false, false] #[Value.slice p148 k149 k150, Value.slice (some (Addr.mk k156 0 none)) 1 1]) w159 = Result.ok (Next.value (Value.slice p161 k162 k163)) w164 ∧ ∃ (R165 : List Own), ∃
  (Φ166 : PW), Stable Φ166 ∧ Ctx W w164 (R165 ++ R160) Φ166 ∧ (∀ (w167 : World) (R168 : List Own), Ctx W w167 (R165 ++ R168) Φ166 → Ctx W w167 (R126 ++ R168) Φ127) ∧ (0 ≤ edge ∧ edge < (↑k131
  : Int)) ∧ ptrK none p130 fun (k169 k170 : Nat) => ∀ (w171 : World) (R172 : List Own), Ctx W w171 (R165 ++ R172) Φ166 → CanWrite w171 k169 (k170 + edge.toNat) 1 ∧ ∀ (w173 : World), w173 =
  w171.setCell (Addr.mk k169 (k170 + edge.toNat) none) (Value.slice p161 k162 k163) → ∃ (R174 : List Own), ∃ (Φ175 : PW), Stable Φ175 ∧ Ctx W w173 (R174 ++ R172) Φ175 ∧ ∃ (R176 : List Own), ∃
  (Φ177 : PW), Stable Φ177 ∧ (∀ (w178 : World) (R179 : List Own), Ctx W w178 (R174 ++ R179) Φ175 → Ctx W w178 (R176 ++ R179) Φ177) ∧ I115 R176 Φ177) (∃ (R180 : List Own), ∃ (Φ181 : PW),
  Stable Φ181 ∧ (∀ (w182 : World) (R183 : List Own), Ctx W w182 (R113 ++ R183) Φ114 → Ctx W w182 (R180 ++ R183) Φ181) ∧ I115 R180 Φ181)) ∧ ∀ (R184 : List Own) (I185 : List Nat → World →
  Prop), Stable I185 → I115 R184 I185 → exI fun (I186 : List Own → PW → Prop) => Br (decide (n83 = 2)) (∃ (R187 : List Own), ∃ (Φ188 : PW), Stable Φ188 ∧ (∀ (w189 : World) (R190 : List Own),
  Ctx W w189 (R184 ++ R190) I185 → Ctx W w189 (R187 ++ R190) Φ188) ∧ ∃ (p191 : Option Addr), ∃ (k192 : Nat), ∃ (k193 : Nat), (∀ (w194 : World) (R195 : List Own), Ctx W w194 (R187 ++ R195)
  Φ188 → ∃ (p196 : Option Addr), ∃ (k197 : Nat), ∃ (k198 : Nat), w194.cell? (Addr.mk xB (xO + 8) none) = some (Value.slice p196 k197 k198) ∧ Value.slice p196 k197 k198 = Value.slice p191 k192
  k193) ∧ ∃ (p199 : Option Addr), ∃ (k200 : Nat), ∃ (k201 : Nat), (∀ (w202 : World) (R203 : List Own), Ctx W w202 (R187 ++ R203) Φ188 → ∃ (p204 : Option Addr), ∃ (k205 : Nat), ∃ (k206 : Nat),
  w202.cell? (Addr.mk xB (xO + 8) none) = some (Value.slice p204 k205 k206) ∧ Value.slice p204 k205 k206 = Value.slice p199 k200 k201) ∧ (0 ≤ edge ∧ edge < (↑k200 : Int)) ∧ ptrK none p199 fun
  (k207 k208 : Nat) => ∃ (p209 : Option Addr), ∃ (k210 : Nat), ∃ (k211 : Nat), (∀ (w212 : World) (R213 : List Own), Ctx W w212 (R187 ++ R213) Φ188 → ∃ (p214 : Option Addr), ∃ (k215 : Nat), ∃
  (k216 : Nat), w212.cell? (Addr.mk k207 (k208 + edge.toNat) none) = some (Value.slice p214 k215 k216) ∧ Value.slice p214 k215 k216 = Value.slice p209 k210 k211) ∧ ∀ (k217 : Nat), (∀ (w218 :
  World) (R219 : List Own), Ctx W w218 (Own.blk k217 [Value.int IntKind.i64 n28] 3 :: R184 ++ R219) I185 → Ctx W w218 (R187 ++ R219) Φ188) ∧ ∀ (w220 : World) (R221 : List Own), Ctx W w220
  (Own.blk k217 [Value.int IntKind.i64 n28] 3 :: R184 ++ R221) I185 → ∃ (p222 : Option Addr), ∃ (k223 : Nat), ∃ (k224 : Nat), ∃ (w225 : World), Sem.run Try.prog (builtin Builtin.append #[58,
  58] 58 #[false, false] #[Value.slice p209 k210 k211, Value.slice (some (Addr.mk k217 0 none)) 1 1]) w220 = Result.ok (Next.value (Value.slice p222 k223 k224)) w225 ∧ ∃ (R226 : List Own), ∃
  (Φ227 : PW), Stable Φ227 ∧ Ctx W w225 (R226 ++ R221) Φ227 ∧ (∀ (w228 : World) (R229 : List Own), Ctx W w228 (R226 ++ R229) Φ227 → Ctx W w228 (R187 ++ R229) Φ188) ∧ (0 ≤ edge ∧ edge < (↑k192
  : Int)) ∧ ptrK none p191 fun (k230 k231 : Nat) => ∀ (w232 : World) (R233 : List Own), Ctx W w232 (R226 ++ R233) Φ227 → CanWrite w232 k230 (k231 + edge.toNat) 1 ∧ ∀ (w234 : World), w234 =
  w232.setCell (Addr.mk k230 (k231 + edge.toNat) none) (Value.slice p222 k223 k224) → ∃ (R235 : List Own), ∃ (Φ236 : PW), Stable Φ236 ∧ Ctx W w234 (R235 ++ R233) Φ236 ∧ ∃ (R237 : List Own), ∃
  (Φ238 : PW), Stable Φ238 ∧ (∀ (w239 : World) (R240 : List Own), Ctx W w239 (R235 ++ R240) Φ236 → Ctx W w239 (R237 ++ R240) Φ238) ∧ I186 R237 Φ238) (∃ (R241 : List Own), ∃ (Φ242 : PW),
  Stable Φ242 ∧ (∀ (w243 : World) (R244 : List Own), Ctx W w243 (R184 ++ R244) I185 → Ctx W w243 (R241 ++ R244) Φ242) ∧ I186 R241 Φ242) ∧ ∀ (R245 : List Own) (I246 : List Nat → World → Prop),
  Stable I246 → I186 R245 I246 → Br (decide (0 < n28)) (I64 (n28 - 1) ∧ ∀ (w247 : World) (R248 : List Own), Ctx W w247 (R245 ++ R248) I246 → Calls Try.prog F.erratalaw39_mark #[Value.int
  IntKind.i64 (n28 - 1)] w247 fun (e249 : Ending) (w250 : World) => ∃ (n251 : Int), ∃ (n252 : Int), ∃ (n253 : Int), ∃ (n254 : Int), ∃ (n255 : Int), ∃ (p256 : Option Addr), ∃ (k257 : Nat), ∃
  (k258 : Nat), e249 = Ending.returned (Value.agg #[Value.int IntKind.i64 n251, Value.int IntKind.i64 n252, Value.int IntKind.i64 n253, Value.int IntKind.i64 n254, Value.int IntKind.i64 n255,
  Value.slice p256 k257 k258]) ∧ ∃ (R259 : List Own), ∃ (Φ260 : PW), Stable Φ260 ∧ Ctx W w250 (R259 ++ R248) Φ260 ∧ ∀ (w261 : World) (R262 : List Own), Ctx W w261 (R259 ++ R262) Φ260 → Calls
  Try.prog F.erratalaw39_net_produce #[Value.pointer (some (Addr.mk xB xO none)), Value.int IntKind.i64 n9, Value.agg #[Value.int IntKind.i64 n251, Value.int IntKind.i64 n252, Value.int
  IntKind.i64 n253, Value.int IntKind.i64 n254, Value.int IntKind.i64 n255, Value.slice p256 k257 k258]] w261 fun (e263 : Ending) (w264 : World) => e263 = Ending.returned (Value.tuple #[]) ∧
  ∃ (R265 : List Own), ∃ (Φ266 : PW), Stable Φ266 ∧ Ctx W w264 (R265 ++ R262) Φ266 ∧ ∀ (w267 : World) (R268 : List Own), Ctx W w267 (R265 ++ R268) Φ266 → J (Value.tuple #[Value.bool true,
  Value.bool true]) w267) (∀ (w269 : World) (R270 : List Own), Ctx W w269 (R245 ++ R270) I246 → J (Value.tuple #[Value.bool true, Value.bool true]) w269)) (Br (decide (n83 = 4)) (∀ (w271 :
  World) (R272 : List Own), Ctx W w271 (R113 ++ R272) Φ114 → Calls Try.prog F.erratalaw39_net_report #[Value.pointer (some (Addr.mk xB xO none)), Value.int IntKind.i64 n9] w271 fun (e273 :
  Ending) (w274 : World) => e273 = Ending.returned (Value.tuple #[]) ∧ ∃ (R275 : List Own), ∃ (Φ276 : PW), Stable Φ276 ∧ Ctx W w274 (R275 ++ R272) Φ276 ∧ ∀ (w277 : World) (R278 : List Own),
  Ctx W w277 (R275 ++ R278) Φ276 → J (Value.tuple #[Value.bool true, Value.bool true]) w277) (∀ (w279 : World) (R280 : List Own), Ctx W w279 (R113 ++ R280) Φ114 → J (Value.tuple #[Value.bool
  true, Value.bool true]) w279))) (Br (decide (n83 = 2)) (exI fun (I281 : List Own → PW → Prop) => (∀ (w282 : World) (R283 : List Own), Ctx W w282 (R113 ++ R283) Φ114 → ∃ (p284 : Option
  Addr), ∃ (k285 : Nat), ∃ (k286 : Nat), w282.cell? (Addr.mk xB (xO + 4) none) = some (Value.slice p284 k285 k286) ∧ (0 ≤ n9 ∧ n9 < (↑k285 : Int)) ∧ ptrK none p284 fun (k287 k288 : Nat) => ∀
  (w289 : World) (R290 : List Own), Ctx W w289 (R113 ++ R290) Φ114 → ∃ (c291 : Bool), w289.cell? (Addr.mk k287 (k288 + n9.toNat) none) = some (Value.bool c291) ∧ Br (!c291) (∃ (R292 : List
  Own), ∃ (Φ293 : PW), Stable Φ293 ∧ (∀ (w294 : World) (R295 : List Own), Ctx W w294 (R113 ++ R295) Φ114 → Ctx W w294 (R292 ++ R295) Φ293) ∧ ∃ (p296 : Option Addr), ∃ (k297 : Nat), ∃ (k298 :
  Nat), (∀ (w299 : World) (R300 : List Own), Ctx W w299 (R292 ++ R300) Φ293 → ∃ (p301 : Option Addr), ∃ (k302 : Nat), ∃ (k303 : Nat), w299.cell? (Addr.mk xB (xO + 7) none) = some (Value.slice
  p301 k302 k303) ∧ Value.slice p301 k302 k303 = Value.slice p296 k297 k298) ∧ ∃ (p304 : Option Addr), ∃ (k305 : Nat), ∃ (k306 : Nat), (∀ (w307 : World) (R308 : List Own), Ctx W w307 (R292 ++
  R308) Φ293 → ∃ (p309 : Option Addr), ∃ (k310 : Nat), ∃ (k311 : Nat), w307.cell? (Addr.mk xB (xO + 7) none) = some (Value.slice p309 k310 k311) ∧ Value.slice p309 k310 k311 = Value.slice
  p304 k305 k306) ∧ (0 ≤ edge ∧ edge < (↑k305 : Int)) ∧ ptrK none p304 fun (k312 k313 : Nat) => ∃ (p314 : Option Addr), ∃ (k315 : Nat), ∃ (k316 : Nat), (∀ (w317 : World) (R318 : List Own),
  Ctx W w317 (R292 ++ R318) Φ293 → ∃ (p319 : Option Addr), ∃ (k320 : Nat), ∃ (k321 : Nat), w317.cell? (Addr.mk k312 (k313 + edge.toNat) none) = some (Value.slice p319 k320 k321) ∧ Value.slice
  p319 k320 k321 = Value.slice p314 k315 k316) ∧ ∀ (k322 : Nat), (∀ (w323 : World) (R324 : List Own), Ctx W w323 (Own.blk k322 [Value.int IntKind.i64 n28] 3 :: R113 ++ R324) Φ114 → Ctx W w323
  (R292 ++ R324) Φ293) ∧ ∀ (w325 : World) (R326 : List Own), Ctx W w325 (Own.blk k322 [Value.int IntKind.i64 n28] 3 :: R113 ++ R326) Φ114 → ∃ (p327 : Option Addr), ∃ (k328 : Nat), ∃ (k329 :
  Nat), ∃ (w330 : World), Sem.run Try.prog (builtin Builtin.append #[58, 58] 58 #[false, false] #[Value.slice p314 k315 k316, Value.slice (some (Addr.mk k322 0 none)) 1 1]) w325 = Result.ok
  (Next.value (Value.slice p327 k328 k329)) w330 ∧ ∃ (R331 : List Own), ∃ (Φ332 : PW), Stable Φ332 ∧ Ctx W w330 (R331 ++ R326) Φ332 ∧ (∀ (w333 : World) (R334 : List Own), Ctx W w333 (R331 ++
  R334) Φ332 → Ctx W w333 (R292 ++ R334) Φ293) ∧ (0 ≤ edge ∧ edge < (↑k297 : Int)) ∧ ptrK none p296 fun (k335 k336 : Nat) => ∀ (w337 : World) (R338 : List Own), Ctx W w337 (R331 ++ R338) Φ332
  → CanWrite w337 k335 (k336 + edge.toNat) 1 ∧ ∀ (w339 : World), w339 = w337.setCell (Addr.mk k335 (k336 + edge.toNat) none) (Value.slice p327 k328 k329) → ∃ (R340 : List Own), ∃ (Φ341 : PW),
  Stable Φ341 ∧ Ctx W w339 (R340 ++ R338) Φ341 ∧ ∃ (R342 : List Own), ∃ (Φ343 : PW), Stable Φ343 ∧ (∀ (w344 : World) (R345 : List Own), Ctx W w344 (R340 ++ R345) Φ341 → Ctx W w344 (R342 ++
  R345) Φ343) ∧ I281 R342 Φ343) (∃ (R346 : List Own), ∃ (Φ347 : PW), Stable Φ347 ∧ (∀ (w348 : World) (R349 : List Own), Ctx W w348 (R113 ++ R349) Φ114 → Ctx W w348 (R346 ++ R349) Φ347) ∧ I281
  R346 Φ347)) ∧ ∀ (R350 : List Own) (I351 : List Nat → World → Prop), Stable I351 → I281 R350 I351 → exI fun (I352 : List Own → PW → Prop) => Br (decide (n83 = 2)) (∃ (R353 : List Own), ∃
  (Φ354 : PW), Stable Φ354 ∧ (∀ (w355 : World) (R356 : List Own), Ctx W w355 (R350 ++ R356) I351 → Ctx W w355 (R353 ++ R356) Φ354) ∧ ∃ (p357 : Option Addr), ∃ (k358 : Nat), ∃ (k359 : Nat), (∀
  (w360 : World) (R361 : List Own), Ctx W w360 (R353 ++ R361) Φ354 → ∃ (p362 : Option Addr), ∃ (k363 : Nat), ∃ (k364 : Nat), w360.cell? (Addr.mk xB (xO + 8) none) = some (Value.slice p362
  k363 k364) ∧ Value.slice p362 k363 k364 = Value.slice p357 k358 k359) ∧ ∃ (p365 : Option Addr), ∃ (k366 : Nat), ∃ (k367 : Nat), (∀ (w368 : World) (R369 : List Own), Ctx W w368 (R353 ++
  R369) Φ354 → ∃ (p370 : Option Addr), ∃ (k371 : Nat), ∃ (k372 : Nat), w368.cell? (Addr.mk xB (xO + 8) none) = some (Value.slice p370 k371 k372) ∧ Value.slice p370 k371 k372 = Value.slice
  p365 k366 k367) ∧ (0 ≤ edge ∧ edge < (↑k366 : Int)) ∧ ptrK none p365 fun (k373 k374 : Nat) => ∃ (p375 : Option Addr), ∃ (k376 : Nat), ∃ (k377 : Nat), (∀ (w378 : World) (R379 : List Own),
  Ctx W w378 (R353 ++ R379) Φ354 → ∃ (p380 : Option Addr), ∃ (k381 : Nat), ∃ (k382 : Nat), w378.cell? (Addr.mk k373 (k374 + edge.toNat) none) = some (Value.slice p380 k381 k382) ∧ Value.slice
  p380 k381 k382 = Value.slice p375 k376 k377) ∧ ∀ (k383 : Nat), (∀ (w384 : World) (R385 : List Own), Ctx W w384 (Own.blk k383 [Value.int IntKind.i64 n28] 3 :: R350 ++ R385) I351 → Ctx W w384
  (R353 ++ R385) Φ354) ∧ ∀ (w386 : World) (R387 : List Own), Ctx W w386 (Own.blk k383 [Value.int IntKind.i64 n28] 3 :: R350 ++ R387) I351 → ∃ (p388 : Option Addr), ∃ (k389 : Nat), ∃ (k390 :
  Nat), ∃ (w391 : World), Sem.run Try.prog (builtin Builtin.append #[58, 58] 58 #[false, false] #[Value.slice p375 k376 k377, Value.slice (some (Addr.mk k383 0 none)) 1 1]) w386 = Result.ok
  (Next.value (Value.slice p388 k389 k390)) w391 ∧ ∃ (R392 : List Own), ∃ (Φ393 : PW), Stable Φ393 ∧ Ctx W w391 (R392 ++ R387) Φ393 ∧ (∀ (w394 : World) (R395 : List Own), Ctx W w394 (R392 ++
  R395) Φ393 → Ctx W w394 (R353 ++ R395) Φ354) ∧ (0 ≤ edge ∧ edge < (↑k358 : Int)) ∧ ptrK none p357 fun (k396 k397 : Nat) => ∀ (w398 : World) (R399 : List Own), Ctx W w398 (R392 ++ R399) Φ393
  → CanWrite w398 k396 (k397 + edge.toNat) 1 ∧ ∀ (w400 : World), w400 = w398.setCell (Addr.mk k396 (k397 + edge.toNat) none) (Value.slice p388 k389 k390) → ∃ (R401 : List Own), ∃ (Φ402 : PW),
  Stable Φ402 ∧ Ctx W w400 (R401 ++ R399) Φ402 ∧ ∃ (R403 : List Own), ∃ (Φ404 : PW), Stable Φ404 ∧ (∀ (w405 : World) (R406 : List Own), Ctx W w405 (R401 ++ R406) Φ402 → Ctx W w405 (R403 ++
  R406) Φ404) ∧ I352 R403 Φ404) (∃ (R407 : List Own), ∃ (Φ408 : PW), Stable Φ408 ∧ (∀ (w409 : World) (R410 : List Own), Ctx W w409 (R350 ++ R410) I351 → Ctx W w409 (R407 ++ R410) Φ408) ∧ I352
  R407 Φ408) ∧ ∀ (R411 : List Own) (I412 : List Nat → World → Prop), Stable I412 → I352 R411 I412 → Br (decide (0 < n28)) (I64 (n28 - 1) ∧ ∀ (w413 : World) (R414 : List Own), Ctx W w413 (R411
  ++ R414) I412 → Calls Try.prog F.erratalaw39_mark #[Value.int IntKind.i64 (n28 - 1)] w413 fun (e415 : Ending) (w416 : World) => ∃ (n417 : Int), ∃ (n418 : Int), ∃ (n419 : Int), ∃ (n420 :
  Int), ∃ (n421 : Int), ∃ (p422 : Option Addr), ∃ (k423 : Nat), ∃ (k424 : Nat), e415 = Ending.returned (Value.agg #[Value.int IntKind.i64 n417, Value.int IntKind.i64 n418, Value.int
  IntKind.i64 n419, Value.int IntKind.i64 n420, Value.int IntKind.i64 n421, Value.slice p422 k423 k424]) ∧ ∃ (R425 : List Own), ∃ (Φ426 : PW), Stable Φ426 ∧ Ctx W w416 (R425 ++ R414) Φ426 ∧ ∀
  (w427 : World) (R428 : List Own), Ctx W w427 (R425 ++ R428) Φ426 → Calls Try.prog F.erratalaw39_net_produce #[Value.pointer (some (Addr.mk xB xO none)), Value.int IntKind.i64 n9, Value.agg
  #[Value.int IntKind.i64 n417, Value.int IntKind.i64 n418, Value.int IntKind.i64 n419, Value.int IntKind.i64 n420, Value.int IntKind.i64 n421, Value.slice p422 k423 k424]] w427 fun (e429 :
  Ending) (w430 : World) => e429 = Ending.returned (Value.tuple #[]) ∧ ∃ (R431 : List Own), ∃ (Φ432 : PW), Stable Φ432 ∧ Ctx W w430 (R431 ++ R428) Φ432 ∧ ∀ (w433 : World) (R434 : List Own),
  Ctx W w433 (R431 ++ R434) Φ432 → J (Value.tuple #[Value.bool true, Value.bool true]) w433) (∀ (w435 : World) (R436 : List Own), Ctx W w435 (R411 ++ R436) I412 → J (Value.tuple #[Value.bool
  true, Value.bool true]) w435)) (Br (decide (n83 = 4)) (∀ (w437 : World) (R438 : List Own), Ctx W w437 (R113 ++ R438) Φ114 → Calls Try.prog F.erratalaw39_net_report #[Value.pointer (some
  (Addr.mk xB xO none)), Value.int IntKind.i64 n9] w437 fun (e439 : Ending) (w440 : World) => e439 = Ending.returned (Value.tuple #[]) ∧ ∃ (R441 : List Own), ∃ (Φ442 : PW), Stable Φ442 ∧ Ctx
  W w440 (R441 ++ R438) Φ442 ∧ ∀ (w443 : World) (R444 : List Own), Ctx W w443 (R441 ++ R444) Φ442 → J (Value.tuple #[Value.bool true, Value.bool true]) w443) (∀ (w445 : World) (R446 : List
  Own), Ctx W w445 (R113 ++ R446) Φ114 → J (Value.tuple #[Value.bool true, Value.bool true]) w445))))))

theorem Berratalaw39_net_take_run (xB xO : Nat) (edge : Int) {W w : World} {R : List Own} {Φ : PW} [Stable Φ] {J : Value → World → Prop} (c : Ctx W w R Φ) (h : Berratalaw39_net_take xB xO edge W R Φ J) : Calls Try.prog F.erratalaw39_net_take #[.pointer (some ⟨xB, xO, none⟩), .int .i64 edge] w fun e w' => ∃ v, e = .returned v ∧ J v w' :=
  vcFS_sound (H := { keep := some [0, 1, 4, 5, 6, 7, 8, 9, 53, 71, 73, 82, 83, 93, 112, 132, 140], track := [7], stages := [(5, [.held [(0, true), (4, true), (7, true), (8, true), (10, true), (11, true), (1, true), (12, true), (2, true), (13, true), (3, true), (14, true), (5, true), (6, true), (9, false)], .stage [] (some 15), .stage [16] none]), (15, [.held [(0, true), (4, true), (5, true), (9, true), (12, true), (1, true), (6, true), (13, true), (2, true), (7, true), (3, true), (8, true), (10, true), (11, true), (14, false), (15, false)], .stage [16] (some 17)]), (17, [.held [(0, true), (4, true), (5, true), (9, true), (12, true), (1, true), (6, true), (13, true), (2, true), (7, true), (3, true), (8, true), (10, true), (11, true), (14, false), (15, false)], .stage [16] (some 17)])], cuts := [(16, [], []), (18, [], [])] }) (by rw [show vcFS Try.prog W { keep := some [0, 1, 4, 5, 6, 7, 8, 9, 53, 71, 73, 82, 83, 93, 112, 132, 140], track := [7], stages := [(5, [.held [(0, true), (4, true), (7, true), (8, true), (10, true), (11, true), (1, true), (12, true), (2, true), (13, true), (3, true), (14, true), (5, true), (6, true), (9, false)], .stage [] (some 15), .stage [16] none]), (15, [.held [(0, true), (4, true), (5, true), (9, true), (12, true), (1, true), (6, true), (13, true), (2, true), (7, true), (3, true), (8, true), (10, true), (11, true), (14, false), (15, false)], .stage [16] (some 17)]), (17, [.held [(0, true), (4, true), (5, true), (9, true), (12, true), (1, true), (6, true), (13, true), (2, true), (7, true), (3, true), (8, true), (10, true), (11, true), (14, false), (15, false)], .stage [16] (some 17)])], cuts := [(16, [], []), (18, [], [])] } F.erratalaw39_net_take #[.pointer (some ⟨xB, xO, none⟩), .int .i64 edge] R Φ J = Berratalaw39_net_take xB xO edge W R Φ J by kernel_rfl]; exact h) c

/-- (*erratalaw39.net).start -/
-- loop at region 18: 11 i; blocks 
-- loop at region 13: 10 i; blocks 
-- loop at region 8: 8 i; blocks 
-- loop at region 4: 6 k; blocks 
def Berratalaw39_net_start (xB xO : Nat) (number : Int) (kind : Int) (W : World) (R : List Own) (Φ : PW) (J : Value → World → Prop) : Prop :=
  ∀ (w0 : World) (R1 : List Own), Ctx W w0 (R ++ R1) Φ → CanWrite w0 xB (xO + 10) 1 ∧ ∀ (w2 : World), w2 = w0.setCell (Addr.mk xB (xO + 10) none) (Value.int IntKind.i64 number) → ∃ (R3 : List
  Own), ∃ (Φ4 : PW), Stable Φ4 ∧ Ctx W w2 (R3 ++ R1) Φ4 ∧ ∀ (w5 : World) (R6 : List Own), Ctx W w5 (R3 ++ R6) Φ4 → CanWrite w5 xB (xO + 9) 1 ∧ ∀ (w7 : World), w7 = w5.setCell (Addr.mk xB (xO
  + 9) none) (Value.int IntKind.i64 kind) → ∃ (R8 : List Own), ∃ (Φ9 : PW), Stable Φ9 ∧ Ctx W w7 (R8 ++ R6) Φ9 ∧ ∀ (w10 : World) (R11 : List Own), Ctx W w10 (R8 ++ R11) Φ9 → Calls Try.prog
  F.erratalaw39_net_clear #[Value.pointer (some (Addr.mk xB xO none))] w10 fun (e12 : Ending) (w13 : World) => e12 = Ending.returned (Value.tuple #[]) ∧ ∃ (R14 : List Own), ∃ (Φ15 : PW),
  Stable Φ15 ∧ Ctx W w13 (R14 ++ R11) Φ15 ∧ exI fun (I16 : Int → List Own → PW → Nat → Prop) => (∃ (R17 : List Own), ∃ (Φ18 : PW), ∃ (k19 : Nat), Stable Φ18 ∧ (∀ (w20 : World) (R21 : List
  Own), Ctx W w20 (R14 ++ R21) Φ15 → Ctx W w20 (R17 ++ R21) Φ18) ∧ I16 0 R17 Φ18 k19) ∧ ∀ (n22 : Int) (R23 : List Own) (I24 : List Nat → World → Prop) (k25 : Nat), Stable I24 → I16 n22 R23
  I24 k25 → ∀ (w26 : World) (R27 : List Own), Ctx W w26 (R23 ++ R27) I24 → ∃ (p28 : Option Addr), ∃ (k29 : Nat), ∃ (k30 : Nat), w26.cell? (Addr.mk xB xO none) = some (Value.slice p28 k29 k30)
  ∧ Br (decide (n22 < (↑k29 : Int))) (∀ (w31 : World) (R32 : List Own), Ctx W w31 (R23 ++ R32) I24 → ∃ (p33 : Option Addr), ∃ (k34 : Nat), ∃ (k35 : Nat), w31.cell? (Addr.mk xB (xO + 1) none)
  = some (Value.slice p33 k34 k35) ∧ (0 ≤ n22 ∧ n22 < (↑k34 : Int)) ∧ ptrK none p33 fun (k36 k37 : Nat) => ∀ (w38 : World) (R39 : List Own), Ctx W w38 (R23 ++ R39) I24 → ∃ (p40 : Option
  Addr), w38.cell? (Addr.mk k36 (k37 + n22.toNat) none) = some (Value.pointer p40) ∧ ∀ (w41 : World) (R42 : List Own), Ctx W w41 (R23 ++ R42) I24 → Calls Try.prog F.channel_Channel_List
  #[Value.pointer p40] w41 fun (e43 : Ending) (w44 : World) => ∃ (p45 : Option Addr), ∃ (k46 : Nat), ∃ (k47 : Nat), e43 = Ending.returned (Value.slice p45 k46 k47) ∧ ∃ (R48 : List Own), ∃
  (Φ49 : PW), Stable Φ49 ∧ Ctx W w44 (R48 ++ R42) Φ49 ∧ exI fun (I50 : Int → List Own → PW → Nat → Prop) => (∃ (R51 : List Own), ∃ (Φ52 : PW), ∃ (k53 : Nat), Stable Φ52 ∧ (∀ (w54 : World)
  (R55 : List Own), Ctx W w54 (R48 ++ R55) Φ49 → Ctx W w54 (R51 ++ R55) Φ52) ∧ I50 0 R51 Φ52 k53) ∧ ∀ (n56 : Int) (R57 : List Own) (I58 : List Nat → World → Prop) (k59 : Nat), Stable I58 →
  I50 n56 R57 I58 k59 → Br (decide (n56 < (↑k46 : Int))) (∃ (R60 : List Own), ∃ (Φ61 : PW), Stable Φ61 ∧ (∀ (w62 : World) (R63 : List Own), Ctx W w62 (R57 ++ R63) I58 → Ctx W w62 (R60 ++ R63)
  Φ61) ∧ (0 ≤ n56 ∧ n56 < (↑k46 : Int)) ∧ ptrK none p45 fun (k64 k65 : Nat) => ∃ (p66 : Option Addr), ∃ (k67 : Nat), ∃ (k68 : Nat), (∀ (w69 : World) (R70 : List Own), Ctx W w69 (R60 ++ R70)
  Φ61 → ∃ (p71 : Option Addr), ∃ (k72 : Nat), ∃ (k73 : Nat), w69.cell? (Addr.mk xB (xO + 5) none) = some (Value.slice p71 k72 k73) ∧ Value.slice p71 k72 k73 = Value.slice p66 k67 k68) ∧ ∃
  (p74 : Option Addr), ∃ (k75 : Nat), ∃ (k76 : Nat), (∀ (w77 : World) (R78 : List Own), Ctx W w77 (R60 ++ R78) Φ61 → ∃ (p79 : Option Addr), ∃ (k80 : Nat), ∃ (k81 : Nat), w77.cell? (Addr.mk xB
  (xO + 5) none) = some (Value.slice p79 k80 k81) ∧ Value.slice p79 k80 k81 = Value.slice p74 k75 k76) ∧ ∃ (n82 : Int), (∀ (w83 : World) (R84 : List Own), Ctx W w83 (R60 ++ R84) Φ61 → ∃ (n85
  : Int), w83.cell? (Addr.mk k64 (k65 + n56.toNat * 6 + 4) none) = some (Value.int IntKind.i64 n85) ∧ Value.int IntKind.i64 n85 = Value.int IntKind.i64 n82) ∧ (0 ≤ n22 ∧ n22 < (↑k75 : Int)) ∧
  ptrK none p74 fun (k86 k87 : Nat) => ∃ (p88 : Option Addr), ∃ (k89 : Nat), ∃ (k90 : Nat), (∀ (w91 : World) (R92 : List Own), Ctx W w91 (R60 ++ R92) Φ61 → ∃ (p93 : Option Addr), ∃ (k94 :
  Nat), ∃ (k95 : Nat), w91.cell? (Addr.mk k86 (k87 + n22.toNat) none) = some (Value.slice p93 k94 k95) ∧ Value.slice p93 k94 k95 = Value.slice p88 k89 k90) ∧ ∀ (k96 : Nat), (∀ (w97 : World)
  (R98 : List Own), Ctx W w97 (Own.blk k96 [Value.int IntKind.i64 n82] 3 :: R57 ++ R98) I58 → Ctx W w97 (R60 ++ R98) Φ61) ∧ ∀ (w99 : World) (R100 : List Own), Ctx W w99 (Own.blk k96
  [Value.int IntKind.i64 n82] 3 :: R57 ++ R100) I58 → ∃ (p101 : Option Addr), ∃ (k102 : Nat), ∃ (k103 : Nat), ∃ (w104 : World), Sem.run Try.prog (builtin Builtin.append #[58, 58] 58 #[false,
  false] #[Value.slice p88 k89 k90, Value.slice (some (Addr.mk k96 0 none)) 1 1]) w99 = Result.ok (Next.value (Value.slice p101 k102 k103)) w104 ∧ ∃ (R105 : List Own), ∃ (Φ106 : PW), Stable
  Φ106 ∧ Ctx W w104 (R105 ++ R100) Φ106 ∧ (∀ (w107 : World) (R108 : List Own), Ctx W w107 (R105 ++ R108) Φ106 → Ctx W w107 (R60 ++ R108) Φ61) ∧ (0 ≤ n22 ∧ n22 < (↑k67 : Int)) ∧ ptrK none p66
  fun (k109 k110 : Nat) => ∀ (w111 : World) (R112 : List Own), Ctx W w111 (R105 ++ R112) Φ106 → CanWrite w111 k109 (k110 + n22.toNat) 1 ∧ ∀ (w113 : World), w113 = w111.setCell (Addr.mk k109
  (k110 + n22.toNat) none) (Value.slice p101 k102 k103) → ∃ (R114 : List Own), ∃ (Φ115 : PW), Stable Φ115 ∧ Ctx W w113 (R114 ++ R112) Φ115 ∧ I64 (n56 + 1) ∧ ∃ (R116 : List Own), ∃ (Φ117 :
  PW), ∃ (k118 : Nat), Stable Φ117 ∧ (∀ (w119 : World) (R120 : List Own), Ctx W w119 (R114 ++ R120) Φ115 → Ctx W w119 (R116 ++ R120) Φ117) ∧ I50 (n56 + 1) R116 Φ117 k118 ∧ k118 < k59) (∀
  (w121 : World) (R122 : List Own), Ctx W w121 (R57 ++ R122) I58 → ∃ (p123 : Option Addr), ∃ (k124 : Nat), ∃ (k125 : Nat), w121.cell? (Addr.mk xB (xO + 3) none) = some (Value.slice p123 k124
  k125) ∧ ∃ (p126 : Option Addr), ∃ (k127 : Nat), ∃ (k128 : Nat), w121.cell? (Addr.mk xB xO none) = some (Value.slice p126 k127 k128) ∧ (0 ≤ n22 ∧ n22 < (↑k127 : Int)) ∧ ptrK none p126 fun
  (k129 k130 : Nat) => ∃ (n131 : Int), w121.cell? (Addr.mk k129 (k130 + n22.toNat * 2) none) = some (Value.int IntKind.i64 n131) ∧ (0 ≤ n131 ∧ n131 < (↑k124 : Int)) ∧ ptrK none p123 fun (k132
  k133 : Nat) => ∃ (p134 : Option Addr), ∃ (k135 : Nat), ∃ (k136 : Nat), w121.cell? (Addr.mk k132 (k133 + n131.toNat) none) = some (Value.slice p134 k135 k136) ∧ exI fun (I137 : Int → List
  Own → PW → Nat → Prop) => (∃ (R138 : List Own), ∃ (Φ139 : PW), ∃ (k140 : Nat), Stable Φ139 ∧ (∀ (w141 : World) (R142 : List Own), Ctx W w141 (R57 ++ R142) I58 → Ctx W w141 (R138 ++ R142)
  Φ139) ∧ I137 0 R138 Φ139 k140) ∧ ∀ (n143 : Int) (R144 : List Own) (I145 : List Nat → World → Prop) (k146 : Nat), Stable I145 → I137 n143 R144 I145 k146 → Br (decide (n143 < (↑k135 : Int)))
  ((0 ≤ n143 ∧ n143 < (↑k135 : Int)) ∧ ptrK none p134 fun (k147 k148 : Nat) => ∀ (w149 : World) (R150 : List Own), Ctx W w149 (R144 ++ R150) I145 → ∃ (n151 : Int), w149.cell? (Addr.mk k147
  (k148 + n143.toNat * 7) none) = some (Value.int IntKind.i64 n151) ∧ Br (decide (n151 = n22)) (∃ (R152 : List Own), ∃ (Φ153 : PW), Stable Φ153 ∧ (∀ (w154 : World) (R155 : List Own), Ctx W
  w154 (R144 ++ R155) I145 → Ctx W w154 (R152 ++ R155) Φ153) ∧ (0 ≤ n143 ∧ n143 < (↑k135 : Int)) ∧ ptrK none p134 fun (k156 k157 : Nat) => ∃ (p158 : Option Addr), ∃ (k159 : Nat), ∃ (k160 :
  Nat), (∀ (w161 : World) (R162 : List Own), Ctx W w161 (R152 ++ R162) Φ153 → ∃ (p163 : Option Addr), ∃ (k164 : Nat), ∃ (k165 : Nat), w161.cell? (Addr.mk xB (xO + 5) none) = some (Value.slice
  p163 k164 k165) ∧ Value.slice p163 k164 k165 = Value.slice p158 k159 k160) ∧ ∃ (p166 : Option Addr), ∃ (k167 : Nat), ∃ (k168 : Nat), (∀ (w169 : World) (R170 : List Own), Ctx W w169 (R152 ++
  R170) Φ153 → ∃ (p171 : Option Addr), ∃ (k172 : Nat), ∃ (k173 : Nat), w169.cell? (Addr.mk xB (xO + 5) none) = some (Value.slice p171 k172 k173) ∧ Value.slice p171 k172 k173 = Value.slice
  p166 k167 k168) ∧ (0 ≤ n22 ∧ n22 < (↑k167 : Int)) ∧ ptrK none p166 fun (k174 k175 : Nat) => ∃ (n176 : Int), (∀ (w177 : World) (R178 : List Own), Ctx W w177 (R152 ++ R178) Φ153 → ∃ (n179 :
  Int), w177.cell? (Addr.mk k156 (k157 + n143.toNat * 7 + 5) none) = some (Value.int IntKind.i64 n179) ∧ Value.int IntKind.i64 n179 = Value.int IntKind.i64 n176) ∧ ∃ (p180 : Option Addr), ∃
  (k181 : Nat), ∃ (k182 : Nat), (∀ (w183 : World) (R184 : List Own), Ctx W w183 (R152 ++ R184) Φ153 → ∃ (p185 : Option Addr), ∃ (k186 : Nat), ∃ (k187 : Nat), w183.cell? (Addr.mk k174 (k175 +
  n22.toNat) none) = some (Value.slice p185 k186 k187) ∧ Value.slice p185 k186 k187 = Value.slice p180 k181 k182) ∧ ∀ (k188 : Nat), (∀ (w189 : World) (R190 : List Own), Ctx W w189 (Own.blk
  k188 [Value.int IntKind.i64 n176] 3 :: R144 ++ R190) I145 → Ctx W w189 (R152 ++ R190) Φ153) ∧ ∀ (w191 : World) (R192 : List Own), Ctx W w191 (Own.blk k188 [Value.int IntKind.i64 n176] 3 ::
  R144 ++ R192) I145 → ∃ (p193 : Option Addr), ∃ (k194 : Nat), ∃ (k195 : Nat), ∃ (w196 : World), Sem.run Try.prog (builtin Builtin.append #[58, 58] 58 #[false, false] #[Value.slice p180 k181
  k182, Value.slice (some (Addr.mk k188 0 none)) 1 1]) w191 = Result.ok (Next.value (Value.slice p193 k194 k195)) w196 ∧ ∃ (R197 : List Own), ∃ (Φ198 : PW), Stable Φ198 ∧ Ctx W w196 (R197 ++
  R192) Φ198 ∧ (∀ (w199 : World) (R200 : List Own), Ctx W w199 (R197 ++ R200) Φ198 → Ctx W w199 (R152 ++ R200) Φ153) ∧ (0 ≤ n22 ∧ n22 < (↑k159 : Int)) ∧ ptrK none p158 fun (k201 k202 : Nat)
  => ∀ (w203 : World) (R204 : List Own), Ctx W w203 (R197 ++ R204) Φ198 → CanWrite w203 k201 (k202 + n22.toNat) 1 ∧ ∀ (w205 : World), w205 = w203.setCell (Addr.mk k201 (k202 + n22.toNat)
  none) (Value.slice p193 k194 k195) → ∃ (R206 : List Own), ∃ (Φ207 : PW), Stable Φ207 ∧ Ctx W w205 (R206 ++ R204) Φ207 ∧ I64 (n143 + 1) ∧ ∃ (R208 : List Own), ∃ (Φ209 : PW), ∃ (k210 : Nat),
  Stable Φ209 ∧ (∀ (w211 : World) (R212 : List Own), Ctx W w211 (R206 ++ R212) Φ207 → Ctx W w211 (R208 ++ R212) Φ209) ∧ I137 (n143 + 1) R208 Φ209 k210 ∧ k210 < k146) (I64 (n143 + 1) ∧ ∃ (R213
  : List Own), ∃ (Φ214 : PW), ∃ (k215 : Nat), Stable Φ214 ∧ (∀ (w216 : World) (R217 : List Own), Ctx W w216 (R144 ++ R217) I145 → Ctx W w216 (R213 ++ R217) Φ214) ∧ I137 (n143 + 1) R213 Φ214
  k215 ∧ k215 < k146)) (I64 (n22 + 1) ∧ ∃ (R218 : List Own), ∃ (Φ219 : PW), ∃ (k220 : Nat), Stable Φ219 ∧ (∀ (w221 : World) (R222 : List Own), Ctx W w221 (R144 ++ R222) I145 → Ctx W w221
  (R218 ++ R222) Φ219) ∧ I16 (n22 + 1) R218 Φ219 k220 ∧ k220 < k25))) (exI fun (I223 : Int → List Own → PW → Nat → Prop) => (∃ (R224 : List Own), ∃ (Φ225 : PW), ∃ (k226 : Nat), Stable Φ225 ∧
  (∀ (w227 : World) (R228 : List Own), Ctx W w227 (R23 ++ R228) I24 → Ctx W w227 (R224 ++ R228) Φ225) ∧ I223 0 R224 Φ225 k226) ∧ ∀ (n229 : Int) (R230 : List Own) (I231 : List Nat → World →
  Prop) (k232 : Nat), Stable I231 → I223 n229 R230 I231 k232 → ∀ (w233 : World) (R234 : List Own), Ctx W w233 (R230 ++ R234) I231 → ∃ (p235 : Option Addr), ∃ (k236 : Nat), ∃ (k237 : Nat),
  w233.cell? (Addr.mk xB (xO + 2) none) = some (Value.slice p235 k236 k237) ∧ Br (decide (n229 < (↑k236 : Int))) (∀ (w238 : World) (R239 : List Own), Ctx W w238 (R230 ++ R239) I231 → Calls
  Try.prog F.erratalaw39_net_source #[Value.pointer (some (Addr.mk xB xO none)), Value.int IntKind.i64 n229] w238 fun (e240 : Ending) (w241 : World) => ∃ (c242 : Bool), e240 = Ending.returned
  (Value.bool c242) ∧ ∃ (R243 : List Own), ∃ (Φ244 : PW), Stable Φ244 ∧ Ctx W w241 (R243 ++ R239) Φ244 ∧ Br c242 (∀ (w245 : World) (R246 : List Own), Ctx W w245 (R243 ++ R246) Φ244 → Calls
  Try.prog F.erratalaw39_net_report #[Value.pointer (some (Addr.mk xB xO none)), Value.int IntKind.i64 n229] w245 fun (e247 : Ending) (w248 : World) => e247 = Ending.returned (Value.tuple
  #[]) ∧ ∃ (R249 : List Own), ∃ (Φ250 : PW), Stable Φ250 ∧ Ctx W w248 (R249 ++ R246) Φ250 ∧ I64 (n229 + 1) ∧ ∃ (R251 : List Own), ∃ (Φ252 : PW), ∃ (k253 : Nat), Stable Φ252 ∧ (∀ (w254 :
  World) (R255 : List Own), Ctx W w254 (R249 ++ R255) Φ250 → Ctx W w254 (R251 ++ R255) Φ252) ∧ I223 (n229 + 1) R251 Φ252 k253 ∧ k253 < k232) (I64 (n229 + 1) ∧ ∃ (R256 : List Own), ∃ (Φ257 :
  PW), ∃ (k258 : Nat), Stable Φ257 ∧ (∀ (w259 : World) (R260 : List Own), Ctx W w259 (R243 ++ R260) Φ244 → Ctx W w259 (R256 ++ R260) Φ257) ∧ I223 (n229 + 1) R256 Φ257 k258 ∧ k258 < k232)) (∀
  (w261 : World) (R262 : List Own), Ctx W w261 (R230 ++ R262) I231 → J (Value.tuple #[]) w261))

theorem Berratalaw39_net_start_run (xB xO : Nat) (number : Int) (kind : Int) {W w : World} {R : List Own} {Φ : PW} [Stable Φ] {J : Value → World → Prop} (c : Ctx W w R Φ) (h : Berratalaw39_net_start xB xO number kind W R Φ J) : Calls Try.prog F.erratalaw39_net_start #[.pointer (some ⟨xB, xO, none⟩), .int .i64 number, .int .i64 kind] w fun e w' => ∃ v, e = .returned v ∧ J v w' :=
  vcFS_sound (H := { keep := some [0, 2, 6, 7, 8, 9, 10, 11, 28, 42, 82, 91, 119, 124], stages := [(10, [.held [(0, true), (4, true), (5, true), (9, true), (12, true), (13, true), (1, true), (6, true), (14, true), (2, true), (7, true), (15, true), (3, true), (8, true), (16, true), (10, true), (11, true), (17, false), (18, false)], .stage [19] (some 20)]), (16, [.held [(0, true), (4, true), (5, true), (9, true), (12, true), (13, true), (1, true), (6, true), (14, true), (2, true), (7, true), (15, true), (3, true), (8, true), (16, true), (10, true), (17, true), (11, true), (18, false), (19, false)], .stage [20] (some 21)])], loops := [(18, [(11, .one (.int .i64))], []), (13, [(10, .one (.int .i64))], []), (8, [(8, .one (.int .i64))], []), (4, [(6, .one (.int .i64))], [])] }) (by rw [show vcFS Try.prog W { keep := some [0, 2, 6, 7, 8, 9, 10, 11, 28, 42, 82, 91, 119, 124], stages := [(10, [.held [(0, true), (4, true), (5, true), (9, true), (12, true), (13, true), (1, true), (6, true), (14, true), (2, true), (7, true), (15, true), (3, true), (8, true), (16, true), (10, true), (11, true), (17, false), (18, false)], .stage [19] (some 20)]), (16, [.held [(0, true), (4, true), (5, true), (9, true), (12, true), (13, true), (1, true), (6, true), (14, true), (2, true), (7, true), (15, true), (3, true), (8, true), (16, true), (10, true), (17, true), (11, true), (18, false), (19, false)], .stage [20] (some 21)])], loops := [(18, [(11, .one (.int .i64))], []), (13, [(10, .one (.int .i64))], []), (8, [(8, .one (.int .i64))], []), (4, [(6, .one (.int .i64))], [])] } F.erratalaw39_net_start #[.pointer (some ⟨xB, xO, none⟩), .int .i64 number, .int .i64 kind] R Φ J = Berratalaw39_net_start xB xO number kind W R Φ J by kernel_rfl]; exact h) c

/-- (*erratalaw39.net).flush -/
-- loop at region 2: 5 k; blocks 
-- known blocks: 6 y
def Berratalaw39_net_flush (xB xO : Nat) (i : Int) (W : World) (R : List Own) (Φ : PW) (J : Value → World → Prop) : Prop :=
  exI fun (I0 : Int → List Own → PW → Nat → Prop) => (∃ (R1 : List Own), ∃ (Φ2 : PW), ∃ (k3 : Nat), Stable Φ2 ∧ (∀ (w4 : World) (R5 : List Own), Ctx W w4 (R ++ R5) Φ → Ctx W w4 (R1 ++ R5) Φ2)
  ∧ I0 0 R1 Φ2 k3) ∧ ∀ (n6 : Int) (R7 : List Own) (I8 : List Nat → World → Prop) (k9 : Nat), Stable I8 → I0 n6 R7 I8 k9 → ∀ (w10 : World) (R11 : List Own), Ctx W w10 (R7 ++ R11) I8 → ∃ (p12 :
  Option Addr), ∃ (k13 : Nat), ∃ (k14 : Nat), w10.cell? (Addr.mk xB (xO + 3) none) = some (Value.slice p12 k13 k14) ∧ (0 ≤ i ∧ i < (↑k13 : Int)) ∧ ptrK none p12 fun (k15 k16 : Nat) => ∀ (w17
  : World) (R18 : List Own), Ctx W w17 (R7 ++ R18) I8 → ∃ (p19 : Option Addr), ∃ (k20 : Nat), ∃ (k21 : Nat), w17.cell? (Addr.mk k15 (k16 + i.toNat) none) = some (Value.slice p19 k20 k21) ∧ Br
  (decide (n6 < (↑k20 : Int))) (∀ (w22 : World) (R23 : List Own), Ctx W w22 (R7 ++ R23) I8 → ∃ (p24 : Option Addr), ∃ (k25 : Nat), ∃ (k26 : Nat), w22.cell? (Addr.mk xB (xO + 3) none) = some
  (Value.slice p24 k25 k26) ∧ (0 ≤ i ∧ i < (↑k25 : Int)) ∧ ptrK none p24 fun (k27 k28 : Nat) => ∀ (w29 : World) (R30 : List Own), Ctx W w29 (R7 ++ R30) I8 → ∃ (p31 : Option Addr), ∃ (k32 :
  Nat), ∃ (k33 : Nat), w29.cell? (Addr.mk k27 (k28 + i.toNat) none) = some (Value.slice p31 k32 k33) ∧ (0 ≤ n6 ∧ n6 < (↑k32 : Int)) ∧ ptrK none p31 fun (k34 k35 : Nat) => ∀ (w36 : World) (R37
  : List Own), Ctx W w36 (R7 ++ R37) I8 → ∃ (n38 : Int), ∃ (n39 : Int), ∃ (n40 : Int), ∃ (n41 : Int), ∃ (n42 : Int), ∃ (n43 : Int), ∃ (p44 : Option Addr), ∃ (k45 : Nat), ∃ (k46 : Nat), RowAt
  w36 k34 (k35 + n6.toNat * 7) [Value.int IntKind.i64 n38, Value.int IntKind.i64 n39, Value.int IntKind.i64 n40, Value.int IntKind.i64 n41, Value.int IntKind.i64 n42, Value.int IntKind.i64
  n43, Value.slice p44 k45 k46] ∧ ∀ (b : Nat) (w47 : World) (R48 : List Own), Ctx W w47 (R7 ++ R48) I8 → ∃ (p49 : Option Addr), ∃ (k50 : Nat), ∃ (k51 : Nat), w47.cell? (Addr.mk xB (xO + 1)
  none) = some (Value.slice p49 k50 k51) ∧ (0 ≤ n38 ∧ n38 < (↑k50 : Int)) ∧ ptrK none p49 fun (k52 k53 : Nat) => ∃ (p54 : Option Addr), w47.cell? (Addr.mk k52 (k53 + n38.toNat) none) = some
  (Value.pointer p54) ∧ ∃ (n55 : Int), (∀ (w56 : World), (∃ (k57 : Nat), w56 = w47.drewN k57) → Calls Try.prog F.channel_Channel_Free #[Value.pointer p54] w56 fun (e58 : Ending) (w59 : World)
  => e58 = Ending.returned (Value.int IntKind.i64 n55) ∧ ∃ (k60 : Nat), w59 = w47.drewN k60) ∧ Br (decide (n55 = 0)) (I64 (n6 + 1) ∧ ∃ (R61 : List Own), ∃ (Φ62 : PW), ∃ (k63 : Nat), Stable
  Φ62 ∧ (∀ (w64 : World) (R65 : List Own), Ctx W w64 (R7 ++ R65) I8 → Ctx W w64 (R61 ++ R65) Φ62) ∧ I0 (n6 + 1) R61 Φ62 k63 ∧ k63 < k9) (∃ (R66 : List Own), ∃ (Φ67 : PW), Stable Φ67 ∧ (∀ (w68
  : World) (R69 : List Own), Ctx W w68 (R7 ++ R69) I8 → Ctx W w68 (R66 ++ R69) Φ67) ∧ ∃ (p70 : Option Addr), ∃ (k71 : Nat), ∃ (k72 : Nat), (∀ (w73 : World) (R74 : List Own), Ctx W w73 (R66 ++
  R74) Φ67 → ∃ (p75 : Option Addr), ∃ (k76 : Nat), ∃ (k77 : Nat), w73.cell? (Addr.mk xB (xO + 1) none) = some (Value.slice p75 k76 k77) ∧ Value.slice p75 k76 k77 = Value.slice p70 k71 k72) ∧
  (0 ≤ n38 ∧ n38 < (↑k71 : Int)) ∧ ptrK none p70 fun (k78 k79 : Nat) => ∃ (p80 : Option Addr), (∀ (w81 : World) (R82 : List Own), Ctx W w81 (R66 ++ R82) Φ67 → ∃ (p83 : Option Addr), w81.cell?
  (Addr.mk k78 (k79 + n38.toNat) none) = some (Value.pointer p83) ∧ Value.pointer p83 = Value.pointer p80) ∧ ∀ (w84 : World) (R85 : List Own), Ctx W w84 (R7 ++ R85) I8 → Calls Try.prog
  F.channel_Channel_Send #[Value.pointer p80, Value.agg #[Value.int IntKind.i64 n39, Value.int IntKind.i64 n40, Value.int IntKind.i64 n41, Value.int IntKind.i64 n42, Value.int IntKind.i64
  n43, Value.slice p44 k45 k46]] w84 fun (e86 : Ending) (w87 : World) => ∃ (n88 : Int), e86 = Ending.returned (Value.int IntKind.i64 n88) ∧ ∃ (R89 : List Own), ∃ (Φ90 : PW), Stable Φ90 ∧ Ctx
  W w87 (R89 ++ R85) Φ90 ∧ Br (decide (n88 ≠ 0)) (∀ (w91 : World) (R92 : List Own), Ctx W w91 (R89 ++ R92) Φ90 → J (Value.bool false) w91) (∃ (R93 : List Own), ∃ (Φ94 : PW), Stable Φ94 ∧ (∀
  (w95 : World) (R96 : List Own), Ctx W w95 (R89 ++ R96) Φ90 → Ctx W w95 (R93 ++ R96) Φ94) ∧ I64 (n6 + 1) ∧ ∃ (p97 : Option Addr), ∃ (k98 : Nat), ∃ (k99 : Nat), (∀ (w100 : World) (R101 : List
  Own), Ctx W w100 (R93 ++ R101) Φ94 → ∃ (p102 : Option Addr), ∃ (k103 : Nat), ∃ (k104 : Nat), w100.cell? (Addr.mk xB (xO + 3) none) = some (Value.slice p102 k103 k104) ∧ Value.slice p102
  k103 k104 = Value.slice p97 k98 k99) ∧ ∃ (p105 : Option Addr), ∃ (k106 : Nat), ∃ (k107 : Nat), (∀ (w108 : World) (R109 : List Own), Ctx W w108 (R93 ++ R109) Φ94 → ∃ (p110 : Option Addr), ∃
  (k111 : Nat), ∃ (k112 : Nat), w108.cell? (Addr.mk xB (xO + 3) none) = some (Value.slice p110 k111 k112) ∧ Value.slice p110 k111 k112 = Value.slice p105 k106 k107) ∧ ∃ (p113 : Option Addr),
  ∃ (k114 : Nat), ∃ (k115 : Nat), (∀ (w116 : World) (R117 : List Own), Ctx W w116 (R93 ++ R117) Φ94 → ∃ (p118 : Option Addr), ∃ (k119 : Nat), ∃ (k120 : Nat), w116.cell? (Addr.mk xB (xO + 3)
  none) = some (Value.slice p118 k119 k120) ∧ Value.slice p118 k119 k120 = Value.slice p113 k114 k115) ∧ (0 ≤ i ∧ i < (↑k106 : Int)) ∧ ptrK none p105 fun (k121 k122 : Nat) => (0 ≤ i ∧ i <
  (↑k114 : Int)) ∧ ptrK none p113 fun (k123 k124 : Nat) => ∃ (p125 : Option Addr), ∃ (k126 : Nat), ∃ (k127 : Nat), (∀ (w128 : World) (R129 : List Own), Ctx W w128 (R93 ++ R129) Φ94 → ∃ (p130
  : Option Addr), ∃ (k131 : Nat), ∃ (k132 : Nat), w128.cell? (Addr.mk k121 (k122 + i.toNat) none) = some (Value.slice p130 k131 k132) ∧ Value.slice p130 k131 k132 = Value.slice p125 k126
  k127) ∧ ∃ (p133 : Option Addr), ∃ (k134 : Nat), ∃ (k135 : Nat), (∀ (w136 : World) (R137 : List Own), Ctx W w136 (R93 ++ R137) Φ94 → ∃ (p138 : Option Addr), ∃ (k139 : Nat), ∃ (k140 : Nat),
  w136.cell? (Addr.mk k123 (k124 + i.toNat) none) = some (Value.slice p138 k139 k140) ∧ Value.slice p138 k139 k140 = Value.slice p133 k134 k135) ∧ (0 ≤ n6 ∧ n6 ≤ (↑k127 : Int)) ∧ (0 ≤ n6 + 1
  ∧ n6 + 1 ≤ (↑k134 : Int) ∧ k134 ≤ k135) ∧ ∀ (k141 : Nat), (∀ (w142 : World) (R143 : List Own), Ctx W w142 (Own.blk k141 [] 57 :: R89 ++ R143) Φ90 → Ctx W w142 (R93 ++ R143) Φ94) ∧ ∀ (w144 :
  World) (R145 : List Own), Ctx W w144 (Own.blk k141 [] 57 :: R89 ++ R145) Φ90 → ∃ (p146 : Option Addr), ∃ (k147 : Nat), ∃ (k148 : Nat), ∃ (w149 : World), Sem.run Try.prog (builtin
  Builtin.append #[33, 33] 33 #[false, false] #[Value.slice (some (Addr.mk k141 0 none)) 0 0, Value.slice (subPtr p125 7 0 k127) n6.toNat k127]) w144 = Result.ok (Next.value (Value.slice p146
  k147 k148)) w149 ∧ ∃ (R150 : List Own), ∃ (Φ151 : PW), Stable Φ151 ∧ Ctx W w149 (R150 ++ R145) Φ151 ∧ (∀ (w152 : World) (R153 : List Own), Ctx W w152 (R150 ++ R153) Φ151 → Ctx W w152 (R93
  ++ R153) Φ94) ∧ ∀ (w154 : World) (R155 : List Own), Ctx W w154 (R150 ++ R155) Φ151 → ∃ (p156 : Option Addr), ∃ (k157 : Nat), ∃ (k158 : Nat), ∃ (w159 : World), Sem.run Try.prog (builtin
  Builtin.append #[33, 33] 33 #[false, false] #[Value.slice p146 k147 k148, Value.slice (subPtr p133 7 (n6 + 1).toNat k135) (k134 - (n6 + 1).toNat) (k135 - (n6 + 1).toNat)]) w154 = Result.ok
  (Next.value (Value.slice p156 k157 k158)) w159 ∧ ∃ (R160 : List Own), ∃ (Φ161 : PW), Stable Φ161 ∧ Ctx W w159 (R160 ++ R155) Φ161 ∧ (∀ (w162 : World) (R163 : List Own), Ctx W w162 (R160 ++
  R163) Φ161 → Ctx W w162 (R93 ++ R163) Φ94) ∧ (0 ≤ i ∧ i < (↑k98 : Int)) ∧ ptrK none p97 fun (k164 k165 : Nat) => ∀ (w166 : World) (R167 : List Own), Ctx W w166 (R160 ++ R167) Φ161 →
  CanWrite w166 k164 (k165 + i.toNat) 1 ∧ ∀ (w168 : World), w168 = w166.setCell (Addr.mk k164 (k165 + i.toNat) none) (Value.slice p156 k157 k158) → ∃ (R169 : List Own), ∃ (Φ170 : PW), Stable
  Φ170 ∧ Ctx W w168 (R169 ++ R167) Φ170 ∧ ∀ (w171 : World) (R172 : List Own), Ctx W w171 (R169 ++ R172) Φ170 → J (Value.bool true) w171))) (∀ (w173 : World) (R174 : List Own), Ctx W w173 (R7
  ++ R174) I8 → J (Value.bool false) w173)

theorem Berratalaw39_net_flush_run (xB xO : Nat) (i : Int) {W w : World} {R : List Own} {Φ : PW} [Stable Φ] {J : Value → World → Prop} (c : Ctx W w R Φ) (h : Berratalaw39_net_flush xB xO i W R Φ J) : Calls Try.prog F.erratalaw39_net_flush #[.pointer (some ⟨xB, xO, none⟩), .int .i64 i] w fun e w' => ∃ v, e = .returned v ∧ J v w' :=
  vcFS_sound (H := { keep := some [0, 1, 4, 5, 6, 16, 38, 50], track := [6], stages := [(6, [.held [(0, true), (4, true), (8, true), (1, true), (5, true), (9, true), (2, true), (3, true), (6, true), (7, true)], .stage [] (some 10), .stage [11] none]), (8, [.held [(0, true), (4, true), (6, true), (10, true), (13, true), (16, true), (20, true), (23, true), (1, true), (7, true), (17, true), (24, true), (2, true), (8, true), (18, true), (3, true), (9, true), (19, true), (11, true), (21, true), (12, true), (22, true), (14, true), (25, true), (5, false), (15, false), (26, false)], .stage [27] (some 28)])], loops := [(2, [(5, .one (.int .i64))], [])] }) (by rw [show vcFS Try.prog W { keep := some [0, 1, 4, 5, 6, 16, 38, 50], track := [6], stages := [(6, [.held [(0, true), (4, true), (8, true), (1, true), (5, true), (9, true), (2, true), (3, true), (6, true), (7, true)], .stage [] (some 10), .stage [11] none]), (8, [.held [(0, true), (4, true), (6, true), (10, true), (13, true), (16, true), (20, true), (23, true), (1, true), (7, true), (17, true), (24, true), (2, true), (8, true), (18, true), (3, true), (9, true), (19, true), (11, true), (21, true), (12, true), (22, true), (14, true), (25, true), (5, false), (15, false), (26, false)], .stage [27] (some 28)])], loops := [(2, [(5, .one (.int .i64))], [])] } F.erratalaw39_net_flush #[.pointer (some ⟨xB, xO, none⟩), .int .i64 i] R Φ J = Berratalaw39_net_flush xB xO i W R Φ J by kernel_rfl]; exact h) c

/-- (*erratalaw39.net).whole -/
-- loop at region 16: 7 n; blocks 
-- loop at region 12: 5 k; blocks 
-- loop at region 7: 4 k; blocks 
-- loop at region 2: 3 i; blocks 
def Berratalaw39_net_whole (xB xO : Nat) (W : World) (R : List Own) (Φ : PW) (J : Value → World → Prop) : Prop :=
  exI fun (I0 : Int → List Own → PW → Nat → Prop) => (∃ (R1 : List Own), ∃ (Φ2 : PW), ∃ (k3 : Nat), Stable Φ2 ∧ (∀ (w4 : World) (R5 : List Own), Ctx W w4 (R ++ R5) Φ → Ctx W w4 (R1 ++ R5) Φ2)
  ∧ I0 0 R1 Φ2 k3) ∧ ∀ (n6 : Int) (R7 : List Own) (I8 : List Nat → World → Prop) (k9 : Nat), Stable I8 → I0 n6 R7 I8 k9 → ∀ (w10 : World) (R11 : List Own), Ctx W w10 (R7 ++ R11) I8 → ∃ (p12 :
  Option Addr), ∃ (k13 : Nat), ∃ (k14 : Nat), w10.cell? (Addr.mk xB (xO + 2) none) = some (Value.slice p12 k13 k14) ∧ Br (decide (n6 < (↑k13 : Int))) (∀ (w15 : World) (R16 : List Own), Ctx W
  w15 (R7 ++ R16) I8 → ∃ (p17 : Option Addr), ∃ (k18 : Nat), ∃ (k19 : Nat), w15.cell? (Addr.mk xB (xO + 4) none) = some (Value.slice p17 k18 k19) ∧ (0 ≤ n6 ∧ n6 < (↑k18 : Int)) ∧ ptrK none
  p17 fun (k20 k21 : Nat) => ∃ (c22 : Bool), w15.cell? (Addr.mk k20 (k21 + n6.toNat) none) = some (Value.bool c22) ∧ ∃ (p23 : Option Addr), ∃ (k24 : Nat), ∃ (k25 : Nat), ((!!c22) = true →
  w15.cell? (Addr.mk xB (xO + 2) none) = some (Value.slice p23 k24 k25)) ∧ ((!!c22) = true → 0 ≤ n6 ∧ n6 < (↑k24 : Int)) ∧ ptrK (some !!c22) p23 fun (k26 k27 : Nat) => ∃ (p28 : Option Addr),
  ((!!c22) = true → w15.cell? (Addr.mk k26 (k27 + n6.toNat) none) = some (Value.pointer p28)) ∧ ∃ (c29 : Bool), ((!!c22) = true → ∀ (w30 : World), w30 = w15 → Calls Try.prog
  F.checkpoint_Gate_Busy #[Value.pointer p28] w30 fun (e31 : Ending) (w32 : World) => e31 = Ending.returned (Value.bool c29) ∧ w32 = w15) ∧ Br (!c22 || c29) (∀ (w33 : World) (R34 : List Own),
  Ctx W w33 (R7 ++ R34) I8 → J (Value.bool false) w33) (exI fun (I35 : Int → List Own → PW → Nat → Prop) => (∃ (R36 : List Own), ∃ (Φ37 : PW), ∃ (k38 : Nat), Stable Φ37 ∧ (∀ (w39 : World)
  (R40 : List Own), Ctx W w39 (R7 ++ R40) I8 → Ctx W w39 (R36 ++ R40) Φ37) ∧ I35 0 R36 Φ37 k38) ∧ ∀ (n41 : Int) (R42 : List Own) (I43 : List Nat → World → Prop) (k44 : Nat), Stable I43 → I35
  n41 R42 I43 k44 → ∀ (w45 : World) (R46 : List Own), Ctx W w45 (R42 ++ R46) I43 → ∃ (p47 : Option Addr), ∃ (k48 : Nat), ∃ (k49 : Nat), w45.cell? (Addr.mk xB (xO + 3) none) = some
  (Value.slice p47 k48 k49) ∧ (0 ≤ n6 ∧ n6 < (↑k48 : Int)) ∧ ptrK none p47 fun (k50 k51 : Nat) => ∀ (w52 : World) (R53 : List Own), Ctx W w52 (R42 ++ R53) I43 → ∃ (p54 : Option Addr), ∃ (k55
  : Nat), ∃ (k56 : Nat), w52.cell? (Addr.mk k50 (k51 + n6.toNat) none) = some (Value.slice p54 k55 k56) ∧ Br (decide (n41 < (↑k55 : Int))) (∀ (w57 : World) (R58 : List Own), Ctx W w57 (R42 ++
  R58) I43 → ∃ (p59 : Option Addr), ∃ (k60 : Nat), ∃ (k61 : Nat), w57.cell? (Addr.mk xB (xO + 3) none) = some (Value.slice p59 k60 k61) ∧ (0 ≤ n6 ∧ n6 < (↑k60 : Int)) ∧ ptrK none p59 fun (k62
  k63 : Nat) => ∀ (w64 : World) (R65 : List Own), Ctx W w64 (R42 ++ R65) I43 → ∃ (p66 : Option Addr), ∃ (k67 : Nat), ∃ (k68 : Nat), w64.cell? (Addr.mk k62 (k63 + n6.toNat) none) = some
  (Value.slice p66 k67 k68) ∧ (0 ≤ n41 ∧ n41 < (↑k67 : Int)) ∧ ptrK none p66 fun (k69 k70 : Nat) => ∀ (w71 : World) (R72 : List Own), Ctx W w71 (R42 ++ R72) I43 → ∃ (n73 : Int), w71.cell?
  (Addr.mk k69 (k70 + n41.toNat * 7 + 1) none) = some (Value.int IntKind.i64 n73) ∧ Br (decide (n73 = 1)) (∀ (w74 : World) (R75 : List Own), Ctx W w74 (R42 ++ R75) I43 → J (Value.bool false)
  w74) (I64 (n41 + 1) ∧ ∃ (R76 : List Own), ∃ (Φ77 : PW), ∃ (k78 : Nat), Stable Φ77 ∧ (∀ (w79 : World) (R80 : List Own), Ctx W w79 (R42 ++ R80) I43 → Ctx W w79 (R76 ++ R80) Φ77) ∧ I35 (n41 +
  1) R76 Φ77 k78 ∧ k78 < k44)) (I64 (n6 + 1) ∧ ∃ (R81 : List Own), ∃ (Φ82 : PW), ∃ (k83 : Nat), Stable Φ82 ∧ (∀ (w84 : World) (R85 : List Own), Ctx W w84 (R42 ++ R85) I43 → Ctx W w84 (R81 ++
  R85) Φ82) ∧ I0 (n6 + 1) R81 Φ82 k83 ∧ k83 < k9))) (exI fun (I86 : Int → List Own → PW → Nat → Prop) => (∃ (R87 : List Own), ∃ (Φ88 : PW), ∃ (k89 : Nat), Stable Φ88 ∧ (∀ (w90 : World) (R91 :
  List Own), Ctx W w90 (R7 ++ R91) I8 → Ctx W w90 (R87 ++ R91) Φ88) ∧ I86 0 R87 Φ88 k89) ∧ ∀ (n92 : Int) (R93 : List Own) (I94 : List Nat → World → Prop) (k95 : Nat), Stable I94 → I86 n92 R93
  I94 k95 → ∀ (w96 : World) (R97 : List Own), Ctx W w96 (R93 ++ R97) I94 → ∃ (p98 : Option Addr), ∃ (k99 : Nat), ∃ (k100 : Nat), w96.cell? (Addr.mk xB (xO + 1) none) = some (Value.slice p98
  k99 k100) ∧ Br (decide (n92 < (↑k99 : Int))) (∀ (w101 : World) (R102 : List Own), Ctx W w101 (R93 ++ R102) I94 → ∃ (p103 : Option Addr), ∃ (k104 : Nat), ∃ (k105 : Nat), w101.cell? (Addr.mk
  xB (xO + 1) none) = some (Value.slice p103 k104 k105) ∧ (0 ≤ n92 ∧ n92 < (↑k104 : Int)) ∧ ptrK none p103 fun (k106 k107 : Nat) => ∀ (w108 : World) (R109 : List Own), Ctx W w108 (R93 ++
  R109) I94 → ∃ (p110 : Option Addr), w108.cell? (Addr.mk k106 (k107 + n92.toNat) none) = some (Value.pointer p110) ∧ ∀ (w111 : World) (R112 : List Own), Ctx W w111 (R93 ++ R112) I94 → Calls
  Try.prog F.channel_Channel_List #[Value.pointer p110] w111 fun (e113 : Ending) (w114 : World) => ∃ (p115 : Option Addr), ∃ (k116 : Nat), ∃ (k117 : Nat), e113 = Ending.returned (Value.slice
  p115 k116 k117) ∧ ∃ (R118 : List Own), ∃ (Φ119 : PW), Stable Φ119 ∧ Ctx W w114 (R118 ++ R112) Φ119 ∧ exI fun (I120 : Int → List Own → PW → Nat → Prop) => (∃ (R121 : List Own), ∃ (Φ122 :
  PW), ∃ (k123 : Nat), Stable Φ122 ∧ (∀ (w124 : World) (R125 : List Own), Ctx W w124 (R118 ++ R125) Φ119 → Ctx W w124 (R121 ++ R125) Φ122) ∧ I120 0 R121 Φ122 k123) ∧ ∀ (n126 : Int) (R127 :
  List Own) (I128 : List Nat → World → Prop) (k129 : Nat), Stable I128 → I120 n126 R127 I128 k129 → Br (decide (n126 < (↑k116 : Int))) ((0 ≤ n126 ∧ n126 < (↑k116 : Int)) ∧ ptrK none p115 fun
  (k130 k131 : Nat) => ∀ (w132 : World) (R133 : List Own), Ctx W w132 (R127 ++ R133) I128 → ∃ (n134 : Int), w132.cell? (Addr.mk k130 (k131 + n126.toNat * 6) none) = some (Value.int
  IntKind.i64 n134) ∧ Br (decide (n134 = 1)) (∀ (w135 : World) (R136 : List Own), Ctx W w135 (R127 ++ R136) I128 → J (Value.bool false) w135) (I64 (n126 + 1) ∧ ∃ (R137 : List Own), ∃ (Φ138 :
  PW), ∃ (k139 : Nat), Stable Φ138 ∧ (∀ (w140 : World) (R141 : List Own), Ctx W w140 (R127 ++ R141) I128 → Ctx W w140 (R137 ++ R141) Φ138) ∧ I120 (n126 + 1) R137 Φ138 k139 ∧ k139 < k129))
  (I64 (n92 + 1) ∧ ∃ (R142 : List Own), ∃ (Φ143 : PW), ∃ (k144 : Nat), Stable Φ143 ∧ (∀ (w145 : World) (R146 : List Own), Ctx W w145 (R127 ++ R146) I128 → Ctx W w145 (R142 ++ R146) Φ143) ∧
  I86 (n92 + 1) R142 Φ143 k144 ∧ k144 < k95)) (∀ (w147 : World) (R148 : List Own), Ctx W w147 (R93 ++ R148) I94 → J (Value.bool true) w147))

theorem Berratalaw39_net_whole_run (xB xO : Nat) {W w : World} {R : List Own} {Φ : PW} [Stable Φ] {J : Value → World → Prop} (c : Ctx W w R Φ) (h : Berratalaw39_net_whole xB xO W R Φ J) : Calls Try.prog F.erratalaw39_net_whole #[.pointer (some ⟨xB, xO, none⟩)] w fun e w' => ∃ v, e = .returned v ∧ J v w' :=
  vcFS_sound (H := { keep := some [0, 2, 3, 4, 5, 6, 7, 14, 34, 44, 59, 66, 80, 88], loops := [(16, [(7, .one (.int .i64))], []), (12, [(5, .one (.int .i64))], []), (7, [(4, .one (.int .i64))], []), (2, [(3, .one (.int .i64))], [])] }) (by rw [show vcFS Try.prog W { keep := some [0, 2, 3, 4, 5, 6, 7, 14, 34, 44, 59, 66, 80, 88], loops := [(16, [(7, .one (.int .i64))], []), (12, [(5, .one (.int .i64))], []), (7, [(4, .one (.int .i64))], []), (2, [(3, .one (.int .i64))], [])] } F.erratalaw39_net_whole #[.pointer (some ⟨xB, xO, none⟩)] R Φ J = Berratalaw39_net_whole xB xO W R Φ J by kernel_rfl]; exact h) c

/-- (*erratalaw39.net).consistent -/
-- loop at region 8: 5 i; blocks 
-- loop at region 2: 3 k; blocks 
def Berratalaw39_net_consistent (xB xO : Nat) (W : World) (R : List Own) (Φ : PW) (J : Value → World → Prop) : Prop :=
  exI fun (I0 : Int → List Own → PW → Nat → Prop) => (∃ (R1 : List Own), ∃ (Φ2 : PW), ∃ (k3 : Nat), Stable Φ2 ∧ (∀ (w4 : World) (R5 : List Own), Ctx W w4 (R ++ R5) Φ → Ctx W w4 (R1 ++ R5) Φ2)
  ∧ I0 0 R1 Φ2 k3) ∧ ∀ (n6 : Int) (R7 : List Own) (I8 : List Nat → World → Prop) (k9 : Nat), Stable I8 → I0 n6 R7 I8 k9 → ∀ (w10 : World) (R11 : List Own), Ctx W w10 (R7 ++ R11) I8 → ∃ (p12 :
  Option Addr), ∃ (k13 : Nat), ∃ (k14 : Nat), w10.cell? (Addr.mk xB xO none) = some (Value.slice p12 k13 k14) ∧ Br (decide (n6 < (↑k13 : Int))) (∃ (R15 : List Own), ∃ (Φ16 : PW), Stable Φ16 ∧
  (∀ (w17 : World) (R18 : List Own), Ctx W w17 (R7 ++ R18) I8 → Ctx W w17 (R15 ++ R18) Φ16) ∧ ∃ (p19 : Option Addr), ∃ (k20 : Nat), ∃ (k21 : Nat), (∀ (w22 : World) (R23 : List Own), Ctx W w22
  (R15 ++ R23) Φ16 → ∃ (p24 : Option Addr), ∃ (k25 : Nat), ∃ (k26 : Nat), w22.cell? (Addr.mk xB (xO + 7) none) = some (Value.slice p24 k25 k26) ∧ Value.slice p24 k25 k26 = Value.slice p19 k20
  k21) ∧ ∃ (p27 : Option Addr), ∃ (k28 : Nat), ∃ (k29 : Nat), (∀ (w30 : World) (R31 : List Own), Ctx W w30 (R15 ++ R31) Φ16 → ∃ (p32 : Option Addr), ∃ (k33 : Nat), ∃ (k34 : Nat), w30.cell?
  (Addr.mk xB (xO + 8) none) = some (Value.slice p32 k33 k34) ∧ Value.slice p32 k33 k34 = Value.slice p27 k28 k29) ∧ ∃ (p35 : Option Addr), ∃ (k36 : Nat), ∃ (k37 : Nat), (∀ (w38 : World) (R39
  : List Own), Ctx W w38 (R15 ++ R39) Φ16 → ∃ (p40 : Option Addr), ∃ (k41 : Nat), ∃ (k42 : Nat), w38.cell? (Addr.mk xB (xO + 6) none) = some (Value.slice p40 k41 k42) ∧ Value.slice p40 k41
  k42 = Value.slice p35 k36 k37) ∧ (0 ≤ n6 ∧ n6 < (↑k20 : Int)) ∧ ptrK none p19 fun (k43 k44 : Nat) => (0 ≤ n6 ∧ n6 < (↑k28 : Int)) ∧ ptrK none p27 fun (k45 k46 : Nat) => (0 ≤ n6 ∧ n6 < (↑k36
  : Int)) ∧ ptrK none p35 fun (k47 k48 : Nat) => ∃ (p49 : Option Addr), ∃ (k50 : Nat), ∃ (k51 : Nat), (∀ (w52 : World) (R53 : List Own), Ctx W w52 (R15 ++ R53) Φ16 → ∃ (p54 : Option Addr), ∃
  (k55 : Nat), ∃ (k56 : Nat), w52.cell? (Addr.mk k43 (k44 + n6.toNat) none) = some (Value.slice p54 k55 k56) ∧ Value.slice p54 k55 k56 = Value.slice p49 k50 k51) ∧ ∃ (p57 : Option Addr), ∃
  (k58 : Nat), ∃ (k59 : Nat), (∀ (w60 : World) (R61 : List Own), Ctx W w60 (R15 ++ R61) Φ16 → ∃ (p62 : Option Addr), ∃ (k63 : Nat), ∃ (k64 : Nat), w60.cell? (Addr.mk k45 (k46 + n6.toNat)
  none) = some (Value.slice p62 k63 k64) ∧ Value.slice p62 k63 k64 = Value.slice p57 k58 k59) ∧ ∃ (p65 : Option Addr), ∃ (k66 : Nat), ∃ (k67 : Nat), (∀ (w68 : World) (R69 : List Own), Ctx W
  w68 (R15 ++ R69) Φ16 → ∃ (p70 : Option Addr), ∃ (k71 : Nat), ∃ (k72 : Nat), w68.cell? (Addr.mk k47 (k48 + n6.toNat) none) = some (Value.slice p70 k71 k72) ∧ Value.slice p70 k71 k72 =
  Value.slice p65 k66 k67) ∧ ∀ (k73 : Nat), (∀ (w74 : World) (R75 : List Own), Ctx W w74 (Own.blk k73 [] 3 :: R7 ++ R75) I8 → Ctx W w74 (R15 ++ R75) Φ16) ∧ ∀ (w76 : World) (R77 : List Own),
  Ctx W w76 (Own.blk k73 [] 3 :: R7 ++ R77) I8 → ∃ (p78 : Option Addr), ∃ (k79 : Nat), ∃ (k80 : Nat), ∃ (w81 : World), Sem.run Try.prog (builtin Builtin.append #[58, 58] 58 #[false, false]
  #[Value.slice (some (Addr.mk k73 0 none)) 0 0, Value.slice p49 k50 k51]) w76 = Result.ok (Next.value (Value.slice p78 k79 k80)) w81 ∧ ∃ (R82 : List Own), ∃ (Φ83 : PW), Stable Φ83 ∧ Ctx W
  w81 (R82 ++ R77) Φ83 ∧ (∀ (w84 : World) (R85 : List Own), Ctx W w84 (R82 ++ R85) Φ83 → Ctx W w84 (R15 ++ R85) Φ16) ∧ ∀ (w86 : World) (R87 : List Own), Ctx W w86 (R82 ++ R87) Φ83 → ∃ (p88 :
  Option Addr), ∃ (k89 : Nat), ∃ (k90 : Nat), ∃ (w91 : World), Sem.run Try.prog (builtin Builtin.append #[58, 58] 58 #[false, false] #[Value.slice p78 k79 k80, Value.slice p57 k58 k59]) w86 =
  Result.ok (Next.value (Value.slice p88 k89 k90)) w91 ∧ ∃ (R92 : List Own), ∃ (Φ93 : PW), Stable Φ93 ∧ Ctx W w91 (R92 ++ R87) Φ93 ∧ (∀ (w94 : World) (R95 : List Own), Ctx W w94 (R92 ++ R95)
  Φ93 → Ctx W w94 (R15 ++ R95) Φ16) ∧ ∀ (w96 : World) (R97 : List Own), Ctx W w96 (R92 ++ R97) Φ93 → ∃ (p98 : Option Addr), ∃ (k99 : Nat), ∃ (k100 : Nat), ∃ (w101 : World), Sem.run Try.prog
  (builtin Builtin.append #[58, 58] 58 #[false, false] #[Value.slice p88 k89 k90, Value.slice p65 k66 k67]) w96 = Result.ok (Next.value (Value.slice p98 k99 k100)) w101 ∧ ∃ (R102 : List Own),
  ∃ (Φ103 : PW), Stable Φ103 ∧ Ctx W w101 (R102 ++ R97) Φ103 ∧ ∀ (w104 : World) (R105 : List Own), Ctx W w104 (R102 ++ R105) Φ103 → ∃ (p106 : Option Addr), ∃ (k107 : Nat), ∃ (k108 : Nat),
  w104.cell? (Addr.mk xB (xO + 5) none) = some (Value.slice p106 k107 k108) ∧ (0 ≤ n6 ∧ n6 < (↑k107 : Int)) ∧ ptrK none p106 fun (k109 k110 : Nat) => ∃ (p111 : Option Addr), ∃ (k112 : Nat), ∃
  (k113 : Nat), w104.cell? (Addr.mk k109 (k110 + n6.toNat) none) = some (Value.slice p111 k112 k113) ∧ ∃ (n114 : Int), ((!decide ((↑k99 : Int) ≠ (↑k112 : Int))) = true → w104.cell? (Addr.mk
  xB (xO + 9) none) = some (Value.int IntKind.i64 n114)) ∧ ∃ (p115 : Option Addr), ∃ (k116 : Nat), ∃ (k117 : Nat), ((!decide ((↑k99 : Int) ≠ (↑k112 : Int)) && decide (n114 = 0)) = true →
  w104.cell? (Addr.mk xB (xO + 8) none) = some (Value.slice p115 k116 k117)) ∧ ((!decide ((↑k99 : Int) ≠ (↑k112 : Int)) && decide (n114 = 0)) = true → 0 ≤ n6 ∧ n6 < (↑k116 : Int)) ∧ ptrK
  (some (!decide ((↑k99 : Int) ≠ (↑k112 : Int)) && decide (n114 = 0))) p115 fun (k118 k119 : Nat) => ∃ (p120 : Option Addr), ∃ (k121 : Nat), ∃ (k122 : Nat), ((!decide ((↑k99 : Int) ≠ (↑k112 :
  Int)) && decide (n114 = 0)) = true → w104.cell? (Addr.mk k118 (k119 + n6.toNat) none) = some (Value.slice p120 k121 k122)) ∧ ∃ (p123 : Option Addr), ∃ (k124 : Nat), ∃ (k125 : Nat),
  ((!decide ((↑k99 : Int) ≠ (↑k112 : Int)) && decide (n114 = 0)) = true → w104.cell? (Addr.mk xB (xO + 6) none) = some (Value.slice p123 k124 k125)) ∧ ((!decide ((↑k99 : Int) ≠ (↑k112 : Int))
  && decide (n114 = 0)) = true → 0 ≤ n6 ∧ n6 < (↑k124 : Int)) ∧ ptrK (some (!decide ((↑k99 : Int) ≠ (↑k112 : Int)) && decide (n114 = 0))) p123 fun (k126 k127 : Nat) => ∃ (p128 : Option Addr),
  ∃ (k129 : Nat), ∃ (k130 : Nat), ((!decide ((↑k99 : Int) ≠ (↑k112 : Int)) && decide (n114 = 0)) = true → w104.cell? (Addr.mk k126 (k127 + n6.toNat) none) = some (Value.slice p128 k129 k130))
  ∧ ((!decide ((↑k99 : Int) ≠ (↑k112 : Int)) && decide (n114 = 0)) = true → I64 ((↑k121 : Int) + (↑k129 : Int))) ∧ Br (decide ((↑k99 : Int) ≠ (↑k112 : Int)) || decide (n114 = 0) && decide (0
  < (↑k121 : Int) + (↑k129 : Int))) (∀ (w131 : World) (R132 : List Own), Ctx W w131 (R102 ++ R132) Φ103 → J (Value.bool false) w131) (exI fun (I133 : Int → List Own → PW → Nat → Prop) => (∃
  (R134 : List Own), ∃ (Φ135 : PW), ∃ (k136 : Nat), Stable Φ135 ∧ (∀ (w137 : World) (R138 : List Own), Ctx W w137 (R102 ++ R138) Φ103 → Ctx W w137 (R134 ++ R138) Φ135) ∧ I133 0 R134 Φ135
  k136) ∧ ∀ (n139 : Int) (R140 : List Own) (I141 : List Nat → World → Prop) (k142 : Nat), Stable I141 → I133 n139 R140 I141 k142 → Br (decide (n139 < (↑k99 : Int))) (∀ (w143 : World) (R144 :
  List Own), Ctx W w143 (R140 ++ R144) I141 → (0 ≤ n139 ∧ n139 < (↑k99 : Int)) ∧ ptrK none p98 fun (k145 k146 : Nat) => ∃ (n147 : Int), w143.cell? (Addr.mk k145 (k146 + n139.toNat) none) =
  some (Value.int IntKind.i64 n147) ∧ ∃ (p148 : Option Addr), ∃ (k149 : Nat), ∃ (k150 : Nat), w143.cell? (Addr.mk xB (xO + 5) none) = some (Value.slice p148 k149 k150) ∧ (0 ≤ n6 ∧ n6 < (↑k149
  : Int)) ∧ ptrK none p148 fun (k151 k152 : Nat) => ∃ (p153 : Option Addr), ∃ (k154 : Nat), ∃ (k155 : Nat), w143.cell? (Addr.mk k151 (k152 + n6.toNat) none) = some (Value.slice p153 k154
  k155) ∧ (0 ≤ n139 ∧ n139 < (↑k154 : Int)) ∧ ptrK none p153 fun (k156 k157 : Nat) => ∃ (n158 : Int), w143.cell? (Addr.mk k156 (k157 + n139.toNat) none) = some (Value.int IntKind.i64 n158) ∧
  Br (decide (n147 ≠ n158)) (∀ (w159 : World) (R160 : List Own), Ctx W w159 (R140 ++ R160) I141 → J (Value.bool false) w159) (I64 (n139 + 1) ∧ ∃ (R161 : List Own), ∃ (Φ162 : PW), ∃ (k163 :
  Nat), Stable Φ162 ∧ (∀ (w164 : World) (R165 : List Own), Ctx W w164 (R140 ++ R165) I141 → Ctx W w164 (R161 ++ R165) Φ162) ∧ I133 (n139 + 1) R161 Φ162 k163 ∧ k163 < k142)) (I64 (n6 + 1) ∧ ∃
  (R166 : List Own), ∃ (Φ167 : PW), ∃ (k168 : Nat), Stable Φ167 ∧ (∀ (w169 : World) (R170 : List Own), Ctx W w169 (R140 ++ R170) I141 → Ctx W w169 (R166 ++ R170) Φ167) ∧ I0 (n6 + 1) R166 Φ167
  k168 ∧ k168 < k9))) (∀ (w171 : World) (R172 : List Own), Ctx W w171 (R7 ++ R172) I8 → J (Value.bool true) w171)

theorem Berratalaw39_net_consistent_run (xB xO : Nat) {W w : World} {R : List Own} {Φ : PW} [Stable Φ] {J : Value → World → Prop} (c : Ctx W w R Φ) (h : Berratalaw39_net_consistent xB xO W R Φ J) : Calls Try.prog F.erratalaw39_net_consistent #[.pointer (some ⟨xB, xO, none⟩)] w fun e w' => ∃ v, e = .returned v ∧ J v w' :=
  vcFS_sound (H := { keep := some [0, 2, 3, 4, 5, 12, 77, 81, 98], stages := [(4, [.held [(1, true), (5, true), (9, true), (13, true), (17, true), (21, true), (2, true), (10, true), (18, true), (3, true), (11, true), (19, true), (4, true), (12, true), (20, true), (6, true), (14, true), (22, true), (7, true), (15, true), (23, true), (0, false), (8, false), (16, false)], .stage [] (some 24), .stage [25] none])], loops := [(8, [(5, .one (.int .i64))], []), (2, [(3, .one (.int .i64))], [])] }) (by rw [show vcFS Try.prog W { keep := some [0, 2, 3, 4, 5, 12, 77, 81, 98], stages := [(4, [.held [(1, true), (5, true), (9, true), (13, true), (17, true), (21, true), (2, true), (10, true), (18, true), (3, true), (11, true), (19, true), (4, true), (12, true), (20, true), (6, true), (14, true), (22, true), (7, true), (15, true), (23, true), (0, false), (8, false), (16, false)], .stage [] (some 24), .stage [25] none])], loops := [(8, [(5, .one (.int .i64))], []), (2, [(3, .one (.int .i64))], [])] } F.erratalaw39_net_consistent #[.pointer (some ⟨xB, xO, none⟩)] R Φ J = Berratalaw39_net_consistent xB xO W R Φ J by kernel_rfl]; exact h) c

/-- (*erratalaw39.net).clear -/
-- loop at region 5: 3 k; blocks 
-- loop at region 1: 2 i; blocks 
def Berratalaw39_net_clear (xB xO : Nat) (W : World) (R : List Own) (Φ : PW) (J : Value → World → Prop) : Prop :=
  exI fun (I0 : Int → List Own → PW → Nat → Prop) => (∃ (R1 : List Own), ∃ (Φ2 : PW), ∃ (k3 : Nat), Stable Φ2 ∧ (∀ (w4 : World) (R5 : List Own), Ctx W w4 (R ++ R5) Φ → Ctx W w4 (R1 ++ R5) Φ2)
  ∧ I0 0 R1 Φ2 k3) ∧ ∀ (n6 : Int) (R7 : List Own) (I8 : List Nat → World → Prop) (k9 : Nat), Stable I8 → I0 n6 R7 I8 k9 → ∀ (w10 : World) (R11 : List Own), Ctx W w10 (R7 ++ R11) I8 → ∃ (p12 :
  Option Addr), ∃ (k13 : Nat), ∃ (k14 : Nat), w10.cell? (Addr.mk xB (xO + 4) none) = some (Value.slice p12 k13 k14) ∧ Br (decide (n6 < (↑k13 : Int))) (∀ (w15 : World) (R16 : List Own), Ctx W
  w15 (R7 ++ R16) I8 → ∃ (p17 : Option Addr), ∃ (k18 : Nat), ∃ (k19 : Nat), w15.cell? (Addr.mk xB (xO + 4) none) = some (Value.slice p17 k18 k19) ∧ (0 ≤ n6 ∧ n6 < (↑k18 : Int)) ∧ ptrK none
  p17 fun (k20 k21 : Nat) => ∀ (w22 : World) (R23 : List Own), Ctx W w22 (R7 ++ R23) I8 → CanWrite w22 k20 (k21 + n6.toNat) 1 ∧ ∀ (w24 : World), w24 = w22.setCell (Addr.mk k20 (k21 +
  n6.toNat) none) (Value.bool false) → ∃ (R25 : List Own), ∃ (Φ26 : PW), Stable Φ26 ∧ Ctx W w24 (R25 ++ R23) Φ26 ∧ I64 (n6 + 1) ∧ ∃ (R27 : List Own), ∃ (Φ28 : PW), ∃ (k29 : Nat), Stable Φ28 ∧
  (∀ (w30 : World) (R31 : List Own), Ctx W w30 (R25 ++ R31) Φ26 → Ctx W w30 (R27 ++ R31) Φ28) ∧ I0 (n6 + 1) R27 Φ28 k29 ∧ k29 < k9) (exI fun (I32 : Int → List Own → PW → Nat → Prop) => (∃
  (R33 : List Own), ∃ (Φ34 : PW), ∃ (k35 : Nat), Stable Φ34 ∧ (∀ (w36 : World) (R37 : List Own), Ctx W w36 (R7 ++ R37) I8 → Ctx W w36 (R33 ++ R37) Φ34) ∧ I32 0 R33 Φ34 k35) ∧ ∀ (n38 : Int)
  (R39 : List Own) (I40 : List Nat → World → Prop) (k41 : Nat), Stable I40 → I32 n38 R39 I40 k41 → ∀ (w42 : World) (R43 : List Own), Ctx W w42 (R39 ++ R43) I40 → ∃ (p44 : Option Addr), ∃ (k45
  : Nat), ∃ (k46 : Nat), w42.cell? (Addr.mk xB xO none) = some (Value.slice p44 k45 k46) ∧ Br (decide (n38 < (↑k45 : Int))) (∀ (w47 : World) (R48 : List Own), Ctx W w47 (R39 ++ R48) I40 → ∃
  (p49 : Option Addr), ∃ (k50 : Nat), ∃ (k51 : Nat), w47.cell? (Addr.mk xB (xO + 5) none) = some (Value.slice p49 k50 k51) ∧ (0 ≤ n38 ∧ n38 < (↑k50 : Int)) ∧ ptrK none p49 fun (k52 k53 : Nat)
  => ∀ (w54 : World) (R55 : List Own), Ctx W w54 (R39 ++ R55) I40 → CanWrite w54 k52 (k53 + n38.toNat) 1 ∧ ∀ (w56 : World), w56 = w54.setCell (Addr.mk k52 (k53 + n38.toNat) none) (Value.slice
  none 0 0) → ∃ (R57 : List Own), ∃ (Φ58 : PW), Stable Φ58 ∧ Ctx W w56 (R57 ++ R55) Φ58 ∧ ∀ (w59 : World) (R60 : List Own), Ctx W w59 (R57 ++ R60) Φ58 → ∃ (p61 : Option Addr), ∃ (k62 : Nat),
  ∃ (k63 : Nat), w59.cell? (Addr.mk xB (xO + 6) none) = some (Value.slice p61 k62 k63) ∧ (0 ≤ n38 ∧ n38 < (↑k62 : Int)) ∧ ptrK none p61 fun (k64 k65 : Nat) => ∀ (w66 : World) (R67 : List
  Own), Ctx W w66 (R57 ++ R67) Φ58 → CanWrite w66 k64 (k65 + n38.toNat) 1 ∧ ∀ (w68 : World), w68 = w66.setCell (Addr.mk k64 (k65 + n38.toNat) none) (Value.slice none 0 0) → ∃ (R69 : List
  Own), ∃ (Φ70 : PW), Stable Φ70 ∧ Ctx W w68 (R69 ++ R67) Φ70 ∧ ∀ (w71 : World) (R72 : List Own), Ctx W w71 (R69 ++ R72) Φ70 → ∃ (p73 : Option Addr), ∃ (k74 : Nat), ∃ (k75 : Nat), w71.cell?
  (Addr.mk xB (xO + 7) none) = some (Value.slice p73 k74 k75) ∧ (0 ≤ n38 ∧ n38 < (↑k74 : Int)) ∧ ptrK none p73 fun (k76 k77 : Nat) => ∀ (w78 : World) (R79 : List Own), Ctx W w78 (R69 ++ R79)
  Φ70 → CanWrite w78 k76 (k77 + n38.toNat) 1 ∧ ∀ (w80 : World), w80 = w78.setCell (Addr.mk k76 (k77 + n38.toNat) none) (Value.slice none 0 0) → ∃ (R81 : List Own), ∃ (Φ82 : PW), Stable Φ82 ∧
  Ctx W w80 (R81 ++ R79) Φ82 ∧ ∀ (w83 : World) (R84 : List Own), Ctx W w83 (R81 ++ R84) Φ82 → ∃ (p85 : Option Addr), ∃ (k86 : Nat), ∃ (k87 : Nat), w83.cell? (Addr.mk xB (xO + 8) none) = some
  (Value.slice p85 k86 k87) ∧ (0 ≤ n38 ∧ n38 < (↑k86 : Int)) ∧ ptrK none p85 fun (k88 k89 : Nat) => ∀ (w90 : World) (R91 : List Own), Ctx W w90 (R81 ++ R91) Φ82 → CanWrite w90 k88 (k89 +
  n38.toNat) 1 ∧ ∀ (w92 : World), w92 = w90.setCell (Addr.mk k88 (k89 + n38.toNat) none) (Value.slice none 0 0) → ∃ (R93 : List Own), ∃ (Φ94 : PW), Stable Φ94 ∧ Ctx W w92 (R93 ++ R91) Φ94 ∧
  I64 (n38 + 1) ∧ ∃ (R95 : List Own), ∃ (Φ96 : PW), ∃ (k97 : Nat), Stable Φ96 ∧ (∀ (w98 : World) (R99 : List Own), Ctx W w98 (R93 ++ R99) Φ94 → Ctx W w98 (R95 ++ R99) Φ96) ∧ I32 (n38 + 1) R95
  Φ96 k97 ∧ k97 < k41) (∀ (w100 : World) (R101 : List Own), Ctx W w100 (R39 ++ R101) I40 → J (Value.tuple #[]) w100))

theorem Berratalaw39_net_clear_run (xB xO : Nat) {W w : World} {R : List Own} {Φ : PW} [Stable Φ] {J : Value → World → Prop} (c : Ctx W w R Φ) (h : Berratalaw39_net_clear xB xO W R Φ J) : Calls Try.prog F.erratalaw39_net_clear #[.pointer (some ⟨xB, xO, none⟩)] w fun e w' => ∃ v, e = .returned v ∧ J v w' :=
  vcFS_sound (H := { keep := some [0, 2, 3, 10, 25], loops := [(5, [(3, .one (.int .i64))], []), (1, [(2, .one (.int .i64))], [])] }) (by rw [show vcFS Try.prog W { keep := some [0, 2, 3, 10, 25], loops := [(5, [(3, .one (.int .i64))], []), (1, [(2, .one (.int .i64))], [])] } F.erratalaw39_net_clear #[.pointer (some ⟨xB, xO, none⟩)] R Φ J = Berratalaw39_net_clear xB xO W R Φ J by kernel_rfl]; exact h) c

/-- (*erratalaw39.net).drain -/
-- loop at region 10: 3 more, 5 k; blocks 
-- loop at region 7: 3 more; blocks 
-- loop at region 5: 3 more, 4 i; blocks 
-- loop at region 2: 3 more; blocks 
def Berratalaw39_net_drain (xB xO : Nat) (W : World) (R : List Own) (Φ : PW) (J : Value → World → Prop) : Prop :=
  exI fun (I0 : Bool → List Own → PW → Nat → Prop) => (∃ (R1 : List Own), ∃ (Φ2 : PW), ∃ (k3 : Nat), Stable Φ2 ∧ (∀ (w4 : World) (R5 : List Own), Ctx W w4 (R ++ R5) Φ → Ctx W w4 (R1 ++ R5)
  Φ2) ∧ I0 true R1 Φ2 k3) ∧ ∀ (c6 : Bool) (R7 : List Own) (I8 : List Nat → World → Prop) (k9 : Nat), Stable I8 → I0 c6 R7 I8 k9 → Br c6 (∀ (w10 : World) (R11 : List Own), Ctx W w10 (R7 ++
  R11) I8 → ∃ (p12 : Option Addr), ∃ (k13 : Nat), ∃ (k14 : Nat), w10.cell? (Addr.mk xB (xO + 2) none) = some (Value.slice p12 k13 k14) ∧ I64 ((↑k13 : Int) - 1) ∧ exI fun (I15 : Bool → Int →
  List Own → PW → Nat → Prop) => (∃ (R16 : List Own), ∃ (Φ17 : PW), ∃ (k18 : Nat), Stable Φ17 ∧ (∀ (w19 : World) (R20 : List Own), Ctx W w19 (R7 ++ R20) I8 → Ctx W w19 (R16 ++ R20) Φ17) ∧ I15
  false ((↑k13 : Int) - 1) R16 Φ17 k18) ∧ ∀ (c21 : Bool) (n22 : Int) (R23 : List Own) (I24 : List Nat → World → Prop) (k25 : Nat), Stable I24 → I15 c21 n22 R23 I24 k25 → Br (decide (0 ≤ n22))
  (exI fun (I26 : Bool → List Own → PW → Nat → Prop) => (∃ (R27 : List Own), ∃ (Φ28 : PW), ∃ (k29 : Nat), Stable Φ28 ∧ (∀ (w30 : World) (R31 : List Own), Ctx W w30 (R23 ++ R31) I24 → Ctx W
  w30 (R27 ++ R31) Φ28) ∧ I26 c21 R27 Φ28 k29) ∧ ∀ (c32 : Bool) (R33 : List Own) (I34 : List Nat → World → Prop) (k35 : Nat), Stable I34 → I26 c32 R33 I34 k35 → ∀ (w36 : World) (R37 : List
  Own), Ctx W w36 (R33 ++ R37) I34 → Calls Try.prog F.erratalaw39_net_flush #[Value.pointer (some (Addr.mk xB xO none)), Value.int IntKind.i64 n22] w36 fun (e38 : Ending) (w39 : World) => ∃
  (c40 : Bool), e38 = Ending.returned (Value.bool c40) ∧ ∃ (R41 : List Own), ∃ (Φ42 : PW), Stable Φ42 ∧ Ctx W w39 (R41 ++ R37) Φ42 ∧ Br c40 (∃ (R43 : List Own), ∃ (Φ44 : PW), ∃ (k45 : Nat),
  Stable Φ44 ∧ (∀ (w46 : World) (R47 : List Own), Ctx W w46 (R41 ++ R47) Φ42 → Ctx W w46 (R43 ++ R47) Φ44) ∧ I26 true R43 Φ44 k45 ∧ k45 < k35) (I64 (n22 - 1) ∧ ∃ (R48 : List Own), ∃ (Φ49 :
  PW), ∃ (k50 : Nat), Stable Φ49 ∧ (∀ (w51 : World) (R52 : List Own), Ctx W w51 (R41 ++ R52) Φ42 → Ctx W w51 (R48 ++ R52) Φ49) ∧ I15 c32 (n22 - 1) R48 Φ49 k50 ∧ k50 < k25)) (∀ (w53 : World)
  (R54 : List Own), Ctx W w53 (R23 ++ R54) I24 → ∃ (p55 : Option Addr), ∃ (k56 : Nat), ∃ (k57 : Nat), w53.cell? (Addr.mk xB xO none) = some (Value.slice p55 k56 k57) ∧ I64 ((↑k56 : Int) - 1)
  ∧ exI fun (I58 : Bool → Int → List Own → PW → Nat → Prop) => (∃ (R59 : List Own), ∃ (Φ60 : PW), ∃ (k61 : Nat), Stable Φ60 ∧ (∀ (w62 : World) (R63 : List Own), Ctx W w62 (R23 ++ R63) I24 →
  Ctx W w62 (R59 ++ R63) Φ60) ∧ I58 c21 ((↑k56 : Int) - 1) R59 Φ60 k61) ∧ ∀ (c64 : Bool) (n65 : Int) (R66 : List Own) (I67 : List Nat → World → Prop) (k68 : Nat), Stable I67 → I58 c64 n65 R66
  I67 k68 → Br (decide (0 ≤ n65)) (∀ (w69 : World) (R70 : List Own), Ctx W w69 (R66 ++ R70) I67 → Calls Try.prog F.erratalaw39_net_take #[Value.pointer (some (Addr.mk xB xO none)), Value.int
  IntKind.i64 n65] w69 fun (e71 : Ending) (w72 : World) => ∃ (c73 : Bool), ∃ (c74 : Bool), e71 = Ending.returned (Value.tuple #[Value.bool c73, Value.bool c74]) ∧ ∃ (R75 : List Own), ∃ (Φ76 :
  PW), Stable Φ76 ∧ Ctx W w72 (R75 ++ R70) Φ76 ∧ Br (!c74) (∀ (w77 : World) (R78 : List Own), Ctx W w77 (R75 ++ R78) Φ76 → J (Value.bool false) w77) (∀ (w79 : World) (R80 : List Own), Ctx W
  w79 (R75 ++ R80) Φ76 → I64 (n65 - 1) ∧ ∃ (R81 : List Own), ∃ (Φ82 : PW), ∃ (k83 : Nat), Stable Φ82 ∧ (∀ (w84 : World) (R85 : List Own), Ctx W w84 (R75 ++ R85) Φ76 → Ctx W w84 (R81 ++ R85)
  Φ82) ∧ I58 (c64 || c73) (n65 - 1) R81 Φ82 k83 ∧ k83 < k68)) (∃ (R86 : List Own), ∃ (Φ87 : PW), ∃ (k88 : Nat), Stable Φ87 ∧ (∀ (w89 : World) (R90 : List Own), Ctx W w89 (R66 ++ R90) I67 →
  Ctx W w89 (R86 ++ R90) Φ87) ∧ I0 c64 R86 Φ87 k88 ∧ k88 < k9))) (∀ (w91 : World) (R92 : List Own), Ctx W w91 (R7 ++ R92) I8 → J (Value.bool true) w91)

theorem Berratalaw39_net_drain_run (xB xO : Nat) {W w : World} {R : List Own} {Φ : PW} [Stable Φ] {J : Value → World → Prop} (c : Ctx W w R Φ) (h : Berratalaw39_net_drain xB xO W R Φ J) : Calls Try.prog F.erratalaw39_net_drain #[.pointer (some ⟨xB, xO, none⟩)] w fun e w' => ∃ v, e = .returned v ∧ J v w' :=
  vcFS_sound (H := { keep := some [0, 2, 3, 4, 5, 6, 7, 8, 16, 21, 29, 39], loops := [(10, [(3, .one (.bool)), (5, .one (.int .i64))], []), (7, [(3, .one (.bool))], []), (5, [(3, .one (.bool)), (4, .one (.int .i64))], []), (2, [(3, .one (.bool))], [])] }) (by rw [show vcFS Try.prog W { keep := some [0, 2, 3, 4, 5, 6, 7, 8, 16, 21, 29, 39], loops := [(10, [(3, .one (.bool)), (5, .one (.int .i64))], []), (7, [(3, .one (.bool))], []), (5, [(3, .one (.bool)), (4, .one (.int .i64))], []), (2, [(3, .one (.bool))], [])] } F.erratalaw39_net_drain #[.pointer (some ⟨xB, xO, none⟩)] R Φ J = Berratalaw39_net_drain xB xO W R Φ J by kernel_rfl]; exact h) c

/-- checkpoint.NewGate -/
def Bcheckpoint_NewGate (n : Int) (W : World) (R : List Own) (Φ : PW) (J : Value → World → Prop) : Prop :=
  ∀ (k0 k1 : Nat) (w2 : World) (R3 : List Own), Ctx W w2 (Own.blk k1 [Value.int IntKind.i64 (max n 0), Value.map (some k0), Value.int IntKind.i64 0, Value.int IntKind.i64 0] 74 :: Own.obj k0
  (Obj.map #[] 0) :: R ++ R3) Φ → J (Value.pointer (some (Addr.mk k1 0 none))) w2

theorem Bcheckpoint_NewGate_run (n : Int) {W w : World} {R : List Own} {Φ : PW} [Stable Φ] {J : Value → World → Prop} (c : Ctx W w R Φ) (h : Bcheckpoint_NewGate n W R Φ J) : Calls Try.prog F.checkpoint_NewGate #[.int .i64 n] w fun e w' => ∃ v, e = .returned v ∧ J v w' :=
  vcFS_sound (H := { keep := some [0, 2] }) (by rw [show vcFS Try.prog W { keep := some [0, 2] } F.checkpoint_NewGate #[.int .i64 n] R Φ J = Bcheckpoint_NewGate n W R Φ J by kernel_rfl]; exact h) c

/-- (*checkpoint.Gate).Arrive -/
-- known blocks: 6 m
def Bcheckpoint_Gate_Arrive (gB gO : Nat) (i : Int) (m0 : Int) (m1 : Int) (m2 : Int) (m3 : Int) (m4 : Int) (m5P : Option Addr) (m5N m5C : Nat) (kind : Int) (W : World) (R : List Own) (Φ : PW) (J : Value → World → Prop) : Prop :=
  ∀ (b : Nat) (w0 : World) (R1 : List Own), Ctx W w0 (R ++ R1) Φ → ∃ (c2 : Bool), (∀ (w3 : World), w3 = w0 → Calls Try.prog F.checkpoint_Gate_Busy #[Value.pointer (some (Addr.mk gB gO none))]
  w3 fun (e4 : Ending) (w5 : World) => e4 = Ending.returned (Value.bool c2) ∧ w5 = w0) ∧ ∃ (n6 : Int), (c2 = true → w0.cell? (Addr.mk gB (gO + 3) none) = some (Value.int IntKind.i64 n6)) ∧ ∀
  (w7 : World) (R8 : List Own), Ctx W w7 (R ++ R8) Φ → ∃ (n9 : Int), ((!decide (i < 0)) = true → w7.cell? (Addr.mk gB gO none) = some (Value.int IntKind.i64 n9)) ∧ Br (decide (i < 0) ||
  decide (n9 ≤ i) || decide (kind ≠ 0) && decide (kind ≠ 1)) (∀ (w10 : World) (R11 : List Own), Ctx W w10 (R ++ R11) Φ → J (Value.int IntKind.i64 (-1)) w10) (∀ (w12 : World) (R13 : List Own),
  Ctx W w12 (R ++ R13) Φ → ∃ (c14 : Bool), (∀ (w15 : World), w15 = w12 → Calls Try.prog F.checkpoint_Gate_Busy #[Value.pointer (some (Addr.mk gB gO none))] w15 fun (e16 : Ending) (w17 :
  World) => e16 = Ending.returned (Value.bool c14) ∧ w17 = w12) ∧ ∃ (p18 : Option Nat), ((c14 && !(c2 && decide (n6 = 1))) = true → w12.cell? (Addr.mk gB (gO + 1) none) = some (Value.map
  p18)) ∧ ∃ (c19 : Bool), ((c14 && !(c2 && decide (n6 = 1))) = true → ∀ (w20 : World), w20.heap = w12.heap → Sem.run Try.prog (Instr.lookup 72 (Value.map p18) (Value.int IntKind.i64 i) false)
  w20 = Result.ok (Value.bool c19) w20) ∧ Br (c14 && !(c2 && decide (n6 = 1)) && c19) (∀ (w21 : World) (R22 : List Own), Ctx W w21 (R ++ R22) Φ → J (Value.int IntKind.i64 0) w21) (∀ (w23 :
  World) (R24 : List Own), Ctx W w23 (R ++ R24) Φ → ∃ (p25 : Option Nat), ((decide (m0 ≠ 1) && (c2 && decide (n6 = 1))) = true → w23.cell? (Addr.mk gB (gO + 1) none) = some (Value.map p25)) ∧
  ∃ (c26 : Bool), ((decide (m0 ≠ 1) && (c2 && decide (n6 = 1))) = true → ∀ (w27 : World), w27.heap = w23.heap → Sem.run Try.prog (Instr.lookup 72 (Value.map p25) (Value.int IntKind.i64 i)
  false) w27 = Result.ok (Value.bool c26) w27) ∧ Br (decide (m0 ≠ 1) && (c2 && decide (n6 = 1)) && !c26) (∀ (w28 : World) (R29 : List Own), Ctx W w28 (R ++ R29) Φ → J (Value.int IntKind.i64
  2) w28) (Br (decide (m0 ≠ 1)) (∀ (w30 : World) (R31 : List Own), Ctx W w30 (R ++ R31) Φ → J (Value.int IntKind.i64 1) w30) (∀ (w32 : World) (R33 : List Own), Ctx W w32 (R ++ R33) Φ → ∃ (c34
  : Bool), ((!decide (m4 < 1)) = true → ∀ (w35 : World), (∃ (k36 : Nat), w35 = w32.drewN k36) → Calls Try.prog F.checkpoint_Gate_Busy #[Value.pointer (some (Addr.mk gB gO none))] w35 fun (e37
  : Ending) (w38 : World) => e37 = Ending.returned (Value.bool c34) ∧ ∃ (k39 : Nat), w38 = w32.drewN k39) ∧ ∃ (n40 : Int), ((!decide (m4 < 1) && c34) = true → w32.cell? (Addr.mk gB (gO + 2)
  none) = some (Value.int IntKind.i64 n40)) ∧ ∃ (n41 : Int), ((!decide (m4 < 1) && c34 && !decide (m4 ≠ n40)) = true → w32.cell? (Addr.mk gB (gO + 3) none) = some (Value.int IntKind.i64 n41))
  ∧ ∃ (p42 : Option Nat), ((!decide (m4 < 1) && c34 && !(decide (m4 ≠ n40) || decide (kind ≠ n41))) = true → w32.cell? (Addr.mk gB (gO + 1) none) = some (Value.map p42)) ∧ ∃ (c43 : Bool),
  ((!decide (m4 < 1) && c34 && !(decide (m4 ≠ n40) || decide (kind ≠ n41))) = true → ∀ (w44 : World), w44.heap = w32.heap → Sem.run Try.prog (Instr.lookup 72 (Value.map p42) (Value.int
  IntKind.i64 i) false) w44 = Result.ok (Value.bool c43) w44) ∧ Br (decide (m4 < 1) || c34 && (decide (m4 ≠ n40) || decide (kind ≠ n41) || c43)) (∀ (w45 : World) (R46 : List Own), Ctx W w45
  (R ++ R46) Φ → J (Value.int IntKind.i64 (-1)) w45) (∀ (w47 : World) (R48 : List Own), Ctx W w47 (R ++ R48) Φ → Calls Try.prog F.checkpoint_Gate_barrier #[Value.pointer (some (Addr.mk gB gO
  none)), Value.int IntKind.i64 i, Value.int IntKind.i64 m4, Value.int IntKind.i64 kind] w47 fun (e49 : Ending) (w50 : World) => ∃ (n51 : Int), e49 = Ending.returned (Value.int IntKind.i64
  n51) ∧ ∃ (R52 : List Own), ∃ (Φ53 : PW), Stable Φ53 ∧ Ctx W w50 (R52 ++ R48) Φ53 ∧ ∀ (w54 : World) (R55 : List Own), Ctx W w54 (R52 ++ R55) Φ53 → J (Value.int IntKind.i64 n51) w54)))))

theorem Bcheckpoint_Gate_Arrive_run (gB gO : Nat) (i : Int) (m0 : Int) (m1 : Int) (m2 : Int) (m3 : Int) (m4 : Int) (m5P : Option Addr) (m5N m5C : Nat) (kind : Int) {W w : World} {R : List Own} {Φ : PW} [Stable Φ] {J : Value → World → Prop} (c : Ctx W w R Φ) (h : Bcheckpoint_Gate_Arrive gB gO i m0 m1 m2 m3 m4 m5P m5N m5C kind W R Φ J) : Calls Try.prog F.checkpoint_Gate_Arrive #[.pointer (some ⟨gB, gO, none⟩), .int .i64 i, .agg #[.int .i64 m0, .int .i64 m1, .int .i64 m2, .int .i64 m3, .int .i64 m4, .slice m5P m5N m5C], .int .i64 kind] w fun e w' => ∃ v, e = .returned v ∧ J v w' :=
  vcFS_sound (H := { keep := some [0, 1, 3, 6, 8, 9, 19, 38, 53, 69, 73], track := [6] }) (by rw [show vcFS Try.prog W { keep := some [0, 1, 3, 6, 8, 9, 19, 38, 53, 69, 73], track := [6] } F.checkpoint_Gate_Arrive #[.pointer (some ⟨gB, gO, none⟩), .int .i64 i, .agg #[.int .i64 m0, .int .i64 m1, .int .i64 m2, .int .i64 m3, .int .i64 m4, .slice m5P m5N m5C], .int .i64 kind] R Φ J = Bcheckpoint_Gate_Arrive gB gO i m0 m1 m2 m3 m4 m5P m5N m5C kind W R Φ J by kernel_rfl]; exact h) c

/-- erratalaw39.barrier -/
-- known blocks: 2 
def Berratalaw39_barrier (n : Int) (W : World) (R : List Own) (Φ : PW) (J : Value → World → Prop) : Prop :=
  ∀ (b : Nat) (w0 : World) (R1 : List Own), Ctx W w0 (R ++ R1) Φ → J (Value.agg #[Value.int IntKind.i64 1, Value.int IntKind.i64 0, Value.int IntKind.i64 0, Value.int IntKind.i64 0, Value.int
  IntKind.i64 n, Value.slice none 0 0]) w0

theorem Berratalaw39_barrier_run (n : Int) {W w : World} {R : List Own} {Φ : PW} [Stable Φ] {J : Value → World → Prop} (c : Ctx W w R Φ) (h : Berratalaw39_barrier n W R Φ J) : Calls Try.prog F.erratalaw39_barrier #[.int .i64 n] w fun e w' => ∃ v, e = .returned v ∧ J v w' :=
  vcFS_sound (H := { keep := some [0, 2], track := [2] }) (by rw [show vcFS Try.prog W { keep := some [0, 2], track := [2] } F.erratalaw39_barrier #[.int .i64 n] R Φ J = Berratalaw39_barrier n W R Φ J by kernel_rfl]; exact h) c

/-- channel.New -/
def Bchannel_New  (W : World) (R : List Own) (Φ : PW) (J : Value → World → Prop) : Prop :=
  ∀ (k0 : Nat) (w1 : World) (R2 : List Own), Ctx W w1 (Own.blk k0 [Value.int IntKind.i64 0, Value.int IntKind.i64 0, Value.int IntKind.i64 0, Value.int IntKind.i64 0, Value.int IntKind.i64 0,
  Value.slice none 0 0, Value.int IntKind.i64 0, Value.int IntKind.i64 0, Value.int IntKind.i64 0, Value.int IntKind.i64 0, Value.int IntKind.i64 0, Value.slice none 0 0, Value.int
  IntKind.i64 0, Value.int IntKind.i64 0, Value.int IntKind.i64 0, Value.int IntKind.i64 0, Value.int IntKind.i64 0, Value.slice none 0 0, Value.int IntKind.i64 0, Value.int IntKind.i64 0,
  Value.int IntKind.i64 0, Value.int IntKind.i64 0, Value.int IntKind.i64 0, Value.slice none 0 0, Value.int IntKind.i64 0, Value.int IntKind.i64 0, Value.int IntKind.i64 0] 71 :: R ++ R2) Φ
  → J (Value.pointer (some (Addr.mk k0 0 none))) w1

theorem Bchannel_New_run  {W w : World} {R : List Own} {Φ : PW} [Stable Φ] {J : Value → World → Prop} (c : Ctx W w R Φ) (h : Bchannel_New  W R Φ J) : Calls Try.prog F.channel_New #[] w fun e w' => ∃ v, e = .returned v ∧ J v w' :=
  vcFS_sound (H := { keep := some [0] }) (by rw [show vcFS Try.prog W { keep := some [0] } F.channel_New #[] R Φ J = Bchannel_New  W R Φ J by kernel_rfl]; exact h) c

/-- (*channel.Channel).Head -/
-- known blocks: 2 
def Bchannel_Channel_Head (cB cO : Nat) (W : World) (R : List Own) (Φ : PW) (J : Value → World → Prop) : Prop :=
  ∀ (b : Nat) (w0 : World) (R1 : List Own), Ctx W w0 (R ++ R1) Φ → ∃ (n2 : Int), w0.cell? (Addr.mk cB (cO + 25) none) = some (Value.int IntKind.i64 n2) ∧ Br (decide (n2 = 0)) (∀ (w3 : World)
  (R4 : List Own), Ctx W w3 (R ++ R4) Φ → J (Value.tuple #[Value.agg #[Value.int IntKind.i64 0, Value.int IntKind.i64 0, Value.int IntKind.i64 0, Value.int IntKind.i64 0, Value.int
  IntKind.i64 0, Value.slice none 0 0], Value.bool false]) w3) (∃ (R5 : List Own), ∃ (Φ6 : PW), Stable Φ6 ∧ (∀ (w7 : World) (R8 : List Own), Ctx W w7 (R ++ R8) Φ → Ctx W w7 (R5 ++ R8) Φ6) ∧ ∃
  (n9 : Int), (∀ (w10 : World) (R11 : List Own), Ctx W w10 (R5 ++ R11) Φ6 → ∃ (n12 : Int), w10.cell? (Addr.mk cB (cO + 24) none) = some (Value.int IntKind.i64 n12) ∧ Value.int IntKind.i64 n12
  = Value.int IntKind.i64 n9) ∧ (0 ≤ n9 ∧ n9 < 4) ∧ ∀ (w13 : World) (R14 : List Own), Ctx W w13 (R ++ R14) Φ → ∃ (n15 : Int), ∃ (n16 : Int), ∃ (n17 : Int), ∃ (n18 : Int), ∃ (n19 : Int), ∃
  (p20 : Option Addr), ∃ (k21 : Nat), ∃ (k22 : Nat), RowAt w13 cB (cO + n9.toNat * 6) [Value.int IntKind.i64 n15, Value.int IntKind.i64 n16, Value.int IntKind.i64 n17, Value.int IntKind.i64
  n18, Value.int IntKind.i64 n19, Value.slice p20 k21 k22] ∧ ∀ (w23 : World) (R24 : List Own), Ctx W w23 (R ++ R24) Φ → Calls Try.prog F.channel_clone #[Value.agg #[Value.int IntKind.i64 n15,
  Value.int IntKind.i64 n16, Value.int IntKind.i64 n17, Value.int IntKind.i64 n18, Value.int IntKind.i64 n19, Value.slice p20 k21 k22]] w23 fun (e25 : Ending) (w26 : World) => ∃ (n27 : Int),
  ∃ (n28 : Int), ∃ (n29 : Int), ∃ (n30 : Int), ∃ (n31 : Int), ∃ (p32 : Option Addr), ∃ (k33 : Nat), ∃ (k34 : Nat), e25 = Ending.returned (Value.agg #[Value.int IntKind.i64 n27, Value.int
  IntKind.i64 n28, Value.int IntKind.i64 n29, Value.int IntKind.i64 n30, Value.int IntKind.i64 n31, Value.slice p32 k33 k34]) ∧ ∃ (R35 : List Own), ∃ (Φ36 : PW), Stable Φ36 ∧ Ctx W w26 (R35
  ++ R24) Φ36 ∧ (∀ (w37 : World) (R38 : List Own), Ctx W w37 (R35 ++ R38) Φ36 → Ctx W w37 (R5 ++ R38) Φ6) ∧ (∀ (w39 : World) (R40 : List Own), Ctx W w39 (R35 ++ R40) Φ36 → Ctx W w39 (R5 ++
  R40) Φ6) ∧ ∀ (w41 : World) (R42 : List Own), Ctx W w41 (R35 ++ R42) Φ36 → J (Value.tuple #[Value.agg #[Value.int IntKind.i64 n27, Value.int IntKind.i64 n28, Value.int IntKind.i64 n29,
  Value.int IntKind.i64 n30, Value.int IntKind.i64 n31, Value.slice p32 k33 k34], Value.bool true]) w41)

theorem Bchannel_Channel_Head_run (cB cO : Nat) {W w : World} {R : List Own} {Φ : PW} [Stable Φ] {J : Value → World → Prop} (c : Ctx W w R Φ) (h : Bchannel_Channel_Head cB cO W R Φ J) : Calls Try.prog F.channel_Channel_Head #[.pointer (some ⟨cB, cO, none⟩)] w fun e w' => ∃ v, e = .returned v ∧ J v w' :=
  vcFS_sound (H := { keep := some [0, 2, 3, 8], track := [2], stages := [(3, [.late [8] [0, 1, 2, 5, 3, 6, 4, 7, 8] [(9, []), (10, [11])]])] }) (by rw [show vcFS Try.prog W { keep := some [0, 2, 3, 8], track := [2], stages := [(3, [.late [8] [0, 1, 2, 5, 3, 6, 4, 7, 8] [(9, []), (10, [11])]])] } F.channel_Channel_Head #[.pointer (some ⟨cB, cO, none⟩)] R Φ J = Bchannel_Channel_Head cB cO W R Φ J by kernel_rfl]; exact h) c

/-- (*erratalaw39.net).inbound -/
-- loop at region 3: 5 n, 6 k; blocks 
def Berratalaw39_net_inbound (xB xO : Nat) (edge : Int) (W : World) (R : List Own) (Φ : PW) (J : Value → World → Prop) : Prop :=
  exI fun (I0 : Int → Int → List Own → PW → Nat → Prop) => (∃ (R1 : List Own), ∃ (Φ2 : PW), ∃ (k3 : Nat), Stable Φ2 ∧ (∀ (w4 : World) (R5 : List Own), Ctx W w4 (R ++ R5) Φ → Ctx W w4 (R1 ++
  R5) Φ2) ∧ I0 0 0 R1 Φ2 k3) ∧ ∀ (n6 n7 : Int) (R8 : List Own) (I9 : List Nat → World → Prop) (k10 : Nat), Stable I9 → I0 n6 n7 R8 I9 k10 → Br (decide (n7 < edge)) (∀ (w11 : World) (R12 :
  List Own), Ctx W w11 (R8 ++ R12) I9 → ∃ (p13 : Option Addr), ∃ (k14 : Nat), ∃ (k15 : Nat), w11.cell? (Addr.mk xB xO none) = some (Value.slice p13 k14 k15) ∧ (0 ≤ n7 ∧ n7 < (↑k14 : Int)) ∧
  ptrK none p13 fun (k16 k17 : Nat) => ∃ (n18 : Int), w11.cell? (Addr.mk k16 (k17 + n7.toNat * 2 + 1) none) = some (Value.int IntKind.i64 n18) ∧ ∃ (p19 : Option Addr), ∃ (k20 : Nat), ∃ (k21 :
  Nat), w11.cell? (Addr.mk xB xO none) = some (Value.slice p19 k20 k21) ∧ (0 ≤ edge ∧ edge < (↑k20 : Int)) ∧ ptrK none p19 fun (k22 k23 : Nat) => ∃ (n24 : Int), w11.cell? (Addr.mk k22 (k23 +
  edge.toNat * 2 + 1) none) = some (Value.int IntKind.i64 n24) ∧ Br (decide (n18 = n24)) (I64 (n6 + 1) ∧ I64 (n7 + 1) ∧ ∃ (R25 : List Own), ∃ (Φ26 : PW), ∃ (k27 : Nat), Stable Φ26 ∧ (∀ (w28 :
  World) (R29 : List Own), Ctx W w28 (R8 ++ R29) I9 → Ctx W w28 (R25 ++ R29) Φ26) ∧ I0 (n6 + 1) (n7 + 1) R25 Φ26 k27 ∧ k27 < k10) (I64 (n7 + 1) ∧ ∃ (R30 : List Own), ∃ (Φ31 : PW), ∃ (k32 :
  Nat), Stable Φ31 ∧ (∀ (w33 : World) (R34 : List Own), Ctx W w33 (R8 ++ R34) I9 → Ctx W w33 (R30 ++ R34) Φ31) ∧ I0 n6 (n7 + 1) R30 Φ31 k32 ∧ k32 < k10)) (∀ (w35 : World) (R36 : List Own),
  Ctx W w35 (R8 ++ R36) I9 → J (Value.int IntKind.i64 n6) w35)

theorem Berratalaw39_net_inbound_run (xB xO : Nat) (edge : Int) {W w : World} {R : List Own} {Φ : PW} [Stable Φ] {J : Value → World → Prop} (c : Ctx W w R Φ) (h : Berratalaw39_net_inbound xB xO edge W R Φ J) : Calls Try.prog F.erratalaw39_net_inbound #[.pointer (some ⟨xB, xO, none⟩), .int .i64 edge] w fun e w' => ∃ v, e = .returned v ∧ J v w' :=
  vcFS_sound (H := { keep := some [0, 1, 4, 5, 6, 9, 28], loops := [(3, [(5, .one (.int .i64)), (6, .one (.int .i64))], [])] }) (by rw [show vcFS Try.prog W { keep := some [0, 1, 4, 5, 6, 9, 28], loops := [(3, [(5, .one (.int .i64)), (6, .one (.int .i64))], [])] } F.erratalaw39_net_inbound #[.pointer (some ⟨xB, xO, none⟩), .int .i64 edge] R Φ J = Berratalaw39_net_inbound xB xO edge W R Φ J by kernel_rfl]; exact h) c

/-- (*channel.Channel).Take -/
-- known blocks: 2 , 4 m
def Bchannel_Channel_Take (cB cO : Nat) (W : World) (R : List Own) (Φ : PW) (J : Value → World → Prop) : Prop :=
  ∀ (b : Nat) (w0 : World) (R1 : List Own), Ctx W w0 (R ++ R1) Φ → Calls Try.prog F.channel_Channel_Head #[Value.pointer (some (Addr.mk cB cO none))] w0 fun (e2 : Ending) (w3 : World) => ∃
  (n4 : Int), ∃ (n5 : Int), ∃ (n6 : Int), ∃ (n7 : Int), ∃ (n8 : Int), ∃ (p9 : Option Addr), ∃ (k10 : Nat), ∃ (k11 : Nat), ∃ (c12 : Bool), e2 = Ending.returned (Value.tuple #[Value.agg
  #[Value.int IntKind.i64 n4, Value.int IntKind.i64 n5, Value.int IntKind.i64 n6, Value.int IntKind.i64 n7, Value.int IntKind.i64 n8, Value.slice p9 k10 k11], Value.bool c12]) ∧ ∃ (R13 : List
  Own), ∃ (Φ14 : PW), Stable Φ14 ∧ Ctx W w3 (R13 ++ R1) Φ14 ∧ ∀ (b : Nat), Br (!c12) (∀ (w15 : World) (R16 : List Own), Ctx W w15 (R13 ++ R16) Φ14 → J (Value.tuple #[Value.agg #[Value.int
  IntKind.i64 n4, Value.int IntKind.i64 n5, Value.int IntKind.i64 n6, Value.int IntKind.i64 n7, Value.int IntKind.i64 n8, Value.slice p9 k10 k11], Value.int IntKind.i64 4]) w15) (∃ (R17 :
  List Own), ∃ (Φ18 : PW), Stable Φ18 ∧ (∀ (w19 : World) (R20 : List Own), Ctx W w19 (R13 ++ R20) Φ14 → Ctx W w19 (R17 ++ R20) Φ18) ∧ ∃ (n21 : Int), (∀ (w22 : World) (R23 : List Own), Ctx W
  w22 (R17 ++ R23) Φ18 → ∃ (n24 : Int), w22.cell? (Addr.mk cB (cO + 24) none) = some (Value.int IntKind.i64 n24) ∧ Value.int IntKind.i64 n24 = Value.int IntKind.i64 n21) ∧ (0 ≤ n21 ∧ n21 < 4)
  ∧ ∀ (w25 : World) (R26 : List Own), Ctx W w25 (R13 ++ R26) Φ14 → CanWrite w25 cB (cO + n21.toNat * 6) 6 ∧ ∀ (w27 : World), w27 = w25.setCells cB (cO + n21.toNat * 6) [Value.int IntKind.i64
  0, Value.int IntKind.i64 0, Value.int IntKind.i64 0, Value.int IntKind.i64 0, Value.int IntKind.i64 0, Value.slice none 0 0] → ∃ (R28 : List Own), ∃ (Φ29 : PW), Stable Φ29 ∧ Ctx W w27 (R28
  ++ R26) Φ29 ∧ ∀ (w30 : World) (R31 : List Own), Ctx W w30 (R28 ++ R31) Φ29 → ∃ (n32 : Int), w30.cell? (Addr.mk cB (cO + 24) none) = some (Value.int IntKind.i64 n32) ∧ I64 (n32 + 1) ∧ ((4 :
  Int) = 0 → False) ∧ ∀ (w33 : World) (R34 : List Own), Ctx W w33 (R28 ++ R34) Φ29 → CanWrite w33 cB (cO + 24) 1 ∧ ∀ (w35 : World), w35 = w33.setCell (Addr.mk cB (cO + 24) none) (Value.int
  IntKind.i64 ((n32 + 1).tmod 4)) → ∃ (R36 : List Own), ∃ (Φ37 : PW), Stable Φ37 ∧ Ctx W w35 (R36 ++ R34) Φ37 ∧ ∀ (w38 : World) (R39 : List Own), Ctx W w38 (R36 ++ R39) Φ37 → ∃ (n40 : Int),
  w38.cell? (Addr.mk cB (cO + 25) none) = some (Value.int IntKind.i64 n40) ∧ I64 (n40 - 1) ∧ ∀ (w41 : World) (R42 : List Own), Ctx W w41 (R36 ++ R42) Φ37 → CanWrite w41 cB (cO + 25) 1 ∧ ∀
  (w43 : World), w43 = w41.setCell (Addr.mk cB (cO + 25) none) (Value.int IntKind.i64 (n40 - 1)) → ∃ (R44 : List Own), ∃ (Φ45 : PW), Stable Φ45 ∧ Ctx W w43 (R44 ++ R42) Φ45 ∧ ∀ (w46 : World)
  (R47 : List Own), Ctx W w46 (R44 ++ R47) Φ45 → J (Value.tuple #[Value.agg #[Value.int IntKind.i64 n4, Value.int IntKind.i64 n5, Value.int IntKind.i64 n6, Value.int IntKind.i64 n7, Value.int
  IntKind.i64 n8, Value.slice p9 k10 k11], Value.int IntKind.i64 0]) w46)

theorem Bchannel_Channel_Take_run (cB cO : Nat) {W w : World} {R : List Own} {Φ : PW} [Stable Φ] {J : Value → World → Prop} (c : Ctx W w R Φ) (h : Bchannel_Channel_Take cB cO W R Φ J) : Calls Try.prog F.channel_Channel_Take #[.pointer (some ⟨cB, cO, none⟩)] w fun e w' => ∃ v, e = .returned v ∧ J v w' :=
  vcFS_sound (H := { keep := some [0, 2, 3, 4, 5, 12], track := [2, 4], stages := [(4, [.held [(0, true), (1, true), (5, true), (2, true), (6, true), (3, true), (7, true), (4, true), (8, true)], .stage [] (some 9)])] }) (by rw [show vcFS Try.prog W { keep := some [0, 2, 3, 4, 5, 12], track := [2, 4], stages := [(4, [.held [(0, true), (1, true), (5, true), (2, true), (6, true), (3, true), (7, true), (4, true), (8, true)], .stage [] (some 9)])] } F.channel_Channel_Take #[.pointer (some ⟨cB, cO, none⟩)] R Φ J = Bchannel_Channel_Take cB cO W R Φ J by kernel_rfl]; exact h) c

/-- (*erratalaw39.net).report -/
-- loop at region 10: 6 k; blocks 
-- loop at region 3: 4 first, 5 k; blocks 
-- known blocks: 7 y
def Berratalaw39_net_report (xB xO : Nat) (i : Int) (W : World) (R : List Own) (Φ : PW) (J : Value → World → Prop) : Prop :=
  ∀ (w0 : World) (R1 : List Own), Ctx W w0 (R ++ R1) Φ → ∃ (p2 : Option Addr), ∃ (k3 : Nat), ∃ (k4 : Nat), w0.cell? (Addr.mk xB (xO + 4) none) = some (Value.slice p2 k3 k4) ∧ (0 ≤ i ∧ i <
  (↑k3 : Int)) ∧ ptrK none p2 fun (k5 k6 : Nat) => ∀ (w7 : World) (R8 : List Own), Ctx W w7 (R ++ R8) Φ → CanWrite w7 k5 (k6 + i.toNat) 1 ∧ ∀ (w9 : World), w9 = w7.setCell (Addr.mk k5 (k6 +
  i.toNat) none) (Value.bool true) → ∃ (R10 : List Own), ∃ (Φ11 : PW), Stable Φ11 ∧ Ctx W w9 (R10 ++ R8) Φ11 ∧ exI fun (I12 : Option Addr → Nat → Nat → Int → List Own → PW → Nat → Prop) => (∃
  (R13 : List Own), ∃ (Φ14 : PW), ∃ (k15 : Nat), Stable Φ14 ∧ (∀ (w16 : World) (R17 : List Own), Ctx W w16 (R10 ++ R17) Φ11 → Ctx W w16 (R13 ++ R17) Φ14) ∧ I12 none 0 0 0 R13 Φ14 k15) ∧ ∀
  (p18 : Option Addr) (k19 k20 : Nat) (n21 : Int) (R22 : List Own) (I23 : List Nat → World → Prop) (k24 : Nat), Stable I23 → I12 p18 k19 k20 n21 R22 I23 k24 → ∀ (w25 : World) (R26 : List
  Own), Ctx W w25 (R22 ++ R26) I23 → ∃ (p27 : Option Addr), ∃ (k28 : Nat), ∃ (k29 : Nat), w25.cell? (Addr.mk xB xO none) = some (Value.slice p27 k28 k29) ∧ Br (decide (n21 < (↑k28 : Int))) (∀
  (w30 : World) (R31 : List Own), Ctx W w30 (R22 ++ R31) I23 → ∃ (p32 : Option Addr), ∃ (k33 : Nat), ∃ (k34 : Nat), w30.cell? (Addr.mk xB xO none) = some (Value.slice p32 k33 k34) ∧ (0 ≤ n21
  ∧ n21 < (↑k33 : Int)) ∧ ptrK none p32 fun (k35 k36 : Nat) => ∀ (w37 : World) (R38 : List Own), Ctx W w37 (R22 ++ R38) I23 → ∃ (n39 : Int), w37.cell? (Addr.mk k35 (k36 + n21.toNat * 2) none)
  = some (Value.int IntKind.i64 n39) ∧ Br (decide (n39 = i)) (∀ (w40 : World) (R41 : List Own), Ctx W w40 (R22 ++ R41) I23 → ∃ (n42 : Int), w40.cell? (Addr.mk xB (xO + 10) none) = some
  (Value.int IntKind.i64 n42) ∧ ∀ (w43 : World) (R44 : List Own), Ctx W w43 (R22 ++ R44) I23 → Calls Try.prog F.erratalaw39_barrier #[Value.int IntKind.i64 n42] w43 fun (e45 : Ending) (w46 :
  World) => ∃ (n47 : Int), ∃ (n48 : Int), ∃ (n49 : Int), ∃ (n50 : Int), ∃ (n51 : Int), ∃ (p52 : Option Addr), ∃ (k53 : Nat), ∃ (k54 : Nat), e45 = Ending.returned (Value.agg #[Value.int
  IntKind.i64 n47, Value.int IntKind.i64 n48, Value.int IntKind.i64 n49, Value.int IntKind.i64 n50, Value.int IntKind.i64 n51, Value.slice p52 k53 k54]) ∧ ∃ (R55 : List Own), ∃ (Φ56 : PW),
  Stable Φ56 ∧ Ctx W w46 (R55 ++ R44) Φ56 ∧ ∀ (k57 : Nat) (w58 : World) (R59 : List Own), Ctx W w58 (Own.blk k57 [Value.int IntKind.i64 n21, Value.int IntKind.i64 n47, Value.int IntKind.i64
  n48, Value.int IntKind.i64 n49, Value.int IntKind.i64 n50, Value.int IntKind.i64 n51, Value.slice p52 k53 k54] 57 :: R55 ++ R59) Φ56 → ∃ (p60 : Option Addr), ∃ (k61 : Nat), ∃ (k62 : Nat), ∃
  (w63 : World), Sem.run Try.prog (builtin Builtin.append #[33, 33] 33 #[false, false] #[Value.slice p18 k19 k20, Value.slice (some (Addr.mk k57 0 none)) 1 1]) w58 = Result.ok (Next.value
  (Value.slice p60 k61 k62)) w63 ∧ ∃ (R64 : List Own), ∃ (Φ65 : PW), Stable Φ65 ∧ Ctx W w63 (R64 ++ R59) Φ65 ∧ I64 (n21 + 1) ∧ ∃ (R66 : List Own), ∃ (Φ67 : PW), ∃ (k68 : Nat), Stable Φ67 ∧ (∀
  (w69 : World) (R70 : List Own), Ctx W w69 (R64 ++ R70) Φ65 → Ctx W w69 (R66 ++ R70) Φ67) ∧ I12 p60 k61 k62 (n21 + 1) R66 Φ67 k68 ∧ k68 < k24) (I64 (n21 + 1) ∧ ∃ (R71 : List Own), ∃ (Φ72 :
  PW), ∃ (k73 : Nat), Stable Φ72 ∧ (∀ (w74 : World) (R75 : List Own), Ctx W w74 (R22 ++ R75) I23 → Ctx W w74 (R71 ++ R75) Φ72) ∧ I12 p18 k19 k20 (n21 + 1) R71 Φ72 k73 ∧ k73 < k24)) (∀ (w76 :
  World) (R77 : List Own), Ctx W w76 (R22 ++ R77) I23 → ∃ (n78 : Int), w76.cell? (Addr.mk xB (xO + 9) none) = some (Value.int IntKind.i64 n78) ∧ Br (decide (n78 = 0)) (∃ (R79 : List Own), ∃
  (Φ80 : PW), Stable Φ80 ∧ (∀ (w81 : World) (R82 : List Own), Ctx W w81 (R22 ++ R82) I23 → Ctx W w81 (R79 ++ R82) Φ80) ∧ ∃ (p83 : Option Addr), ∃ (k84 : Nat), ∃ (k85 : Nat), (∀ (w86 : World)
  (R87 : List Own), Ctx W w86 (R79 ++ R87) Φ80 → ∃ (p88 : Option Addr), ∃ (k89 : Nat), ∃ (k90 : Nat), w86.cell? (Addr.mk xB (xO + 3) none) = some (Value.slice p88 k89 k90) ∧ Value.slice p88
  k89 k90 = Value.slice p83 k84 k85) ∧ ∃ (p91 : Option Addr), ∃ (k92 : Nat), ∃ (k93 : Nat), (∀ (w94 : World) (R95 : List Own), Ctx W w94 (R79 ++ R95) Φ80 → ∃ (p96 : Option Addr), ∃ (k97 :
  Nat), ∃ (k98 : Nat), w94.cell? (Addr.mk xB (xO + 3) none) = some (Value.slice p96 k97 k98) ∧ Value.slice p96 k97 k98 = Value.slice p91 k92 k93) ∧ (0 ≤ i ∧ i < (↑k92 : Int)) ∧ ptrK none p91
  fun (k99 k100 : Nat) => ∃ (p101 : Option Addr), ∃ (k102 : Nat), ∃ (k103 : Nat), (∀ (w104 : World) (R105 : List Own), Ctx W w104 (R79 ++ R105) Φ80 → ∃ (p106 : Option Addr), ∃ (k107 : Nat), ∃
  (k108 : Nat), w104.cell? (Addr.mk k99 (k100 + i.toNat) none) = some (Value.slice p106 k107 k108) ∧ Value.slice p106 k107 k108 = Value.slice p101 k102 k103) ∧ ∀ (w109 : World) (R110 : List
  Own), Ctx W w109 (R22 ++ R110) I23 → ∃ (p111 : Option Addr), ∃ (k112 : Nat), ∃ (k113 : Nat), ∃ (w114 : World), Sem.run Try.prog (builtin Builtin.append #[33, 33] 33 #[false, false]
  #[Value.slice p101 k102 k103, Value.slice p18 k19 k20]) w109 = Result.ok (Next.value (Value.slice p111 k112 k113)) w114 ∧ ∃ (R115 : List Own), ∃ (Φ116 : PW), Stable Φ116 ∧ Ctx W w114 (R115
  ++ R110) Φ116 ∧ (∀ (w117 : World) (R118 : List Own), Ctx W w117 (R115 ++ R118) Φ116 → Ctx W w117 (R79 ++ R118) Φ80) ∧ (0 ≤ i ∧ i < (↑k84 : Int)) ∧ ptrK none p83 fun (k119 k120 : Nat) => ∀
  (w121 : World) (R122 : List Own), Ctx W w121 (R115 ++ R122) Φ116 → CanWrite w121 k119 (k120 + i.toNat) 1 ∧ ∀ (w123 : World), w123 = w121.setCell (Addr.mk k119 (k120 + i.toNat) none)
  (Value.slice p111 k112 k113) → ∃ (R124 : List Own), ∃ (Φ125 : PW), Stable Φ125 ∧ Ctx W w123 (R124 ++ R122) Φ125 ∧ ∀ (w126 : World) (R127 : List Own), Ctx W w126 (R124 ++ R127) Φ125 → J
  (Value.tuple #[]) w126) (exI fun (I128 : Int → List Own → PW → Nat → Prop) => (∃ (R129 : List Own), ∃ (Φ130 : PW), ∃ (k131 : Nat), Stable Φ130 ∧ (∀ (w132 : World) (R133 : List Own), Ctx W
  w132 (R22 ++ R133) I23 → Ctx W w132 (R129 ++ R133) Φ130) ∧ I128 0 R129 Φ130 k131) ∧ ∀ (n134 : Int) (R135 : List Own) (I136 : List Nat → World → Prop) (k137 : Nat), Stable I136 → I128 n134
  R135 I136 k137 → ∀ (w138 : World) (R139 : List Own), Ctx W w138 (R135 ++ R139) I136 → ∃ (p140 : Option Addr), ∃ (k141 : Nat), ∃ (k142 : Nat), w138.cell? (Addr.mk xB (xO + 3) none) = some
  (Value.slice p140 k141 k142) ∧ (0 ≤ i ∧ i < (↑k141 : Int)) ∧ ptrK none p140 fun (k143 k144 : Nat) => ∀ (w145 : World) (R146 : List Own), Ctx W w145 (R135 ++ R146) I136 → ∃ (p147 : Option
  Addr), ∃ (k148 : Nat), ∃ (k149 : Nat), w145.cell? (Addr.mk k143 (k144 + i.toNat) none) = some (Value.slice p147 k148 k149) ∧ Br (decide (n134 < (↑k148 : Int))) (∀ (w150 : World) (R151 :
  List Own), Ctx W w150 (R135 ++ R151) I136 → ∃ (p152 : Option Addr), ∃ (k153 : Nat), ∃ (k154 : Nat), w150.cell? (Addr.mk xB (xO + 3) none) = some (Value.slice p152 k153 k154) ∧ (0 ≤ i ∧ i <
  (↑k153 : Int)) ∧ ptrK none p152 fun (k155 k156 : Nat) => ∀ (w157 : World) (R158 : List Own), Ctx W w157 (R135 ++ R158) I136 → ∃ (p159 : Option Addr), ∃ (k160 : Nat), ∃ (k161 : Nat),
  w157.cell? (Addr.mk k155 (k156 + i.toNat) none) = some (Value.slice p159 k160 k161) ∧ (0 ≤ n134 ∧ n134 < (↑k160 : Int)) ∧ ptrK none p159 fun (k162 k163 : Nat) => ∀ (w164 : World) (R165 :
  List Own), Ctx W w164 (R135 ++ R165) I136 → ∃ (n166 : Int), ∃ (n167 : Int), ∃ (n168 : Int), ∃ (n169 : Int), ∃ (n170 : Int), ∃ (n171 : Int), ∃ (p172 : Option Addr), ∃ (k173 : Nat), ∃ (k174 :
  Nat), RowAt w164 k162 (k163 + n134.toNat * 7) [Value.int IntKind.i64 n166, Value.int IntKind.i64 n167, Value.int IntKind.i64 n168, Value.int IntKind.i64 n169, Value.int IntKind.i64 n170,
  Value.int IntKind.i64 n171, Value.slice p172 k173 k174] ∧ ∀ (b : Nat), ∃ (R175 : List Own), ∃ (Φ176 : PW), Stable Φ176 ∧ (∀ (w177 : World) (R178 : List Own), Ctx W w177 (R135 ++ R178) I136
  → Ctx W w177 (R175 ++ R178) Φ176) ∧ ∃ (p179 : Option Addr), ∃ (k180 : Nat), ∃ (k181 : Nat), (∀ (w182 : World) (R183 : List Own), Ctx W w182 (R175 ++ R183) Φ176 → ∃ (p184 : Option Addr), ∃
  (k185 : Nat), ∃ (k186 : Nat), w182.cell? (Addr.mk xB (xO + 6) none) = some (Value.slice p184 k185 k186) ∧ Value.slice p184 k185 k186 = Value.slice p179 k180 k181) ∧ ∃ (p187 : Option Addr),
  ∃ (k188 : Nat), ∃ (k189 : Nat), (∀ (w190 : World) (R191 : List Own), Ctx W w190 (R175 ++ R191) Φ176 → ∃ (p192 : Option Addr), ∃ (k193 : Nat), ∃ (k194 : Nat), w190.cell? (Addr.mk xB (xO + 6)
  none) = some (Value.slice p192 k193 k194) ∧ Value.slice p192 k193 k194 = Value.slice p187 k188 k189) ∧ (0 ≤ n166 ∧ n166 < (↑k188 : Int)) ∧ ptrK none p187 fun (k195 k196 : Nat) => ∃ (p197 :
  Option Addr), ∃ (k198 : Nat), ∃ (k199 : Nat), (∀ (w200 : World) (R201 : List Own), Ctx W w200 (R175 ++ R201) Φ176 → ∃ (p202 : Option Addr), ∃ (k203 : Nat), ∃ (k204 : Nat), w200.cell?
  (Addr.mk k195 (k196 + n166.toNat) none) = some (Value.slice p202 k203 k204) ∧ Value.slice p202 k203 k204 = Value.slice p197 k198 k199) ∧ ∀ (k205 : Nat), (∀ (w206 : World) (R207 : List Own),
  Ctx W w206 (Own.blk k205 [Value.int IntKind.i64 n171] 3 :: R135 ++ R207) I136 → Ctx W w206 (R175 ++ R207) Φ176) ∧ ∀ (w208 : World) (R209 : List Own), Ctx W w208 (Own.blk k205 [Value.int
  IntKind.i64 n171] 3 :: R135 ++ R209) I136 → ∃ (p210 : Option Addr), ∃ (k211 : Nat), ∃ (k212 : Nat), ∃ (w213 : World), Sem.run Try.prog (builtin Builtin.append #[58, 58] 58 #[false, false]
  #[Value.slice p197 k198 k199, Value.slice (some (Addr.mk k205 0 none)) 1 1]) w208 = Result.ok (Next.value (Value.slice p210 k211 k212)) w213 ∧ ∃ (R214 : List Own), ∃ (Φ215 : PW), Stable
  Φ215 ∧ Ctx W w213 (R214 ++ R209) Φ215 ∧ (∀ (w216 : World) (R217 : List Own), Ctx W w216 (R214 ++ R217) Φ215 → Ctx W w216 (R175 ++ R217) Φ176) ∧ (0 ≤ n166 ∧ n166 < (↑k180 : Int)) ∧ ptrK none
  p179 fun (k218 k219 : Nat) => ∀ (w220 : World) (R221 : List Own), Ctx W w220 (R214 ++ R221) Φ215 → CanWrite w220 k218 (k219 + n166.toNat) 1 ∧ ∀ (w222 : World), w222 = w220.setCell (Addr.mk
  k218 (k219 + n166.toNat) none) (Value.slice p210 k211 k212) → ∃ (R223 : List Own), ∃ (Φ224 : PW), Stable Φ224 ∧ Ctx W w222 (R223 ++ R221) Φ224 ∧ I64 (n134 + 1) ∧ ∃ (R225 : List Own), ∃
  (Φ226 : PW), ∃ (k227 : Nat), Stable Φ226 ∧ (∀ (w228 : World) (R229 : List Own), Ctx W w228 (R223 ++ R229) Φ224 → Ctx W w228 (R225 ++ R229) Φ226) ∧ I128 (n134 + 1) R225 Φ226 k227 ∧ k227 <
  k137) (∃ (R230 : List Own), ∃ (Φ231 : PW), Stable Φ231 ∧ (∀ (w232 : World) (R233 : List Own), Ctx W w232 (R135 ++ R233) I136 → Ctx W w232 (R230 ++ R233) Φ231) ∧ ∃ (p234 : Option Addr), ∃
  (k235 : Nat), ∃ (k236 : Nat), (∀ (w237 : World) (R238 : List Own), Ctx W w237 (R230 ++ R238) Φ231 → ∃ (p239 : Option Addr), ∃ (k240 : Nat), ∃ (k241 : Nat), w237.cell? (Addr.mk xB (xO + 3)
  none) = some (Value.slice p239 k240 k241) ∧ Value.slice p239 k240 k241 = Value.slice p234 k235 k236) ∧ ∃ (p242 : Option Addr), ∃ (k243 : Nat), ∃ (k244 : Nat), (∀ (w245 : World) (R246 : List
  Own), Ctx W w245 (R230 ++ R246) Φ231 → ∃ (p247 : Option Addr), ∃ (k248 : Nat), ∃ (k249 : Nat), w245.cell? (Addr.mk xB (xO + 3) none) = some (Value.slice p247 k248 k249) ∧ Value.slice p247
  k248 k249 = Value.slice p242 k243 k244) ∧ (0 ≤ i ∧ i < (↑k243 : Int)) ∧ ptrK none p242 fun (k250 k251 : Nat) => ∃ (p252 : Option Addr), ∃ (k253 : Nat), ∃ (k254 : Nat), (∀ (w255 : World)
  (R256 : List Own), Ctx W w255 (R230 ++ R256) Φ231 → ∃ (p257 : Option Addr), ∃ (k258 : Nat), ∃ (k259 : Nat), w255.cell? (Addr.mk k250 (k251 + i.toNat) none) = some (Value.slice p257 k258
  k259) ∧ Value.slice p257 k258 k259 = Value.slice p252 k253 k254) ∧ ∀ (w260 : World) (R261 : List Own), Ctx W w260 (R135 ++ R261) I136 → ∃ (p262 : Option Addr), ∃ (k263 : Nat), ∃ (k264 :
  Nat), ∃ (w265 : World), Sem.run Try.prog (builtin Builtin.append #[33, 33] 33 #[false, false] #[Value.slice p18 k19 k20, Value.slice p252 k253 k254]) w260 = Result.ok (Next.value
  (Value.slice p262 k263 k264)) w265 ∧ ∃ (R266 : List Own), ∃ (Φ267 : PW), Stable Φ267 ∧ Ctx W w265 (R266 ++ R261) Φ267 ∧ (∀ (w268 : World) (R269 : List Own), Ctx W w268 (R266 ++ R269) Φ267 →
  Ctx W w268 (R230 ++ R269) Φ231) ∧ (0 ≤ i ∧ i < (↑k235 : Int)) ∧ ptrK none p234 fun (k270 k271 : Nat) => ∀ (w272 : World) (R273 : List Own), Ctx W w272 (R266 ++ R273) Φ267 → CanWrite w272
  k270 (k271 + i.toNat) 1 ∧ ∀ (w274 : World), w274 = w272.setCell (Addr.mk k270 (k271 + i.toNat) none) (Value.slice p262 k263 k264) → ∃ (R275 : List Own), ∃ (Φ276 : PW), Stable Φ276 ∧ Ctx W
  w274 (R275 ++ R273) Φ276 ∧ ∀ (w277 : World) (R278 : List Own), Ctx W w277 (R275 ++ R278) Φ276 → J (Value.tuple #[]) w277)))

theorem Berratalaw39_net_report_run (xB xO : Nat) (i : Int) {W w : World} {R : List Own} {Φ : PW} [Stable Φ] {J : Value → World → Prop} (c : Ctx W w R Φ) (h : Berratalaw39_net_report xB xO i W R Φ J) : Calls Try.prog F.erratalaw39_net_report #[.pointer (some ⟨xB, xO, none⟩), .int .i64 i] w fun e w' => ∃ v, e = .returned v ∧ J v w' :=
  vcFS_sound (H := { keep := some [0, 1, 4, 5, 6, 7, 20, 32, 47, 72], track := [7], stages := [(8, [.held [(0, true), (4, true), (5, true), (9, true), (12, true), (1, true), (6, true), (2, true), (7, true), (3, true), (8, true), (10, true), (11, true), (13, false)], .stage [14] (some 15)]), (13, [.held [(0, true), (4, true), (6, true), (10, true), (14, true), (1, true), (5, true), (7, true), (11, true), (15, true), (2, true), (8, true), (16, true), (3, true), (9, true), (12, true), (13, true), (17, false), (18, false)], .stage [19] (some 20)]), (14, [.held [(0, true), (4, true), (5, true), (6, true), (10, true), (1, true), (7, true), (2, true), (8, true), (3, true), (9, true), (11, true), (12, true), (13, false)], .stage [14] (some 15)])], loops := [(10, [(6, .one (.int .i64))], []), (3, [(4, .one (.slice)), (5, .one (.int .i64))], [])] }) (by rw [show vcFS Try.prog W { keep := some [0, 1, 4, 5, 6, 7, 20, 32, 47, 72], track := [7], stages := [(8, [.held [(0, true), (4, true), (5, true), (9, true), (12, true), (1, true), (6, true), (2, true), (7, true), (3, true), (8, true), (10, true), (11, true), (13, false)], .stage [14] (some 15)]), (13, [.held [(0, true), (4, true), (6, true), (10, true), (14, true), (1, true), (5, true), (7, true), (11, true), (15, true), (2, true), (8, true), (16, true), (3, true), (9, true), (12, true), (13, true), (17, false), (18, false)], .stage [19] (some 20)]), (14, [.held [(0, true), (4, true), (5, true), (6, true), (10, true), (1, true), (7, true), (2, true), (8, true), (3, true), (9, true), (11, true), (12, true), (13, false)], .stage [14] (some 15)])], loops := [(10, [(6, .one (.int .i64))], []), (3, [(4, .one (.slice)), (5, .one (.int .i64))], [])] } F.erratalaw39_net_report #[.pointer (some ⟨xB, xO, none⟩), .int .i64 i] R Φ J = Berratalaw39_net_report xB xO i W R Φ J by kernel_rfl]; exact h) c

/-- (*channel.Channel).List -/
-- loop at region 3: 3 out, 9 ; blocks 
def Bchannel_Channel_List (cB cO : Nat) (W : World) (R : List Own) (Φ : PW) (J : Value → World → Prop) : Prop :=
  ∀ (w0 : World) (R1 : List Own), Ctx W w0 (R ++ R1) Φ → ∃ (n2 : Int), w0.cell? (Addr.mk cB (cO + 25) none) = some (Value.int IntKind.i64 n2) ∧ exI fun (I3 : Option Addr → Nat → Nat → Int →
  List Own → PW → Nat → Prop) => (∃ (R4 : List Own), ∃ (Φ5 : PW), ∃ (k6 : Nat), Stable Φ5 ∧ (∀ (w7 : World) (R8 : List Own), Ctx W w7 (R ++ R8) Φ → Ctx W w7 (R4 ++ R8) Φ5) ∧ I3 none 0 0 0 R4
  Φ5 k6) ∧ ∀ (p9 : Option Addr) (k10 k11 : Nat) (n12 : Int) (R13 : List Own) (I14 : List Nat → World → Prop) (k15 : Nat), Stable I14 → I3 p9 k10 k11 n12 R13 I14 k15 → Br (decide (n12 < n2))
  (∃ (R16 : List Own), ∃ (Φ17 : PW), Stable Φ17 ∧ (∀ (w18 : World) (R19 : List Own), Ctx W w18 (R13 ++ R19) I14 → Ctx W w18 (R16 ++ R19) Φ17) ∧ ∃ (n20 : Int), (∀ (w21 : World) (R22 : List
  Own), Ctx W w21 (R16 ++ R22) Φ17 → ∃ (n23 : Int), w21.cell? (Addr.mk cB (cO + 24) none) = some (Value.int IntKind.i64 n23) ∧ Value.int IntKind.i64 n23 = Value.int IntKind.i64 n20) ∧ I64
  (n20 + n12) ∧ ((4 : Int) = 0 → False) ∧ (0 ≤ (n20 + n12).tmod 4 ∧ (n20 + n12).tmod (4 : Int) < 4) ∧ ∃ (n24 : Int), ∃ (n25 : Int), ∃ (n26 : Int), ∃ (n27 : Int), ∃ (n28 : Int), ∃ (p29 :
  Option Addr), ∃ (k30 : Nat), ∃ (k31 : Nat), (∀ (w32 : World) (R33 : List Own), Ctx W w32 (R16 ++ R33) Φ17 → ∃ (n34 : Int), ∃ (n35 : Int), ∃ (n36 : Int), ∃ (n37 : Int), ∃ (n38 : Int), ∃ (p39
  : Option Addr), ∃ (k40 : Nat), ∃ (k41 : Nat), RowAt w32 cB (cO + ((n20 + n12).tmod 4).toNat * 6) [Value.int IntKind.i64 n34, Value.int IntKind.i64 n35, Value.int IntKind.i64 n36, Value.int
  IntKind.i64 n37, Value.int IntKind.i64 n38, Value.slice p39 k40 k41] ∧ Value.agg #[Value.int IntKind.i64 n34, Value.int IntKind.i64 n35, Value.int IntKind.i64 n36, Value.int IntKind.i64
  n37, Value.int IntKind.i64 n38, Value.slice p39 k40 k41] = Value.agg #[Value.int IntKind.i64 n24, Value.int IntKind.i64 n25, Value.int IntKind.i64 n26, Value.int IntKind.i64 n27, Value.int
  IntKind.i64 n28, Value.slice p29 k30 k31]) ∧ ∀ (w42 : World) (R43 : List Own), Ctx W w42 (R13 ++ R43) I14 → Calls Try.prog F.channel_clone #[Value.agg #[Value.int IntKind.i64 n24, Value.int
  IntKind.i64 n25, Value.int IntKind.i64 n26, Value.int IntKind.i64 n27, Value.int IntKind.i64 n28, Value.slice p29 k30 k31]] w42 fun (e44 : Ending) (w45 : World) => ∃ (n46 : Int), ∃ (n47 :
  Int), ∃ (n48 : Int), ∃ (n49 : Int), ∃ (n50 : Int), ∃ (p51 : Option Addr), ∃ (k52 : Nat), ∃ (k53 : Nat), e44 = Ending.returned (Value.agg #[Value.int IntKind.i64 n46, Value.int IntKind.i64
  n47, Value.int IntKind.i64 n48, Value.int IntKind.i64 n49, Value.int IntKind.i64 n50, Value.slice p51 k52 k53]) ∧ ∃ (R54 : List Own), ∃ (Φ55 : PW), Stable Φ55 ∧ Ctx W w45 (R54 ++ R43) Φ55 ∧
  (∀ (w56 : World) (R57 : List Own), Ctx W w56 (R54 ++ R57) Φ55 → Ctx W w56 (R16 ++ R57) Φ17) ∧ ∀ (k58 : Nat), (∀ (w59 : World) (R60 : List Own), Ctx W w59 (Own.blk k58 [Value.int IntKind.i64
  n46, Value.int IntKind.i64 n47, Value.int IntKind.i64 n48, Value.int IntKind.i64 n49, Value.int IntKind.i64 n50, Value.slice p51 k52 k53] 44 :: R54 ++ R60) Φ55 → Ctx W w59 (R16 ++ R60) Φ17)
  ∧ ∀ (w61 : World) (R62 : List Own), Ctx W w61 (Own.blk k58 [Value.int IntKind.i64 n46, Value.int IntKind.i64 n47, Value.int IntKind.i64 n48, Value.int IntKind.i64 n49, Value.int IntKind.i64
  n50, Value.slice p51 k52 k53] 44 :: R54 ++ R62) Φ55 → ∃ (p63 : Option Addr), ∃ (k64 : Nat), ∃ (k65 : Nat), ∃ (w66 : World), Sem.run Try.prog (builtin Builtin.append #[66, 66] 66 #[false,
  false] #[Value.slice p9 k10 k11, Value.slice (some (Addr.mk k58 0 none)) 1 1]) w61 = Result.ok (Next.value (Value.slice p63 k64 k65)) w66 ∧ ∃ (R67 : List Own), ∃ (Φ68 : PW), Stable Φ68 ∧
  Ctx W w66 (R67 ++ R62) Φ68 ∧ I64 (n12 + 1) ∧ ∃ (R69 : List Own), ∃ (Φ70 : PW), ∃ (k71 : Nat), Stable Φ70 ∧ (∀ (w72 : World) (R73 : List Own), Ctx W w72 (R67 ++ R73) Φ68 → Ctx W w72 (R69 ++
  R73) Φ70) ∧ I3 p63 k64 k65 (n12 + 1) R69 Φ70 k71 ∧ k71 < k15) (∀ (w74 : World) (R75 : List Own), Ctx W w74 (R13 ++ R75) I14 → J (Value.slice p9 k10 k11) w74)

theorem Bchannel_Channel_List_run (cB cO : Nat) {W w : World} {R : List Own} {Φ : PW} [Stable Φ] {J : Value → World → Prop} (c : Ctx W w R Φ) (h : Bchannel_Channel_List cB cO W R Φ J) : Calls Try.prog F.channel_Channel_List #[.pointer (some ⟨cB, cO, none⟩)] w fun e w' => ∃ v, e = .returned v ∧ J v w' :=
  vcFS_sound (H := { keep := some [0, 2, 3, 4, 8, 9, 10], stages := [(5, [.held [(0, true), (1, true), (2, true), (6, true), (3, true), (9, true), (4, true), (10, true), (5, true), (7, true), (8, true), (11, true), (12, true), (13, false), (14, false)], .stage [] (some 15), .stage [16] none])], loops := [(3, [(3, .one (.slice)), (9, .one (.int .i64))], [])] }) (by rw [show vcFS Try.prog W { keep := some [0, 2, 3, 4, 8, 9, 10], stages := [(5, [.held [(0, true), (1, true), (2, true), (6, true), (3, true), (9, true), (4, true), (10, true), (5, true), (7, true), (8, true), (11, true), (12, true), (13, false), (14, false)], .stage [] (some 15), .stage [16] none])], loops := [(3, [(3, .one (.slice)), (9, .one (.int .i64))], [])] } F.channel_Channel_List #[.pointer (some ⟨cB, cO, none⟩)] R Φ J = Bchannel_Channel_List cB cO W R Φ J by kernel_rfl]; exact h) c

/-- (*channel.Channel).Send -/
-- known blocks: 3 m
def Bchannel_Channel_Send (cB cO : Nat) (m0 : Int) (m1 : Int) (m2 : Int) (m3 : Int) (m4 : Int) (m5P : Option Addr) (m5N m5C : Nat) (W : World) (R : List Own) (Φ : PW) (J : Value → World → Prop) : Prop :=
  ∀ (b : Nat) (w0 : World) (R1 : List Own), Ctx W w0 (R ++ R1) Φ → Calls Try.prog F.channel_Right #[Value.agg #[Value.int IntKind.i64 m0, Value.int IntKind.i64 m1, Value.int IntKind.i64 m2,
  Value.int IntKind.i64 m3, Value.int IntKind.i64 m4, Value.slice m5P m5N m5C]] w0 fun (e2 : Ending) (w3 : World) => ∃ (c4 : Bool), e2 = Ending.returned (Value.bool c4) ∧ ∃ (R5 : List Own), ∃
  (Φ6 : PW), Stable Φ6 ∧ Ctx W w3 (R5 ++ R1) Φ6 ∧ Br (!c4) (∀ (w7 : World) (R8 : List Own), Ctx W w7 (R5 ++ R8) Φ6 → J (Value.int IntKind.i64 1) w7) (∀ (w9 : World) (R10 : List Own), Ctx W w9
  (R5 ++ R10) Φ6 → ∃ (n11 : Int), w9.cell? (Addr.mk cB (cO + 25) none) = some (Value.int IntKind.i64 n11) ∧ Br (decide (n11 = 4)) (∀ (w12 : World) (R13 : List Own), Ctx W w12 (R5 ++ R13) Φ6 →
  J (Value.int IntKind.i64 27) w12) (∃ (R14 : List Own), ∃ (Φ15 : PW), Stable Φ15 ∧ (∀ (w16 : World) (R17 : List Own), Ctx W w16 (R5 ++ R17) Φ6 → Ctx W w16 (R14 ++ R17) Φ15) ∧ ∃ (n18 : Int),
  (∀ (w19 : World) (R20 : List Own), Ctx W w19 (R14 ++ R20) Φ15 → ∃ (n21 : Int), w19.cell? (Addr.mk cB (cO + 24) none) = some (Value.int IntKind.i64 n21) ∧ Value.int IntKind.i64 n21 =
  Value.int IntKind.i64 n18) ∧ ∃ (n22 : Int), (∀ (w23 : World) (R24 : List Own), Ctx W w23 (R14 ++ R24) Φ15 → ∃ (n25 : Int), w23.cell? (Addr.mk cB (cO + 25) none) = some (Value.int
  IntKind.i64 n25) ∧ Value.int IntKind.i64 n25 = Value.int IntKind.i64 n22) ∧ I64 (n18 + n22) ∧ ((4 : Int) = 0 → False) ∧ ∀ (w26 : World) (R27 : List Own), Ctx W w26 (R5 ++ R27) Φ6 → Calls
  Try.prog F.channel_clone #[Value.agg #[Value.int IntKind.i64 m0, Value.int IntKind.i64 m1, Value.int IntKind.i64 m2, Value.int IntKind.i64 m3, Value.int IntKind.i64 m4, Value.slice m5P m5N
  m5C]] w26 fun (e28 : Ending) (w29 : World) => ∃ (n30 : Int), ∃ (n31 : Int), ∃ (n32 : Int), ∃ (n33 : Int), ∃ (n34 : Int), ∃ (p35 : Option Addr), ∃ (k36 : Nat), ∃ (k37 : Nat), e28 =
  Ending.returned (Value.agg #[Value.int IntKind.i64 n30, Value.int IntKind.i64 n31, Value.int IntKind.i64 n32, Value.int IntKind.i64 n33, Value.int IntKind.i64 n34, Value.slice p35 k36 k37])
  ∧ ∃ (R38 : List Own), ∃ (Φ39 : PW), Stable Φ39 ∧ Ctx W w29 (R38 ++ R27) Φ39 ∧ (∀ (w40 : World) (R41 : List Own), Ctx W w40 (R38 ++ R41) Φ39 → Ctx W w40 (R14 ++ R41) Φ15) ∧ (0 ≤ (n18 +
  n22).tmod 4 ∧ (n18 + n22).tmod (4 : Int) < 4) ∧ ∀ (w42 : World) (R43 : List Own), Ctx W w42 (R38 ++ R43) Φ39 → CanWrite w42 cB (cO + ((n18 + n22).tmod 4).toNat * 6) 6 ∧ ∀ (w44 : World), w44
  = w42.setCells cB (cO + ((n18 + n22).tmod 4).toNat * 6) [Value.int IntKind.i64 n30, Value.int IntKind.i64 n31, Value.int IntKind.i64 n32, Value.int IntKind.i64 n33, Value.int IntKind.i64
  n34, Value.slice p35 k36 k37] → ∃ (R45 : List Own), ∃ (Φ46 : PW), Stable Φ46 ∧ Ctx W w44 (R45 ++ R43) Φ46 ∧ ∀ (w47 : World) (R48 : List Own), Ctx W w47 (R45 ++ R48) Φ46 → ∃ (n49 : Int),
  w47.cell? (Addr.mk cB (cO + 25) none) = some (Value.int IntKind.i64 n49) ∧ I64 (n49 + 1) ∧ ∀ (w50 : World) (R51 : List Own), Ctx W w50 (R45 ++ R51) Φ46 → CanWrite w50 cB (cO + 25) 1 ∧ ∀
  (w52 : World), w52 = w50.setCell (Addr.mk cB (cO + 25) none) (Value.int IntKind.i64 (n49 + 1)) → ∃ (R53 : List Own), ∃ (Φ54 : PW), Stable Φ54 ∧ Ctx W w52 (R53 ++ R51) Φ54 ∧ ∀ (w55 : World)
  (R56 : List Own), Ctx W w55 (R53 ++ R56) Φ54 → ∃ (n57 : Int), w55.cell? (Addr.mk cB (cO + 26) none) = some (Value.int IntKind.i64 n57) ∧ I64 (n57 + 1) ∧ ∀ (w58 : World) (R59 : List Own),
  Ctx W w58 (R53 ++ R59) Φ54 → CanWrite w58 cB (cO + 26) 1 ∧ ∀ (w60 : World), w60 = w58.setCell (Addr.mk cB (cO + 26) none) (Value.int IntKind.i64 (n57 + 1)) → ∃ (R61 : List Own), ∃ (Φ62 :
  PW), Stable Φ62 ∧ Ctx W w60 (R61 ++ R59) Φ62 ∧ ∀ (w63 : World) (R64 : List Own), Ctx W w63 (R61 ++ R64) Φ62 → J (Value.int IntKind.i64 0) w63))

theorem Bchannel_Channel_Send_run (cB cO : Nat) (m0 : Int) (m1 : Int) (m2 : Int) (m3 : Int) (m4 : Int) (m5P : Option Addr) (m5N m5C : Nat) {W w : World} {R : List Own} {Φ : PW} [Stable Φ] {J : Value → World → Prop} (c : Ctx W w R Φ) (h : Bchannel_Channel_Send cB cO m0 m1 m2 m3 m4 m5P m5N m5C W R Φ J) : Calls Try.prog F.channel_Channel_Send #[.pointer (some ⟨cB, cO, none⟩), .agg #[.int .i64 m0, .int .i64 m1, .int .i64 m2, .int .i64 m3, .int .i64 m4, .slice m5P m5N m5C]] w fun e w' => ∃ v, e = .returned v ∧ J v w' :=
  vcFS_sound (H := { keep := some [0, 3, 4, 7, 12], track := [3], stages := [(5, [.held [(0, true), (1, true), (5, true), (11, true), (2, true), (6, true), (13, true), (3, true), (7, true), (14, true), (4, true), (8, true), (9, true), (10, true), (12, false)], .stage [15] (some 16)])] }) (by rw [show vcFS Try.prog W { keep := some [0, 3, 4, 7, 12], track := [3], stages := [(5, [.held [(0, true), (1, true), (5, true), (11, true), (2, true), (6, true), (13, true), (3, true), (7, true), (14, true), (4, true), (8, true), (9, true), (10, true), (12, false)], .stage [15] (some 16)])] } F.channel_Channel_Send #[.pointer (some ⟨cB, cO, none⟩), .agg #[.int .i64 m0, .int .i64 m1, .int .i64 m2, .int .i64 m3, .int .i64 m4, .slice m5P m5N m5C]] R Φ J = Bchannel_Channel_Send cB cO m0 m1 m2 m3 m4 m5P m5N m5C W R Φ J by kernel_rfl]; exact h) c

/-- (*checkpoint.Gate).barrier -/
def Bcheckpoint_Gate_barrier (gB gO : Nat) (i : Int) (n : Int) (kind : Int) (W : World) (R : List Own) (Φ : PW) (J : Value → World → Prop) : Prop :=
  ∀ (w0 : World) (R1 : List Own), Ctx W w0 (R ++ R1) Φ → Calls Try.prog F.checkpoint_Gate_Busy #[Value.pointer (some (Addr.mk gB gO none))] w0 fun (e2 : Ending) (w3 : World) => ∃ (c4 : Bool),
  e2 = Ending.returned (Value.bool c4) ∧ ∃ (R5 : List Own), ∃ (Φ6 : PW), Stable Φ6 ∧ Ctx W w3 (R5 ++ R1) Φ6 ∧ ∀ (w7 : World) (R8 : List Own), Ctx W w7 (R5 ++ R8) Φ6 → ∃ (p9 : Option Nat),
  w7.cell? (Addr.mk gB (gO + 1) none) = some (Value.map p9) ∧ ∀ (w10 : World) (R11 : List Own), Ctx W w10 (R5 ++ R11) Φ6 → CanWrite w10 gB (gO + 2) 1 ∧ ∀ (w12 : World), w12 = w10.setCell
  (Addr.mk gB (gO + 2) none) (Value.int IntKind.i64 n) → ∃ (R13 : List Own), ∃ (Φ14 : PW), Stable Φ14 ∧ Ctx W w12 (R13 ++ R11) Φ14 ∧ ∀ (w15 : World) (R16 : List Own), Ctx W w15 (R13 ++ R16)
  Φ14 → CanWrite w15 gB (gO + 3) 1 ∧ ∀ (w17 : World), w17 = w15.setCell (Addr.mk gB (gO + 3) none) (Value.int IntKind.i64 kind) → ∃ (R18 : List Own), ∃ (Φ19 : PW), Stable Φ19 ∧ Ctx W w17 (R18
  ++ R16) Φ19 ∧ ∀ (w20 : World) (R21 : List Own), Ctx W w20 (R18 ++ R21) Φ19 → ∃ (c22 : Bool), ∃ (n23 : Int), ∃ (w24 : World), Sem.run Try.prog (Instr.mapEntry 72 (Value.map p9) (Value.int
  IntKind.i64 i)) w20 = Result.ok (Value.tuple #[Value.bool c22, Value.int IntKind.i64 n23]) w24 ∧ ∃ (R25 : List Own), ∃ (Φ26 : PW), Stable Φ26 ∧ Ctx W w24 (R25 ++ R21) Φ26 ∧ ∀ (w27 : World)
  (R28 : List Own), Ctx W w27 (R25 ++ R28) Φ26 → ∃ (w29 : World), Sem.run Try.prog (Instr.entryStore 72 (Value.map p9) (Value.int IntKind.i64 n23) (Value.bool true)) w27 = Result.ok () w29 ∧
  ∃ (R30 : List Own), ∃ (Φ31 : PW), Stable Φ31 ∧ Ctx W w29 (R30 ++ R28) Φ31 ∧ ∀ (w32 : World) (R33 : List Own), Ctx W w32 (R30 ++ R33) Φ31 → ∃ (p34 : Option Nat), w32.cell? (Addr.mk gB (gO +
  1) none) = some (Value.map p34) ∧ ∃ (n35 : Int), (∀ (w36 : World), w36.heap = w32.heap → Sem.run Try.prog (Builtin.len_ #[72] 3 #[Value.map p34]) w36 = Result.ok (Value.int IntKind.i64 n35)
  w36) ∧ ∃ (n37 : Int), w32.cell? (Addr.mk gB gO none) = some (Value.int IntKind.i64 n37) ∧ Br (decide (n35 = n37)) (∀ (w38 : World) (R39 : List Own), Ctx W w38 (R30 ++ R39) Φ31 → Calls
  Try.prog F.checkpoint_Gate_Cancel #[Value.pointer (some (Addr.mk gB gO none))] w38 fun (e40 : Ending) (w41 : World) => e40 = Ending.returned (Value.tuple #[]) ∧ ∃ (R42 : List Own), ∃ (Φ43 :
  PW), Stable Φ43 ∧ Ctx W w41 (R42 ++ R39) Φ43 ∧ ∀ (w44 : World) (R45 : List Own), Ctx W w44 (R42 ++ R45) Φ43 → Br (decide (kind = 0) && decide (n35 = n37) || decide (kind = 1) && !c4) (∀
  (w46 : World) (R47 : List Own), Ctx W w46 (R42 ++ R47) Φ43 → J (Value.int IntKind.i64 4) w46) (∀ (w48 : World) (R49 : List Own), Ctx W w48 (R42 ++ R49) Φ43 → J (Value.int IntKind.i64 3)
  w48)) (∀ (w50 : World) (R51 : List Own), Ctx W w50 (R30 ++ R51) Φ31 → Br (decide (kind = 0) && decide (n35 = n37) || decide (kind = 1) && !c4) (∀ (w52 : World) (R53 : List Own), Ctx W w52
  (R30 ++ R53) Φ31 → J (Value.int IntKind.i64 4) w52) (∀ (w54 : World) (R55 : List Own), Ctx W w54 (R30 ++ R55) Φ31 → J (Value.int IntKind.i64 3) w54))

theorem Bcheckpoint_Gate_barrier_run (gB gO : Nat) (i : Int) (n : Int) (kind : Int) {W w : World} {R : List Own} {Φ : PW} [Stable Φ] {J : Value → World → Prop} (c : Ctx W w R Φ) (h : Bcheckpoint_Gate_barrier gB gO i n kind W R Φ J) : Calls Try.prog F.checkpoint_Gate_barrier #[.pointer (some ⟨gB, gO, none⟩), .int .i64 i, .int .i64 n, .int .i64 kind] w fun e w' => ∃ v, e = .returned v ∧ J v w' :=
  vcFS_sound (H := { keep := some [0, 1, 2, 3, 8, 9, 10, 39, 53] }) (by rw [show vcFS Try.prog W { keep := some [0, 1, 2, 3, 8, 9, 10, 39, 53] } F.checkpoint_Gate_barrier #[.pointer (some ⟨gB, gO, none⟩), .int .i64 i, .int .i64 n, .int .i64 kind] R Φ J = Bcheckpoint_Gate_barrier gB gO i n kind W R Φ J by kernel_rfl]; exact h) c

/-- channel.clone -/
-- loop at region 3: 11 ; blocks 
-- known blocks: 1 m, 2 
def Bchannel_clone (m0 : Int) (m1 : Int) (m2 : Int) (m3 : Int) (m4 : Int) (m5P : Option Addr) (m5N m5C : Nat) (W : World) (R : List Own) (Φ : PW) (J : Value → World → Prop) : Prop :=
  ∀ (b b : Nat) (w0 : World) (R1 : List Own), Ctx W w0 (R ++ R1) Φ → Calls Try.prog F.slices_Clone_api_Delta_api_Delta #[Value.slice m5P m5N m5C] w0 fun (e2 : Ending) (w3 : World) => ∃ (p4 :
  Option Addr), ∃ (k5 : Nat), ∃ (k6 : Nat), e2 = Ending.returned (Value.slice p4 k5 k6) ∧ ∃ (R7 : List Own), ∃ (Φ8 : PW), Stable Φ8 ∧ Ctx W w3 (R7 ++ R1) Φ8 ∧ exI fun (I9 : Int → List Own →
  PW → Nat → Prop) => (∃ (R10 : List Own), ∃ (Φ11 : PW), ∃ (k12 : Nat), Stable Φ11 ∧ (∀ (w13 : World) (R14 : List Own), Ctx W w13 (R7 ++ R14) Φ8 → Ctx W w13 (R10 ++ R14) Φ11) ∧ I9 0 R10 Φ11
  k12) ∧ ∀ (n15 : Int) (R16 : List Own) (I17 : List Nat → World → Prop) (k18 : Nat), Stable I17 → I9 n15 R16 I17 k18 → Br (decide (n15 < (↑k5 : Int))) (∃ (R19 : List Own), ∃ (Φ20 : PW),
  Stable Φ20 ∧ (∀ (w21 : World) (R22 : List Own), Ctx W w21 (R16 ++ R22) I17 → Ctx W w21 (R19 ++ R22) Φ20) ∧ (0 ≤ n15 ∧ n15 < (↑k5 : Int)) ∧ ptrK none p4 fun (k23 k24 : Nat) => ∃ (p25 :
  Option Addr), ∃ (k26 : Nat), ∃ (k27 : Nat), (∀ (w28 : World) (R29 : List Own), Ctx W w28 (R19 ++ R29) Φ20 → ∃ (p30 : Option Addr), ∃ (k31 : Nat), ∃ (k32 : Nat), w28.cell? (Addr.mk k23 (k24
  + n15.toNat * 3 + 1) none) = some (Value.slice p30 k31 k32) ∧ Value.slice p30 k31 k32 = Value.slice p25 k26 k27) ∧ ∀ (w33 : World) (R34 : List Own), Ctx W w33 (R16 ++ R34) I17 → Calls
  Try.prog F.slices_Clone_api_Value_api_Value #[Value.slice p25 k26 k27] w33 fun (e35 : Ending) (w36 : World) => ∃ (p37 : Option Addr), ∃ (k38 : Nat), ∃ (k39 : Nat), e35 = Ending.returned
  (Value.slice p37 k38 k39) ∧ ∃ (R40 : List Own), ∃ (Φ41 : PW), Stable Φ41 ∧ Ctx W w36 (R40 ++ R34) Φ41 ∧ (∀ (w42 : World) (R43 : List Own), Ctx W w42 (R40 ++ R43) Φ41 → Ctx W w42 (R19 ++
  R43) Φ20) ∧ (0 ≤ n15 ∧ n15 < (↑k5 : Int)) ∧ ptrK none p4 fun (k44 k45 : Nat) => ∀ (w46 : World) (R47 : List Own), Ctx W w46 (R40 ++ R47) Φ41 → CanWrite w46 k44 (k45 + n15.toNat * 3 + 1) 1 ∧
  ∀ (w48 : World), w48 = w46.setCell (Addr.mk k44 (k45 + n15.toNat * 3 + 1) none) (Value.slice p37 k38 k39) → ∃ (R49 : List Own), ∃ (Φ50 : PW), Stable Φ50 ∧ Ctx W w48 (R49 ++ R47) Φ50 ∧ I64
  (n15 + 1) ∧ ∃ (R51 : List Own), ∃ (Φ52 : PW), ∃ (k53 : Nat), Stable Φ52 ∧ (∀ (w54 : World) (R55 : List Own), Ctx W w54 (R49 ++ R55) Φ50 → Ctx W w54 (R51 ++ R55) Φ52) ∧ I9 (n15 + 1) R51 Φ52
  k53 ∧ k53 < k18) (∀ (w56 : World) (R57 : List Own), Ctx W w56 (R16 ++ R57) I17 → J (Value.agg #[Value.int IntKind.i64 m0, Value.int IntKind.i64 m1, Value.int IntKind.i64 m2, Value.int
  IntKind.i64 m3, Value.int IntKind.i64 m4, Value.slice p4 k5 k6]) w56)

theorem Bchannel_clone_run (m0 : Int) (m1 : Int) (m2 : Int) (m3 : Int) (m4 : Int) (m5P : Option Addr) (m5N m5C : Nat) {W w : World} {R : List Own} {Φ : PW} [Stable Φ] {J : Value → World → Prop} (c : Ctx W w R Φ) (h : Bchannel_clone m0 m1 m2 m3 m4 m5P m5N m5C W R Φ J) : Calls Try.prog F.channel_clone #[.agg #[.int .i64 m0, .int .i64 m1, .int .i64 m2, .int .i64 m3, .int .i64 m4, .slice m5P m5N m5C]] w fun e w' => ∃ v, e = .returned v ∧ J v w' :=
  vcFS_sound (H := { keep := some [1, 2, 3, 10, 11, 12], track := [1, 2], stages := [(5, [.held [(0, true), (2, true), (3, true), (5, true), (1, true), (4, true), (6, true), (7, true), (8, true), (9, false)], .stage [10] none, .stage [11] (some 12)])], loops := [(3, [(11, .one (.int .i64))], [])] }) (by rw [show vcFS Try.prog W { keep := some [1, 2, 3, 10, 11, 12], track := [1, 2], stages := [(5, [.held [(0, true), (2, true), (3, true), (5, true), (1, true), (4, true), (6, true), (7, true), (8, true), (9, false)], .stage [10] none, .stage [11] (some 12)])], loops := [(3, [(11, .one (.int .i64))], [])] } F.channel_clone #[.agg #[.int .i64 m0, .int .i64 m1, .int .i64 m2, .int .i64 m3, .int .i64 m4, .slice m5P m5N m5C]] R Φ J = Bchannel_clone m0 m1 m2 m3 m4 m5P m5N m5C W R Φ J by kernel_rfl]; exact h) c

/-- channel.Right -/
-- loop at region 2: 15 ; blocks 
-- known blocks: 1 m
def Bchannel_Right (m0 : Int) (m1 : Int) (m2 : Int) (m3 : Int) (m4 : Int) (m5P : Option Addr) (m5N m5C : Nat) (W : World) (R : List Own) (Φ : PW) (J : Value → World → Prop) : Prop :=
  ∀ (b : Nat), exI fun (I0 : Int → List Own → PW → Nat → Prop) => (∃ (R1 : List Own), ∃ (Φ2 : PW), ∃ (k3 : Nat), Stable Φ2 ∧ (∀ (w4 : World) (R5 : List Own), Ctx W w4 (R ++ R5) Φ → Ctx W w4
  (R1 ++ R5) Φ2) ∧ I0 0 R1 Φ2 k3) ∧ ∀ (n6 : Int) (R7 : List Own) (I8 : List Nat → World → Prop) (k9 : Nat), Stable I8 → I0 n6 R7 I8 k9 → Br (decide (n6 < 4)) (∃ (n10 : Int), (0 ≤ n6 ∧ n6 < 4
  ∧ aggAt (0 + n6.toNat) [Value.int IntKind.i64 m1, Value.int IntKind.i64 m2, Value.int IntKind.i64 m3, Value.int IntKind.i64 (max m4 0)] = some (Value.int IntKind.i64 n10)) ∧ ∀ (w11 : World)
  (R12 : List Own), Ctx W w11 (R7 ++ R12) I8 → Br (decide (n10 < 0) || decide (1099511627776 < n10) || decide (m4 < -1)) (∀ (w13 : World) (R14 : List Own), Ctx W w13 (R7 ++ R14) I8 → J
  (Value.bool false) w13) (I64 (n6 + 1) ∧ ∃ (R15 : List Own), ∃ (Φ16 : PW), ∃ (k17 : Nat), Stable Φ16 ∧ (∀ (w18 : World) (R19 : List Own), Ctx W w18 (R7 ++ R19) I8 → Ctx W w18 (R15 ++ R19)
  Φ16) ∧ I0 (n6 + 1) R15 Φ16 k17 ∧ k17 < k9)) (∀ (w20 : World) (R21 : List Own), Ctx W w20 (R7 ++ R21) I8 → Br (decide (m0 < 0) || decide (3 ≤ m0) || decide (8 < (↑m5N : Int)) || decide (m0 ≠
  0) && decide (0 < (↑m5N : Int))) (∀ (w22 : World) (R23 : List Own), Ctx W w22 (R7 ++ R23) I8 → J (Value.bool false) w22) (∀ (w24 : World) (R25 : List Own), Ctx W w24 (R7 ++ R25) I8 → Calls
  Try.prog F.delta_Consolidated #[Value.slice m5P m5N m5C] w24 fun (e26 : Ending) (w27 : World) => ∃ (c28 : Bool), e26 = Ending.returned (Value.bool c28) ∧ ∃ (R29 : List Own), ∃ (Φ30 : PW),
  Stable Φ30 ∧ Ctx W w27 (R29 ++ R25) Φ30 ∧ Br c28 (∀ (w31 : World) (R32 : List Own), Ctx W w31 (R29 ++ R32) Φ30 → Calls Try.prog F.slices_ContainsFunc_api_Delta_api_Delta #[Value.slice m5P
  m5N m5C, Value.func (Fn.func 38) #[] #[]] w31 fun (e33 : Ending) (w34 : World) => ∃ (c35 : Bool), e33 = Ending.returned (Value.bool c35) ∧ ∃ (R36 : List Own), ∃ (Φ37 : PW), Stable Φ37 ∧ Ctx
  W w34 (R36 ++ R32) Φ37 ∧ ∀ (w38 : World) (R39 : List Own), Ctx W w38 (R36 ++ R39) Φ37 → J (Value.bool !c35) w38) (∀ (w40 : World) (R41 : List Own), Ctx W w40 (R29 ++ R41) Φ30 → J
  (Value.bool false) w40)))

theorem Bchannel_Right_run (m0 : Int) (m1 : Int) (m2 : Int) (m3 : Int) (m4 : Int) (m5P : Option Addr) (m5N m5C : Nat) {W w : World} {R : List Own} {Φ : PW} [Stable Φ] {J : Value → World → Prop} (c : Ctx W w R Φ) (h : Bchannel_Right m0 m1 m2 m3 m4 m5P m5N m5C W R Φ J) : Calls Try.prog F.channel_Right #[.agg #[.int .i64 m0, .int .i64 m1, .int .i64 m2, .int .i64 m3, .int .i64 m4, .slice m5P m5N m5C]] w fun e w' => ∃ v, e = .returned v ∧ J v w' :=
  vcFS_sound (H := { keep := some [1, 2, 4, 14, 15, 16, 28, 54], track := [1], split := [9], loops := [(2, [(15, .one (.int .i64))], [])] }) (by rw [show vcFS Try.prog W { keep := some [1, 2, 4, 14, 15, 16, 28, 54], track := [1], split := [9], loops := [(2, [(15, .one (.int .i64))], [])] } F.channel_Right #[.agg #[.int .i64 m0, .int .i64 m1, .int .i64 m2, .int .i64 m3, .int .i64 m4, .slice m5P m5N m5C]] R Φ J = Bchannel_Right m0 m1 m2 m3 m4 m5P m5N m5C W R Φ J by kernel_rfl]; exact h) c

/-- (*checkpoint.Gate).Cancel -/
def Bcheckpoint_Gate_Cancel (gB gO : Nat) (W : World) (R : List Own) (Φ : PW) (J : Value → World → Prop) : Prop :=
  ∀ (k0 : Nat) (w1 : World) (R2 : List Own), Ctx W w1 (Own.obj k0 (Obj.map #[] 0) :: R ++ R2) Φ → CanWrite w1 gB (gO + 2) 1 ∧ ∀ (w3 : World), w3 = w1.setCell (Addr.mk gB (gO + 2) none)
  (Value.int IntKind.i64 0) → ∃ (R4 : List Own), ∃ (Φ5 : PW), Stable Φ5 ∧ Ctx W w3 (R4 ++ R2) Φ5 ∧ ∀ (w6 : World) (R7 : List Own), Ctx W w6 (R4 ++ R7) Φ5 → CanWrite w6 gB (gO + 1) 1 ∧ ∀ (w8 :
  World), w8 = w6.setCell (Addr.mk gB (gO + 1) none) (Value.map (some k0)) → ∃ (R9 : List Own), ∃ (Φ10 : PW), Stable Φ10 ∧ Ctx W w8 (R9 ++ R7) Φ10 ∧ ∀ (w11 : World) (R12 : List Own), Ctx W
  w11 (R9 ++ R12) Φ10 → J (Value.tuple #[]) w11

theorem Bcheckpoint_Gate_Cancel_run (gB gO : Nat) {W w : World} {R : List Own} {Φ : PW} [Stable Φ] {J : Value → World → Prop} (c : Ctx W w R Φ) (h : Bcheckpoint_Gate_Cancel gB gO W R Φ J) : Calls Try.prog F.checkpoint_Gate_Cancel #[.pointer (some ⟨gB, gO, none⟩)] w fun e w' => ∃ v, e = .returned v ∧ J v w' :=
  vcFS_sound (H := { keep := some [] }) (by rw [show vcFS Try.prog W { keep := some [] } F.checkpoint_Gate_Cancel #[.pointer (some ⟨gB, gO, none⟩)] R Φ J = Bcheckpoint_Gate_Cancel gB gO W R Φ J by kernel_rfl]; exact h) c

/-- slices.Clone[[]api.Delta,api.Delta] -/
def Bslices_Clone_api_Delta_api_Delta (sP : Option Addr) (sN sC : Nat) (W : World) (R : List Own) (Φ : PW) (J : Value → World → Prop) : Prop :=
  Br sP.isNone (∀ (w0 : World) (R1 : List Own), Ctx W w0 (R ++ R1) Φ → J (Value.slice none 0 0) w0) (∀ (k2 : Nat) (w3 : World) (R4 : List Own), Ctx W w3 (Own.blk k2 [] 81 :: R ++ R4) Φ → ∃
  (p5 : Option Addr), ∃ (k6 : Nat), ∃ (k7 : Nat), ∃ (w8 : World), Sem.run Try.prog (builtin Builtin.append #[42, 42] 42 #[false, false] #[Value.slice (some (Addr.mk k2 0 none)) 0 0,
  Value.slice sP sN sC]) w3 = Result.ok (Next.value (Value.slice p5 k6 k7)) w8 ∧ ∃ (R9 : List Own), ∃ (Φ10 : PW), Stable Φ10 ∧ Ctx W w8 (R9 ++ R4) Φ10 ∧ ∀ (w11 : World) (R12 : List Own), Ctx
  W w11 (R9 ++ R12) Φ10 → J (Value.slice p5 k6 k7) w11)

theorem Bslices_Clone_api_Delta_api_Delta_run (sP : Option Addr) (sN sC : Nat) {W w : World} {R : List Own} {Φ : PW} [Stable Φ] {J : Value → World → Prop} (c : Ctx W w R Φ) (h : Bslices_Clone_api_Delta_api_Delta sP sN sC W R Φ J) : Calls Try.prog F.slices_Clone_api_Delta_api_Delta #[.slice sP sN sC] w fun e w' => ∃ v, e = .returned v ∧ J v w' :=
  vcFS_sound (H := { keep := some [0, 2, 4] }) (by rw [show vcFS Try.prog W { keep := some [0, 2, 4] } F.slices_Clone_api_Delta_api_Delta #[.slice sP sN sC] R Φ J = Bslices_Clone_api_Delta_api_Delta sP sN sC W R Φ J by kernel_rfl]; exact h) c

/-- delta.Consolidated -/
-- loop at region 2: 7 ; blocks 
-- known blocks: 4 d
def Bdelta_Consolidated (lP : Option Addr) (lN lC : Nat) (W : World) (R : List Own) (Φ : PW) (J : Value → World → Prop) : Prop :=
  exI fun (I0 : Int → List Own → PW → Nat → Prop) => (∃ (R1 : List Own), ∃ (Φ2 : PW), ∃ (k3 : Nat), Stable Φ2 ∧ (∀ (w4 : World) (R5 : List Own), Ctx W w4 (R ++ R5) Φ → Ctx W w4 (R1 ++ R5) Φ2)
  ∧ I0 0 R1 Φ2 k3) ∧ ∀ (n6 : Int) (R7 : List Own) (I8 : List Nat → World → Prop) (k9 : Nat), Stable I8 → I0 n6 R7 I8 k9 → Br (decide (n6 < (↑lN : Int))) ((0 ≤ n6 ∧ n6 < (↑lN : Int)) ∧ ptrK
  none lP fun (k10 k11 : Nat) => ∀ (w12 : World) (R13 : List Own), Ctx W w12 (R7 ++ R13) I8 → ∃ (n14 : Int), ∃ (p15 : Option Addr), ∃ (k16 : Nat), ∃ (k17 : Nat), ∃ (n18 : Int), RowAt w12 k10
  (k11 + n6.toNat * 3) [Value.int IntKind.i64 n14, Value.slice p15 k16 k17, Value.int IntKind.i64 n18] ∧ ∀ (b : Nat), ∃ (R19 : List Own), ∃ (Φ20 : PW), Stable Φ20 ∧ (∀ (w21 : World) (R22 :
  List Own), Ctx W w21 (R7 ++ R22) I8 → Ctx W w21 (R19 ++ R22) Φ20) ∧ Br (decide (n18 = 0)) (∀ (w23 : World) (R24 : List Own), Ctx W w23 (R7 ++ R24) I8 → J (Value.bool false) w23) (Br (decide
  (0 < n6)) (I64 (n6 - 1) ∧ (0 ≤ n6 - 1 ∧ n6 - 1 < (↑lN : Int)) ∧ ptrK none lP fun (k25 k26 : Nat) => ∃ (n27 : Int), ∃ (p28 : Option Addr), ∃ (k29 : Nat), ∃ (k30 : Nat), ∃ (n31 : Int), (∀
  (w32 : World) (R33 : List Own), Ctx W w32 (R19 ++ R33) Φ20 → ∃ (n34 : Int), ∃ (p35 : Option Addr), ∃ (k36 : Nat), ∃ (k37 : Nat), ∃ (n38 : Int), RowAt w32 k25 (k26 + (n6 - 1).toNat * 3)
  [Value.int IntKind.i64 n34, Value.slice p35 k36 k37, Value.int IntKind.i64 n38] ∧ Value.agg #[Value.int IntKind.i64 n34, Value.slice p35 k36 k37, Value.int IntKind.i64 n38] = Value.agg
  #[Value.int IntKind.i64 n27, Value.slice p28 k29 k30, Value.int IntKind.i64 n31]) ∧ ∀ (w39 : World) (R40 : List Own), Ctx W w39 (R7 ++ R40) I8 → Calls Try.prog F.delta_compare #[Value.agg
  #[Value.int IntKind.i64 n27, Value.slice p28 k29 k30, Value.int IntKind.i64 n31], Value.agg #[Value.int IntKind.i64 n14, Value.slice p15 k16 k17, Value.int IntKind.i64 n18]] w39 fun (e41 :
  Ending) (w42 : World) => ∃ (n43 : Int), e41 = Ending.returned (Value.int IntKind.i64 n43) ∧ ∃ (R44 : List Own), ∃ (Φ45 : PW), Stable Φ45 ∧ Ctx W w42 (R44 ++ R40) Φ45 ∧ Br (decide (0 ≤ n43))
  (∀ (w46 : World) (R47 : List Own), Ctx W w46 (R44 ++ R47) Φ45 → J (Value.bool false) w46) (I64 (n6 + 1) ∧ ∃ (R48 : List Own), ∃ (Φ49 : PW), ∃ (k50 : Nat), Stable Φ49 ∧ (∀ (w51 : World) (R52
  : List Own), Ctx W w51 (R44 ++ R52) Φ45 → Ctx W w51 (R48 ++ R52) Φ49) ∧ I0 (n6 + 1) R48 Φ49 k50 ∧ k50 < k9)) (I64 (n6 + 1) ∧ ∃ (R53 : List Own), ∃ (Φ54 : PW), ∃ (k55 : Nat), Stable Φ54 ∧ (∀
  (w56 : World) (R57 : List Own), Ctx W w56 (R7 ++ R57) I8 → Ctx W w56 (R53 ++ R57) Φ54) ∧ I0 (n6 + 1) R53 Φ54 k55 ∧ k55 < k9))) (∀ (w58 : World) (R59 : List Own), Ctx W w58 (R7 ++ R59) I8 →
  J (Value.bool true) w58)

theorem Bdelta_Consolidated_run (lP : Option Addr) (lN lC : Nat) {W w : World} {R : List Own} {Φ : PW} [Stable Φ] {J : Value → World → Prop} (c : Ctx W w R Φ) (h : Bdelta_Consolidated lP lN lC W R Φ J) : Calls Try.prog F.delta_Consolidated #[.slice lP lN lC] w fun e w' => ∃ v, e = .returned v ∧ J v w' :=
  vcFS_sound (H := { keep := some [0, 2, 3, 4, 5, 6, 7, 8, 28], track := [4], stages := [(4, [.held [(0, true), (1, true), (2, true), (3, true), (4, true), (5, true), (6, true), (7, true), (8, true), (12, true), (9, true), (10, true), (11, true)], .stage [] (some 13), .stage [14, 15, 16] none])], loops := [(2, [(7, .one (.int .i64))], [])] }) (by rw [show vcFS Try.prog W { keep := some [0, 2, 3, 4, 5, 6, 7, 8, 28], track := [4], stages := [(4, [.held [(0, true), (1, true), (2, true), (3, true), (4, true), (5, true), (6, true), (7, true), (8, true), (12, true), (9, true), (10, true), (11, true)], .stage [] (some 13), .stage [14, 15, 16] none])], loops := [(2, [(7, .one (.int .i64))], [])] } F.delta_Consolidated #[.slice lP lN lC] R Φ J = Bdelta_Consolidated lP lN lC W R Φ J by kernel_rfl]; exact h) c

/-- slices.ContainsFunc[[]api.Delta,api.Delta] -/
def Bslices_ContainsFunc_api_Delta_api_Delta (sP : Option Addr) (sN sC : Nat) (fF : FuncId) (fC : Array Value) (W : World) (R : List Own) (Φ : PW) (J : Value → World → Prop) : Prop :=
  ∀ (w0 : World) (R1 : List Own), Ctx W w0 (R ++ R1) Φ → Calls Try.prog F.slices_IndexFunc_api_Delta_api_Delta #[Value.slice sP sN sC, Value.func (Fn.func fF) #[] fC] w0 fun (e2 : Ending) (w3
  : World) => ∃ (n4 : Int), e2 = Ending.returned (Value.int IntKind.i64 n4) ∧ ∃ (R5 : List Own), ∃ (Φ6 : PW), Stable Φ6 ∧ Ctx W w3 (R5 ++ R1) Φ6 ∧ ∀ (w7 : World) (R8 : List Own), Ctx W w7 (R5
  ++ R8) Φ6 → J (Value.bool (decide (0 ≤ n4))) w7

theorem Bslices_ContainsFunc_api_Delta_api_Delta_run (sP : Option Addr) (sN sC : Nat) (fF : FuncId) (fC : Array Value) {W w : World} {R : List Own} {Φ : PW} [Stable Φ] {J : Value → World → Prop} (c : Ctx W w R Φ) (h : Bslices_ContainsFunc_api_Delta_api_Delta sP sN sC fF fC W R Φ J) : Calls Try.prog F.slices_ContainsFunc_api_Delta_api_Delta #[.slice sP sN sC, .func (.func fF) #[] fC] w fun e w' => ∃ v, e = .returned v ∧ J v w' :=
  vcFS_sound (H := { keep := some [0, 1, 4] }) (by rw [show vcFS Try.prog W { keep := some [0, 1, 4] } F.slices_ContainsFunc_api_Delta_api_Delta #[.slice sP sN sC, .func (.func fF) #[] fC] R Φ J = Bslices_ContainsFunc_api_Delta_api_Delta sP sN sC fF fC W R Φ J by kernel_rfl]; exact h) c

/-- slices.IndexFunc[[]api.Delta,api.Delta] -/
-- loop at region 2: 8 ; blocks 
def Bslices_IndexFunc_api_Delta_api_Delta (sP : Option Addr) (sN sC : Nat) (fF : FuncId) (fC : Array Value) (W : World) (R : List Own) (Φ : PW) (J : Value → World → Prop) : Prop :=
  exI fun (I0 : Int → List Own → PW → Nat → Prop) => (∃ (R1 : List Own), ∃ (Φ2 : PW), ∃ (k3 : Nat), Stable Φ2 ∧ (∀ (w4 : World) (R5 : List Own), Ctx W w4 (R ++ R5) Φ → Ctx W w4 (R1 ++ R5) Φ2)
  ∧ I0 0 R1 Φ2 k3) ∧ ∀ (n6 : Int) (R7 : List Own) (I8 : List Nat → World → Prop) (k9 : Nat), Stable I8 → I0 n6 R7 I8 k9 → Br (decide (n6 < (↑sN : Int))) ((0 ≤ n6 ∧ n6 < (↑sN : Int)) ∧ ptrK
  none sP fun (k10 k11 : Nat) => ∀ (w12 : World) (R13 : List Own), Ctx W w12 (R7 ++ R13) I8 → ∃ (n14 : Int), ∃ (p15 : Option Addr), ∃ (k16 : Nat), ∃ (k17 : Nat), ∃ (n18 : Int), RowAt w12 k10
  (k11 + n6.toNat * 3) [Value.int IntKind.i64 n14, Value.slice p15 k16 k17, Value.int IntKind.i64 n18] ∧ ∀ (w19 : World) (R20 : List Own), Ctx W w19 (R7 ++ R20) I8 → okFun Try.prog fF = true
  ∧ Calls Try.prog fF (Array.mk (Value.agg #[Value.int IntKind.i64 n14, Value.slice p15 k16 k17, Value.int IntKind.i64 n18] :: fC.toList)) w19 fun (e21 : Ending) (w22 : World) => ∃ (c23 :
  Bool), e21 = Ending.returned (Value.bool c23) ∧ ∃ (R24 : List Own), ∃ (Φ25 : PW), Stable Φ25 ∧ Ctx W w22 (R24 ++ R20) Φ25 ∧ Br c23 (∀ (w26 : World) (R27 : List Own), Ctx W w26 (R24 ++ R27)
  Φ25 → J (Value.int IntKind.i64 n6) w26) (I64 (n6 + 1) ∧ ∃ (R28 : List Own), ∃ (Φ29 : PW), ∃ (k30 : Nat), Stable Φ29 ∧ (∀ (w31 : World) (R32 : List Own), Ctx W w31 (R24 ++ R32) Φ25 → Ctx W
  w31 (R28 ++ R32) Φ29) ∧ I0 (n6 + 1) R28 Φ29 k30 ∧ k30 < k9)) (∀ (w33 : World) (R34 : List Own), Ctx W w33 (R7 ++ R34) I8 → J (Value.int IntKind.i64 (-1)) w33)

theorem Bslices_IndexFunc_api_Delta_api_Delta_run (sP : Option Addr) (sN sC : Nat) (fF : FuncId) (fC : Array Value) {W w : World} {R : List Own} {Φ : PW} [Stable Φ] {J : Value → World → Prop} (c : Ctx W w R Φ) (h : Bslices_IndexFunc_api_Delta_api_Delta sP sN sC fF fC W R Φ J) : Calls Try.prog F.slices_IndexFunc_api_Delta_api_Delta #[.slice sP sN sC, .func (.func fF) #[] fC] w fun e w' => ∃ v, e = .returned v ∧ J v w' :=
  vcFS_sound (H := { keep := some [0, 1, 4, 5, 7, 8, 9, 16], wrap := [16], loops := [(2, [(8, .one (.int .i64))], [])] }) (by rw [show vcFS Try.prog W { keep := some [0, 1, 4, 5, 7, 8, 9, 16], wrap := [16], loops := [(2, [(8, .one (.int .i64))], [])] } F.slices_IndexFunc_api_Delta_api_Delta #[.slice sP sN sC, .func (.func fF) #[] fC] R Φ J = Bslices_IndexFunc_api_Delta_api_Delta sP sN sC fF fC W R Φ J by kernel_rfl]; exact h) c

end Go.Proofs.Ytmlnockcmdameaa
end

