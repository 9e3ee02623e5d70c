/-
  The conditions of the walks of some functions, one formula each; 'B<f>_run' says that they suffice. The formulas are printed by a program; the kernel compares them with the functions' code.
-/
import Derived.Test.YticgmbmghnikeaaVcV
import Derived.Test.YticgmbmghnikeaaRows
namespace Go.Proofs.Yticgmbmghnikeaa
set_option linter.unusedVariables false
set_option linter.unusedSimpArgs false
set_option maxRecDepth 100000
open Go.Vc

abbrev F.erratalaw36_ChannelLine : Nat := 3
abbrev F.erratalaw36_ChannelOrder : Nat := 4
abbrev F.erratalaw36_small : Nat := 5
abbrev F.channel_New : Nat := 6
abbrev F.errataref36_Few : Nat := 7
abbrev F.erratalaw36_right : Nat := 8
abbrev F.channel_Right : Nat := 9
abbrev F.channel_Channel_Len : Nat := 10
abbrev F.channel_Channel_Free : Nat := 11
abbrev F.channel_Channel_Take : Nat := 12
abbrev F.channel_Channel_Send : Nat := 13
abbrev F.errataref36_SameList : Nat := 14
abbrev F.erratalaw36_few : Nat := 15
abbrev F.channel_Channel_Head : Nat := 16
abbrev F.errataref36_Same : Nat := 17
abbrev F.erratalaw36_spoil : Nat := 18
abbrev F.errataref36_Clone : Nat := 19
abbrev F.channel_Channel_List : Nat := 20
abbrev F.channel_Channel_Sent : Nat := 21
abbrev F.erratalaw36_mark : Nat := 22
abbrev F.errataref36_Right : Nat := 23
abbrev F.delta_Consolidated : Nat := 24
abbrev F.slices_ContainsFunc_api_Delta_api_Delta : Nat := 25
abbrev F.channel_Right_1 : Nat := 26
abbrev F.value_RightRow : Nat := 27
abbrev F.channel_clone : Nat := 28
abbrev F.errataref03_Same : Nat := 29
abbrev F.errataref28_Consolidated : Nat := 30
abbrev F.errataref03_RightRow : Nat := 31
abbrev F.delta_compare : Nat := 32
abbrev F.slices_IndexFunc_api_Delta_api_Delta : Nat := 33
abbrev F.value_all : Nat := 34
abbrev F.slices_Clone_api_Delta_api_Delta : Nat := 35
abbrev F.slices_Clone_api_Value_api_Value : Nat := 36
abbrev F.errataref03_CompareRows : Nat := 37
abbrev F.errataref28_Compare : Nat := 38
abbrev F.errataref03_All : Nat := 39
abbrev F.cmp_Or_int : Nat := 40
abbrev F.cmp_Compare_int : Nat := 41
abbrev F.value_CompareRows : Nat := 42
abbrev F.slices_ContainsFunc_api_Value_api_Value : Nat := 43
abbrev F.value_all_1 : Nat := 44
abbrev F.value_Right : Nat := 45
abbrev F.errataref03_Compare : Nat := 46
abbrev F.errataref03_Right : Nat := 47
abbrev F.cmp_isNaN_int : Nat := 48
abbrev F.slices_CompareFunc_api_Value__api_Value_api_Value_api_Value : Nat := 49
abbrev F.value_Compare : Nat := 50
abbrev F.slices_IndexFunc_api_Value_api_Value : Nat := 51
abbrev F.value_Int : Nat := 52
abbrev F.value_Text : Nat := 53
abbrev F.value_Bool : Nat := 54
abbrev F.strings_Compare : Nat := 55
abbrev F.internal_bytealg_CompareString : Nat := 56
abbrev F.internal_bytealg_abigen_runtime_cmpstring : Nat := 57
abbrev F.runtime_boundsError_Error : Nat := 58
abbrev F.runtime_boundsError_RuntimeError : Nat := 59
abbrev F.runtime_errorString_Error : Nat := 60
abbrev F.runtime_errorString_RuntimeError : Nat := 61
abbrev F.runtime_plainError_Error : Nat := 62
abbrev F.runtime_plainError_RuntimeError : Nat := 63
abbrev F.runtime_errorAddressString_Error : Nat := 64
abbrev F.runtime_errorAddressString_RuntimeError : Nat := 65
abbrev F.runtime_TypeAssertionError_Error : Nat := 66
abbrev F.runtime_TypeAssertionError_RuntimeError : Nat := 67
abbrev F.runtime_PanicNilError_Error : Nat := 68
abbrev F.runtime_PanicNilError_RuntimeError : Nat := 69
abbrev F.internal_abi_Type_Align : Nat := 70
abbrev F.internal_runtime_maps_unhashableTypeError_Error : Nat := 71
abbrev F.internal_runtime_maps_unhashableTypeError_RuntimeError : Nat := 72
abbrev F.channel_Channel_Bytes : Nat := 73
abbrev F.internal_abi_Kind_String : Nat := 74

/-- erratalaw36.ChannelLine -/
-- loop at region 23: 14 can, 15 k; blocks 
-- loop at region 19: 11 next, 12 got, 13 i; blocks 
-- loop at region 12: 10 i; blocks 
-- loop at region 6: 8 line, 9 i; blocks 
-- known blocks: 20 m, 21 x
def Berratalaw36_ChannelLine (n : Int) (lP : Option Addr) (lN lC : Nat) (picksP : Option Addr) (picksN picksC : Nat) (W : World) (R : List Own) (Φ : PW) (J : Value → World → Prop) : Prop :=
  ∀ (w0 : World) (R1 : List Own), Ctx W w0 (R ++ R1) Φ → Calls Try.prog F.erratalaw36_small #[] w0 fun (e2 : Ending) (w3 : World) => ∃ (c4 : Bool), e2 = Ending.returned (Value.bool c4) ∧ ∃
  (R5 : List Own), ∃ (Φ6 : PW), Stable Φ6 ∧ Ctx W w3 (R5 ++ R1) Φ6 ∧ ∀ (w7 : World) (R8 : List Own), Ctx W w7 (R5 ++ R8) Φ6 → Br (decide (n < 1) || decide (6 < n) || decide (40 < (↑lN : Int))
  || decide (400 < (↑picksN : Int))) (∀ (w9 : World) (R10 : List Own), Ctx W w9 (R5 ++ R10) Φ6 → J (Value.bool c4) w9) (exI fun (I11 : Option Addr → Nat → Nat → Int → List Own → PW → Nat →
  Prop) => (∃ (R12 : List Own), ∃ (Φ13 : PW), ∃ (k14 : Nat), Stable Φ13 ∧ (∀ (w15 : World) (R16 : List Own), Ctx W w15 (R5 ++ R16) Φ6 → Ctx W w15 (R12 ++ R16) Φ13) ∧ I11 none 0 0 0 R12 Φ13
  k14) ∧ ∀ (p17 : Option Addr) (k18 k19 : Nat) (n20 : Int) (R21 : List Own) (I22 : List Nat → World → Prop) (k23 : Nat), Stable I22 → I11 p17 k18 k19 n20 R21 I22 k23 → Br (decide (n20 < n))
  (∀ (w24 : World) (R25 : List Own), Ctx W w24 (R21 ++ R25) I22 → Calls Try.prog F.channel_New #[] w24 fun (e26 : Ending) (w27 : World) => ∃ (p28 : Option Addr), e26 = Ending.returned
  (Value.pointer p28) ∧ ∃ (R29 : List Own), ∃ (Φ30 : PW), Stable Φ30 ∧ Ctx W w27 (R29 ++ R25) Φ30 ∧ ∀ (k31 : Nat) (w32 : World) (R33 : List Own), Ctx W w32 (Own.blk k31 [Value.pointer p28] 26
  :: R29 ++ R33) Φ30 → ∃ (p34 : Option Addr), ∃ (k35 : Nat), ∃ (k36 : Nat), ∃ (w37 : World), Sem.run Try.prog (builtin Builtin.append #[25, 25] 25 #[false, false] #[Value.slice p17 k18 k19,
  Value.slice (some (Addr.mk k31 0 none)) 1 1]) w32 = Result.ok (Next.value (Value.slice p34 k35 k36)) w37 ∧ ∃ (R38 : List Own), ∃ (Φ39 : PW), Stable Φ39 ∧ Ctx W w37 (R38 ++ R33) Φ39 ∧ (0 ≤
  n20 ∧ n20 < (↑k35 : Int)) ∧ ptrK none p34 fun (k40 k41 : Nat) => ∀ (w42 : World) (R43 : List Own), Ctx W w42 (R38 ++ R43) Φ39 → ∃ (p44 : Option Addr), w42.cell? (Addr.mk k40 (k41 +
  n20.toNat) none) = some (Value.pointer p44) ∧ Br p44.isNone (∀ (w45 : World) (R46 : List Own), Ctx W w45 (R38 ++ R46) Φ39 → J (Value.bool false) w45) (I64 (n20 + 1) ∧ ∃ (R47 : List Own), ∃
  (Φ48 : PW), ∃ (k49 : Nat), Stable Φ48 ∧ (∀ (w50 : World) (R51 : List Own), Ctx W w50 (R38 ++ R51) Φ39 → Ctx W w50 (R47 ++ R51) Φ48) ∧ I11 p34 k35 k36 (n20 + 1) R47 Φ48 k49 ∧ k49 < k23))
  (exI fun (I52 : Int → List Own → PW → Nat → Prop) => (∃ (R53 : List Own), ∃ (Φ54 : PW), ∃ (k55 : Nat), Stable Φ54 ∧ (∀ (w56 : World) (R57 : List Own), Ctx W w56 (R21 ++ R57) I22 → Ctx W w56
  (R53 ++ R57) Φ54) ∧ I52 0 R53 Φ54 k55) ∧ ∀ (n58 : Int) (R59 : List Own) (I60 : List Nat → World → Prop) (k61 : Nat), Stable I60 → I52 n58 R59 I60 k61 → Br (decide (n58 < (↑lN : Int))) ((0 ≤
  n58 ∧ n58 < (↑lN : Int)) ∧ ptrK none lP fun (k62 k63 : Nat) => ∀ (w64 : World) (R65 : List Own), Ctx W w64 (R59 ++ R65) I60 → ∃ (n66 : Int), ∃ (n67 : Int), ∃ (n68 : Int), ∃ (n69 : Int), ∃
  (n70 : Int), ∃ (p71 : Option Addr), ∃ (k72 : Nat), ∃ (k73 : Nat), RowAt w64 k62 (k63 + n58.toNat * 6) [Value.int IntKind.i64 n66, Value.int IntKind.i64 n67, Value.int IntKind.i64 n68,
  Value.int IntKind.i64 n69, Value.int IntKind.i64 n70, Value.slice p71 k72 k73] ∧ ∀ (w74 : World) (R75 : List Own), Ctx W w74 (R59 ++ R75) I60 → Calls Try.prog F.errataref36_Few #[Value.agg
  #[Value.int IntKind.i64 n66, Value.int IntKind.i64 n67, Value.int IntKind.i64 n68, Value.int IntKind.i64 n69, Value.int IntKind.i64 n70, Value.slice p71 k72 k73]] w74 fun (e76 : Ending)
  (w77 : World) => ∃ (c78 : Bool), e76 = Ending.returned (Value.bool c78) ∧ ∃ (R79 : List Own), ∃ (Φ80 : PW), Stable Φ80 ∧ Ctx W w77 (R79 ++ R75) Φ80 ∧ Br (!c78) (∀ (w81 : World) (R82 : List
  Own), Ctx W w81 (R79 ++ R82) Φ80 → J (Value.bool c4) w81) ((0 ≤ n58 ∧ n58 < (↑lN : Int)) ∧ ptrK none lP fun (k83 k84 : Nat) => ∀ (w85 : World) (R86 : List Own), Ctx W w85 (R79 ++ R86) Φ80 →
  ∃ (n87 : Int), ∃ (n88 : Int), ∃ (n89 : Int), ∃ (n90 : Int), ∃ (n91 : Int), ∃ (p92 : Option Addr), ∃ (k93 : Nat), ∃ (k94 : Nat), RowAt w85 k83 (k84 + n58.toNat * 6) [Value.int IntKind.i64
  n87, Value.int IntKind.i64 n88, Value.int IntKind.i64 n89, Value.int IntKind.i64 n90, Value.int IntKind.i64 n91, Value.slice p92 k93 k94] ∧ ∀ (w95 : World) (R96 : List Own), Ctx W w95 (R79
  ++ R96) Φ80 → Calls Try.prog F.erratalaw36_right #[Value.agg #[Value.int IntKind.i64 n87, Value.int IntKind.i64 n88, Value.int IntKind.i64 n89, Value.int IntKind.i64 n90, Value.int
  IntKind.i64 n91, Value.slice p92 k93 k94]] w95 fun (e97 : Ending) (w98 : World) => ∃ (c99 : Bool), e97 = Ending.returned (Value.bool c99) ∧ ∃ (R100 : List Own), ∃ (Φ101 : PW), Stable Φ101 ∧
  Ctx W w98 (R100 ++ R96) Φ101 ∧ Br (!c99) (∀ (w102 : World) (R103 : List Own), Ctx W w102 (R100 ++ R103) Φ101 → J (Value.bool c4) w102) ((0 ≤ n58 ∧ n58 < (↑lN : Int)) ∧ ptrK none lP fun
  (k104 k105 : Nat) => ∀ (w106 : World) (R107 : List Own), Ctx W w106 (R100 ++ R107) Φ101 → ∃ (n108 : Int), ∃ (n109 : Int), ∃ (n110 : Int), ∃ (n111 : Int), ∃ (n112 : Int), ∃ (p113 : Option
  Addr), ∃ (k114 : Nat), ∃ (k115 : Nat), RowAt w106 k104 (k105 + n58.toNat * 6) [Value.int IntKind.i64 n108, Value.int IntKind.i64 n109, Value.int IntKind.i64 n110, Value.int IntKind.i64
  n111, Value.int IntKind.i64 n112, Value.slice p113 k114 k115] ∧ ∀ (w116 : World) (R117 : List Own), Ctx W w116 (R100 ++ R117) Φ101 → Calls Try.prog F.channel_Right #[Value.agg #[Value.int
  IntKind.i64 n108, Value.int IntKind.i64 n109, Value.int IntKind.i64 n110, Value.int IntKind.i64 n111, Value.int IntKind.i64 n112, Value.slice p113 k114 k115]] w116 fun (e118 : Ending) (w119
  : World) => ∃ (c120 : Bool), e118 = Ending.returned (Value.bool c120) ∧ ∃ (R121 : List Own), ∃ (Φ122 : PW), Stable Φ122 ∧ Ctx W w119 (R121 ++ R117) Φ122 ∧ Br (!c120) (∀ (w123 : World) (R124
  : List Own), Ctx W w123 (R121 ++ R124) Φ122 → J (Value.bool c4) w123) (I64 (n58 + 1) ∧ ∃ (R125 : List Own), ∃ (Φ126 : PW), ∃ (k127 : Nat), Stable Φ126 ∧ (∀ (w128 : World) (R129 : List Own),
  Ctx W w128 (R121 ++ R129) Φ122 → Ctx W w128 (R125 ++ R129) Φ126) ∧ I52 (n58 + 1) R125 Φ126 k127 ∧ k127 < k61)))) (exI fun (I130 : Int → Option Addr → Nat → Nat → Int → List Own → PW → Nat →
  Prop) => (∃ (R131 : List Own), ∃ (Φ132 : PW), ∃ (k133 : Nat), Stable Φ132 ∧ (∀ (w134 : World) (R135 : List Own), Ctx W w134 (R59 ++ R135) I60 → Ctx W w134 (R131 ++ R135) Φ132) ∧ I130 0 none
  0 0 0 R131 Φ132 k133) ∧ ∀ (n136 : Int) (p137 : Option Addr) (k138 k139 : Nat) (n140 : Int) (R141 : List Own) (I142 : List Nat → World → Prop) (k143 : Nat), Stable I142 → I130 n136 p137 k138
  k139 n140 R141 I142 k143 → Br (decide ((↑k138 : Int) < (↑lN : Int))) (exI fun (I144 : Option Addr → Nat → Nat → Int → List Own → PW → Nat → Prop) => (∃ (R145 : List Own), ∃ (Φ146 : PW), ∃
  (k147 : Nat), Stable Φ146 ∧ (∀ (w148 : World) (R149 : List Own), Ctx W w148 (R141 ++ R149) I142 → Ctx W w148 (R145 ++ R149) Φ146) ∧ I144 none 0 0 0 R145 Φ146 k147) ∧ ∀ (p150 : Option Addr)
  (k151 k152 : Nat) (n153 : Int) (R154 : List Own) (I155 : List Nat → World → Prop) (k156 : Nat), Stable I155 → I144 p150 k151 k152 n153 R154 I155 k156 → Br (decide (n153 ≤ n)) (∀ (w157 :
  World) (R158 : List Own), Ctx W w157 (R154 ++ R158) I155 → Br (decide (0 < n153)) (I64 (n153 - 1) ∧ (0 ≤ n153 - 1 ∧ n153 - 1 < (↑k18 : Int)) ∧ ptrK none p17 fun (k159 k160 : Nat) => ∀ (w161
  : World) (R162 : List Own), Ctx W w161 (R154 ++ R162) I155 → ∃ (p163 : Option Addr), w161.cell? (Addr.mk k159 (k160 + (n153 - 1).toNat) none) = some (Value.pointer p163) ∧ ∀ (w164 : World)
  (R165 : List Own), Ctx W w164 (R154 ++ R165) I155 → Calls Try.prog F.channel_Channel_Len #[Value.pointer p163] w164 fun (e166 : Ending) (w167 : World) => ∃ (n168 : Int), e166 =
  Ending.returned (Value.int IntKind.i64 n168) ∧ ∃ (R169 : List Own), ∃ (Φ170 : PW), Stable Φ170 ∧ Ctx W w167 (R169 ++ R165) Φ170 ∧ Br (decide (n153 < n)) ((0 ≤ n153 ∧ n153 < (↑k18 : Int)) ∧
  ptrK none p17 fun (k171 k172 : Nat) => ∀ (w173 : World) (R174 : List Own), Ctx W w173 (R169 ++ R174) Φ170 → ∃ (p175 : Option Addr), w173.cell? (Addr.mk k171 (k172 + n153.toNat) none) = some
  (Value.pointer p175) ∧ ∀ (w176 : World) (R177 : List Own), Ctx W w176 (R169 ++ R177) Φ170 → Calls Try.prog F.channel_Channel_Free #[Value.pointer p175] w176 fun (e178 : Ending) (w179 :
  World) => ∃ (n180 : Int), e178 = Ending.returned (Value.int IntKind.i64 n180) ∧ ∃ (R181 : List Own), ∃ (Φ182 : PW), Stable Φ182 ∧ Ctx W w179 (R181 ++ R177) Φ182 ∧ ∀ (w183 : World) (R184 :
  List Own), Ctx W w183 (R181 ++ R184) Φ182 → Br (decide (0 < n168) && decide (0 < n180)) (∀ (k185 : Nat) (w186 : World) (R187 : List Own), Ctx W w186 (Own.blk k185 [Value.int IntKind.i64
  n153] 3 :: R181 ++ R187) Φ182 → ∃ (p188 : Option Addr), ∃ (k189 : Nat), ∃ (k190 : Nat), ∃ (w191 : World), Sem.run Try.prog (builtin Builtin.append #[23, 23] 23 #[false, false] #[Value.slice
  p150 k151 k152, Value.slice (some (Addr.mk k185 0 none)) 1 1]) w186 = Result.ok (Next.value (Value.slice p188 k189 k190)) w191 ∧ ∃ (R192 : List Own), ∃ (Φ193 : PW), Stable Φ193 ∧ Ctx W w191
  (R192 ++ R187) Φ193 ∧ I64 (n153 + 1) ∧ ∃ (R194 : List Own), ∃ (Φ195 : PW), ∃ (k196 : Nat), Stable Φ195 ∧ (∀ (w197 : World) (R198 : List Own), Ctx W w197 (R192 ++ R198) Φ193 → Ctx W w197
  (R194 ++ R198) Φ195) ∧ I144 p188 k189 k190 (n153 + 1) R194 Φ195 k196 ∧ k196 < k156) (I64 (n153 + 1) ∧ ∃ (R199 : List Own), ∃ (Φ200 : PW), ∃ (k201 : Nat), Stable Φ200 ∧ (∀ (w202 : World)
  (R203 : List Own), Ctx W w202 (R181 ++ R203) Φ182 → Ctx W w202 (R199 ++ R203) Φ200) ∧ I144 p150 k151 k152 (n153 + 1) R199 Φ200 k201 ∧ k201 < k156)) (∀ (w204 : World) (R205 : List Own), Ctx
  W w204 (R169 ++ R205) Φ170 → Br (decide (0 < n168) && decide (n153 = n)) (∀ (k206 : Nat) (w207 : World) (R208 : List Own), Ctx W w207 (Own.blk k206 [Value.int IntKind.i64 n153] 3 :: R169 ++
  R208) Φ170 → ∃ (p209 : Option Addr), ∃ (k210 : Nat), ∃ (k211 : Nat), ∃ (w212 : World), Sem.run Try.prog (builtin Builtin.append #[23, 23] 23 #[false, false] #[Value.slice p150 k151 k152,
  Value.slice (some (Addr.mk k206 0 none)) 1 1]) w207 = Result.ok (Next.value (Value.slice p209 k210 k211)) w212 ∧ ∃ (R213 : List Own), ∃ (Φ214 : PW), Stable Φ214 ∧ Ctx W w212 (R213 ++ R208)
  Φ214 ∧ I64 (n153 + 1) ∧ ∃ (R215 : List Own), ∃ (Φ216 : PW), ∃ (k217 : Nat), Stable Φ216 ∧ (∀ (w218 : World) (R219 : List Own), Ctx W w218 (R213 ++ R219) Φ214 → Ctx W w218 (R215 ++ R219)
  Φ216) ∧ I144 p209 k210 k211 (n153 + 1) R215 Φ216 k217 ∧ k217 < k156) (I64 (n153 + 1) ∧ ∃ (R220 : List Own), ∃ (Φ221 : PW), ∃ (k222 : Nat), Stable Φ221 ∧ (∀ (w223 : World) (R224 : List Own),
  Ctx W w223 (R169 ++ R224) Φ170 → Ctx W w223 (R220 ++ R224) Φ221) ∧ I144 p150 k151 k152 (n153 + 1) R220 Φ221 k222 ∧ k222 < k156))) (Br (decide (n153 < n)) ((0 ≤ n153 ∧ n153 < (↑k18 : Int)) ∧
  ptrK none p17 fun (k225 k226 : Nat) => ∀ (w227 : World) (R228 : List Own), Ctx W w227 (R154 ++ R228) I155 → ∃ (p229 : Option Addr), w227.cell? (Addr.mk k225 (k226 + n153.toNat) none) = some
  (Value.pointer p229) ∧ ∀ (w230 : World) (R231 : List Own), Ctx W w230 (R154 ++ R231) I155 → Calls Try.prog F.channel_Channel_Free #[Value.pointer p229] w230 fun (e232 : Ending) (w233 :
  World) => ∃ (n234 : Int), e232 = Ending.returned (Value.int IntKind.i64 n234) ∧ ∃ (R235 : List Own), ∃ (Φ236 : PW), Stable Φ236 ∧ Ctx W w233 (R235 ++ R231) Φ236 ∧ ∀ (w237 : World) (R238 :
  List Own), Ctx W w237 (R235 ++ R238) Φ236 → Br (decide (n153 = 0) && decide (n136 < (↑lN : Int)) && decide (0 < n234)) (∀ (k239 : Nat) (w240 : World) (R241 : List Own), Ctx W w240 (Own.blk
  k239 [Value.int IntKind.i64 n153] 3 :: R235 ++ R241) Φ236 → ∃ (p242 : Option Addr), ∃ (k243 : Nat), ∃ (k244 : Nat), ∃ (w245 : World), Sem.run Try.prog (builtin Builtin.append #[23, 23] 23
  #[false, false] #[Value.slice p150 k151 k152, Value.slice (some (Addr.mk k239 0 none)) 1 1]) w240 = Result.ok (Next.value (Value.slice p242 k243 k244)) w245 ∧ ∃ (R246 : List Own), ∃ (Φ247 :
  PW), Stable Φ247 ∧ Ctx W w245 (R246 ++ R241) Φ247 ∧ I64 (n153 + 1) ∧ ∃ (R248 : List Own), ∃ (Φ249 : PW), ∃ (k250 : Nat), Stable Φ249 ∧ (∀ (w251 : World) (R252 : List Own), Ctx W w251 (R246
  ++ R252) Φ247 → Ctx W w251 (R248 ++ R252) Φ249) ∧ I144 p242 k243 k244 (n153 + 1) R248 Φ249 k250 ∧ k250 < k156) (I64 (n153 + 1) ∧ ∃ (R253 : List Own), ∃ (Φ254 : PW), ∃ (k255 : Nat), Stable
  Φ254 ∧ (∀ (w256 : World) (R257 : List Own), Ctx W w256 (R235 ++ R257) Φ236 → Ctx W w256 (R253 ++ R257) Φ254) ∧ I144 p150 k151 k152 (n153 + 1) R253 Φ254 k255 ∧ k255 < k156)) (∀ (w258 :
  World) (R259 : List Own), Ctx W w258 (R154 ++ R259) I155 → Br (decide (n153 = 0) && decide (n136 < (↑lN : Int)) && decide (n153 = n)) (∀ (k260 : Nat) (w261 : World) (R262 : List Own), Ctx W
  w261 (Own.blk k260 [Value.int IntKind.i64 n153] 3 :: R154 ++ R262) I155 → ∃ (p263 : Option Addr), ∃ (k264 : Nat), ∃ (k265 : Nat), ∃ (w266 : World), Sem.run Try.prog (builtin Builtin.append
  #[23, 23] 23 #[false, false] #[Value.slice p150 k151 k152, Value.slice (some (Addr.mk k260 0 none)) 1 1]) w261 = Result.ok (Next.value (Value.slice p263 k264 k265)) w266 ∧ ∃ (R267 : List
  Own), ∃ (Φ268 : PW), Stable Φ268 ∧ Ctx W w266 (R267 ++ R262) Φ268 ∧ I64 (n153 + 1) ∧ ∃ (R269 : List Own), ∃ (Φ270 : PW), ∃ (k271 : Nat), Stable Φ270 ∧ (∀ (w272 : World) (R273 : List Own),
  Ctx W w272 (R267 ++ R273) Φ268 → Ctx W w272 (R269 ++ R273) Φ270) ∧ I144 p263 k264 k265 (n153 + 1) R269 Φ270 k271 ∧ k271 < k156) (I64 (n153 + 1) ∧ ∃ (R274 : List Own), ∃ (Φ275 : PW), ∃ (k276
  : Nat), Stable Φ275 ∧ (∀ (w277 : World) (R278 : List Own), Ctx W w277 (R154 ++ R278) I155 → Ctx W w277 (R274 ++ R278) Φ275) ∧ I144 p150 k151 k152 (n153 + 1) R274 Φ275 k276 ∧ k276 < k156))))
  (∀ (w279 : World) (R280 : List Own), Ctx W w279 (R154 ++ R280) I155 → Br (decide ((↑k151 : Int) = 0) || decide (400 < n140)) (∀ (w281 : World) (R282 : List Own), Ctx W w281 (R154 ++ R282)
  I155 → J (Value.bool false) w281) (((0 : Int) ≤ 0 ∧ 0 < (↑k151 : Int)) ∧ ptrK none p150 fun (k283 k284 : Nat) => ∀ (w285 : World) (R286 : List Own), Ctx W w285 (R154 ++ R286) I155 → ∃ (n287
  : Int), w285.cell? (Addr.mk k283 k284 none) = some (Value.int IntKind.i64 n287) ∧ Br (decide (n140 < (↑picksN : Int))) ((0 ≤ n140 ∧ n140 < (↑picksN : Int)) ∧ ptrK none picksP fun (k288 k289
  : Nat) => ∀ (w290 : World) (R291 : List Own), Ctx W w290 (R154 ++ R291) I155 → ∃ (n292 : Int), w290.cell? (Addr.mk k288 (k289 + n140.toNat) none) = some (Value.int IntKind.i64 n292) ∧
  ((↑k151 : Int) = 0 → False) ∧ Br (decide (n292.tmod (↑k151 : Int) < 0)) (I64 (n292.tmod (↑k151 : Int) + (↑k151 : Int)) ∧ (0 ≤ n292.tmod (↑k151 : Int) + (↑k151 : Int) ∧ n292.tmod (↑k151 :
  Int) + (↑k151 : Int) < (↑k151 : Int)) ∧ ptrK none p150 fun (k293 k294 : Nat) => ∀ (w295 : World) (R296 : List Own), Ctx W w295 (R154 ++ R296) I155 → ∃ (n297 : Int), w295.cell? (Addr.mk k293
  (k294 + (n292.tmod (↑k151 : Int) + (↑k151 : Int)).toNat) none) = some (Value.int IntKind.i64 n297) ∧ ∀ (b : Nat), Br (decide (n297 = 0)) ((0 ≤ n136 ∧ n136 < (↑lN : Int)) ∧ ptrK none lP fun
  (k298 k299 : Nat) => ∀ (w300 : World) (R301 : List Own), Ctx W w300 (R154 ++ R301) I155 → ∃ (n302 : Int), ∃ (n303 : Int), ∃ (n304 : Int), ∃ (n305 : Int), ∃ (n306 : Int), ∃ (p307 : Option
  Addr), ∃ (k308 : Nat), ∃ (k309 : Nat), RowAt w300 k298 (k299 + n136.toNat * 6) [Value.int IntKind.i64 n302, Value.int IntKind.i64 n303, Value.int IntKind.i64 n304, Value.int IntKind.i64
  n305, Value.int IntKind.i64 n306, Value.slice p307 k308 k309] ∧ I64 (n136 + 1) ∧ Br (decide (n297 = n)) (∀ (k310 : Nat) (w311 : World) (R312 : List Own), Ctx W w311 (Own.blk k310 [Value.int
  IntKind.i64 n302, Value.int IntKind.i64 n303, Value.int IntKind.i64 n304, Value.int IntKind.i64 n305, Value.int IntKind.i64 n306, Value.slice p307 k308 k309] 31 :: R154 ++ R312) I155 → ∃
  (p313 : Option Addr), ∃ (k314 : Nat), ∃ (k315 : Nat), ∃ (w316 : World), Sem.run Try.prog (builtin Builtin.append #[22, 22] 22 #[false, false] #[Value.slice p137 k138 k139, Value.slice (some
  (Addr.mk k310 0 none)) 1 1]) w311 = Result.ok (Next.value (Value.slice p313 k314 k315)) w316 ∧ ∃ (R317 : List Own), ∃ (Φ318 : PW), Stable Φ318 ∧ Ctx W w316 (R317 ++ R312) Φ318 ∧ I64 (n140 +
  1) ∧ ∃ (R319 : List Own), ∃ (Φ320 : PW), ∃ (k321 : Nat), Stable Φ320 ∧ (∀ (w322 : World) (R323 : List Own), Ctx W w322 (R317 ++ R323) Φ318 → Ctx W w322 (R319 ++ R323) Φ320) ∧ I130 (n136 +
  1) p313 k314 k315 (n140 + 1) R319 Φ320 k321 ∧ k321 < k143) (∃ (R324 : List Own), ∃ (Φ325 : PW), Stable Φ325 ∧ (∀ (w326 : World) (R327 : List Own), Ctx W w326 (R154 ++ R327) I155 → Ctx W
  w326 (R324 ++ R327) Φ325) ∧ (0 ≤ n297 ∧ n297 < (↑k18 : Int)) ∧ ptrK none p17 fun (k328 k329 : Nat) => ∀ (w330 : World) (R331 : List Own), Ctx W w330 (R154 ++ R331) I155 → ∃ (p332 : Option
  Addr), w330.cell? (Addr.mk k328 (k329 + n297.toNat) none) = some (Value.pointer p332) ∧ ∀ (w333 : World) (R334 : List Own), Ctx W w333 (R154 ++ R334) I155 → Calls Try.prog
  F.channel_Channel_Send #[Value.pointer p332, Value.agg #[Value.int IntKind.i64 n302, Value.int IntKind.i64 n303, Value.int IntKind.i64 n304, Value.int IntKind.i64 n305, Value.int
  IntKind.i64 n306, Value.slice p307 k308 k309]] w333 fun (e335 : Ending) (w336 : World) => ∃ (n337 : Int), e335 = Ending.returned (Value.int IntKind.i64 n337) ∧ ∃ (R338 : List Own), ∃ (Φ339
  : PW), Stable Φ339 ∧ Ctx W w336 (R338 ++ R334) Φ339 ∧ (∀ (w340 : World) (R341 : List Own), Ctx W w340 (R338 ++ R341) Φ339 → Ctx W w340 (R324 ++ R341) Φ325) ∧ Br (decide (n337 ≠ 0)) (∀ (w342
  : World) (R343 : List Own), Ctx W w342 (R338 ++ R343) Φ339 → J (Value.bool false) w342) (I64 (n140 + 1) ∧ ∃ (R344 : List Own), ∃ (Φ345 : PW), ∃ (k346 : Nat), Stable Φ345 ∧ (∀ (w347 : World)
  (R348 : List Own), Ctx W w347 (R338 ++ R348) Φ339 → Ctx W w347 (R344 ++ R348) Φ345) ∧ I130 (n136 + 1) p137 k138 k139 (n140 + 1) R344 Φ345 k346 ∧ k346 < k143))) (I64 (n297 - 1) ∧ (0 ≤ n297 -
  1 ∧ n297 - 1 < (↑k18 : Int)) ∧ ptrK none p17 fun (k349 k350 : Nat) => ∀ (w351 : World) (R352 : List Own), Ctx W w351 (R154 ++ R352) I155 → ∃ (p353 : Option Addr), w351.cell? (Addr.mk k349
  (k350 + (n297 - 1).toNat) none) = some (Value.pointer p353) ∧ ∀ (w354 : World) (R355 : List Own), Ctx W w354 (R154 ++ R355) I155 → Calls Try.prog F.channel_Channel_Take #[Value.pointer
  p353] w354 fun (e356 : Ending) (w357 : World) => ∃ (n358 : Int), ∃ (n359 : Int), ∃ (n360 : Int), ∃ (n361 : Int), ∃ (n362 : Int), ∃ (p363 : Option Addr), ∃ (k364 : Nat), ∃ (k365 : Nat), ∃
  (n366 : Int), e356 = Ending.returned (Value.tuple #[Value.agg #[Value.int IntKind.i64 n358, Value.int IntKind.i64 n359, Value.int IntKind.i64 n360, Value.int IntKind.i64 n361, Value.int
  IntKind.i64 n362, Value.slice p363 k364 k365], Value.int IntKind.i64 n366]) ∧ ∃ (R367 : List Own), ∃ (Φ368 : PW), Stable Φ368 ∧ Ctx W w357 (R367 ++ R355) Φ368 ∧ ∀ (b : Nat), Br (decide
  (n366 ≠ 0)) (∀ (w369 : World) (R370 : List Own), Ctx W w369 (R367 ++ R370) Φ368 → J (Value.bool false) w369) (Br (decide (n297 = n)) (∀ (k371 : Nat) (w372 : World) (R373 : List Own), Ctx W
  w372 (Own.blk k371 [Value.int IntKind.i64 n358, Value.int IntKind.i64 n359, Value.int IntKind.i64 n360, Value.int IntKind.i64 n361, Value.int IntKind.i64 n362, Value.slice p363 k364 k365]
  31 :: R367 ++ R373) Φ368 → ∃ (p374 : Option Addr), ∃ (k375 : Nat), ∃ (k376 : Nat), ∃ (w377 : World), Sem.run Try.prog (builtin Builtin.append #[22, 22] 22 #[false, false] #[Value.slice p137
  k138 k139, Value.slice (some (Addr.mk k371 0 none)) 1 1]) w372 = Result.ok (Next.value (Value.slice p374 k375 k376)) w377 ∧ ∃ (R378 : List Own), ∃ (Φ379 : PW), Stable Φ379 ∧ Ctx W w377
  (R378 ++ R373) Φ379 ∧ I64 (n140 + 1) ∧ ∃ (R380 : List Own), ∃ (Φ381 : PW), ∃ (k382 : Nat), Stable Φ381 ∧ (∀ (w383 : World) (R384 : List Own), Ctx W w383 (R378 ++ R384) Φ379 → Ctx W w383
  (R380 ++ R384) Φ381) ∧ I130 n136 p374 k375 k376 (n140 + 1) R380 Φ381 k382 ∧ k382 < k143) (∃ (R385 : List Own), ∃ (Φ386 : PW), Stable Φ386 ∧ (∀ (w387 : World) (R388 : List Own), Ctx W w387
  (R367 ++ R388) Φ368 → Ctx W w387 (R385 ++ R388) Φ386) ∧ (0 ≤ n297 ∧ n297 < (↑k18 : Int)) ∧ ptrK none p17 fun (k389 k390 : Nat) => ∀ (w391 : World) (R392 : List Own), Ctx W w391 (R367 ++
  R392) Φ368 → ∃ (p393 : Option Addr), w391.cell? (Addr.mk k389 (k390 + n297.toNat) none) = some (Value.pointer p393) ∧ ∀ (w394 : World) (R395 : List Own), Ctx W w394 (R367 ++ R395) Φ368 →
  Calls Try.prog F.channel_Channel_Send #[Value.pointer p393, Value.agg #[Value.int IntKind.i64 n358, Value.int IntKind.i64 n359, Value.int IntKind.i64 n360, Value.int IntKind.i64 n361,
  Value.int IntKind.i64 n362, Value.slice p363 k364 k365]] w394 fun (e396 : Ending) (w397 : World) => ∃ (n398 : Int), e396 = Ending.returned (Value.int IntKind.i64 n398) ∧ ∃ (R399 : List
  Own), ∃ (Φ400 : PW), Stable Φ400 ∧ Ctx W w397 (R399 ++ R395) Φ400 ∧ (∀ (w401 : World) (R402 : List Own), Ctx W w401 (R399 ++ R402) Φ400 → Ctx W w401 (R385 ++ R402) Φ386) ∧ Br (decide (n398
  ≠ 0)) (∀ (w403 : World) (R404 : List Own), Ctx W w403 (R399 ++ R404) Φ400 → J (Value.bool false) w403) (I64 (n140 + 1) ∧ ∃ (R405 : List Own), ∃ (Φ406 : PW), ∃ (k407 : Nat), Stable Φ406 ∧ (∀
  (w408 : World) (R409 : List Own), Ctx W w408 (R399 ++ R409) Φ400 → Ctx W w408 (R405 ++ R409) Φ406) ∧ I130 n136 p137 k138 k139 (n140 + 1) R405 Φ406 k407 ∧ k407 < k143))))) ((0 ≤ n292.tmod
  (↑k151 : Int) ∧ n292.tmod (↑k151 : Int) < (↑k151 : Int)) ∧ ptrK none p150 fun (k410 k411 : Nat) => ∀ (w412 : World) (R413 : List Own), Ctx W w412 (R154 ++ R413) I155 → ∃ (n414 : Int),
  w412.cell? (Addr.mk k410 (k411 + (n292.tmod (↑k151 : Int)).toNat) none) = some (Value.int IntKind.i64 n414) ∧ ∀ (b : Nat), Br (decide (n414 = 0)) ((0 ≤ n136 ∧ n136 < (↑lN : Int)) ∧ ptrK
  none lP fun (k415 k416 : Nat) => ∀ (w417 : World) (R418 : List Own), Ctx W w417 (R154 ++ R418) I155 → ∃ (n419 : Int), ∃ (n420 : Int), ∃ (n421 : Int), ∃ (n422 : Int), ∃ (n423 : Int), ∃ (p424
  : Option Addr), ∃ (k425 : Nat), ∃ (k426 : Nat), RowAt w417 k415 (k416 + n136.toNat * 6) [Value.int IntKind.i64 n419, Value.int IntKind.i64 n420, Value.int IntKind.i64 n421, Value.int
  IntKind.i64 n422, Value.int IntKind.i64 n423, Value.slice p424 k425 k426] ∧ I64 (n136 + 1) ∧ Br (decide (n414 = n)) (∀ (k427 : Nat) (w428 : World) (R429 : List Own), Ctx W w428 (Own.blk
  k427 [Value.int IntKind.i64 n419, Value.int IntKind.i64 n420, Value.int IntKind.i64 n421, Value.int IntKind.i64 n422, Value.int IntKind.i64 n423, Value.slice p424 k425 k426] 31 :: R154 ++
  R429) I155 → ∃ (p430 : Option Addr), ∃ (k431 : Nat), ∃ (k432 : Nat), ∃ (w433 : World), Sem.run Try.prog (builtin Builtin.append #[22, 22] 22 #[false, false] #[Value.slice p137 k138 k139,
  Value.slice (some (Addr.mk k427 0 none)) 1 1]) w428 = Result.ok (Next.value (Value.slice p430 k431 k432)) w433 ∧ ∃ (R434 : List Own), ∃ (Φ435 : PW), Stable Φ435 ∧ Ctx W w433 (R434 ++ R429)
  Φ435 ∧ I64 (n140 + 1) ∧ ∃ (R436 : List Own), ∃ (Φ437 : PW), ∃ (k438 : Nat), Stable Φ437 ∧ (∀ (w439 : World) (R440 : List Own), Ctx W w439 (R434 ++ R440) Φ435 → Ctx W w439 (R436 ++ R440)
  Φ437) ∧ I130 (n136 + 1) p430 k431 k432 (n140 + 1) R436 Φ437 k438 ∧ k438 < k143) (∃ (R441 : List Own), ∃ (Φ442 : PW), Stable Φ442 ∧ (∀ (w443 : World) (R444 : List Own), Ctx W w443 (R154 ++
  R444) I155 → Ctx W w443 (R441 ++ R444) Φ442) ∧ (0 ≤ n414 ∧ n414 < (↑k18 : Int)) ∧ ptrK none p17 fun (k445 k446 : Nat) => ∀ (w447 : World) (R448 : List Own), Ctx W w447 (R154 ++ R448) I155 →
  ∃ (p449 : Option Addr), w447.cell? (Addr.mk k445 (k446 + n414.toNat) none) = some (Value.pointer p449) ∧ ∀ (w450 : World) (R451 : List Own), Ctx W w450 (R154 ++ R451) I155 → Calls Try.prog
  F.channel_Channel_Send #[Value.pointer p449, Value.agg #[Value.int IntKind.i64 n419, Value.int IntKind.i64 n420, Value.int IntKind.i64 n421, Value.int IntKind.i64 n422, Value.int
  IntKind.i64 n423, Value.slice p424 k425 k426]] w450 fun (e452 : Ending) (w453 : World) => ∃ (n454 : Int), e452 = Ending.returned (Value.int IntKind.i64 n454) ∧ ∃ (R455 : List Own), ∃ (Φ456
  : PW), Stable Φ456 ∧ Ctx W w453 (R455 ++ R451) Φ456 ∧ (∀ (w457 : World) (R458 : List Own), Ctx W w457 (R455 ++ R458) Φ456 → Ctx W w457 (R441 ++ R458) Φ442) ∧ Br (decide (n454 ≠ 0)) (∀ (w459
  : World) (R460 : List Own), Ctx W w459 (R455 ++ R460) Φ456 → J (Value.bool false) w459) (I64 (n140 + 1) ∧ ∃ (R461 : List Own), ∃ (Φ462 : PW), ∃ (k463 : Nat), Stable Φ462 ∧ (∀ (w464 : World)
  (R465 : List Own), Ctx W w464 (R455 ++ R465) Φ456 → Ctx W w464 (R461 ++ R465) Φ462) ∧ I130 (n136 + 1) p137 k138 k139 (n140 + 1) R461 Φ462 k463 ∧ k463 < k143))) (I64 (n414 - 1) ∧ (0 ≤ n414 -
  1 ∧ n414 - 1 < (↑k18 : Int)) ∧ ptrK none p17 fun (k466 k467 : Nat) => ∀ (w468 : World) (R469 : List Own), Ctx W w468 (R154 ++ R469) I155 → ∃ (p470 : Option Addr), w468.cell? (Addr.mk k466
  (k467 + (n414 - 1).toNat) none) = some (Value.pointer p470) ∧ ∀ (w471 : World) (R472 : List Own), Ctx W w471 (R154 ++ R472) I155 → Calls Try.prog F.channel_Channel_Take #[Value.pointer
  p470] w471 fun (e473 : Ending) (w474 : World) => ∃ (n475 : Int), ∃ (n476 : Int), ∃ (n477 : Int), ∃ (n478 : Int), ∃ (n479 : Int), ∃ (p480 : Option Addr), ∃ (k481 : Nat), ∃ (k482 : Nat), ∃
  (n483 : Int), e473 = Ending.returned (Value.tuple #[Value.agg #[Value.int IntKind.i64 n475, Value.int IntKind.i64 n476, Value.int IntKind.i64 n477, Value.int IntKind.i64 n478, Value.int
  IntKind.i64 n479, Value.slice p480 k481 k482], Value.int IntKind.i64 n483]) ∧ ∃ (R484 : List Own), ∃ (Φ485 : PW), Stable Φ485 ∧ Ctx W w474 (R484 ++ R472) Φ485 ∧ ∀ (b : Nat), Br (decide
  (n483 ≠ 0)) (∀ (w486 : World) (R487 : List Own), Ctx W w486 (R484 ++ R487) Φ485 → J (Value.bool false) w486) (Br (decide (n414 = n)) (∀ (k488 : Nat) (w489 : World) (R490 : List Own), Ctx W
  w489 (Own.blk k488 [Value.int IntKind.i64 n475, Value.int IntKind.i64 n476, Value.int IntKind.i64 n477, Value.int IntKind.i64 n478, Value.int IntKind.i64 n479, Value.slice p480 k481 k482]
  31 :: R484 ++ R490) Φ485 → ∃ (p491 : Option Addr), ∃ (k492 : Nat), ∃ (k493 : Nat), ∃ (w494 : World), Sem.run Try.prog (builtin Builtin.append #[22, 22] 22 #[false, false] #[Value.slice p137
  k138 k139, Value.slice (some (Addr.mk k488 0 none)) 1 1]) w489 = Result.ok (Next.value (Value.slice p491 k492 k493)) w494 ∧ ∃ (R495 : List Own), ∃ (Φ496 : PW), Stable Φ496 ∧ Ctx W w494
  (R495 ++ R490) Φ496 ∧ I64 (n140 + 1) ∧ ∃ (R497 : List Own), ∃ (Φ498 : PW), ∃ (k499 : Nat), Stable Φ498 ∧ (∀ (w500 : World) (R501 : List Own), Ctx W w500 (R495 ++ R501) Φ496 → Ctx W w500
  (R497 ++ R501) Φ498) ∧ I130 n136 p491 k492 k493 (n140 + 1) R497 Φ498 k499 ∧ k499 < k143) (∃ (R502 : List Own), ∃ (Φ503 : PW), Stable Φ503 ∧ (∀ (w504 : World) (R505 : List Own), Ctx W w504
  (R484 ++ R505) Φ485 → Ctx W w504 (R502 ++ R505) Φ503) ∧ (0 ≤ n414 ∧ n414 < (↑k18 : Int)) ∧ ptrK none p17 fun (k506 k507 : Nat) => ∀ (w508 : World) (R509 : List Own), Ctx W w508 (R484 ++
  R509) Φ485 → ∃ (p510 : Option Addr), w508.cell? (Addr.mk k506 (k507 + n414.toNat) none) = some (Value.pointer p510) ∧ ∀ (w511 : World) (R512 : List Own), Ctx W w511 (R484 ++ R512) Φ485 →
  Calls Try.prog F.channel_Channel_Send #[Value.pointer p510, Value.agg #[Value.int IntKind.i64 n475, Value.int IntKind.i64 n476, Value.int IntKind.i64 n477, Value.int IntKind.i64 n478,
  Value.int IntKind.i64 n479, Value.slice p480 k481 k482]] w511 fun (e513 : Ending) (w514 : World) => ∃ (n515 : Int), e513 = Ending.returned (Value.int IntKind.i64 n515) ∧ ∃ (R516 : List
  Own), ∃ (Φ517 : PW), Stable Φ517 ∧ Ctx W w514 (R516 ++ R512) Φ517 ∧ (∀ (w518 : World) (R519 : List Own), Ctx W w518 (R516 ++ R519) Φ517 → Ctx W w518 (R502 ++ R519) Φ503) ∧ Br (decide (n515
  ≠ 0)) (∀ (w520 : World) (R521 : List Own), Ctx W w520 (R516 ++ R521) Φ517 → J (Value.bool false) w520) (I64 (n140 + 1) ∧ ∃ (R522 : List Own), ∃ (Φ523 : PW), ∃ (k524 : Nat), Stable Φ523 ∧ (∀
  (w525 : World) (R526 : List Own), Ctx W w525 (R516 ++ R526) Φ517 → Ctx W w525 (R522 ++ R526) Φ523) ∧ I130 n136 p137 k138 k139 (n140 + 1) R522 Φ523 k524 ∧ k524 < k143)))))) (∀ (b : Nat), Br
  (decide (n287 = 0)) ((0 ≤ n136 ∧ n136 < (↑lN : Int)) ∧ ptrK none lP fun (k527 k528 : Nat) => ∀ (w529 : World) (R530 : List Own), Ctx W w529 (R154 ++ R530) I155 → ∃ (n531 : Int), ∃ (n532 :
  Int), ∃ (n533 : Int), ∃ (n534 : Int), ∃ (n535 : Int), ∃ (p536 : Option Addr), ∃ (k537 : Nat), ∃ (k538 : Nat), RowAt w529 k527 (k528 + n136.toNat * 6) [Value.int IntKind.i64 n531, Value.int
  IntKind.i64 n532, Value.int IntKind.i64 n533, Value.int IntKind.i64 n534, Value.int IntKind.i64 n535, Value.slice p536 k537 k538] ∧ I64 (n136 + 1) ∧ Br (decide (n287 = n)) (∀ (k539 : Nat)
  (w540 : World) (R541 : List Own), Ctx W w540 (Own.blk k539 [Value.int IntKind.i64 n531, Value.int IntKind.i64 n532, Value.int IntKind.i64 n533, Value.int IntKind.i64 n534, Value.int
  IntKind.i64 n535, Value.slice p536 k537 k538] 31 :: R154 ++ R541) I155 → ∃ (p542 : Option Addr), ∃ (k543 : Nat), ∃ (k544 : Nat), ∃ (w545 : World), Sem.run Try.prog (builtin Builtin.append
  #[22, 22] 22 #[false, false] #[Value.slice p137 k138 k139, Value.slice (some (Addr.mk k539 0 none)) 1 1]) w540 = Result.ok (Next.value (Value.slice p542 k543 k544)) w545 ∧ ∃ (R546 : List
  Own), ∃ (Φ547 : PW), Stable Φ547 ∧ Ctx W w545 (R546 ++ R541) Φ547 ∧ I64 (n140 + 1) ∧ ∃ (R548 : List Own), ∃ (Φ549 : PW), ∃ (k550 : Nat), Stable Φ549 ∧ (∀ (w551 : World) (R552 : List Own),
  Ctx W w551 (R546 ++ R552) Φ547 → Ctx W w551 (R548 ++ R552) Φ549) ∧ I130 (n136 + 1) p542 k543 k544 (n140 + 1) R548 Φ549 k550 ∧ k550 < k143) (∃ (R553 : List Own), ∃ (Φ554 : PW), Stable Φ554 ∧
  (∀ (w555 : World) (R556 : List Own), Ctx W w555 (R154 ++ R556) I155 → Ctx W w555 (R553 ++ R556) Φ554) ∧ (0 ≤ n287 ∧ n287 < (↑k18 : Int)) ∧ ptrK none p17 fun (k557 k558 : Nat) => ∀ (w559 :
  World) (R560 : List Own), Ctx W w559 (R154 ++ R560) I155 → ∃ (p561 : Option Addr), w559.cell? (Addr.mk k557 (k558 + n287.toNat) none) = some (Value.pointer p561) ∧ ∀ (w562 : World) (R563 :
  List Own), Ctx W w562 (R154 ++ R563) I155 → Calls Try.prog F.channel_Channel_Send #[Value.pointer p561, Value.agg #[Value.int IntKind.i64 n531, Value.int IntKind.i64 n532, Value.int
  IntKind.i64 n533, Value.int IntKind.i64 n534, Value.int IntKind.i64 n535, Value.slice p536 k537 k538]] w562 fun (e564 : Ending) (w565 : World) => ∃ (n566 : Int), e564 = Ending.returned
  (Value.int IntKind.i64 n566) ∧ ∃ (R567 : List Own), ∃ (Φ568 : PW), Stable Φ568 ∧ Ctx W w565 (R567 ++ R563) Φ568 ∧ (∀ (w569 : World) (R570 : List Own), Ctx W w569 (R567 ++ R570) Φ568 → Ctx W
  w569 (R553 ++ R570) Φ554) ∧ Br (decide (n566 ≠ 0)) (∀ (w571 : World) (R572 : List Own), Ctx W w571 (R567 ++ R572) Φ568 → J (Value.bool false) w571) (I64 (n140 + 1) ∧ ∃ (R573 : List Own), ∃
  (Φ574 : PW), ∃ (k575 : Nat), Stable Φ574 ∧ (∀ (w576 : World) (R577 : List Own), Ctx W w576 (R567 ++ R577) Φ568 → Ctx W w576 (R573 ++ R577) Φ574) ∧ I130 (n136 + 1) p137 k138 k139 (n140 + 1)
  R573 Φ574 k575 ∧ k575 < k143))) (I64 (n287 - 1) ∧ (0 ≤ n287 - 1 ∧ n287 - 1 < (↑k18 : Int)) ∧ ptrK none p17 fun (k578 k579 : Nat) => ∀ (w580 : World) (R581 : List Own), Ctx W w580 (R154 ++
  R581) I155 → ∃ (p582 : Option Addr), w580.cell? (Addr.mk k578 (k579 + (n287 - 1).toNat) none) = some (Value.pointer p582) ∧ ∀ (w583 : World) (R584 : List Own), Ctx W w583 (R154 ++ R584)
  I155 → Calls Try.prog F.channel_Channel_Take #[Value.pointer p582] w583 fun (e585 : Ending) (w586 : World) => ∃ (n587 : Int), ∃ (n588 : Int), ∃ (n589 : Int), ∃ (n590 : Int), ∃ (n591 : Int),
  ∃ (p592 : Option Addr), ∃ (k593 : Nat), ∃ (k594 : Nat), ∃ (n595 : Int), e585 = Ending.returned (Value.tuple #[Value.agg #[Value.int IntKind.i64 n587, Value.int IntKind.i64 n588, Value.int
  IntKind.i64 n589, Value.int IntKind.i64 n590, Value.int IntKind.i64 n591, Value.slice p592 k593 k594], Value.int IntKind.i64 n595]) ∧ ∃ (R596 : List Own), ∃ (Φ597 : PW), Stable Φ597 ∧ Ctx W
  w586 (R596 ++ R584) Φ597 ∧ ∀ (b : Nat), Br (decide (n595 ≠ 0)) (∀ (w598 : World) (R599 : List Own), Ctx W w598 (R596 ++ R599) Φ597 → J (Value.bool false) w598) (Br (decide (n287 = n)) (∀
  (k600 : Nat) (w601 : World) (R602 : List Own), Ctx W w601 (Own.blk k600 [Value.int IntKind.i64 n587, Value.int IntKind.i64 n588, Value.int IntKind.i64 n589, Value.int IntKind.i64 n590,
  Value.int IntKind.i64 n591, Value.slice p592 k593 k594] 31 :: R596 ++ R602) Φ597 → ∃ (p603 : Option Addr), ∃ (k604 : Nat), ∃ (k605 : Nat), ∃ (w606 : World), Sem.run Try.prog (builtin
  Builtin.append #[22, 22] 22 #[false, false] #[Value.slice p137 k138 k139, Value.slice (some (Addr.mk k600 0 none)) 1 1]) w601 = Result.ok (Next.value (Value.slice p603 k604 k605)) w606 ∧ ∃
  (R607 : List Own), ∃ (Φ608 : PW), Stable Φ608 ∧ Ctx W w606 (R607 ++ R602) Φ608 ∧ I64 (n140 + 1) ∧ ∃ (R609 : List Own), ∃ (Φ610 : PW), ∃ (k611 : Nat), Stable Φ610 ∧ (∀ (w612 : World) (R613 :
  List Own), Ctx W w612 (R607 ++ R613) Φ608 → Ctx W w612 (R609 ++ R613) Φ610) ∧ I130 n136 p603 k604 k605 (n140 + 1) R609 Φ610 k611 ∧ k611 < k143) (∃ (R614 : List Own), ∃ (Φ615 : PW), Stable
  Φ615 ∧ (∀ (w616 : World) (R617 : List Own), Ctx W w616 (R596 ++ R617) Φ597 → Ctx W w616 (R614 ++ R617) Φ615) ∧ (0 ≤ n287 ∧ n287 < (↑k18 : Int)) ∧ ptrK none p17 fun (k618 k619 : Nat) => ∀
  (w620 : World) (R621 : List Own), Ctx W w620 (R596 ++ R621) Φ597 → ∃ (p622 : Option Addr), w620.cell? (Addr.mk k618 (k619 + n287.toNat) none) = some (Value.pointer p622) ∧ ∀ (w623 : World)
  (R624 : List Own), Ctx W w623 (R596 ++ R624) Φ597 → Calls Try.prog F.channel_Channel_Send #[Value.pointer p622, Value.agg #[Value.int IntKind.i64 n587, Value.int IntKind.i64 n588, Value.int
  IntKind.i64 n589, Value.int IntKind.i64 n590, Value.int IntKind.i64 n591, Value.slice p592 k593 k594]] w623 fun (e625 : Ending) (w626 : World) => ∃ (n627 : Int), e625 = Ending.returned
  (Value.int IntKind.i64 n627) ∧ ∃ (R628 : List Own), ∃ (Φ629 : PW), Stable Φ629 ∧ Ctx W w626 (R628 ++ R624) Φ629 ∧ (∀ (w630 : World) (R631 : List Own), Ctx W w630 (R628 ++ R631) Φ629 → Ctx W
  w630 (R614 ++ R631) Φ615) ∧ Br (decide (n627 ≠ 0)) (∀ (w632 : World) (R633 : List Own), Ctx W w632 (R628 ++ R633) Φ629 → J (Value.bool false) w632) (I64 (n140 + 1) ∧ ∃ (R634 : List Own), ∃
  (Φ635 : PW), ∃ (k636 : Nat), Stable Φ635 ∧ (∀ (w637 : World) (R638 : List Own), Ctx W w637 (R628 ++ R638) Φ629 → Ctx W w637 (R634 ++ R638) Φ635) ∧ I130 n136 p137 k138 k139 (n140 + 1) R634
  Φ635 k636 ∧ k636 < k143)))))))) (Br c4 (∀ (w639 : World) (R640 : List Own), Ctx W w639 (R141 ++ R640) I142 → Calls Try.prog F.errataref36_SameList #[Value.slice p137 k138 k139, Value.slice
  lP lN lC] w639 fun (e641 : Ending) (w642 : World) => ∃ (c643 : Bool), e641 = Ending.returned (Value.bool c643) ∧ ∃ (R644 : List Own), ∃ (Φ645 : PW), Stable Φ645 ∧ Ctx W w642 (R644 ++ R640)
  Φ645 ∧ ∀ (w646 : World) (R647 : List Own), Ctx W w646 (R644 ++ R647) Φ645 → J (Value.bool c643) w646) (∀ (w648 : World) (R649 : List Own), Ctx W w648 (R141 ++ R649) I142 → J (Value.bool
  false) w648)))))

theorem Berratalaw36_ChannelLine_run (n : Int) (lP : Option Addr) (lN lC : Nat) (picksP : Option Addr) (picksN picksC : Nat) {W w : World} {R : List Own} {Φ : PW} [Stable Φ] {J : Value → World → Prop} (c : Ctx W w R Φ) (h : Berratalaw36_ChannelLine n lP lN lC picksP picksN picksC W R Φ J) : Calls Try.prog F.erratalaw36_ChannelLine #[.int .i64 n, .slice lP lN lC, .slice picksP picksN picksC] w fun e w' => ∃ v, e = .returned v ∧ J v w' :=
  vcFS_sound (H := { keep := some [0, 1, 2, 6, 7, 8, 9, 10, 11, 12, 13, 14, 15, 16, 17, 18, 19, 20, 21, 22, 39, 43, 54, 58, 82, 88, 93, 105, 118, 128, 139, 146, 155, 166, 183, 187, 198], track := [20, 21], stages := [(51, [.late [4, 3] [0, 1, 4, 2, 3] [(5, [6])]])], split := [14, 53], loops := [(23, [(14, .one (.slice)), (15, .one (.int .i64))], []), (19, [(11, .one (.int .i64)), (12, .one (.slice)), (13, .one (.int .i64))], []), (12, [(10, .one (.int .i64))], []), (6, [(8, .one (.slice)), (9, .one (.int .i64))], [])] }) (by rw [show vcFS Try.prog W { keep := some [0, 1, 2, 6, 7, 8, 9, 10, 11, 12, 13, 14, 15, 16, 17, 18, 19, 20, 21, 22, 39, 43, 54, 58, 82, 88, 93, 105, 118, 128, 139, 146, 155, 166, 183, 187, 198], track := [20, 21], stages := [(51, [.late [4, 3] [0, 1, 4, 2, 3] [(5, [6])]])], split := [14, 53], loops := [(23, [(14, .one (.slice)), (15, .one (.int .i64))], []), (19, [(11, .one (.int .i64)), (12, .one (.slice)), (13, .one (.int .i64))], []), (12, [(10, .one (.int .i64))], []), (6, [(8, .one (.slice)), (9, .one (.int .i64))], [])] } F.erratalaw36_ChannelLine #[.int .i64 n, .slice lP lN lC, .slice picksP picksN picksC] R Φ J = Berratalaw36_ChannelLine n lP lN lC picksP picksN picksC W R Φ J by kernel_rfl]; exact h) c

/-- erratalaw36.small -/
-- loop at region 5: 2 i; blocks 
-- known blocks: 4 m
def Berratalaw36_small  (W : World) (R : List Own) (Φ : PW) (J : Value → World → Prop) : Prop :=
  ∀ (w0 : World) (R1 : List Own), Ctx W w0 (R ++ R1) Φ → Calls Try.prog F.channel_New #[] w0 fun (e2 : Ending) (w3 : World) => ∃ (p4 : Option Addr), e2 = Ending.returned (Value.pointer p4) ∧
  ∃ (R5 : List Own), ∃ (Φ6 : PW), Stable Φ6 ∧ Ctx W w3 (R5 ++ R1) Φ6 ∧ Br p4.isNone (∀ (w7 : World) (R8 : List Own), Ctx W w7 (R5 ++ R8) Φ6 → J (Value.bool false) w7) (exI fun (I9 : Int →
  List Own → PW → Nat → Prop) => (∃ (R10 : List Own), ∃ (Φ11 : PW), ∃ (k12 : Nat), Stable Φ11 ∧ (∀ (w13 : World) (R14 : List Own), Ctx W w13 (R5 ++ R14) Φ6 → Ctx W w13 (R10 ++ R14) Φ11) ∧ I9
  0 R10 Φ11 k12) ∧ ∀ (n15 : Int) (R16 : List Own) (I17 : List Nat → World → Prop) (k18 : Nat), Stable I17 → I9 n15 R16 I17 k18 → Br (decide (n15 < 4)) (∀ (w19 : World) (R20 : List Own), Ctx W
  w19 (R16 ++ R20) I17 → Calls Try.prog F.erratalaw36_mark #[Value.int IntKind.i64 n15] w19 fun (e21 : Ending) (w22 : World) => ∃ (n23 : Int), ∃ (n24 : Int), ∃ (n25 : Int), ∃ (n26 : Int), ∃
  (n27 : Int), ∃ (p28 : Option Addr), ∃ (k29 : Nat), ∃ (k30 : Nat), e21 = Ending.returned (Value.agg #[Value.int IntKind.i64 n23, Value.int IntKind.i64 n24, Value.int IntKind.i64 n25,
  Value.int IntKind.i64 n26, Value.int IntKind.i64 n27, Value.slice p28 k29 k30]) ∧ ∃ (R31 : List Own), ∃ (Φ32 : PW), Stable Φ32 ∧ Ctx W w22 (R31 ++ R20) Φ32 ∧ ∀ (w33 : World) (R34 : List
  Own), Ctx W w33 (R31 ++ R34) Φ32 → Calls Try.prog F.channel_Channel_Send #[Value.pointer p4, Value.agg #[Value.int IntKind.i64 n23, Value.int IntKind.i64 n24, Value.int IntKind.i64 n25,
  Value.int IntKind.i64 n26, Value.int IntKind.i64 n27, Value.slice p28 k29 k30]] w33 fun (e35 : Ending) (w36 : World) => ∃ (n37 : Int), e35 = Ending.returned (Value.int IntKind.i64 n37) ∧ ∃
  (R38 : List Own), ∃ (Φ39 : PW), Stable Φ39 ∧ Ctx W w36 (R38 ++ R34) Φ39 ∧ Br (decide (n37 ≠ 0)) (∀ (w40 : World) (R41 : List Own), Ctx W w40 (R38 ++ R41) Φ39 → J (Value.bool false) w40)
  (I64 (n15 + 1) ∧ ∃ (R42 : List Own), ∃ (Φ43 : PW), ∃ (k44 : Nat), Stable Φ43 ∧ (∀ (w45 : World) (R46 : List Own), Ctx W w45 (R38 ++ R46) Φ39 → Ctx W w45 (R42 ++ R46) Φ43) ∧ I9 (n15 + 1) R42
  Φ43 k44 ∧ k44 < k18)) (∀ (w47 : World) (R48 : List Own), Ctx W w47 (R16 ++ R48) I17 → Calls Try.prog F.erratalaw36_mark #[Value.int IntKind.i64 4] w47 fun (e49 : Ending) (w50 : World) => ∃
  (n51 : Int), ∃ (n52 : Int), ∃ (n53 : Int), ∃ (n54 : Int), ∃ (n55 : Int), ∃ (p56 : Option Addr), ∃ (k57 : Nat), ∃ (k58 : Nat), e49 = Ending.returned (Value.agg #[Value.int IntKind.i64 n51,
  Value.int IntKind.i64 n52, Value.int IntKind.i64 n53, Value.int IntKind.i64 n54, Value.int IntKind.i64 n55, Value.slice p56 k57 k58]) ∧ ∃ (R59 : List Own), ∃ (Φ60 : PW), Stable Φ60 ∧ Ctx W
  w50 (R59 ++ R48) Φ60 ∧ ∀ (w61 : World) (R62 : List Own), Ctx W w61 (R59 ++ R62) Φ60 → Calls Try.prog F.channel_Channel_Send #[Value.pointer p4, Value.agg #[Value.int IntKind.i64 n51,
  Value.int IntKind.i64 n52, Value.int IntKind.i64 n53, Value.int IntKind.i64 n54, Value.int IntKind.i64 n55, Value.slice p56 k57 k58]] w61 fun (e63 : Ending) (w64 : World) => ∃ (n65 : Int),
  e63 = Ending.returned (Value.int IntKind.i64 n65) ∧ ∃ (R66 : List Own), ∃ (Φ67 : PW), Stable Φ67 ∧ Ctx W w64 (R66 ++ R62) Φ67 ∧ ∀ (w68 : World) (R69 : List Own), Ctx W w68 (R66 ++ R69) Φ67
  → Calls Try.prog F.channel_Channel_Take #[Value.pointer p4] w68 fun (e70 : Ending) (w71 : World) => ∃ (n72 : Int), ∃ (n73 : Int), ∃ (n74 : Int), ∃ (n75 : Int), ∃ (n76 : Int), ∃ (p77 :
  Option Addr), ∃ (k78 : Nat), ∃ (k79 : Nat), ∃ (n80 : Int), e70 = Ending.returned (Value.tuple #[Value.agg #[Value.int IntKind.i64 n72, Value.int IntKind.i64 n73, Value.int IntKind.i64 n74,
  Value.int IntKind.i64 n75, Value.int IntKind.i64 n76, Value.slice p77 k78 k79], Value.int IntKind.i64 n80]) ∧ ∃ (R81 : List Own), ∃ (Φ82 : PW), Stable Φ82 ∧ Ctx W w71 (R81 ++ R69) Φ82 ∧ ∀
  (b : Nat) (w83 : World) (R84 : List Own), Ctx W w83 (R81 ++ R84) Φ82 → Calls Try.prog F.erratalaw36_mark #[Value.int IntKind.i64 4] w83 fun (e85 : Ending) (w86 : World) => ∃ (n87 : Int), ∃
  (n88 : Int), ∃ (n89 : Int), ∃ (n90 : Int), ∃ (n91 : Int), ∃ (p92 : Option Addr), ∃ (k93 : Nat), ∃ (k94 : Nat), e85 = Ending.returned (Value.agg #[Value.int IntKind.i64 n87, Value.int
  IntKind.i64 n88, Value.int IntKind.i64 n89, Value.int IntKind.i64 n90, Value.int IntKind.i64 n91, Value.slice p92 k93 k94]) ∧ ∃ (R95 : List Own), ∃ (Φ96 : PW), Stable Φ96 ∧ Ctx W w86 (R95
  ++ R84) Φ96 ∧ ∀ (w97 : World) (R98 : List Own), Ctx W w97 (R95 ++ R98) Φ96 → Calls Try.prog F.channel_Channel_Send #[Value.pointer p4, Value.agg #[Value.int IntKind.i64 n87, Value.int
  IntKind.i64 n88, Value.int IntKind.i64 n89, Value.int IntKind.i64 n90, Value.int IntKind.i64 n91, Value.slice p92 k93 k94]] w97 fun (e99 : Ending) (w100 : World) => ∃ (n101 : Int), e99 =
  Ending.returned (Value.int IntKind.i64 n101) ∧ ∃ (R102 : List Own), ∃ (Φ103 : PW), Stable Φ103 ∧ Ctx W w100 (R102 ++ R98) Φ103 ∧ ∀ (w104 : World) (R105 : List Own), Ctx W w104 (R102 ++
  R105) Φ103 → ∃ (n106 : Int), ((decide (n65 = 27) && decide (n76 = 0) && decide (n80 = 0) && decide (n101 = 0)) = true → ∀ (w107 : World), w107 = w104 → Calls Try.prog F.channel_Channel_Len
  #[Value.pointer p4] w107 fun (e108 : Ending) (w109 : World) => e108 = Ending.returned (Value.int IntKind.i64 n106) ∧ w109 = w104) ∧ ∃ (n110 : Int), ((decide (n65 = 27) && decide (n76 = 0)
  && decide (n80 = 0) && decide (n101 = 0) && decide (n106 = 4)) = true → ∀ (w111 : World), w111 = w104 → Calls Try.prog F.channel_Channel_Free #[Value.pointer p4] w111 fun (e112 : Ending)
  (w113 : World) => e112 = Ending.returned (Value.int IntKind.i64 n110) ∧ w113 = w104) ∧ ∃ (n114 : Int), ((decide (n65 = 27) && decide (n76 = 0) && decide (n80 = 0) && decide (n101 = 0) &&
  decide (n106 = 4) && decide (n110 = 0)) = true → ∀ (w115 : World), w115 = w104 → Calls Try.prog F.channel_Channel_Sent #[Value.pointer p4] w115 fun (e116 : Ending) (w117 : World) => e116 =
  Ending.returned (Value.int IntKind.i64 n114) ∧ w117 = w104) ∧ ∀ (w118 : World) (R119 : List Own), Ctx W w118 (R102 ++ R119) Φ103 → J (Value.bool (decide (n65 = 27) && decide (n76 = 0) &&
  decide (n80 = 0) && decide (n101 = 0) && decide (n106 = 4) && decide (n110 = 0) && decide (n114 = 5))) w118))

theorem Berratalaw36_small_run  {W w : World} {R : List Own} {Φ : PW} [Stable Φ] {J : Value → World → Prop} (c : Ctx W w R Φ) (h : Berratalaw36_small  W R Φ J) : Calls Try.prog F.erratalaw36_small #[] w fun e w' => ∃ v, e = .returned v ∧ J v w' :=
  vcFS_sound (H := { keep := some [0, 1, 2, 3, 4, 5, 6, 9, 11, 18], track := [4], loops := [(5, [(2, .one (.int .i64))], [])] }) (by rw [show vcFS Try.prog W { keep := some [0, 1, 2, 3, 4, 5, 6, 9, 11, 18], track := [4], loops := [(5, [(2, .one (.int .i64))], [])] } F.erratalaw36_small #[] R Φ J = Berratalaw36_small  W R Φ J by kernel_rfl]; exact h) c

/-- channel.New -/
def Bchannel_New  (W : World) (R : List Own) (Φ : PW) (J : Value → World → Prop) : Prop :=
  ∀ (k0 : Nat) (w1 : World) (R2 : List Own), Ctx W w1 (Own.blk k0 [Value.int IntKind.i64 0, Value.int IntKind.i64 0, Value.int IntKind.i64 0, Value.int IntKind.i64 0, Value.int IntKind.i64 0,
  Value.slice none 0 0, Value.int IntKind.i64 0, Value.int IntKind.i64 0, Value.int IntKind.i64 0, Value.int IntKind.i64 0, Value.int IntKind.i64 0, Value.slice none 0 0, Value.int
  IntKind.i64 0, Value.int IntKind.i64 0, Value.int IntKind.i64 0, Value.int IntKind.i64 0, Value.int IntKind.i64 0, Value.slice none 0 0, Value.int IntKind.i64 0, Value.int IntKind.i64 0,
  Value.int IntKind.i64 0, Value.int IntKind.i64 0, Value.int IntKind.i64 0, Value.slice none 0 0, Value.int IntKind.i64 0, Value.int IntKind.i64 0, Value.int IntKind.i64 0] 53 :: R ++ R2) Φ
  → J (Value.pointer (some (Addr.mk k0 0 none))) w1

theorem Bchannel_New_run  {W w : World} {R : List Own} {Φ : PW} [Stable Φ] {J : Value → World → Prop} (c : Ctx W w R Φ) (h : Bchannel_New  W R Φ J) : Calls Try.prog F.channel_New #[] w fun e w' => ∃ v, e = .returned v ∧ J v w' :=
  vcFS_sound (H := { keep := some [0] }) (by rw [show vcFS Try.prog W { keep := some [0] } F.channel_New #[] R Φ J = Bchannel_New  W R Φ J by kernel_rfl]; exact h) c

/-- errataref36.Few -/
-- loop at region 7: 4 k; blocks 
-- loop at region 2: 3 i; blocks 
-- known blocks: 1 m
def Berrataref36_Few (m0 : Int) (m1 : Int) (m2 : Int) (m3 : Int) (m4 : Int) (m5P : Option Addr) (m5N m5C : Nat) (W : World) (R : List Own) (Φ : PW) (J : Value → World → Prop) : Prop :=
  ∀ (b : Nat), exI fun (I0 : Int → List Own → PW → Nat → Prop) => (∃ (R1 : List Own), ∃ (Φ2 : PW), ∃ (k3 : Nat), Stable Φ2 ∧ (∀ (w4 : World) (R5 : List Own), Ctx W w4 (R ++ R5) Φ → Ctx W w4
  (R1 ++ R5) Φ2) ∧ I0 0 R1 Φ2 k3) ∧ ∀ (n6 : Int) (R7 : List Own) (I8 : List Nat → World → Prop) (k9 : Nat), Stable I8 → I0 n6 R7 I8 k9 → Br (decide (n6 < (↑m5N : Int))) ((0 ≤ n6 ∧ n6 < (↑m5N
  : Int)) ∧ ptrK none m5P fun (k10 k11 : Nat) => ∀ (w12 : World) (R13 : List Own), Ctx W w12 (R7 ++ R13) I8 → ∃ (p14 : Option Addr), ∃ (k15 : Nat), ∃ (k16 : Nat), w12.cell? (Addr.mk k10 (k11
  + n6.toNat * 3 + 1) none) = some (Value.slice p14 k15 k16) ∧ Br (decide (12 < (↑k15 : Int))) (∀ (w17 : World) (R18 : List Own), Ctx W w17 (R7 ++ R18) I8 → J (Value.bool false) w17) (exI fun
  (I19 : Int → List Own → PW → Nat → Prop) => (∃ (R20 : List Own), ∃ (Φ21 : PW), ∃ (k22 : Nat), Stable Φ21 ∧ (∀ (w23 : World) (R24 : List Own), Ctx W w23 (R7 ++ R24) I8 → Ctx W w23 (R20 ++
  R24) Φ21) ∧ I19 0 R20 Φ21 k22) ∧ ∀ (n25 : Int) (R26 : List Own) (I27 : List Nat → World → Prop) (k28 : Nat), Stable I27 → I19 n25 R26 I27 k28 → (0 ≤ n6 ∧ n6 < (↑m5N : Int)) ∧ ptrK none m5P
  fun (k29 k30 : Nat) => ∀ (w31 : World) (R32 : List Own), Ctx W w31 (R26 ++ R32) I27 → ∃ (p33 : Option Addr), ∃ (k34 : Nat), ∃ (k35 : Nat), w31.cell? (Addr.mk k29 (k30 + n6.toNat * 3 + 1)
  none) = some (Value.slice p33 k34 k35) ∧ Br (decide (n25 < (↑k34 : Int))) ((0 ≤ n6 ∧ n6 < (↑m5N : Int)) ∧ ptrK none m5P fun (k36 k37 : Nat) => ∀ (w38 : World) (R39 : List Own), Ctx W w38
  (R26 ++ R39) I27 → ∃ (p40 : Option Addr), ∃ (k41 : Nat), ∃ (k42 : Nat), w38.cell? (Addr.mk k36 (k37 + n6.toNat * 3 + 1) none) = some (Value.slice p40 k41 k42) ∧ (0 ≤ n25 ∧ n25 < (↑k41 :
  Int)) ∧ ptrK none p40 fun (k43 k44 : Nat) => ∀ (w45 : World) (R46 : List Own), Ctx W w45 (R26 ++ R46) I27 → ∃ (s47 : ByteArray), w45.cell? (Addr.mk k43 (k44 + n25.toNat * 3 + 2) none) =
  some (Value.string s47) ∧ Br (decide (210 < (↑s47.size : Int))) (∀ (w48 : World) (R49 : List Own), Ctx W w48 (R26 ++ R49) I27 → J (Value.bool false) w48) (I64 (n25 + 1) ∧ ∃ (R50 : List
  Own), ∃ (Φ51 : PW), ∃ (k52 : Nat), Stable Φ51 ∧ (∀ (w53 : World) (R54 : List Own), Ctx W w53 (R26 ++ R54) I27 → Ctx W w53 (R50 ++ R54) Φ51) ∧ I19 (n25 + 1) R50 Φ51 k52 ∧ k52 < k28)) (I64
  (n6 + 1) ∧ ∃ (R55 : List Own), ∃ (Φ56 : PW), ∃ (k57 : Nat), Stable Φ56 ∧ (∀ (w58 : World) (R59 : List Own), Ctx W w58 (R26 ++ R59) I27 → Ctx W w58 (R55 ++ R59) Φ56) ∧ I0 (n6 + 1) R55 Φ56
  k57 ∧ k57 < k9))) (∀ (w60 : World) (R61 : List Own), Ctx W w60 (R7 ++ R61) I8 → J (Value.bool (decide ((↑m5N : Int) ≤ 10))) w60)

theorem Berrataref36_Few_run (m0 : Int) (m1 : Int) (m2 : Int) (m3 : Int) (m4 : Int) (m5P : Option Addr) (m5N m5C : Nat) {W w : World} {R : List Own} {Φ : PW} [Stable Φ] {J : Value → World → Prop} (c : Ctx W w R Φ) (h : Berrataref36_Few m0 m1 m2 m3 m4 m5P m5N m5C W R Φ J) : Calls Try.prog F.errataref36_Few #[.agg #[.int .i64 m0, .int .i64 m1, .int .i64 m2, .int .i64 m3, .int .i64 m4, .slice m5P m5N m5C]] w fun e w' => ∃ v, e = .returned v ∧ J v w' :=
  vcFS_sound (H := { keep := some [1, 2, 3, 4, 9, 19, 28, 42], track := [1], loops := [(7, [(4, .one (.int .i64))], []), (2, [(3, .one (.int .i64))], [])] }) (by rw [show vcFS Try.prog W { keep := some [1, 2, 3, 4, 9, 19, 28, 42], track := [1], loops := [(7, [(4, .one (.int .i64))], []), (2, [(3, .one (.int .i64))], [])] } F.errataref36_Few #[.agg #[.int .i64 m0, .int .i64 m1, .int .i64 m2, .int .i64 m3, .int .i64 m4, .slice m5P m5N m5C]] R Φ J = Berrataref36_Few m0 m1 m2 m3 m4 m5P m5N m5C W R Φ J by kernel_rfl]; exact h) c

/-- erratalaw36.right -/
-- loop at region 9: 4 i; blocks 3 x
-- known blocks: 1 m, 3 x
def Berratalaw36_right (m0 : Int) (m1 : Int) (m2 : Int) (m3 : Int) (m4 : Int) (m5P : Option Addr) (m5N m5C : Nat) (W : World) (R : List Own) (Φ : PW) (J : Value → World → Prop) : Prop :=
  ∀ (b b : Nat), exI fun (I0 : Int → Int → Int → Int → Int → Int → Option Addr → Nat → Nat → List Own → PW → Nat → Prop) => (∃ (R1 : List Own), ∃ (Φ2 : PW), ∃ (k3 : Nat), Stable Φ2 ∧ (∀ (w4 :
  World) (R5 : List Own), Ctx W w4 (R ++ R5) Φ → Ctx W w4 (R1 ++ R5) Φ2) ∧ I0 0 0 0 0 0 0 none 0 0 R1 Φ2 k3) ∧ ∀ (n6 n7 n8 n9 n10 n11 : Int) (p12 : Option Addr) (k13 k14 : Nat) (R15 : List
  Own) (I16 : List Nat → World → Prop) (k17 : Nat), Stable I16 → I0 n6 n7 n8 n9 n10 n11 p12 k13 k14 R15 I16 k17 → Br (decide (n6 < (↑m5N : Int))) ((0 ≤ n6 ∧ n6 < (↑m5N : Int)) ∧ ptrK none m5P
  fun (k18 k19 : Nat) => ∀ (w20 : World) (R21 : List Own), Ctx W w20 (R15 ++ R21) I16 → ∃ (p22 : Option Addr), ∃ (k23 : Nat), ∃ (k24 : Nat), w20.cell? (Addr.mk k18 (k19 + n6.toNat * 3 + 1)
  none) = some (Value.slice p22 k23 k24) ∧ ∀ (k25 : Nat) (w26 : World) (R27 : List Own), Ctx W w26 (Own.blk k25 [Value.int IntKind.i64 0, Value.slice p22 k23 k24, Value.int IntKind.i64 1] 56
  :: R15 ++ R27) I16 → Calls Try.prog F.errataref36_Right #[Value.agg #[Value.int IntKind.i64 n7, Value.int IntKind.i64 n8, Value.int IntKind.i64 n9, Value.int IntKind.i64 n10, Value.int
  IntKind.i64 n11, Value.slice (some (Addr.mk k25 0 none)) 1 1]] w26 fun (e28 : Ending) (w29 : World) => ∃ (c30 : Bool), e28 = Ending.returned (Value.bool c30) ∧ ∃ (R31 : List Own), ∃ (Φ32 :
  PW), Stable Φ32 ∧ Ctx W w29 (R31 ++ R27) Φ32 ∧ Br (!c30) (∀ (w33 : World) (R34 : List Own), Ctx W w33 (R31 ++ R34) Φ32 → J (Value.bool false) w33) (I64 (n6 + 1) ∧ ∃ (R35 : List Own), ∃ (Φ36
  : PW), ∃ (k37 : Nat), Stable Φ36 ∧ (∀ (w38 : World) (R39 : List Own), Ctx W w38 (R31 ++ R39) Φ32 → Ctx W w38 (R35 ++ R39) Φ36) ∧ I0 (n6 + 1) n7 n8 n9 n10 n11 (some (Addr.mk k25 0 none)) 1 1
  R35 Φ36 k37 ∧ k37 < k17)) (∀ (w40 : World) (R41 : List Own), Ctx W w40 (R15 ++ R41) I16 → J (Value.bool true) w40)

theorem Berratalaw36_right_run (m0 : Int) (m1 : Int) (m2 : Int) (m3 : Int) (m4 : Int) (m5P : Option Addr) (m5N m5C : Nat) {W w : World} {R : List Own} {Φ : PW} [Stable Φ] {J : Value → World → Prop} (c : Ctx W w R Φ) (h : Berratalaw36_right m0 m1 m2 m3 m4 m5P m5N m5C W R Φ J) : Calls Try.prog F.erratalaw36_right #[.agg #[.int .i64 m0, .int .i64 m1, .int .i64 m2, .int .i64 m3, .int .i64 m4, .slice m5P m5N m5C]] w fun e w' => ∃ v, e = .returned v ∧ J v w' :=
  vcFS_sound (H := { keep := some [1, 2, 3, 4, 16, 30], track := [1, 3], loops := [(9, [(4, .one (.int .i64))], [(3, .agg [.int .i64, .int .i64, .int .i64, .int .i64, .int .i64, .slice])])] }) (by rw [show vcFS Try.prog W { keep := some [1, 2, 3, 4, 16, 30], track := [1, 3], loops := [(9, [(4, .one (.int .i64))], [(3, .agg [.int .i64, .int .i64, .int .i64, .int .i64, .int .i64, .slice])])] } F.erratalaw36_right #[.agg #[.int .i64 m0, .int .i64 m1, .int .i64 m2, .int .i64 m3, .int .i64 m4, .slice m5P m5N m5C]] R Φ J = Berratalaw36_right m0 m1 m2 m3 m4 m5P m5N m5C W R Φ J by kernel_rfl]; exact h) c

/-- channel.Right -/
-- loop at region 2: 15 ; blocks 
-- known blocks: 1 m
def Bchannel_Right (m0 : Int) (m1 : Int) (m2 : Int) (m3 : Int) (m4 : Int) (m5P : Option Addr) (m5N m5C : Nat) (W : World) (R : List Own) (Φ : PW) (J : Value → World → Prop) : Prop :=
  ∀ (b : Nat), exI fun (I0 : Int → List Own → PW → Nat → Prop) => (∃ (R1 : List Own), ∃ (Φ2 : PW), ∃ (k3 : Nat), Stable Φ2 ∧ (∀ (w4 : World) (R5 : List Own), Ctx W w4 (R ++ R5) Φ → Ctx W w4
  (R1 ++ R5) Φ2) ∧ I0 0 R1 Φ2 k3) ∧ ∀ (n6 : Int) (R7 : List Own) (I8 : List Nat → World → Prop) (k9 : Nat), Stable I8 → I0 n6 R7 I8 k9 → Br (decide (n6 < 4)) (∃ (n10 : Int), (0 ≤ n6 ∧ n6 < 4
  ∧ aggAt (0 + n6.toNat) [Value.int IntKind.i64 m1, Value.int IntKind.i64 m2, Value.int IntKind.i64 m3, Value.int IntKind.i64 (max m4 0)] = some (Value.int IntKind.i64 n10)) ∧ ∀ (w11 : World)
  (R12 : List Own), Ctx W w11 (R7 ++ R12) I8 → Br (decide (n10 < 0) || decide (1099511627776 < n10) || decide (m4 < -1)) (∀ (w13 : World) (R14 : List Own), Ctx W w13 (R7 ++ R14) I8 → J
  (Value.bool false) w13) (I64 (n6 + 1) ∧ ∃ (R15 : List Own), ∃ (Φ16 : PW), ∃ (k17 : Nat), Stable Φ16 ∧ (∀ (w18 : World) (R19 : List Own), Ctx W w18 (R7 ++ R19) I8 → Ctx W w18 (R15 ++ R19)
  Φ16) ∧ I0 (n6 + 1) R15 Φ16 k17 ∧ k17 < k9)) (∀ (w20 : World) (R21 : List Own), Ctx W w20 (R7 ++ R21) I8 → Br (decide (m0 < 0) || decide (3 ≤ m0) || decide (8 < (↑m5N : Int)) || decide (m0 ≠
  0) && decide (0 < (↑m5N : Int))) (∀ (w22 : World) (R23 : List Own), Ctx W w22 (R7 ++ R23) I8 → J (Value.bool false) w22) (∀ (w24 : World) (R25 : List Own), Ctx W w24 (R7 ++ R25) I8 → Calls
  Try.prog F.delta_Consolidated #[Value.slice m5P m5N m5C] w24 fun (e26 : Ending) (w27 : World) => ∃ (c28 : Bool), e26 = Ending.returned (Value.bool c28) ∧ ∃ (R29 : List Own), ∃ (Φ30 : PW),
  Stable Φ30 ∧ Ctx W w27 (R29 ++ R25) Φ30 ∧ Br c28 (∀ (w31 : World) (R32 : List Own), Ctx W w31 (R29 ++ R32) Φ30 → Calls Try.prog F.slices_ContainsFunc_api_Delta_api_Delta #[Value.slice m5P
  m5N m5C, Value.func (Fn.func 26) #[] #[]] w31 fun (e33 : Ending) (w34 : World) => ∃ (c35 : Bool), e33 = Ending.returned (Value.bool c35) ∧ ∃ (R36 : List Own), ∃ (Φ37 : PW), Stable Φ37 ∧ Ctx
  W w34 (R36 ++ R32) Φ37 ∧ ∀ (w38 : World) (R39 : List Own), Ctx W w38 (R36 ++ R39) Φ37 → J (Value.bool !c35) w38) (∀ (w40 : World) (R41 : List Own), Ctx W w40 (R29 ++ R41) Φ30 → J
  (Value.bool false) w40)))

theorem Bchannel_Right_run (m0 : Int) (m1 : Int) (m2 : Int) (m3 : Int) (m4 : Int) (m5P : Option Addr) (m5N m5C : Nat) {W w : World} {R : List Own} {Φ : PW} [Stable Φ] {J : Value → World → Prop} (c : Ctx W w R Φ) (h : Bchannel_Right m0 m1 m2 m3 m4 m5P m5N m5C W R Φ J) : Calls Try.prog F.channel_Right #[.agg #[.int .i64 m0, .int .i64 m1, .int .i64 m2, .int .i64 m3, .int .i64 m4, .slice m5P m5N m5C]] w fun e w' => ∃ v, e = .returned v ∧ J v w' :=
  vcFS_sound (H := { keep := some [1, 2, 4, 14, 15, 16, 28, 54], track := [1], split := [9], loops := [(2, [(15, .one (.int .i64))], [])] }) (by rw [show vcFS Try.prog W { keep := some [1, 2, 4, 14, 15, 16, 28, 54], track := [1], split := [9], loops := [(2, [(15, .one (.int .i64))], [])] } F.channel_Right #[.agg #[.int .i64 m0, .int .i64 m1, .int .i64 m2, .int .i64 m3, .int .i64 m4, .slice m5P m5N m5C]] R Φ J = Bchannel_Right m0 m1 m2 m3 m4 m5P m5N m5C W R Φ J by kernel_rfl]; exact h) c

/-- (*channel.Channel).Len -/
def Bchannel_Channel_Len (cB cO : Nat) (W : World) (R : List Own) (Φ : PW) (J : Value → World → Prop) : Prop :=
  ∀ (w0 : World) (R1 : List Own), Ctx W w0 (R ++ R1) Φ → ∃ (n2 : Int), w0.cell? (Addr.mk cB (cO + 25) none) = some (Value.int IntKind.i64 n2) ∧ ∀ (w3 : World) (R4 : List Own), Ctx W w3 (R ++
  R4) Φ → J (Value.int IntKind.i64 n2) w3

theorem Bchannel_Channel_Len_run (cB cO : Nat) {W w : World} {R : List Own} {Φ : PW} [Stable Φ] {J : Value → World → Prop} (c : Ctx W w R Φ) (h : Bchannel_Channel_Len cB cO W R Φ J) : Calls Try.prog F.channel_Channel_Len #[.pointer (some ⟨cB, cO, none⟩)] w fun e w' => ∃ v, e = .returned v ∧ J v w' :=
  vcFS_sound (H := { keep := some [0, 2] }) (by rw [show vcFS Try.prog W { keep := some [0, 2] } F.channel_Channel_Len #[.pointer (some ⟨cB, cO, none⟩)] R Φ J = Bchannel_Channel_Len cB cO W R Φ J by kernel_rfl]; exact h) c

/-- (*channel.Channel).Free -/
def Bchannel_Channel_Free (cB cO : Nat) (W : World) (R : List Own) (Φ : PW) (J : Value → World → Prop) : Prop :=
  ∀ (w0 : World) (R1 : List Own), Ctx W w0 (R ++ R1) Φ → ∃ (n2 : Int), w0.cell? (Addr.mk cB (cO + 25) none) = some (Value.int IntKind.i64 n2) ∧ I64 (4 - n2) ∧ ∀ (w3 : World) (R4 : List Own),
  Ctx W w3 (R ++ R4) Φ → J (Value.int IntKind.i64 (4 - n2)) w3

theorem Bchannel_Channel_Free_run (cB cO : Nat) {W w : World} {R : List Own} {Φ : PW} [Stable Φ] {J : Value → World → Prop} (c : Ctx W w R Φ) (h : Bchannel_Channel_Free cB cO W R Φ J) : Calls Try.prog F.channel_Channel_Free #[.pointer (some ⟨cB, cO, none⟩)] w fun e w' => ∃ v, e = .returned v ∧ J v w' :=
  vcFS_sound (H := { keep := some [0, 2] }) (by rw [show vcFS Try.prog W { keep := some [0, 2] } F.channel_Channel_Free #[.pointer (some ⟨cB, cO, none⟩)] R Φ J = Bchannel_Channel_Free cB cO W R Φ J by kernel_rfl]; exact h) c

/-- (*channel.Channel).Take -/
-- known blocks: 2 , 4 m
def Bchannel_Channel_Take (cB cO : Nat) (W : World) (R : List Own) (Φ : PW) (J : Value → World → Prop) : Prop :=
  ∀ (b : Nat) (w0 : World) (R1 : List Own), Ctx W w0 (R ++ R1) Φ → Calls Try.prog F.channel_Channel_Head #[Value.pointer (some (Addr.mk cB cO none))] w0 fun (e2 : Ending) (w3 : World) => ∃
  (n4 : Int), ∃ (n5 : Int), ∃ (n6 : Int), ∃ (n7 : Int), ∃ (n8 : Int), ∃ (p9 : Option Addr), ∃ (k10 : Nat), ∃ (k11 : Nat), ∃ (c12 : Bool), e2 = Ending.returned (Value.tuple #[Value.agg
  #[Value.int IntKind.i64 n4, Value.int IntKind.i64 n5, Value.int IntKind.i64 n6, Value.int IntKind.i64 n7, Value.int IntKind.i64 n8, Value.slice p9 k10 k11], Value.bool c12]) ∧ ∃ (R13 : List
  Own), ∃ (Φ14 : PW), Stable Φ14 ∧ Ctx W w3 (R13 ++ R1) Φ14 ∧ ∀ (b : Nat), Br (!c12) (∀ (w15 : World) (R16 : List Own), Ctx W w15 (R13 ++ R16) Φ14 → J (Value.tuple #[Value.agg #[Value.int
  IntKind.i64 n4, Value.int IntKind.i64 n5, Value.int IntKind.i64 n6, Value.int IntKind.i64 n7, Value.int IntKind.i64 n8, Value.slice p9 k10 k11], Value.int IntKind.i64 4]) w15) (∃ (R17 :
  List Own), ∃ (Φ18 : PW), Stable Φ18 ∧ (∀ (w19 : World) (R20 : List Own), Ctx W w19 (R13 ++ R20) Φ14 → Ctx W w19 (R17 ++ R20) Φ18) ∧ ∀ (w21 : World) (R22 : List Own), Ctx W w21 (R13 ++ R22)
  Φ14 → ∃ (n23 : Int), w21.cell? (Addr.mk cB (cO + 24) none) = some (Value.int IntKind.i64 n23) ∧ (0 ≤ n23 ∧ n23 < 4) ∧ ∀ (w24 : World) (R25 : List Own), Ctx W w24 (R13 ++ R25) Φ14 → CanWrite
  w24 cB (cO + n23.toNat * 6) 6 ∧ ∀ (w26 : World), w26 = w24.setCells cB (cO + n23.toNat * 6) [Value.int IntKind.i64 0, Value.int IntKind.i64 0, Value.int IntKind.i64 0, Value.int IntKind.i64
  0, Value.int IntKind.i64 0, Value.slice none 0 0] → ∃ (R27 : List Own), ∃ (Φ28 : PW), Stable Φ28 ∧ Ctx W w26 (R27 ++ R25) Φ28 ∧ (∀ (w29 : World) (R30 : List Own), Ctx W w29 (R27 ++ R30) Φ28
  → Ctx W w29 (R17 ++ R30) Φ18) ∧ ∀ (w31 : World) (R32 : List Own), Ctx W w31 (R27 ++ R32) Φ28 → ∃ (n33 : Int), w31.cell? (Addr.mk cB (cO + 24) none) = some (Value.int IntKind.i64 n33) ∧ I64
  (n33 + 1) ∧ ((4 : Int) = 0 → False) ∧ ∀ (w34 : World) (R35 : List Own), Ctx W w34 (R27 ++ R35) Φ28 → CanWrite w34 cB (cO + 24) 1 ∧ ∀ (w36 : World), w36 = w34.setCell (Addr.mk cB (cO + 24)
  none) (Value.int IntKind.i64 ((n33 + 1).tmod 4)) → ∃ (R37 : List Own), ∃ (Φ38 : PW), Stable Φ38 ∧ Ctx W w36 (R37 ++ R35) Φ38 ∧ ∀ (w39 : World) (R40 : List Own), Ctx W w39 (R37 ++ R40) Φ38 →
  ∃ (n41 : Int), w39.cell? (Addr.mk cB (cO + 25) none) = some (Value.int IntKind.i64 n41) ∧ I64 (n41 - 1) ∧ ∀ (w42 : World) (R43 : List Own), Ctx W w42 (R37 ++ R43) Φ38 → CanWrite w42 cB (cO
  + 25) 1 ∧ ∀ (w44 : World), w44 = w42.setCell (Addr.mk cB (cO + 25) none) (Value.int IntKind.i64 (n41 - 1)) → ∃ (R45 : List Own), ∃ (Φ46 : PW), Stable Φ46 ∧ Ctx W w44 (R45 ++ R43) Φ46 ∧ ∀
  (w47 : World) (R48 : List Own), Ctx W w47 (R45 ++ R48) Φ46 → J (Value.tuple #[Value.agg #[Value.int IntKind.i64 n4, Value.int IntKind.i64 n5, Value.int IntKind.i64 n6, Value.int IntKind.i64
  n7, Value.int IntKind.i64 n8, Value.slice p9 k10 k11], Value.int IntKind.i64 0]) w47)

theorem Bchannel_Channel_Take_run (cB cO : Nat) {W w : World} {R : List Own} {Φ : PW} [Stable Φ] {J : Value → World → Prop} (c : Ctx W w R Φ) (h : Bchannel_Channel_Take cB cO W R Φ J) : Calls Try.prog F.channel_Channel_Take #[.pointer (some ⟨cB, cO, none⟩)] w fun e w' => ∃ v, e = .returned v ∧ J v w' :=
  vcFS_sound (H := { keep := some [0, 2, 3, 4, 5, 12], track := [2, 4], stages := [(4, [.late [0, 1, 5, 2, 3, 4, 8] [0, 1, 5, 2, 6, 3, 7, 4, 8] [(9, [])]])] }) (by rw [show vcFS Try.prog W { keep := some [0, 2, 3, 4, 5, 12], track := [2, 4], stages := [(4, [.late [0, 1, 5, 2, 3, 4, 8] [0, 1, 5, 2, 6, 3, 7, 4, 8] [(9, [])]])] } F.channel_Channel_Take #[.pointer (some ⟨cB, cO, none⟩)] R Φ J = Bchannel_Channel_Take cB cO W R Φ J by kernel_rfl]; exact h) c

/-- (*channel.Channel).Send -/
-- known blocks: 3 m
def Bchannel_Channel_Send (cB cO : Nat) (m0 : Int) (m1 : Int) (m2 : Int) (m3 : Int) (m4 : Int) (m5P : Option Addr) (m5N m5C : Nat) (W : World) (R : List Own) (Φ : PW) (J : Value → World → Prop) : Prop :=
  ∀ (b : Nat) (w0 : World) (R1 : List Own), Ctx W w0 (R ++ R1) Φ → Calls Try.prog F.channel_Right #[Value.agg #[Value.int IntKind.i64 m0, Value.int IntKind.i64 m1, Value.int IntKind.i64 m2,
  Value.int IntKind.i64 m3, Value.int IntKind.i64 m4, Value.slice m5P m5N m5C]] w0 fun (e2 : Ending) (w3 : World) => ∃ (c4 : Bool), e2 = Ending.returned (Value.bool c4) ∧ ∃ (R5 : List Own), ∃
  (Φ6 : PW), Stable Φ6 ∧ Ctx W w3 (R5 ++ R1) Φ6 ∧ Br (!c4) (∀ (w7 : World) (R8 : List Own), Ctx W w7 (R5 ++ R8) Φ6 → J (Value.int IntKind.i64 1) w7) (∀ (w9 : World) (R10 : List Own), Ctx W w9
  (R5 ++ R10) Φ6 → ∃ (n11 : Int), w9.cell? (Addr.mk cB (cO + 25) none) = some (Value.int IntKind.i64 n11) ∧ Br (decide (n11 = 4)) (∀ (w12 : World) (R13 : List Own), Ctx W w12 (R5 ++ R13) Φ6 →
  J (Value.int IntKind.i64 27) w12) (∃ (R14 : List Own), ∃ (Φ15 : PW), Stable Φ15 ∧ (∀ (w16 : World) (R17 : List Own), Ctx W w16 (R5 ++ R17) Φ6 → Ctx W w16 (R14 ++ R17) Φ15) ∧ ∃ (n18 : Int),
  (∀ (w19 : World) (R20 : List Own), Ctx W w19 (R14 ++ R20) Φ15 → ∃ (n21 : Int), w19.cell? (Addr.mk cB (cO + 24) none) = some (Value.int IntKind.i64 n21) ∧ Value.int IntKind.i64 n21 =
  Value.int IntKind.i64 n18) ∧ ∃ (n22 : Int), (∀ (w23 : World) (R24 : List Own), Ctx W w23 (R14 ++ R24) Φ15 → ∃ (n25 : Int), w23.cell? (Addr.mk cB (cO + 25) none) = some (Value.int
  IntKind.i64 n25) ∧ Value.int IntKind.i64 n25 = Value.int IntKind.i64 n22) ∧ I64 (n18 + n22) ∧ ((4 : Int) = 0 → False) ∧ ∀ (w26 : World) (R27 : List Own), Ctx W w26 (R5 ++ R27) Φ6 → Calls
  Try.prog F.channel_clone #[Value.agg #[Value.int IntKind.i64 m0, Value.int IntKind.i64 m1, Value.int IntKind.i64 m2, Value.int IntKind.i64 m3, Value.int IntKind.i64 m4, Value.slice m5P m5N
  m5C]] w26 fun (e28 : Ending) (w29 : World) => ∃ (n30 : Int), ∃ (n31 : Int), ∃ (n32 : Int), ∃ (n33 : Int), ∃ (n34 : Int), ∃ (p35 : Option Addr), ∃ (k36 : Nat), ∃ (k37 : Nat), e28 =
  Ending.returned (Value.agg #[Value.int IntKind.i64 n30, Value.int IntKind.i64 n31, Value.int IntKind.i64 n32, Value.int IntKind.i64 n33, Value.int IntKind.i64 n34, Value.slice p35 k36 k37])
  ∧ ∃ (R38 : List Own), ∃ (Φ39 : PW), Stable Φ39 ∧ Ctx W w29 (R38 ++ R27) Φ39 ∧ (∀ (w40 : World) (R41 : List Own), Ctx W w40 (R38 ++ R41) Φ39 → Ctx W w40 (R14 ++ R41) Φ15) ∧ (0 ≤ (n18 +
  n22).tmod 4 ∧ (n18 + n22).tmod (4 : Int) < 4) ∧ ∀ (w42 : World) (R43 : List Own), Ctx W w42 (R38 ++ R43) Φ39 → CanWrite w42 cB (cO + ((n18 + n22).tmod 4).toNat * 6) 6 ∧ ∀ (w44 : World), w44
  = w42.setCells cB (cO + ((n18 + n22).tmod 4).toNat * 6) [Value.int IntKind.i64 n30, Value.int IntKind.i64 n31, Value.int IntKind.i64 n32, Value.int IntKind.i64 n33, Value.int IntKind.i64
  n34, Value.slice p35 k36 k37] → ∃ (R45 : List Own), ∃ (Φ46 : PW), Stable Φ46 ∧ Ctx W w44 (R45 ++ R43) Φ46 ∧ (∀ (w47 : World) (R48 : List Own), Ctx W w47 (R45 ++ R48) Φ46 → Ctx W w47 (R14 ++
  R48) Φ15) ∧ ∀ (w49 : World) (R50 : List Own), Ctx W w49 (R45 ++ R50) Φ46 → ∃ (n51 : Int), w49.cell? (Addr.mk cB (cO + 25) none) = some (Value.int IntKind.i64 n51) ∧ I64 (n51 + 1) ∧ ∀ (w52 :
  World) (R53 : List Own), Ctx W w52 (R45 ++ R53) Φ46 → CanWrite w52 cB (cO + 25) 1 ∧ ∀ (w54 : World), w54 = w52.setCell (Addr.mk cB (cO + 25) none) (Value.int IntKind.i64 (n51 + 1)) → ∃ (R55
  : List Own), ∃ (Φ56 : PW), Stable Φ56 ∧ Ctx W w54 (R55 ++ R53) Φ56 ∧ ∀ (w57 : World) (R58 : List Own), Ctx W w57 (R55 ++ R58) Φ56 → ∃ (n59 : Int), w57.cell? (Addr.mk cB (cO + 26) none) =
  some (Value.int IntKind.i64 n59) ∧ I64 (n59 + 1) ∧ ∀ (w60 : World) (R61 : List Own), Ctx W w60 (R55 ++ R61) Φ56 → CanWrite w60 cB (cO + 26) 1 ∧ ∀ (w62 : World), w62 = w60.setCell (Addr.mk
  cB (cO + 26) none) (Value.int IntKind.i64 (n59 + 1)) → ∃ (R63 : List Own), ∃ (Φ64 : PW), Stable Φ64 ∧ Ctx W w62 (R63 ++ R61) Φ64 ∧ ∀ (w65 : World) (R66 : List Own), Ctx W w65 (R63 ++ R66)
  Φ64 → J (Value.int IntKind.i64 0) w65))

theorem Bchannel_Channel_Send_run (cB cO : Nat) (m0 : Int) (m1 : Int) (m2 : Int) (m3 : Int) (m4 : Int) (m5P : Option Addr) (m5N m5C : Nat) {W w : World} {R : List Own} {Φ : PW} [Stable Φ] {J : Value → World → Prop} (c : Ctx W w R Φ) (h : Bchannel_Channel_Send cB cO m0 m1 m2 m3 m4 m5P m5N m5C W R Φ J) : Calls Try.prog F.channel_Channel_Send #[.pointer (some ⟨cB, cO, none⟩), .agg #[.int .i64 m0, .int .i64 m1, .int .i64 m2, .int .i64 m3, .int .i64 m4, .slice m5P m5N m5C]] w fun e w' => ∃ v, e = .returned v ∧ J v w' :=
  vcFS_sound (H := { keep := some [0, 3, 4, 7, 12], track := [3], stages := [(5, [.late [11] [0, 1, 5, 11, 2, 6, 13, 3, 7, 14, 4, 8, 9, 10] [(12, [15]), (16, [])]])] }) (by rw [show vcFS Try.prog W { keep := some [0, 3, 4, 7, 12], track := [3], stages := [(5, [.late [11] [0, 1, 5, 11, 2, 6, 13, 3, 7, 14, 4, 8, 9, 10] [(12, [15]), (16, [])]])] } F.channel_Channel_Send #[.pointer (some ⟨cB, cO, none⟩), .agg #[.int .i64 m0, .int .i64 m1, .int .i64 m2, .int .i64 m3, .int .i64 m4, .slice m5P m5N m5C]] R Φ J = Bchannel_Channel_Send cB cO m0 m1 m2 m3 m4 m5P m5N m5C W R Φ J by kernel_rfl]; exact h) c

/-- errataref36.SameList -/
-- loop at region 4: 5 i; blocks 
def Berrataref36_SameList (aP : Option Addr) (aN aC : Nat) (bP : Option Addr) (bN bC : Nat) (W : World) (R : List Own) (Φ : PW) (J : Value → World → Prop) : Prop :=
  Br (decide ((↑aN : Int) ≠ (↑bN : Int))) (∀ (w0 : World) (R1 : List Own), Ctx W w0 (R ++ R1) Φ → J (Value.bool false) w0) (exI fun (I2 : Int → List Own → PW → Nat → Prop) => (∃ (R3 : List
  Own), ∃ (Φ4 : PW), ∃ (k5 : Nat), Stable Φ4 ∧ (∀ (w6 : World) (R7 : List Own), Ctx W w6 (R ++ R7) Φ → Ctx W w6 (R3 ++ R7) Φ4) ∧ I2 0 R3 Φ4 k5) ∧ ∀ (n8 : Int) (R9 : List Own) (I10 : List Nat
  → World → Prop) (k11 : Nat), Stable I10 → I2 n8 R9 I10 k11 → Br (decide (n8 < (↑aN : Int))) (∃ (R12 : List Own), ∃ (Φ13 : PW), Stable Φ13 ∧ (∀ (w14 : World) (R15 : List Own), Ctx W w14 (R9
  ++ R15) I10 → Ctx W w14 (R12 ++ R15) Φ13) ∧ (0 ≤ n8 ∧ n8 < (↑aN : Int)) ∧ ptrK none aP fun (k16 k17 : Nat) => (0 ≤ n8 ∧ n8 < (↑bN : Int)) ∧ ptrK none bP fun (k18 k19 : Nat) => ∀ (w20 :
  World) (R21 : List Own), Ctx W w20 (R9 ++ R21) I10 → ∃ (n22 : Int), ∃ (n23 : Int), ∃ (n24 : Int), ∃ (n25 : Int), ∃ (n26 : Int), ∃ (p27 : Option Addr), ∃ (k28 : Nat), ∃ (k29 : Nat), RowAt
  w20 k16 (k17 + n8.toNat * 6) [Value.int IntKind.i64 n22, Value.int IntKind.i64 n23, Value.int IntKind.i64 n24, Value.int IntKind.i64 n25, Value.int IntKind.i64 n26, Value.slice p27 k28 k29]
  ∧ ∀ (w30 : World) (R31 : List Own), Ctx W w30 (R9 ++ R31) I10 → ∃ (n32 : Int), ∃ (n33 : Int), ∃ (n34 : Int), ∃ (n35 : Int), ∃ (n36 : Int), ∃ (p37 : Option Addr), ∃ (k38 : Nat), ∃ (k39 :
  Nat), RowAt w30 k18 (k19 + n8.toNat * 6) [Value.int IntKind.i64 n32, Value.int IntKind.i64 n33, Value.int IntKind.i64 n34, Value.int IntKind.i64 n35, Value.int IntKind.i64 n36, Value.slice
  p37 k38 k39] ∧ ∀ (w40 : World) (R41 : List Own), Ctx W w40 (R9 ++ R41) I10 → Calls Try.prog F.errataref36_Same #[Value.agg #[Value.int IntKind.i64 n22, Value.int IntKind.i64 n23, Value.int
  IntKind.i64 n24, Value.int IntKind.i64 n25, Value.int IntKind.i64 n26, Value.slice p27 k28 k29], Value.agg #[Value.int IntKind.i64 n32, Value.int IntKind.i64 n33, Value.int IntKind.i64 n34,
  Value.int IntKind.i64 n35, Value.int IntKind.i64 n36, Value.slice p37 k38 k39]] w40 fun (e42 : Ending) (w43 : World) => ∃ (c44 : Bool), e42 = Ending.returned (Value.bool c44) ∧ ∃ (R45 :
  List Own), ∃ (Φ46 : PW), Stable Φ46 ∧ Ctx W w43 (R45 ++ R41) Φ46 ∧ (∀ (w47 : World) (R48 : List Own), Ctx W w47 (R45 ++ R48) Φ46 → Ctx W w47 (R12 ++ R48) Φ13) ∧ Br (!c44) (∀ (w49 : World)
  (R50 : List Own), Ctx W w49 (R45 ++ R50) Φ46 → J (Value.bool false) w49) (I64 (n8 + 1) ∧ ∃ (R51 : List Own), ∃ (Φ52 : PW), ∃ (k53 : Nat), Stable Φ52 ∧ (∀ (w54 : World) (R55 : List Own), Ctx
  W w54 (R45 ++ R55) Φ46 → Ctx W w54 (R51 ++ R55) Φ52) ∧ I2 (n8 + 1) R51 Φ52 k53 ∧ k53 < k11)) (∀ (w56 : World) (R57 : List Own), Ctx W w56 (R9 ++ R57) I10 → J (Value.bool true) w56))

theorem Berrataref36_SameList_run (aP : Option Addr) (aN aC : Nat) (bP : Option Addr) (bN bC : Nat) {W w : World} {R : List Own} {Φ : PW} [Stable Φ] {J : Value → World → Prop} (c : Ctx W w R Φ) (h : Berrataref36_SameList aP aN aC bP bN bC W R Φ J) : Calls Try.prog F.errataref36_SameList #[.slice aP aN aC, .slice bP bN bC] w fun e w' => ∃ v, e = .returned v ∧ J v w' :=
  vcFS_sound (H := { keep := some [0, 1, 4, 5, 10, 14, 26], stages := [(6, [.late [3, 7] [0, 1, 4, 5, 2, 6, 3, 7] [(8, [9])]])], loops := [(4, [(5, .one (.int .i64))], [])] }) (by rw [show vcFS Try.prog W { keep := some [0, 1, 4, 5, 10, 14, 26], stages := [(6, [.late [3, 7] [0, 1, 4, 5, 2, 6, 3, 7] [(8, [9])]])], loops := [(4, [(5, .one (.int .i64))], [])] } F.errataref36_SameList #[.slice aP aN aC, .slice bP bN bC] R Φ J = Berrataref36_SameList aP aN aC bP bN bC W R Φ J by kernel_rfl]; exact h) c

/-- (*channel.Channel).Head -/
-- known blocks: 2 
def Bchannel_Channel_Head (cB cO : Nat) (W : World) (R : List Own) (Φ : PW) (J : Value → World → Prop) : Prop :=
  ∀ (b : Nat) (w0 : World) (R1 : List Own), Ctx W w0 (R ++ R1) Φ → ∃ (n2 : Int), w0.cell? (Addr.mk cB (cO + 25) none) = some (Value.int IntKind.i64 n2) ∧ Br (decide (n2 = 0)) (∀ (w3 : World)
  (R4 : List Own), Ctx W w3 (R ++ R4) Φ → J (Value.tuple #[Value.agg #[Value.int IntKind.i64 0, Value.int IntKind.i64 0, Value.int IntKind.i64 0, Value.int IntKind.i64 0, Value.int
  IntKind.i64 0, Value.slice none 0 0], Value.bool false]) w3) (∃ (R5 : List Own), ∃ (Φ6 : PW), Stable Φ6 ∧ (∀ (w7 : World) (R8 : List Own), Ctx W w7 (R ++ R8) Φ → Ctx W w7 (R5 ++ R8) Φ6) ∧ ∃
  (n9 : Int), (∀ (w10 : World) (R11 : List Own), Ctx W w10 (R5 ++ R11) Φ6 → ∃ (n12 : Int), w10.cell? (Addr.mk cB (cO + 24) none) = some (Value.int IntKind.i64 n12) ∧ Value.int IntKind.i64 n12
  = Value.int IntKind.i64 n9) ∧ (0 ≤ n9 ∧ n9 < 4) ∧ ∀ (w13 : World) (R14 : List Own), Ctx W w13 (R ++ R14) Φ → ∃ (n15 : Int), ∃ (n16 : Int), ∃ (n17 : Int), ∃ (n18 : Int), ∃ (n19 : Int), ∃
  (p20 : Option Addr), ∃ (k21 : Nat), ∃ (k22 : Nat), RowAt w13 cB (cO + n9.toNat * 6) [Value.int IntKind.i64 n15, Value.int IntKind.i64 n16, Value.int IntKind.i64 n17, Value.int IntKind.i64
  n18, Value.int IntKind.i64 n19, Value.slice p20 k21 k22] ∧ ∀ (w23 : World) (R24 : List Own), Ctx W w23 (R ++ R24) Φ → Calls Try.prog F.channel_clone #[Value.agg #[Value.int IntKind.i64 n15,
  Value.int IntKind.i64 n16, Value.int IntKind.i64 n17, Value.int IntKind.i64 n18, Value.int IntKind.i64 n19, Value.slice p20 k21 k22]] w23 fun (e25 : Ending) (w26 : World) => ∃ (n27 : Int),
  ∃ (n28 : Int), ∃ (n29 : Int), ∃ (n30 : Int), ∃ (n31 : Int), ∃ (p32 : Option Addr), ∃ (k33 : Nat), ∃ (k34 : Nat), e25 = Ending.returned (Value.agg #[Value.int IntKind.i64 n27, Value.int
  IntKind.i64 n28, Value.int IntKind.i64 n29, Value.int IntKind.i64 n30, Value.int IntKind.i64 n31, Value.slice p32 k33 k34]) ∧ ∃ (R35 : List Own), ∃ (Φ36 : PW), Stable Φ36 ∧ Ctx W w26 (R35
  ++ R24) Φ36 ∧ (∀ (w37 : World) (R38 : List Own), Ctx W w37 (R35 ++ R38) Φ36 → Ctx W w37 (R5 ++ R38) Φ6) ∧ (∀ (w39 : World) (R40 : List Own), Ctx W w39 (R35 ++ R40) Φ36 → Ctx W w39 (R5 ++
  R40) Φ6) ∧ ∀ (w41 : World) (R42 : List Own), Ctx W w41 (R35 ++ R42) Φ36 → J (Value.tuple #[Value.agg #[Value.int IntKind.i64 n27, Value.int IntKind.i64 n28, Value.int IntKind.i64 n29,
  Value.int IntKind.i64 n30, Value.int IntKind.i64 n31, Value.slice p32 k33 k34], Value.bool true]) w41)

theorem Bchannel_Channel_Head_run (cB cO : Nat) {W w : World} {R : List Own} {Φ : PW} [Stable Φ] {J : Value → World → Prop} (c : Ctx W w R Φ) (h : Bchannel_Channel_Head cB cO W R Φ J) : Calls Try.prog F.channel_Channel_Head #[.pointer (some ⟨cB, cO, none⟩)] w fun e w' => ∃ v, e = .returned v ∧ J v w' :=
  vcFS_sound (H := { keep := some [0, 2, 3, 8], track := [2], stages := [(3, [.late [8] [0, 1, 2, 5, 3, 6, 4, 7, 8] [(9, []), (10, [11])]])] }) (by rw [show vcFS Try.prog W { keep := some [0, 2, 3, 8], track := [2], stages := [(3, [.late [8] [0, 1, 2, 5, 3, 6, 4, 7, 8] [(9, []), (10, [11])]])] } F.channel_Channel_Head #[.pointer (some ⟨cB, cO, none⟩)] R Φ J = Bchannel_Channel_Head cB cO W R Φ J by kernel_rfl]; exact h) c

/-- errataref36.Same -/
-- loop at region 4: 5 i; blocks 
-- known blocks: 2 a, 3 b
def Berrataref36_Same (a0 : Int) (a1 : Int) (a2 : Int) (a3 : Int) (a4 : Int) (a5P : Option Addr) (a5N a5C : Nat) (b0 : Int) (b1 : Int) (b2 : Int) (b3 : Int) (b4 : Int) (b5P : Option Addr) (b5N b5C : Nat) (W : World) (R : List Own) (Φ : PW) (J : Value → World → Prop) : Prop :=
  ∀ (b b : Nat) (w0 : World) (R1 : List Own), Ctx W w0 (R ++ R1) Φ → Br (decide (a0 ≠ b0) || decide (a1 ≠ b1) || decide (a2 ≠ b2) || decide (a3 ≠ b3) || decide (a4 ≠ b4) || decide ((↑a5N :
  Int) ≠ (↑b5N : Int))) (∀ (w2 : World) (R3 : List Own), Ctx W w2 (R ++ R3) Φ → J (Value.bool false) w2) (exI fun (I4 : Int → List Own → PW → Nat → Prop) => (∃ (R5 : List Own), ∃ (Φ6 : PW), ∃
  (k7 : Nat), Stable Φ6 ∧ (∀ (w8 : World) (R9 : List Own), Ctx W w8 (R ++ R9) Φ → Ctx W w8 (R5 ++ R9) Φ6) ∧ I4 0 R5 Φ6 k7) ∧ ∀ (n10 : Int) (R11 : List Own) (I12 : List Nat → World → Prop)
  (k13 : Nat), Stable I12 → I4 n10 R11 I12 k13 → Br (decide (n10 < (↑a5N : Int))) (∃ (R14 : List Own), ∃ (Φ15 : PW), Stable Φ15 ∧ (∀ (w16 : World) (R17 : List Own), Ctx W w16 (R11 ++ R17) I12
  → Ctx W w16 (R14 ++ R17) Φ15) ∧ (0 ≤ n10 ∧ n10 < (↑a5N : Int)) ∧ ptrK none a5P fun (k18 k19 : Nat) => (0 ≤ n10 ∧ n10 < (↑b5N : Int)) ∧ ptrK none b5P fun (k20 k21 : Nat) => ∃ (n22 : Int), (∀
  (w23 : World) (R24 : List Own), Ctx W w23 (R14 ++ R24) Φ15 → ∃ (n25 : Int), w23.cell? (Addr.mk k18 (k19 + n10.toNat * 3) none) = some (Value.int IntKind.i64 n25) ∧ Value.int IntKind.i64 n25
  = Value.int IntKind.i64 n22) ∧ ∃ (n26 : Int), (∀ (w27 : World) (R28 : List Own), Ctx W w27 (R14 ++ R28) Φ15 → ∃ (n29 : Int), w27.cell? (Addr.mk k20 (k21 + n10.toNat * 3) none) = some
  (Value.int IntKind.i64 n29) ∧ Value.int IntKind.i64 n29 = Value.int IntKind.i64 n26) ∧ Br (decide (n22 ≠ n26)) (∀ (w30 : World) (R31 : List Own), Ctx W w30 (R11 ++ R31) I12 → J (Value.bool
  false) w30) ((0 ≤ n10 ∧ n10 < (↑a5N : Int)) ∧ ptrK none a5P fun (k32 k33 : Nat) => (0 ≤ n10 ∧ n10 < (↑b5N : Int)) ∧ ptrK none b5P fun (k34 k35 : Nat) => ∃ (n36 : Int), (∀ (w37 : World) (R38
  : List Own), Ctx W w37 (R14 ++ R38) Φ15 → ∃ (n39 : Int), w37.cell? (Addr.mk k32 (k33 + n10.toNat * 3 + 2) none) = some (Value.int IntKind.i64 n39) ∧ Value.int IntKind.i64 n39 = Value.int
  IntKind.i64 n36) ∧ ∃ (n40 : Int), (∀ (w41 : World) (R42 : List Own), Ctx W w41 (R14 ++ R42) Φ15 → ∃ (n43 : Int), w41.cell? (Addr.mk k34 (k35 + n10.toNat * 3 + 2) none) = some (Value.int
  IntKind.i64 n43) ∧ Value.int IntKind.i64 n43 = Value.int IntKind.i64 n40) ∧ Br (decide (n36 ≠ n40)) (∀ (w44 : World) (R45 : List Own), Ctx W w44 (R11 ++ R45) I12 → J (Value.bool false) w44)
  ((0 ≤ n10 ∧ n10 < (↑a5N : Int)) ∧ ptrK none a5P fun (k46 k47 : Nat) => (0 ≤ n10 ∧ n10 < (↑b5N : Int)) ∧ ptrK none b5P fun (k48 k49 : Nat) => ∃ (p50 : Option Addr), ∃ (k51 : Nat), ∃ (k52 :
  Nat), (∀ (w53 : World) (R54 : List Own), Ctx W w53 (R14 ++ R54) Φ15 → ∃ (p55 : Option Addr), ∃ (k56 : Nat), ∃ (k57 : Nat), w53.cell? (Addr.mk k46 (k47 + n10.toNat * 3 + 1) none) = some
  (Value.slice p55 k56 k57) ∧ Value.slice p55 k56 k57 = Value.slice p50 k51 k52) ∧ ∃ (p58 : Option Addr), ∃ (k59 : Nat), ∃ (k60 : Nat), (∀ (w61 : World) (R62 : List Own), Ctx W w61 (R14 ++
  R62) Φ15 → ∃ (p63 : Option Addr), ∃ (k64 : Nat), ∃ (k65 : Nat), w61.cell? (Addr.mk k48 (k49 + n10.toNat * 3 + 1) none) = some (Value.slice p63 k64 k65) ∧ Value.slice p63 k64 k65 =
  Value.slice p58 k59 k60) ∧ ∀ (w66 : World) (R67 : List Own), Ctx W w66 (R11 ++ R67) I12 → Calls Try.prog F.errataref03_Same #[Value.slice p50 k51 k52, Value.slice p58 k59 k60] w66 fun (e68
  : Ending) (w69 : World) => ∃ (c70 : Bool), e68 = Ending.returned (Value.bool c70) ∧ ∃ (R71 : List Own), ∃ (Φ72 : PW), Stable Φ72 ∧ Ctx W w69 (R71 ++ R67) Φ72 ∧ (∀ (w73 : World) (R74 : List
  Own), Ctx W w73 (R71 ++ R74) Φ72 → Ctx W w73 (R14 ++ R74) Φ15) ∧ Br (!c70) (∀ (w75 : World) (R76 : List Own), Ctx W w75 (R71 ++ R76) Φ72 → J (Value.bool false) w75) (I64 (n10 + 1) ∧ ∃ (R77
  : List Own), ∃ (Φ78 : PW), ∃ (k79 : Nat), Stable Φ78 ∧ (∀ (w80 : World) (R81 : List Own), Ctx W w80 (R71 ++ R81) Φ72 → Ctx W w80 (R77 ++ R81) Φ78) ∧ I4 (n10 + 1) R77 Φ78 k79 ∧ k79 < k13))))
  (∀ (w82 : World) (R83 : List Own), Ctx W w82 (R11 ++ R83) I12 → J (Value.bool true) w82))

theorem Berrataref36_Same_run (a0 : Int) (a1 : Int) (a2 : Int) (a3 : Int) (a4 : Int) (a5P : Option Addr) (a5N a5C : Nat) (b0 : Int) (b1 : Int) (b2 : Int) (b3 : Int) (b4 : Int) (b5P : Option Addr) (b5N b5C : Nat) {W w : World} {R : List Own} {Φ : PW} [Stable Φ] {J : Value → World → Prop} (c : Ctx W w R Φ) (h : Berrataref36_Same a0 a1 a2 a3 a4 a5P a5N a5C b0 b1 b2 b3 b4 b5P b5N b5C W R Φ J) : Calls Try.prog F.errataref36_Same #[.agg #[.int .i64 a0, .int .i64 a1, .int .i64 a2, .int .i64 a3, .int .i64 a4, .slice a5P a5N a5C], .agg #[.int .i64 b0, .int .i64 b1, .int .i64 b2, .int .i64 b3, .int .i64 b4, .slice b5P b5N b5C]] w fun e w' => ∃ v, e = .returned v ∧ J v w' :=
  vcFS_sound (H := { keep := some [2, 3, 4, 5, 47, 52, 98], track := [2, 3], stages := [(6, [.held [(0, true), (2, true), (6, true), (8, true), (1, true), (7, true), (3, true), (9, true), (4, true), (10, true), (5, true), (11, true), (12, true), (13, true), (14, true), (16, true), (20, true), (22, true), (15, true), (21, true), (17, true), (23, true), (18, true), (24, true), (19, true), (25, true), (26, true), (27, true), (28, true), (29, true), (31, true), (35, true), (37, true), (30, true), (36, true), (32, true), (38, true), (33, true), (39, true), (34, true), (40, true), (41, false), (42, true), (43, true)]])], loops := [(4, [(5, .one (.int .i64))], [])] }) (by rw [show vcFS Try.prog W { keep := some [2, 3, 4, 5, 47, 52, 98], track := [2, 3], stages := [(6, [.held [(0, true), (2, true), (6, true), (8, true), (1, true), (7, true), (3, true), (9, true), (4, true), (10, true), (5, true), (11, true), (12, true), (13, true), (14, true), (16, true), (20, true), (22, true), (15, true), (21, true), (17, true), (23, true), (18, true), (24, true), (19, true), (25, true), (26, true), (27, true), (28, true), (29, true), (31, true), (35, true), (37, true), (30, true), (36, true), (32, true), (38, true), (33, true), (39, true), (34, true), (40, true), (41, false), (42, true), (43, true)]])], loops := [(4, [(5, .one (.int .i64))], [])] } F.errataref36_Same #[.agg #[.int .i64 a0, .int .i64 a1, .int .i64 a2, .int .i64 a3, .int .i64 a4, .slice a5P a5N a5C], .agg #[.int .i64 b0, .int .i64 b1, .int .i64 b2, .int .i64 b3, .int .i64 b4, .slice b5P b5N b5C]] R Φ J = Berrataref36_Same a0 a1 a2 a3 a4 a5P a5N a5C b0 b1 b2 b3 b4 b5P b5N b5C W R Φ J by kernel_rfl]; exact h) c

/-- erratalaw36.mark -/
-- known blocks: 2 
def Berratalaw36_mark (n : Int) (W : World) (R : List Own) (Φ : PW) (J : Value → World → Prop) : Prop :=
  ∀ (b : Nat) (w0 : World) (R1 : List Own), Ctx W w0 (R ++ R1) Φ → J (Value.agg #[Value.int IntKind.i64 2, Value.int IntKind.i64 0, Value.int IntKind.i64 0, Value.int IntKind.i64 0, Value.int
  IntKind.i64 n, Value.slice none 0 0]) w0

theorem Berratalaw36_mark_run (n : Int) {W w : World} {R : List Own} {Φ : PW} [Stable Φ] {J : Value → World → Prop} (c : Ctx W w R Φ) (h : Berratalaw36_mark n W R Φ J) : Calls Try.prog F.erratalaw36_mark #[.int .i64 n] w fun e w' => ∃ v, e = .returned v ∧ J v w' :=
  vcFS_sound (H := { keep := some [0, 2], track := [2] }) (by rw [show vcFS Try.prog W { keep := some [0, 2], track := [2] } F.erratalaw36_mark #[.int .i64 n] R Φ J = Berratalaw36_mark n W R Φ J by kernel_rfl]; exact h) c

/-- errataref36.Right -/
-- loop at region 7: 6 i; blocks 
-- known blocks: 1 m
def Berrataref36_Right (m0 : Int) (m1 : Int) (m2 : Int) (m3 : Int) (m4 : Int) (m5P : Option Addr) (m5N m5C : Nat) (W : World) (R : List Own) (Φ : PW) (J : Value → World → Prop) : Prop :=
  ∀ (b : Nat) (w0 : World) (R1 : List Own), Ctx W w0 (R ++ R1) Φ → ∀ (w2 : World) (R3 : List Own), Ctx W w2 (R ++ R3) Φ → Br (!(decide (0 ≤ m0) && decide (m0 < 3) && decide (0 ≤ m1) && decide
  (m1 ≤ 1099511627776) && decide (0 ≤ m2) && decide (m2 ≤ 1099511627776))) (∀ (w4 : World) (R5 : List Own), Ctx W w4 (R ++ R5) Φ → J (Value.bool false) w4) (Br (!(decide (0 ≤ m3) && decide
  (m3 ≤ 1099511627776) && decide (-1 ≤ m4) && decide (m4 ≤ 1099511627776) && (decide ((↑m5N : Int) = 0) || decide (m0 = 0)) && decide ((↑m5N : Int) ≤ 8))) (∀ (w6 : World) (R7 : List Own), Ctx
  W w6 (R ++ R7) Φ → J (Value.bool false) w6) (∀ (w8 : World) (R9 : List Own), Ctx W w8 (R ++ R9) Φ → Calls Try.prog F.errataref28_Consolidated #[Value.slice m5P m5N m5C] w8 fun (e10 :
  Ending) (w11 : World) => ∃ (c12 : Bool), e10 = Ending.returned (Value.bool c12) ∧ ∃ (R13 : List Own), ∃ (Φ14 : PW), Stable Φ14 ∧ Ctx W w11 (R13 ++ R9) Φ14 ∧ Br (!c12) (∀ (w15 : World) (R16
  : List Own), Ctx W w15 (R13 ++ R16) Φ14 → J (Value.bool false) w15) (exI fun (I17 : Int → List Own → PW → Nat → Prop) => (∃ (R18 : List Own), ∃ (Φ19 : PW), ∃ (k20 : Nat), Stable Φ19 ∧ (∀
  (w21 : World) (R22 : List Own), Ctx W w21 (R13 ++ R22) Φ14 → Ctx W w21 (R18 ++ R22) Φ19) ∧ I17 0 R18 Φ19 k20) ∧ ∀ (n23 : Int) (R24 : List Own) (I25 : List Nat → World → Prop) (k26 : Nat),
  Stable I25 → I17 n23 R24 I25 k26 → Br (decide (n23 < (↑m5N : Int))) ((0 ≤ n23 ∧ n23 < (↑m5N : Int)) ∧ ptrK none m5P fun (k27 k28 : Nat) => ∀ (w29 : World) (R30 : List Own), Ctx W w29 (R24
  ++ R30) I25 → ∃ (p31 : Option Addr), ∃ (k32 : Nat), ∃ (k33 : Nat), w29.cell? (Addr.mk k27 (k28 + n23.toNat * 3 + 1) none) = some (Value.slice p31 k32 k33) ∧ ∀ (w34 : World) (R35 : List
  Own), Ctx W w34 (R24 ++ R35) I25 → Calls Try.prog F.errataref03_RightRow #[Value.slice p31 k32 k33] w34 fun (e36 : Ending) (w37 : World) => ∃ (c38 : Bool), e36 = Ending.returned (Value.bool
  c38) ∧ ∃ (R39 : List Own), ∃ (Φ40 : PW), Stable Φ40 ∧ Ctx W w37 (R39 ++ R35) Φ40 ∧ Br (!c38) (∀ (w41 : World) (R42 : List Own), Ctx W w41 (R39 ++ R42) Φ40 → J (Value.bool false) w41) (I64
  (n23 + 1) ∧ ∃ (R43 : List Own), ∃ (Φ44 : PW), ∃ (k45 : Nat), Stable Φ44 ∧ (∀ (w46 : World) (R47 : List Own), Ctx W w46 (R39 ++ R47) Φ40 → Ctx W w46 (R43 ++ R47) Φ44) ∧ I17 (n23 + 1) R43 Φ44
  k45 ∧ k45 < k26)) (∀ (w48 : World) (R49 : List Own), Ctx W w48 (R24 ++ R49) I25 → J (Value.bool true) w48))))

theorem Berrataref36_Right_run (m0 : Int) (m1 : Int) (m2 : Int) (m3 : Int) (m4 : Int) (m5P : Option Addr) (m5N m5C : Nat) {W w : World} {R : List Own} {Φ : PW} [Stable Φ] {J : Value → World → Prop} (c : Ctx W w R Φ) (h : Berrataref36_Right m0 m1 m2 m3 m4 m5P m5N m5C W R Φ J) : Calls Try.prog F.errataref36_Right #[.agg #[.int .i64 m0, .int .i64 m1, .int .i64 m2, .int .i64 m3, .int .i64 m4, .slice m5P m5N m5C]] w fun e w' => ∃ v, e = .returned v ∧ J v w' :=
  vcFS_sound (H := { keep := some [1, 2, 3, 4, 5, 6, 85, 90, 100], track := [1], split := [4], loops := [(7, [(6, .one (.int .i64))], [])] }) (by rw [show vcFS Try.prog W { keep := some [1, 2, 3, 4, 5, 6, 85, 90, 100], track := [1], split := [4], loops := [(7, [(6, .one (.int .i64))], [])] } F.errataref36_Right #[.agg #[.int .i64 m0, .int .i64 m1, .int .i64 m2, .int .i64 m3, .int .i64 m4, .slice m5P m5N m5C]] R Φ J = Berrataref36_Right m0 m1 m2 m3 m4 m5P m5N m5C W R Φ J by kernel_rfl]; exact h) c

/-- delta.Consolidated -/
-- loop at region 2: 7 ; blocks 
-- known blocks: 4 d
def Bdelta_Consolidated (lP : Option Addr) (lN lC : Nat) (W : World) (R : List Own) (Φ : PW) (J : Value → World → Prop) : Prop :=
  exI fun (I0 : Int → List Own → PW → Nat → Prop) => (∃ (R1 : List Own), ∃ (Φ2 : PW), ∃ (k3 : Nat), Stable Φ2 ∧ (∀ (w4 : World) (R5 : List Own), Ctx W w4 (R ++ R5) Φ → Ctx W w4 (R1 ++ R5) Φ2)
  ∧ I0 0 R1 Φ2 k3) ∧ ∀ (n6 : Int) (R7 : List Own) (I8 : List Nat → World → Prop) (k9 : Nat), Stable I8 → I0 n6 R7 I8 k9 → Br (decide (n6 < (↑lN : Int))) ((0 ≤ n6 ∧ n6 < (↑lN : Int)) ∧ ptrK
  none lP fun (k10 k11 : Nat) => ∀ (w12 : World) (R13 : List Own), Ctx W w12 (R7 ++ R13) I8 → ∃ (n14 : Int), ∃ (p15 : Option Addr), ∃ (k16 : Nat), ∃ (k17 : Nat), ∃ (n18 : Int), RowAt w12 k10
  (k11 + n6.toNat * 3) [Value.int IntKind.i64 n14, Value.slice p15 k16 k17, Value.int IntKind.i64 n18] ∧ ∀ (b : Nat), ∃ (R19 : List Own), ∃ (Φ20 : PW), Stable Φ20 ∧ (∀ (w21 : World) (R22 :
  List Own), Ctx W w21 (R7 ++ R22) I8 → Ctx W w21 (R19 ++ R22) Φ20) ∧ Br (decide (n18 = 0)) (∀ (w23 : World) (R24 : List Own), Ctx W w23 (R7 ++ R24) I8 → J (Value.bool false) w23) (Br (decide
  (0 < n6)) (I64 (n6 - 1) ∧ (0 ≤ n6 - 1 ∧ n6 - 1 < (↑lN : Int)) ∧ ptrK none lP fun (k25 k26 : Nat) => ∃ (n27 : Int), ∃ (p28 : Option Addr), ∃ (k29 : Nat), ∃ (k30 : Nat), ∃ (n31 : Int), (∀
  (w32 : World) (R33 : List Own), Ctx W w32 (R19 ++ R33) Φ20 → ∃ (n34 : Int), ∃ (p35 : Option Addr), ∃ (k36 : Nat), ∃ (k37 : Nat), ∃ (n38 : Int), RowAt w32 k25 (k26 + (n6 - 1).toNat * 3)
  [Value.int IntKind.i64 n34, Value.slice p35 k36 k37, Value.int IntKind.i64 n38] ∧ Value.agg #[Value.int IntKind.i64 n34, Value.slice p35 k36 k37, Value.int IntKind.i64 n38] = Value.agg
  #[Value.int IntKind.i64 n27, Value.slice p28 k29 k30, Value.int IntKind.i64 n31]) ∧ ∀ (w39 : World) (R40 : List Own), Ctx W w39 (R7 ++ R40) I8 → Calls Try.prog F.delta_compare #[Value.agg
  #[Value.int IntKind.i64 n27, Value.slice p28 k29 k30, Value.int IntKind.i64 n31], Value.agg #[Value.int IntKind.i64 n14, Value.slice p15 k16 k17, Value.int IntKind.i64 n18]] w39 fun (e41 :
  Ending) (w42 : World) => ∃ (n43 : Int), e41 = Ending.returned (Value.int IntKind.i64 n43) ∧ ∃ (R44 : List Own), ∃ (Φ45 : PW), Stable Φ45 ∧ Ctx W w42 (R44 ++ R40) Φ45 ∧ (∀ (w46 : World) (R47
  : List Own), Ctx W w46 (R44 ++ R47) Φ45 → Ctx W w46 (R19 ++ R47) Φ20) ∧ Br (decide (0 ≤ n43)) (∀ (w48 : World) (R49 : List Own), Ctx W w48 (R44 ++ R49) Φ45 → J (Value.bool false) w48) (I64
  (n6 + 1) ∧ ∃ (R50 : List Own), ∃ (Φ51 : PW), ∃ (k52 : Nat), Stable Φ51 ∧ (∀ (w53 : World) (R54 : List Own), Ctx W w53 (R44 ++ R54) Φ45 → Ctx W w53 (R50 ++ R54) Φ51) ∧ I0 (n6 + 1) R50 Φ51
  k52 ∧ k52 < k9)) (I64 (n6 + 1) ∧ ∃ (R55 : List Own), ∃ (Φ56 : PW), ∃ (k57 : Nat), Stable Φ56 ∧ (∀ (w58 : World) (R59 : List Own), Ctx W w58 (R7 ++ R59) I8 → Ctx W w58 (R55 ++ R59) Φ56) ∧ I0
  (n6 + 1) R55 Φ56 k57 ∧ k57 < k9))) (∀ (w60 : World) (R61 : List Own), Ctx W w60 (R7 ++ R61) I8 → J (Value.bool true) w60)

theorem Bdelta_Consolidated_run (lP : Option Addr) (lN lC : Nat) {W w : World} {R : List Own} {Φ : PW} [Stable Φ] {J : Value → World → Prop} (c : Ctx W w R Φ) (h : Bdelta_Consolidated lP lN lC W R Φ J) : Calls Try.prog F.delta_Consolidated #[.slice lP lN lC] w fun e w' => ∃ v, e = .returned v ∧ J v w' :=
  vcFS_sound (H := { keep := some [0, 2, 3, 4, 5, 6, 7, 8, 28], track := [4], stages := [(4, [.held [(0, true), (1, true), (2, true), (3, true), (4, true), (5, true), (6, true), (7, true), (8, true), (12, true), (9, true), (10, true), (11, true), (13, false), (14, true), (15, true), (16, true)]])], loops := [(2, [(7, .one (.int .i64))], [])] }) (by rw [show vcFS Try.prog W { keep := some [0, 2, 3, 4, 5, 6, 7, 8, 28], track := [4], stages := [(4, [.held [(0, true), (1, true), (2, true), (3, true), (4, true), (5, true), (6, true), (7, true), (8, true), (12, true), (9, true), (10, true), (11, true), (13, false), (14, true), (15, true), (16, true)]])], loops := [(2, [(7, .one (.int .i64))], [])] } F.delta_Consolidated #[.slice lP lN lC] R Φ J = Bdelta_Consolidated lP lN lC W R Φ J by kernel_rfl]; exact h) c

/-- slices.ContainsFunc[[]api.Delta,api.Delta] -/
def Bslices_ContainsFunc_api_Delta_api_Delta (sP : Option Addr) (sN sC : Nat) (fF : FuncId) (fC : Array Value) (W : World) (R : List Own) (Φ : PW) (J : Value → World → Prop) : Prop :=
  ∀ (w0 : World) (R1 : List Own), Ctx W w0 (R ++ R1) Φ → Calls Try.prog F.slices_IndexFunc_api_Delta_api_Delta #[Value.slice sP sN sC, Value.func (Fn.func fF) #[] fC] w0 fun (e2 : Ending) (w3
  : World) => ∃ (n4 : Int), e2 = Ending.returned (Value.int IntKind.i64 n4) ∧ ∃ (R5 : List Own), ∃ (Φ6 : PW), Stable Φ6 ∧ Ctx W w3 (R5 ++ R1) Φ6 ∧ ∀ (w7 : World) (R8 : List Own), Ctx W w7 (R5
  ++ R8) Φ6 → J (Value.bool (decide (0 ≤ n4))) w7

theorem Bslices_ContainsFunc_api_Delta_api_Delta_run (sP : Option Addr) (sN sC : Nat) (fF : FuncId) (fC : Array Value) {W w : World} {R : List Own} {Φ : PW} [Stable Φ] {J : Value → World → Prop} (c : Ctx W w R Φ) (h : Bslices_ContainsFunc_api_Delta_api_Delta sP sN sC fF fC W R Φ J) : Calls Try.prog F.slices_ContainsFunc_api_Delta_api_Delta #[.slice sP sN sC, .func (.func fF) #[] fC] w fun e w' => ∃ v, e = .returned v ∧ J v w' :=
  vcFS_sound (H := { keep := some [0, 1, 4] }) (by rw [show vcFS Try.prog W { keep := some [0, 1, 4] } F.slices_ContainsFunc_api_Delta_api_Delta #[.slice sP sN sC, .func (.func fF) #[] fC] R Φ J = Bslices_ContainsFunc_api_Delta_api_Delta sP sN sC fF fC W R Φ J by kernel_rfl]; exact h) c

/-- channel.Right$1 -/
-- known blocks: 1 d
def Bchannel_Right_1 (d0 : Int) (d1P : Option Addr) (d1N d1C : Nat) (d2 : Int) (W : World) (R : List Own) (Φ : PW) (J : Value → World → Prop) : Prop :=
  ∀ (b : Nat) (w0 : World) (R1 : List Own), Ctx W w0 (R ++ R1) Φ → Calls Try.prog F.value_RightRow #[Value.slice d1P d1N d1C] w0 fun (e2 : Ending) (w3 : World) => ∃ (c4 : Bool), e2 =
  Ending.returned (Value.bool c4) ∧ ∃ (R5 : List Own), ∃ (Φ6 : PW), Stable Φ6 ∧ Ctx W w3 (R5 ++ R1) Φ6 ∧ ∀ (w7 : World) (R8 : List Own), Ctx W w7 (R5 ++ R8) Φ6 → J (Value.bool !c4) w7

theorem Bchannel_Right_1_run (d0 : Int) (d1P : Option Addr) (d1N d1C : Nat) (d2 : Int) {W w : World} {R : List Own} {Φ : PW} [Stable Φ] {J : Value → World → Prop} (c : Ctx W w R Φ) (h : Bchannel_Right_1 d0 d1P d1N d1C d2 W R Φ J) : Calls Try.prog F.channel_Right_1 #[.agg #[.int .i64 d0, .slice d1P d1N d1C, .int .i64 d2]] w fun e w' => ∃ v, e = .returned v ∧ J v w' :=
  vcFS_sound (H := { keep := some [1, 2], track := [1] }) (by rw [show vcFS Try.prog W { keep := some [1, 2], track := [1] } F.channel_Right_1 #[.agg #[.int .i64 d0, .slice d1P d1N d1C, .int .i64 d2]] R Φ J = Bchannel_Right_1 d0 d1P d1N d1C d2 W R Φ J by kernel_rfl]; exact h) c

/-- value.RightRow -/
def Bvalue_RightRow (rP : Option Addr) (rN rC : Nat) (W : World) (R : List Own) (Φ : PW) (J : Value → World → Prop) : Prop :=
  Br (decide ((↑rN : Int) ≤ 12)) (∀ (w0 : World) (R1 : List Own), Ctx W w0 (R ++ R1) Φ → Calls Try.prog F.value_all #[Value.slice rP rN rC] w0 fun (e2 : Ending) (w3 : World) => ∃ (c4 : Bool),
  e2 = Ending.returned (Value.bool c4) ∧ ∃ (R5 : List Own), ∃ (Φ6 : PW), Stable Φ6 ∧ Ctx W w3 (R5 ++ R1) Φ6 ∧ ∀ (w7 : World) (R8 : List Own), Ctx W w7 (R5 ++ R8) Φ6 → J (Value.bool c4) w7) (∀
  (w9 : World) (R10 : List Own), Ctx W w9 (R ++ R10) Φ → J (Value.bool false) w9)

theorem Bvalue_RightRow_run (rP : Option Addr) (rN rC : Nat) {W w : World} {R : List Own} {Φ : PW} [Stable Φ] {J : Value → World → Prop} (c : Ctx W w R Φ) (h : Bvalue_RightRow rP rN rC W R Φ J) : Calls Try.prog F.value_RightRow #[.slice rP rN rC] w fun e w' => ∃ v, e = .returned v ∧ J v w' :=
  vcFS_sound (H := { keep := some [0, 2], split := [1] }) (by rw [show vcFS Try.prog W { keep := some [0, 2], split := [1] } F.value_RightRow #[.slice rP rN rC] R Φ J = Bvalue_RightRow rP rN rC W R Φ J by kernel_rfl]; exact h) c

/-- channel.clone -/
-- loop at region 3: 11 ; blocks 
-- known blocks: 2 
def Bchannel_clone (m0 : Int) (m1 : Int) (m2 : Int) (m3 : Int) (m4 : Int) (m5P : Option Addr) (m5N m5C : Nat) (W : World) (R : List Own) (Φ : PW) (J : Value → World → Prop) : Prop :=
  ∀ (k0 b : Nat) (w1 : World) (R2 : List Own), Ctx W w1 (Own.blk k0 [Value.int IntKind.i64 m0, Value.int IntKind.i64 m1, Value.int IntKind.i64 m2, Value.int IntKind.i64 m3, Value.int
  IntKind.i64 m4, Value.slice m5P m5N m5C] 31 :: R ++ R2) Φ → ∃ (p3 : Option Addr), ∃ (k4 : Nat), ∃ (k5 : Nat), w1.cell? (Addr.mk k0 5 none) = some (Value.slice p3 k4 k5) ∧ ∀ (w6 : World) (R7
  : List Own), Ctx W w6 (Own.blk k0 [Value.int IntKind.i64 m0, Value.int IntKind.i64 m1, Value.int IntKind.i64 m2, Value.int IntKind.i64 m3, Value.int IntKind.i64 m4, Value.slice m5P m5N m5C]
  31 :: R ++ R7) Φ → Calls Try.prog F.slices_Clone_api_Delta_api_Delta #[Value.slice p3 k4 k5] w6 fun (e8 : Ending) (w9 : World) => ∃ (p10 : Option Addr), ∃ (k11 : Nat), ∃ (k12 : Nat), e8 =
  Ending.returned (Value.slice p10 k11 k12) ∧ ∃ (R13 : List Own), ∃ (Φ14 : PW), Stable Φ14 ∧ Ctx W w9 (R13 ++ R7) Φ14 ∧ ∀ (w15 : World) (R16 : List Own), Ctx W w15 (R13 ++ R16) Φ14 → CanWrite
  w15 k0 5 1 ∧ ∀ (w17 : World), w17 = w15.setCell (Addr.mk k0 5 none) (Value.slice p10 k11 k12) → ∃ (R18 : List Own), ∃ (Φ19 : PW), Stable Φ19 ∧ Ctx W w17 (R18 ++ R16) Φ19 ∧ ∀ (w20 : World)
  (R21 : List Own), Ctx W w20 (R18 ++ R21) Φ19 → ∃ (p22 : Option Addr), ∃ (k23 : Nat), ∃ (k24 : Nat), w20.cell? (Addr.mk k0 5 none) = some (Value.slice p22 k23 k24) ∧ exI fun (I25 : Int →
  List Own → PW → Nat → Prop) => (∃ (R26 : List Own), ∃ (Φ27 : PW), ∃ (k28 : Nat), Stable Φ27 ∧ (∀ (w29 : World) (R30 : List Own), Ctx W w29 (R18 ++ R30) Φ19 → Ctx W w29 (R26 ++ R30) Φ27) ∧
  I25 0 R26 Φ27 k28) ∧ ∀ (n31 : Int) (R32 : List Own) (I33 : List Nat → World → Prop) (k34 : Nat), Stable I33 → I25 n31 R32 I33 k34 → Br (decide (n31 < (↑k23 : Int))) (∃ (R35 : List Own), ∃
  (Φ36 : PW), Stable Φ36 ∧ (∀ (w37 : World) (R38 : List Own), Ctx W w37 (R32 ++ R38) I33 → Ctx W w37 (R35 ++ R38) Φ36) ∧ ∃ (p39 : Option Addr), ∃ (k40 : Nat), ∃ (k41 : Nat), (∀ (w42 : World)
  (R43 : List Own), Ctx W w42 (R35 ++ R43) Φ36 → ∃ (p44 : Option Addr), ∃ (k45 : Nat), ∃ (k46 : Nat), w42.cell? (Addr.mk k0 5 none) = some (Value.slice p44 k45 k46) ∧ Value.slice p44 k45 k46
  = Value.slice p39 k40 k41) ∧ ∃ (p47 : Option Addr), ∃ (k48 : Nat), ∃ (k49 : Nat), (∀ (w50 : World) (R51 : List Own), Ctx W w50 (R35 ++ R51) Φ36 → ∃ (p52 : Option Addr), ∃ (k53 : Nat), ∃
  (k54 : Nat), w50.cell? (Addr.mk k0 5 none) = some (Value.slice p52 k53 k54) ∧ Value.slice p52 k53 k54 = Value.slice p47 k48 k49) ∧ (0 ≤ n31 ∧ n31 < (↑k48 : Int)) ∧ ptrK none p47 fun (k55
  k56 : Nat) => ∀ (w57 : World) (R58 : List Own), Ctx W w57 (R32 ++ R58) I33 → ∃ (p59 : Option Addr), ∃ (k60 : Nat), ∃ (k61 : Nat), w57.cell? (Addr.mk k55 (k56 + n31.toNat * 3 + 1) none) =
  some (Value.slice p59 k60 k61) ∧ ∀ (w62 : World) (R63 : List Own), Ctx W w62 (R32 ++ R63) I33 → Calls Try.prog F.slices_Clone_api_Value_api_Value #[Value.slice p59 k60 k61] w62 fun (e64 :
  Ending) (w65 : World) => ∃ (p66 : Option Addr), ∃ (k67 : Nat), ∃ (k68 : Nat), e64 = Ending.returned (Value.slice p66 k67 k68) ∧ ∃ (R69 : List Own), ∃ (Φ70 : PW), Stable Φ70 ∧ Ctx W w65 (R69
  ++ R63) Φ70 ∧ (∀ (w71 : World) (R72 : List Own), Ctx W w71 (R69 ++ R72) Φ70 → Ctx W w71 (R35 ++ R72) Φ36) ∧ (0 ≤ n31 ∧ n31 < (↑k40 : Int)) ∧ ptrK none p39 fun (k73 k74 : Nat) => ∀ (w75 :
  World) (R76 : List Own), Ctx W w75 (R69 ++ R76) Φ70 → CanWrite w75 k73 (k74 + n31.toNat * 3 + 1) 1 ∧ ∀ (w77 : World), w77 = w75.setCell (Addr.mk k73 (k74 + n31.toNat * 3 + 1) none)
  (Value.slice p66 k67 k68) → ∃ (R78 : List Own), ∃ (Φ79 : PW), Stable Φ79 ∧ Ctx W w77 (R78 ++ R76) Φ79 ∧ (∀ (w80 : World) (R81 : List Own), Ctx W w80 (R78 ++ R81) Φ79 → Ctx W w80 (R35 ++
  R81) Φ36) ∧ I64 (n31 + 1) ∧ ∃ (R82 : List Own), ∃ (Φ83 : PW), ∃ (k84 : Nat), Stable Φ83 ∧ (∀ (w85 : World) (R86 : List Own), Ctx W w85 (R78 ++ R86) Φ79 → Ctx W w85 (R82 ++ R86) Φ83) ∧ I25
  (n31 + 1) R82 Φ83 k84 ∧ k84 < k34) (∀ (w87 : World) (R88 : List Own), Ctx W w87 (R32 ++ R88) I33 → ∃ (n89 : Int), ∃ (n90 : Int), ∃ (n91 : Int), ∃ (n92 : Int), ∃ (n93 : Int), ∃ (p94 : Option
  Addr), ∃ (k95 : Nat), ∃ (k96 : Nat), RowAt w87 k0 0 [Value.int IntKind.i64 n89, Value.int IntKind.i64 n90, Value.int IntKind.i64 n91, Value.int IntKind.i64 n92, Value.int IntKind.i64 n93,
  Value.slice p94 k95 k96] ∧ ∀ (w97 : World) (R98 : List Own), Ctx W w97 (R32 ++ R98) I33 → J (Value.agg #[Value.int IntKind.i64 n89, Value.int IntKind.i64 n90, Value.int IntKind.i64 n91,
  Value.int IntKind.i64 n92, Value.int IntKind.i64 n93, Value.slice p94 k95 k96]) w97)

theorem Bchannel_clone_run (m0 : Int) (m1 : Int) (m2 : Int) (m3 : Int) (m4 : Int) (m5P : Option Addr) (m5N m5C : Nat) {W w : World} {R : List Own} {Φ : PW} [Stable Φ] {J : Value → World → Prop} (c : Ctx W w R Φ) (h : Bchannel_clone m0 m1 m2 m3 m4 m5P m5N m5C W R Φ J) : Calls Try.prog F.channel_clone #[.agg #[.int .i64 m0, .int .i64 m1, .int .i64 m2, .int .i64 m3, .int .i64 m4, .slice m5P m5N m5C]] w fun e w' => ∃ v, e = .returned v ∧ J v w' :=
  vcFS_sound (H := { keep := some [1, 2, 3, 10, 11, 12], track := [2], stages := [(5, [.late [8] [0, 2, 3, 5, 1, 4, 6, 7, 8] [(9, [10, 11]), (12, [])]])], loops := [(3, [(11, .one (.int .i64))], [])] }) (by rw [show vcFS Try.prog W { keep := some [1, 2, 3, 10, 11, 12], track := [2], stages := [(5, [.late [8] [0, 2, 3, 5, 1, 4, 6, 7, 8] [(9, [10, 11]), (12, [])]])], loops := [(3, [(11, .one (.int .i64))], [])] } F.channel_clone #[.agg #[.int .i64 m0, .int .i64 m1, .int .i64 m2, .int .i64 m3, .int .i64 m4, .slice m5P m5N m5C]] R Φ J = Bchannel_clone m0 m1 m2 m3 m4 m5P m5N m5C W R Φ J by kernel_rfl]; exact h) c

/-- errataref03.Same -/
def Berrataref03_Same (aP : Option Addr) (aN aC : Nat) (bP : Option Addr) (bN bC : Nat) (W : World) (R : List Own) (Φ : PW) (J : Value → World → Prop) : Prop :=
  ∀ (w0 : World) (R1 : List Own), Ctx W w0 (R ++ R1) Φ → Calls Try.prog F.errataref03_CompareRows #[Value.slice aP aN aC, Value.slice bP bN bC] w0 fun (e2 : Ending) (w3 : World) => ∃ (n4 :
  Int), e2 = Ending.returned (Value.int IntKind.i64 n4) ∧ ∃ (R5 : List Own), ∃ (Φ6 : PW), Stable Φ6 ∧ Ctx W w3 (R5 ++ R1) Φ6 ∧ ∀ (w7 : World) (R8 : List Own), Ctx W w7 (R5 ++ R8) Φ6 → J
  (Value.bool (decide (n4 = 0))) w7

theorem Berrataref03_Same_run (aP : Option Addr) (aN aC : Nat) (bP : Option Addr) (bN bC : Nat) {W w : World} {R : List Own} {Φ : PW} [Stable Φ] {J : Value → World → Prop} (c : Ctx W w R Φ) (h : Berrataref03_Same aP aN aC bP bN bC W R Φ J) : Calls Try.prog F.errataref03_Same #[.slice aP aN aC, .slice bP bN bC] w fun e w' => ∃ v, e = .returned v ∧ J v w' :=
  vcFS_sound (H := { keep := some [0, 1, 4] }) (by rw [show vcFS Try.prog W { keep := some [0, 1, 4] } F.errataref03_Same #[.slice aP aN aC, .slice bP bN bC] R Φ J = Berrataref03_Same aP aN aC bP bN bC W R Φ J by kernel_rfl]; exact h) c

/-- errataref28.Consolidated -/
-- loop at region 2: 3 i; blocks 
def Berrataref28_Consolidated (lP : Option Addr) (lN lC : Nat) (W : World) (R : List Own) (Φ : PW) (J : Value → World → Prop) : Prop :=
  exI fun (I0 : Int → List Own → PW → Nat → Prop) => (∃ (R1 : List Own), ∃ (Φ2 : PW), ∃ (k3 : Nat), Stable Φ2 ∧ (∀ (w4 : World) (R5 : List Own), Ctx W w4 (R ++ R5) Φ → Ctx W w4 (R1 ++ R5) Φ2)
  ∧ I0 0 R1 Φ2 k3) ∧ ∀ (n6 : Int) (R7 : List Own) (I8 : List Nat → World → Prop) (k9 : Nat), Stable I8 → I0 n6 R7 I8 k9 → Br (decide (n6 < (↑lN : Int))) (∃ (R10 : List Own), ∃ (Φ11 : PW),
  Stable Φ11 ∧ (∀ (w12 : World) (R13 : List Own), Ctx W w12 (R7 ++ R13) I8 → Ctx W w12 (R10 ++ R13) Φ11) ∧ (0 ≤ n6 ∧ n6 < (↑lN : Int)) ∧ ptrK none lP fun (k14 k15 : Nat) => ∃ (n16 : Int), (∀
  (w17 : World) (R18 : List Own), Ctx W w17 (R10 ++ R18) Φ11 → ∃ (n19 : Int), w17.cell? (Addr.mk k14 (k15 + n6.toNat * 3 + 2) none) = some (Value.int IntKind.i64 n19) ∧ Value.int IntKind.i64
  n19 = Value.int IntKind.i64 n16) ∧ Br (decide (n16 = 0)) (∀ (w20 : World) (R21 : List Own), Ctx W w20 (R7 ++ R21) I8 → J (Value.bool false) w20) (Br (decide (0 < n6)) (I64 (n6 - 1) ∧ (0 ≤
  n6 ∧ n6 < (↑lN : Int)) ∧ ptrK none lP fun (k22 k23 : Nat) => ∀ (w24 : World) (R25 : List Own), Ctx W w24 (R7 ++ R25) I8 → ∃ (n26 : Int), ∃ (p27 : Option Addr), ∃ (k28 : Nat), ∃ (k29 : Nat),
  ∃ (n30 : Int), RowAt w24 k22 (k23 + n6.toNat * 3) [Value.int IntKind.i64 n26, Value.slice p27 k28 k29, Value.int IntKind.i64 n30] ∧ (0 ≤ max (n6 - 1) 0 ∧ max (n6 - 1) 0 < (↑lN : Int)) ∧
  ptrK none lP fun (k31 k32 : Nat) => ∀ (w33 : World) (R34 : List Own), Ctx W w33 (R7 ++ R34) I8 → ∃ (n35 : Int), ∃ (p36 : Option Addr), ∃ (k37 : Nat), ∃ (k38 : Nat), ∃ (n39 : Int), RowAt w33
  k31 (k32 + (max (n6 - 1) 0).toNat * 3) [Value.int IntKind.i64 n35, Value.slice p36 k37 k38, Value.int IntKind.i64 n39] ∧ ∀ (w40 : World) (R41 : List Own), Ctx W w40 (R7 ++ R41) I8 → Calls
  Try.prog F.errataref28_Compare #[Value.agg #[Value.int IntKind.i64 n35, Value.slice p36 k37 k38, Value.int IntKind.i64 n39], Value.agg #[Value.int IntKind.i64 n26, Value.slice p27 k28 k29,
  Value.int IntKind.i64 n30]] w40 fun (e42 : Ending) (w43 : World) => ∃ (n44 : Int), e42 = Ending.returned (Value.int IntKind.i64 n44) ∧ ∃ (R45 : List Own), ∃ (Φ46 : PW), Stable Φ46 ∧ Ctx W
  w43 (R45 ++ R41) Φ46 ∧ (∀ (w47 : World) (R48 : List Own), Ctx W w47 (R45 ++ R48) Φ46 → Ctx W w47 (R10 ++ R48) Φ11) ∧ Br (decide (0 ≤ n44)) (∀ (w49 : World) (R50 : List Own), Ctx W w49 (R45
  ++ R50) Φ46 → J (Value.bool false) w49) (I64 (n6 + 1) ∧ ∃ (R51 : List Own), ∃ (Φ52 : PW), ∃ (k53 : Nat), Stable Φ52 ∧ (∀ (w54 : World) (R55 : List Own), Ctx W w54 (R45 ++ R55) Φ46 → Ctx W
  w54 (R51 ++ R55) Φ52) ∧ I0 (n6 + 1) R51 Φ52 k53 ∧ k53 < k9)) (I64 (n6 + 1) ∧ ∃ (R56 : List Own), ∃ (Φ57 : PW), ∃ (k58 : Nat), Stable Φ57 ∧ (∀ (w59 : World) (R60 : List Own), Ctx W w59 (R7
  ++ R60) I8 → Ctx W w59 (R56 ++ R60) Φ57) ∧ I0 (n6 + 1) R56 Φ57 k58 ∧ k58 < k9))) (∀ (w61 : World) (R62 : List Own), Ctx W w61 (R7 ++ R62) I8 → J (Value.bool true) w61)

theorem Berrataref28_Consolidated_run (lP : Option Addr) (lN lC : Nat) {W w : World} {R : List Own} {Φ : PW} [Stable Φ] {J : Value → World → Prop} (c : Ctx W w R Φ) (h : Berrataref28_Consolidated lP lN lC W R Φ J) : Calls Try.prog F.errataref28_Consolidated #[.slice lP lN lC] w fun e w' => ∃ v, e = .returned v ∧ J v w' :=
  vcFS_sound (H := { keep := some [0, 2, 3, 7, 33], stages := [(4, [.late [9, 19, 15] [0, 1, 2, 3, 4, 5, 6, 7, 8, 9, 10, 11, 16, 17, 12, 18, 13, 19, 14, 15] [(20, [21, 22, 23])]])], loops := [(2, [(3, .one (.int .i64))], [])] }) (by rw [show vcFS Try.prog W { keep := some [0, 2, 3, 7, 33], stages := [(4, [.late [9, 19, 15] [0, 1, 2, 3, 4, 5, 6, 7, 8, 9, 10, 11, 16, 17, 12, 18, 13, 19, 14, 15] [(20, [21, 22, 23])]])], loops := [(2, [(3, .one (.int .i64))], [])] } F.errataref28_Consolidated #[.slice lP lN lC] R Φ J = Berrataref28_Consolidated lP lN lC W R Φ J by kernel_rfl]; exact h) c

/-- errataref03.RightRow -/
def Berrataref03_RightRow (rP : Option Addr) (rN rC : Nat) (W : World) (R : List Own) (Φ : PW) (J : Value → World → Prop) : Prop :=
  Br (decide ((↑rN : Int) ≤ 12)) (∀ (w0 : World) (R1 : List Own), Ctx W w0 (R ++ R1) Φ → Calls Try.prog F.errataref03_All #[Value.slice rP rN rC] w0 fun (e2 : Ending) (w3 : World) => ∃ (c4 :
  Bool), e2 = Ending.returned (Value.bool c4) ∧ ∃ (R5 : List Own), ∃ (Φ6 : PW), Stable Φ6 ∧ Ctx W w3 (R5 ++ R1) Φ6 ∧ ∀ (w7 : World) (R8 : List Own), Ctx W w7 (R5 ++ R8) Φ6 → J (Value.bool c4)
  w7) (∀ (w9 : World) (R10 : List Own), Ctx W w9 (R ++ R10) Φ → J (Value.bool false) w9)

theorem Berrataref03_RightRow_run (rP : Option Addr) (rN rC : Nat) {W w : World} {R : List Own} {Φ : PW} [Stable Φ] {J : Value → World → Prop} (c : Ctx W w R Φ) (h : Berrataref03_RightRow rP rN rC W R Φ J) : Calls Try.prog F.errataref03_RightRow #[.slice rP rN rC] w fun e w' => ∃ v, e = .returned v ∧ J v w' :=
  vcFS_sound (H := { keep := some [0, 2], split := [1] }) (by rw [show vcFS Try.prog W { keep := some [0, 2], split := [1] } F.errataref03_RightRow #[.slice rP rN rC] R Φ J = Berrataref03_RightRow rP rN rC W R Φ J by kernel_rfl]; exact h) c

/-- delta.compare -/
-- known blocks: 2 a, 3 b
def Bdelta_compare (a0 : Int) (a1P : Option Addr) (a1N a1C : Nat) (a2 : Int) (b0 : Int) (b1P : Option Addr) (b1N b1C : Nat) (b2 : Int) (W : World) (R : List Own) (Φ : PW) (J : Value → World → Prop) : Prop :=
  ∀ (b b : Nat), ∃ (R0 : List Own), ∃ (Φ1 : PW), Stable Φ1 ∧ (∀ (w2 : World) (R3 : List Own), Ctx W w2 (R ++ R3) Φ → Ctx W w2 (R0 ++ R3) Φ1) ∧ ∀ (w4 : World) (R5 : List Own), Ctx W w4 (R ++
  R5) Φ → Calls Try.prog F.cmp_Compare_int #[Value.int IntKind.i64 a0, Value.int IntKind.i64 b0] w4 fun (e6 : Ending) (w7 : World) => ∃ (n8 : Int), e6 = Ending.returned (Value.int IntKind.i64
  n8) ∧ ∃ (R9 : List Own), ∃ (Φ10 : PW), Stable Φ10 ∧ Ctx W w7 (R9 ++ R5) Φ10 ∧ (∀ (w11 : World) (R12 : List Own), Ctx W w11 (R9 ++ R12) Φ10 → Ctx W w11 (R0 ++ R12) Φ1) ∧ ∀ (w13 : World) (R14
  : List Own), Ctx W w13 (R9 ++ R14) Φ10 → Calls Try.prog F.value_CompareRows #[Value.slice a1P a1N a1C, Value.slice b1P b1N b1C] w13 fun (e15 : Ending) (w16 : World) => ∃ (n17 : Int), e15 =
  Ending.returned (Value.int IntKind.i64 n17) ∧ ∃ (R18 : List Own), ∃ (Φ19 : PW), Stable Φ19 ∧ Ctx W w16 (R18 ++ R14) Φ19 ∧ (∀ (w20 : World) (R21 : List Own), Ctx W w20 (R18 ++ R21) Φ19 → Ctx
  W w20 (R0 ++ R21) Φ1) ∧ ∀ (k22 : Nat), (∀ (w23 : World) (R24 : List Own), Ctx W w23 (Own.blk k22 [Value.int IntKind.i64 n8, Value.int IntKind.i64 n17] 3 :: R18 ++ R24) Φ19 → Ctx W w23 (R0
  ++ R24) Φ1) ∧ ∀ (w25 : World) (R26 : List Own), Ctx W w25 (Own.blk k22 [Value.int IntKind.i64 n8, Value.int IntKind.i64 n17] 3 :: R18 ++ R26) Φ19 → Calls Try.prog F.cmp_Or_int #[Value.slice
  (some (Addr.mk k22 0 none)) 2 2] w25 fun (e27 : Ending) (w28 : World) => ∃ (n29 : Int), e27 = Ending.returned (Value.int IntKind.i64 n29) ∧ ∃ (R30 : List Own), ∃ (Φ31 : PW), Stable Φ31 ∧
  Ctx W w28 (R30 ++ R26) Φ31 ∧ (∀ (w32 : World) (R33 : List Own), Ctx W w32 (R30 ++ R33) Φ31 → Ctx W w32 (R0 ++ R33) Φ1) ∧ ∀ (w34 : World) (R35 : List Own), Ctx W w34 (R30 ++ R35) Φ31 → J
  (Value.int IntKind.i64 n29) w34

theorem Bdelta_compare_run (a0 : Int) (a1P : Option Addr) (a1N a1C : Nat) (a2 : Int) (b0 : Int) (b1P : Option Addr) (b1N b1C : Nat) (b2 : Int) {W w : World} {R : List Own} {Φ : PW} [Stable Φ] {J : Value → World → Prop} (c : Ctx W w R Φ) (h : Bdelta_compare a0 a1P a1N a1C a2 b0 b1P b1N b1C b2 W R Φ J) : Calls Try.prog F.delta_compare #[.agg #[.int .i64 a0, .slice a1P a1N a1C, .int .i64 a2], .agg #[.int .i64 b0, .slice b1P b1N b1C, .int .i64 b2]] w fun e w' => ∃ v, e = .returned v ∧ J v w' :=
  vcFS_sound (H := { keep := some [2, 3, 4], track := [2, 3], stages := [(1, [.held [(0, true), (2, true), (5, true), (7, true), (1, true), (3, true), (6, true), (8, true), (4, false), (9, false), (10, false), (11, false), (12, true)]])] }) (by rw [show vcFS Try.prog W { keep := some [2, 3, 4], track := [2, 3], stages := [(1, [.held [(0, true), (2, true), (5, true), (7, true), (1, true), (3, true), (6, true), (8, true), (4, false), (9, false), (10, false), (11, false), (12, true)]])] } F.delta_compare #[.agg #[.int .i64 a0, .slice a1P a1N a1C, .int .i64 a2], .agg #[.int .i64 b0, .slice b1P b1N b1C, .int .i64 b2]] R Φ J = Bdelta_compare a0 a1P a1N a1C a2 b0 b1P b1N b1C b2 W R Φ J by kernel_rfl]; exact h) c

/-- slices.IndexFunc[[]api.Delta,api.Delta] -/
-- loop at region 2: 8 ; blocks 
def Bslices_IndexFunc_api_Delta_api_Delta (sP : Option Addr) (sN sC : Nat) (fF : FuncId) (fC : Array Value) (W : World) (R : List Own) (Φ : PW) (J : Value → World → Prop) : Prop :=
  exI fun (I0 : Int → List Own → PW → Nat → Prop) => (∃ (R1 : List Own), ∃ (Φ2 : PW), ∃ (k3 : Nat), Stable Φ2 ∧ (∀ (w4 : World) (R5 : List Own), Ctx W w4 (R ++ R5) Φ → Ctx W w4 (R1 ++ R5) Φ2)
  ∧ I0 0 R1 Φ2 k3) ∧ ∀ (n6 : Int) (R7 : List Own) (I8 : List Nat → World → Prop) (k9 : Nat), Stable I8 → I0 n6 R7 I8 k9 → Br (decide (n6 < (↑sN : Int))) ((0 ≤ n6 ∧ n6 < (↑sN : Int)) ∧ ptrK
  none sP fun (k10 k11 : Nat) => ∀ (w12 : World) (R13 : List Own), Ctx W w12 (R7 ++ R13) I8 → ∃ (n14 : Int), ∃ (p15 : Option Addr), ∃ (k16 : Nat), ∃ (k17 : Nat), ∃ (n18 : Int), RowAt w12 k10
  (k11 + n6.toNat * 3) [Value.int IntKind.i64 n14, Value.slice p15 k16 k17, Value.int IntKind.i64 n18] ∧ ∀ (w19 : World) (R20 : List Own), Ctx W w19 (R7 ++ R20) I8 → okFun Try.prog fF = true
  ∧ Calls Try.prog fF (Array.mk (Value.agg #[Value.int IntKind.i64 n14, Value.slice p15 k16 k17, Value.int IntKind.i64 n18] :: fC.toList)) w19 fun (e21 : Ending) (w22 : World) => ∃ (c23 :
  Bool), e21 = Ending.returned (Value.bool c23) ∧ ∃ (R24 : List Own), ∃ (Φ25 : PW), Stable Φ25 ∧ Ctx W w22 (R24 ++ R20) Φ25 ∧ Br c23 (∀ (w26 : World) (R27 : List Own), Ctx W w26 (R24 ++ R27)
  Φ25 → J (Value.int IntKind.i64 n6) w26) (I64 (n6 + 1) ∧ ∃ (R28 : List Own), ∃ (Φ29 : PW), ∃ (k30 : Nat), Stable Φ29 ∧ (∀ (w31 : World) (R32 : List Own), Ctx W w31 (R24 ++ R32) Φ25 → Ctx W
  w31 (R28 ++ R32) Φ29) ∧ I0 (n6 + 1) R28 Φ29 k30 ∧ k30 < k9)) (∀ (w33 : World) (R34 : List Own), Ctx W w33 (R7 ++ R34) I8 → J (Value.int IntKind.i64 (-1)) w33)

theorem Bslices_IndexFunc_api_Delta_api_Delta_run (sP : Option Addr) (sN sC : Nat) (fF : FuncId) (fC : Array Value) {W w : World} {R : List Own} {Φ : PW} [Stable Φ] {J : Value → World → Prop} (c : Ctx W w R Φ) (h : Bslices_IndexFunc_api_Delta_api_Delta sP sN sC fF fC W R Φ J) : Calls Try.prog F.slices_IndexFunc_api_Delta_api_Delta #[.slice sP sN sC, .func (.func fF) #[] fC] w fun e w' => ∃ v, e = .returned v ∧ J v w' :=
  vcFS_sound (H := { keep := some [0, 1, 4, 5, 7, 8, 9, 16], wrap := [16], loops := [(2, [(8, .one (.int .i64))], [])] }) (by rw [show vcFS Try.prog W { keep := some [0, 1, 4, 5, 7, 8, 9, 16], wrap := [16], loops := [(2, [(8, .one (.int .i64))], [])] } F.slices_IndexFunc_api_Delta_api_Delta #[.slice sP sN sC, .func (.func fF) #[] fC] R Φ J = Bslices_IndexFunc_api_Delta_api_Delta sP sN sC fF fC W R Φ J by kernel_rfl]; exact h) c

/-- value.all -/
def Bvalue_all (rP : Option Addr) (rN rC : Nat) (W : World) (R : List Own) (Φ : PW) (J : Value → World → Prop) : Prop :=
  ∀ (w0 : World) (R1 : List Own), Ctx W w0 (R ++ R1) Φ → Calls Try.prog F.slices_ContainsFunc_api_Value_api_Value #[Value.slice rP rN rC, Value.func (Fn.func 44) #[] #[]] w0 fun (e2 : Ending)
  (w3 : World) => ∃ (c4 : Bool), e2 = Ending.returned (Value.bool c4) ∧ ∃ (R5 : List Own), ∃ (Φ6 : PW), Stable Φ6 ∧ Ctx W w3 (R5 ++ R1) Φ6 ∧ ∀ (w7 : World) (R8 : List Own), Ctx W w7 (R5 ++
  R8) Φ6 → J (Value.bool !c4) w7

theorem Bvalue_all_run (rP : Option Addr) (rN rC : Nat) {W w : World} {R : List Own} {Φ : PW} [Stable Φ] {J : Value → World → Prop} (c : Ctx W w R Φ) (h : Bvalue_all rP rN rC W R Φ J) : Calls Try.prog F.value_all #[.slice rP rN rC] w fun e w' => ∃ v, e = .returned v ∧ J v w' :=
  vcFS_sound (H := { keep := some [0, 2] }) (by rw [show vcFS Try.prog W { keep := some [0, 2] } F.value_all #[.slice rP rN rC] R Φ J = Bvalue_all rP rN rC W R Φ J by kernel_rfl]; exact h) c

/-- slices.Clone[[]api.Delta,api.Delta] -/
def Bslices_Clone_api_Delta_api_Delta (sP : Option Addr) (sN sC : Nat) (W : World) (R : List Own) (Φ : PW) (J : Value → World → Prop) : Prop :=
  Br sP.isNone (∀ (w0 : World) (R1 : List Own), Ctx W w0 (R ++ R1) Φ → J (Value.slice none 0 0) w0) (∀ (k2 : Nat) (w3 : World) (R4 : List Own), Ctx W w3 (Own.blk k2 [] 56 :: R ++ R4) Φ → ∃
  (p5 : Option Addr), ∃ (k6 : Nat), ∃ (k7 : Nat), ∃ (w8 : World), Sem.run Try.prog (builtin Builtin.append #[29, 29] 29 #[false, false] #[Value.slice (some (Addr.mk k2 0 none)) 0 0,
  Value.slice sP sN sC]) w3 = Result.ok (Next.value (Value.slice p5 k6 k7)) w8 ∧ ∃ (R9 : List Own), ∃ (Φ10 : PW), Stable Φ10 ∧ Ctx W w8 (R9 ++ R4) Φ10 ∧ ∀ (w11 : World) (R12 : List Own), Ctx
  W w11 (R9 ++ R12) Φ10 → J (Value.slice p5 k6 k7) w11)

theorem Bslices_Clone_api_Delta_api_Delta_run (sP : Option Addr) (sN sC : Nat) {W w : World} {R : List Own} {Φ : PW} [Stable Φ] {J : Value → World → Prop} (c : Ctx W w R Φ) (h : Bslices_Clone_api_Delta_api_Delta sP sN sC W R Φ J) : Calls Try.prog F.slices_Clone_api_Delta_api_Delta #[.slice sP sN sC] w fun e w' => ∃ v, e = .returned v ∧ J v w' :=
  vcFS_sound (H := { keep := some [0, 2, 4] }) (by rw [show vcFS Try.prog W { keep := some [0, 2, 4] } F.slices_Clone_api_Delta_api_Delta #[.slice sP sN sC] R Φ J = Bslices_Clone_api_Delta_api_Delta sP sN sC W R Φ J by kernel_rfl]; exact h) c

/-- slices.Clone[[]api.Value,api.Value] -/
def Bslices_Clone_api_Value_api_Value (sP : Option Addr) (sN sC : Nat) (W : World) (R : List Own) (Φ : PW) (J : Value → World → Prop) : Prop :=
  Br sP.isNone (∀ (w0 : World) (R1 : List Own), Ctx W w0 (R ++ R1) Φ → J (Value.slice none 0 0) w0) (∀ (k2 : Nat) (w3 : World) (R4 : List Own), Ctx W w3 (Own.blk k2 [] 58 :: R ++ R4) Φ → ∃
  (p5 : Option Addr), ∃ (k6 : Nat), ∃ (k7 : Nat), ∃ (w8 : World), Sem.run Try.prog (builtin Builtin.append #[54, 54] 54 #[false, false] #[Value.slice (some (Addr.mk k2 0 none)) 0 0,
  Value.slice sP sN sC]) w3 = Result.ok (Next.value (Value.slice p5 k6 k7)) w8 ∧ ∃ (R9 : List Own), ∃ (Φ10 : PW), Stable Φ10 ∧ Ctx W w8 (R9 ++ R4) Φ10 ∧ ∀ (w11 : World) (R12 : List Own), Ctx
  W w11 (R9 ++ R12) Φ10 → J (Value.slice p5 k6 k7) w11)

theorem Bslices_Clone_api_Value_api_Value_run (sP : Option Addr) (sN sC : Nat) {W w : World} {R : List Own} {Φ : PW} [Stable Φ] {J : Value → World → Prop} (c : Ctx W w R Φ) (h : Bslices_Clone_api_Value_api_Value sP sN sC W R Φ J) : Calls Try.prog F.slices_Clone_api_Value_api_Value #[.slice sP sN sC] w fun e w' => ∃ v, e = .returned v ∧ J v w' :=
  vcFS_sound (H := { keep := some [0, 2, 4] }) (by rw [show vcFS Try.prog W { keep := some [0, 2, 4] } F.slices_Clone_api_Value_api_Value #[.slice sP sN sC] R Φ J = Bslices_Clone_api_Value_api_Value sP sN sC W R Φ J by kernel_rfl]; exact h) c

/-- errataref03.CompareRows -/
-- loop at region 2: 5 i; blocks 
def Berrataref03_CompareRows (aP : Option Addr) (aN aC : Nat) (bP : Option Addr) (bN bC : Nat) (W : World) (R : List Own) (Φ : PW) (J : Value → World → Prop) : Prop :=
  exI fun (I0 : Int → List Own → PW → Nat → Prop) => (∃ (R1 : List Own), ∃ (Φ2 : PW), ∃ (k3 : Nat), Stable Φ2 ∧ (∀ (w4 : World) (R5 : List Own), Ctx W w4 (R ++ R5) Φ → Ctx W w4 (R1 ++ R5) Φ2)
  ∧ I0 0 R1 Φ2 k3) ∧ ∀ (n6 : Int) (R7 : List Own) (I8 : List Nat → World → Prop) (k9 : Nat), Stable I8 → I0 n6 R7 I8 k9 → ∀ (w10 : World) (R11 : List Own), Ctx W w10 (R7 ++ R11) I8 → Br
  (decide (n6 < (↑aN : Int)) && decide (n6 < (↑bN : Int))) (∃ (R12 : List Own), ∃ (Φ13 : PW), Stable Φ13 ∧ (∀ (w14 : World) (R15 : List Own), Ctx W w14 (R7 ++ R15) I8 → Ctx W w14 (R12 ++ R15)
  Φ13) ∧ (0 ≤ n6 ∧ n6 < (↑aN : Int)) ∧ ptrK none aP fun (k16 k17 : Nat) => (0 ≤ n6 ∧ n6 < (↑bN : Int)) ∧ ptrK none bP fun (k18 k19 : Nat) => ∀ (w20 : World) (R21 : List Own), Ctx W w20 (R7 ++
  R21) I8 → ∃ (n22 : Int), ∃ (n23 : Int), ∃ (s24 : ByteArray), RowAt w20 k16 (k17 + n6.toNat * 3) [Value.int IntKind.i64 n22, Value.int IntKind.i64 n23, Value.string s24] ∧ ∀ (w25 : World)
  (R26 : List Own), Ctx W w25 (R7 ++ R26) I8 → ∃ (n27 : Int), ∃ (n28 : Int), ∃ (s29 : ByteArray), RowAt w25 k18 (k19 + n6.toNat * 3) [Value.int IntKind.i64 n27, Value.int IntKind.i64 n28,
  Value.string s29] ∧ ∀ (w30 : World) (R31 : List Own), Ctx W w30 (R7 ++ R31) I8 → Calls Try.prog F.errataref03_Compare #[Value.agg #[Value.int IntKind.i64 n22, Value.int IntKind.i64 n23,
  Value.string s24], Value.agg #[Value.int IntKind.i64 n27, Value.int IntKind.i64 n28, Value.string s29]] w30 fun (e32 : Ending) (w33 : World) => ∃ (n34 : Int), e32 = Ending.returned
  (Value.int IntKind.i64 n34) ∧ ∃ (R35 : List Own), ∃ (Φ36 : PW), Stable Φ36 ∧ Ctx W w33 (R35 ++ R31) Φ36 ∧ (∀ (w37 : World) (R38 : List Own), Ctx W w37 (R35 ++ R38) Φ36 → Ctx W w37 (R12 ++
  R38) Φ13) ∧ Br (decide (n34 ≠ 0)) (∀ (w39 : World) (R40 : List Own), Ctx W w39 (R35 ++ R40) Φ36 → J (Value.int IntKind.i64 n34) w39) (I64 (n6 + 1) ∧ ∃ (R41 : List Own), ∃ (Φ42 : PW), ∃ (k43
  : Nat), Stable Φ42 ∧ (∀ (w44 : World) (R45 : List Own), Ctx W w44 (R35 ++ R45) Φ36 → Ctx W w44 (R41 ++ R45) Φ42) ∧ I0 (n6 + 1) R41 Φ42 k43 ∧ k43 < k9)) (Br (decide ((↑aN : Int) < (↑bN :
  Int))) (∀ (w46 : World) (R47 : List Own), Ctx W w46 (R7 ++ R47) I8 → J (Value.int IntKind.i64 (-1)) w46) (Br (decide ((↑bN : Int) < (↑aN : Int))) (∀ (w48 : World) (R49 : List Own), Ctx W
  w48 (R7 ++ R49) I8 → J (Value.int IntKind.i64 1) w48) (∀ (w50 : World) (R51 : List Own), Ctx W w50 (R7 ++ R51) I8 → J (Value.int IntKind.i64 0) w50)))

theorem Berrataref03_CompareRows_run (aP : Option Addr) (aN aC : Nat) (bP : Option Addr) (bN bC : Nat) {W w : World} {R : List Own} {Φ : PW} [Stable Φ] {J : Value → World → Prop} (c : Ctx W w R Φ) (h : Berrataref03_CompareRows aP aN aC bP bN bC W R Φ J) : Calls Try.prog F.errataref03_CompareRows #[.slice aP aN aC, .slice bP bN bC] w fun e w' => ∃ v, e = .returned v ∧ J v w' :=
  vcFS_sound (H := { keep := some [0, 1, 4, 5, 6, 16, 29, 35, 40], stages := [(4, [.late [3, 7] [0, 1, 4, 5, 2, 6, 3, 7] [(8, [9])]])], loops := [(2, [(5, .one (.int .i64))], [])] }) (by rw [show vcFS Try.prog W { keep := some [0, 1, 4, 5, 6, 16, 29, 35, 40], stages := [(4, [.late [3, 7] [0, 1, 4, 5, 2, 6, 3, 7] [(8, [9])]])], loops := [(2, [(5, .one (.int .i64))], [])] } F.errataref03_CompareRows #[.slice aP aN aC, .slice bP bN bC] R Φ J = Berrataref03_CompareRows aP aN aC bP bN bC W R Φ J by kernel_rfl]; exact h) c

/-- errataref28.Compare -/
-- known blocks: 2 a, 3 b
def Berrataref28_Compare (a0 : Int) (a1P : Option Addr) (a1N a1C : Nat) (a2 : Int) (b0 : Int) (b1P : Option Addr) (b1N b1C : Nat) (b2 : Int) (W : World) (R : List Own) (Φ : PW) (J : Value → World → Prop) : Prop :=
  ∀ (b b : Nat), Br (decide (a0 < b0)) (∀ (w0 : World) (R1 : List Own), Ctx W w0 (R ++ R1) Φ → J (Value.int IntKind.i64 (-1)) w0) (Br (decide (b0 < a0)) (∀ (w2 : World) (R3 : List Own), Ctx W
  w2 (R ++ R3) Φ → J (Value.int IntKind.i64 1) w2) (∀ (w4 : World) (R5 : List Own), Ctx W w4 (R ++ R5) Φ → Calls Try.prog F.errataref03_CompareRows #[Value.slice a1P a1N a1C, Value.slice b1P
  b1N b1C] w4 fun (e6 : Ending) (w7 : World) => ∃ (n8 : Int), e6 = Ending.returned (Value.int IntKind.i64 n8) ∧ ∃ (R9 : List Own), ∃ (Φ10 : PW), Stable Φ10 ∧ Ctx W w7 (R9 ++ R5) Φ10 ∧ ∀ (w11
  : World) (R12 : List Own), Ctx W w11 (R9 ++ R12) Φ10 → J (Value.int IntKind.i64 n8) w11))

theorem Berrataref28_Compare_run (a0 : Int) (a1P : Option Addr) (a1N a1C : Nat) (a2 : Int) (b0 : Int) (b1P : Option Addr) (b1N b1C : Nat) (b2 : Int) {W w : World} {R : List Own} {Φ : PW} [Stable Φ] {J : Value → World → Prop} (c : Ctx W w R Φ) (h : Berrataref28_Compare a0 a1P a1N a1C a2 b0 b1P b1N b1C b2 W R Φ J) : Calls Try.prog F.errataref28_Compare #[.agg #[.int .i64 a0, .slice a1P a1N a1C, .int .i64 a2], .agg #[.int .i64 b0, .slice b1P b1N b1C, .int .i64 b2]] w fun e w' => ∃ v, e = .returned v ∧ J v w' :=
  vcFS_sound (H := { keep := some [2, 3, 4, 9, 14], track := [2, 3] }) (by rw [show vcFS Try.prog W { keep := some [2, 3, 4, 9, 14], track := [2, 3] } F.errataref28_Compare #[.agg #[.int .i64 a0, .slice a1P a1N a1C, .int .i64 a2], .agg #[.int .i64 b0, .slice b1P b1N b1C, .int .i64 b2]] R Φ J = Berrataref28_Compare a0 a1P a1N a1C a2 b0 b1P b1N b1C b2 W R Φ J by kernel_rfl]; exact h) c

/-- errataref03.All -/
-- loop at region 2: 3 i; blocks 
def Berrataref03_All (rP : Option Addr) (rN rC : Nat) (W : World) (R : List Own) (Φ : PW) (J : Value → World → Prop) : Prop :=
  exI fun (I0 : Int → List Own → PW → Nat → Prop) => (∃ (R1 : List Own), ∃ (Φ2 : PW), ∃ (k3 : Nat), Stable Φ2 ∧ (∀ (w4 : World) (R5 : List Own), Ctx W w4 (R ++ R5) Φ → Ctx W w4 (R1 ++ R5) Φ2)
  ∧ I0 0 R1 Φ2 k3) ∧ ∀ (n6 : Int) (R7 : List Own) (I8 : List Nat → World → Prop) (k9 : Nat), Stable I8 → I0 n6 R7 I8 k9 → Br (decide (n6 < (↑rN : Int))) ((0 ≤ n6 ∧ n6 < (↑rN : Int)) ∧ ptrK
  none rP fun (k10 k11 : Nat) => ∀ (w12 : World) (R13 : List Own), Ctx W w12 (R7 ++ R13) I8 → ∃ (n14 : Int), ∃ (n15 : Int), ∃ (s16 : ByteArray), RowAt w12 k10 (k11 + n6.toNat * 3) [Value.int
  IntKind.i64 n14, Value.int IntKind.i64 n15, Value.string s16] ∧ ∀ (w17 : World) (R18 : List Own), Ctx W w17 (R7 ++ R18) I8 → Calls Try.prog F.errataref03_Right #[Value.agg #[Value.int
  IntKind.i64 n14, Value.int IntKind.i64 n15, Value.string s16]] w17 fun (e19 : Ending) (w20 : World) => ∃ (c21 : Bool), e19 = Ending.returned (Value.bool c21) ∧ ∃ (R22 : List Own), ∃ (Φ23 :
  PW), Stable Φ23 ∧ Ctx W w20 (R22 ++ R18) Φ23 ∧ Br (!c21) (∀ (w24 : World) (R25 : List Own), Ctx W w24 (R22 ++ R25) Φ23 → J (Value.bool false) w24) (I64 (n6 + 1) ∧ ∃ (R26 : List Own), ∃ (Φ27
  : PW), ∃ (k28 : Nat), Stable Φ27 ∧ (∀ (w29 : World) (R30 : List Own), Ctx W w29 (R22 ++ R30) Φ23 → Ctx W w29 (R26 ++ R30) Φ27) ∧ I0 (n6 + 1) R26 Φ27 k28 ∧ k28 < k9)) (∀ (w31 : World) (R32 :
  List Own), Ctx W w31 (R7 ++ R32) I8 → J (Value.bool true) w31)

theorem Berrataref03_All_run (rP : Option Addr) (rN rC : Nat) {W w : World} {R : List Own} {Φ : PW} [Stable Φ] {J : Value → World → Prop} (c : Ctx W w R Φ) (h : Berrataref03_All rP rN rC W R Φ J) : Calls Try.prog F.errataref03_All #[.slice rP rN rC] w fun e w' => ∃ v, e = .returned v ∧ J v w' :=
  vcFS_sound (H := { keep := some [0, 2, 3, 7, 15], loops := [(2, [(3, .one (.int .i64))], [])] }) (by rw [show vcFS Try.prog W { keep := some [0, 2, 3, 7, 15], loops := [(2, [(3, .one (.int .i64))], [])] } F.errataref03_All #[.slice rP rN rC] R Φ J = Berrataref03_All rP rN rC W R Φ J by kernel_rfl]; exact h) c

/-- cmp.Or[int] -/
-- loop at region 3: 8 ; blocks 
def Bcmp_Or_int (valsP : Option Addr) (valsN valsC : Nat) (W : World) (R : List Own) (Φ : PW) (J : Value → World → Prop) : Prop :=
  exI fun (I0 : Int → List Own → PW → Nat → Prop) => (∃ (R1 : List Own), ∃ (Φ2 : PW), ∃ (k3 : Nat), Stable Φ2 ∧ (∀ (w4 : World) (R5 : List Own), Ctx W w4 (R ++ R5) Φ → Ctx W w4 (R1 ++ R5) Φ2)
  ∧ I0 0 R1 Φ2 k3) ∧ ∀ (n6 : Int) (R7 : List Own) (I8 : List Nat → World → Prop) (k9 : Nat), Stable I8 → I0 n6 R7 I8 k9 → Br (decide (n6 < (↑valsN : Int))) ((0 ≤ n6 ∧ n6 < (↑valsN : Int)) ∧
  ptrK none valsP fun (k10 k11 : Nat) => ∀ (w12 : World) (R13 : List Own), Ctx W w12 (R7 ++ R13) I8 → ∃ (n14 : Int), w12.cell? (Addr.mk k10 (k11 + n6.toNat) none) = some (Value.int
  IntKind.i64 n14) ∧ Br (decide (n14 ≠ 0)) (∀ (w15 : World) (R16 : List Own), Ctx W w15 (R7 ++ R16) I8 → J (Value.int IntKind.i64 n14) w15) (I64 (n6 + 1) ∧ ∃ (R17 : List Own), ∃ (Φ18 : PW), ∃
  (k19 : Nat), Stable Φ18 ∧ (∀ (w20 : World) (R21 : List Own), Ctx W w20 (R7 ++ R21) I8 → Ctx W w20 (R17 ++ R21) Φ18) ∧ I0 (n6 + 1) R17 Φ18 k19 ∧ k19 < k9)) (∀ (w22 : World) (R23 : List Own),
  Ctx W w22 (R7 ++ R23) I8 → J (Value.int IntKind.i64 0) w22)

theorem Bcmp_Or_int_run (valsP : Option Addr) (valsN valsC : Nat) {W w : World} {R : List Own} {Φ : PW} [Stable Φ] {J : Value → World → Prop} (c : Ctx W w R Φ) (h : Bcmp_Or_int valsP valsN valsC W R Φ J) : Calls Try.prog F.cmp_Or_int #[.slice valsP valsN valsC] w fun e w' => ∃ v, e = .returned v ∧ J v w' :=
  vcFS_sound (H := { keep := some [0, 2, 3, 5, 6, 7, 8, 9, 14], loops := [(3, [(8, .one (.int .i64))], [])] }) (by rw [show vcFS Try.prog W { keep := some [0, 2, 3, 5, 6, 7, 8, 9, 14], loops := [(3, [(8, .one (.int .i64))], [])] } F.cmp_Or_int #[.slice valsP valsN valsC] R Φ J = Bcmp_Or_int valsP valsN valsC W R Φ J by kernel_rfl]; exact h) c

/-- cmp.Compare[int] -/
def Bcmp_Compare_int (x : Int) (y : Int) (W : World) (R : List Own) (Φ : PW) (J : Value → World → Prop) : Prop :=
  ∀ (w0 : World) (R1 : List Own), Ctx W w0 (R ++ R1) Φ → Calls Try.prog F.cmp_isNaN_int #[Value.int IntKind.i64 x] w0 fun (e2 : Ending) (w3 : World) => ∃ (c4 : Bool), e2 = Ending.returned
  (Value.bool c4) ∧ ∃ (R5 : List Own), ∃ (Φ6 : PW), Stable Φ6 ∧ Ctx W w3 (R5 ++ R1) Φ6 ∧ ∀ (w7 : World) (R8 : List Own), Ctx W w7 (R5 ++ R8) Φ6 → Calls Try.prog F.cmp_isNaN_int #[Value.int
  IntKind.i64 y] w7 fun (e9 : Ending) (w10 : World) => ∃ (c11 : Bool), e9 = Ending.returned (Value.bool c11) ∧ ∃ (R12 : List Own), ∃ (Φ13 : PW), Stable Φ13 ∧ Ctx W w10 (R12 ++ R8) Φ13 ∧ Br c4
  (Br c11 (∀ (w14 : World) (R15 : List Own), Ctx W w14 (R12 ++ R15) Φ13 → J (Value.int IntKind.i64 0) w14) (∀ (w16 : World) (R17 : List Own), Ctx W w16 (R12 ++ R17) Φ13 → J (Value.int
  IntKind.i64 (-1)) w16)) (Br c11 (∀ (w18 : World) (R19 : List Own), Ctx W w18 (R12 ++ R19) Φ13 → J (Value.int IntKind.i64 1) w18) (Br (decide (x < y)) (∀ (w20 : World) (R21 : List Own), Ctx
  W w20 (R12 ++ R21) Φ13 → J (Value.int IntKind.i64 (-1)) w20) (Br (decide (y < x)) (∀ (w22 : World) (R23 : List Own), Ctx W w22 (R12 ++ R23) Φ13 → J (Value.int IntKind.i64 1) w22) (∀ (w24 :
  World) (R25 : List Own), Ctx W w24 (R12 ++ R25) Φ13 → J (Value.int IntKind.i64 0) w24))))

theorem Bcmp_Compare_int_run (x : Int) (y : Int) {W w : World} {R : List Own} {Φ : PW} [Stable Φ] {J : Value → World → Prop} (c : Ctx W w R Φ) (h : Bcmp_Compare_int x y W R Φ J) : Calls Try.prog F.cmp_Compare_int #[.int .i64 x, .int .i64 y] w fun e w' => ∃ v, e = .returned v ∧ J v w' :=
  vcFS_sound (H := { keep := some [0, 1, 4, 5, 6, 11, 12, 13, 16, 19] }) (by rw [show vcFS Try.prog W { keep := some [0, 1, 4, 5, 6, 11, 12, 13, 16, 19] } F.cmp_Compare_int #[.int .i64 x, .int .i64 y] R Φ J = Bcmp_Compare_int x y W R Φ J by kernel_rfl]; exact h) c

/-- value.CompareRows -/
def Bvalue_CompareRows (aP : Option Addr) (aN aC : Nat) (bP : Option Addr) (bN bC : Nat) (W : World) (R : List Own) (Φ : PW) (J : Value → World → Prop) : Prop :=
  ∀ (w0 : World) (R1 : List Own), Ctx W w0 (R ++ R1) Φ → Calls Try.prog F.slices_CompareFunc_api_Value__api_Value_api_Value_api_Value #[Value.slice aP aN aC, Value.slice bP bN bC, Value.func
  (Fn.func 50) #[] #[]] w0 fun (e2 : Ending) (w3 : World) => ∃ (n4 : Int), e2 = Ending.returned (Value.int IntKind.i64 n4) ∧ ∃ (R5 : List Own), ∃ (Φ6 : PW), Stable Φ6 ∧ Ctx W w3 (R5 ++ R1) Φ6
  ∧ ∀ (w7 : World) (R8 : List Own), Ctx W w7 (R5 ++ R8) Φ6 → J (Value.int IntKind.i64 n4) w7

theorem Bvalue_CompareRows_run (aP : Option Addr) (aN aC : Nat) (bP : Option Addr) (bN bC : Nat) {W w : World} {R : List Own} {Φ : PW} [Stable Φ] {J : Value → World → Prop} (c : Ctx W w R Φ) (h : Bvalue_CompareRows aP aN aC bP bN bC W R Φ J) : Calls Try.prog F.value_CompareRows #[.slice aP aN aC, .slice bP bN bC] w fun e w' => ∃ v, e = .returned v ∧ J v w' :=
  vcFS_sound (H := { keep := some [0, 1, 4] }) (by rw [show vcFS Try.prog W { keep := some [0, 1, 4] } F.value_CompareRows #[.slice aP aN aC, .slice bP bN bC] R Φ J = Bvalue_CompareRows aP aN aC bP bN bC W R Φ J by kernel_rfl]; exact h) c

/-- slices.ContainsFunc[[]api.Value,api.Value] -/
def Bslices_ContainsFunc_api_Value_api_Value (sP : Option Addr) (sN sC : Nat) (fF : FuncId) (fC : Array Value) (W : World) (R : List Own) (Φ : PW) (J : Value → World → Prop) : Prop :=
  ∀ (w0 : World) (R1 : List Own), Ctx W w0 (R ++ R1) Φ → Calls Try.prog F.slices_IndexFunc_api_Value_api_Value #[Value.slice sP sN sC, Value.func (Fn.func fF) #[] fC] w0 fun (e2 : Ending) (w3
  : World) => ∃ (n4 : Int), e2 = Ending.returned (Value.int IntKind.i64 n4) ∧ ∃ (R5 : List Own), ∃ (Φ6 : PW), Stable Φ6 ∧ Ctx W w3 (R5 ++ R1) Φ6 ∧ ∀ (w7 : World) (R8 : List Own), Ctx W w7 (R5
  ++ R8) Φ6 → J (Value.bool (decide (0 ≤ n4))) w7

theorem Bslices_ContainsFunc_api_Value_api_Value_run (sP : Option Addr) (sN sC : Nat) (fF : FuncId) (fC : Array Value) {W w : World} {R : List Own} {Φ : PW} [Stable Φ] {J : Value → World → Prop} (c : Ctx W w R Φ) (h : Bslices_ContainsFunc_api_Value_api_Value sP sN sC fF fC W R Φ J) : Calls Try.prog F.slices_ContainsFunc_api_Value_api_Value #[.slice sP sN sC, .func (.func fF) #[] fC] w fun e w' => ∃ v, e = .returned v ∧ J v w' :=
  vcFS_sound (H := { keep := some [0, 1, 4] }) (by rw [show vcFS Try.prog W { keep := some [0, 1, 4] } F.slices_ContainsFunc_api_Value_api_Value #[.slice sP sN sC, .func (.func fF) #[] fC] R Φ J = Bslices_ContainsFunc_api_Value_api_Value sP sN sC fF fC W R Φ J by kernel_rfl]; exact h) c

/-- value.all$1 -/
-- known blocks: 1 v
def Bvalue_all_1 (v0 : Int) (v1 : Int) (v2 : ByteArray) (W : World) (R : List Own) (Φ : PW) (J : Value → World → Prop) : Prop :=
  ∀ (b : Nat) (w0 : World) (R1 : List Own), Ctx W w0 (R ++ R1) Φ → Calls Try.prog F.value_Right #[Value.agg #[Value.int IntKind.i64 v0, Value.int IntKind.i64 v1, Value.string v2]] w0 fun (e2
  : Ending) (w3 : World) => ∃ (c4 : Bool), e2 = Ending.returned (Value.bool c4) ∧ ∃ (R5 : List Own), ∃ (Φ6 : PW), Stable Φ6 ∧ Ctx W w3 (R5 ++ R1) Φ6 ∧ ∀ (w7 : World) (R8 : List Own), Ctx W w7
  (R5 ++ R8) Φ6 → J (Value.bool !c4) w7

theorem Bvalue_all_1_run (v0 : Int) (v1 : Int) (v2 : ByteArray) {W w : World} {R : List Own} {Φ : PW} [Stable Φ] {J : Value → World → Prop} (c : Ctx W w R Φ) (h : Bvalue_all_1 v0 v1 v2 W R Φ J) : Calls Try.prog F.value_all_1 #[.agg #[.int .i64 v0, .int .i64 v1, .string v2]] w fun e w' => ∃ v, e = .returned v ∧ J v w' :=
  vcFS_sound (H := { keep := some [1, 2], track := [1] }) (by rw [show vcFS Try.prog W { keep := some [1, 2], track := [1] } F.value_all_1 #[.agg #[.int .i64 v0, .int .i64 v1, .string v2]] R Φ J = Bvalue_all_1 v0 v1 v2 W R Φ J by kernel_rfl]; exact h) c

/-- value.Right -/
-- known blocks: 1 v
def Bvalue_Right (v0 : Int) (v1 : Int) (v2 : ByteArray) (W : World) (R : List Own) (Φ : PW) (J : Value → World → Prop) : Prop :=
  ∀ (b : Nat), Br (decide (v0 = 0)) (∃ (R0 : List Own), ∃ (Φ1 : PW), Stable Φ1 ∧ (∀ (w2 : World) (R3 : List Own), Ctx W w2 (R ++ R3) Φ → Ctx W w2 (R0 ++ R3) Φ1) ∧ ∀ (w4 : World) (R5 : List
  Own), Ctx W w4 (R ++ R5) Φ → Calls Try.prog F.value_Int #[Value.int IntKind.i64 v1] w4 fun (e6 : Ending) (w7 : World) => ∃ (n8 : Int), ∃ (n9 : Int), ∃ (s10 : ByteArray), e6 =
  Ending.returned (Value.agg #[Value.int IntKind.i64 n8, Value.int IntKind.i64 n9, Value.string s10]) ∧ ∃ (R11 : List Own), ∃ (Φ12 : PW), Stable Φ12 ∧ Ctx W w7 (R11 ++ R5) Φ12 ∧ (∀ (w13 :
  World) (R14 : List Own), Ctx W w13 (R11 ++ R14) Φ12 → Ctx W w13 (R0 ++ R14) Φ1) ∧ okAgg Try.prog 58 = true ∧ ∀ (w15 : World) (R16 : List Own), Ctx W w15 (R11 ++ R16) Φ12 → J (Value.bool
  (decide (v0 = n8) && (decide (v1 = n9) && (decide (v2 = s10) && true)))) w15) (Br (decide (v0 = 1)) (∃ (R17 : List Own), ∃ (Φ18 : PW), Stable Φ18 ∧ (∀ (w19 : World) (R20 : List Own), Ctx W
  w19 (R ++ R20) Φ → Ctx W w19 (R17 ++ R20) Φ18) ∧ ∀ (w21 : World) (R22 : List Own), Ctx W w21 (R ++ R22) Φ → Calls Try.prog F.value_Text #[Value.string v2] w21 fun (e23 : Ending) (w24 :
  World) => ∃ (n25 : Int), ∃ (n26 : Int), ∃ (s27 : ByteArray), e23 = Ending.returned (Value.agg #[Value.int IntKind.i64 n25, Value.int IntKind.i64 n26, Value.string s27]) ∧ ∃ (R28 : List
  Own), ∃ (Φ29 : PW), Stable Φ29 ∧ Ctx W w24 (R28 ++ R22) Φ29 ∧ (∀ (w30 : World) (R31 : List Own), Ctx W w30 (R28 ++ R31) Φ29 → Ctx W w30 (R17 ++ R31) Φ18) ∧ okAgg Try.prog 58 = true ∧ Br
  (decide (v0 = n25) && (decide (v1 = n26) && (decide (v2 = s27) && true))) (∀ (w32 : World) (R33 : List Own), Ctx W w32 (R28 ++ R33) Φ29 → J (Value.bool (decide ((↑v2.size : Int) ≤ 200)))
  w32) (∀ (w34 : World) (R35 : List Own), Ctx W w34 (R28 ++ R35) Φ29 → J (Value.bool false) w34)) (∃ (R36 : List Own), ∃ (Φ37 : PW), Stable Φ37 ∧ (∀ (w38 : World) (R39 : List Own), Ctx W w38
  (R ++ R39) Φ → Ctx W w38 (R36 ++ R39) Φ37) ∧ ∀ (w40 : World) (R41 : List Own), Ctx W w40 (R ++ R41) Φ → Calls Try.prog F.value_Bool #[Value.bool false] w40 fun (e42 : Ending) (w43 : World)
  => ∃ (n44 : Int), ∃ (n45 : Int), ∃ (s46 : ByteArray), e42 = Ending.returned (Value.agg #[Value.int IntKind.i64 n44, Value.int IntKind.i64 n45, Value.string s46]) ∧ ∃ (R47 : List Own), ∃
  (Φ48 : PW), Stable Φ48 ∧ Ctx W w43 (R47 ++ R41) Φ48 ∧ (∀ (w49 : World) (R50 : List Own), Ctx W w49 (R47 ++ R50) Φ48 → Ctx W w49 (R36 ++ R50) Φ37) ∧ okAgg Try.prog 58 = true ∧ Br (decide (v0
  = n44) && (decide (v1 = n45) && (decide (v2 = s46) && true))) (∀ (w51 : World) (R52 : List Own), Ctx W w51 (R47 ++ R52) Φ48 → J (Value.bool true) w51) (∀ (w53 : World) (R54 : List Own), Ctx
  W w53 (R47 ++ R54) Φ48 → Calls Try.prog F.value_Bool #[Value.bool true] w53 fun (e55 : Ending) (w56 : World) => ∃ (n57 : Int), ∃ (n58 : Int), ∃ (s59 : ByteArray), e55 = Ending.returned
  (Value.agg #[Value.int IntKind.i64 n57, Value.int IntKind.i64 n58, Value.string s59]) ∧ ∃ (R60 : List Own), ∃ (Φ61 : PW), Stable Φ61 ∧ Ctx W w56 (R60 ++ R54) Φ61 ∧ (∀ (w62 : World) (R63 :
  List Own), Ctx W w62 (R60 ++ R63) Φ61 → Ctx W w62 (R36 ++ R63) Φ37) ∧ okAgg Try.prog 58 = true ∧ ∀ (w64 : World) (R65 : List Own), Ctx W w64 (R60 ++ R65) Φ61 → J (Value.bool (decide (v0 =
  n57) && (decide (v1 = n58) && (decide (v2 = s59) && true)))) w64)))

theorem Bvalue_Right_run (v0 : Int) (v1 : Int) (v2 : ByteArray) {W w : World} {R : List Own} {Φ : PW} [Stable Φ] {J : Value → World → Prop} (c : Ctx W w R Φ) (h : Bvalue_Right v0 v1 v2 W R Φ J) : Calls Try.prog F.value_Right #[.agg #[.int .i64 v0, .int .i64 v1, .string v2]] w fun e w' => ∃ v, e = .returned v ∧ J v w' :=
  vcFS_sound (H := { keep := some [1, 2, 4, 5, 12], track := [1], stages := [(3, [.held [(0, true), (1, true), (2, true), (3, false), (4, true), (5, true)]]), (5, [.held [(0, true), (1, true), (2, true), (3, false), (4, true), (5, true), (6, true), (7, true), (8, true), (9, true), (10, true), (11, true)]]), (6, [.held [(0, true), (1, false), (2, true), (3, true), (4, true), (5, false), (6, true), (7, true), (8, true)]])] }) (by rw [show vcFS Try.prog W { keep := some [1, 2, 4, 5, 12], track := [1], stages := [(3, [.held [(0, true), (1, true), (2, true), (3, false), (4, true), (5, true)]]), (5, [.held [(0, true), (1, true), (2, true), (3, false), (4, true), (5, true), (6, true), (7, true), (8, true), (9, true), (10, true), (11, true)]]), (6, [.held [(0, true), (1, false), (2, true), (3, true), (4, true), (5, false), (6, true), (7, true), (8, true)]])] } F.value_Right #[.agg #[.int .i64 v0, .int .i64 v1, .string v2]] R Φ J = Bvalue_Right v0 v1 v2 W R Φ J by kernel_rfl]; exact h) c

/-- errataref03.Compare -/
-- known blocks: 2 a, 3 b
def Berrataref03_Compare (a0 : Int) (a1 : Int) (a2 : ByteArray) (b0 : Int) (b1 : Int) (b2 : ByteArray) (W : World) (R : List Own) (Φ : PW) (J : Value → World → Prop) : Prop :=
  ∀ (b b : Nat), Br (decide (a0 < b0)) (∀ (w0 : World) (R1 : List Own), Ctx W w0 (R ++ R1) Φ → J (Value.int IntKind.i64 (-1)) w0) (Br (decide (b0 < a0)) (∀ (w2 : World) (R3 : List Own), Ctx W
  w2 (R ++ R3) Φ → J (Value.int IntKind.i64 1) w2) (Br (decide (a1 < b1)) (∀ (w4 : World) (R5 : List Own), Ctx W w4 (R ++ R5) Φ → J (Value.int IntKind.i64 (-1)) w4) (Br (decide (b1 < a1)) (∀
  (w6 : World) (R7 : List Own), Ctx W w6 (R ++ R7) Φ → J (Value.int IntKind.i64 1) w6) (Br (Op.bytesLess (ByteArray.toList.loop a2 0 []) (ByteArray.toList.loop b2 0 [])) (∀ (w8 : World) (R9 :
  List Own), Ctx W w8 (R ++ R9) Φ → J (Value.int IntKind.i64 (-1)) w8) (∃ (c10 : Bool), (∀ (w11 : World), Sem.run Try.prog (binOp BinOp.gtr 9 (Value.string a2) (Value.string b2)) w11 =
  Result.ok (Value.bool c10) w11) ∧ Br c10 (∀ (w12 : World) (R13 : List Own), Ctx W w12 (R ++ R13) Φ → J (Value.int IntKind.i64 1) w12) (∀ (w14 : World) (R15 : List Own), Ctx W w14 (R ++ R15)
  Φ → J (Value.int IntKind.i64 0) w14))))))

theorem Berrataref03_Compare_run (a0 : Int) (a1 : Int) (a2 : ByteArray) (b0 : Int) (b1 : Int) (b2 : ByteArray) {W w : World} {R : List Own} {Φ : PW} [Stable Φ] {J : Value → World → Prop} (c : Ctx W w R Φ) (h : Berrataref03_Compare a0 a1 a2 b0 b1 b2 W R Φ J) : Calls Try.prog F.errataref03_Compare #[.agg #[.int .i64 a0, .int .i64 a1, .string a2], .agg #[.int .i64 b0, .int .i64 b1, .string b2]] w fun e w' => ∃ v, e = .returned v ∧ J v w' :=
  vcFS_sound (H := { keep := some [2, 3, 4, 9, 14, 19, 24, 29, 34], track := [2, 3] }) (by rw [show vcFS Try.prog W { keep := some [2, 3, 4, 9, 14, 19, 24, 29, 34], track := [2, 3] } F.errataref03_Compare #[.agg #[.int .i64 a0, .int .i64 a1, .string a2], .agg #[.int .i64 b0, .int .i64 b1, .string b2]] R Φ J = Berrataref03_Compare a0 a1 a2 b0 b1 b2 W R Φ J by kernel_rfl]; exact h) c

/-- errataref03.Right -/
-- known blocks: 1 v
def Berrataref03_Right (v0 : Int) (v1 : Int) (v2 : ByteArray) (W : World) (R : List Own) (Φ : PW) (J : Value → World → Prop) : Prop :=
  ∀ (b : Nat), Br (decide (v0 = 0)) (∀ (w0 : World) (R1 : List Own), Ctx W w0 (R ++ R1) Φ → J (Value.bool (decide (v2 = ByteArray.mk #[]))) w0) (Br (decide (v0 = 1)) (∀ (w2 : World) (R3 :
  List Own), Ctx W w2 (R ++ R3) Φ → ∀ (w4 : World) (R5 : List Own), Ctx W w4 (R ++ R5) Φ → J (Value.bool (decide (v1 = 0) && decide ((↑v2.size : Int) ≤ 200))) w4) (∀ (w6 : World) (R7 : List
  Own), Ctx W w6 (R ++ R7) Φ → ∀ (w8 : World) (R9 : List Own), Ctx W w8 (R ++ R9) Φ → J (Value.bool (decide (v0 = 2) && (decide (v1 = 0) || decide (v1 = 1)) && decide (v2 = ByteArray.mk
  #[]))) w8))

theorem Berrataref03_Right_run (v0 : Int) (v1 : Int) (v2 : ByteArray) {W w : World} {R : List Own} {Φ : PW} [Stable Φ] {J : Value → World → Prop} (c : Ctx W w R Φ) (h : Berrataref03_Right v0 v1 v2 W R Φ J) : Calls Try.prog F.errataref03_Right #[.agg #[.int .i64 v0, .int .i64 v1, .string v2]] w fun e w' => ∃ v, e = .returned v ∧ J v w' :=
  vcFS_sound (H := { keep := some [1, 2, 5, 11], track := [1] }) (by rw [show vcFS Try.prog W { keep := some [1, 2, 5, 11], track := [1] } F.errataref03_Right #[.agg #[.int .i64 v0, .int .i64 v1, .string v2]] R Φ J = Berrataref03_Right v0 v1 v2 W R Φ J by kernel_rfl]; exact h) c

/-- cmp.isNaN[int] -/
def Bcmp_isNaN_int (x : Int) (W : World) (R : List Own) (Φ : PW) (J : Value → World → Prop) : Prop :=
  ∀ (w0 : World) (R1 : List Own), Ctx W w0 (R ++ R1) Φ → J (Value.bool (decide (x ≠ x))) w0

theorem Bcmp_isNaN_int_run (x : Int) {W w : World} {R : List Own} {Φ : PW} [Stable Φ] {J : Value → World → Prop} (c : Ctx W w R Φ) (h : Bcmp_isNaN_int x W R Φ J) : Calls Try.prog F.cmp_isNaN_int #[.int .i64 x] w fun e w' => ∃ v, e = .returned v ∧ J v w' :=
  vcFS_sound (H := { keep := some [0, 2] }) (by rw [show vcFS Try.prog W { keep := some [0, 2] } F.cmp_isNaN_int #[.int .i64 x] R Φ J = Bcmp_isNaN_int x W R Φ J by kernel_rfl]; exact h) c

/-- slices.CompareFunc[[]api.Value,[]api.Value,api.Value,api.Value] -/
-- loop at region 2: 13 ; blocks 
-- known blocks: 8 v1, 9 v2
def Bslices_CompareFunc_api_Value__api_Value_api_Value_api_Value (s1P : Option Addr) (s1N s1C : Nat) (s2P : Option Addr) (s2N s2C : Nat) (cmpF : FuncId) (cmpC : Array Value) (W : World) (R : List Own) (Φ : PW) (J : Value → World → Prop) : Prop :=
  exI fun (I0 : Int → List Own → PW → Nat → Prop) => (∃ (R1 : List Own), ∃ (Φ2 : PW), ∃ (k3 : Nat), Stable Φ2 ∧ (∀ (w4 : World) (R5 : List Own), Ctx W w4 (R ++ R5) Φ → Ctx W w4 (R1 ++ R5) Φ2)
  ∧ I0 0 R1 Φ2 k3) ∧ ∀ (n6 : Int) (R7 : List Own) (I8 : List Nat → World → Prop) (k9 : Nat), Stable I8 → I0 n6 R7 I8 k9 → Br (decide (n6 < (↑s1N : Int))) ((0 ≤ n6 ∧ n6 < (↑s1N : Int)) ∧ ptrK
  none s1P fun (k10 k11 : Nat) => ∀ (w12 : World) (R13 : List Own), Ctx W w12 (R7 ++ R13) I8 → ∃ (n14 : Int), ∃ (n15 : Int), ∃ (s16 : ByteArray), RowAt w12 k10 (k11 + n6.toNat * 3) [Value.int
  IntKind.i64 n14, Value.int IntKind.i64 n15, Value.string s16] ∧ ∀ (b : Nat), Br (decide ((↑s2N : Int) ≤ n6)) (∀ (w17 : World) (R18 : List Own), Ctx W w17 (R7 ++ R18) I8 → J (Value.int
  IntKind.i64 1) w17) ((0 ≤ n6 ∧ n6 < (↑s2N : Int)) ∧ ptrK none s2P fun (k19 k20 : Nat) => ∀ (w21 : World) (R22 : List Own), Ctx W w21 (R7 ++ R22) I8 → ∃ (n23 : Int), ∃ (n24 : Int), ∃ (s25 :
  ByteArray), RowAt w21 k19 (k20 + n6.toNat * 3) [Value.int IntKind.i64 n23, Value.int IntKind.i64 n24, Value.string s25] ∧ ∀ (b : Nat) (w26 : World) (R27 : List Own), Ctx W w26 (R7 ++ R27)
  I8 → okFun Try.prog cmpF = true ∧ Calls Try.prog cmpF (Array.mk (Value.agg #[Value.int IntKind.i64 n14, Value.int IntKind.i64 n15, Value.string s16] :: Value.agg #[Value.int IntKind.i64
  n23, Value.int IntKind.i64 n24, Value.string s25] :: cmpC.toList)) w26 fun (e28 : Ending) (w29 : World) => ∃ (n30 : Int), e28 = Ending.returned (Value.int IntKind.i64 n30) ∧ ∃ (R31 : List
  Own), ∃ (Φ32 : PW), Stable Φ32 ∧ Ctx W w29 (R31 ++ R27) Φ32 ∧ Br (decide (n30 ≠ 0)) (∀ (w33 : World) (R34 : List Own), Ctx W w33 (R31 ++ R34) Φ32 → J (Value.int IntKind.i64 n30) w33) (I64
  (n6 + 1) ∧ ∃ (R35 : List Own), ∃ (Φ36 : PW), ∃ (k37 : Nat), Stable Φ36 ∧ (∀ (w38 : World) (R39 : List Own), Ctx W w38 (R31 ++ R39) Φ32 → Ctx W w38 (R35 ++ R39) Φ36) ∧ I0 (n6 + 1) R35 Φ36
  k37 ∧ k37 < k9))) (Br (decide ((↑s1N : Int) < (↑s2N : Int))) (∀ (w40 : World) (R41 : List Own), Ctx W w40 (R7 ++ R41) I8 → J (Value.int IntKind.i64 (-1)) w40) (∀ (w42 : World) (R43 : List
  Own), Ctx W w42 (R7 ++ R43) I8 → J (Value.int IntKind.i64 0) w42))

theorem Bslices_CompareFunc_api_Value__api_Value_api_Value_api_Value_run (s1P : Option Addr) (s1N s1C : Nat) (s2P : Option Addr) (s2N s2C : Nat) (cmpF : FuncId) (cmpC : Array Value) {W w : World} {R : List Own} {Φ : PW} [Stable Φ] {J : Value → World → Prop} (c : Ctx W w R Φ) (h : Bslices_CompareFunc_api_Value__api_Value_api_Value_api_Value s1P s1N s1C s2P s2N s2C cmpF cmpC W R Φ J) : Calls Try.prog F.slices_CompareFunc_api_Value__api_Value_api_Value_api_Value #[.slice s1P s1N s1C, .slice s2P s2N s2C, .func (.func cmpF) #[] cmpC] w fun e w' => ∃ v, e = .returned v ∧ J v w' :=
  vcFS_sound (H := { keep := some [0, 1, 2, 6, 7, 8, 9, 10, 11, 12, 13, 14, 21, 31, 38], wrap := [29], track := [8, 9], loops := [(2, [(13, .one (.int .i64))], [])] }) (by rw [show vcFS Try.prog W { keep := some [0, 1, 2, 6, 7, 8, 9, 10, 11, 12, 13, 14, 21, 31, 38], wrap := [29], track := [8, 9], loops := [(2, [(13, .one (.int .i64))], [])] } F.slices_CompareFunc_api_Value__api_Value_api_Value_api_Value #[.slice s1P s1N s1C, .slice s2P s2N s2C, .func (.func cmpF) #[] cmpC] R Φ J = Bslices_CompareFunc_api_Value__api_Value_api_Value_api_Value s1P s1N s1C s2P s2N s2C cmpF cmpC W R Φ J by kernel_rfl]; exact h) c

/-- value.Compare -/
-- known blocks: 2 a, 3 b
def Bvalue_Compare (a0 : Int) (a1 : Int) (a2 : ByteArray) (b0 : Int) (b1 : Int) (b2 : ByteArray) (W : World) (R : List Own) (Φ : PW) (J : Value → World → Prop) : Prop :=
  ∀ (b b : Nat), ∃ (R0 : List Own), ∃ (Φ1 : PW), Stable Φ1 ∧ (∀ (w2 : World) (R3 : List Own), Ctx W w2 (R ++ R3) Φ → Ctx W w2 (R0 ++ R3) Φ1) ∧ ∀ (w4 : World) (R5 : List Own), Ctx W w4 (R ++
  R5) Φ → Calls Try.prog F.cmp_Compare_int #[Value.int IntKind.i64 a0, Value.int IntKind.i64 b0] w4 fun (e6 : Ending) (w7 : World) => ∃ (n8 : Int), e6 = Ending.returned (Value.int IntKind.i64
  n8) ∧ ∃ (R9 : List Own), ∃ (Φ10 : PW), Stable Φ10 ∧ Ctx W w7 (R9 ++ R5) Φ10 ∧ (∀ (w11 : World) (R12 : List Own), Ctx W w11 (R9 ++ R12) Φ10 → Ctx W w11 (R0 ++ R12) Φ1) ∧ ∀ (w13 : World) (R14
  : List Own), Ctx W w13 (R9 ++ R14) Φ10 → Calls Try.prog F.cmp_Compare_int #[Value.int IntKind.i64 a1, Value.int IntKind.i64 b1] w13 fun (e15 : Ending) (w16 : World) => ∃ (n17 : Int), e15 =
  Ending.returned (Value.int IntKind.i64 n17) ∧ ∃ (R18 : List Own), ∃ (Φ19 : PW), Stable Φ19 ∧ Ctx W w16 (R18 ++ R14) Φ19 ∧ (∀ (w20 : World) (R21 : List Own), Ctx W w20 (R18 ++ R21) Φ19 → Ctx
  W w20 (R0 ++ R21) Φ1) ∧ ∀ (w22 : World) (R23 : List Own), Ctx W w22 (R18 ++ R23) Φ19 → Calls Try.prog F.strings_Compare #[Value.string a2, Value.string b2] w22 fun (e24 : Ending) (w25 :
  World) => ∃ (n26 : Int), e24 = Ending.returned (Value.int IntKind.i64 n26) ∧ ∃ (R27 : List Own), ∃ (Φ28 : PW), Stable Φ28 ∧ Ctx W w25 (R27 ++ R23) Φ28 ∧ (∀ (w29 : World) (R30 : List Own),
  Ctx W w29 (R27 ++ R30) Φ28 → Ctx W w29 (R0 ++ R30) Φ1) ∧ ∀ (k31 : Nat), (∀ (w32 : World) (R33 : List Own), Ctx W w32 (Own.blk k31 [Value.int IntKind.i64 n8, Value.int IntKind.i64 n17,
  Value.int IntKind.i64 n26] 3 :: R27 ++ R33) Φ28 → Ctx W w32 (R0 ++ R33) Φ1) ∧ ∀ (w34 : World) (R35 : List Own), Ctx W w34 (Own.blk k31 [Value.int IntKind.i64 n8, Value.int IntKind.i64 n17,
  Value.int IntKind.i64 n26] 3 :: R27 ++ R35) Φ28 → Calls Try.prog F.cmp_Or_int #[Value.slice (some (Addr.mk k31 0 none)) 3 3] w34 fun (e36 : Ending) (w37 : World) => ∃ (n38 : Int), e36 =
  Ending.returned (Value.int IntKind.i64 n38) ∧ ∃ (R39 : List Own), ∃ (Φ40 : PW), Stable Φ40 ∧ Ctx W w37 (R39 ++ R35) Φ40 ∧ (∀ (w41 : World) (R42 : List Own), Ctx W w41 (R39 ++ R42) Φ40 → Ctx
  W w41 (R0 ++ R42) Φ1) ∧ ∀ (w43 : World) (R44 : List Own), Ctx W w43 (R39 ++ R44) Φ40 → J (Value.int IntKind.i64 n38) w43

theorem Bvalue_Compare_run (a0 : Int) (a1 : Int) (a2 : ByteArray) (b0 : Int) (b1 : Int) (b2 : ByteArray) {W w : World} {R : List Own} {Φ : PW} [Stable Φ] {J : Value → World → Prop} (c : Ctx W w R Φ) (h : Bvalue_Compare a0 a1 a2 b0 b1 b2 W R Φ J) : Calls Try.prog F.value_Compare #[.agg #[.int .i64 a0, .int .i64 a1, .string a2], .agg #[.int .i64 b0, .int .i64 b1, .string b2]] w fun e w' => ∃ v, e = .returned v ∧ J v w' :=
  vcFS_sound (H := { keep := some [2, 3, 4], track := [2, 3], stages := [(1, [.held [(0, true), (2, true), (5, true), (7, true), (10, true), (12, true), (1, true), (3, true), (6, true), (8, true), (11, true), (13, true), (4, false), (9, false), (14, false), (15, false), (16, false), (17, true)]])] }) (by rw [show vcFS Try.prog W { keep := some [2, 3, 4], track := [2, 3], stages := [(1, [.held [(0, true), (2, true), (5, true), (7, true), (10, true), (12, true), (1, true), (3, true), (6, true), (8, true), (11, true), (13, true), (4, false), (9, false), (14, false), (15, false), (16, false), (17, true)]])] } F.value_Compare #[.agg #[.int .i64 a0, .int .i64 a1, .string a2], .agg #[.int .i64 b0, .int .i64 b1, .string b2]] R Φ J = Bvalue_Compare a0 a1 a2 b0 b1 b2 W R Φ J by kernel_rfl]; exact h) c

/-- slices.IndexFunc[[]api.Value,api.Value] -/
-- loop at region 2: 8 ; blocks 
def Bslices_IndexFunc_api_Value_api_Value (sP : Option Addr) (sN sC : Nat) (fF : FuncId) (fC : Array Value) (W : World) (R : List Own) (Φ : PW) (J : Value → World → Prop) : Prop :=
  exI fun (I0 : Int → List Own → PW → Nat → Prop) => (∃ (R1 : List Own), ∃ (Φ2 : PW), ∃ (k3 : Nat), Stable Φ2 ∧ (∀ (w4 : World) (R5 : List Own), Ctx W w4 (R ++ R5) Φ → Ctx W w4 (R1 ++ R5) Φ2)
  ∧ I0 0 R1 Φ2 k3) ∧ ∀ (n6 : Int) (R7 : List Own) (I8 : List Nat → World → Prop) (k9 : Nat), Stable I8 → I0 n6 R7 I8 k9 → Br (decide (n6 < (↑sN : Int))) ((0 ≤ n6 ∧ n6 < (↑sN : Int)) ∧ ptrK
  none sP fun (k10 k11 : Nat) => ∀ (w12 : World) (R13 : List Own), Ctx W w12 (R7 ++ R13) I8 → ∃ (n14 : Int), ∃ (n15 : Int), ∃ (s16 : ByteArray), RowAt w12 k10 (k11 + n6.toNat * 3) [Value.int
  IntKind.i64 n14, Value.int IntKind.i64 n15, Value.string s16] ∧ ∀ (w17 : World) (R18 : List Own), Ctx W w17 (R7 ++ R18) I8 → okFun Try.prog fF = true ∧ Calls Try.prog fF (Array.mk
  (Value.agg #[Value.int IntKind.i64 n14, Value.int IntKind.i64 n15, Value.string s16] :: fC.toList)) w17 fun (e19 : Ending) (w20 : World) => ∃ (c21 : Bool), e19 = Ending.returned (Value.bool
  c21) ∧ ∃ (R22 : List Own), ∃ (Φ23 : PW), Stable Φ23 ∧ Ctx W w20 (R22 ++ R18) Φ23 ∧ Br c21 (∀ (w24 : World) (R25 : List Own), Ctx W w24 (R22 ++ R25) Φ23 → J (Value.int IntKind.i64 n6) w24)
  (I64 (n6 + 1) ∧ ∃ (R26 : List Own), ∃ (Φ27 : PW), ∃ (k28 : Nat), Stable Φ27 ∧ (∀ (w29 : World) (R30 : List Own), Ctx W w29 (R22 ++ R30) Φ23 → Ctx W w29 (R26 ++ R30) Φ27) ∧ I0 (n6 + 1) R26
  Φ27 k28 ∧ k28 < k9)) (∀ (w31 : World) (R32 : List Own), Ctx W w31 (R7 ++ R32) I8 → J (Value.int IntKind.i64 (-1)) w31)

theorem Bslices_IndexFunc_api_Value_api_Value_run (sP : Option Addr) (sN sC : Nat) (fF : FuncId) (fC : Array Value) {W w : World} {R : List Own} {Φ : PW} [Stable Φ] {J : Value → World → Prop} (c : Ctx W w R Φ) (h : Bslices_IndexFunc_api_Value_api_Value sP sN sC fF fC W R Φ J) : Calls Try.prog F.slices_IndexFunc_api_Value_api_Value #[.slice sP sN sC, .func (.func fF) #[] fC] w fun e w' => ∃ v, e = .returned v ∧ J v w' :=
  vcFS_sound (H := { keep := some [0, 1, 4, 5, 7, 8, 9, 16], wrap := [16], loops := [(2, [(8, .one (.int .i64))], [])] }) (by rw [show vcFS Try.prog W { keep := some [0, 1, 4, 5, 7, 8, 9, 16], wrap := [16], loops := [(2, [(8, .one (.int .i64))], [])] } F.slices_IndexFunc_api_Value_api_Value #[.slice sP sN sC, .func (.func fF) #[] fC] R Φ J = Bslices_IndexFunc_api_Value_api_Value sP sN sC fF fC W R Φ J by kernel_rfl]; exact h) c

/-- value.Int -/
-- known blocks: 2 
def Bvalue_Int (n : Int) (W : World) (R : List Own) (Φ : PW) (J : Value → World → Prop) : Prop :=
  ∀ (b : Nat) (w0 : World) (R1 : List Own), Ctx W w0 (R ++ R1) Φ → J (Value.agg #[Value.int IntKind.i64 0, Value.int IntKind.i64 n, Value.string (ByteArray.mk #[])]) w0

theorem Bvalue_Int_run (n : Int) {W w : World} {R : List Own} {Φ : PW} [Stable Φ] {J : Value → World → Prop} (c : Ctx W w R Φ) (h : Bvalue_Int n W R Φ J) : Calls Try.prog F.value_Int #[.int .i64 n] w fun e w' => ∃ v, e = .returned v ∧ J v w' :=
  vcFS_sound (H := { keep := some [0, 2], track := [2] }) (by rw [show vcFS Try.prog W { keep := some [0, 2], track := [2] } F.value_Int #[.int .i64 n] R Φ J = Bvalue_Int n W R Φ J by kernel_rfl]; exact h) c

/-- value.Text -/
-- known blocks: 2 
def Bvalue_Text (s : ByteArray) (W : World) (R : List Own) (Φ : PW) (J : Value → World → Prop) : Prop :=
  ∀ (b : Nat) (w0 : World) (R1 : List Own), Ctx W w0 (R ++ R1) Φ → J (Value.agg #[Value.int IntKind.i64 1, Value.int IntKind.i64 0, Value.string s]) w0

theorem Bvalue_Text_run (s : ByteArray) {W w : World} {R : List Own} {Φ : PW} [Stable Φ] {J : Value → World → Prop} (c : Ctx W w R Φ) (h : Bvalue_Text s W R Φ J) : Calls Try.prog F.value_Text #[.string s] w fun e w' => ∃ v, e = .returned v ∧ J v w' :=
  vcFS_sound (H := { keep := some [0, 2], track := [2] }) (by rw [show vcFS Try.prog W { keep := some [0, 2], track := [2] } F.value_Text #[.string s] R Φ J = Bvalue_Text s W R Φ J by kernel_rfl]; exact h) c

/-- value.Bool -/
-- known blocks: 2 
def Bvalue_Bool (b : Bool) (W : World) (R : List Own) (Φ : PW) (J : Value → World → Prop) : Prop :=
  ∀ (b_1 : Nat), Br b (∀ (w0 : World) (R1 : List Own), Ctx W w0 (R ++ R1) Φ → J (Value.agg #[Value.int IntKind.i64 2, Value.int IntKind.i64 1, Value.string (ByteArray.mk #[])]) w0) (∀ (w2 :
  World) (R3 : List Own), Ctx W w2 (R ++ R3) Φ → J (Value.agg #[Value.int IntKind.i64 2, Value.int IntKind.i64 0, Value.string (ByteArray.mk #[])]) w2)

theorem Bvalue_Bool_run (b : Bool) {W w : World} {R : List Own} {Φ : PW} [Stable Φ] {J : Value → World → Prop} (c : Ctx W w R Φ) (h : Bvalue_Bool b W R Φ J) : Calls Try.prog F.value_Bool #[.bool b] w fun e w' => ∃ v, e = .returned v ∧ J v w' :=
  vcFS_sound (H := { keep := some [0, 2, 3], track := [2] }) (by rw [show vcFS Try.prog W { keep := some [0, 2, 3], track := [2] } F.value_Bool #[.bool b] R Φ J = Bvalue_Bool b W R Φ J by kernel_rfl]; exact h) c

end Go.Proofs.Yticgmbmghnikeaa
