/-
  The conditions of the walks of some functions, one formula each; 'B<f>_run' says that they suffice. The formulas are printed by a program; the kernel compares them with the functions' code.
-/
import Derived.Test.YtifgijoeckoojaaTe4
import Derived.Test.YtifgijoeckoojaaTe3

section
namespace Go.Proofs.Ytifgijoeckoojaa
set_option linter.unusedVariables false
set_option linter.unusedSimpArgs false
set_option maxRecDepth 100000
open Go.Vc

/-- (*errataref08.Replica).Hear -/
-- known blocks: 3 m, 4 , 5 before, 6 o
def Berrataref08_Replica_Hear (rB rO : Nat) (m0 : Int) (m1 : Int) (m2 : Int) (m3 : Int) (m4 : Int) (m5 : Int) (m6 : Int) (m7 : Bool) (m8P : Option Addr) (m8N m8C : Nat) (W : World) (R : List Own) (Φ : PW) (J : Value → World → Prop) : Prop :=
  ∀ (b b : Nat), ∃ (R0 : List Own), ∃ (Φ1 : PW), Stable Φ1 ∧ (∀ (w2 : World) (R3 : List Own), Ctx W w2 (R ++ R3) Φ → Ctx W w2 (R0 ++ R3) Φ1) ∧ ∃ (n4 : Int), (∀ (w5 : World) (R6 : List Own),
  Ctx W w5 (R0 ++ R6) Φ1 → ∃ (n7 : Int), w5.cell? (Addr.mk rB rO none) = some (Value.int IntKind.i64 n7) ∧ Value.int IntKind.i64 n7 = Value.int IntKind.i64 n4) ∧ ∀ (w8 : World) (R9 : List
  Own), Ctx W w8 (R ++ R9) Φ → Calls Try.prog F.errataref08_Right #[Value.int IntKind.i64 n4, Value.agg #[Value.int IntKind.i64 m0, Value.int IntKind.i64 m1, Value.int IntKind.i64 m2,
  Value.int IntKind.i64 m3, Value.int IntKind.i64 m4, Value.int IntKind.i64 m5, Value.int IntKind.i64 m6, Value.bool m7, Value.slice m8P m8N m8C]] w8 fun (e10 : Ending) (w11 : World) => ∃
  (c12 : Bool), e10 = Ending.returned (Value.bool c12) ∧ ∃ (R13 : List Own), ∃ (Φ14 : PW), Stable Φ14 ∧ Ctx W w11 (R13 ++ R9) Φ14 ∧ Br (!c12) (∀ (w15 : World) (R16 : List Own), Ctx W w15 (R13
  ++ R16) Φ14 → J (Value.agg #[Value.bool false, Value.int IntKind.i64 0, Value.int IntKind.i64 0, Value.int IntKind.i64 0, Value.slice none 0 0, Value.slice none 0 0]) w15) (∀ (w17 : World)
  (R18 : List Own), Ctx W w17 (R13 ++ R18) Φ14 → ∃ (n19 : Int), ∃ (n20 : Int), RowAt w17 rB (rO + 1) [Value.int IntKind.i64 n19, Value.int IntKind.i64 n20] ∧ ∀ (b : Nat) (w21 : World) (R22 :
  List Own), Ctx W w21 (R13 ++ R22) Φ14 → ∃ (n23 : Int), w21.cell? (Addr.mk rB (rO + 1) none) = some (Value.int IntKind.i64 n23) ∧ Br (decide (n23 < m3)) (∀ (w24 : World) (R25 : List Own),
  Ctx W w24 (R13 ++ R25) Φ14 → CanWrite w24 rB (rO + 1) 2 ∧ ∀ (w26 : World), w26 = w24.setCells rB (rO + 1) [Value.int IntKind.i64 m3, Value.int IntKind.i64 (-1)] → ∃ (R27 : List Own), ∃ (Φ28
  : PW), Stable Φ28 ∧ Ctx W w26 (R27 ++ R25) Φ28 ∧ ∀ (w29 : World) (R30 : List Own), Ctx W w29 (R27 ++ R30) Φ28 → CanWrite w29 rB (rO + 4) 1 ∧ ∀ (w31 : World), w31 = w29.setCell (Addr.mk rB
  (rO + 4) none) (Value.int IntKind.i64 0) → ∃ (R32 : List Own), ∃ (Φ33 : PW), Stable Φ33 ∧ Ctx W w31 (R32 ++ R30) Φ33 ∧ ∀ (b : Nat), Br (decide (m0 = 0)) (∀ (w34 : World) (R35 : List Own),
  Ctx W w34 (R32 ++ R35) Φ33 → Calls Try.prog F.errataref08_Replica_vote #[Value.pointer (some (Addr.mk rB rO none)), Value.agg #[Value.int IntKind.i64 m0, Value.int IntKind.i64 m1, Value.int
  IntKind.i64 m2, Value.int IntKind.i64 m3, Value.int IntKind.i64 m4, Value.int IntKind.i64 m5, Value.int IntKind.i64 m6, Value.bool m7, Value.slice m8P m8N m8C]] w34 fun (e36 : Ending) (w37
  : World) => ∃ (c38 : Bool), ∃ (n39 : Int), ∃ (n40 : Int), ∃ (n41 : Int), ∃ (p42 : Option Addr), ∃ (k43 : Nat), ∃ (k44 : Nat), ∃ (p45 : Option Addr), ∃ (k46 : Nat), ∃ (k47 : Nat), e36 =
  Ending.returned (Value.agg #[Value.bool c38, Value.int IntKind.i64 n39, Value.int IntKind.i64 n40, Value.int IntKind.i64 n41, Value.slice p42 k43 k44, Value.slice p45 k46 k47]) ∧ ∃ (R48 :
  List Own), ∃ (Φ49 : PW), Stable Φ49 ∧ Ctx W w37 (R48 ++ R35) Φ49 ∧ ∀ (w50 : World) (R51 : List Own), Ctx W w50 (R48 ++ R51) Φ49 → ∃ (n52 : Int), ∃ (n53 : Int), RowAt w50 rB (rO + 1)
  [Value.int IntKind.i64 n52, Value.int IntKind.i64 n53] ∧ okAgg Try.prog 40 = true ∧ Br (!(decide (n52 = n19) && (decide (n53 = n20) && true))) (∀ (w54 : World) (R55 : List Own), Ctx W w54
  (R48 ++ R55) Φ49 → ∃ (n56 : Int), ∃ (n57 : Int), RowAt w54 rB (rO + 1) [Value.int IntKind.i64 n56, Value.int IntKind.i64 n57] ∧ ∀ (w58 : World) (R59 : List Own), Ctx W w58 (R48 ++ R59) Φ49
  → J (Value.agg #[Value.bool true, Value.int IntKind.i64 n56, Value.int IntKind.i64 n57, Value.int IntKind.i64 n41, Value.slice p42 k43 k44, Value.slice p45 k46 k47]) w58) (∀ (w60 : World)
  (R61 : List Own), Ctx W w60 (R48 ++ R61) Φ49 → J (Value.agg #[Value.bool c38, Value.int IntKind.i64 n39, Value.int IntKind.i64 n40, Value.int IntKind.i64 n41, Value.slice p42 k43 k44,
  Value.slice p45 k46 k47]) w60)) (Br (decide (m0 = 1)) (∀ (w62 : World) (R63 : List Own), Ctx W w62 (R32 ++ R63) Φ33 → Calls Try.prog F.errataref08_Replica_voted #[Value.pointer (some
  (Addr.mk rB rO none)), Value.agg #[Value.int IntKind.i64 m0, Value.int IntKind.i64 m1, Value.int IntKind.i64 m2, Value.int IntKind.i64 m3, Value.int IntKind.i64 m4, Value.int IntKind.i64
  m5, Value.int IntKind.i64 m6, Value.bool m7, Value.slice m8P m8N m8C]] w62 fun (e64 : Ending) (w65 : World) => ∃ (c66 : Bool), ∃ (n67 : Int), ∃ (n68 : Int), ∃ (n69 : Int), ∃ (p70 : Option
  Addr), ∃ (k71 : Nat), ∃ (k72 : Nat), ∃ (p73 : Option Addr), ∃ (k74 : Nat), ∃ (k75 : Nat), e64 = Ending.returned (Value.agg #[Value.bool c66, Value.int IntKind.i64 n67, Value.int IntKind.i64
  n68, Value.int IntKind.i64 n69, Value.slice p70 k71 k72, Value.slice p73 k74 k75]) ∧ ∃ (R76 : List Own), ∃ (Φ77 : PW), Stable Φ77 ∧ Ctx W w65 (R76 ++ R63) Φ77 ∧ ∀ (w78 : World) (R79 : List
  Own), Ctx W w78 (R76 ++ R79) Φ77 → ∃ (n80 : Int), ∃ (n81 : Int), RowAt w78 rB (rO + 1) [Value.int IntKind.i64 n80, Value.int IntKind.i64 n81] ∧ okAgg Try.prog 40 = true ∧ Br (!(decide (n80
  = n19) && (decide (n81 = n20) && true))) (∀ (w82 : World) (R83 : List Own), Ctx W w82 (R76 ++ R83) Φ77 → ∃ (n84 : Int), ∃ (n85 : Int), RowAt w82 rB (rO + 1) [Value.int IntKind.i64 n84,
  Value.int IntKind.i64 n85] ∧ ∀ (w86 : World) (R87 : List Own), Ctx W w86 (R76 ++ R87) Φ77 → J (Value.agg #[Value.bool true, Value.int IntKind.i64 n84, Value.int IntKind.i64 n85, Value.int
  IntKind.i64 n69, Value.slice p70 k71 k72, Value.slice p73 k74 k75]) w86) (∀ (w88 : World) (R89 : List Own), Ctx W w88 (R76 ++ R89) Φ77 → J (Value.agg #[Value.bool c66, Value.int IntKind.i64
  n67, Value.int IntKind.i64 n68, Value.int IntKind.i64 n69, Value.slice p70 k71 k72, Value.slice p73 k74 k75]) w88)) (Br (decide (m0 = 2)) (∀ (w90 : World) (R91 : List Own), Ctx W w90 (R32
  ++ R91) Φ33 → Calls Try.prog F.errataref08_Replica_append #[Value.pointer (some (Addr.mk rB rO none)), Value.agg #[Value.int IntKind.i64 m0, Value.int IntKind.i64 m1, Value.int IntKind.i64
  m2, Value.int IntKind.i64 m3, Value.int IntKind.i64 m4, Value.int IntKind.i64 m5, Value.int IntKind.i64 m6, Value.bool m7, Value.slice m8P m8N m8C]] w90 fun (e92 : Ending) (w93 : World) =>
  ∃ (c94 : Bool), ∃ (n95 : Int), ∃ (n96 : Int), ∃ (n97 : Int), ∃ (p98 : Option Addr), ∃ (k99 : Nat), ∃ (k100 : Nat), ∃ (p101 : Option Addr), ∃ (k102 : Nat), ∃ (k103 : Nat), e92 =
  Ending.returned (Value.agg #[Value.bool c94, Value.int IntKind.i64 n95, Value.int IntKind.i64 n96, Value.int IntKind.i64 n97, Value.slice p98 k99 k100, Value.slice p101 k102 k103]) ∧ ∃
  (R104 : List Own), ∃ (Φ105 : PW), Stable Φ105 ∧ Ctx W w93 (R104 ++ R91) Φ105 ∧ ∀ (w106 : World) (R107 : List Own), Ctx W w106 (R104 ++ R107) Φ105 → ∃ (n108 : Int), ∃ (n109 : Int), RowAt
  w106 rB (rO + 1) [Value.int IntKind.i64 n108, Value.int IntKind.i64 n109] ∧ okAgg Try.prog 40 = true ∧ Br (!(decide (n108 = n19) && (decide (n109 = n20) && true))) (∀ (w110 : World) (R111 :
  List Own), Ctx W w110 (R104 ++ R111) Φ105 → ∃ (n112 : Int), ∃ (n113 : Int), RowAt w110 rB (rO + 1) [Value.int IntKind.i64 n112, Value.int IntKind.i64 n113] ∧ ∀ (w114 : World) (R115 : List
  Own), Ctx W w114 (R104 ++ R115) Φ105 → J (Value.agg #[Value.bool true, Value.int IntKind.i64 n112, Value.int IntKind.i64 n113, Value.int IntKind.i64 n97, Value.slice p98 k99 k100,
  Value.slice p101 k102 k103]) w114) (∀ (w116 : World) (R117 : List Own), Ctx W w116 (R104 ++ R117) Φ105 → J (Value.agg #[Value.bool c94, Value.int IntKind.i64 n95, Value.int IntKind.i64 n96,
  Value.int IntKind.i64 n97, Value.slice p98 k99 k100, Value.slice p101 k102 k103]) w116)) (Br (decide (m0 = 3)) (∀ (w118 : World) (R119 : List Own), Ctx W w118 (R32 ++ R119) Φ33 → Calls
  Try.prog F.errataref08_Replica_appended #[Value.pointer (some (Addr.mk rB rO none)), Value.agg #[Value.int IntKind.i64 m0, Value.int IntKind.i64 m1, Value.int IntKind.i64 m2, Value.int
  IntKind.i64 m3, Value.int IntKind.i64 m4, Value.int IntKind.i64 m5, Value.int IntKind.i64 m6, Value.bool m7, Value.slice m8P m8N m8C]] w118 fun (e120 : Ending) (w121 : World) => ∃ (c122 :
  Bool), ∃ (n123 : Int), ∃ (n124 : Int), ∃ (n125 : Int), ∃ (p126 : Option Addr), ∃ (k127 : Nat), ∃ (k128 : Nat), ∃ (p129 : Option Addr), ∃ (k130 : Nat), ∃ (k131 : Nat), e120 = Ending.returned
  (Value.agg #[Value.bool c122, Value.int IntKind.i64 n123, Value.int IntKind.i64 n124, Value.int IntKind.i64 n125, Value.slice p126 k127 k128, Value.slice p129 k130 k131]) ∧ ∃ (R132 : List
  Own), ∃ (Φ133 : PW), Stable Φ133 ∧ Ctx W w121 (R132 ++ R119) Φ133 ∧ ∀ (w134 : World) (R135 : List Own), Ctx W w134 (R132 ++ R135) Φ133 → ∃ (n136 : Int), ∃ (n137 : Int), RowAt w134 rB (rO +
  1) [Value.int IntKind.i64 n136, Value.int IntKind.i64 n137] ∧ okAgg Try.prog 40 = true ∧ Br (!(decide (n136 = n19) && (decide (n137 = n20) && true))) (∀ (w138 : World) (R139 : List Own),
  Ctx W w138 (R132 ++ R139) Φ133 → ∃ (n140 : Int), ∃ (n141 : Int), RowAt w138 rB (rO + 1) [Value.int IntKind.i64 n140, Value.int IntKind.i64 n141] ∧ ∀ (w142 : World) (R143 : List Own), Ctx W
  w142 (R132 ++ R143) Φ133 → J (Value.agg #[Value.bool true, Value.int IntKind.i64 n140, Value.int IntKind.i64 n141, Value.int IntKind.i64 n125, Value.slice p126 k127 k128, Value.slice p129
  k130 k131]) w142) (∀ (w144 : World) (R145 : List Own), Ctx W w144 (R132 ++ R145) Φ133 → J (Value.agg #[Value.bool c122, Value.int IntKind.i64 n123, Value.int IntKind.i64 n124, Value.int
  IntKind.i64 n125, Value.slice p126 k127 k128, Value.slice p129 k130 k131]) w144)) (∀ (w146 : World) (R147 : List Own), Ctx W w146 (R32 ++ R147) Φ33 → ∃ (n148 : Int), ∃ (n149 : Int), RowAt
  w146 rB (rO + 1) [Value.int IntKind.i64 n148, Value.int IntKind.i64 n149] ∧ okAgg Try.prog 40 = true ∧ Br (!(decide (n148 = n19) && (decide (n149 = n20) && true))) (∀ (w150 : World) (R151 :
  List Own), Ctx W w150 (R32 ++ R151) Φ33 → ∃ (n152 : Int), ∃ (n153 : Int), RowAt w150 rB (rO + 1) [Value.int IntKind.i64 n152, Value.int IntKind.i64 n153] ∧ ∀ (w154 : World) (R155 : List
  Own), Ctx W w154 (R32 ++ R155) Φ33 → J (Value.agg #[Value.bool true, Value.int IntKind.i64 n152, Value.int IntKind.i64 n153, Value.int IntKind.i64 0, Value.slice none 0 0, Value.slice none
  0 0]) w154) (∀ (w156 : World) (R157 : List Own), Ctx W w156 (R32 ++ R157) Φ33 → J (Value.agg #[Value.bool false, Value.int IntKind.i64 0, Value.int IntKind.i64 0, Value.int IntKind.i64 0,
  Value.slice none 0 0, Value.slice none 0 0]) w156)))))) (∀ (b : Nat), Br (decide (m0 = 0)) (∀ (w158 : World) (R159 : List Own), Ctx W w158 (R13 ++ R159) Φ14 → Calls Try.prog
  F.errataref08_Replica_vote #[Value.pointer (some (Addr.mk rB rO none)), Value.agg #[Value.int IntKind.i64 m0, Value.int IntKind.i64 m1, Value.int IntKind.i64 m2, Value.int IntKind.i64 m3,
  Value.int IntKind.i64 m4, Value.int IntKind.i64 m5, Value.int IntKind.i64 m6, Value.bool m7, Value.slice m8P m8N m8C]] w158 fun (e160 : Ending) (w161 : World) => ∃ (c162 : Bool), ∃ (n163 :
  Int), ∃ (n164 : Int), ∃ (n165 : Int), ∃ (p166 : Option Addr), ∃ (k167 : Nat), ∃ (k168 : Nat), ∃ (p169 : Option Addr), ∃ (k170 : Nat), ∃ (k171 : Nat), e160 = Ending.returned (Value.agg
  #[Value.bool c162, Value.int IntKind.i64 n163, Value.int IntKind.i64 n164, Value.int IntKind.i64 n165, Value.slice p166 k167 k168, Value.slice p169 k170 k171]) ∧ ∃ (R172 : List Own), ∃
  (Φ173 : PW), Stable Φ173 ∧ Ctx W w161 (R172 ++ R159) Φ173 ∧ ∀ (w174 : World) (R175 : List Own), Ctx W w174 (R172 ++ R175) Φ173 → ∃ (n176 : Int), ∃ (n177 : Int), RowAt w174 rB (rO + 1)
  [Value.int IntKind.i64 n176, Value.int IntKind.i64 n177] ∧ okAgg Try.prog 40 = true ∧ Br (!(decide (n176 = n19) && (decide (n177 = n20) && true))) (∀ (w178 : World) (R179 : List Own), Ctx W
  w178 (R172 ++ R179) Φ173 → ∃ (n180 : Int), ∃ (n181 : Int), RowAt w178 rB (rO + 1) [Value.int IntKind.i64 n180, Value.int IntKind.i64 n181] ∧ ∀ (w182 : World) (R183 : List Own), Ctx W w182
  (R172 ++ R183) Φ173 → J (Value.agg #[Value.bool true, Value.int IntKind.i64 n180, Value.int IntKind.i64 n181, Value.int IntKind.i64 n165, Value.slice p166 k167 k168, Value.slice p169 k170
  k171]) w182) (∀ (w184 : World) (R185 : List Own), Ctx W w184 (R172 ++ R185) Φ173 → J (Value.agg #[Value.bool c162, Value.int IntKind.i64 n163, Value.int IntKind.i64 n164, Value.int
  IntKind.i64 n165, Value.slice p166 k167 k168, Value.slice p169 k170 k171]) w184)) (Br (decide (m0 = 1)) (∀ (w186 : World) (R187 : List Own), Ctx W w186 (R13 ++ R187) Φ14 → Calls Try.prog
  F.errataref08_Replica_voted #[Value.pointer (some (Addr.mk rB rO none)), Value.agg #[Value.int IntKind.i64 m0, Value.int IntKind.i64 m1, Value.int IntKind.i64 m2, Value.int IntKind.i64 m3,
  Value.int IntKind.i64 m4, Value.int IntKind.i64 m5, Value.int IntKind.i64 m6, Value.bool m7, Value.slice m8P m8N m8C]] w186 fun (e188 : Ending) (w189 : World) => ∃ (c190 : Bool), ∃ (n191 :
  Int), ∃ (n192 : Int), ∃ (n193 : Int), ∃ (p194 : Option Addr), ∃ (k195 : Nat), ∃ (k196 : Nat), ∃ (p197 : Option Addr), ∃ (k198 : Nat), ∃ (k199 : Nat), e188 = Ending.returned (Value.agg
  #[Value.bool c190, Value.int IntKind.i64 n191, Value.int IntKind.i64 n192, Value.int IntKind.i64 n193, Value.slice p194 k195 k196, Value.slice p197 k198 k199]) ∧ ∃ (R200 : List Own), ∃
  (Φ201 : PW), Stable Φ201 ∧ Ctx W w189 (R200 ++ R187) Φ201 ∧ ∀ (w202 : World) (R203 : List Own), Ctx W w202 (R200 ++ R203) Φ201 → ∃ (n204 : Int), ∃ (n205 : Int), RowAt w202 rB (rO + 1)
  [Value.int IntKind.i64 n204, Value.int IntKind.i64 n205] ∧ okAgg Try.prog 40 = true ∧ Br (!(decide (n204 = n19) && (decide (n205 = n20) && true))) (∀ (w206 : World) (R207 : List Own), Ctx W
  w206 (R200 ++ R207) Φ201 → ∃ (n208 : Int), ∃ (n209 : Int), RowAt w206 rB (rO + 1) [Value.int IntKind.i64 n208, Value.int IntKind.i64 n209] ∧ ∀ (w210 : World) (R211 : List Own), Ctx W w210
  (R200 ++ R211) Φ201 → J (Value.agg #[Value.bool true, Value.int IntKind.i64 n208, Value.int IntKind.i64 n209, Value.int IntKind.i64 n193, Value.slice p194 k195 k196, Value.slice p197 k198
  k199]) w210) (∀ (w212 : World) (R213 : List Own), Ctx W w212 (R200 ++ R213) Φ201 → J (Value.agg #[Value.bool c190, Value.int IntKind.i64 n191, Value.int IntKind.i64 n192, Value.int
  IntKind.i64 n193, Value.slice p194 k195 k196, Value.slice p197 k198 k199]) w212)) (Br (decide (m0 = 2)) (∀ (w214 : World) (R215 : List Own), Ctx W w214 (R13 ++ R215) Φ14 → Calls Try.prog
  F.errataref08_Replica_append #[Value.pointer (some (Addr.mk rB rO none)), Value.agg #[Value.int IntKind.i64 m0, Value.int IntKind.i64 m1, Value.int IntKind.i64 m2, Value.int IntKind.i64 m3,
  Value.int IntKind.i64 m4, Value.int IntKind.i64 m5, Value.int IntKind.i64 m6, Value.bool m7, Value.slice m8P m8N m8C]] w214 fun (e216 : Ending) (w217 : World) => ∃ (c218 : Bool), ∃ (n219 :
  Int), ∃ (n220 : Int), ∃ (n221 : Int), ∃ (p222 : Option Addr), ∃ (k223 : Nat), ∃ (k224 : Nat), ∃ (p225 : Option Addr), ∃ (k226 : Nat), ∃ (k227 : Nat), e216 = Ending.returned (Value.agg
  #[Value.bool c218, Value.int IntKind.i64 n219, Value.int IntKind.i64 n220, Value.int IntKind.i64 n221, Value.slice p222 k223 k224, Value.slice p225 k226 k227]) ∧ ∃ (R228 : List Own), ∃
  (Φ229 : PW), Stable Φ229 ∧ Ctx W w217 (R228 ++ R215) Φ229 ∧ ∀ (w230 : World) (R231 : List Own), Ctx W w230 (R228 ++ R231) Φ229 → ∃ (n232 : Int), ∃ (n233 : Int), RowAt w230 rB (rO + 1)
  [Value.int IntKind.i64 n232, Value.int IntKind.i64 n233] ∧ okAgg Try.prog 40 = true ∧ Br (!(decide (n232 = n19) && (decide (n233 = n20) && true))) (∀ (w234 : World) (R235 : List Own), Ctx W
  w234 (R228 ++ R235) Φ229 → ∃ (n236 : Int), ∃ (n237 : Int), RowAt w234 rB (rO + 1) [Value.int IntKind.i64 n236, Value.int IntKind.i64 n237] ∧ ∀ (w238 : World) (R239 : List Own), Ctx W w238
  (R228 ++ R239) Φ229 → J (Value.agg #[Value.bool true, Value.int IntKind.i64 n236, Value.int IntKind.i64 n237, Value.int IntKind.i64 n221, Value.slice p222 k223 k224, Value.slice p225 k226
  k227]) w238) (∀ (w240 : World) (R241 : List Own), Ctx W w240 (R228 ++ R241) Φ229 → J (Value.agg #[Value.bool c218, Value.int IntKind.i64 n219, Value.int IntKind.i64 n220, Value.int
  IntKind.i64 n221, Value.slice p222 k223 k224, Value.slice p225 k226 k227]) w240)) (Br (decide (m0 = 3)) (∀ (w242 : World) (R243 : List Own), Ctx W w242 (R13 ++ R243) Φ14 → Calls Try.prog
  F.errataref08_Replica_appended #[Value.pointer (some (Addr.mk rB rO none)), Value.agg #[Value.int IntKind.i64 m0, Value.int IntKind.i64 m1, Value.int IntKind.i64 m2, Value.int IntKind.i64
  m3, Value.int IntKind.i64 m4, Value.int IntKind.i64 m5, Value.int IntKind.i64 m6, Value.bool m7, Value.slice m8P m8N m8C]] w242 fun (e244 : Ending) (w245 : World) => ∃ (c246 : Bool), ∃
  (n247 : Int), ∃ (n248 : Int), ∃ (n249 : Int), ∃ (p250 : Option Addr), ∃ (k251 : Nat), ∃ (k252 : Nat), ∃ (p253 : Option Addr), ∃ (k254 : Nat), ∃ (k255 : Nat), e244 = Ending.returned
  (Value.agg #[Value.bool c246, Value.int IntKind.i64 n247, Value.int IntKind.i64 n248, Value.int IntKind.i64 n249, Value.slice p250 k251 k252, Value.slice p253 k254 k255]) ∧ ∃ (R256 : List
  Own), ∃ (Φ257 : PW), Stable Φ257 ∧ Ctx W w245 (R256 ++ R243) Φ257 ∧ ∀ (w258 : World) (R259 : List Own), Ctx W w258 (R256 ++ R259) Φ257 → ∃ (n260 : Int), ∃ (n261 : Int), RowAt w258 rB (rO +
  1) [Value.int IntKind.i64 n260, Value.int IntKind.i64 n261] ∧ okAgg Try.prog 40 = true ∧ Br (!(decide (n260 = n19) && (decide (n261 = n20) && true))) (∀ (w262 : World) (R263 : List Own),
  Ctx W w262 (R256 ++ R263) Φ257 → ∃ (n264 : Int), ∃ (n265 : Int), RowAt w262 rB (rO + 1) [Value.int IntKind.i64 n264, Value.int IntKind.i64 n265] ∧ ∀ (w266 : World) (R267 : List Own), Ctx W
  w266 (R256 ++ R267) Φ257 → J (Value.agg #[Value.bool true, Value.int IntKind.i64 n264, Value.int IntKind.i64 n265, Value.int IntKind.i64 n249, Value.slice p250 k251 k252, Value.slice p253
  k254 k255]) w266) (∀ (w268 : World) (R269 : List Own), Ctx W w268 (R256 ++ R269) Φ257 → J (Value.agg #[Value.bool c246, Value.int IntKind.i64 n247, Value.int IntKind.i64 n248, Value.int
  IntKind.i64 n249, Value.slice p250 k251 k252, Value.slice p253 k254 k255]) w268)) (∀ (w270 : World) (R271 : List Own), Ctx W w270 (R13 ++ R271) Φ14 → ∃ (n272 : Int), ∃ (n273 : Int), RowAt
  w270 rB (rO + 1) [Value.int IntKind.i64 n272, Value.int IntKind.i64 n273] ∧ okAgg Try.prog 40 = true ∧ Br (!(decide (n272 = n19) && (decide (n273 = n20) && true))) (∀ (w274 : World) (R275 :
  List Own), Ctx W w274 (R13 ++ R275) Φ14 → ∃ (n276 : Int), ∃ (n277 : Int), RowAt w274 rB (rO + 1) [Value.int IntKind.i64 n276, Value.int IntKind.i64 n277] ∧ ∀ (w278 : World) (R279 : List
  Own), Ctx W w278 (R13 ++ R279) Φ14 → J (Value.agg #[Value.bool true, Value.int IntKind.i64 n276, Value.int IntKind.i64 n277, Value.int IntKind.i64 0, Value.slice none 0 0, Value.slice none
  0 0]) w278) (∀ (w280 : World) (R281 : List Own), Ctx W w280 (R13 ++ R281) Φ14 → J (Value.agg #[Value.bool false, Value.int IntKind.i64 0, Value.int IntKind.i64 0, Value.int IntKind.i64 0,
  Value.slice none 0 0, Value.slice none 0 0]) w280)))))))

theorem Berrataref08_Replica_Hear_run (rB rO : Nat) (m0 : Int) (m1 : Int) (m2 : Int) (m3 : Int) (m4 : Int) (m5 : Int) (m6 : Int) (m7 : Bool) (m8P : Option Addr) (m8N m8C : Nat) {W w : World} {R : List Own} {Φ : PW} [Stable Φ] {J : Value → World → Prop} (c : Ctx W w R Φ) (h : Berrataref08_Replica_Hear rB rO m0 m1 m2 m3 m4 m5 m6 m7 m8P m8N m8C W R Φ J) : Calls Try.prog F.errataref08_Replica_Hear #[.pointer (some ⟨rB, rO, none⟩), .agg #[.int .i64 m0, .int .i64 m1, .int .i64 m2, .int .i64 m3, .int .i64 m4, .int .i64 m5, .int .i64 m6, .bool m7, .slice m8P m8N m8C]] w fun e w' => ∃ v, e = .returned v ∧ J v w' :=
  vcFS_sound (H := { keep := some [0, 3, 4, 5, 6, 13, 26, 38, 39, 44, 49, 54, 64], track := [3, 4, 5, 6], stages := [(1, [.held [(0, true), (4, true), (1, true), (2, true), (3, true)], .stage [] (some 5), .stage [6] none])] }) (by rw [show vcFS Try.prog W { keep := some [0, 3, 4, 5, 6, 13, 26, 38, 39, 44, 49, 54, 64], track := [3, 4, 5, 6], stages := [(1, [.held [(0, true), (4, true), (1, true), (2, true), (3, true)], .stage [] (some 5), .stage [6] none])] } F.errataref08_Replica_Hear #[.pointer (some ⟨rB, rO, none⟩), .agg #[.int .i64 m0, .int .i64 m1, .int .i64 m2, .int .i64 m3, .int .i64 m4, .int .i64 m5, .int .i64 m6, .bool m7, .slice m8P m8N m8C]] R Φ J = Berrataref08_Replica_Hear rB rO m0 m1 m2 m3 m4 m5 m6 m7 m8P m8N m8C W R Φ J by kernel_rfl]; exact h) c

/-- (*errataref08.Replica).Tick -/
-- loop at region 11: 4 i; blocks 3 o
-- known blocks: 2 , 3 o, 5 m
def Berrataref08_Replica_Tick (rB rO : Nat) (W : World) (R : List Own) (Φ : PW) (J : Value → World → Prop) : Prop :=
  ∀ (b : Nat) (w0 : World) (R1 : List Own), Ctx W w0 (R ++ R1) Φ → ∃ (n2 : Int), w0.cell? (Addr.mk rB (rO + 4) none) = some (Value.int IntKind.i64 n2) ∧ Br (decide (n2 = 2)) (∀ (w3 : World)
  (R4 : List Own), Ctx W w3 (R ++ R4) Φ → Calls Try.prog F.errataref08_Replica_all #[Value.pointer (some (Addr.mk rB rO none))] w3 fun (e5 : Ending) (w6 : World) => ∃ (p7 : Option Addr), ∃
  (k8 : Nat), ∃ (k9 : Nat), e5 = Ending.returned (Value.slice p7 k8 k9) ∧ ∃ (R10 : List Own), ∃ (Φ11 : PW), Stable Φ11 ∧ Ctx W w6 (R10 ++ R4) Φ11 ∧ ∀ (w12 : World) (R13 : List Own), Ctx W w12
  (R10 ++ R13) Φ11 → J (Value.agg #[Value.bool false, Value.int IntKind.i64 0, Value.int IntKind.i64 0, Value.int IntKind.i64 0, Value.slice none 0 0, Value.slice p7 k8 k9]) w12) (∀ (w14 :
  World) (R15 : List Own), Ctx W w14 (R ++ R15) Φ → ∃ (n16 : Int), w14.cell? (Addr.mk rB (rO + 1) none) = some (Value.int IntKind.i64 n16) ∧ Br (decide (n16 = 1099511627776)) (∀ (w17 : World)
  (R18 : List Own), Ctx W w17 (R ++ R18) Φ → J (Value.agg #[Value.bool false, Value.int IntKind.i64 0, Value.int IntKind.i64 0, Value.int IntKind.i64 0, Value.slice none 0 0, Value.slice none
  0 0]) w17) (∀ (w19 : World) (R20 : List Own), Ctx W w19 (R ++ R20) Φ → ∃ (n21 : Int), w19.cell? (Addr.mk rB rO none) = some (Value.int IntKind.i64 n21) ∧ ∀ (w22 : World) (R23 : List Own),
  Ctx W w22 (R ++ R23) Φ → ∃ (n24 : Int), w22.cell? (Addr.mk rB (rO + 1) none) = some (Value.int IntKind.i64 n24) ∧ I64 (n24 + 1) ∧ ∀ (w25 : World) (R26 : List Own), Ctx W w25 (R ++ R26) Φ →
  CanWrite w25 rB (rO + 1) 2 ∧ ∀ (w27 : World), w27 = w25.setCells rB (rO + 1) [Value.int IntKind.i64 (n24 + 1), Value.int IntKind.i64 n21] → ∃ (R28 : List Own), ∃ (Φ29 : PW), Stable Φ29 ∧
  Ctx W w27 (R28 ++ R26) Φ29 ∧ ∀ (w30 : World) (R31 : List Own), Ctx W w30 (R28 ++ R31) Φ29 → CanWrite w30 rB (rO + 4) 1 ∧ ∀ (w32 : World), w32 = w30.setCell (Addr.mk rB (rO + 4) none)
  (Value.int IntKind.i64 1) → ∃ (R33 : List Own), ∃ (Φ34 : PW), Stable Φ34 ∧ Ctx W w32 (R33 ++ R31) Φ34 ∧ ((0 : Int) ≤ 3 ∧ (3 : Int) ≤ 3 ∧ (3 : Int) ≤ 281474976710656 ∧ (3 : Int) ≤
  9223372036854775807) ∧ ∀ (k35 : Nat) (w36 : World) (R37 : List Own), Ctx W w36 (Own.blk k35 [Value.bool false, Value.bool false, Value.bool false] 4 :: R33 ++ R37) Φ34 → CanWrite w36 rB (rO
  + 6) 1 ∧ ∀ (w38 : World), w38 = w36.setCell (Addr.mk rB (rO + 6) none) (Value.slice (some (Addr.mk k35 0 none)) 3 3) → ∃ (R39 : List Own), ∃ (Φ40 : PW), Stable Φ40 ∧ Ctx W w38 (R39 ++ R37)
  Φ40 ∧ ∀ (w41 : World) (R42 : List Own), Ctx W w41 (R39 ++ R42) Φ40 → ∃ (p43 : Option Addr), ∃ (k44 : Nat), ∃ (k45 : Nat), w41.cell? (Addr.mk rB (rO + 6) none) = some (Value.slice p43 k44
  k45) ∧ ∀ (w46 : World) (R47 : List Own), Ctx W w46 (R39 ++ R47) Φ40 → ∃ (n48 : Int), w46.cell? (Addr.mk rB rO none) = some (Value.int IntKind.i64 n48) ∧ (0 ≤ n48 ∧ n48 < (↑k44 : Int)) ∧
  ptrK none p43 fun (k49 k50 : Nat) => ∀ (w51 : World) (R52 : List Own), Ctx W w51 (R39 ++ R52) Φ40 → CanWrite w51 k49 (k50 + n48.toNat) 1 ∧ ∀ (w53 : World), w53 = w51.setCell (Addr.mk k49
  (k50 + n48.toNat) none) (Value.bool true) → ∃ (R54 : List Own), ∃ (Φ55 : PW), Stable Φ55 ∧ Ctx W w53 (R54 ++ R52) Φ55 ∧ ∀ (w56 : World) (R57 : List Own), Ctx W w56 (R54 ++ R57) Φ55 → ∃ (n58
  : Int), ∃ (n59 : Int), RowAt w56 rB (rO + 1) [Value.int IntKind.i64 n58, Value.int IntKind.i64 n59] ∧ ∀ (b : Nat), exI fun (I60 : Int → Bool → Int → Int → Int → Option Addr → Nat → Nat →
  Option Addr → Nat → Nat → List Own → PW → Nat → Prop) => (∃ (R61 : List Own), ∃ (Φ62 : PW), ∃ (k63 : Nat), Stable Φ62 ∧ (∀ (w64 : World) (R65 : List Own), Ctx W w64 (R54 ++ R65) Φ55 → Ctx W
  w64 (R61 ++ R65) Φ62) ∧ I60 0 true n58 n59 0 none 0 0 none 0 0 R61 Φ62 k63) ∧ ∀ (n66 : Int) (c67 : Bool) (n68 n69 n70 : Int) (p71 : Option Addr) (k72 k73 : Nat) (p74 : Option Addr) (k75 k76
  : Nat) (R77 : List Own) (I78 : List Nat → World → Prop) (k79 : Nat), Stable I78 → I60 n66 c67 n68 n69 n70 p71 k72 k73 p74 k75 k76 R77 I78 k79 → Br (decide (n66 < 3)) (∀ (w80 : World) (R81 :
  List Own), Ctx W w80 (R77 ++ R81) I78 → ∃ (n82 : Int), w80.cell? (Addr.mk rB rO none) = some (Value.int IntKind.i64 n82) ∧ Br (decide (n66 ≠ n82)) (∀ (w83 : World) (R84 : List Own), Ctx W
  w83 (R77 ++ R84) I78 → Calls Try.prog F.errataref08_Replica_message #[Value.pointer (some (Addr.mk rB rO none)), Value.int IntKind.i64 0, Value.int IntKind.i64 n66] w83 fun (e85 : Ending)
  (w86 : World) => ∃ (n87 : Int), ∃ (n88 : Int), ∃ (n89 : Int), ∃ (n90 : Int), ∃ (n91 : Int), ∃ (n92 : Int), ∃ (n93 : Int), ∃ (c94 : Bool), ∃ (p95 : Option Addr), ∃ (k96 : Nat), ∃ (k97 :
  Nat), e85 = Ending.returned (Value.agg #[Value.int IntKind.i64 n87, Value.int IntKind.i64 n88, Value.int IntKind.i64 n89, Value.int IntKind.i64 n90, Value.int IntKind.i64 n91, Value.int
  IntKind.i64 n92, Value.int IntKind.i64 n93, Value.bool c94, Value.slice p95 k96 k97]) ∧ ∃ (R98 : List Own), ∃ (Φ99 : PW), Stable Φ99 ∧ Ctx W w86 (R98 ++ R84) Φ99 ∧ ∀ (b : Nat) (w100 :
  World) (R101 : List Own), Ctx W w100 (R98 ++ R101) Φ99 → ∃ (p102 : Option Addr), ∃ (k103 : Nat), ∃ (k104 : Nat), w100.cell? (Addr.mk rB (rO + 3) none) = some (Value.slice p102 k103 k104) ∧
  ∀ (w105 : World) (R106 : List Own), Ctx W w105 (R98 ++ R106) Φ99 → ∃ (p107 : Option Addr), ∃ (k108 : Nat), ∃ (k109 : Nat), w105.cell? (Addr.mk rB (rO + 3) none) = some (Value.slice p107
  k108 k109) ∧ ∀ (w110 : World) (R111 : List Own), Ctx W w110 (R98 ++ R111) Φ99 → Calls Try.prog F.errataref08_Replica_term #[Value.pointer (some (Addr.mk rB rO none)), Value.int IntKind.i64
  (↑k108 : Int)] w110 fun (e112 : Ending) (w113 : World) => ∃ (n114 : Int), e112 = Ending.returned (Value.int IntKind.i64 n114) ∧ ∃ (R115 : List Own), ∃ (Φ116 : PW), Stable Φ116 ∧ Ctx W w113
  (R115 ++ R111) Φ116 ∧ ∀ (k117 : Nat) (w118 : World) (R119 : List Own), Ctx W w118 (Own.blk k117 [Value.int IntKind.i64 n87, Value.int IntKind.i64 n88, Value.int IntKind.i64 n89, Value.int
  IntKind.i64 n90, Value.int IntKind.i64 (↑k103 : Int), Value.int IntKind.i64 n114, Value.int IntKind.i64 n93, Value.bool c94, Value.slice p95 k96 k97] 37 :: R115 ++ R119) Φ116 → ∃ (p120 :
  Option Addr), ∃ (k121 : Nat), ∃ (k122 : Nat), ∃ (w123 : World), Sem.run Try.prog (builtin Builtin.append #[27, 27] 27 #[false, false] #[Value.slice p74 k75 k76, Value.slice (some (Addr.mk
  k117 0 none)) 1 1]) w118 = Result.ok (Next.value (Value.slice p120 k121 k122)) w123 ∧ ∃ (R124 : List Own), ∃ (Φ125 : PW), Stable Φ125 ∧ Ctx W w123 (R124 ++ R119) Φ125 ∧ I64 (n66 + 1) ∧ ∃
  (R126 : List Own), ∃ (Φ127 : PW), ∃ (k128 : Nat), Stable Φ127 ∧ (∀ (w129 : World) (R130 : List Own), Ctx W w129 (R124 ++ R130) Φ125 → Ctx W w129 (R126 ++ R130) Φ127) ∧ I60 (n66 + 1) c67 n68
  n69 n70 p71 k72 k73 p120 k121 k122 R126 Φ127 k128 ∧ k128 < k79) (I64 (n66 + 1) ∧ ∃ (R131 : List Own), ∃ (Φ132 : PW), ∃ (k133 : Nat), Stable Φ132 ∧ (∀ (w134 : World) (R135 : List Own), Ctx W
  w134 (R77 ++ R135) I78 → Ctx W w134 (R131 ++ R135) Φ132) ∧ I60 (n66 + 1) c67 n68 n69 n70 p71 k72 k73 p74 k75 k76 R131 Φ132 k133 ∧ k133 < k79)) (∀ (w136 : World) (R137 : List Own), Ctx W
  w136 (R77 ++ R137) I78 → J (Value.agg #[Value.bool c67, Value.int IntKind.i64 n68, Value.int IntKind.i64 n69, Value.int IntKind.i64 n70, Value.slice p71 k72 k73, Value.slice p74 k75 k76])
  w136)))

theorem Berrataref08_Replica_Tick_run (rB rO : Nat) {W w : World} {R : List Own} {Φ : PW} [Stable Φ] {J : Value → World → Prop} (c : Ctx W w R Φ) (h : Berrataref08_Replica_Tick rB rO W R Φ J) : Calls Try.prog F.errataref08_Replica_Tick #[.pointer (some ⟨rB, rO, none⟩)] w fun e w' => ∃ v, e = .returned v ∧ J v w' :=
  vcFS_sound (H := { keep := some [0, 2, 3, 4, 5, 10, 19, 57, 65], track := [2, 3, 5], stages := [(5, [.stage [0, 1, 7, 2, 8, 3, 9, 4, 10, 5, 6, 11] none, .stage [12] none, .stage [13] (some 14)]), (8, [.stage [0, 4, 1, 5, 2, 6, 3, 7, 8] (some 9)])], loops := [(11, [(4, .one (.int .i64))], [(3, .agg [.bool, .int .i64, .int .i64, .int .i64, .slice, .slice])])] }) (by rw [show vcFS Try.prog W { keep := some [0, 2, 3, 4, 5, 10, 19, 57, 65], track := [2, 3, 5], stages := [(5, [.stage [0, 1, 7, 2, 8, 3, 9, 4, 10, 5, 6, 11] none, .stage [12] none, .stage [13] (some 14)]), (8, [.stage [0, 4, 1, 5, 2, 6, 3, 7, 8] (some 9)])], loops := [(11, [(4, .one (.int .i64))], [(3, .agg [.bool, .int .i64, .int .i64, .int .i64, .slice, .slice])])] } F.errataref08_Replica_Tick #[.pointer (some ⟨rB, rO, none⟩)] R Φ J = Berrataref08_Replica_Tick rB rO W R Φ J by kernel_rfl]; exact h) c

/-- (*errataref08.Replica).Propose -/
-- known blocks: 7 x
def Berrataref08_Replica_Propose (rB rO : Nat) (data : ByteArray) (W : World) (R : List Own) (Φ : PW) (J : Value → World → Prop) : Prop :=
  ∀ (k0 : Nat) (w1 : World) (R2 : List Own), Ctx W w1 (Own.blk k0 [Value.bool false, Value.int IntKind.i64 0, Value.int IntKind.i64 0, Value.int IntKind.i64 0, Value.slice none 0 0,
  Value.slice none 0 0] 45 :: R ++ R2) Φ → ∃ (n3 : Int), w1.cell? (Addr.mk rB (rO + 4) none) = some (Value.int IntKind.i64 n3) ∧ Br (decide (n3 ≠ 2)) (∀ (w4 : World) (R5 : List Own), Ctx W w4
  (Own.blk k0 [Value.bool false, Value.int IntKind.i64 0, Value.int IntKind.i64 0, Value.int IntKind.i64 0, Value.slice none 0 0, Value.slice none 0 0] 45 :: R ++ R5) Φ → CanWrite w4 k0 0 6 ∧
  ∀ (w6 : World), w6 = w4.setCells k0 0 [Value.bool false, Value.int IntKind.i64 0, Value.int IntKind.i64 0, Value.int IntKind.i64 0, Value.slice none 0 0, Value.slice none 0 0] → ∃ (R7 :
  List Own), ∃ (Φ8 : PW), Stable Φ8 ∧ Ctx W w6 (R7 ++ R5) Φ8 ∧ ∀ (w9 : World) (R10 : List Own), Ctx W w9 (R7 ++ R10) Φ8 → ∃ (c11 : Bool), ∃ (n12 : Int), ∃ (n13 : Int), ∃ (n14 : Int), ∃ (p15 :
  Option Addr), ∃ (k16 : Nat), ∃ (k17 : Nat), ∃ (p18 : Option Addr), ∃ (k19 : Nat), ∃ (k20 : Nat), RowAt w9 k0 0 [Value.bool c11, Value.int IntKind.i64 n12, Value.int IntKind.i64 n13,
  Value.int IntKind.i64 n14, Value.slice p15 k16 k17, Value.slice p18 k19 k20] ∧ ∀ (w21 : World) (R22 : List Own), Ctx W w21 (R7 ++ R22) Φ8 → J (Value.tuple #[Value.int IntKind.i64 0,
  Value.int IntKind.i64 24, Value.agg #[Value.bool c11, Value.int IntKind.i64 n12, Value.int IntKind.i64 n13, Value.int IntKind.i64 n14, Value.slice p15 k16 k17, Value.slice p18 k19 k20]])
  w21) (Br (decide (2000 < (↑data.size : Int))) (∀ (w23 : World) (R24 : List Own), Ctx W w23 (Own.blk k0 [Value.bool false, Value.int IntKind.i64 0, Value.int IntKind.i64 0, Value.int
  IntKind.i64 0, Value.slice none 0 0, Value.slice none 0 0] 45 :: R ++ R24) Φ → CanWrite w23 k0 0 6 ∧ ∀ (w25 : World), w25 = w23.setCells k0 0 [Value.bool false, Value.int IntKind.i64 0,
  Value.int IntKind.i64 0, Value.int IntKind.i64 0, Value.slice none 0 0, Value.slice none 0 0] → ∃ (R26 : List Own), ∃ (Φ27 : PW), Stable Φ27 ∧ Ctx W w25 (R26 ++ R24) Φ27 ∧ ∀ (w28 : World)
  (R29 : List Own), Ctx W w28 (R26 ++ R29) Φ27 → ∃ (c30 : Bool), ∃ (n31 : Int), ∃ (n32 : Int), ∃ (n33 : Int), ∃ (p34 : Option Addr), ∃ (k35 : Nat), ∃ (k36 : Nat), ∃ (p37 : Option Addr), ∃
  (k38 : Nat), ∃ (k39 : Nat), RowAt w28 k0 0 [Value.bool c30, Value.int IntKind.i64 n31, Value.int IntKind.i64 n32, Value.int IntKind.i64 n33, Value.slice p34 k35 k36, Value.slice p37 k38
  k39] ∧ ∀ (w40 : World) (R41 : List Own), Ctx W w40 (R26 ++ R41) Φ27 → J (Value.tuple #[Value.int IntKind.i64 0, Value.int IntKind.i64 1, Value.agg #[Value.bool c30, Value.int IntKind.i64
  n31, Value.int IntKind.i64 n32, Value.int IntKind.i64 n33, Value.slice p34 k35 k36, Value.slice p37 k38 k39]]) w40) (∀ (w42 : World) (R43 : List Own), Ctx W w42 (Own.blk k0 [Value.bool
  false, Value.int IntKind.i64 0, Value.int IntKind.i64 0, Value.int IntKind.i64 0, Value.slice none 0 0, Value.slice none 0 0] 45 :: R ++ R43) Φ → ∃ (p44 : Option Addr), ∃ (k45 : Nat), ∃
  (k46 : Nat), w42.cell? (Addr.mk rB (rO + 3) none) = some (Value.slice p44 k45 k46) ∧ Br (decide ((↑k45 : Int) = 4000)) (∀ (w47 : World) (R48 : List Own), Ctx W w47 (Own.blk k0 [Value.bool
  false, Value.int IntKind.i64 0, Value.int IntKind.i64 0, Value.int IntKind.i64 0, Value.slice none 0 0, Value.slice none 0 0] 45 :: R ++ R48) Φ → CanWrite w47 k0 0 6 ∧ ∀ (w49 : World), w49
  = w47.setCells k0 0 [Value.bool false, Value.int IntKind.i64 0, Value.int IntKind.i64 0, Value.int IntKind.i64 0, Value.slice none 0 0, Value.slice none 0 0] → ∃ (R50 : List Own), ∃ (Φ51 :
  PW), Stable Φ51 ∧ Ctx W w49 (R50 ++ R48) Φ51 ∧ ∀ (w52 : World) (R53 : List Own), Ctx W w52 (R50 ++ R53) Φ51 → ∃ (c54 : Bool), ∃ (n55 : Int), ∃ (n56 : Int), ∃ (n57 : Int), ∃ (p58 : Option
  Addr), ∃ (k59 : Nat), ∃ (k60 : Nat), ∃ (p61 : Option Addr), ∃ (k62 : Nat), ∃ (k63 : Nat), RowAt w52 k0 0 [Value.bool c54, Value.int IntKind.i64 n55, Value.int IntKind.i64 n56, Value.int
  IntKind.i64 n57, Value.slice p58 k59 k60, Value.slice p61 k62 k63] ∧ ∀ (w64 : World) (R65 : List Own), Ctx W w64 (R50 ++ R65) Φ51 → J (Value.tuple #[Value.int IntKind.i64 0, Value.int
  IntKind.i64 6, Value.agg #[Value.bool c54, Value.int IntKind.i64 n55, Value.int IntKind.i64 n56, Value.int IntKind.i64 n57, Value.slice p58 k59 k60, Value.slice p61 k62 k63]]) w64) (∀ (w66
  : World) (R67 : List Own), Ctx W w66 (Own.blk k0 [Value.bool false, Value.int IntKind.i64 0, Value.int IntKind.i64 0, Value.int IntKind.i64 0, Value.slice none 0 0, Value.slice none 0 0] 45
  :: R ++ R67) Φ → ∃ (n68 : Int), w66.cell? (Addr.mk rB (rO + 1) none) = some (Value.int IntKind.i64 n68) ∧ ∀ (b : Nat), ∃ (R69 : List Own), ∃ (Φ70 : PW), Stable Φ70 ∧ (∀ (w71 : World) (R72 :
  List Own), Ctx W w71 (Own.blk k0 [Value.bool false, Value.int IntKind.i64 0, Value.int IntKind.i64 0, Value.int IntKind.i64 0, Value.slice none 0 0, Value.slice none 0 0] 45 :: R ++ R72) Φ
  → Ctx W w71 (R69 ++ R72) Φ70) ∧ ∃ (p73 : Option Addr), ∃ (k74 : Nat), ∃ (k75 : Nat), (∀ (w76 : World) (R77 : List Own), Ctx W w76 (R69 ++ R77) Φ70 → ∃ (p78 : Option Addr), ∃ (k79 : Nat), ∃
  (k80 : Nat), w76.cell? (Addr.mk rB (rO + 3) none) = some (Value.slice p78 k79 k80) ∧ Value.slice p78 k79 k80 = Value.slice p73 k74 k75) ∧ (∀ (k81 : Nat), (∀ (w82 : World) (R83 : List Own),
  Ctx W w82 (Own.blk k81 [] 55 :: Own.blk k0 [Value.bool false, Value.int IntKind.i64 0, Value.int IntKind.i64 0, Value.int IntKind.i64 0, Value.slice none 0 0, Value.slice none 0 0] 45 :: R
  ++ R83) Φ → Ctx W w82 (R69 ++ R83) Φ70) ∧ (∀ (w84 : World) (R85 : List Own), Ctx W w84 (Own.blk k81 [] 55 :: Own.blk k0 [Value.bool false, Value.int IntKind.i64 0, Value.int IntKind.i64 0,
  Value.int IntKind.i64 0, Value.slice none 0 0, Value.slice none 0 0] 45 :: R ++ R85) Φ → ∃ (p86 : Option Addr), ∃ (k87 : Nat), ∃ (k88 : Nat), ∃ (w89 : World), Sem.run Try.prog (builtin
  Builtin.append #[35, 35] 35 #[false, false] #[Value.slice (some (Addr.mk k81 0 none)) 0 0, Value.slice p73 k74 k75]) w84 = Result.ok (Next.value (Value.slice p86 k87 k88)) w89 ∧ ∃ (R90 :
  List Own), ∃ (Φ91 : PW), Stable Φ91 ∧ Ctx W w89 (R90 ++ R85) Φ91 ∧ (∀ (w92 : World) (R93 : List Own), Ctx W w92 (R90 ++ R93) Φ91 → Ctx W w92 (R69 ++ R93) Φ70) ∧ (∀ (k94 : Nat), (∀ (w95 :
  World) (R96 : List Own), Ctx W w95 (Own.blk k94 [Value.int IntKind.i64 n68, Value.string data] 55 :: R90 ++ R96) Φ91 → Ctx W w95 (R69 ++ R96) Φ70) ∧ (∀ (w97 : World) (R98 : List Own), Ctx W
  w97 (Own.blk k94 [Value.int IntKind.i64 n68, Value.string data] 55 :: R90 ++ R98) Φ91 → ∃ (p99 : Option Addr), ∃ (k100 : Nat), ∃ (k101 : Nat), ∃ (w102 : World), Sem.run Try.prog (builtin
  Builtin.append #[35, 35] 35 #[false, false] #[Value.slice p86 k87 k88, Value.slice (some (Addr.mk k94 0 none)) 1 1]) w97 = Result.ok (Next.value (Value.slice p99 k100 k101)) w102 ∧ ∃ (R103
  : List Own), ∃ (Φ104 : PW), Stable Φ104 ∧ Ctx W w102 (R103 ++ R98) Φ104 ∧ (∀ (w105 : World) (R106 : List Own), Ctx W w105 (R103 ++ R106) Φ104 → Ctx W w105 (R69 ++ R106) Φ70) ∧ ∀ (w107 :
  World) (R108 : List Own), Ctx W w107 (R103 ++ R108) Φ104 → CanWrite w107 rB (rO + 3) 1 ∧ ∀ (w109 : World), w109 = w107.setCell (Addr.mk rB (rO + 3) none) (Value.slice p99 k100 k101) → ∃
  (R110 : List Own), ∃ (Φ111 : PW), Stable Φ111 ∧ Ctx W w109 (R110 ++ R108) Φ111 ∧ ∃ (R112 : List Own), ∃ (Φ113 : PW), Stable Φ113 ∧ (∀ (w114 : World) (R115 : List Own), Ctx W w114 (R110 ++
  R115) Φ111 → Ctx W w114 (R112 ++ R115) Φ113) ∧ ∃ (p116 : Option Addr), ∃ (k117 : Nat), ∃ (k118 : Nat), (∀ (w119 : World) (R120 : List Own), Ctx W w119 (R112 ++ R120) Φ113 → ∃ (p121 : Option
  Addr), ∃ (k122 : Nat), ∃ (k123 : Nat), w119.cell? (Addr.mk rB (rO + 3) none) = some (Value.slice p121 k122 k123) ∧ Value.slice p121 k122 k123 = Value.slice p116 k117 k118) ∧ ∃ (p124 :
  Option Addr), ∃ (k125 : Nat), ∃ (k126 : Nat), (∀ (w127 : World) (R128 : List Own), Ctx W w127 (R112 ++ R128) Φ113 → ∃ (p129 : Option Addr), ∃ (k130 : Nat), ∃ (k131 : Nat), w127.cell?
  (Addr.mk rB (rO + 3) none) = some (Value.slice p129 k130 k131) ∧ Value.slice p129 k130 k131 = Value.slice p124 k125 k126) ∧ (∀ (k132 : Nat), (∀ (w133 : World) (R134 : List Own), Ctx W w133
  (Own.blk k132 [Value.int IntKind.i64 n68, Value.string data] 55 :: R110 ++ R134) Φ111 → Ctx W w133 (R112 ++ R134) Φ113) ∧ (∀ (w135 : World) (R136 : List Own), Ctx W w135 (Own.blk k132
  [Value.int IntKind.i64 n68, Value.string data] 55 :: R110 ++ R136) Φ111 → Calls Try.prog F.errataref08_Replica_all #[Value.pointer (some (Addr.mk rB rO none))] w135 fun (e137 : Ending)
  (w138 : World) => ∃ (p139 : Option Addr), ∃ (k140 : Nat), ∃ (k141 : Nat), e137 = Ending.returned (Value.slice p139 k140 k141) ∧ ∃ (R142 : List Own), ∃ (Φ143 : PW), Stable Φ143 ∧ Ctx W w138
  (R142 ++ R136) Φ143 ∧ (∀ (w144 : World) (R145 : List Own), Ctx W w144 (R142 ++ R145) Φ143 → Ctx W w144 (R112 ++ R145) Φ113) ∧ ∀ (w146 : World) (R147 : List Own), Ctx W w146 (R142 ++ R147)
  Φ143 → CanWrite w146 k0 0 6 ∧ ∀ (w148 : World), w148 = w146.setCells k0 0 [Value.bool false, Value.int IntKind.i64 0, Value.int IntKind.i64 0, Value.int IntKind.i64 (↑k125 : Int),
  Value.slice (some (Addr.mk k132 0 none)) 1 1, Value.slice p139 k140 k141] → ∃ (R149 : List Own), ∃ (Φ150 : PW), Stable Φ150 ∧ Ctx W w148 (R149 ++ R147) Φ150 ∧ ∀ (w151 : World) (R152 : List
  Own), Ctx W w151 (R149 ++ R152) Φ150 → ∃ (c153 : Bool), ∃ (n154 : Int), ∃ (n155 : Int), ∃ (n156 : Int), ∃ (p157 : Option Addr), ∃ (k158 : Nat), ∃ (k159 : Nat), ∃ (p160 : Option Addr), ∃
  (k161 : Nat), ∃ (k162 : Nat), RowAt w151 k0 0 [Value.bool c153, Value.int IntKind.i64 n154, Value.int IntKind.i64 n155, Value.int IntKind.i64 n156, Value.slice p157 k158 k159, Value.slice
  p160 k161 k162] ∧ ∀ (w163 : World) (R164 : List Own), Ctx W w163 (R149 ++ R164) Φ150 → J (Value.tuple #[Value.int IntKind.i64 (↑k117 : Int), Value.int IntKind.i64 0, Value.agg #[Value.bool
  c153, Value.int IntKind.i64 n154, Value.int IntKind.i64 n155, Value.int IntKind.i64 n156, Value.slice p157 k158 k159, Value.slice p160 k161 k162]]) w163) ∧ True) ∧ (∀ (w165 : World) (R166 :
  List Own), Ctx W w165 (R110 ++ R166) Φ111 → Calls Try.prog F.errataref08_Replica_all #[Value.pointer (some (Addr.mk rB rO none))] w165 fun (e167 : Ending) (w168 : World) => ∃ (p169 : Option
  Addr), ∃ (k170 : Nat), ∃ (k171 : Nat), e167 = Ending.returned (Value.slice p169 k170 k171) ∧ ∃ (R172 : List Own), ∃ (Φ173 : PW), Stable Φ173 ∧ Ctx W w168 (R172 ++ R166) Φ173 ∧ (∀ (w174 :
  World) (R175 : List Own), Ctx W w174 (R172 ++ R175) Φ173 → Ctx W w174 (R112 ++ R175) Φ113) ∧ (∀ (k176 : Nat), (∀ (w177 : World) (R178 : List Own), Ctx W w177 (Own.blk k176 [Value.int
  IntKind.i64 n68, Value.string data] 55 :: R172 ++ R178) Φ173 → Ctx W w177 (R112 ++ R178) Φ113) ∧ ∀ (w179 : World) (R180 : List Own), Ctx W w179 (Own.blk k176 [Value.int IntKind.i64 n68,
  Value.string data] 55 :: R172 ++ R180) Φ173 → CanWrite w179 k0 0 6 ∧ ∀ (w181 : World), w181 = w179.setCells k0 0 [Value.bool false, Value.int IntKind.i64 0, Value.int IntKind.i64 0,
  Value.int IntKind.i64 (↑k125 : Int), Value.slice (some (Addr.mk k176 0 none)) 1 1, Value.slice p169 k170 k171] → ∃ (R182 : List Own), ∃ (Φ183 : PW), Stable Φ183 ∧ Ctx W w181 (R182 ++ R180)
  Φ183 ∧ ∀ (w184 : World) (R185 : List Own), Ctx W w184 (R182 ++ R185) Φ183 → ∃ (c186 : Bool), ∃ (n187 : Int), ∃ (n188 : Int), ∃ (n189 : Int), ∃ (p190 : Option Addr), ∃ (k191 : Nat), ∃ (k192
  : Nat), ∃ (p193 : Option Addr), ∃ (k194 : Nat), ∃ (k195 : Nat), RowAt w184 k0 0 [Value.bool c186, Value.int IntKind.i64 n187, Value.int IntKind.i64 n188, Value.int IntKind.i64 n189,
  Value.slice p190 k191 k192, Value.slice p193 k194 k195] ∧ ∀ (w196 : World) (R197 : List Own), Ctx W w196 (R182 ++ R197) Φ183 → J (Value.tuple #[Value.int IntKind.i64 (↑k117 : Int),
  Value.int IntKind.i64 0, Value.agg #[Value.bool c186, Value.int IntKind.i64 n187, Value.int IntKind.i64 n188, Value.int IntKind.i64 n189, Value.slice p190 k191 k192, Value.slice p193 k194
  k195]]) w196) ∧ True) ∧ True) ∧ True) ∧ True) ∧ (∀ (k198 : Nat), (∀ (w199 : World) (R200 : List Own), Ctx W w199 (Own.blk k198 [Value.int IntKind.i64 n68, Value.string data] 55 :: Own.blk
  k81 [] 55 :: Own.blk k0 [Value.bool false, Value.int IntKind.i64 0, Value.int IntKind.i64 0, Value.int IntKind.i64 0, Value.slice none 0 0, Value.slice none 0 0] 45 :: R ++ R200) Φ → Ctx W
  w199 (R69 ++ R200) Φ70) ∧ (∀ (w201 : World) (R202 : List Own), Ctx W w201 (Own.blk k198 [Value.int IntKind.i64 n68, Value.string data] 55 :: Own.blk k81 [] 55 :: Own.blk k0 [Value.bool
  false, Value.int IntKind.i64 0, Value.int IntKind.i64 0, Value.int IntKind.i64 0, Value.slice none 0 0, Value.slice none 0 0] 45 :: R ++ R202) Φ → ∃ (p203 : Option Addr), ∃ (k204 : Nat), ∃
  (k205 : Nat), ∃ (w206 : World), Sem.run Try.prog (builtin Builtin.append #[35, 35] 35 #[false, false] #[Value.slice (some (Addr.mk k81 0 none)) 0 0, Value.slice p73 k74 k75]) w201 =
  Result.ok (Next.value (Value.slice p203 k204 k205)) w206 ∧ ∃ (R207 : List Own), ∃ (Φ208 : PW), Stable Φ208 ∧ Ctx W w206 (R207 ++ R202) Φ208 ∧ (∀ (w209 : World) (R210 : List Own), Ctx W w209
  (R207 ++ R210) Φ208 → Ctx W w209 (R69 ++ R210) Φ70) ∧ (∀ (w211 : World) (R212 : List Own), Ctx W w211 (R207 ++ R212) Φ208 → ∃ (p213 : Option Addr), ∃ (k214 : Nat), ∃ (k215 : Nat), ∃ (w216 :
  World), Sem.run Try.prog (builtin Builtin.append #[35, 35] 35 #[false, false] #[Value.slice p203 k204 k205, Value.slice (some (Addr.mk k198 0 none)) 1 1]) w211 = Result.ok (Next.value
  (Value.slice p213 k214 k215)) w216 ∧ ∃ (R217 : List Own), ∃ (Φ218 : PW), Stable Φ218 ∧ Ctx W w216 (R217 ++ R212) Φ218 ∧ (∀ (w219 : World) (R220 : List Own), Ctx W w219 (R217 ++ R220) Φ218 →
  Ctx W w219 (R69 ++ R220) Φ70) ∧ ∀ (w221 : World) (R222 : List Own), Ctx W w221 (R217 ++ R222) Φ218 → CanWrite w221 rB (rO + 3) 1 ∧ ∀ (w223 : World), w223 = w221.setCell (Addr.mk rB (rO + 3)
  none) (Value.slice p213 k214 k215) → ∃ (R224 : List Own), ∃ (Φ225 : PW), Stable Φ225 ∧ Ctx W w223 (R224 ++ R222) Φ225 ∧ ∃ (R226 : List Own), ∃ (Φ227 : PW), Stable Φ227 ∧ (∀ (w228 : World)
  (R229 : List Own), Ctx W w228 (R224 ++ R229) Φ225 → Ctx W w228 (R226 ++ R229) Φ227) ∧ ∃ (p230 : Option Addr), ∃ (k231 : Nat), ∃ (k232 : Nat), (∀ (w233 : World) (R234 : List Own), Ctx W w233
  (R226 ++ R234) Φ227 → ∃ (p235 : Option Addr), ∃ (k236 : Nat), ∃ (k237 : Nat), w233.cell? (Addr.mk rB (rO + 3) none) = some (Value.slice p235 k236 k237) ∧ Value.slice p235 k236 k237 =
  Value.slice p230 k231 k232) ∧ ∃ (p238 : Option Addr), ∃ (k239 : Nat), ∃ (k240 : Nat), (∀ (w241 : World) (R242 : List Own), Ctx W w241 (R226 ++ R242) Φ227 → ∃ (p243 : Option Addr), ∃ (k244 :
  Nat), ∃ (k245 : Nat), w241.cell? (Addr.mk rB (rO + 3) none) = some (Value.slice p243 k244 k245) ∧ Value.slice p243 k244 k245 = Value.slice p238 k239 k240) ∧ (∀ (k246 : Nat), (∀ (w247 :
  World) (R248 : List Own), Ctx W w247 (Own.blk k246 [Value.int IntKind.i64 n68, Value.string data] 55 :: R224 ++ R248) Φ225 → Ctx W w247 (R226 ++ R248) Φ227) ∧ (∀ (w249 : World) (R250 : List
  Own), Ctx W w249 (Own.blk k246 [Value.int IntKind.i64 n68, Value.string data] 55 :: R224 ++ R250) Φ225 → Calls Try.prog F.errataref08_Replica_all #[Value.pointer (some (Addr.mk rB rO
  none))] w249 fun (e251 : Ending) (w252 : World) => ∃ (p253 : Option Addr), ∃ (k254 : Nat), ∃ (k255 : Nat), e251 = Ending.returned (Value.slice p253 k254 k255) ∧ ∃ (R256 : List Own), ∃ (Φ257
  : PW), Stable Φ257 ∧ Ctx W w252 (R256 ++ R250) Φ257 ∧ (∀ (w258 : World) (R259 : List Own), Ctx W w258 (R256 ++ R259) Φ257 → Ctx W w258 (R226 ++ R259) Φ227) ∧ ∀ (w260 : World) (R261 : List
  Own), Ctx W w260 (R256 ++ R261) Φ257 → CanWrite w260 k0 0 6 ∧ ∀ (w262 : World), w262 = w260.setCells k0 0 [Value.bool false, Value.int IntKind.i64 0, Value.int IntKind.i64 0, Value.int
  IntKind.i64 (↑k239 : Int), Value.slice (some (Addr.mk k246 0 none)) 1 1, Value.slice p253 k254 k255] → ∃ (R263 : List Own), ∃ (Φ264 : PW), Stable Φ264 ∧ Ctx W w262 (R263 ++ R261) Φ264 ∧ ∀
  (w265 : World) (R266 : List Own), Ctx W w265 (R263 ++ R266) Φ264 → ∃ (c267 : Bool), ∃ (n268 : Int), ∃ (n269 : Int), ∃ (n270 : Int), ∃ (p271 : Option Addr), ∃ (k272 : Nat), ∃ (k273 : Nat), ∃
  (p274 : Option Addr), ∃ (k275 : Nat), ∃ (k276 : Nat), RowAt w265 k0 0 [Value.bool c267, Value.int IntKind.i64 n268, Value.int IntKind.i64 n269, Value.int IntKind.i64 n270, Value.slice p271
  k272 k273, Value.slice p274 k275 k276] ∧ ∀ (w277 : World) (R278 : List Own), Ctx W w277 (R263 ++ R278) Φ264 → J (Value.tuple #[Value.int IntKind.i64 (↑k231 : Int), Value.int IntKind.i64 0,
  Value.agg #[Value.bool c267, Value.int IntKind.i64 n268, Value.int IntKind.i64 n269, Value.int IntKind.i64 n270, Value.slice p271 k272 k273, Value.slice p274 k275 k276]]) w277) ∧ True) ∧ (∀
  (w279 : World) (R280 : List Own), Ctx W w279 (R224 ++ R280) Φ225 → Calls Try.prog F.errataref08_Replica_all #[Value.pointer (some (Addr.mk rB rO none))] w279 fun (e281 : Ending) (w282 :
  World) => ∃ (p283 : Option Addr), ∃ (k284 : Nat), ∃ (k285 : Nat), e281 = Ending.returned (Value.slice p283 k284 k285) ∧ ∃ (R286 : List Own), ∃ (Φ287 : PW), Stable Φ287 ∧ Ctx W w282 (R286 ++
  R280) Φ287 ∧ (∀ (w288 : World) (R289 : List Own), Ctx W w288 (R286 ++ R289) Φ287 → Ctx W w288 (R226 ++ R289) Φ227) ∧ (∀ (k290 : Nat), (∀ (w291 : World) (R292 : List Own), Ctx W w291
  (Own.blk k290 [Value.int IntKind.i64 n68, Value.string data] 55 :: R286 ++ R292) Φ287 → Ctx W w291 (R226 ++ R292) Φ227) ∧ ∀ (w293 : World) (R294 : List Own), Ctx W w293 (Own.blk k290
  [Value.int IntKind.i64 n68, Value.string data] 55 :: R286 ++ R294) Φ287 → CanWrite w293 k0 0 6 ∧ ∀ (w295 : World), w295 = w293.setCells k0 0 [Value.bool false, Value.int IntKind.i64 0,
  Value.int IntKind.i64 0, Value.int IntKind.i64 (↑k239 : Int), Value.slice (some (Addr.mk k290 0 none)) 1 1, Value.slice p283 k284 k285] → ∃ (R296 : List Own), ∃ (Φ297 : PW), Stable Φ297 ∧
  Ctx W w295 (R296 ++ R294) Φ297 ∧ ∀ (w298 : World) (R299 : List Own), Ctx W w298 (R296 ++ R299) Φ297 → ∃ (c300 : Bool), ∃ (n301 : Int), ∃ (n302 : Int), ∃ (n303 : Int), ∃ (p304 : Option
  Addr), ∃ (k305 : Nat), ∃ (k306 : Nat), ∃ (p307 : Option Addr), ∃ (k308 : Nat), ∃ (k309 : Nat), RowAt w298 k0 0 [Value.bool c300, Value.int IntKind.i64 n301, Value.int IntKind.i64 n302,
  Value.int IntKind.i64 n303, Value.slice p304 k305 k306, Value.slice p307 k308 k309] ∧ ∀ (w310 : World) (R311 : List Own), Ctx W w310 (R296 ++ R311) Φ297 → J (Value.tuple #[Value.int
  IntKind.i64 (↑k231 : Int), Value.int IntKind.i64 0, Value.agg #[Value.bool c300, Value.int IntKind.i64 n301, Value.int IntKind.i64 n302, Value.int IntKind.i64 n303, Value.slice p304 k305
  k306, Value.slice p307 k308 k309]]) w310) ∧ True) ∧ True) ∧ True) ∧ True) ∧ True) ∧ (∀ (k312 : Nat), (∀ (w313 : World) (R314 : List Own), Ctx W w313 (Own.blk k312 [Value.int IntKind.i64
  n68, Value.string data] 55 :: Own.blk k0 [Value.bool false, Value.int IntKind.i64 0, Value.int IntKind.i64 0, Value.int IntKind.i64 0, Value.slice none 0 0, Value.slice none 0 0] 45 :: R ++
  R314) Φ → Ctx W w313 (R69 ++ R314) Φ70) ∧ (∀ (k315 : Nat), (∀ (w316 : World) (R317 : List Own), Ctx W w316 (Own.blk k315 [] 55 :: Own.blk k312 [Value.int IntKind.i64 n68, Value.string data]
  55 :: Own.blk k0 [Value.bool false, Value.int IntKind.i64 0, Value.int IntKind.i64 0, Value.int IntKind.i64 0, Value.slice none 0 0, Value.slice none 0 0] 45 :: R ++ R317) Φ → Ctx W w316
  (R69 ++ R317) Φ70) ∧ (∀ (w318 : World) (R319 : List Own), Ctx W w318 (Own.blk k315 [] 55 :: Own.blk k312 [Value.int IntKind.i64 n68, Value.string data] 55 :: Own.blk k0 [Value.bool false,
  Value.int IntKind.i64 0, Value.int IntKind.i64 0, Value.int IntKind.i64 0, Value.slice none 0 0, Value.slice none 0 0] 45 :: R ++ R319) Φ → ∃ (p320 : Option Addr), ∃ (k321 : Nat), ∃ (k322 :
  Nat), ∃ (w323 : World), Sem.run Try.prog (builtin Builtin.append #[35, 35] 35 #[false, false] #[Value.slice (some (Addr.mk k315 0 none)) 0 0, Value.slice p73 k74 k75]) w318 = Result.ok
  (Next.value (Value.slice p320 k321 k322)) w323 ∧ ∃ (R324 : List Own), ∃ (Φ325 : PW), Stable Φ325 ∧ Ctx W w323 (R324 ++ R319) Φ325 ∧ (∀ (w326 : World) (R327 : List Own), Ctx W w326 (R324 ++
  R327) Φ325 → Ctx W w326 (R69 ++ R327) Φ70) ∧ (∀ (w328 : World) (R329 : List Own), Ctx W w328 (R324 ++ R329) Φ325 → ∃ (p330 : Option Addr), ∃ (k331 : Nat), ∃ (k332 : Nat), ∃ (w333 : World),
  Sem.run Try.prog (builtin Builtin.append #[35, 35] 35 #[false, false] #[Value.slice p320 k321 k322, Value.slice (some (Addr.mk k312 0 none)) 1 1]) w328 = Result.ok (Next.value (Value.slice
  p330 k331 k332)) w333 ∧ ∃ (R334 : List Own), ∃ (Φ335 : PW), Stable Φ335 ∧ Ctx W w333 (R334 ++ R329) Φ335 ∧ (∀ (w336 : World) (R337 : List Own), Ctx W w336 (R334 ++ R337) Φ335 → Ctx W w336
  (R69 ++ R337) Φ70) ∧ ∀ (w338 : World) (R339 : List Own), Ctx W w338 (R334 ++ R339) Φ335 → CanWrite w338 rB (rO + 3) 1 ∧ ∀ (w340 : World), w340 = w338.setCell (Addr.mk rB (rO + 3) none)
  (Value.slice p330 k331 k332) → ∃ (R341 : List Own), ∃ (Φ342 : PW), Stable Φ342 ∧ Ctx W w340 (R341 ++ R339) Φ342 ∧ ∃ (R343 : List Own), ∃ (Φ344 : PW), Stable Φ344 ∧ (∀ (w345 : World) (R346 :
  List Own), Ctx W w345 (R341 ++ R346) Φ342 → Ctx W w345 (R343 ++ R346) Φ344) ∧ ∃ (p347 : Option Addr), ∃ (k348 : Nat), ∃ (k349 : Nat), (∀ (w350 : World) (R351 : List Own), Ctx W w350 (R343
  ++ R351) Φ344 → ∃ (p352 : Option Addr), ∃ (k353 : Nat), ∃ (k354 : Nat), w350.cell? (Addr.mk rB (rO + 3) none) = some (Value.slice p352 k353 k354) ∧ Value.slice p352 k353 k354 = Value.slice
  p347 k348 k349) ∧ ∃ (p355 : Option Addr), ∃ (k356 : Nat), ∃ (k357 : Nat), (∀ (w358 : World) (R359 : List Own), Ctx W w358 (R343 ++ R359) Φ344 → ∃ (p360 : Option Addr), ∃ (k361 : Nat), ∃
  (k362 : Nat), w358.cell? (Addr.mk rB (rO + 3) none) = some (Value.slice p360 k361 k362) ∧ Value.slice p360 k361 k362 = Value.slice p355 k356 k357) ∧ (∀ (k363 : Nat), (∀ (w364 : World) (R365
  : List Own), Ctx W w364 (Own.blk k363 [Value.int IntKind.i64 n68, Value.string data] 55 :: R341 ++ R365) Φ342 → Ctx W w364 (R343 ++ R365) Φ344) ∧ (∀ (w366 : World) (R367 : List Own), Ctx W
  w366 (Own.blk k363 [Value.int IntKind.i64 n68, Value.string data] 55 :: R341 ++ R367) Φ342 → Calls Try.prog F.errataref08_Replica_all #[Value.pointer (some (Addr.mk rB rO none))] w366 fun
  (e368 : Ending) (w369 : World) => ∃ (p370 : Option Addr), ∃ (k371 : Nat), ∃ (k372 : Nat), e368 = Ending.returned (Value.slice p370 k371 k372) ∧ ∃ (R373 : List Own), ∃ (Φ374 : PW), Stable
  Φ374 ∧ Ctx W w369 (R373 ++ R367) Φ374 ∧ (∀ (w375 : World) (R376 : List Own), Ctx W w375 (R373 ++ R376) Φ374 → Ctx W w375 (R343 ++ R376) Φ344) ∧ ∀ (w377 : World) (R378 : List Own), Ctx W
  w377 (R373 ++ R378) Φ374 → CanWrite w377 k0 0 6 ∧ ∀ (w379 : World), w379 = w377.setCells k0 0 [Value.bool false, Value.int IntKind.i64 0, Value.int IntKind.i64 0, Value.int IntKind.i64
  (↑k356 : Int), Value.slice (some (Addr.mk k363 0 none)) 1 1, Value.slice p370 k371 k372] → ∃ (R380 : List Own), ∃ (Φ381 : PW), Stable Φ381 ∧ Ctx W w379 (R380 ++ R378) Φ381 ∧ ∀ (w382 :
  World) (R383 : List Own), Ctx W w382 (R380 ++ R383) Φ381 → ∃ (c384 : Bool), ∃ (n385 : Int), ∃ (n386 : Int), ∃ (n387 : Int), ∃ (p388 : Option Addr), ∃ (k389 : Nat), ∃ (k390 : Nat), ∃ (p391 :
  Option Addr), ∃ (k392 : Nat), ∃ (k393 : Nat), RowAt w382 k0 0 [Value.bool c384, Value.int IntKind.i64 n385, Value.int IntKind.i64 n386, Value.int IntKind.i64 n387, Value.slice p388 k389
  k390, Value.slice p391 k392 k393] ∧ ∀ (w394 : World) (R395 : List Own), Ctx W w394 (R380 ++ R395) Φ381 → J (Value.tuple #[Value.int IntKind.i64 (↑k348 : Int), Value.int IntKind.i64 0,
  Value.agg #[Value.bool c384, Value.int IntKind.i64 n385, Value.int IntKind.i64 n386, Value.int IntKind.i64 n387, Value.slice p388 k389 k390, Value.slice p391 k392 k393]]) w394) ∧ True) ∧ (∀
  (w396 : World) (R397 : List Own), Ctx W w396 (R341 ++ R397) Φ342 → Calls Try.prog F.errataref08_Replica_all #[Value.pointer (some (Addr.mk rB rO none))] w396 fun (e398 : Ending) (w399 :
  World) => ∃ (p400 : Option Addr), ∃ (k401 : Nat), ∃ (k402 : Nat), e398 = Ending.returned (Value.slice p400 k401 k402) ∧ ∃ (R403 : List Own), ∃ (Φ404 : PW), Stable Φ404 ∧ Ctx W w399 (R403 ++
  R397) Φ404 ∧ (∀ (w405 : World) (R406 : List Own), Ctx W w405 (R403 ++ R406) Φ404 → Ctx W w405 (R343 ++ R406) Φ344) ∧ (∀ (k407 : Nat), (∀ (w408 : World) (R409 : List Own), Ctx W w408
  (Own.blk k407 [Value.int IntKind.i64 n68, Value.string data] 55 :: R403 ++ R409) Φ404 → Ctx W w408 (R343 ++ R409) Φ344) ∧ ∀ (w410 : World) (R411 : List Own), Ctx W w410 (Own.blk k407
  [Value.int IntKind.i64 n68, Value.string data] 55 :: R403 ++ R411) Φ404 → CanWrite w410 k0 0 6 ∧ ∀ (w412 : World), w412 = w410.setCells k0 0 [Value.bool false, Value.int IntKind.i64 0,
  Value.int IntKind.i64 0, Value.int IntKind.i64 (↑k356 : Int), Value.slice (some (Addr.mk k407 0 none)) 1 1, Value.slice p400 k401 k402] → ∃ (R413 : List Own), ∃ (Φ414 : PW), Stable Φ414 ∧
  Ctx W w412 (R413 ++ R411) Φ414 ∧ ∀ (w415 : World) (R416 : List Own), Ctx W w415 (R413 ++ R416) Φ414 → ∃ (c417 : Bool), ∃ (n418 : Int), ∃ (n419 : Int), ∃ (n420 : Int), ∃ (p421 : Option
  Addr), ∃ (k422 : Nat), ∃ (k423 : Nat), ∃ (p424 : Option Addr), ∃ (k425 : Nat), ∃ (k426 : Nat), RowAt w415 k0 0 [Value.bool c417, Value.int IntKind.i64 n418, Value.int IntKind.i64 n419,
  Value.int IntKind.i64 n420, Value.slice p421 k422 k423, Value.slice p424 k425 k426] ∧ ∀ (w427 : World) (R428 : List Own), Ctx W w427 (R413 ++ R428) Φ414 → J (Value.tuple #[Value.int
  IntKind.i64 (↑k348 : Int), Value.int IntKind.i64 0, Value.agg #[Value.bool c417, Value.int IntKind.i64 n418, Value.int IntKind.i64 n419, Value.int IntKind.i64 n420, Value.slice p421 k422
  k423, Value.slice p424 k425 k426]]) w427) ∧ True) ∧ True) ∧ True) ∧ True) ∧ True) ∧ True)))

theorem Berrataref08_Replica_Propose_run (rB rO : Nat) (data : ByteArray) {W w : World} {R : List Own} {Φ : PW} [Stable Φ] {J : Value → World → Prop} (c : Ctx W w R Φ) (h : Berrataref08_Replica_Propose rB rO data W R Φ J) : Calls Try.prog F.errataref08_Replica_Propose #[.pointer (some ⟨rB, rO, none⟩), .string data] w fun e w' => ∃ v, e = .returned v ∧ J v w' :=
  vcFS_sound (H := { keep := some [0, 1, 4, 5, 6, 7, 12, 16, 23], track := [7], stages := [(8, [.tree (.rd 0 (.rd 2 (.rd 7 (.rd 3 (.rd 4 (.rd 5 (.alt 1 (.alt 6 (.alt 8 (.alt 9 (.done) (.no)) (.no)) (.alt 8 (.alt 6 (.alt 9 (.done) (.no)) (.no)) (.no))) (.alt 8 (.alt 1 (.alt 6 (.alt 9 (.done) (.no)) (.no)) (.no)) (.no))))))))) 10, .stage [10] none, .stage [11] (some 12)]), (9, [.tree (.rd 0 (.rd 5 (.rd 10 (.rd 12 (.rd 1 (.rd 6 (.rd 2 (.rd 7 (.rd 3 (.rd 8 (.rd 4 (.rd 9 (.alt 11 (.alt 13 (.rd 14 (.rd 15 (.rd 16 (.done)))) (.no)) (.alt 13 (.rd 15 (.rd 16 (.alt 11 (.rd 14 (.done)) (.no)))) (.no))))))))))))))) 17, .stage [] (some 17)])] }) (by rw [show vcFS Try.prog W { keep := some [0, 1, 4, 5, 6, 7, 12, 16, 23], track := [7], stages := [(8, [.tree (.rd 0 (.rd 2 (.rd 7 (.rd 3 (.rd 4 (.rd 5 (.alt 1 (.alt 6 (.alt 8 (.alt 9 (.done) (.no)) (.no)) (.alt 8 (.alt 6 (.alt 9 (.done) (.no)) (.no)) (.no))) (.alt 8 (.alt 1 (.alt 6 (.alt 9 (.done) (.no)) (.no)) (.no)) (.no))))))))) 10, .stage [10] none, .stage [11] (some 12)]), (9, [.tree (.rd 0 (.rd 5 (.rd 10 (.rd 12 (.rd 1 (.rd 6 (.rd 2 (.rd 7 (.rd 3 (.rd 8 (.rd 4 (.rd 9 (.alt 11 (.alt 13 (.rd 14 (.rd 15 (.rd 16 (.done)))) (.no)) (.alt 13 (.rd 15 (.rd 16 (.alt 11 (.rd 14 (.done)) (.no)))) (.no))))))))))))))) 17, .stage [] (some 17)])] } F.errataref08_Replica_Propose #[.pointer (some ⟨rB, rO, none⟩), .string data] R Φ J = Berrataref08_Replica_Propose rB rO data W R Φ J by kernel_rfl]; exact h) c

/-- errataref08.SameOut -/
-- loop at region 4: 5 i; blocks 
-- known blocks: 2 a, 3 b
def Berrataref08_SameOut (a0 : Bool) (a1 : Int) (a2 : Int) (a3 : Int) (a4P : Option Addr) (a4N a4C : Nat) (a5P : Option Addr) (a5N a5C : Nat) (b0 : Bool) (b1 : Int) (b2 : Int) (b3 : Int) (b4P : Option Addr) (b4N b4C : Nat) (b5P : Option Addr) (b5N b5C : Nat) (W : World) (R : List Own) (Φ : PW) (J : Value → World → Prop) : Prop :=
  ∀ (b b : Nat), Br (a0 != b0) (∀ (w0 : World) (R1 : List Own), Ctx W w0 (R ++ R1) Φ → J (Value.bool false) w0) (okAgg Try.prog 40 = true ∧ Br (!(decide (a1 = b1) && (decide (a2 = b2) &&
  true))) (∀ (w2 : World) (R3 : List Own), Ctx W w2 (R ++ R3) Φ → J (Value.bool false) w2) (Br (decide (a3 ≠ b3)) (∀ (w4 : World) (R5 : List Own), Ctx W w4 (R ++ R5) Φ → J (Value.bool false)
  w4) (∀ (w6 : World) (R7 : List Own), Ctx W w6 (R ++ R7) Φ → Calls Try.prog F.errataref08_SameRecs #[Value.slice a4P a4N a4C, Value.slice b4P b4N b4C] w6 fun (e8 : Ending) (w9 : World) => ∃
  (c10 : Bool), e8 = Ending.returned (Value.bool c10) ∧ ∃ (R11 : List Own), ∃ (Φ12 : PW), Stable Φ12 ∧ Ctx W w9 (R11 ++ R7) Φ12 ∧ Br (!c10) (∀ (w13 : World) (R14 : List Own), Ctx W w13 (R11
  ++ R14) Φ12 → J (Value.bool false) w13) (Br (decide ((↑a5N : Int) ≠ (↑b5N : Int))) (∀ (w15 : World) (R16 : List Own), Ctx W w15 (R11 ++ R16) Φ12 → J (Value.bool false) w15) (exI fun (I17 :
  Int → List Own → PW → Nat → Prop) => (∃ (R18 : List Own), ∃ (Φ19 : PW), ∃ (k20 : Nat), Stable Φ19 ∧ (∀ (w21 : World) (R22 : List Own), Ctx W w21 (R11 ++ R22) Φ12 → Ctx W w21 (R18 ++ R22)
  Φ19) ∧ I17 0 R18 Φ19 k20) ∧ ∀ (n23 : Int) (R24 : List Own) (I25 : List Nat → World → Prop) (k26 : Nat), Stable I25 → I17 n23 R24 I25 k26 → Br (decide (n23 < (↑a5N : Int))) (∃ (R27 : List
  Own), ∃ (Φ28 : PW), Stable Φ28 ∧ (∀ (w29 : World) (R30 : List Own), Ctx W w29 (R24 ++ R30) I25 → Ctx W w29 (R27 ++ R30) Φ28) ∧ (0 ≤ n23 ∧ n23 < (↑a5N : Int)) ∧ ptrK none a5P fun (k31 k32 :
  Nat) => (0 ≤ n23 ∧ n23 < (↑b5N : Int)) ∧ ptrK none b5P fun (k33 k34 : Nat) => ∃ (n35 : Int), ∃ (n36 : Int), ∃ (n37 : Int), ∃ (n38 : Int), ∃ (n39 : Int), ∃ (n40 : Int), ∃ (n41 : Int), ∃ (c42
  : Bool), ∃ (p43 : Option Addr), ∃ (k44 : Nat), ∃ (k45 : Nat), (∀ (w46 : World) (R47 : List Own), Ctx W w46 (R27 ++ R47) Φ28 → ∃ (n48 : Int), ∃ (n49 : Int), ∃ (n50 : Int), ∃ (n51 : Int), ∃
  (n52 : Int), ∃ (n53 : Int), ∃ (n54 : Int), ∃ (c55 : Bool), ∃ (p56 : Option Addr), ∃ (k57 : Nat), ∃ (k58 : Nat), RowAt w46 k31 (k32 + n23.toNat * 9) [Value.int IntKind.i64 n48, Value.int
  IntKind.i64 n49, Value.int IntKind.i64 n50, Value.int IntKind.i64 n51, Value.int IntKind.i64 n52, Value.int IntKind.i64 n53, Value.int IntKind.i64 n54, Value.bool c55, Value.slice p56 k57
  k58] ∧ Value.agg #[Value.int IntKind.i64 n48, Value.int IntKind.i64 n49, Value.int IntKind.i64 n50, Value.int IntKind.i64 n51, Value.int IntKind.i64 n52, Value.int IntKind.i64 n53,
  Value.int IntKind.i64 n54, Value.bool c55, Value.slice p56 k57 k58] = Value.agg #[Value.int IntKind.i64 n35, Value.int IntKind.i64 n36, Value.int IntKind.i64 n37, Value.int IntKind.i64 n38,
  Value.int IntKind.i64 n39, Value.int IntKind.i64 n40, Value.int IntKind.i64 n41, Value.bool c42, Value.slice p43 k44 k45]) ∧ ∃ (n59 : Int), ∃ (n60 : Int), ∃ (n61 : Int), ∃ (n62 : Int), ∃
  (n63 : Int), ∃ (n64 : Int), ∃ (n65 : Int), ∃ (c66 : Bool), ∃ (p67 : Option Addr), ∃ (k68 : Nat), ∃ (k69 : Nat), (∀ (w70 : World) (R71 : List Own), Ctx W w70 (R27 ++ R71) Φ28 → ∃ (n72 :
  Int), ∃ (n73 : Int), ∃ (n74 : Int), ∃ (n75 : Int), ∃ (n76 : Int), ∃ (n77 : Int), ∃ (n78 : Int), ∃ (c79 : Bool), ∃ (p80 : Option Addr), ∃ (k81 : Nat), ∃ (k82 : Nat), RowAt w70 k33 (k34 +
  n23.toNat * 9) [Value.int IntKind.i64 n72, Value.int IntKind.i64 n73, Value.int IntKind.i64 n74, Value.int IntKind.i64 n75, Value.int IntKind.i64 n76, Value.int IntKind.i64 n77, Value.int
  IntKind.i64 n78, Value.bool c79, Value.slice p80 k81 k82] ∧ Value.agg #[Value.int IntKind.i64 n72, Value.int IntKind.i64 n73, Value.int IntKind.i64 n74, Value.int IntKind.i64 n75, Value.int
  IntKind.i64 n76, Value.int IntKind.i64 n77, Value.int IntKind.i64 n78, Value.bool c79, Value.slice p80 k81 k82] = Value.agg #[Value.int IntKind.i64 n59, Value.int IntKind.i64 n60, Value.int
  IntKind.i64 n61, Value.int IntKind.i64 n62, Value.int IntKind.i64 n63, Value.int IntKind.i64 n64, Value.int IntKind.i64 n65, Value.bool c66, Value.slice p67 k68 k69]) ∧ ∀ (w83 : World) (R84
  : List Own), Ctx W w83 (R24 ++ R84) I25 → Calls Try.prog F.errataref08_SameMsg #[Value.agg #[Value.int IntKind.i64 n35, Value.int IntKind.i64 n36, Value.int IntKind.i64 n37, Value.int
  IntKind.i64 n38, Value.int IntKind.i64 n39, Value.int IntKind.i64 n40, Value.int IntKind.i64 n41, Value.bool c42, Value.slice p43 k44 k45], Value.agg #[Value.int IntKind.i64 n59, Value.int
  IntKind.i64 n60, Value.int IntKind.i64 n61, Value.int IntKind.i64 n62, Value.int IntKind.i64 n63, Value.int IntKind.i64 n64, Value.int IntKind.i64 n65, Value.bool c66, Value.slice p67 k68
  k69]] w83 fun (e85 : Ending) (w86 : World) => ∃ (c87 : Bool), e85 = Ending.returned (Value.bool c87) ∧ ∃ (R88 : List Own), ∃ (Φ89 : PW), Stable Φ89 ∧ Ctx W w86 (R88 ++ R84) Φ89 ∧ Br (!c87)
  (∀ (w90 : World) (R91 : List Own), Ctx W w90 (R88 ++ R91) Φ89 → J (Value.bool false) w90) (I64 (n23 + 1) ∧ ∃ (R92 : List Own), ∃ (Φ93 : PW), ∃ (k94 : Nat), Stable Φ93 ∧ (∀ (w95 : World)
  (R96 : List Own), Ctx W w95 (R88 ++ R96) Φ89 → Ctx W w95 (R92 ++ R96) Φ93) ∧ I17 (n23 + 1) R92 Φ93 k94 ∧ k94 < k26)) (∀ (w97 : World) (R98 : List Own), Ctx W w97 (R24 ++ R98) I25 → J
  (Value.bool true) w97))))))

theorem Berrataref08_SameOut_run (a0 : Bool) (a1 : Int) (a2 : Int) (a3 : Int) (a4P : Option Addr) (a4N a4C : Nat) (a5P : Option Addr) (a5N a5C : Nat) (b0 : Bool) (b1 : Int) (b2 : Int) (b3 : Int) (b4P : Option Addr) (b4N b4C : Nat) (b5P : Option Addr) (b5N b5C : Nat) {W w : World} {R : List Own} {Φ : PW} [Stable Φ] {J : Value → World → Prop} (c : Ctx W w R Φ) (h : Berrataref08_SameOut a0 a1 a2 a3 a4P a4N a4C a5P a5N a5C b0 b1 b2 b3 b4P b4N b4C b5P b5N b5C W R Φ J) : Calls Try.prog F.errataref08_SameOut #[.agg #[.bool a0, .int .i64 a1, .int .i64 a2, .int .i64 a3, .slice a4P a4N a4C, .slice a5P a5N a5C], .agg #[.bool b0, .int .i64 b1, .int .i64 b2, .int .i64 b3, .slice b4P b4N b4C, .slice b5P b5N b5C]] w fun e w' => ∃ v, e = .returned v ∧ J v w' :=
  vcFS_sound (H := { keep := some [2, 3, 4, 5, 41, 46, 60], track := [2, 3], stages := [(6, [.held [(0, true), (2, true), (5, true), (7, true), (1, true), (6, true), (3, true), (8, true), (4, true), (9, true)], .stage [] (some 10), .stage [11] none])], split := [1], loops := [(4, [(5, .one (.int .i64))], [])] }) (by rw [show vcFS Try.prog W { keep := some [2, 3, 4, 5, 41, 46, 60], track := [2, 3], stages := [(6, [.held [(0, true), (2, true), (5, true), (7, true), (1, true), (6, true), (3, true), (8, true), (4, true), (9, true)], .stage [] (some 10), .stage [11] none])], split := [1], loops := [(4, [(5, .one (.int .i64))], [])] } F.errataref08_SameOut #[.agg #[.bool a0, .int .i64 a1, .int .i64 a2, .int .i64 a3, .slice a4P a4N a4C, .slice a5P a5N a5C], .agg #[.bool b0, .int .i64 b1, .int .i64 b2, .int .i64 b3, .slice b4P b4N b4C, .slice b5P b5N b5C]] R Φ J = Berrataref08_SameOut a0 a1 a2 a3 a4P a4N a4C a5P a5N a5C b0 b1 b2 b3 b4P b4N b4C b5P b5N b5C W R Φ J by kernel_rfl]; exact h) c

/-- errataref08.sound -/
-- loop at region 2: 1 least, 7 i; blocks 
def Berrataref08_sound (lP : Option Addr) (lN lC : Nat) (least : Int) (most : Int) (W : World) (R : List Own) (Φ : PW) (J : Value → World → Prop) : Prop :=
  exI fun (I0 : Int → Int → List Own → PW → Nat → Prop) => (∃ (R1 : List Own), ∃ (Φ2 : PW), ∃ (k3 : Nat), Stable Φ2 ∧ (∀ (w4 : World) (R5 : List Own), Ctx W w4 (R ++ R5) Φ → Ctx W w4 (R1 ++
  R5) Φ2) ∧ I0 least 0 R1 Φ2 k3) ∧ ∀ (n6 n7 : Int) (R8 : List Own) (I9 : List Nat → World → Prop) (k10 : Nat), Stable I9 → I0 n6 n7 R8 I9 k10 → Br (decide (n7 < (↑lN : Int))) (∀ (w11 : World)
  (R12 : List Own), Ctx W w11 (R8 ++ R12) I9 → (0 ≤ n7 ∧ n7 < (↑lN : Int)) ∧ ptrK none lP fun (k13 k14 : Nat) => ∃ (n15 : Int), w11.cell? (Addr.mk k13 (k14 + n7.toNat * 2) none) = some
  (Value.int IntKind.i64 n15) ∧ ((!decide (n15 < n6)) = true → 0 ≤ n7 ∧ n7 < (↑lN : Int)) ∧ ptrK (some !decide (n15 < n6)) lP fun (k16 k17 : Nat) => ∃ (n18 : Int), ((!decide (n15 < n6)) =
  true → w11.cell? (Addr.mk k16 (k17 + n7.toNat * 2) none) = some (Value.int IntKind.i64 n18)) ∧ ((!(decide (n15 < n6) || decide (most < n18))) = true → 0 ≤ n7 ∧ n7 < (↑lN : Int)) ∧ ptrK
  (some !(decide (n15 < n6) || decide (most < n18))) lP fun (k19 k20 : Nat) => ∃ (s21 : ByteArray), ((!(decide (n15 < n6) || decide (most < n18))) = true → w11.cell? (Addr.mk k19 (k20 +
  n7.toNat * 2 + 1) none) = some (Value.string s21)) ∧ Br (decide (n15 < n6) || decide (most < n18) || decide (2000 < (↑s21.size : Int))) (∀ (w22 : World) (R23 : List Own), Ctx W w22 (R8 ++
  R23) I9 → J (Value.bool false) w22) ((0 ≤ n7 ∧ n7 < (↑lN : Int)) ∧ ptrK none lP fun (k24 k25 : Nat) => ∀ (w26 : World) (R27 : List Own), Ctx W w26 (R8 ++ R27) I9 → ∃ (n28 : Int), w26.cell?
  (Addr.mk k24 (k25 + n7.toNat * 2) none) = some (Value.int IntKind.i64 n28) ∧ I64 (n7 + 1) ∧ ∃ (R29 : List Own), ∃ (Φ30 : PW), ∃ (k31 : Nat), Stable Φ30 ∧ (∀ (w32 : World) (R33 : List Own),
  Ctx W w32 (R8 ++ R33) I9 → Ctx W w32 (R29 ++ R33) Φ30) ∧ I0 n28 (n7 + 1) R29 Φ30 k31 ∧ k31 < k10)) (∀ (w34 : World) (R35 : List Own), Ctx W w34 (R8 ++ R35) I9 → J (Value.bool true) w34)

theorem Berrataref08_sound_run (lP : Option Addr) (lN lC : Nat) (least : Int) (most : Int) {W w : World} {R : List Own} {Φ : PW} [Stable Φ] {J : Value → World → Prop} (c : Ctx W w R Φ) (h : Berrataref08_sound lP lN lC least most W R Φ J) : Calls Try.prog F.errataref08_sound #[.slice lP lN lC, .int .i64 least, .int .i64 most] w fun e w' => ∃ v, e = .returned v ∧ J v w' :=
  vcFS_sound (H := { keep := some [0, 1, 2, 6, 7, 11, 38], loops := [(2, [(1, .one (.int .i64)), (7, .one (.int .i64))], [])] }) (by rw [show vcFS Try.prog W { keep := some [0, 1, 2, 6, 7, 11, 38], loops := [(2, [(1, .one (.int .i64)), (7, .one (.int .i64))], [])] } F.errataref08_sound #[.slice lP lN lC, .int .i64 least, .int .i64 most] R Φ J = Berrataref08_sound lP lN lC least most W R Φ J by kernel_rfl]; exact h) c

/-- errataref08.Right -/
-- known blocks: 3 m
def Berrataref08_Right (id : Int) (m0 : Int) (m1 : Int) (m2 : Int) (m3 : Int) (m4 : Int) (m5 : Int) (m6 : Int) (m7 : Bool) (m8P : Option Addr) (m8N m8C : Nat) (W : World) (R : List Own) (Φ : PW) (J : Value → World → Prop) : Prop :=
  ∀ (b : Nat) (w0 : World) (R1 : List Own), Ctx W w0 (R ++ R1) Φ → ∀ (w2 : World) (R3 : List Own), Ctx W w2 (R ++ R3) Φ → Br (decide (0 ≤ m0) && decide (m0 < 4) && decide (m2 = id) && decide
  (m1 ≠ id) && decide (0 ≤ m1) && decide (m1 ≤ 2) && decide (1 ≤ m3) && decide (m3 ≤ 1099511627776)) (Br (decide (0 ≤ m4) && decide (m4 ≤ 4000) && decide (0 ≤ m5) && decide (m5 ≤ m3) &&
  decide (0 ≤ m6) && decide (m6 ≤ 4000) && decide ((↑m8N : Int) ≤ 8)) (Br (decide (0 < m4)) (I64 (m4 + (↑m8N : Int)) ∧ Br (decide (m4 + (↑m8N : Int) ≤ 4000)) (∀ (w4 : World) (R5 : List Own),
  Ctx W w4 (R ++ R5) Φ → Calls Try.prog F.errataref08_sound #[Value.slice m8P m8N m8C, Value.int IntKind.i64 (max 1 m5), Value.int IntKind.i64 m3] w4 fun (e6 : Ending) (w7 : World) => ∃ (c8 :
  Bool), e6 = Ending.returned (Value.bool c8) ∧ ∃ (R9 : List Own), ∃ (Φ10 : PW), Stable Φ10 ∧ Ctx W w7 (R9 ++ R5) Φ10 ∧ ∀ (w11 : World) (R12 : List Own), Ctx W w11 (R9 ++ R12) Φ10 → J
  (Value.bool c8) w11) (∀ (w13 : World) (R14 : List Own), Ctx W w13 (R ++ R14) Φ → J (Value.bool false) w13)) (Br (decide (m5 = 0)) (I64 (m4 + (↑m8N : Int)) ∧ Br (decide (m4 + (↑m8N : Int) ≤
  4000)) (∀ (w15 : World) (R16 : List Own), Ctx W w15 (R ++ R16) Φ → Calls Try.prog F.errataref08_sound #[Value.slice m8P m8N m8C, Value.int IntKind.i64 (max 1 m5), Value.int IntKind.i64 m3]
  w15 fun (e17 : Ending) (w18 : World) => ∃ (c19 : Bool), e17 = Ending.returned (Value.bool c19) ∧ ∃ (R20 : List Own), ∃ (Φ21 : PW), Stable Φ21 ∧ Ctx W w18 (R20 ++ R16) Φ21 ∧ ∀ (w22 : World)
  (R23 : List Own), Ctx W w22 (R20 ++ R23) Φ21 → J (Value.bool c19) w22) (∀ (w24 : World) (R25 : List Own), Ctx W w24 (R ++ R25) Φ → J (Value.bool false) w24)) (∀ (w26 : World) (R27 : List
  Own), Ctx W w26 (R ++ R27) Φ → J (Value.bool false) w26))) (∀ (w28 : World) (R29 : List Own), Ctx W w28 (R ++ R29) Φ → J (Value.bool false) w28)) (∀ (w30 : World) (R31 : List Own), Ctx W
  w30 (R ++ R31) Φ → J (Value.bool false) w30)

theorem Berrataref08_Right_run (id : Int) (m0 : Int) (m1 : Int) (m2 : Int) (m3 : Int) (m4 : Int) (m5 : Int) (m6 : Int) (m7 : Bool) (m8P : Option Addr) (m8N m8C : Nat) {W w : World} {R : List Own} {Φ : PW} [Stable Φ] {J : Value → World → Prop} (c : Ctx W w R Φ) (h : Berrataref08_Right id m0 m1 m2 m3 m4 m5 m6 m7 m8P m8N m8C W R Φ J) : Calls Try.prog F.errataref08_Right #[.int .i64 id, .agg #[.int .i64 m0, .int .i64 m1, .int .i64 m2, .int .i64 m3, .int .i64 m4, .int .i64 m5, .int .i64 m6, .bool m7, .slice m8P m8N m8C]] w fun e w' => ∃ v, e = .returned v ∧ J v w' :=
  vcFS_sound (H := { keep := some [0, 3, 4, 5, 6], track := [3], split := [3] }) (by rw [show vcFS Try.prog W { keep := some [0, 3, 4, 5, 6], track := [3], split := [3] } F.errataref08_Right #[.int .i64 id, .agg #[.int .i64 m0, .int .i64 m1, .int .i64 m2, .int .i64 m3, .int .i64 m4, .int .i64 m5, .int .i64 m6, .bool m7, .slice m8P m8N m8C]] R Φ J = Berrataref08_Right id m0 m1 m2 m3 m4 m5 m6 m7 m8P m8N m8C W R Φ J by kernel_rfl]; exact h) c

/-- (*errataref08.Replica).vote -/
-- known blocks: 3 m, 4 , 5 a
def Berrataref08_Replica_vote (rB rO : Nat) (m0 : Int) (m1 : Int) (m2 : Int) (m3 : Int) (m4 : Int) (m5 : Int) (m6 : Int) (m7 : Bool) (m8P : Option Addr) (m8N m8C : Nat) (W : World) (R : List Own) (Φ : PW) (J : Value → World → Prop) : Prop :=
  ∀ (b b : Nat) (w0 : World) (R1 : List Own), Ctx W w0 (R ++ R1) Φ → Calls Try.prog F.errataref08_Replica_message #[Value.pointer (some (Addr.mk rB rO none)), Value.int IntKind.i64 1,
  Value.int IntKind.i64 m1] w0 fun (e2 : Ending) (w3 : World) => ∃ (n4 : Int), ∃ (n5 : Int), ∃ (n6 : Int), ∃ (n7 : Int), ∃ (n8 : Int), ∃ (n9 : Int), ∃ (n10 : Int), ∃ (c11 : Bool), ∃ (p12 :
  Option Addr), ∃ (k13 : Nat), ∃ (k14 : Nat), e2 = Ending.returned (Value.agg #[Value.int IntKind.i64 n4, Value.int IntKind.i64 n5, Value.int IntKind.i64 n6, Value.int IntKind.i64 n7,
  Value.int IntKind.i64 n8, Value.int IntKind.i64 n9, Value.int IntKind.i64 n10, Value.bool c11, Value.slice p12 k13 k14]) ∧ ∃ (R15 : List Own), ∃ (Φ16 : PW), Stable Φ16 ∧ Ctx W w3 (R15 ++
  R1) Φ16 ∧ ∀ (b : Nat) (w17 : World) (R18 : List Own), Ctx W w17 (R15 ++ R18) Φ16 → ∃ (p19 : Option Addr), ∃ (k20 : Nat), ∃ (k21 : Nat), w17.cell? (Addr.mk rB (rO + 3) none) = some
  (Value.slice p19 k20 k21) ∧ ∀ (w22 : World) (R23 : List Own), Ctx W w22 (R15 ++ R23) Φ16 → Calls Try.prog F.errataref08_Replica_term #[Value.pointer (some (Addr.mk rB rO none)), Value.int
  IntKind.i64 (↑k20 : Int)] w22 fun (e24 : Ending) (w25 : World) => ∃ (n26 : Int), e24 = Ending.returned (Value.int IntKind.i64 n26) ∧ ∃ (R27 : List Own), ∃ (Φ28 : PW), Stable Φ28 ∧ Ctx W w25
  (R27 ++ R23) Φ28 ∧ ∀ (w29 : World) (R30 : List Own), Ctx W w29 (R27 ++ R30) Φ28 → ∃ (n31 : Int), w29.cell? (Addr.mk rB (rO + 1) none) = some (Value.int IntKind.i64 n31) ∧ Br (decide (m3 =
  n31)) (∀ (w32 : World) (R33 : List Own), Ctx W w32 (R27 ++ R33) Φ28 → ∃ (n34 : Int), w32.cell? (Addr.mk rB (rO + 2) none) = some (Value.int IntKind.i64 n34) ∧ Br (decide (n34 = -1)) (Br
  (decide (n26 < m5)) (∀ (w35 : World) (R36 : List Own), Ctx W w35 (R27 ++ R36) Φ28 → CanWrite w35 rB (rO + 2) 1 ∧ ∀ (w37 : World), w37 = w35.setCell (Addr.mk rB (rO + 2) none) (Value.int
  IntKind.i64 m1) → ∃ (R38 : List Own), ∃ (Φ39 : PW), Stable Φ39 ∧ Ctx W w37 (R38 ++ R36) Φ39 ∧ ∀ (k40 : Nat) (w41 : World) (R42 : List Own), Ctx W w41 (Own.blk k40 [Value.int IntKind.i64 n4,
  Value.int IntKind.i64 n5, Value.int IntKind.i64 n6, Value.int IntKind.i64 n7, Value.int IntKind.i64 n8, Value.int IntKind.i64 n9, Value.int IntKind.i64 n10, Value.bool true, Value.slice p12
  k13 k14] 37 :: R38 ++ R42) Φ39 → J (Value.agg #[Value.bool false, Value.int IntKind.i64 0, Value.int IntKind.i64 0, Value.int IntKind.i64 0, Value.slice none 0 0, Value.slice (some (Addr.mk
  k40 0 none)) 1 1]) w41) (Br (decide (m5 = n26)) (∀ (w43 : World) (R44 : List Own), Ctx W w43 (R27 ++ R44) Φ28 → ∃ (p45 : Option Addr), ∃ (k46 : Nat), ∃ (k47 : Nat), w43.cell? (Addr.mk rB
  (rO + 3) none) = some (Value.slice p45 k46 k47) ∧ Br (decide ((↑k46 : Int) ≤ m4)) (∀ (w48 : World) (R49 : List Own), Ctx W w48 (R27 ++ R49) Φ28 → CanWrite w48 rB (rO + 2) 1 ∧ ∀ (w50 :
  World), w50 = w48.setCell (Addr.mk rB (rO + 2) none) (Value.int IntKind.i64 m1) → ∃ (R51 : List Own), ∃ (Φ52 : PW), Stable Φ52 ∧ Ctx W w50 (R51 ++ R49) Φ52 ∧ ∀ (k53 : Nat) (w54 : World)
  (R55 : List Own), Ctx W w54 (Own.blk k53 [Value.int IntKind.i64 n4, Value.int IntKind.i64 n5, Value.int IntKind.i64 n6, Value.int IntKind.i64 n7, Value.int IntKind.i64 n8, Value.int
  IntKind.i64 n9, Value.int IntKind.i64 n10, Value.bool (decide ((↑k46 : Int) ≤ m4)), Value.slice p12 k13 k14] 37 :: R51 ++ R55) Φ52 → J (Value.agg #[Value.bool false, Value.int IntKind.i64
  0, Value.int IntKind.i64 0, Value.int IntKind.i64 0, Value.slice none 0 0, Value.slice (some (Addr.mk k53 0 none)) 1 1]) w54) (∀ (k56 : Nat) (w57 : World) (R58 : List Own), Ctx W w57
  (Own.blk k56 [Value.int IntKind.i64 n4, Value.int IntKind.i64 n5, Value.int IntKind.i64 n6, Value.int IntKind.i64 n7, Value.int IntKind.i64 n8, Value.int IntKind.i64 n9, Value.int
  IntKind.i64 n10, Value.bool (decide ((↑k46 : Int) ≤ m4)), Value.slice p12 k13 k14] 37 :: R27 ++ R58) Φ28 → J (Value.agg #[Value.bool false, Value.int IntKind.i64 0, Value.int IntKind.i64 0,
  Value.int IntKind.i64 0, Value.slice none 0 0, Value.slice (some (Addr.mk k56 0 none)) 1 1]) w57)) (∀ (k59 : Nat) (w60 : World) (R61 : List Own), Ctx W w60 (Own.blk k59 [Value.int
  IntKind.i64 n4, Value.int IntKind.i64 n5, Value.int IntKind.i64 n6, Value.int IntKind.i64 n7, Value.int IntKind.i64 n8, Value.int IntKind.i64 n9, Value.int IntKind.i64 n10, Value.bool
  false, Value.slice p12 k13 k14] 37 :: R27 ++ R61) Φ28 → J (Value.agg #[Value.bool false, Value.int IntKind.i64 0, Value.int IntKind.i64 0, Value.int IntKind.i64 0, Value.slice none 0 0,
  Value.slice (some (Addr.mk k59 0 none)) 1 1]) w60))) (∀ (w62 : World) (R63 : List Own), Ctx W w62 (R27 ++ R63) Φ28 → ∃ (n64 : Int), w62.cell? (Addr.mk rB (rO + 2) none) = some (Value.int
  IntKind.i64 n64) ∧ Br (decide (n64 = m1)) (Br (decide (n26 < m5)) (∀ (w65 : World) (R66 : List Own), Ctx W w65 (R27 ++ R66) Φ28 → CanWrite w65 rB (rO + 2) 1 ∧ ∀ (w67 : World), w67 =
  w65.setCell (Addr.mk rB (rO + 2) none) (Value.int IntKind.i64 m1) → ∃ (R68 : List Own), ∃ (Φ69 : PW), Stable Φ69 ∧ Ctx W w67 (R68 ++ R66) Φ69 ∧ ∀ (k70 : Nat) (w71 : World) (R72 : List Own),
  Ctx W w71 (Own.blk k70 [Value.int IntKind.i64 n4, Value.int IntKind.i64 n5, Value.int IntKind.i64 n6, Value.int IntKind.i64 n7, Value.int IntKind.i64 n8, Value.int IntKind.i64 n9, Value.int
  IntKind.i64 n10, Value.bool true, Value.slice p12 k13 k14] 37 :: R68 ++ R72) Φ69 → J (Value.agg #[Value.bool false, Value.int IntKind.i64 0, Value.int IntKind.i64 0, Value.int IntKind.i64
  0, Value.slice none 0 0, Value.slice (some (Addr.mk k70 0 none)) 1 1]) w71) (Br (decide (m5 = n26)) (∀ (w73 : World) (R74 : List Own), Ctx W w73 (R27 ++ R74) Φ28 → ∃ (p75 : Option Addr), ∃
  (k76 : Nat), ∃ (k77 : Nat), w73.cell? (Addr.mk rB (rO + 3) none) = some (Value.slice p75 k76 k77) ∧ Br (decide ((↑k76 : Int) ≤ m4)) (∀ (w78 : World) (R79 : List Own), Ctx W w78 (R27 ++ R79)
  Φ28 → CanWrite w78 rB (rO + 2) 1 ∧ ∀ (w80 : World), w80 = w78.setCell (Addr.mk rB (rO + 2) none) (Value.int IntKind.i64 m1) → ∃ (R81 : List Own), ∃ (Φ82 : PW), Stable Φ82 ∧ Ctx W w80 (R81
  ++ R79) Φ82 ∧ ∀ (k83 : Nat) (w84 : World) (R85 : List Own), Ctx W w84 (Own.blk k83 [Value.int IntKind.i64 n4, Value.int IntKind.i64 n5, Value.int IntKind.i64 n6, Value.int IntKind.i64 n7,
  Value.int IntKind.i64 n8, Value.int IntKind.i64 n9, Value.int IntKind.i64 n10, Value.bool (decide ((↑k76 : Int) ≤ m4)), Value.slice p12 k13 k14] 37 :: R81 ++ R85) Φ82 → J (Value.agg
  #[Value.bool false, Value.int IntKind.i64 0, Value.int IntKind.i64 0, Value.int IntKind.i64 0, Value.slice none 0 0, Value.slice (some (Addr.mk k83 0 none)) 1 1]) w84) (∀ (k86 : Nat) (w87 :
  World) (R88 : List Own), Ctx W w87 (Own.blk k86 [Value.int IntKind.i64 n4, Value.int IntKind.i64 n5, Value.int IntKind.i64 n6, Value.int IntKind.i64 n7, Value.int IntKind.i64 n8, Value.int
  IntKind.i64 n9, Value.int IntKind.i64 n10, Value.bool (decide ((↑k76 : Int) ≤ m4)), Value.slice p12 k13 k14] 37 :: R27 ++ R88) Φ28 → J (Value.agg #[Value.bool false, Value.int IntKind.i64
  0, Value.int IntKind.i64 0, Value.int IntKind.i64 0, Value.slice none 0 0, Value.slice (some (Addr.mk k86 0 none)) 1 1]) w87)) (∀ (k89 : Nat) (w90 : World) (R91 : List Own), Ctx W w90
  (Own.blk k89 [Value.int IntKind.i64 n4, Value.int IntKind.i64 n5, Value.int IntKind.i64 n6, Value.int IntKind.i64 n7, Value.int IntKind.i64 n8, Value.int IntKind.i64 n9, Value.int
  IntKind.i64 n10, Value.bool false, Value.slice p12 k13 k14] 37 :: R27 ++ R91) Φ28 → J (Value.agg #[Value.bool false, Value.int IntKind.i64 0, Value.int IntKind.i64 0, Value.int IntKind.i64
  0, Value.slice none 0 0, Value.slice (some (Addr.mk k89 0 none)) 1 1]) w90))) (∀ (k92 : Nat) (w93 : World) (R94 : List Own), Ctx W w93 (Own.blk k92 [Value.int IntKind.i64 n4, Value.int
  IntKind.i64 n5, Value.int IntKind.i64 n6, Value.int IntKind.i64 n7, Value.int IntKind.i64 n8, Value.int IntKind.i64 n9, Value.int IntKind.i64 n10, Value.bool false, Value.slice p12 k13 k14]
  37 :: R27 ++ R94) Φ28 → J (Value.agg #[Value.bool false, Value.int IntKind.i64 0, Value.int IntKind.i64 0, Value.int IntKind.i64 0, Value.slice none 0 0, Value.slice (some (Addr.mk k92 0
  none)) 1 1]) w93))) (∀ (k95 : Nat) (w96 : World) (R97 : List Own), Ctx W w96 (Own.blk k95 [Value.int IntKind.i64 n4, Value.int IntKind.i64 n5, Value.int IntKind.i64 n6, Value.int
  IntKind.i64 n7, Value.int IntKind.i64 n8, Value.int IntKind.i64 n9, Value.int IntKind.i64 n10, Value.bool false, Value.slice p12 k13 k14] 37 :: R27 ++ R97) Φ28 → J (Value.agg #[Value.bool
  false, Value.int IntKind.i64 0, Value.int IntKind.i64 0, Value.int IntKind.i64 0, Value.slice none 0 0, Value.slice (some (Addr.mk k95 0 none)) 1 1]) w96)

theorem Berrataref08_Replica_vote_run (rB rO : Nat) (m0 : Int) (m1 : Int) (m2 : Int) (m3 : Int) (m4 : Int) (m5 : Int) (m6 : Int) (m7 : Bool) (m8P : Option Addr) (m8N m8C : Nat) {W w : World} {R : List Own} {Φ : PW} [Stable Φ] {J : Value → World → Prop} (c : Ctx W w R Φ) (h : Berrataref08_Replica_vote rB rO m0 m1 m2 m3 m4 m5 m6 m7 m8P m8N m8C W R Φ J) : Calls Try.prog F.errataref08_Replica_vote #[.pointer (some ⟨rB, rO, none⟩), .agg #[.int .i64 m0, .int .i64 m1, .int .i64 m2, .int .i64 m3, .int .i64 m4, .int .i64 m5, .int .i64 m6, .bool m7, .slice m8P m8N m8C]] w fun e w' => ∃ v, e = .returned v ∧ J v w' :=
  vcFS_sound (H := { keep := some [0, 3, 4, 5, 6, 68], track := [3, 4, 5], stages := [(3, [.stage [0, 2, 1, 3, 4, 5, 6, 7, 8, 9, 10, 11, 12, 13, 14, 15, 16, 21, 17, 22, 18, 19, 20, 23, 24, 25, 26, 27, 29, 28, 30, 31, 32, 34, 33, 35, 36, 37, 39, 38, 40, 41, 42, 43, 44, 45, 46, 47, 48] (some 49)])] }) (by rw [show vcFS Try.prog W { keep := some [0, 3, 4, 5, 6, 68], track := [3, 4, 5], stages := [(3, [.stage [0, 2, 1, 3, 4, 5, 6, 7, 8, 9, 10, 11, 12, 13, 14, 15, 16, 21, 17, 22, 18, 19, 20, 23, 24, 25, 26, 27, 29, 28, 30, 31, 32, 34, 33, 35, 36, 37, 39, 38, 40, 41, 42, 43, 44, 45, 46, 47, 48] (some 49)])] } F.errataref08_Replica_vote #[.pointer (some ⟨rB, rO, none⟩), .agg #[.int .i64 m0, .int .i64 m1, .int .i64 m2, .int .i64 m3, .int .i64 m4, .int .i64 m5, .int .i64 m6, .bool m7, .slice m8P m8N m8C]] R Φ J = Berrataref08_Replica_vote rB rO m0 m1 m2 m3 m4 m5 m6 m7 m8P m8N m8C W R Φ J by kernel_rfl]; exact h) c

/-- (*errataref08.Replica).voted -/
-- loop at region 14: 7 i; blocks 
-- loop at region 6: 5 n, 6 i; blocks 
-- known blocks: 3 m, 4 
def Berrataref08_Replica_voted (rB rO : Nat) (m0 : Int) (m1 : Int) (m2 : Int) (m3 : Int) (m4 : Int) (m5 : Int) (m6 : Int) (m7 : Bool) (m8P : Option Addr) (m8N m8C : Nat) (W : World) (R : List Own) (Φ : PW) (J : Value → World → Prop) : Prop :=
  ∀ (b b : Nat) (w0 : World) (R1 : List Own), Ctx W w0 (R ++ R1) Φ → ∃ (n2 : Int), w0.cell? (Addr.mk rB (rO + 4) none) = some (Value.int IntKind.i64 n2) ∧ ∃ (n3 : Int), ((!decide (n2 ≠ 1)) =
  true → w0.cell? (Addr.mk rB (rO + 1) none) = some (Value.int IntKind.i64 n3)) ∧ Br (decide (n2 ≠ 1) || decide (m3 ≠ n3) || !m7) (∀ (w4 : World) (R5 : List Own), Ctx W w4 (R ++ R5) Φ → J
  (Value.agg #[Value.bool false, Value.int IntKind.i64 0, Value.int IntKind.i64 0, Value.int IntKind.i64 0, Value.slice none 0 0, Value.slice none 0 0]) w4) (∀ (w6 : World) (R7 : List Own),
  Ctx W w6 (R ++ R7) Φ → ∃ (p8 : Option Addr), ∃ (k9 : Nat), ∃ (k10 : Nat), w6.cell? (Addr.mk rB (rO + 6) none) = some (Value.slice p8 k9 k10) ∧ (0 ≤ m1 ∧ m1 < (↑k9 : Int)) ∧ ptrK none p8 fun
  (k11 k12 : Nat) => ∀ (w13 : World) (R14 : List Own), Ctx W w13 (R ++ R14) Φ → CanWrite w13 k11 (k12 + m1.toNat) 1 ∧ ∀ (w15 : World), w15 = w13.setCell (Addr.mk k11 (k12 + m1.toNat) none)
  (Value.bool true) → ∃ (R16 : List Own), ∃ (Φ17 : PW), Stable Φ17 ∧ Ctx W w15 (R16 ++ R14) Φ17 ∧ exI fun (I18 : Int → Int → List Own → PW → Nat → Prop) => (∃ (R19 : List Own), ∃ (Φ20 : PW),
  ∃ (k21 : Nat), Stable Φ20 ∧ (∀ (w22 : World) (R23 : List Own), Ctx W w22 (R16 ++ R23) Φ17 → Ctx W w22 (R19 ++ R23) Φ20) ∧ I18 0 0 R19 Φ20 k21) ∧ ∀ (n24 n25 : Int) (R26 : List Own) (I27 :
  List Nat → World → Prop) (k28 : Nat), Stable I27 → I18 n24 n25 R26 I27 k28 → Br (decide (n25 < 3)) (∀ (w29 : World) (R30 : List Own), Ctx W w29 (R26 ++ R30) I27 → ∃ (p31 : Option Addr), ∃
  (k32 : Nat), ∃ (k33 : Nat), w29.cell? (Addr.mk rB (rO + 6) none) = some (Value.slice p31 k32 k33) ∧ (0 ≤ n25 ∧ n25 < (↑k32 : Int)) ∧ ptrK none p31 fun (k34 k35 : Nat) => ∀ (w36 : World)
  (R37 : List Own), Ctx W w36 (R26 ++ R37) I27 → ∃ (c38 : Bool), w36.cell? (Addr.mk k34 (k35 + n25.toNat) none) = some (Value.bool c38) ∧ Br c38 (I64 (n24 + 1) ∧ I64 (n25 + 1) ∧ ∃ (R39 : List
  Own), ∃ (Φ40 : PW), ∃ (k41 : Nat), Stable Φ40 ∧ (∀ (w42 : World) (R43 : List Own), Ctx W w42 (R26 ++ R43) I27 → Ctx W w42 (R39 ++ R43) Φ40) ∧ I18 (n24 + 1) (n25 + 1) R39 Φ40 k41 ∧ k41 <
  k28) (I64 (n25 + 1) ∧ ∃ (R44 : List Own), ∃ (Φ45 : PW), ∃ (k46 : Nat), Stable Φ45 ∧ (∀ (w47 : World) (R48 : List Own), Ctx W w47 (R26 ++ R48) I27 → Ctx W w47 (R44 ++ R48) Φ45) ∧ I18 n24
  (n25 + 1) R44 Φ45 k46 ∧ k46 < k28)) (Br (decide (n24 < 2)) (∀ (w49 : World) (R50 : List Own), Ctx W w49 (R26 ++ R50) I27 → J (Value.agg #[Value.bool false, Value.int IntKind.i64 0,
  Value.int IntKind.i64 0, Value.int IntKind.i64 0, Value.slice none 0 0, Value.slice none 0 0]) w49) (∀ (w51 : World) (R52 : List Own), Ctx W w51 (R26 ++ R52) I27 → CanWrite w51 rB (rO + 4)
  1 ∧ ∀ (w53 : World), w53 = w51.setCell (Addr.mk rB (rO + 4) none) (Value.int IntKind.i64 2) → ∃ (R54 : List Own), ∃ (Φ55 : PW), Stable Φ55 ∧ Ctx W w53 (R54 ++ R52) Φ55 ∧ exI fun (I56 : Int
  → List Own → PW → Nat → Prop) => (∃ (R57 : List Own), ∃ (Φ58 : PW), ∃ (k59 : Nat), Stable Φ58 ∧ (∀ (w60 : World) (R61 : List Own), Ctx W w60 (R54 ++ R61) Φ55 → Ctx W w60 (R57 ++ R61) Φ58) ∧
  I56 0 R57 Φ58 k59) ∧ ∀ (n62 : Int) (R63 : List Own) (I64 : List Nat → World → Prop) (k65 : Nat), Stable I64 → I56 n62 R63 I64 k65 → Br (decide (n62 < 3)) (∀ (w66 : World) (R67 : List Own),
  Ctx W w66 (R63 ++ R67) I64 → ∃ (p68 : Option Addr), ∃ (k69 : Nat), ∃ (k70 : Nat), w66.cell? (Addr.mk rB (rO + 7) none) = some (Value.slice p68 k69 k70) ∧ ∀ (w71 : World) (R72 : List Own),
  Ctx W w71 (R63 ++ R72) I64 → ∃ (p73 : Option Addr), ∃ (k74 : Nat), ∃ (k75 : Nat), w71.cell? (Addr.mk rB (rO + 3) none) = some (Value.slice p73 k74 k75) ∧ Vc.I64 ((↑k74 : Int) + 1) ∧ (0 ≤
  n62 ∧ n62 < (↑k69 : Int)) ∧ ptrK none p68 fun (k76 k77 : Nat) => ∀ (w78 : World) (R79 : List Own), Ctx W w78 (R63 ++ R79) I64 → CanWrite w78 k76 (k77 + n62.toNat) 1 ∧ ∀ (w80 : World), w80 =
  w78.setCell (Addr.mk k76 (k77 + n62.toNat) none) (Value.int IntKind.i64 ((↑k74 : Int) + 1)) → ∃ (R81 : List Own), ∃ (Φ82 : PW), Stable Φ82 ∧ Ctx W w80 (R81 ++ R79) Φ82 ∧ ∀ (w83 : World)
  (R84 : List Own), Ctx W w83 (R81 ++ R84) Φ82 → ∃ (p85 : Option Addr), ∃ (k86 : Nat), ∃ (k87 : Nat), w83.cell? (Addr.mk rB (rO + 8) none) = some (Value.slice p85 k86 k87) ∧ (0 ≤ n62 ∧ n62 <
  (↑k86 : Int)) ∧ ptrK none p85 fun (k88 k89 : Nat) => ∀ (w90 : World) (R91 : List Own), Ctx W w90 (R81 ++ R91) Φ82 → CanWrite w90 k88 (k89 + n62.toNat) 1 ∧ ∀ (w92 : World), w92 = w90.setCell
  (Addr.mk k88 (k89 + n62.toNat) none) (Value.int IntKind.i64 0) → ∃ (R93 : List Own), ∃ (Φ94 : PW), Stable Φ94 ∧ Ctx W w92 (R93 ++ R91) Φ94 ∧ Vc.I64 (n62 + 1) ∧ ∃ (R95 : List Own), ∃ (Φ96 :
  PW), ∃ (k97 : Nat), Stable Φ96 ∧ (∀ (w98 : World) (R99 : List Own), Ctx W w98 (R93 ++ R99) Φ94 → Ctx W w98 (R95 ++ R99) Φ96) ∧ I56 (n62 + 1) R95 Φ96 k97 ∧ k97 < k65) (∀ (w100 : World) (R101
  : List Own), Ctx W w100 (R63 ++ R101) I64 → Calls Try.prog F.errataref08_Replica_all #[Value.pointer (some (Addr.mk rB rO none))] w100 fun (e102 : Ending) (w103 : World) => ∃ (p104 : Option
  Addr), ∃ (k105 : Nat), ∃ (k106 : Nat), e102 = Ending.returned (Value.slice p104 k105 k106) ∧ ∃ (R107 : List Own), ∃ (Φ108 : PW), Stable Φ108 ∧ Ctx W w103 (R107 ++ R101) Φ108 ∧ ∀ (w109 :
  World) (R110 : List Own), Ctx W w109 (R107 ++ R110) Φ108 → J (Value.agg #[Value.bool false, Value.int IntKind.i64 0, Value.int IntKind.i64 0, Value.int IntKind.i64 0, Value.slice none 0 0,
  Value.slice p104 k105 k106]) w109))))

theorem Berrataref08_Replica_voted_run (rB rO : Nat) (m0 : Int) (m1 : Int) (m2 : Int) (m3 : Int) (m4 : Int) (m5 : Int) (m6 : Int) (m7 : Bool) (m8P : Option Addr) (m8N m8C : Nat) {W w : World} {R : List Own} {Φ : PW} [Stable Φ] {J : Value → World → Prop} (c : Ctx W w R Φ) (h : Berrataref08_Replica_voted rB rO m0 m1 m2 m3 m4 m5 m6 m7 m8P m8N m8C W R Φ J) : Calls Try.prog F.errataref08_Replica_voted #[.pointer (some ⟨rB, rO, none⟩), .agg #[.int .i64 m0, .int .i64 m1, .int .i64 m2, .int .i64 m3, .int .i64 m4, .int .i64 m5, .int .i64 m6, .bool m7, .slice m8P m8N m8C]] w fun e w' => ∃ v, e = .returned v ∧ J v w' :=
  vcFS_sound (H := { keep := some [0, 3, 4, 5, 6, 7, 27, 37, 46, 50, 56], track := [3, 4], stages := [(3, [.stage [0, 4, 1, 5, 2, 3, 6] (some 7)]), (16, [.stage [0, 4, 5, 1, 6, 2, 7, 3, 8, 9, 10, 11] (some 12)])], loops := [(14, [(7, .one (.int .i64))], []), (6, [(5, .one (.int .i64)), (6, .one (.int .i64))], [])] }) (by rw [show vcFS Try.prog W { keep := some [0, 3, 4, 5, 6, 7, 27, 37, 46, 50, 56], track := [3, 4], stages := [(3, [.stage [0, 4, 1, 5, 2, 3, 6] (some 7)]), (16, [.stage [0, 4, 5, 1, 6, 2, 7, 3, 8, 9, 10, 11] (some 12)])], loops := [(14, [(7, .one (.int .i64))], []), (6, [(5, .one (.int .i64)), (6, .one (.int .i64))], [])] } F.errataref08_Replica_voted #[.pointer (some ⟨rB, rO, none⟩), .agg #[.int .i64 m0, .int .i64 m1, .int .i64 m2, .int .i64 m3, .int .i64 m4, .int .i64 m5, .int .i64 m6, .bool m7, .slice m8P m8N m8C]] R Φ J = Berrataref08_Replica_voted rB rO m0 m1 m2 m3 m4 m5 m6 m7 m8P m8N m8C W R Φ J by kernel_rfl]; exact h) c

/-- (*errataref08.Replica).append -/
-- loop at region 12: 7 k; blocks 
-- known blocks: 3 m, 4 , 5 a, 6 o
def Berrataref08_Replica_append (rB rO : Nat) (m0 : Int) (m1 : Int) (m2 : Int) (m3 : Int) (m4 : Int) (m5 : Int) (m6 : Int) (m7 : Bool) (m8P : Option Addr) (m8N m8C : Nat) (W : World) (R : List Own) (Φ : PW) (J : Value → World → Prop) : Prop :=
  ∀ (b b : Nat) (w0 : World) (R1 : List Own), Ctx W w0 (R ++ R1) Φ → Calls Try.prog F.errataref08_Replica_message #[Value.pointer (some (Addr.mk rB rO none)), Value.int IntKind.i64 3,
  Value.int IntKind.i64 m1] w0 fun (e2 : Ending) (w3 : World) => ∃ (n4 : Int), ∃ (n5 : Int), ∃ (n6 : Int), ∃ (n7 : Int), ∃ (n8 : Int), ∃ (n9 : Int), ∃ (n10 : Int), ∃ (c11 : Bool), ∃ (p12 :
  Option Addr), ∃ (k13 : Nat), ∃ (k14 : Nat), e2 = Ending.returned (Value.agg #[Value.int IntKind.i64 n4, Value.int IntKind.i64 n5, Value.int IntKind.i64 n6, Value.int IntKind.i64 n7,
  Value.int IntKind.i64 n8, Value.int IntKind.i64 n9, Value.int IntKind.i64 n10, Value.bool c11, Value.slice p12 k13 k14]) ∧ ∃ (R15 : List Own), ∃ (Φ16 : PW), Stable Φ16 ∧ Ctx W w3 (R15 ++
  R1) Φ16 ∧ ∀ (b : Nat) (w17 : World) (R18 : List Own), Ctx W w17 (R15 ++ R18) Φ16 → ∃ (n19 : Int), w17.cell? (Addr.mk rB (rO + 1) none) = some (Value.int IntKind.i64 n19) ∧ Br (decide (m3 <
  n19)) (∀ (k20 : Nat) (w21 : World) (R22 : List Own), Ctx W w21 (Own.blk k20 [Value.int IntKind.i64 n4, Value.int IntKind.i64 n5, Value.int IntKind.i64 n6, Value.int IntKind.i64 n7,
  Value.int IntKind.i64 n8, Value.int IntKind.i64 n9, Value.int IntKind.i64 n10, Value.bool c11, Value.slice p12 k13 k14] 37 :: R15 ++ R22) Φ16 → J (Value.agg #[Value.bool false, Value.int
  IntKind.i64 0, Value.int IntKind.i64 0, Value.int IntKind.i64 0, Value.slice none 0 0, Value.slice (some (Addr.mk k20 0 none)) 1 1]) w21) (∀ (w23 : World) (R24 : List Own), Ctx W w23 (R15
  ++ R24) Φ16 → ∃ (n25 : Int), w23.cell? (Addr.mk rB (rO + 4) none) = some (Value.int IntKind.i64 n25) ∧ Br (decide (n25 = 2)) (∀ (w26 : World) (R27 : List Own), Ctx W w26 (R15 ++ R27) Φ16 →
  J (Value.agg #[Value.bool false, Value.int IntKind.i64 0, Value.int IntKind.i64 0, Value.int IntKind.i64 0, Value.slice none 0 0, Value.slice none 0 0]) w26) (∀ (w28 : World) (R29 : List
  Own), Ctx W w28 (R15 ++ R29) Φ16 → CanWrite w28 rB (rO + 4) 1 ∧ ∀ (w30 : World), w30 = w28.setCell (Addr.mk rB (rO + 4) none) (Value.int IntKind.i64 0) → ∃ (R31 : List Own), ∃ (Φ32 : PW),
  Stable Φ32 ∧ Ctx W w30 (R31 ++ R29) Φ32 ∧ ∀ (w33 : World) (R34 : List Own), Ctx W w33 (R31 ++ R34) Φ32 → ∃ (p35 : Option Addr), ∃ (k36 : Nat), ∃ (k37 : Nat), w33.cell? (Addr.mk rB (rO + 3)
  none) = some (Value.slice p35 k36 k37) ∧ ∃ (n38 : Int), ((!decide ((↑k36 : Int) < m4)) = true → ∀ (w39 : World), (∃ (k40 : Nat), w39 = w33.drewN k40) → Calls Try.prog
  F.errataref08_Replica_term #[Value.pointer (some (Addr.mk rB rO none)), Value.int IntKind.i64 m4] w39 fun (e41 : Ending) (w42 : World) => e41 = Ending.returned (Value.int IntKind.i64 n38) ∧
  ∃ (k43 : Nat), w42 = w33.drewN k43) ∧ Br (decide ((↑k36 : Int) < m4) || decide (n38 ≠ m5)) (I64 (m4 - 1) ∧ ∀ (w44 : World) (R45 : List Own), Ctx W w44 (R31 ++ R45) Φ32 → ∃ (p46 : Option
  Addr), ∃ (k47 : Nat), ∃ (k48 : Nat), w44.cell? (Addr.mk rB (rO + 3) none) = some (Value.slice p46 k47 k48) ∧ ∀ (k49 : Nat) (w50 : World) (R51 : List Own), Ctx W w50 (Own.blk k49 [Value.int
  IntKind.i64 n4, Value.int IntKind.i64 n5, Value.int IntKind.i64 n6, Value.int IntKind.i64 n7, Value.int IntKind.i64 (min (↑k47 : Int) (m4 - 1)), Value.int IntKind.i64 n9, Value.int
  IntKind.i64 n10, Value.bool c11, Value.slice p12 k13 k14] 37 :: R31 ++ R51) Φ32 → J (Value.agg #[Value.bool false, Value.int IntKind.i64 0, Value.int IntKind.i64 0, Value.int IntKind.i64 0,
  Value.slice none 0 0, Value.slice (some (Addr.mk k49 0 none)) 1 1]) w50) (∀ (b : Nat), exI fun (I52 : Int → List Own → PW → Nat → Prop) => (∃ (R53 : List Own), ∃ (Φ54 : PW), ∃ (k55 : Nat),
  Stable Φ54 ∧ (∀ (w56 : World) (R57 : List Own), Ctx W w56 (R31 ++ R57) Φ32 → Ctx W w56 (R53 ++ R57) Φ54) ∧ I52 0 R53 Φ54 k55) ∧ ∀ (n58 : Int) (R59 : List Own) (I60 : List Nat → World →
  Prop) (k61 : Nat), Stable I60 → I52 n58 R59 I60 k61 → ∀ (w62 : World) (R63 : List Own), Ctx W w62 (R59 ++ R63) I60 → (decide (n58 < (↑m8N : Int)) = true → I64 (m4 + n58)) ∧ (decide (n58 <
  (↑m8N : Int)) = true → I64 (m4 + n58 + 1)) ∧ ∃ (p64 : Option Addr), ∃ (k65 : Nat), ∃ (k66 : Nat), (decide (n58 < (↑m8N : Int)) = true → w62.cell? (Addr.mk rB (rO + 3) none) = some
  (Value.slice p64 k65 k66)) ∧ ((decide (n58 < (↑m8N : Int)) && decide (m4 + n58 + 1 ≤ (↑k65 : Int))) = true → I64 (m4 + n58)) ∧ ((decide (n58 < (↑m8N : Int)) && decide (m4 + n58 + 1 ≤ (↑k65
  : Int))) = true → I64 (m4 + n58 + 1)) ∧ ∃ (n67 : Int), ((decide (n58 < (↑m8N : Int)) && decide (m4 + n58 + 1 ≤ (↑k65 : Int))) = true → ∀ (w68 : World), (∃ (k69 : Nat), w68 = w62.drewN k69)
  → Calls Try.prog F.errataref08_Replica_term #[Value.pointer (some (Addr.mk rB rO none)), Value.int IntKind.i64 (m4 + n58 + 1)] w68 fun (e70 : Ending) (w71 : World) => e70 = Ending.returned
  (Value.int IntKind.i64 n67) ∧ ∃ (k72 : Nat), w71 = w62.drewN k72) ∧ ((decide (n58 < (↑m8N : Int)) && decide (m4 + n58 + 1 ≤ (↑k65 : Int))) = true → I64 ((↑m8N : Int) - 1)) ∧ ((decide (n58 <
  (↑m8N : Int)) && decide (m4 + n58 + 1 ≤ (↑k65 : Int))) = true → 0 ≤ min n58 ((↑m8N : Int) - 1) ∧ min n58 ((↑m8N : Int) - 1) < (↑m8N : Int)) ∧ ptrK (some (decide (n58 < (↑m8N : Int)) &&
  decide (m4 + n58 + 1 ≤ (↑k65 : Int)))) m8P fun (k73 k74 : Nat) => ∃ (n75 : Int), ((decide (n58 < (↑m8N : Int)) && decide (m4 + n58 + 1 ≤ (↑k65 : Int))) = true → w62.cell? (Addr.mk k73 (k74
  + (min n58 ((↑m8N : Int) - 1)).toNat * 2) none) = some (Value.int IntKind.i64 n75)) ∧ Br (decide (n58 < (↑m8N : Int)) && decide (m4 + n58 + 1 ≤ (↑k65 : Int)) && decide (n67 = n75)) (I64
  (n58 + 1) ∧ ∃ (R76 : List Own), ∃ (Φ77 : PW), ∃ (k78 : Nat), Stable Φ77 ∧ (∀ (w79 : World) (R80 : List Own), Ctx W w79 (R59 ++ R80) I60 → Ctx W w79 (R76 ++ R80) Φ77) ∧ I52 (n58 + 1) R76 Φ77
  k78 ∧ k78 < k61) (Br (decide (n58 < (↑m8N : Int))) (I64 (m4 + n58) ∧ I64 (m4 + n58 + 1) ∧ ∀ (w81 : World) (R82 : List Own), Ctx W w81 (R59 ++ R82) I60 → ∃ (n83 : Int), w81.cell? (Addr.mk rB
  (rO + 5) none) = some (Value.int IntKind.i64 n83) ∧ Br (decide (m4 + n58 + 1 ≤ n83)) (∀ (w84 : World) (R85 : List Own), Ctx W w84 (R59 ++ R85) I60 → J (Value.agg #[Value.bool false,
  Value.int IntKind.i64 0, Value.int IntKind.i64 0, Value.int IntKind.i64 0, Value.slice none 0 0, Value.slice none 0 0]) w84) (∀ (k86 : Nat), (0 ≤ n58 ∧ n58 ≤ (↑m8N : Int) ∧ m8N ≤ m8C) ∧ ∀
  (w87 : World) (R88 : List Own), Ctx W w87 (Own.blk k86 [] 55 :: R59 ++ R88) I60 → ∃ (p89 : Option Addr), ∃ (k90 : Nat), ∃ (k91 : Nat), ∃ (w92 : World), Sem.run Try.prog (builtin
  Builtin.append #[35, 35] 35 #[false, false] #[Value.slice (some (Addr.mk k86 0 none)) 0 0, Value.slice (subPtr m8P 2 n58.toNat m8C) (m8N - n58.toNat) (m8C - n58.toNat)]) w87 = Result.ok
  (Next.value (Value.slice p89 k90 k91)) w92 ∧ ∃ (R93 : List Own), ∃ (Φ94 : PW), Stable Φ94 ∧ Ctx W w92 (R93 ++ R88) Φ94 ∧ ∃ (R95 : List Own), ∃ (Φ96 : PW), Stable Φ96 ∧ (∀ (w97 : World) (R98
  : List Own), Ctx W w97 (R93 ++ R98) Φ94 → Ctx W w97 (R95 ++ R98) Φ96) ∧ I64 (m4 + n58 + 1 - 1) ∧ ∃ (p99 : Option Addr), ∃ (k100 : Nat), ∃ (k101 : Nat), (∀ (w102 : World) (R103 : List Own),
  Ctx W w102 (R95 ++ R103) Φ96 → ∃ (p104 : Option Addr), ∃ (k105 : Nat), ∃ (k106 : Nat), w102.cell? (Addr.mk rB (rO + 3) none) = some (Value.slice p104 k105 k106) ∧ Value.slice p104 k105 k106
  = Value.slice p99 k100 k101) ∧ (0 ≤ m4 + n58 + 1 - 1 ∧ m4 + n58 + 1 - 1 ≤ (↑k101 : Int)) ∧ ∀ (k107 : Nat), (∀ (w108 : World) (R109 : List Own), Ctx W w108 (Own.blk k107 [] 55 :: R93 ++
  R109) Φ94 → Ctx W w108 (R95 ++ R109) Φ96) ∧ ∀ (w110 : World) (R111 : List Own), Ctx W w110 (Own.blk k107 [] 55 :: R93 ++ R111) Φ94 → ∃ (p112 : Option Addr), ∃ (k113 : Nat), ∃ (k114 : Nat),
  ∃ (w115 : World), Sem.run Try.prog (builtin Builtin.append #[35, 35] 35 #[false, false] #[Value.slice (some (Addr.mk k107 0 none)) 0 0, Value.slice (subPtr p99 2 0 k101) (m4 + n58 + 1 -
  1).toNat k101]) w110 = Result.ok (Next.value (Value.slice p112 k113 k114)) w115 ∧ ∃ (R116 : List Own), ∃ (Φ117 : PW), Stable Φ117 ∧ Ctx W w115 (R116 ++ R111) Φ117 ∧ (∀ (w118 : World) (R119
  : List Own), Ctx W w118 (R116 ++ R119) Φ117 → Ctx W w118 (R95 ++ R119) Φ96) ∧ ∀ (w120 : World) (R121 : List Own), Ctx W w120 (R116 ++ R121) Φ117 → ∃ (p122 : Option Addr), ∃ (k123 : Nat), ∃
  (k124 : Nat), ∃ (w125 : World), Sem.run Try.prog (builtin Builtin.append #[35, 35] 35 #[false, false] #[Value.slice p112 k113 k114, Value.slice p89 k90 k91]) w120 = Result.ok (Next.value
  (Value.slice p122 k123 k124)) w125 ∧ ∃ (R126 : List Own), ∃ (Φ127 : PW), Stable Φ127 ∧ Ctx W w125 (R126 ++ R121) Φ127 ∧ (∀ (w128 : World) (R129 : List Own), Ctx W w128 (R126 ++ R129) Φ127 →
  Ctx W w128 (R95 ++ R129) Φ96) ∧ ∀ (w130 : World) (R131 : List Own), Ctx W w130 (R126 ++ R131) Φ127 → CanWrite w130 rB (rO + 3) 1 ∧ ∀ (w132 : World), w132 = w130.setCell (Addr.mk rB (rO + 3)
  none) (Value.slice p122 k123 k124) → ∃ (R133 : List Own), ∃ (Φ134 : PW), Stable Φ134 ∧ Ctx W w132 (R133 ++ R131) Φ134 ∧ I64 (m4 + (↑m8N : Int)) ∧ ∀ (w135 : World) (R136 : List Own), Ctx W
  w135 (R133 ++ R136) Φ134 → ∃ (n137 : Int), w135.cell? (Addr.mk rB (rO + 5) none) = some (Value.int IntKind.i64 n137) ∧ ∀ (w138 : World) (R139 : List Own), Ctx W w138 (R133 ++ R139) Φ134 →
  CanWrite w138 rB (rO + 5) 1 ∧ ∀ (w140 : World), w140 = w138.setCell (Addr.mk rB (rO + 5) none) (Value.int IntKind.i64 (max n137 (min m6 (m4 + (↑m8N : Int))))) → ∃ (R141 : List Own), ∃ (Φ142
  : PW), Stable Φ142 ∧ Ctx W w140 (R141 ++ R139) Φ142 ∧ ∀ (k143 : Nat) (w144 : World) (R145 : List Own), Ctx W w144 (Own.blk k143 [Value.int IntKind.i64 n4, Value.int IntKind.i64 n5,
  Value.int IntKind.i64 n6, Value.int IntKind.i64 n7, Value.int IntKind.i64 (m4 + (↑m8N : Int)), Value.int IntKind.i64 n9, Value.int IntKind.i64 n10, Value.bool true, Value.slice p12 k13 k14]
  37 :: R141 ++ R145) Φ142 → J (Value.agg #[Value.bool false, Value.int IntKind.i64 0, Value.int IntKind.i64 0, Value.int IntKind.i64 (m4 + n58 + 1), Value.slice p89 k90 k91, Value.slice
  (some (Addr.mk k143 0 none)) 1 1]) w144)) (I64 (m4 + (↑m8N : Int)) ∧ ∀ (w146 : World) (R147 : List Own), Ctx W w146 (R59 ++ R147) I60 → ∃ (n148 : Int), w146.cell? (Addr.mk rB (rO + 5) none)
  = some (Value.int IntKind.i64 n148) ∧ ∀ (w149 : World) (R150 : List Own), Ctx W w149 (R59 ++ R150) I60 → CanWrite w149 rB (rO + 5) 1 ∧ ∀ (w151 : World), w151 = w149.setCell (Addr.mk rB (rO
  + 5) none) (Value.int IntKind.i64 (max n148 (min m6 (m4 + (↑m8N : Int))))) → ∃ (R152 : List Own), ∃ (Φ153 : PW), Stable Φ153 ∧ Ctx W w151 (R152 ++ R150) Φ153 ∧ ∀ (k154 : Nat) (w155 : World)
  (R156 : List Own), Ctx W w155 (Own.blk k154 [Value.int IntKind.i64 n4, Value.int IntKind.i64 n5, Value.int IntKind.i64 n6, Value.int IntKind.i64 n7, Value.int IntKind.i64 (m4 + (↑m8N :
  Int)), Value.int IntKind.i64 n9, Value.int IntKind.i64 n10, Value.bool true, Value.slice p12 k13 k14] 37 :: R152 ++ R156) Φ153 → J (Value.agg #[Value.bool false, Value.int IntKind.i64 0,
  Value.int IntKind.i64 0, Value.int IntKind.i64 0, Value.slice none 0 0, Value.slice (some (Addr.mk k154 0 none)) 1 1]) w155)))))

theorem Berrataref08_Replica_append_run (rB rO : Nat) (m0 : Int) (m1 : Int) (m2 : Int) (m3 : Int) (m4 : Int) (m5 : Int) (m6 : Int) (m7 : Bool) (m8P : Option Addr) (m8N m8C : Nat) {W w : World} {R : List Own} {Φ : PW} [Stable Φ] {J : Value → World → Prop} (c : Ctx W w R Φ) (h : Berrataref08_Replica_append rB rO m0 m1 m2 m3 m4 m5 m6 m7 m8P m8N m8C W R Φ J) : Calls Try.prog F.errataref08_Replica_append #[.pointer (some ⟨rB, rO, none⟩), .agg #[.int .i64 m0, .int .i64 m1, .int .i64 m2, .int .i64 m3, .int .i64 m4, .int .i64 m5, .int .i64 m6, .bool m7, .slice m8P m8N m8C]] w fun e w' => ∃ v, e = .returned v ∧ J v w' :=
  vcFS_sound (H := { keep := some [0, 3, 4, 5, 6, 7, 8, 9, 21, 29, 50, 103, 110, 121], track := [3, 4, 5, 6], stages := [(8, [.stage [0, 5, 1, 6, 2, 7, 3, 4, 8, 9] (some 10)]), (20, [.held [(0, true), (2, true), (6, true), (10, true), (3, true), (7, true), (11, true), (4, true), (5, true), (8, true), (1, false), (9, false), (12, false)], .stage [13] none, .stage [14] (some 15)]), (22, [.stage [0, 1, 5, 7, 2, 6, 3, 8, 4, 9] none, .stage [10] none, .stage [11] (some 12)])], loops := [(12, [(7, .one (.int .i64))], [])] }) (by rw [show vcFS Try.prog W { keep := some [0, 3, 4, 5, 6, 7, 8, 9, 21, 29, 50, 103, 110, 121], track := [3, 4, 5, 6], stages := [(8, [.stage [0, 5, 1, 6, 2, 7, 3, 4, 8, 9] (some 10)]), (20, [.held [(0, true), (2, true), (6, true), (10, true), (3, true), (7, true), (11, true), (4, true), (5, true), (8, true), (1, false), (9, false), (12, false)], .stage [13] none, .stage [14] (some 15)]), (22, [.stage [0, 1, 5, 7, 2, 6, 3, 8, 4, 9] none, .stage [10] none, .stage [11] (some 12)])], loops := [(12, [(7, .one (.int .i64))], [])] } F.errataref08_Replica_append #[.pointer (some ⟨rB, rO, none⟩), .agg #[.int .i64 m0, .int .i64 m1, .int .i64 m2, .int .i64 m3, .int .i64 m4, .int .i64 m5, .int .i64 m6, .bool m7, .slice m8P m8N m8C]] R Φ J = Berrataref08_Replica_append rB rO m0 m1 m2 m3 m4 m5 m6 m7 m8P m8N m8C W R Φ J by kernel_rfl]; exact h) c

/-- (*errataref08.Replica).appended -/
-- loop at region 10: 6 n; blocks 
-- known blocks: 3 m, 4 
def Berrataref08_Replica_appended (rB rO : Nat) (m0 : Int) (m1 : Int) (m2 : Int) (m3 : Int) (m4 : Int) (m5 : Int) (m6 : Int) (m7 : Bool) (m8P : Option Addr) (m8N m8C : Nat) (W : World) (R : List Own) (Φ : PW) (J : Value → World → Prop) : Prop :=
  ∀ (b b : Nat) (w0 : World) (R1 : List Own), Ctx W w0 (R ++ R1) Φ → ∃ (n2 : Int), w0.cell? (Addr.mk rB (rO + 4) none) = some (Value.int IntKind.i64 n2) ∧ ∃ (n3 : Int), ((!decide (n2 ≠ 2)) =
  true → w0.cell? (Addr.mk rB (rO + 1) none) = some (Value.int IntKind.i64 n3)) ∧ ∃ (p4 : Option Addr), ∃ (k5 : Nat), ∃ (k6 : Nat), ((!(decide (n2 ≠ 2) || decide (m3 ≠ n3)) && m7) = true →
  w0.cell? (Addr.mk rB (rO + 3) none) = some (Value.slice p4 k5 k6)) ∧ Br (decide (n2 ≠ 2) || decide (m3 ≠ n3) || m7 && decide ((↑k5 : Int) < m4)) (∀ (w7 : World) (R8 : List Own), Ctx W w7 (R
  ++ R8) Φ → J (Value.agg #[Value.bool false, Value.int IntKind.i64 0, Value.int IntKind.i64 0, Value.int IntKind.i64 0, Value.slice none 0 0, Value.slice none 0 0]) w7) (Br (!m7) (I64 (m4 +
  1) ∧ ∀ (w9 : World) (R10 : List Own), Ctx W w9 (R ++ R10) Φ → ∃ (p11 : Option Addr), ∃ (k12 : Nat), ∃ (k13 : Nat), w9.cell? (Addr.mk rB (rO + 7) none) = some (Value.slice p11 k12 k13) ∧ ∀
  (w14 : World) (R15 : List Own), Ctx W w14 (R ++ R15) Φ → ∃ (p16 : Option Addr), ∃ (k17 : Nat), ∃ (k18 : Nat), w14.cell? (Addr.mk rB (rO + 8) none) = some (Value.slice p16 k17 k18) ∧ ∀ (w19
  : World) (R20 : List Own), Ctx W w19 (R ++ R20) Φ → ∃ (p21 : Option Addr), ∃ (k22 : Nat), ∃ (k23 : Nat), w19.cell? (Addr.mk rB (rO + 7) none) = some (Value.slice p21 k22 k23) ∧ (0 ≤ m1 ∧ m1
  < (↑k17 : Int)) ∧ ptrK none p16 fun (k24 k25 : Nat) => (0 ≤ m1 ∧ m1 < (↑k22 : Int)) ∧ ptrK none p21 fun (k26 k27 : Nat) => ∀ (w28 : World) (R29 : List Own), Ctx W w28 (R ++ R29) Φ → ∃ (n30
  : Int), w28.cell? (Addr.mk k24 (k25 + m1.toNat) none) = some (Value.int IntKind.i64 n30) ∧ ∀ (w31 : World) (R32 : List Own), Ctx W w31 (R ++ R32) Φ → ∃ (n33 : Int), w31.cell? (Addr.mk k26
  (k27 + m1.toNat) none) = some (Value.int IntKind.i64 n33) ∧ I64 (n30 + 1) ∧ I64 (n33 - 1) ∧ (0 ≤ m1 ∧ m1 < (↑k12 : Int)) ∧ ptrK none p11 fun (k34 k35 : Nat) => ∀ (w36 : World) (R37 : List
  Own), Ctx W w36 (R ++ R37) Φ → CanWrite w36 k34 (k35 + m1.toNat) 1 ∧ ∀ (w38 : World), w38 = w36.setCell (Addr.mk k34 (k35 + m1.toNat) none) (Value.int IntKind.i64 (max (n30 + 1) (min (n33 -
  1) (m4 + 1)))) → ∃ (R39 : List Own), ∃ (Φ40 : PW), Stable Φ40 ∧ Ctx W w38 (R39 ++ R37) Φ40 ∧ ∀ (w41 : World) (R42 : List Own), Ctx W w41 (R39 ++ R42) Φ40 → Calls Try.prog
  F.errataref08_Replica_entries #[Value.pointer (some (Addr.mk rB rO none)), Value.int IntKind.i64 m1] w41 fun (e43 : Ending) (w44 : World) => ∃ (n45 : Int), ∃ (n46 : Int), ∃ (n47 : Int), ∃
  (n48 : Int), ∃ (n49 : Int), ∃ (n50 : Int), ∃ (n51 : Int), ∃ (c52 : Bool), ∃ (p53 : Option Addr), ∃ (k54 : Nat), ∃ (k55 : Nat), e43 = Ending.returned (Value.agg #[Value.int IntKind.i64 n45,
  Value.int IntKind.i64 n46, Value.int IntKind.i64 n47, Value.int IntKind.i64 n48, Value.int IntKind.i64 n49, Value.int IntKind.i64 n50, Value.int IntKind.i64 n51, Value.bool c52, Value.slice
  p53 k54 k55]) ∧ ∃ (R56 : List Own), ∃ (Φ57 : PW), Stable Φ57 ∧ Ctx W w44 (R56 ++ R42) Φ57 ∧ ∀ (k58 : Nat) (w59 : World) (R60 : List Own), Ctx W w59 (Own.blk k58 [Value.int IntKind.i64 n45,
  Value.int IntKind.i64 n46, Value.int IntKind.i64 n47, Value.int IntKind.i64 n48, Value.int IntKind.i64 n49, Value.int IntKind.i64 n50, Value.int IntKind.i64 n51, Value.bool c52, Value.slice
  p53 k54 k55] 37 :: R56 ++ R60) Φ57 → J (Value.agg #[Value.bool false, Value.int IntKind.i64 0, Value.int IntKind.i64 0, Value.int IntKind.i64 0, Value.slice none 0 0, Value.slice (some
  (Addr.mk k58 0 none)) 1 1]) w59) (∀ (w61 : World) (R62 : List Own), Ctx W w61 (R ++ R62) Φ → ∃ (p63 : Option Addr), ∃ (k64 : Nat), ∃ (k65 : Nat), w61.cell? (Addr.mk rB (rO + 8) none) = some
  (Value.slice p63 k64 k65) ∧ ∀ (w66 : World) (R67 : List Own), Ctx W w66 (R ++ R67) Φ → ∃ (p68 : Option Addr), ∃ (k69 : Nat), ∃ (k70 : Nat), w66.cell? (Addr.mk rB (rO + 8) none) = some
  (Value.slice p68 k69 k70) ∧ (0 ≤ m1 ∧ m1 < (↑k69 : Int)) ∧ ptrK none p68 fun (k71 k72 : Nat) => ∀ (w73 : World) (R74 : List Own), Ctx W w73 (R ++ R74) Φ → ∃ (n75 : Int), w73.cell? (Addr.mk
  k71 (k72 + m1.toNat) none) = some (Value.int IntKind.i64 n75) ∧ (0 ≤ m1 ∧ m1 < (↑k64 : Int)) ∧ ptrK none p63 fun (k76 k77 : Nat) => ∀ (w78 : World) (R79 : List Own), Ctx W w78 (R ++ R79) Φ
  → CanWrite w78 k76 (k77 + m1.toNat) 1 ∧ ∀ (w80 : World), w80 = w78.setCell (Addr.mk k76 (k77 + m1.toNat) none) (Value.int IntKind.i64 (max n75 m4)) → ∃ (R81 : List Own), ∃ (Φ82 : PW),
  Stable Φ82 ∧ Ctx W w80 (R81 ++ R79) Φ82 ∧ ∀ (w83 : World) (R84 : List Own), Ctx W w83 (R81 ++ R84) Φ82 → ∃ (p85 : Option Addr), ∃ (k86 : Nat), ∃ (k87 : Nat), w83.cell? (Addr.mk rB (rO + 7)
  none) = some (Value.slice p85 k86 k87) ∧ ∀ (w88 : World) (R89 : List Own), Ctx W w88 (R81 ++ R89) Φ82 → ∃ (p90 : Option Addr), ∃ (k91 : Nat), ∃ (k92 : Nat), w88.cell? (Addr.mk rB (rO + 8)
  none) = some (Value.slice p90 k91 k92) ∧ (0 ≤ m1 ∧ m1 < (↑k91 : Int)) ∧ ptrK none p90 fun (k93 k94 : Nat) => ∀ (w95 : World) (R96 : List Own), Ctx W w95 (R81 ++ R96) Φ82 → ∃ (n97 : Int),
  w95.cell? (Addr.mk k93 (k94 + m1.toNat) none) = some (Value.int IntKind.i64 n97) ∧ I64 (n97 + 1) ∧ (0 ≤ m1 ∧ m1 < (↑k86 : Int)) ∧ ptrK none p85 fun (k98 k99 : Nat) => ∀ (w100 : World) (R101
  : List Own), Ctx W w100 (R81 ++ R101) Φ82 → CanWrite w100 k98 (k99 + m1.toNat) 1 ∧ ∀ (w102 : World), w102 = w100.setCell (Addr.mk k98 (k99 + m1.toNat) none) (Value.int IntKind.i64 (n97 +
  1)) → ∃ (R103 : List Own), ∃ (Φ104 : PW), Stable Φ104 ∧ Ctx W w102 (R103 ++ R101) Φ104 ∧ ∀ (w105 : World) (R106 : List Own), Ctx W w105 (R103 ++ R106) Φ104 → ∃ (n107 : Int), w105.cell?
  (Addr.mk rB (rO + 5) none) = some (Value.int IntKind.i64 n107) ∧ I64 (n107 + 1) ∧ exI fun (I108 : Int → List Own → PW → Nat → Prop) => (∃ (R109 : List Own), ∃ (Φ110 : PW), ∃ (k111 : Nat),
  Stable Φ110 ∧ (∀ (w112 : World) (R113 : List Own), Ctx W w112 (R103 ++ R113) Φ104 → Ctx W w112 (R109 ++ R113) Φ110) ∧ I108 (n107 + 1) R109 Φ110 k111) ∧ ∀ (n114 : Int) (R115 : List Own)
  (I116 : List Nat → World → Prop) (k117 : Nat), Stable I116 → I108 n114 R115 I116 k117 → ∀ (w118 : World) (R119 : List Own), Ctx W w118 (R115 ++ R119) I116 → ∃ (p120 : Option Addr), ∃ (k121
  : Nat), ∃ (k122 : Nat), w118.cell? (Addr.mk rB (rO + 3) none) = some (Value.slice p120 k121 k122) ∧ Br (decide (n114 ≤ (↑k121 : Int))) (∀ (w123 : World) (R124 : List Own), Ctx W w123 (R115
  ++ R124) I116 → ∃ (n125 : Int), (∀ (w126 : World), (∃ (k127 : Nat), w126 = w123.drewN k127) → Calls Try.prog F.errataref08_Replica_term #[Value.pointer (some (Addr.mk rB rO none)),
  Value.int IntKind.i64 n114] w126 fun (e128 : Ending) (w129 : World) => e128 = Ending.returned (Value.int IntKind.i64 n125) ∧ ∃ (k130 : Nat), w129 = w123.drewN k130) ∧ ∃ (n131 : Int),
  w123.cell? (Addr.mk rB (rO + 1) none) = some (Value.int IntKind.i64 n131) ∧ ∃ (p132 : Option Addr), ∃ (k133 : Nat), ∃ (k134 : Nat), (decide (n125 = n131) = true → w123.cell? (Addr.mk rB (rO
  + 8) none) = some (Value.slice p132 k133 k134)) ∧ ∃ (n135 : Int), (decide (n125 = n131) = true → w123.cell? (Addr.mk rB rO none) = some (Value.int IntKind.i64 n135)) ∧ (decide (n125 = n131)
  = true → I64 (n135 + 1)) ∧ (decide (n125 = n131) = true → (3 : Int) ≠ 0) ∧ (decide (n125 = n131) = true → 0 ≤ (n135 + 1).tmod 3 ∧ (n135 + 1).tmod 3 < (↑k133 : Int)) ∧ ptrK (some (decide
  (n125 = n131))) p132 fun (k136 k137 : Nat) => ∃ (n138 : Int), (decide (n125 = n131) = true → w123.cell? (Addr.mk k136 (k137 + ((n135 + 1).tmod 3).toNat) none) = some (Value.int IntKind.i64
  n138)) ∧ ∃ (p139 : Option Addr), ∃ (k140 : Nat), ∃ (k141 : Nat), (decide (n125 = n131) = true → w123.cell? (Addr.mk rB (rO + 8) none) = some (Value.slice p139 k140 k141)) ∧ ∃ (n142 : Int),
  (decide (n125 = n131) = true → w123.cell? (Addr.mk rB rO none) = some (Value.int IntKind.i64 n142)) ∧ (decide (n125 = n131) = true → I64 (n142 + 2)) ∧ (decide (n125 = n131) = true → (3 :
  Int) ≠ 0) ∧ (decide (n125 = n131) = true → 0 ≤ (n142 + 2).tmod 3 ∧ (n142 + 2).tmod 3 < (↑k140 : Int)) ∧ ptrK (some (decide (n125 = n131))) p139 fun (k143 k144 : Nat) => ∃ (n145 : Int),
  (decide (n125 = n131) = true → w123.cell? (Addr.mk k143 (k144 + ((n142 + 2).tmod 3).toNat) none) = some (Value.int IntKind.i64 n145)) ∧ Br (decide (n125 = n131) && decide (n114 ≤ max n138
  n145)) (∀ (w146 : World) (R147 : List Own), Ctx W w146 (R115 ++ R147) I116 → CanWrite w146 rB (rO + 5) 1 ∧ ∀ (w148 : World), w148 = w146.setCell (Addr.mk rB (rO + 5) none) (Value.int
  IntKind.i64 n114) → ∃ (R149 : List Own), ∃ (Φ150 : PW), Stable Φ150 ∧ Ctx W w148 (R149 ++ R147) Φ150 ∧ I64 (n114 + 1) ∧ ∃ (R151 : List Own), ∃ (Φ152 : PW), ∃ (k153 : Nat), Stable Φ152 ∧ (∀
  (w154 : World) (R155 : List Own), Ctx W w154 (R149 ++ R155) Φ150 → Ctx W w154 (R151 ++ R155) Φ152) ∧ I108 (n114 + 1) R151 Φ152 k153 ∧ k153 < k117) (I64 (n114 + 1) ∧ ∃ (R156 : List Own), ∃
  (Φ157 : PW), ∃ (k158 : Nat), Stable Φ157 ∧ (∀ (w159 : World) (R160 : List Own), Ctx W w159 (R115 ++ R160) I116 → Ctx W w159 (R156 ++ R160) Φ157) ∧ I108 (n114 + 1) R156 Φ157 k158 ∧ k158 <
  k117)) (∀ (w161 : World) (R162 : List Own), Ctx W w161 (R115 ++ R162) I116 → ∃ (p163 : Option Addr), ∃ (k164 : Nat), ∃ (k165 : Nat), w161.cell? (Addr.mk rB (rO + 7) none) = some
  (Value.slice p163 k164 k165) ∧ (0 ≤ m1 ∧ m1 < (↑k164 : Int)) ∧ ptrK none p163 fun (k166 k167 : Nat) => ∃ (n168 : Int), w161.cell? (Addr.mk k166 (k167 + m1.toNat) none) = some (Value.int
  IntKind.i64 n168) ∧ ∃ (p169 : Option Addr), ∃ (k170 : Nat), ∃ (k171 : Nat), w161.cell? (Addr.mk rB (rO + 3) none) = some (Value.slice p169 k170 k171) ∧ Br (decide (n168 ≤ (↑k170 : Int))) (∀
  (w172 : World) (R173 : List Own), Ctx W w172 (R115 ++ R173) I116 → Calls Try.prog F.errataref08_Replica_entries #[Value.pointer (some (Addr.mk rB rO none)), Value.int IntKind.i64 m1] w172
  fun (e174 : Ending) (w175 : World) => ∃ (n176 : Int), ∃ (n177 : Int), ∃ (n178 : Int), ∃ (n179 : Int), ∃ (n180 : Int), ∃ (n181 : Int), ∃ (n182 : Int), ∃ (c183 : Bool), ∃ (p184 : Option
  Addr), ∃ (k185 : Nat), ∃ (k186 : Nat), e174 = Ending.returned (Value.agg #[Value.int IntKind.i64 n176, Value.int IntKind.i64 n177, Value.int IntKind.i64 n178, Value.int IntKind.i64 n179,
  Value.int IntKind.i64 n180, Value.int IntKind.i64 n181, Value.int IntKind.i64 n182, Value.bool c183, Value.slice p184 k185 k186]) ∧ ∃ (R187 : List Own), ∃ (Φ188 : PW), Stable Φ188 ∧ Ctx W
  w175 (R187 ++ R173) Φ188 ∧ ∀ (k189 : Nat) (w190 : World) (R191 : List Own), Ctx W w190 (Own.blk k189 [Value.int IntKind.i64 n176, Value.int IntKind.i64 n177, Value.int IntKind.i64 n178,
  Value.int IntKind.i64 n179, Value.int IntKind.i64 n180, Value.int IntKind.i64 n181, Value.int IntKind.i64 n182, Value.bool c183, Value.slice p184 k185 k186] 37 :: R187 ++ R191) Φ188 → J
  (Value.agg #[Value.bool false, Value.int IntKind.i64 0, Value.int IntKind.i64 0, Value.int IntKind.i64 0, Value.slice none 0 0, Value.slice (some (Addr.mk k189 0 none)) 1 1]) w190) (∀ (w192
  : World) (R193 : List Own), Ctx W w192 (R115 ++ R193) I116 → J (Value.agg #[Value.bool false, Value.int IntKind.i64 0, Value.int IntKind.i64 0, Value.int IntKind.i64 0, Value.slice none 0
  0, Value.slice none 0 0]) w192))))

theorem Berrataref08_Replica_appended_run (rB rO : Nat) (m0 : Int) (m1 : Int) (m2 : Int) (m3 : Int) (m4 : Int) (m5 : Int) (m6 : Int) (m7 : Bool) (m8P : Option Addr) (m8N m8C : Nat) {W w : World} {R : List Own} {Φ : PW} [Stable Φ] {J : Value → World → Prop} (c : Ctx W w R Φ) (h : Berrataref08_Replica_appended rB rO m0 m1 m2 m3 m4 m5 m6 m7 m8P m8N m8C W R Φ J) : Calls Try.prog F.errataref08_Replica_appended #[.pointer (some ⟨rB, rO, none⟩), .agg #[.int .i64 m0, .int .i64 m1, .int .i64 m2, .int .i64 m3, .int .i64 m4, .int .i64 m5, .int .i64 m6, .bool m7, .slice m8P m8N m8C]] w fun e w' => ∃ v, e = .returned v ∧ J v w' :=
  vcFS_sound (H := { keep := some [0, 3, 4, 5, 6, 35, 41, 115, 155, 172], track := [3, 4], stages := [(5, [.stage [0, 4, 5, 9, 13, 17, 21, 1, 6, 14, 22, 2, 7, 15, 23, 3, 8, 16, 10, 18, 11, 19, 12, 20, 24, 25, 26] (some 27)]), (7, [.stage [0, 4, 5, 9, 12, 1, 6, 13, 2, 7, 3, 8, 10, 11, 14, 15] (some 16)]), (8, [.stage [0, 4, 5, 9, 1, 6, 2, 7, 3, 8, 10, 11, 12, 13] (some 14)])], loops := [(10, [(6, .one (.int .i64))], [])] }) (by rw [show vcFS Try.prog W { keep := some [0, 3, 4, 5, 6, 35, 41, 115, 155, 172], track := [3, 4], stages := [(5, [.stage [0, 4, 5, 9, 13, 17, 21, 1, 6, 14, 22, 2, 7, 15, 23, 3, 8, 16, 10, 18, 11, 19, 12, 20, 24, 25, 26] (some 27)]), (7, [.stage [0, 4, 5, 9, 12, 1, 6, 13, 2, 7, 3, 8, 10, 11, 14, 15] (some 16)]), (8, [.stage [0, 4, 5, 9, 1, 6, 2, 7, 3, 8, 10, 11, 12, 13] (some 14)])], loops := [(10, [(6, .one (.int .i64))], [])] } F.errataref08_Replica_appended #[.pointer (some ⟨rB, rO, none⟩), .agg #[.int .i64 m0, .int .i64 m1, .int .i64 m2, .int .i64 m3, .int .i64 m4, .int .i64 m5, .int .i64 m6, .bool m7, .slice m8P m8N m8C]] R Φ J = Berrataref08_Replica_appended rB rO m0 m1 m2 m3 m4 m5 m6 m7 m8P m8N m8C W R Φ J by kernel_rfl]; exact h) c

/-- (*errataref08.Replica).all -/
-- loop at region 3: 3 out, 4 i; blocks 
def Berrataref08_Replica_all (rB rO : Nat) (W : World) (R : List Own) (Φ : PW) (J : Value → World → Prop) : Prop :=
  exI fun (I0 : Option Addr → Nat → Nat → Int → List Own → PW → Nat → Prop) => (∃ (R1 : List Own), ∃ (Φ2 : PW), ∃ (k3 : Nat), Stable Φ2 ∧ (∀ (w4 : World) (R5 : List Own), Ctx W w4 (R ++ R5) Φ
  → Ctx W w4 (R1 ++ R5) Φ2) ∧ I0 none 0 0 0 R1 Φ2 k3) ∧ ∀ (p6 : Option Addr) (k7 k8 : Nat) (n9 : Int) (R10 : List Own) (I11 : List Nat → World → Prop) (k12 : Nat), Stable I11 → I0 p6 k7 k8 n9
  R10 I11 k12 → Br (decide (n9 < 3)) (∀ (w13 : World) (R14 : List Own), Ctx W w13 (R10 ++ R14) I11 → ∃ (n15 : Int), w13.cell? (Addr.mk rB rO none) = some (Value.int IntKind.i64 n15) ∧ Br
  (decide (n9 ≠ n15)) (∀ (w16 : World) (R17 : List Own), Ctx W w16 (R10 ++ R17) I11 → Calls Try.prog F.errataref08_Replica_entries #[Value.pointer (some (Addr.mk rB rO none)), Value.int
  IntKind.i64 n9] w16 fun (e18 : Ending) (w19 : World) => ∃ (n20 : Int), ∃ (n21 : Int), ∃ (n22 : Int), ∃ (n23 : Int), ∃ (n24 : Int), ∃ (n25 : Int), ∃ (n26 : Int), ∃ (c27 : Bool), ∃ (p28 :
  Option Addr), ∃ (k29 : Nat), ∃ (k30 : Nat), e18 = Ending.returned (Value.agg #[Value.int IntKind.i64 n20, Value.int IntKind.i64 n21, Value.int IntKind.i64 n22, Value.int IntKind.i64 n23,
  Value.int IntKind.i64 n24, Value.int IntKind.i64 n25, Value.int IntKind.i64 n26, Value.bool c27, Value.slice p28 k29 k30]) ∧ ∃ (R31 : List Own), ∃ (Φ32 : PW), Stable Φ32 ∧ Ctx W w19 (R31 ++
  R17) Φ32 ∧ ∀ (k33 : Nat) (w34 : World) (R35 : List Own), Ctx W w34 (Own.blk k33 [Value.int IntKind.i64 n20, Value.int IntKind.i64 n21, Value.int IntKind.i64 n22, Value.int IntKind.i64 n23,
  Value.int IntKind.i64 n24, Value.int IntKind.i64 n25, Value.int IntKind.i64 n26, Value.bool c27, Value.slice p28 k29 k30] 37 :: R31 ++ R35) Φ32 → ∃ (p36 : Option Addr), ∃ (k37 : Nat), ∃
  (k38 : Nat), ∃ (w39 : World), Sem.run Try.prog (builtin Builtin.append #[27, 27] 27 #[false, false] #[Value.slice p6 k7 k8, Value.slice (some (Addr.mk k33 0 none)) 1 1]) w34 = Result.ok
  (Next.value (Value.slice p36 k37 k38)) w39 ∧ ∃ (R40 : List Own), ∃ (Φ41 : PW), Stable Φ41 ∧ Ctx W w39 (R40 ++ R35) Φ41 ∧ I64 (n9 + 1) ∧ ∃ (R42 : List Own), ∃ (Φ43 : PW), ∃ (k44 : Nat),
  Stable Φ43 ∧ (∀ (w45 : World) (R46 : List Own), Ctx W w45 (R40 ++ R46) Φ41 → Ctx W w45 (R42 ++ R46) Φ43) ∧ I0 p36 k37 k38 (n9 + 1) R42 Φ43 k44 ∧ k44 < k12) (I64 (n9 + 1) ∧ ∃ (R47 : List
  Own), ∃ (Φ48 : PW), ∃ (k49 : Nat), Stable Φ48 ∧ (∀ (w50 : World) (R51 : List Own), Ctx W w50 (R10 ++ R51) I11 → Ctx W w50 (R47 ++ R51) Φ48) ∧ I0 p6 k7 k8 (n9 + 1) R47 Φ48 k49 ∧ k49 < k12))
  (∀ (w52 : World) (R53 : List Own), Ctx W w52 (R10 ++ R53) I11 → J (Value.slice p6 k7 k8) w52)

theorem Berrataref08_Replica_all_run (rB rO : Nat) {W w : World} {R : List Own} {Φ : PW} [Stable Φ] {J : Value → World → Prop} (c : Ctx W w R Φ) (h : Berrataref08_Replica_all rB rO W R Φ J) : Calls Try.prog F.errataref08_Replica_all #[.pointer (some ⟨rB, rO, none⟩)] w fun e w' => ∃ v, e = .returned v ∧ J v w' :=
  vcFS_sound (H := { keep := some [0, 2, 3, 4, 6, 14], loops := [(3, [(3, .one (.slice)), (4, .one (.int .i64))], [])] }) (by rw [show vcFS Try.prog W { keep := some [0, 2, 3, 4, 6, 14], loops := [(3, [(3, .one (.slice)), (4, .one (.int .i64))], [])] } F.errataref08_Replica_all #[.pointer (some ⟨rB, rO, none⟩)] R Φ J = Berrataref08_Replica_all rB rO W R Φ J by kernel_rfl]; exact h) c

/-- (*errataref08.Replica).message -/
-- known blocks: 6 
def Berrataref08_Replica_message (rB rO : Nat) (kind : Int) (to : Int) (W : World) (R : List Own) (Φ : PW) (J : Value → World → Prop) : Prop :=
  ∀ (b : Nat) (w0 : World) (R1 : List Own), Ctx W w0 (R ++ R1) Φ → ∃ (n2 : Int), w0.cell? (Addr.mk rB rO none) = some (Value.int IntKind.i64 n2) ∧ ∀ (w3 : World) (R4 : List Own), Ctx W w3 (R
  ++ R4) Φ → ∃ (n5 : Int), w3.cell? (Addr.mk rB (rO + 1) none) = some (Value.int IntKind.i64 n5) ∧ ∀ (w6 : World) (R7 : List Own), Ctx W w6 (R ++ R7) Φ → J (Value.agg #[Value.int IntKind.i64
  kind, Value.int IntKind.i64 n2, Value.int IntKind.i64 to, Value.int IntKind.i64 n5, Value.int IntKind.i64 0, Value.int IntKind.i64 0, Value.int IntKind.i64 0, Value.bool false, Value.slice
  none 0 0]) w6

theorem Berrataref08_Replica_message_run (rB rO : Nat) (kind : Int) (to : Int) {W w : World} {R : List Own} {Φ : PW} [Stable Φ] {J : Value → World → Prop} (c : Ctx W w R Φ) (h : Berrataref08_Replica_message rB rO kind to W R Φ J) : Calls Try.prog F.errataref08_Replica_message #[.pointer (some ⟨rB, rO, none⟩), .int .i64 kind, .int .i64 to] w fun e w' => ∃ v, e = .returned v ∧ J v w' :=
  vcFS_sound (H := { keep := some [0, 1, 2, 6], track := [6], stages := [(1, [.stage [0, 1, 5, 6, 2, 7, 3, 8, 4, 9, 10, 11] (some 12)])] }) (by rw [show vcFS Try.prog W { keep := some [0, 1, 2, 6], track := [6], stages := [(1, [.stage [0, 1, 5, 6, 2, 7, 3, 8, 4, 9, 10, 11] (some 12)])] } F.errataref08_Replica_message #[.pointer (some ⟨rB, rO, none⟩), .int .i64 kind, .int .i64 to] R Φ J = Berrataref08_Replica_message rB rO kind to W R Φ J by kernel_rfl]; exact h) c

/-- errataref08.SameMsg -/
-- known blocks: 2 a, 3 b
def Berrataref08_SameMsg (a0 : Int) (a1 : Int) (a2 : Int) (a3 : Int) (a4 : Int) (a5 : Int) (a6 : Int) (a7 : Bool) (a8P : Option Addr) (a8N a8C : Nat) (b0 : Int) (b1 : Int) (b2 : Int) (b3 : Int) (b4 : Int) (b5 : Int) (b6 : Int) (b7 : Bool) (b8P : Option Addr) (b8N b8C : Nat) (W : World) (R : List Own) (Φ : PW) (J : Value → World → Prop) : Prop :=
  ∀ (b b : Nat), Br (decide (a0 = b0)) (Br (decide (a1 = b1)) (Br (decide (a2 = b2)) (Br (decide (a3 = b3)) (Br (decide (a4 = b4)) (Br (decide (a5 = b5)) (Br (decide (a6 = b6)) (Br (a7 == b7)
  (∀ (w0 : World) (R1 : List Own), Ctx W w0 (R ++ R1) Φ → Calls Try.prog F.errataref08_SameRecs #[Value.slice a8P a8N a8C, Value.slice b8P b8N b8C] w0 fun (e2 : Ending) (w3 : World) => ∃ (c4
  : Bool), e2 = Ending.returned (Value.bool c4) ∧ ∃ (R5 : List Own), ∃ (Φ6 : PW), Stable Φ6 ∧ Ctx W w3 (R5 ++ R1) Φ6 ∧ ∀ (w7 : World) (R8 : List Own), Ctx W w7 (R5 ++ R8) Φ6 → J (Value.bool
  c4) w7) (∀ (w9 : World) (R10 : List Own), Ctx W w9 (R ++ R10) Φ → J (Value.bool false) w9)) (∀ (w11 : World) (R12 : List Own), Ctx W w11 (R ++ R12) Φ → J (Value.bool false) w11)) (∀ (w13 :
  World) (R14 : List Own), Ctx W w13 (R ++ R14) Φ → J (Value.bool false) w13)) (∀ (w15 : World) (R16 : List Own), Ctx W w15 (R ++ R16) Φ → J (Value.bool false) w15)) (∀ (w17 : World) (R18 :
  List Own), Ctx W w17 (R ++ R18) Φ → J (Value.bool false) w17)) (∀ (w19 : World) (R20 : List Own), Ctx W w19 (R ++ R20) Φ → J (Value.bool false) w19)) (∀ (w21 : World) (R22 : List Own), Ctx
  W w21 (R ++ R22) Φ → J (Value.bool false) w21)) (∀ (w23 : World) (R24 : List Own), Ctx W w23 (R ++ R24) Φ → J (Value.bool false) w23)

theorem Berrataref08_SameMsg_run (a0 : Int) (a1 : Int) (a2 : Int) (a3 : Int) (a4 : Int) (a5 : Int) (a6 : Int) (a7 : Bool) (a8P : Option Addr) (a8N a8C : Nat) (b0 : Int) (b1 : Int) (b2 : Int) (b3 : Int) (b4 : Int) (b5 : Int) (b6 : Int) (b7 : Bool) (b8P : Option Addr) (b8N b8C : Nat) {W w : World} {R : List Own} {Φ : PW} [Stable Φ] {J : Value → World → Prop} (c : Ctx W w R Φ) (h : Berrataref08_SameMsg a0 a1 a2 a3 a4 a5 a6 a7 a8P a8N a8C b0 b1 b2 b3 b4 b5 b6 b7 b8P b8N b8C W R Φ J) : Calls Try.prog F.errataref08_SameMsg #[.agg #[.int .i64 a0, .int .i64 a1, .int .i64 a2, .int .i64 a3, .int .i64 a4, .int .i64 a5, .int .i64 a6, .bool a7, .slice a8P a8N a8C], .agg #[.int .i64 b0, .int .i64 b1, .int .i64 b2, .int .i64 b3, .int .i64 b4, .int .i64 b5, .int .i64 b6, .bool b7, .slice b8P b8N b8C]] w fun e w' => ∃ v, e = .returned v ∧ J v w' :=
  vcFS_sound (H := { keep := some [2, 3, 4], track := [2, 3], split := [1] }) (by rw [show vcFS Try.prog W { keep := some [2, 3, 4], track := [2, 3], split := [1] } F.errataref08_SameMsg #[.agg #[.int .i64 a0, .int .i64 a1, .int .i64 a2, .int .i64 a3, .int .i64 a4, .int .i64 a5, .int .i64 a6, .bool a7, .slice a8P a8N a8C], .agg #[.int .i64 b0, .int .i64 b1, .int .i64 b2, .int .i64 b3, .int .i64 b4, .int .i64 b5, .int .i64 b6, .bool b7, .slice b8P b8N b8C]] R Φ J = Berrataref08_SameMsg a0 a1 a2 a3 a4 a5 a6 a7 a8P a8N a8C b0 b1 b2 b3 b4 b5 b6 b7 b8P b8N b8C W R Φ J by kernel_rfl]; exact h) c

/-- (*errataref08.Replica).entries -/
-- known blocks: 4 , 5 m
def Berrataref08_Replica_entries (rB rO : Nat) (to : Int) (W : World) (R : List Own) (Φ : PW) (J : Value → World → Prop) : Prop :=
  ∀ (b : Nat) (w0 : World) (R1 : List Own), Ctx W w0 (R ++ R1) Φ → Calls Try.prog F.errataref08_Replica_message #[Value.pointer (some (Addr.mk rB rO none)), Value.int IntKind.i64 2, Value.int
  IntKind.i64 to] w0 fun (e2 : Ending) (w3 : World) => ∃ (n4 : Int), ∃ (n5 : Int), ∃ (n6 : Int), ∃ (n7 : Int), ∃ (n8 : Int), ∃ (n9 : Int), ∃ (n10 : Int), ∃ (c11 : Bool), ∃ (p12 : Option
  Addr), ∃ (k13 : Nat), ∃ (k14 : Nat), e2 = Ending.returned (Value.agg #[Value.int IntKind.i64 n4, Value.int IntKind.i64 n5, Value.int IntKind.i64 n6, Value.int IntKind.i64 n7, Value.int
  IntKind.i64 n8, Value.int IntKind.i64 n9, Value.int IntKind.i64 n10, Value.bool c11, Value.slice p12 k13 k14]) ∧ ∃ (R15 : List Own), ∃ (Φ16 : PW), Stable Φ16 ∧ Ctx W w3 (R15 ++ R1) Φ16 ∧ ∀
  (b : Nat) (w17 : World) (R18 : List Own), Ctx W w17 (R15 ++ R18) Φ16 → ∃ (p19 : Option Addr), ∃ (k20 : Nat), ∃ (k21 : Nat), w17.cell? (Addr.mk rB (rO + 7) none) = some (Value.slice p19 k20
  k21) ∧ (0 ≤ to ∧ to < (↑k20 : Int)) ∧ ptrK none p19 fun (k22 k23 : Nat) => ∀ (w24 : World) (R25 : List Own), Ctx W w24 (R15 ++ R25) Φ16 → ∃ (n26 : Int), w24.cell? (Addr.mk k22 (k23 +
  to.toNat) none) = some (Value.int IntKind.i64 n26) ∧ I64 (n26 - 1) ∧ I64 (n26 - 1) ∧ ∀ (w27 : World) (R28 : List Own), Ctx W w27 (R15 ++ R28) Φ16 → Calls Try.prog F.errataref08_Replica_term
  #[Value.pointer (some (Addr.mk rB rO none)), Value.int IntKind.i64 (n26 - 1)] w27 fun (e29 : Ending) (w30 : World) => ∃ (n31 : Int), e29 = Ending.returned (Value.int IntKind.i64 n31) ∧ ∃
  (R32 : List Own), ∃ (Φ33 : PW), Stable Φ33 ∧ Ctx W w30 (R32 ++ R28) Φ33 ∧ ∀ (w34 : World) (R35 : List Own), Ctx W w34 (R32 ++ R35) Φ33 → ∃ (n36 : Int), w34.cell? (Addr.mk rB (rO + 5) none)
  = some (Value.int IntKind.i64 n36) ∧ ∃ (R37 : List Own), ∃ (Φ38 : PW), Stable Φ38 ∧ (∀ (w39 : World) (R40 : List Own), Ctx W w39 (R32 ++ R40) Φ33 → Ctx W w39 (R37 ++ R40) Φ38) ∧ I64 (n26 -
  1) ∧ I64 (n26 + 7) ∧ ∃ (p41 : Option Addr), ∃ (k42 : Nat), ∃ (k43 : Nat), (∀ (w44 : World) (R45 : List Own), Ctx W w44 (R37 ++ R45) Φ38 → ∃ (p46 : Option Addr), ∃ (k47 : Nat), ∃ (k48 :
  Nat), w44.cell? (Addr.mk rB (rO + 3) none) = some (Value.slice p46 k47 k48) ∧ Value.slice p46 k47 k48 = Value.slice p41 k42 k43) ∧ ∃ (p49 : Option Addr), ∃ (k50 : Nat), ∃ (k51 : Nat), (∀
  (w52 : World) (R53 : List Own), Ctx W w52 (R37 ++ R53) Φ38 → ∃ (p54 : Option Addr), ∃ (k55 : Nat), ∃ (k56 : Nat), w52.cell? (Addr.mk rB (rO + 3) none) = some (Value.slice p54 k55 k56) ∧
  Value.slice p54 k55 k56 = Value.slice p49 k50 k51) ∧ (0 ≤ n26 - 1 ∧ n26 - 1 ≤ min (↑k50 : Int) (n26 + 7) ∧ min (↑k50 : Int) (n26 + 7) ≤ (↑k43 : Int)) ∧ ∀ (w57 : World) (R58 : List Own), Ctx
  W w57 (R32 ++ R58) Φ33 → ∃ (p59 : Option Addr), ∃ (k60 : Nat), ∃ (k61 : Nat), ∃ (w62 : World), Sem.run Try.prog (builtin Builtin.append #[35, 35] 35 #[false, false] #[Value.slice p12 k13
  k14, Value.slice (subPtr p41 2 (n26 - 1).toNat k43) ((min (↑k50 : Int) (n26 + 7)).toNat - (n26 - 1).toNat) (k43 - (n26 - 1).toNat)]) w57 = Result.ok (Next.value (Value.slice p59 k60 k61))
  w62 ∧ ∃ (R63 : List Own), ∃ (Φ64 : PW), Stable Φ64 ∧ Ctx W w62 (R63 ++ R58) Φ64 ∧ ∀ (w65 : World) (R66 : List Own), Ctx W w65 (R63 ++ R66) Φ64 → J (Value.agg #[Value.int IntKind.i64 n4,
  Value.int IntKind.i64 n5, Value.int IntKind.i64 n6, Value.int IntKind.i64 n7, Value.int IntKind.i64 (n26 - 1), Value.int IntKind.i64 n31, Value.int IntKind.i64 n36, Value.bool c11,
  Value.slice p59 k60 k61]) w65

theorem Berrataref08_Replica_entries_run (rB rO : Nat) (to : Int) {W w : World} {R : List Own} {Φ : PW} [Stable Φ] {J : Value → World → Prop} (c : Ctx W w R Φ) (h : Berrataref08_Replica_entries rB rO to W R Φ J) : Calls Try.prog F.errataref08_Replica_entries #[.pointer (some ⟨rB, rO, none⟩), .int .i64 to] w fun e w' => ∃ v, e = .returned v ∧ J v w' :=
  vcFS_sound (H := { keep := some [0, 1, 4, 5, 6], track := [4, 5], stages := [(6, [.held [(0, true), (2, true), (6, true), (8, true), (13, true), (1, true), (3, true), (7, true), (9, true), (14, true), (4, true), (10, true), (5, true), (11, true), (12, true), (15, true), (16, true)], .stage [] (some 17), .stage [18] (some 19)])] }) (by rw [show vcFS Try.prog W { keep := some [0, 1, 4, 5, 6], track := [4, 5], stages := [(6, [.held [(0, true), (2, true), (6, true), (8, true), (13, true), (1, true), (3, true), (7, true), (9, true), (14, true), (4, true), (10, true), (5, true), (11, true), (12, true), (15, true), (16, true)], .stage [] (some 17), .stage [18] (some 19)])] } F.errataref08_Replica_entries #[.pointer (some ⟨rB, rO, none⟩), .int .i64 to] R Φ J = Berrataref08_Replica_entries rB rO to W R Φ J by kernel_rfl]; exact h) c

end Go.Proofs.Ytifgijoeckoojaa
end

section
namespace Go.Proofs.Ytifgijoeckoojaa
set_option linter.unusedVariables false
set_option linter.unusedSimpArgs false
open Go.Vc

/-- (*errataref08.Replica).term -/
def Qerrataref08_Replica_term (rB rO : Nat) (n : Int) (w : World) (J : Value → World → Prop) : Prop :=
  ∃ (p0 : Option Addr), ∃ (k1 : Nat), ∃ (k2 : Nat), ((!decide (n < 1)) = true → w.cell? (Addr.mk rB (rO + 3) none) = some (Value.slice p0 k1 k2)) ∧ Br (decide (n < 1) || decide ((↑k1 : Int) <
  n)) (J (Value.int IntKind.i64 0) w) (∃ (p3 : Option Addr), ∃ (k4 : Nat), ∃ (k5 : Nat), w.cell? (Addr.mk rB (rO + 3) none) = some (Value.slice p3 k4 k5) ∧ I64 (n - 1) ∧ (0 ≤ n - 1 ∧ n - 1 <
  (↑k4 : Int)) ∧ ptrK none p3 fun (k6 k7 : Nat) => ∃ (n8 : Int), w.cell? (Addr.mk k6 (k7 + (n - 1).toNat * 2) none) = some (Value.int IntKind.i64 n8) ∧ J (Value.int IntKind.i64 n8) w)

theorem Qerrataref08_Replica_term_run (rB rO : Nat) (n : Int) (w : World) (J : Value → World → Prop) (h : Qerrataref08_Replica_term rB rO n w J) : Calls Try.prog F.errataref08_Replica_term #[.pointer (some ⟨rB, rO, none⟩), .int .i64 n] w fun e w' => ∃ v, e = .returned v ∧ J v w' :=
  vcF_sound (H := { keep := some [0, 1, 4, 15] }) (by rw [show vcF Try.prog { keep := some [0, 1, 4, 15] } F.errataref08_Replica_term #[.pointer (some ⟨rB, rO, none⟩), .int .i64 n] w J = Qerrataref08_Replica_term rB rO n w J by kernel_rfl]; exact h)

end Go.Proofs.Ytifgijoeckoojaa
end

section
namespace Go.Proofs.Ytifgijoeckoojaa
set_option linter.unusedVariables false
set_option linter.unusedSimpArgs false
open Go.Vc

/-- (*replica.Replica).Role -/
def Qreplica_Replica_Role (rB rO : Nat) (w : World) (J : Value → World → Prop) : Prop :=
  ∃ (n0 : Int), w.cell? (Addr.mk rB (rO + 4) none) = some (Value.int IntKind.i64 n0) ∧ J (Value.int IntKind.i64 n0) w

theorem Qreplica_Replica_Role_run (rB rO : Nat) (w : World) (J : Value → World → Prop) (h : Qreplica_Replica_Role rB rO w J) : Calls Try.prog F.replica_Replica_Role #[.pointer (some ⟨rB, rO, none⟩)] w fun e w' => ∃ v, e = .returned v ∧ J v w' :=
  vcF_sound (H := { keep := some [0, 2] }) (by rw [show vcF Try.prog { keep := some [0, 2] } F.replica_Replica_Role #[.pointer (some ⟨rB, rO, none⟩)] w J = Qreplica_Replica_Role rB rO w J by kernel_rfl]; exact h)

/-- (*replica.Replica).Commit -/
def Qreplica_Replica_Commit (rB rO : Nat) (w : World) (J : Value → World → Prop) : Prop :=
  ∃ (n0 : Int), w.cell? (Addr.mk rB (rO + 5) none) = some (Value.int IntKind.i64 n0) ∧ J (Value.int IntKind.i64 n0) w

theorem Qreplica_Replica_Commit_run (rB rO : Nat) (w : World) (J : Value → World → Prop) (h : Qreplica_Replica_Commit rB rO w J) : Calls Try.prog F.replica_Replica_Commit #[.pointer (some ⟨rB, rO, none⟩)] w fun e w' => ∃ v, e = .returned v ∧ J v w' :=
  vcF_sound (H := { keep := some [0, 2] }) (by rw [show vcF Try.prog { keep := some [0, 2] } F.replica_Replica_Commit #[.pointer (some ⟨rB, rO, none⟩)] w J = Qreplica_Replica_Commit rB rO w J by kernel_rfl]; exact h)

/-- (*replica.Replica).term -/
def Qreplica_Replica_term (rB rO : Nat) (n : Int) (w : World) (J : Value → World → Prop) : Prop :=
  Br (decide (n = 0)) (J (Value.int IntKind.i64 0) w) (∃ (p0 : Option Addr), ∃ (k1 : Nat), ∃ (k2 : Nat), w.cell? (Addr.mk rB (rO + 3) none) = some (Value.slice p0 k1 k2) ∧ I64 (n - 1) ∧ (0 ≤
  n - 1 ∧ n - 1 < (↑k1 : Int)) ∧ ptrK none p0 fun (k3 k4 : Nat) => ∃ (n5 : Int), w.cell? (Addr.mk k3 (k4 + (n - 1).toNat * 2) none) = some (Value.int IntKind.i64 n5) ∧ J (Value.int
  IntKind.i64 n5) w)

theorem Qreplica_Replica_term_run (rB rO : Nat) (n : Int) (w : World) (J : Value → World → Prop) (h : Qreplica_Replica_term rB rO n w J) : Calls Try.prog F.replica_Replica_term #[.pointer (some ⟨rB, rO, none⟩), .int .i64 n] w fun e w' => ∃ v, e = .returned v ∧ J v w' :=
  vcF_sound (H := { keep := some [0, 1, 4, 6] }) (by rw [show vcF Try.prog { keep := some [0, 1, 4, 6] } F.replica_Replica_term #[.pointer (some ⟨rB, rO, none⟩), .int .i64 n] w J = Qreplica_Replica_term rB rO n w J by kernel_rfl]; exact h)

/-- replica.between -/
def Qreplica_between (n : Int) (a : Int) (b : Int) (w : World) (J : Value → World → Prop) : Prop :=
  J (Value.bool (decide (a ≤ n) && decide (n ≤ b))) w

theorem Qreplica_between_run (n : Int) (a : Int) (b : Int) (w : World) (J : Value → World → Prop) (h : Qreplica_between n a b w J) : Calls Try.prog F.replica_between #[.int .i64 n, .int .i64 a, .int .i64 b] w fun e w' => ∃ v, e = .returned v ∧ J v w' :=
  vcF_sound (H := { keep := some [0, 1, 2, 6] }) (by rw [show vcF Try.prog { keep := some [0, 1, 2, 6] } F.replica_between #[.int .i64 n, .int .i64 a, .int .i64 b] w J = Qreplica_between n a b w J by kernel_rfl]; exact h)

end Go.Proofs.Ytifgijoeckoojaa
end

/-
  CONTRACTS over what a walk owns: a function that hands back a plain value, or plain data.
-/
section
set_option linter.unusedVariables false
set_option linter.unusedSimpArgs false
namespace Go.Vc

section
variable {P : Program} {W w : World} {S F : List Own} {Φ Ψ : PW}

/-- the function only looks: it hands back v, and the world is as it was -/
structure Quiet (P : Program) (f : FuncId) (args : Array Value) (v : Value) : Prop where
  go : ∀ w, Calls P f args w fun e w' => e = .returned v ∧ w' = w

/-- the function hands back v; all that is owned or known stays -/
structure Gives (P : Program) (f : FuncId) (args : Array Value) (v : Value) : Prop where
  go : ∀ (W w : World) (S : List Own) (Φ : PW), Stable Φ → Ctx W w S Φ → Calls P f args w fun e w' => e = .returned v ∧ Ctx W w' S Φ

theorem Quiet.at {f : FuncId} {args : Array Value} {v : Value} (h : Quiet P f args v) {w w0 : World} (e : w = w0) : Calls P f args w fun e w' => e = .returned v ∧ w' = w0 := by subst e; exact h.go w
theorem Quiet.atN {f : FuncId} {args : Array Value} {v : Value} (h : Quiet P f args v) {w w0 : World} (e : ∃ n, w = w0.drewN n) : Calls P f args w fun e w' => e = .returned v ∧ ∃ n, w' = w0.drewN n := by
  obtain ⟨n, rfl⟩ := e
  exact (h.go _).mono fun e w' ⟨h1, h2⟩ => ⟨h1, n, h2⟩

theorem Quiet.gives {f : FuncId} {args : Array Value} {v : Value} (h : Quiet P f args v) : Gives P f args v :=
  ⟨fun W w S Φ _ c => (h.go w).mono fun e w' ⟨h1, h2⟩ => by subst h2; exact ⟨h1, c⟩⟩

theorem Gives.use {f : FuncId} {args : Array Value} {v : Value} (h : Gives P f args v) [hs : Stable Φ] (c : Ctx W w S Φ) {K : Ending → World → Prop} (hk : ∀ w', Ctx W w' S Φ → K (.returned v) w') : Calls P f args w K :=
  (h.go W w S Φ hs c).mono fun e w' ⟨he, c'⟩ => by subst he; exact hk w' c'

theorem gives_of {f : FuncId} {args : Array Value} {v : Value} {B : World → List Own → PW → (Value → World → Prop) → Prop}
    (run : ∀ {W w : World} {R : List Own} {Φ : PW} [Stable Φ] {J : Value → World → Prop}, Ctx W w R Φ → B W R Φ J → Calls P f args w fun e w' => ∃ v, e = .returned v ∧ J v w')
    (h : ∀ (W : World) (R : List Own) (Φ : PW), Stable Φ → B W R Φ fun u w' => u = v ∧ Ctx W w' R Φ) : Gives P f args v :=
  ⟨fun W w S Φ hs c => calls_of (run c (h W S Φ hs)) fun u w' ⟨h1, h2⟩ => ⟨by rw [h1], h2⟩⟩

/-- .. where Φ is known -/
structure GivesIn (Φ : PW) (P : Program) (f : FuncId) (args : Array Value) (v : Value) : Prop where
  go : ∀ (W w : World) (S : List Own), Ctx W w S Φ → Calls P f args w fun e w' => e = .returned v ∧ Ctx W w' S Φ

theorem GivesIn.use {f : FuncId} {args : Array Value} {v : Value} (h : GivesIn Φ P f args v) (c : Ctx W w S Φ) {K : Ending → World → Prop} (hk : ∀ w', Ctx W w' S Φ → K (.returned v) w') : Calls P f args w K :=
  (h.go W w S c).mono fun e w' ⟨he, c'⟩ => by subst he; exact hk w' c'

theorem Gives.in [hs : Stable Φ] {f : FuncId} {args : Array Value} {v : Value} (h : Gives P f args v) : GivesIn Φ P f args v := ⟨fun W w S c => h.go W w S Φ hs c⟩

theorem gives_in [Stable Φ] {f : FuncId} {args : Array Value} {v : Value} {B : World → List Own → PW → (Value → World → Prop) → Prop}
    (run : ∀ {W w : World} {R : List Own} {Φ : PW} [Stable Φ] {J : Value → World → Prop}, Ctx W w R Φ → B W R Φ J → Calls P f args w fun e w' => ∃ v, e = .returned v ∧ J v w')
    (h : ∀ (W : World) (R : List Own), B W R Φ fun u w' => u = v ∧ Ctx W w' R Φ) : GivesIn Φ P f args v :=
  ⟨fun W w S c => calls_of (run c (h W S)) fun u w' ⟨h1, h2⟩ => ⟨by rw [h1], h2⟩⟩

/-- without the frame -/
theorem Ctx.left [Stable Φ] (c : Ctx W w (S ++ F) Φ) : Ctx W w S Φ := c.sub (List.sublist_append_left _ _)
theorem Ctx.right [Stable Φ] (c : Ctx W w (S ++ F) Φ) : Ctx W w F Φ := c.sub (List.sublist_append_right _ _)
theorem Ctx.fst [Stable Φ] [Stable Ψ] (c : Ctx W w S (fun M w => Φ M w ∧ Ψ M w)) : Ctx W w S Φ := c.weak fun _ _ h => h.1

/-- a row out of cells that are written out -/
theorem rows_of {cs vs : List Value} {o : Nat} (h : (cs.drop o).take vs.length = vs) : ∀ j, (hj : j < vs.length) → cs[o + j]? = some vs[j] := by
  intro j hj
  have h1 : ((cs.drop o).take vs.length)[j]? = vs[j]? := by rw [h]
  rw [List.getElem?_take_of_lt hj, List.getElem?_drop] at h1
  rw [h1, List.getElem?_eq_getElem hj]

theorem quiet_of {f : FuncId} {args : Array Value} {v : Value} {B : World → (Value → World → Prop) → Prop}
    (run : ∀ (w : World) (J : Value → World → Prop), B w J → Calls P f args w fun e w' => ∃ v, e = .returned v ∧ J v w')
    (h : ∀ w, B w fun u w' => u = v ∧ w' = w) : Quiet P f args v :=
  ⟨fun w => calls_of (run w _ (h w)) fun u w' ⟨h1, h2⟩ => ⟨by rw [h1], h2⟩⟩

end

/-! ### data that is read at several points: its cells are named -/
/-- the cells of the elements, at this place -/
def Pin {α : Type} [Gv α] (b o : Nat) (cs : List (List Value)) (l : List α) (M : List Nat) (w : World) : Prop :=
  ∀ j, (hj : j < l.length) → b ∉ M ∧ RowAt w b (o + j * (Gv.ty α).size) (cs.getD j []) ∧ Gv.rep M w (cs.getD j []) l[j]

instance instStablePin {α : Type} [Gv α] (b o : Nat) (cs : List (List Value)) (l : List α) : Stable (fun M w => Pin b o cs l M w) := ⟨fun hs h j hj => by
  obtain ⟨h2, h3, h4⟩ := h j hj
  have hlt := row_lt h3 (by rw [Gv.len h4]; exact Gv.pos)
  exact ⟨fun hm => by rcases hs.sub b hm with h | h; exact h2 h; omega, hs.chg.row h3 h2, Gv.stable hs h4⟩⟩

theorem Sl.pin {α : Type} [Gv α] {M : List Nat} {w : World} {p : Option Addr} {l : List α} (h : Sl M w p l) : ∃ b o cs, (0 < l.length → p = some ⟨b, o, none⟩) ∧ Pin b o cs l M w := by
  by_cases h0 : 0 < l.length
  · obtain ⟨b, o, _, hp, _⟩ := h 0 h0
    have key : ∀ j, j < l.length → ∃ cs : List Value, ∀ hj : j < l.length, b ∉ M ∧ RowAt w b (o + j * (Gv.ty α).size) cs ∧ Gv.rep M w cs l[j] := by
      intro j hj
      obtain ⟨b', o', cs, h1, h2, h3, h4⟩ := h j hj
      rw [hp] at h1
      cases h1
      exact ⟨cs, fun _ => ⟨h2, h3, h4⟩⟩
    obtain ⟨cs, hl, hcs⟩ := list_build l.length key
    refine ⟨b, o, cs, fun _ => hp, fun j hj => ?_⟩
    have := hcs j (by omega) hj
    rw [show cs.getD j [] = cs[j] by simp [List.getD, show j < cs.length by omega]]
    exact this
  · exact ⟨0, 0, [], fun h => absurd h h0, fun j hj => by omega⟩

theorem Ctx.pin {W w : World} {S : List Own} {Φ : PW} (c : Ctx W w S Φ) {α : Type} [Gv α] {p : Option Addr} {l : List α} (h : Sl (dom S) w p l) :
    ∃ b o cs, (0 < l.length → p = some ⟨b, o, none⟩) ∧ Ctx W w S (fun M w => Φ M w ∧ Pin b o cs l M w) := by
  obtain ⟨b, o, cs, hp, hpin⟩ := h.pin
  exact ⟨b, o, cs, hp, c.add hpin⟩

theorem GivesIn.pinned {Φ : PW} [Stable Φ] {P : Program} {f : FuncId} {args : Array Value} {v : Value} {α : Type} [Gv α] {p : Option Addr} {l : List α} (hΦ : ∀ M w, Φ M w → Sl M w p l)
    (h : ∀ b o cs, (0 < l.length → p = some ⟨b, o, none⟩) → GivesIn (fun M w => Φ M w ∧ Pin b o cs l M w) P f args v) : GivesIn Φ P f args v :=
  ⟨fun W w S c => by
    obtain ⟨b, o, cs, hp, c'⟩ := c.pin (hΦ _ _ c.phi)
    exact ((h b o cs hp).go W w S c').mono fun e w' ⟨h1, h2⟩ => ⟨h1, h2.fst⟩⟩

end Go.Vc
end

/-
  What is owned is laid aside while a call reads it; functions that hand back a slice of plain data.
-/
section
set_option linter.unusedVariables false
set_option linter.unusedSimpArgs false
namespace Go.Vc

section
variable {P : Program} {W w : World} {S F : List Own} {Φ Ψ : PW}

/-- what is owned, laid aside: nobody writes it -/
def Parked (W : World) (o : Own) (M : List Nat) (w : World) : Prop := o.at w ∧ ∀ b ∈ o.dom, b ∉ M ∧ W.heap.size ≤ b

instance instStableParked (W : World) (o : Own) : Stable (fun M w => Parked W o M w) := ⟨fun hs h =>
  ⟨Own.at_keep h.1 fun b hb => hs.chg.block b (Own.at_lt h.1 b hb) (h.2 b hb).1, fun b hb => ⟨fun hm => by
    rcases hs.sub b hm with h1 | h1
    · exact (h.2 b hb).1 h1
    · have := Own.at_lt h.1 b hb; omega, (h.2 b hb).2⟩⟩⟩

instance instStableMore (D : List Nat) (Φ : PW) [Stable Φ] : Stable (fun M w => Φ (D ++ M) w) := ⟨fun {M M' w w'} hs h =>
  Stable.step (Φ := Φ) (M := D ++ M) (M' := D ++ M') ⟨hs.chg.mono fun x hx => List.mem_append_right _ hx, fun b hb => by
    rcases List.mem_append.1 hb with h | h
    · exact .inl (List.mem_append_left _ h)
    · rcases hs.sub b h with h | h
      · exact .inl (List.mem_append_right _ h)
      · exact .inr h⟩ h⟩

theorem Own.nodup (o : Own) : o.dom.Nodup := by
  cases o with
  | blk => simp [Own.dom]
  | obj => simp [Own.dom]
  | buf p => cases p <;> simp [Own.dom]

theorem dom_cons (o : Own) (S : List Own) : dom (o :: S) = o.dom ++ dom S := rfl

theorem Ctx.park {o : Own} (c : Ctx W w (o :: S) Φ) : Ctx W w S (fun M w => Φ (o.dom ++ M) w ∧ Parked W o M w) :=
  ⟨c.chg, fun x hx => c.own x (List.mem_cons_of_mem _ hx), fun b hb => c.young b (by rw [dom_cons]; exact List.mem_append_right _ hb),
    (by have := c.nodup; rw [dom_cons, List.nodup_append] at this; exact this.2.1), c.phi, c.own o List.mem_cons_self, fun b hb =>
      ⟨fun hm => by have := c.nodup; rw [dom_cons, List.nodup_append] at this; exact this.2.2 b hb b hm rfl, c.young b (by rw [dom_cons]; exact List.mem_append_left _ hb)⟩⟩

/-- the slice that is laid aside is plain data -/
theorem Parked.sl {α : Type} [Gv α] {M D : List Nat} {p : Option Addr} {n cap : Nat} {cs : List Value} {t : TypeId} {l : List α} (h : Parked W (.buf p n cap cs t (Gv.ty α).size) M w)
    (he : Elems (D ++ M) w cs l) : Sl M w p l := by
  obtain ⟨⟨h1, h2⟩, h3⟩ := h
  have hpos : 0 < (Gv.ty α).size := Gv.pos
  intro j hj
  have hle : (j + 1) * (Gv.ty α).size ≤ cs.length := by rw [he.1]; exact Nat.mul_le_mul_right _ hj
  rw [Nat.add_mul, Nat.one_mul] at hle
  rcases h2 with ⟨e, rfl⟩ | ⟨g, cap', cur, e, _, hg, hnc, hcm, hcs, htake⟩
  · rw [Nat.zero_mul] at h1; omega
  · cases e
    refine ⟨g, 0, (cs.drop (j * (Gv.ty α).size)).take (Gv.ty α).size, rfl, (h3 g (by simp [Own.dom])).1, fun i hi => ?_, ?_⟩
    · rw [Nat.zero_add]
      simp only [List.length_take, List.length_drop] at hi
      rw [List.getElem_take, List.getElem_drop]
      have hlt : j * (Gv.ty α).size + i < cs.length := by omega
      have h2 : ∀ k v, k < cs.length → cs[k]? = some v → cur[k]? = some v := by
        intro k v hk hv
        rw [← htake, List.getElem?_take_of_lt (by omega)] at hv
        simpa using hv
      have h2 := h2 _ _ hlt (List.getElem?_eq_getElem hlt)
      simp [World.cell?, hg, h2]
    · exact Gv.stable ⟨Chg.refl _ _, fun b hb => .inl (List.mem_append_right _ hb)⟩ (he.2 j hj)

/-- a slice with elements lies somewhere -/
def There (p : Option Addr) (n : Nat) : Prop := 0 < n → ∃ b o, p = some ⟨b, o, none⟩
theorem Sl.there {α : Type} [Gv α] {M : List Nat} {w : World} {p : Option Addr} {l : List α} (h : Sl M w p l) : There p l.length := fun h0 => by
  obtain ⟨b, o, _, h1, _⟩ := h 0 h0
  exact ⟨b, o, h1⟩
theorem Sl.nil {α : Type} [Gv α] {M : List Nat} {w : World} {p : Option Addr} : Sl M w p ([] : List α) := fun j hj => by simp at hj

theorem GivesIn.there {f : FuncId} {args : Array Value} {v : Value} {p : Option Addr} {n : Nat} (hΦ : ∀ M w, Φ M w → There p n) (h : There p n → GivesIn Φ P f args v) : GivesIn Φ P f args v :=
  ⟨fun W w S c => (h (hΦ _ _ c.phi)).go W w S c⟩

/-- the function hands back a slice of plain data, inside mk -/
structure GivesSl (Φ : PW) (P : Program) (f : FuncId) (args : Array Value) {α : Type} [Gv α] (l : List α) (mk : Value → Value) : Prop where
  go : ∀ (W w : World) (S : List Own), Ctx W w S Φ → Calls P f args w fun e w' => ∃ p cap, e = .returned (mk (.slice p l.length cap)) ∧ l.length ≤ cap ∧ cap ≤ maxLen ∧ Ctx W w' S (fun M w => Φ M w ∧ Sl M w p l)

theorem GivesSl.use {f : FuncId} {args : Array Value} {α : Type} [Gv α] {l : List α} {mk : Value → Value} (h : GivesSl Φ P f args l mk) (c : Ctx W w S Φ) {K : Ending → World → Prop}
    (hk : ∀ p cap w', l.length ≤ cap → cap ≤ maxLen → Ctx W w' S (fun M w => Φ M w ∧ Sl M w p l) → K (.returned (mk (.slice p l.length cap))) w') : Calls P f args w K :=
  (h.go W w S c).mono fun e w' ⟨p, cap, he, h1, h2, c'⟩ => by subst he; exact hk p cap w' h1 h2 c'

theorem GivesSl.there {f : FuncId} {args : Array Value} {α : Type} [Gv α] {l : List α} {mk : Value → Value} {p : Option Addr} {n : Nat} (hΦ : ∀ M w, Φ M w → There p n) (h : There p n → GivesSl Φ P f args l mk) : GivesSl Φ P f args l mk :=
  ⟨fun W w S c => (h (hΦ _ _ c.phi)).go W w S c⟩

theorem GivesSl.pinned [Stable Φ] {f : FuncId} {args : Array Value} {β : Type} [Gv β] {r : List β} {mk : Value → Value} {α : Type} [Gv α] {p : Option Addr} {l : List α} (hΦ : ∀ M w, Φ M w → Sl M w p l)
    (h : ∀ b o cs, (0 < l.length → p = some ⟨b, o, none⟩) → GivesSl (fun M w => Φ M w ∧ Pin b o cs l M w) P f args r mk) : GivesSl Φ P f args r mk :=
  ⟨fun W w S c => by
    obtain ⟨b, o, cs, hp, c'⟩ := c.pin (hΦ _ _ c.phi)
    exact ((h b o cs hp).go W w S c').mono fun e w' ⟨p, cap, h1, h2, h3, h4⟩ => ⟨p, cap, h1, h2, h3, h4.weak fun _ _ h => ⟨h.1.1, h.2⟩⟩⟩

/-! ### append -/
def appB (P : Program) (ts t : TypeId) (size bytes : Nat) : Bool :=
  (match P.underlying ts with | some (.slice u) => decide (u = t) | _ => false) && (match P.info? t with
    | some i => (match i.zero with | some z => decide (z.cells.size = size) | none => false) && decide (i.size = size) && decide (i.bytes = bytes)
    | none => false)

theorem appB_out {ts t : TypeId} {size bytes : Nat} (h : appB P ts t size bytes = true) : ∃ i z, P.underlying ts = some (.slice t) ∧ P.info? t = some i ∧ i.zero = some z ∧ i.size = size ∧ z.cells.size = size ∧ i.bytes = bytes := by
  unfold appB at h
  rw [Bool.and_eq_true] at h
  obtain ⟨h1, h2⟩ := h
  split at h1
  · rename_i u hu
    have : u = t := by simpa using h1
    subst this
    split at h2
    · rename_i i hi
      simp only [Bool.and_eq_true] at h2
      obtain ⟨⟨h2, h3⟩, h4⟩ := h2
      split at h2
      · rename_i z hz
        exact ⟨i, z, hu, hi, hz, by simpa using h3, by simpa using h2, by simpa using h4⟩
      · cases h2
    · cases h2
  · cases h1

theorem run_app {ats : Array TypeId} {ty : TypeId} {cs : Array Bool} {args : Array Value} {v : Value} {w w' : World} (h : (Builtin.append_ ats ty args).run P w = .ok v w') : Sem.run P (builtin Builtin.append ats ty cs args) w = .ok (.value v) w' := by
  unfold builtin
  simp only [Sem.run_bind, h, Result.andThen, Sem.run_pure]

/-- append one element that was just made -/
theorem Ctx.app1 [Stable Φ] {b : Nat} {news : List Value} {t' : TypeId} {p : Option Addr} {n cap : Nat} {cs : List Value} {t : TypeId} {size bytes : Nat} (c : Ctx W w (.blk b news t' :: .buf p n cap cs t size :: S) Φ)
    {ts ty : TypeId} {kb : Array Bool} (hb : appB P ts t size bytes = true) (h0 : 0 < size) (hl : news.length = size) (h1 : (news.all fun u => oneC u) = true) (hlen : n < 100000000) (hbytes : bytes ≤ 1000) :
    ∃ p' cap' w', Sem.run P (builtin Builtin.append #[ts, ts] ty kb #[.slice p n cap, .slice (some ⟨b, 0, none⟩) 1 1]) w = .ok (.value (.slice p' (n + 1) cap')) w' ∧ (∃ g, p' = some ⟨g, 0, none⟩) ∧ Ctx W w' (.buf p' (n + 1) cap' (cs ++ news) t size :: S) Φ := by
  obtain ⟨i, z, e1, e2, e3, e4, e5, e6⟩ := appB_out hb
  have hby : (n + 1) * i.bytes ≤ 100000000 * 1000 := Nat.mul_le_mul (by omega) (by omega)
  obtain ⟨p', cap', w', h2, c'⟩ := c.append 1 rfl (ty := ty) e1 e2 e3 e4 e5 (a := ⟨b, 0, none⟩) (m := 1) (c2 := 1) (news := news) (by omega) (by rw [hl, Nat.one_mul]) (fun j u hj => by rw [addr_add, Nat.zero_add]; exact c.get 0 rfl hj)
    (fun u hu => List.all_eq_true.1 h1 u hu) (by omega) (by omega)
  refine ⟨p', cap', w', run_app h2, ?_, c'.drop1⟩
  obtain ⟨g, hg, _⟩ := c'.bufCell 1 rfl (by rw [List.length_append]; omega)
  exact ⟨g, hg⟩

/-- nothing is owned for an empty slice -/
theorem Ctx.nobuf [Stable Φ] (c : Ctx W w S Φ) (t : TypeId) (size : Nat) : Ctx W w (.buf none 0 0 [] t size :: S) Φ := c.buf0 t size

theorem Sl.less {α : Type} [Gv α] {M D : List Nat} {w : World} {p : Option Addr} {l : List α} (h : Sl (D ++ M) w p l) : Sl M w p l :=
  h.stable ⟨Chg.refl _ _, fun b hb => .inl (List.mem_append_right _ hb)⟩

/-- the function hands back a slice that it made, inside mk: the caller owns it -/
structure GivesBuf (Φ : PW) (P : Program) (f : FuncId) (args : Array Value) (n : Nat) (cells : List Value) (t : TypeId) (size : Nat) (mk : Value → Value) : Prop where
  go : ∀ (W w : World) (S : List Own), Ctx W w S Φ → Calls P f args w fun e w' => ∃ p cap, e = .returned (mk (.slice p n cap)) ∧ Ctx W w' (.buf p n cap cells t size :: S) Φ

theorem GivesBuf.use {f : FuncId} {args : Array Value} {n : Nat} {cells : List Value} {t : TypeId} {size : Nat} {mk : Value → Value} (h : GivesBuf Φ P f args n cells t size mk) (c : Ctx W w S Φ) {K : Ending → World → Prop}
    (hk : ∀ p cap w', Ctx W w' (.buf p n cap cells t size :: S) Φ → K (.returned (mk (.slice p n cap))) w') : Calls P f args w K :=
  (h.go W w S c).mono fun e w' ⟨p, cap, he, c'⟩ => by subst he; exact hk p cap w' c'

theorem GivesBuf.sl [Stable Φ] {f : FuncId} {args : Array Value} {α : Type} [Gv α] {l : List α} {cells : List Value} {t : TypeId} {mk : Value → Value} (h : GivesBuf Φ P f args l.length cells t (Gv.ty α).size mk)
    (he : ∀ M w, Φ M w → Elems M w cells l) : GivesSl Φ P f args l mk :=
  ⟨fun W w S c => (h.go W w S c).mono fun e w' ⟨p, cap, h1, c'⟩ => by
    obtain ⟨c2, hs, _, h2, h3⟩ := Ctx.freeze c' (he _ _ c'.phi)
    exact ⟨p, cap, h1, h2, h3, c2.add hs⟩⟩

theorem GivesBuf.pinned [Stable Φ] {f : FuncId} {args : Array Value} {n : Nat} {cells : List Value} {t : TypeId} {size : Nat} {mk : Value → Value} {α : Type} [Gv α] {p : Option Addr} {l : List α} (hΦ : ∀ M w, Φ M w → Sl M w p l)
    (h : ∀ b o cs, (0 < l.length → p = some ⟨b, o, none⟩) → GivesBuf (fun M w => Φ M w ∧ Pin b o cs l M w) P f args n cells t size mk) : GivesBuf Φ P f args n cells t size mk :=
  ⟨fun W w S c => by
    obtain ⟨b, o, cs, hp, c'⟩ := c.pin (hΦ _ _ c.phi)
    exact ((h b o cs hp).go W w S c').mono fun e w' ⟨p, cap, h1, h4⟩ => ⟨p, cap, h1, h4.fst⟩⟩

/-- a block that is laid aside is plain data -/
theorem Parked.blkSl {α : Type} [Gv α] {M : List Nat} {b : Nat} {cs : List Value} {t : TypeId} {l : List α} (h : Parked W (.blk b cs t) M w) (he : Elems M w cs l) : Sl M w (some ⟨b, 0, none⟩) l := by
  obtain ⟨h1, h2⟩ := h
  have h1 : Blk w b cs t := h1
  intro j hj
  have hle : (j + 1) * (Gv.ty α).size ≤ cs.length := by rw [he.1]; exact Nat.mul_le_mul_right _ hj
  rw [Nat.add_mul, Nat.one_mul] at hle
  refine ⟨b, 0, (cs.drop (j * (Gv.ty α).size)).take (Gv.ty α).size, rfl, (h2 b (by simp [Own.dom])).1, fun i hi => ?_, he.2 j hj⟩
  simp only [List.length_take, List.length_drop] at hi
  rw [Nat.zero_add, List.getElem_take, List.getElem_drop]
  exact h1.cell_eq (List.getElem?_eq_getElem (by omega))

/-- a block that is written no more is plain data -/
theorem Ctx.freezeBlk [Stable Φ] {α : Type} [Gv α] {b : Nat} {cs : List Value} {t : TypeId} {l : List α} (c : Ctx W w (.blk b cs t :: S) Φ) (he : Elems (dom (.blk b cs t :: S)) w cs l) : Ctx W w S Φ ∧ Sl (dom S) w (some ⟨b, 0, none⟩) l := by
  have c' := c.park
  refine ⟨c.drop1, c'.phi.2.blkSl ⟨he.1, fun j hj => ?_⟩⟩
  exact Gv.stable ⟨Chg.refl _ _, fun b hb => .inl (by rw [dom_cons]; exact List.mem_append_right _ hb)⟩ (he.2 j hj)

theorem Elems.two {α : Type} [Gv α] {M : List Nat} {cs ds : List Value} {x y : α} (h1 : Gv.rep M w cs x) (h2 : Gv.rep M w ds y) : Elems M w (cs ++ ds) [x, y] := Elems.snoc (l := [x]) (Elems.snoc (l := []) (cs := []) Elems.nil h1) h2
theorem Elems.one {α : Type} [Gv α] {M : List Nat} {cs : List Value} {x : α} (h1 : Gv.rep M w cs x) : Elems M w cs [x] := Elems.snoc (l := []) (cs := []) Elems.nil h1

end

end Go.Vc
end

