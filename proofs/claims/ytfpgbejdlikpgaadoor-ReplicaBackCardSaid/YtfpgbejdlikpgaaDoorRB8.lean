/-
  The conditions of the walks of some functions, one formula each; 'B<f>_run' says that they suffice. The formulas are printed by a program; the kernel compares them with the functions' code.
-/
import Derived.Test.YtfpgbejdlikpgaaDoorRB7
import Derived.Lib.ItoaNum
import Derived.Shelf.Strconv.AtoiAll
import Derived.Shelf.Small.Wraps
import Derived.Stop.IfaceNil
import Derived.Lib.AtoiErrMem
import Derived.Lib.AtoiAllCases
import Derived.Test.YtfpgbejdlikpgaaDoorRB6
import Derived.Laws.IdiomStrings

section
namespace Go.Proofs.YtfpgbejdlikpgaaDoor
set_option linter.unusedVariables false
set_option linter.unusedSimpArgs false
set_option maxRecDepth 100000
open Go.Vc

/-- erratalaw08.ReplicaBack -/
-- loop at region 5: 6 i; blocks 
-- known blocks: 2 m, 7 x, 9 a, 11 b, 13 c, 15 d
def Berratalaw08_ReplicaBack (m0 : Int) (m1 : Int) (m2 : Int) (m3 : Int) (m4 : Int) (m5 : Int) (m6 : Int) (m7 : Bool) (m8P : Option Addr) (m8N m8C : Nat) (s : ByteArray) (W : World) (R : List Own) (Φ : PW) (J : Value → World → Prop) : Prop :=
  ∀ (b : Nat) (w0 : World) (R1 : List Own), Ctx W w0 (R ++ R1) Φ → Calls Tryd.prog F.erratalaw08_small #[] w0 fun (e2 : Ending) (w3 : World) => ∃ (c4 : Bool), e2 = Ending.returned (Value.bool
  c4) ∧ ∃ (R5 : List Own), ∃ (Φ6 : PW), Stable Φ6 ∧ Ctx W w3 (R5 ++ R1) Φ6 ∧ ∀ (w7 : World) (R8 : List Own), Ctx W w7 (R5 ++ R8) Φ6 → Br (decide (10 < (↑m8N : Int)) || decide (300 < (↑s.size
  : Int))) (∀ (w9 : World) (R10 : List Own), Ctx W w9 (R5 ++ R10) Φ6 → J (Value.bool c4) w9) (exI fun (I11 : Int → List Own → PW → Nat → Prop) => (∃ (R12 : List Own), ∃ (Φ13 : PW), ∃ (k14 :
  Nat), Stable Φ13 ∧ (∀ (w15 : World) (R16 : List Own), Ctx W w15 (R5 ++ R16) Φ6 → Ctx W w15 (R12 ++ R16) Φ13) ∧ I11 0 R12 Φ13 k14) ∧ ∀ (n17 : Int) (R18 : List Own) (I19 : List Nat → World →
  Prop) (k20 : Nat), Stable I19 → I11 n17 R18 I19 k20 → Br (decide (n17 < (↑m8N : Int))) ((0 ≤ n17 ∧ n17 < (↑m8N : Int)) ∧ ptrK none m8P fun (k21 k22 : Nat) => ∀ (w23 : World) (R24 : List
  Own), Ctx W w23 (R18 ++ R24) I19 → ∃ (n25 : Int), ∃ (s26 : ByteArray), RowAt w23 k21 (k22 + n17.toNat * 2) [Value.int IntKind.i64 n25, Value.string s26] ∧ ∀ (w27 : World) (R28 : List Own),
  Ctx W w27 (R18 ++ R28) I19 → Calls Tryd.prog F.replica_RecBytes #[Value.agg #[Value.int IntKind.i64 n25, Value.string s26]] w27 fun (e29 : Ending) (w30 : World) => ∃ (s31 : ByteArray), e29
  = Ending.returned (Value.string s31) ∧ ∃ (R32 : List Own), ∃ (Φ33 : PW), Stable Φ33 ∧ Ctx W w30 (R32 ++ R28) Φ33 ∧ ∀ (w34 : World) (R35 : List Own), Ctx W w34 (R32 ++ R35) Φ33 → Calls
  Tryd.prog F.replica_ReadRec #[Value.string s31] w34 fun (e36 : Ending) (w37 : World) => ∃ (n38 : Int), ∃ (s39 : ByteArray), ∃ (c40 : Bool), e36 = Ending.returned (Value.tuple #[Value.agg
  #[Value.int IntKind.i64 n38, Value.string s39], Value.bool c40]) ∧ ∃ (R41 : List Own), ∃ (Φ42 : PW), Stable Φ42 ∧ Ctx W w37 (R41 ++ R35) Φ42 ∧ ∀ (b : Nat), (0 ≤ n17 ∧ n17 < (↑m8N : Int)) ∧
  ptrK none m8P fun (k43 k44 : Nat) => ∀ (w45 : World) (R46 : List Own), Ctx W w45 (R41 ++ R46) Φ42 → ∃ (s47 : ByteArray), w45.cell? (Addr.mk k43 (k44 + n17.toNat * 2 + 1) none) = some
  (Value.string s47) ∧ Br (decide (100 < (↑s47.size : Int))) (∀ (w48 : World) (R49 : List Own), Ctx W w48 (R41 ++ R49) Φ42 → J (Value.bool c4) w48) (∀ (w50 : World) (R51 : List Own), Ctx W
  w50 (R41 ++ R51) Φ42 → ((!!c40) = true → 0 ≤ n17 ∧ n17 < (↑m8N : Int)) ∧ ptrK (some !!c40) m8P fun (k52 k53 : Nat) => ∃ (n54 : Int), ∃ (s55 : ByteArray), ((!!c40) = true → RowAt w50 k52
  (k53 + n17.toNat * 2) [Value.int IntKind.i64 n54, Value.string s55]) ∧ okAgg Tryd.prog 27 = true ∧ Br (!c40 || !(decide (n38 = n54) && (decide (s39 = s55) && true))) (∀ (w56 : World) (R57 :
  List Own), Ctx W w56 (R41 ++ R57) Φ42 → J (Value.bool false) w56) (I64 (n17 + 1) ∧ ∃ (R58 : List Own), ∃ (Φ59 : PW), ∃ (k60 : Nat), Stable Φ59 ∧ (∀ (w61 : World) (R62 : List Own), Ctx W w61
  (R41 ++ R62) Φ42 → Ctx W w61 (R58 ++ R62) Φ59) ∧ I11 (n17 + 1) R58 Φ59 k60 ∧ k60 < k20))) (∀ (w63 : World) (R64 : List Own), Ctx W w63 (R18 ++ R64) I19 → Calls Tryd.prog F.replica_Bytes
  #[Value.agg #[Value.int IntKind.i64 m0, Value.int IntKind.i64 m1, Value.int IntKind.i64 m2, Value.int IntKind.i64 m3, Value.int IntKind.i64 m4, Value.int IntKind.i64 m5, Value.int
  IntKind.i64 m6, Value.bool m7, Value.slice m8P m8N m8C]] w63 fun (e65 : Ending) (w66 : World) => ∃ (s67 : ByteArray), e65 = Ending.returned (Value.string s67) ∧ ∃ (R68 : List Own), ∃ (Φ69 :
  PW), Stable Φ69 ∧ Ctx W w66 (R68 ++ R64) Φ69 ∧ ∀ (w70 : World) (R71 : List Own), Ctx W w70 (R68 ++ R71) Φ69 → Calls Tryd.prog F.replica_Read #[Value.string s67] w70 fun (e72 : Ending) (w73
  : World) => ∃ (n74 : Int), ∃ (n75 : Int), ∃ (n76 : Int), ∃ (n77 : Int), ∃ (n78 : Int), ∃ (n79 : Int), ∃ (n80 : Int), ∃ (c81 : Bool), ∃ (p82 : Option Addr), ∃ (k83 : Nat), ∃ (k84 : Nat), ∃
  (c85 : Bool), e72 = Ending.returned (Value.tuple #[Value.agg #[Value.int IntKind.i64 n74, Value.int IntKind.i64 n75, Value.int IntKind.i64 n76, Value.int IntKind.i64 n77, Value.int
  IntKind.i64 n78, Value.int IntKind.i64 n79, Value.int IntKind.i64 n80, Value.bool c81, Value.slice p82 k83 k84], Value.bool c85]) ∧ ∃ (R86 : List Own), ∃ (Φ87 : PW), Stable Φ87 ∧ Ctx W w73
  (R86 ++ R71) Φ87 ∧ ∀ (b : Nat) (w88 : World) (R89 : List Own), Ctx W w88 (R86 ++ R89) Φ87 → Calls Tryd.prog F.replica_Read #[Value.string s] w88 fun (e90 : Ending) (w91 : World) => ∃ (n92 :
  Int), ∃ (n93 : Int), ∃ (n94 : Int), ∃ (n95 : Int), ∃ (n96 : Int), ∃ (n97 : Int), ∃ (n98 : Int), ∃ (c99 : Bool), ∃ (p100 : Option Addr), ∃ (k101 : Nat), ∃ (k102 : Nat), ∃ (c103 : Bool), e90
  = Ending.returned (Value.tuple #[Value.agg #[Value.int IntKind.i64 n92, Value.int IntKind.i64 n93, Value.int IntKind.i64 n94, Value.int IntKind.i64 n95, Value.int IntKind.i64 n96, Value.int
  IntKind.i64 n97, Value.int IntKind.i64 n98, Value.bool c99, Value.slice p100 k101 k102], Value.bool c103]) ∧ ∃ (R104 : List Own), ∃ (Φ105 : PW), Stable Φ105 ∧ Ctx W w91 (R104 ++ R89) Φ105 ∧
  ∀ (b : Nat) (w106 : World) (R107 : List Own), Ctx W w106 (R104 ++ R107) Φ105 → Calls Tryd.prog F.errataref08_Read #[Value.string s] w106 fun (e108 : Ending) (w109 : World) => ∃ (n110 :
  Int), ∃ (n111 : Int), ∃ (n112 : Int), ∃ (n113 : Int), ∃ (n114 : Int), ∃ (n115 : Int), ∃ (n116 : Int), ∃ (c117 : Bool), ∃ (p118 : Option Addr), ∃ (k119 : Nat), ∃ (k120 : Nat), ∃ (c121 :
  Bool), e108 = Ending.returned (Value.tuple #[Value.agg #[Value.int IntKind.i64 n110, Value.int IntKind.i64 n111, Value.int IntKind.i64 n112, Value.int IntKind.i64 n113, Value.int
  IntKind.i64 n114, Value.int IntKind.i64 n115, Value.int IntKind.i64 n116, Value.bool c117, Value.slice p118 k119 k120], Value.bool c121]) ∧ ∃ (R122 : List Own), ∃ (Φ123 : PW), Stable Φ123 ∧
  Ctx W w109 (R122 ++ R107) Φ123 ∧ ∀ (b : Nat) (w124 : World) (R125 : List Own), Ctx W w124 (R122 ++ R125) Φ123 → Calls Tryd.prog F.replica_ReadRec #[Value.string s] w124 fun (e126 : Ending)
  (w127 : World) => ∃ (n128 : Int), ∃ (s129 : ByteArray), ∃ (c130 : Bool), e126 = Ending.returned (Value.tuple #[Value.agg #[Value.int IntKind.i64 n128, Value.string s129], Value.bool c130])
  ∧ ∃ (R131 : List Own), ∃ (Φ132 : PW), Stable Φ132 ∧ Ctx W w127 (R131 ++ R125) Φ132 ∧ ∀ (b : Nat), Br (!c85) (∃ (R133 : List Own), ∃ (Φ134 : PW), Stable Φ134 ∧ (∀ (w135 : World) (R136 : List
  Own), Ctx W w135 (R131 ++ R136) Φ132 → Ctx W w135 (R133 ++ R136) Φ134) ∧ ∀ (w137 : World) (R138 : List Own), Ctx W w137 (R131 ++ R138) Φ132 → J (Value.bool false) w137) (∀ (w139 : World)
  (R140 : List Own), Ctx W w139 (R131 ++ R140) Φ132 → Calls Tryd.prog F.errataref08_SameMsg #[Value.agg #[Value.int IntKind.i64 n74, Value.int IntKind.i64 n75, Value.int IntKind.i64 n76,
  Value.int IntKind.i64 n77, Value.int IntKind.i64 n78, Value.int IntKind.i64 n79, Value.int IntKind.i64 n80, Value.bool c81, Value.slice p82 k83 k84], Value.agg #[Value.int IntKind.i64 m0,
  Value.int IntKind.i64 m1, Value.int IntKind.i64 m2, Value.int IntKind.i64 m3, Value.int IntKind.i64 m4, Value.int IntKind.i64 m5, Value.int IntKind.i64 m6, Value.bool m7, Value.slice m8P
  m8N m8C]] w139 fun (e141 : Ending) (w142 : World) => ∃ (c143 : Bool), e141 = Ending.returned (Value.bool c143) ∧ ∃ (R144 : List Own), ∃ (Φ145 : PW), Stable Φ145 ∧ Ctx W w142 (R144 ++ R140)
  Φ145 ∧ ∃ (R146 : List Own), ∃ (Φ147 : PW), Stable Φ147 ∧ (∀ (w148 : World) (R149 : List Own), Ctx W w148 (R144 ++ R149) Φ145 → Ctx W w148 (R146 ++ R149) Φ147) ∧ Br (!c143) (∀ (w150 : World)
  (R151 : List Own), Ctx W w150 (R144 ++ R151) Φ145 → J (Value.bool false) w150) (∀ (w152 : World) (R153 : List Own), Ctx W w152 (R144 ++ R153) Φ145 → Calls Tryd.prog F.replica_Bytes
  #[Value.agg #[Value.int IntKind.i64 m0, Value.int IntKind.i64 m1, Value.int IntKind.i64 m2, Value.int IntKind.i64 m3, Value.int IntKind.i64 m4, Value.int IntKind.i64 m5, Value.int
  IntKind.i64 m6, Value.bool m7, Value.slice m8P m8N m8C]] w152 fun (e154 : Ending) (w155 : World) => ∃ (s156 : ByteArray), e154 = Ending.returned (Value.string s156) ∧ ∃ (R157 : List Own), ∃
  (Φ158 : PW), Stable Φ158 ∧ Ctx W w155 (R157 ++ R153) Φ158 ∧ (∀ (w159 : World) (R160 : List Own), Ctx W w159 (R157 ++ R160) Φ158 → Ctx W w159 (R146 ++ R160) Φ147) ∧ ∀ (w161 : World) (R162 :
  List Own), Ctx W w161 (R157 ++ R162) Φ158 → Calls Tryd.prog F.errataref08_Bytes #[Value.agg #[Value.int IntKind.i64 m0, Value.int IntKind.i64 m1, Value.int IntKind.i64 m2, Value.int
  IntKind.i64 m3, Value.int IntKind.i64 m4, Value.int IntKind.i64 m5, Value.int IntKind.i64 m6, Value.bool m7, Value.slice m8P m8N m8C]] w161 fun (e163 : Ending) (w164 : World) => ∃ (s165 :
  ByteArray), e163 = Ending.returned (Value.string s165) ∧ ∃ (R166 : List Own), ∃ (Φ167 : PW), Stable Φ167 ∧ Ctx W w164 (R166 ++ R162) Φ167 ∧ Br (decide (s156 ≠ s165)) (∀ (w168 : World) (R169
  : List Own), Ctx W w168 (R166 ++ R169) Φ167 → J (Value.bool false) w168) (Br (c103 != c121) (∀ (w170 : World) (R171 : List Own), Ctx W w170 (R166 ++ R171) Φ167 → J (Value.bool false) w170)
  (∀ (w172 : World) (R173 : List Own), Ctx W w172 (R166 ++ R173) Φ167 → Calls Tryd.prog F.errataref08_SameMsg #[Value.agg #[Value.int IntKind.i64 n92, Value.int IntKind.i64 n93, Value.int
  IntKind.i64 n94, Value.int IntKind.i64 n95, Value.int IntKind.i64 n96, Value.int IntKind.i64 n97, Value.int IntKind.i64 n98, Value.bool c99, Value.slice p100 k101 k102], Value.agg
  #[Value.int IntKind.i64 n110, Value.int IntKind.i64 n111, Value.int IntKind.i64 n112, Value.int IntKind.i64 n113, Value.int IntKind.i64 n114, Value.int IntKind.i64 n115, Value.int
  IntKind.i64 n116, Value.bool c117, Value.slice p118 k119 k120]] w172 fun (e174 : Ending) (w175 : World) => ∃ (c176 : Bool), e174 = Ending.returned (Value.bool c176) ∧ ∃ (R177 : List Own), ∃
  (Φ178 : PW), Stable Φ178 ∧ Ctx W w175 (R177 ++ R173) Φ178 ∧ Br (!c176) (∀ (w179 : World) (R180 : List Own), Ctx W w179 (R177 ++ R180) Φ178 → J (Value.bool false) w179) (Br c4 (Br (!c103)
  (Br (!c130) (∀ (w181 : World) (R182 : List Own), Ctx W w181 (R177 ++ R182) Φ178 → J (Value.bool true) w181) (∀ (w183 : World) (R184 : List Own), Ctx W w183 (R177 ++ R184) Φ178 → Calls
  Tryd.prog F.replica_RecBytes #[Value.agg #[Value.int IntKind.i64 n128, Value.string s129]] w183 fun (e185 : Ending) (w186 : World) => ∃ (s187 : ByteArray), e185 = Ending.returned
  (Value.string s187) ∧ ∃ (R188 : List Own), ∃ (Φ189 : PW), Stable Φ189 ∧ Ctx W w186 (R188 ++ R184) Φ189 ∧ ∀ (w190 : World) (R191 : List Own), Ctx W w190 (R188 ++ R191) Φ189 → J (Value.bool
  (decide (s187 = s))) w190)) (∀ (w192 : World) (R193 : List Own), Ctx W w192 (R177 ++ R193) Φ178 → Calls Tryd.prog F.replica_Bytes #[Value.agg #[Value.int IntKind.i64 n92, Value.int
  IntKind.i64 n93, Value.int IntKind.i64 n94, Value.int IntKind.i64 n95, Value.int IntKind.i64 n96, Value.int IntKind.i64 n97, Value.int IntKind.i64 n98, Value.bool c99, Value.slice p100 k101
  k102]] w192 fun (e194 : Ending) (w195 : World) => ∃ (s196 : ByteArray), e194 = Ending.returned (Value.string s196) ∧ ∃ (R197 : List Own), ∃ (Φ198 : PW), Stable Φ198 ∧ Ctx W w195 (R197 ++
  R193) Φ198 ∧ Br (decide (s196 = s)) (Br (!c130) (∀ (w199 : World) (R200 : List Own), Ctx W w199 (R197 ++ R200) Φ198 → J (Value.bool true) w199) (∀ (w201 : World) (R202 : List Own), Ctx W
  w201 (R197 ++ R202) Φ198 → Calls Tryd.prog F.replica_RecBytes #[Value.agg #[Value.int IntKind.i64 n128, Value.string s129]] w201 fun (e203 : Ending) (w204 : World) => ∃ (s205 : ByteArray),
  e203 = Ending.returned (Value.string s205) ∧ ∃ (R206 : List Own), ∃ (Φ207 : PW), Stable Φ207 ∧ Ctx W w204 (R206 ++ R202) Φ207 ∧ ∀ (w208 : World) (R209 : List Own), Ctx W w208 (R206 ++ R209)
  Φ207 → J (Value.bool (decide (s205 = s))) w208)) (∀ (w210 : World) (R211 : List Own), Ctx W w210 (R197 ++ R211) Φ198 → J (Value.bool false) w210))) (∀ (w212 : World) (R213 : List Own), Ctx
  W w212 (R177 ++ R213) Φ178 → J (Value.bool false) w212))))))))

theorem Berratalaw08_ReplicaBack_run (m0 : Int) (m1 : Int) (m2 : Int) (m3 : Int) (m4 : Int) (m5 : Int) (m6 : Int) (m7 : Bool) (m8P : Option Addr) (m8N m8C : Nat) (s : ByteArray) {W w : World} {R : List Own} {Φ : PW} [Stable Φ] {J : Value → World → Prop} (c : Ctx W w R Φ) (h : Berratalaw08_ReplicaBack m0 m1 m2 m3 m4 m5 m6 m7 m8P m8N m8C s W R Φ J) : Calls Tryd.prog F.erratalaw08_ReplicaBack #[.agg #[.int .i64 m0, .int .i64 m1, .int .i64 m2, .int .i64 m3, .int .i64 m4, .int .i64 m5, .int .i64 m6, .bool m7, .slice m8P m8N m8C], .string s] w fun e w' => ∃ v, e = .returned v ∧ J v w' :=
  vcFS_sound (H := { keep := some [1, 2, 4, 5, 6, 7, 8, 9, 10, 11, 12, 13, 14, 15, 16, 26, 32, 52, 64, 111], track := [2, 7, 9, 11, 13, 15], stages := [(16, [.stage [0] none, .stage [1] none, .stage [2] none, .stage [3, 4] (some 5), .held [(6, true), (7, true), (8, true), (9, true), (11, true), (10, false)], .stage [] (some 12), .stage [13] none, .stage [14] none, .stage [15] none, .stage [16, 17] none, .stage [18] none, .stage [19] none, .stage [20] none, .stage [21, 22] (some 23), .stage [24, 25] none])], split := [18], loops := [(5, [(6, .one (.int .i64))], [])] }) (by rw [show vcFS Tryd.prog W { keep := some [1, 2, 4, 5, 6, 7, 8, 9, 10, 11, 12, 13, 14, 15, 16, 26, 32, 52, 64, 111], track := [2, 7, 9, 11, 13, 15], stages := [(16, [.stage [0] none, .stage [1] none, .stage [2] none, .stage [3, 4] (some 5), .held [(6, true), (7, true), (8, true), (9, true), (11, true), (10, false)], .stage [] (some 12), .stage [13] none, .stage [14] none, .stage [15] none, .stage [16, 17] none, .stage [18] none, .stage [19] none, .stage [20] none, .stage [21, 22] (some 23), .stage [24, 25] none])], split := [18], loops := [(5, [(6, .one (.int .i64))], [])] } F.erratalaw08_ReplicaBack #[.agg #[.int .i64 m0, .int .i64 m1, .int .i64 m2, .int .i64 m3, .int .i64 m4, .int .i64 m5, .int .i64 m6, .bool m7, .slice m8P m8N m8C], .string s] R Φ J = Berratalaw08_ReplicaBack m0 m1 m2 m3 m4 m5 m6 m7 m8P m8N m8C s W R Φ J by kernel_rfl]; exact h) c

/-- replica.ReadRec -/
-- known blocks: 2 , 5 x
def Breplica_ReadRec (s : ByteArray) (W : World) (R : List Own) (Φ : PW) (J : Value → World → Prop) : Prop :=
  ∀ (b : Nat) (w0 : World) (R1 : List Own), Ctx W w0 (R ++ R1) Φ → Calls Tryd.prog F.wire_Open #[Value.string s] w0 fun (e2 : Ending) (w3 : World) => ∃ (p4 : Option Addr), e2 =
  Ending.returned (Value.pointer p4) ∧ ∃ (R5 : List Own), ∃ (Φ6 : PW), Stable Φ6 ∧ Ctx W w3 (R5 ++ R1) Φ6 ∧ ∀ (w7 : World) (R8 : List Own), Ctx W w7 (R5 ++ R8) Φ6 → Calls Tryd.prog
  F.wire_Reader_Int #[Value.pointer p4] w7 fun (e9 : Ending) (w10 : World) => ∃ (n11 : Int), e9 = Ending.returned (Value.int IntKind.i64 n11) ∧ ∃ (R12 : List Own), ∃ (Φ13 : PW), Stable Φ13 ∧
  Ctx W w10 (R12 ++ R8) Φ13 ∧ ∀ (w14 : World) (R15 : List Own), Ctx W w14 (R12 ++ R15) Φ13 → Calls Tryd.prog F.wire_Reader_Text #[Value.pointer p4] w14 fun (e16 : Ending) (w17 : World) => ∃
  (s18 : ByteArray), e16 = Ending.returned (Value.string s18) ∧ ∃ (R19 : List Own), ∃ (Φ20 : PW), Stable Φ20 ∧ Ctx W w17 (R19 ++ R15) Φ20 ∧ ∀ (b : Nat) (w21 : World) (R22 : List Own), Ctx W
  w21 (R19 ++ R22) Φ20 → Calls Tryd.prog F.wire_Reader_Done #[Value.pointer p4] w21 fun (e23 : Ending) (w24 : World) => ∃ (c25 : Bool), e23 = Ending.returned (Value.bool c25) ∧ ∃ (R26 : List
  Own), ∃ (Φ27 : PW), Stable Φ27 ∧ Ctx W w24 (R26 ++ R22) Φ27 ∧ Br (!c25) (∀ (w28 : World) (R29 : List Own), Ctx W w28 (R26 ++ R29) Φ27 → J (Value.tuple #[Value.agg #[Value.int IntKind.i64 0,
  Value.string (ByteArray.mk #[])], Value.bool false]) w28) (∀ (w30 : World) (R31 : List Own), Ctx W w30 (R26 ++ R31) Φ27 → J (Value.tuple #[Value.agg #[Value.int IntKind.i64 n11,
  Value.string s18], Value.bool true]) w30)

theorem Breplica_ReadRec_run (s : ByteArray) {W w : World} {R : List Own} {Φ : PW} [Stable Φ] {J : Value → World → Prop} (c : Ctx W w R Φ) (h : Breplica_ReadRec s W R Φ J) : Calls Tryd.prog F.replica_ReadRec #[.string s] w fun e w' => ∃ v, e = .returned v ∧ J v w' :=
  vcFS_sound (H := { keep := some [0, 2, 3, 4, 5, 15], track := [2, 5] }) (by rw [show vcFS Tryd.prog W { keep := some [0, 2, 3, 4, 5, 15], track := [2, 5] } F.replica_ReadRec #[.string s] R Φ J = Breplica_ReadRec s W R Φ J by kernel_rfl]; exact h) c

/-- replica.RecBytes -/
-- known blocks: 1 x
def Breplica_RecBytes (x0 : Int) (x1 : ByteArray) (W : World) (R : List Own) (Φ : PW) (J : Value → World → Prop) : Prop :=
  ∀ (b : Nat), ∃ (R0 : List Own), ∃ (Φ1 : PW), Stable Φ1 ∧ (∀ (w2 : World) (R3 : List Own), Ctx W w2 (R ++ R3) Φ → Ctx W w2 (R0 ++ R3) Φ1) ∧ ∀ (w4 : World) (R5 : List Own), Ctx W w4 (R ++ R5)
  Φ → Calls Tryd.prog F.wire_Int #[Value.int IntKind.i64 x0] w4 fun (e6 : Ending) (w7 : World) => ∃ (s8 : ByteArray), e6 = Ending.returned (Value.string s8) ∧ ∃ (R9 : List Own), ∃ (Φ10 : PW),
  Stable Φ10 ∧ Ctx W w7 (R9 ++ R5) Φ10 ∧ (∀ (w11 : World) (R12 : List Own), Ctx W w11 (R9 ++ R12) Φ10 → Ctx W w11 (R0 ++ R12) Φ1) ∧ ∀ (w13 : World) (R14 : List Own), Ctx W w13 (R9 ++ R14) Φ10
  → Calls Tryd.prog F.wire_Text #[Value.string x1] w13 fun (e15 : Ending) (w16 : World) => ∃ (s17 : ByteArray), e15 = Ending.returned (Value.string s17) ∧ ∃ (R18 : List Own), ∃ (Φ19 : PW),
  Stable Φ19 ∧ Ctx W w16 (R18 ++ R14) Φ19 ∧ (s8.size + s17.size).le 9223372036854775807 ∧ ∀ (w20 : World) (R21 : List Own), Ctx W w20 (R18 ++ R21) Φ19 → J (Value.string (s8 ++ s17)) w20

theorem Breplica_RecBytes_run (x0 : Int) (x1 : ByteArray) {W w : World} {R : List Own} {Φ : PW} [Stable Φ] {J : Value → World → Prop} (c : Ctx W w R Φ) (h : Breplica_RecBytes x0 x1 W R Φ J) : Calls Tryd.prog F.replica_RecBytes #[.agg #[.int .i64 x0, .string x1]] w fun e w' => ∃ v, e = .returned v ∧ J v w' :=
  vcFS_sound (H := { keep := some [1, 2], track := [1], stages := [(1, [.held [(0, true), (3, true), (1, true), (4, true), (2, false)], .stage [] (some 5), .stage [6, 7] none])] }) (by rw [show vcFS Tryd.prog W { keep := some [1, 2], track := [1], stages := [(1, [.held [(0, true), (3, true), (1, true), (4, true), (2, false)], .stage [] (some 5), .stage [6, 7] none])] } F.replica_RecBytes #[.agg #[.int .i64 x0, .string x1]] R Φ J = Breplica_RecBytes x0 x1 W R Φ J by kernel_rfl]; exact h) c

/-- replica.Read -/
-- loop at region 4: ; blocks 5 m
-- known blocks: 2 , 5 m
def Breplica_Read (s : ByteArray) (W : World) (R : List Own) (Φ : PW) (J : Value → World → Prop) : Prop :=
  ∀ (b : Nat) (w0 : World) (R1 : List Own), Ctx W w0 (R ++ R1) Φ → Calls Tryd.prog F.wire_Open #[Value.string s] w0 fun (e2 : Ending) (w3 : World) => ∃ (p4 : Option Addr), e2 =
  Ending.returned (Value.pointer p4) ∧ ∃ (R5 : List Own), ∃ (Φ6 : PW), Stable Φ6 ∧ Ctx W w3 (R5 ++ R1) Φ6 ∧ ∀ (w7 : World) (R8 : List Own), Ctx W w7 (R5 ++ R8) Φ6 → Calls Tryd.prog
  F.wire_Reader_Int #[Value.pointer p4] w7 fun (e9 : Ending) (w10 : World) => ∃ (n11 : Int), e9 = Ending.returned (Value.int IntKind.i64 n11) ∧ ∃ (R12 : List Own), ∃ (Φ13 : PW), Stable Φ13 ∧
  Ctx W w10 (R12 ++ R8) Φ13 ∧ ∀ (w14 : World) (R15 : List Own), Ctx W w14 (R12 ++ R15) Φ13 → Calls Tryd.prog F.wire_Reader_Int #[Value.pointer p4] w14 fun (e16 : Ending) (w17 : World) => ∃
  (n18 : Int), e16 = Ending.returned (Value.int IntKind.i64 n18) ∧ ∃ (R19 : List Own), ∃ (Φ20 : PW), Stable Φ20 ∧ Ctx W w17 (R19 ++ R15) Φ20 ∧ ∀ (w21 : World) (R22 : List Own), Ctx W w21 (R19
  ++ R22) Φ20 → Calls Tryd.prog F.wire_Reader_Int #[Value.pointer p4] w21 fun (e23 : Ending) (w24 : World) => ∃ (n25 : Int), e23 = Ending.returned (Value.int IntKind.i64 n25) ∧ ∃ (R26 : List
  Own), ∃ (Φ27 : PW), Stable Φ27 ∧ Ctx W w24 (R26 ++ R22) Φ27 ∧ ∀ (w28 : World) (R29 : List Own), Ctx W w28 (R26 ++ R29) Φ27 → Calls Tryd.prog F.wire_Reader_Int #[Value.pointer p4] w28 fun
  (e30 : Ending) (w31 : World) => ∃ (n32 : Int), e30 = Ending.returned (Value.int IntKind.i64 n32) ∧ ∃ (R33 : List Own), ∃ (Φ34 : PW), Stable Φ34 ∧ Ctx W w31 (R33 ++ R29) Φ34 ∧ ∀ (w35 :
  World) (R36 : List Own), Ctx W w35 (R33 ++ R36) Φ34 → Calls Tryd.prog F.wire_Reader_Int #[Value.pointer p4] w35 fun (e37 : Ending) (w38 : World) => ∃ (n39 : Int), e37 = Ending.returned
  (Value.int IntKind.i64 n39) ∧ ∃ (R40 : List Own), ∃ (Φ41 : PW), Stable Φ41 ∧ Ctx W w38 (R40 ++ R36) Φ41 ∧ ∀ (w42 : World) (R43 : List Own), Ctx W w42 (R40 ++ R43) Φ41 → Calls Tryd.prog
  F.wire_Reader_Int #[Value.pointer p4] w42 fun (e44 : Ending) (w45 : World) => ∃ (n46 : Int), e44 = Ending.returned (Value.int IntKind.i64 n46) ∧ ∃ (R47 : List Own), ∃ (Φ48 : PW), Stable Φ48
  ∧ Ctx W w45 (R47 ++ R43) Φ48 ∧ ∀ (w49 : World) (R50 : List Own), Ctx W w49 (R47 ++ R50) Φ48 → Calls Tryd.prog F.wire_Reader_Int #[Value.pointer p4] w49 fun (e51 : Ending) (w52 : World) => ∃
  (n53 : Int), e51 = Ending.returned (Value.int IntKind.i64 n53) ∧ ∃ (R54 : List Own), ∃ (Φ55 : PW), Stable Φ55 ∧ Ctx W w52 (R54 ++ R50) Φ55 ∧ ∀ (w56 : World) (R57 : List Own), Ctx W w56 (R54
  ++ R57) Φ55 → Calls Tryd.prog F.wire_Reader_Int #[Value.pointer p4] w56 fun (e58 : Ending) (w59 : World) => ∃ (n60 : Int), e58 = Ending.returned (Value.int IntKind.i64 n60) ∧ ∃ (R61 : List
  Own), ∃ (Φ62 : PW), Stable Φ62 ∧ Ctx W w59 (R61 ++ R57) Φ62 ∧ ∀ (b : Nat) (w63 : World) (R64 : List Own), Ctx W w63 (R61 ++ R64) Φ62 → Calls Tryd.prog F.wire_Reader_Num #[Value.pointer p4]
  w63 fun (e65 : Ending) (w66 : World) => ∃ (n67 : Int), e65 = Ending.returned (Value.int IntKind.i64 n67) ∧ ∃ (R68 : List Own), ∃ (Φ69 : PW), Stable Φ69 ∧ Ctx W w66 (R68 ++ R64) Φ69 ∧ exI
  fun (I70 : Int → Int → Int → Int → Int → Int → Int → Bool → Option Addr → Nat → Nat → List Own → PW → Nat → Prop) => (∃ (R71 : List Own), ∃ (Φ72 : PW), ∃ (k73 : Nat), Stable Φ72 ∧ (∀ (w74 :
  World) (R75 : List Own), Ctx W w74 (R68 ++ R75) Φ69 → Ctx W w74 (R71 ++ R75) Φ72) ∧ I70 n11 n18 n25 n32 n39 n46 n53 (decide (n60 = 1)) none 0 0 R71 Φ72 k73) ∧ ∀ (n76 n77 n78 n79 n80 n81 n82
  : Int) (c83 : Bool) (p84 : Option Addr) (k85 k86 : Nat) (R87 : List Own) (I88 : List Nat → World → Prop) (k89 : Nat), Stable I88 → I70 n76 n77 n78 n79 n80 n81 n82 c83 p84 k85 k86 R87 I88
  k89 → Br (decide ((↑k85 : Int) < n67)) (∀ (w90 : World) (R91 : List Own), Ctx W w90 (R87 ++ R91) I88 → Calls Tryd.prog F.wire_Reader_Left #[Value.pointer p4] w90 fun (e92 : Ending) (w93 :
  World) => ∃ (n94 : Int), e92 = Ending.returned (Value.int IntKind.i64 n94) ∧ ∃ (R95 : List Own), ∃ (Φ96 : PW), Stable Φ96 ∧ Ctx W w93 (R95 ++ R91) Φ96 ∧ Br (decide (0 < n94)) (∃ (R97 : List
  Own), ∃ (Φ98 : PW), Stable Φ98 ∧ (∀ (w99 : World) (R100 : List Own), Ctx W w99 (R95 ++ R100) Φ96 → Ctx W w99 (R97 ++ R100) Φ98) ∧ ∀ (w101 : World) (R102 : List Own), Ctx W w101 (R95 ++
  R102) Φ96 → Calls Tryd.prog F.wire_Reader_Int #[Value.pointer p4] w101 fun (e103 : Ending) (w104 : World) => ∃ (n105 : Int), e103 = Ending.returned (Value.int IntKind.i64 n105) ∧ ∃ (R106 :
  List Own), ∃ (Φ107 : PW), Stable Φ107 ∧ Ctx W w104 (R106 ++ R102) Φ107 ∧ (∀ (w108 : World) (R109 : List Own), Ctx W w108 (R106 ++ R109) Φ107 → Ctx W w108 (R97 ++ R109) Φ98) ∧ ∀ (w110 :
  World) (R111 : List Own), Ctx W w110 (R106 ++ R111) Φ107 → Calls Tryd.prog F.wire_Reader_Text #[Value.pointer p4] w110 fun (e112 : Ending) (w113 : World) => ∃ (s114 : ByteArray), e112 =
  Ending.returned (Value.string s114) ∧ ∃ (R115 : List Own), ∃ (Φ116 : PW), Stable Φ116 ∧ Ctx W w113 (R115 ++ R111) Φ116 ∧ (∀ (w117 : World) (R118 : List Own), Ctx W w117 (R115 ++ R118) Φ116
  → Ctx W w117 (R97 ++ R118) Φ98) ∧ ∀ (k119 : Nat), (∀ (w120 : World) (R121 : List Own), Ctx W w120 (Own.blk k119 [Value.int IntKind.i64 n105, Value.string s114] 27 :: R115 ++ R121) Φ116 →
  Ctx W w120 (R97 ++ R121) Φ98) ∧ ∀ (w122 : World) (R123 : List Own), Ctx W w122 (Own.blk k119 [Value.int IntKind.i64 n105, Value.string s114] 27 :: R115 ++ R123) Φ116 → ∃ (p124 : Option
  Addr), ∃ (k125 : Nat), ∃ (k126 : Nat), ∃ (w127 : World), Sem.run Tryd.prog (builtin Builtin.append #[22, 22] 22 #[false, false] #[Value.slice p84 k85 k86, Value.slice (some (Addr.mk k119 0
  none)) 1 1]) w122 = Result.ok (Next.value (Value.slice p124 k125 k126)) w127 ∧ ∃ (R128 : List Own), ∃ (Φ129 : PW), Stable Φ129 ∧ Ctx W w127 (R128 ++ R123) Φ129 ∧ ∃ (R130 : List Own), ∃
  (Φ131 : PW), ∃ (k132 : Nat), Stable Φ131 ∧ (∀ (w133 : World) (R134 : List Own), Ctx W w133 (R128 ++ R134) Φ129 → Ctx W w133 (R130 ++ R134) Φ131) ∧ I70 n76 n77 n78 n79 n80 n81 n82 c83 p124
  k125 k126 R130 Φ131 k132 ∧ k132 < k89) (∀ (w135 : World) (R136 : List Own), Ctx W w135 (R95 ++ R136) Φ96 → Calls Tryd.prog F.wire_Reader_Done #[Value.pointer p4] w135 fun (e137 : Ending)
  (w138 : World) => ∃ (c139 : Bool), e137 = Ending.returned (Value.bool c139) ∧ ∃ (R140 : List Own), ∃ (Φ141 : PW), Stable Φ141 ∧ Ctx W w138 (R140 ++ R136) Φ141 ∧ Br (!c139) (∀ (w142 : World)
  (R143 : List Own), Ctx W w142 (R140 ++ R143) Φ141 → J (Value.tuple #[Value.agg #[Value.int IntKind.i64 0, Value.int IntKind.i64 0, Value.int IntKind.i64 0, Value.int IntKind.i64 0,
  Value.int IntKind.i64 0, Value.int IntKind.i64 0, Value.int IntKind.i64 0, Value.bool false, Value.slice none 0 0], Value.bool false]) w142) (∀ (w144 : World) (R145 : List Own), Ctx W w144
  (R140 ++ R145) Φ141 → Calls Tryd.prog F.replica_Bytes #[Value.agg #[Value.int IntKind.i64 n76, Value.int IntKind.i64 n77, Value.int IntKind.i64 n78, Value.int IntKind.i64 n79, Value.int
  IntKind.i64 n80, Value.int IntKind.i64 n81, Value.int IntKind.i64 n82, Value.bool c83, Value.slice p84 k85 k86]] w144 fun (e146 : Ending) (w147 : World) => ∃ (s148 : ByteArray), e146 =
  Ending.returned (Value.string s148) ∧ ∃ (R149 : List Own), ∃ (Φ150 : PW), Stable Φ150 ∧ Ctx W w147 (R149 ++ R145) Φ150 ∧ Br (decide (s148 ≠ s)) (∀ (w151 : World) (R152 : List Own), Ctx W
  w151 (R149 ++ R152) Φ150 → J (Value.tuple #[Value.agg #[Value.int IntKind.i64 0, Value.int IntKind.i64 0, Value.int IntKind.i64 0, Value.int IntKind.i64 0, Value.int IntKind.i64 0,
  Value.int IntKind.i64 0, Value.int IntKind.i64 0, Value.bool false, Value.slice none 0 0], Value.bool false]) w151) (∀ (w153 : World) (R154 : List Own), Ctx W w153 (R149 ++ R154) Φ150 → J
  (Value.tuple #[Value.agg #[Value.int IntKind.i64 n76, Value.int IntKind.i64 n77, Value.int IntKind.i64 n78, Value.int IntKind.i64 n79, Value.int IntKind.i64 n80, Value.int IntKind.i64 n81,
  Value.int IntKind.i64 n82, Value.bool c83, Value.slice p84 k85 k86], Value.bool true]) w153)))) (∀ (w155 : World) (R156 : List Own), Ctx W w155 (R87 ++ R156) I88 → Calls Tryd.prog
  F.wire_Reader_Done #[Value.pointer p4] w155 fun (e157 : Ending) (w158 : World) => ∃ (c159 : Bool), e157 = Ending.returned (Value.bool c159) ∧ ∃ (R160 : List Own), ∃ (Φ161 : PW), Stable Φ161
  ∧ Ctx W w158 (R160 ++ R156) Φ161 ∧ Br (!c159) (∀ (w162 : World) (R163 : List Own), Ctx W w162 (R160 ++ R163) Φ161 → J (Value.tuple #[Value.agg #[Value.int IntKind.i64 0, Value.int
  IntKind.i64 0, Value.int IntKind.i64 0, Value.int IntKind.i64 0, Value.int IntKind.i64 0, Value.int IntKind.i64 0, Value.int IntKind.i64 0, Value.bool false, Value.slice none 0 0],
  Value.bool false]) w162) (∀ (w164 : World) (R165 : List Own), Ctx W w164 (R160 ++ R165) Φ161 → Calls Tryd.prog F.replica_Bytes #[Value.agg #[Value.int IntKind.i64 n76, Value.int IntKind.i64
  n77, Value.int IntKind.i64 n78, Value.int IntKind.i64 n79, Value.int IntKind.i64 n80, Value.int IntKind.i64 n81, Value.int IntKind.i64 n82, Value.bool c83, Value.slice p84 k85 k86]] w164
  fun (e166 : Ending) (w167 : World) => ∃ (s168 : ByteArray), e166 = Ending.returned (Value.string s168) ∧ ∃ (R169 : List Own), ∃ (Φ170 : PW), Stable Φ170 ∧ Ctx W w167 (R169 ++ R165) Φ170 ∧
  Br (decide (s168 ≠ s)) (∀ (w171 : World) (R172 : List Own), Ctx W w171 (R169 ++ R172) Φ170 → J (Value.tuple #[Value.agg #[Value.int IntKind.i64 0, Value.int IntKind.i64 0, Value.int
  IntKind.i64 0, Value.int IntKind.i64 0, Value.int IntKind.i64 0, Value.int IntKind.i64 0, Value.int IntKind.i64 0, Value.bool false, Value.slice none 0 0], Value.bool false]) w171) (∀ (w173
  : World) (R174 : List Own), Ctx W w173 (R169 ++ R174) Φ170 → J (Value.tuple #[Value.agg #[Value.int IntKind.i64 n76, Value.int IntKind.i64 n77, Value.int IntKind.i64 n78, Value.int
  IntKind.i64 n79, Value.int IntKind.i64 n80, Value.int IntKind.i64 n81, Value.int IntKind.i64 n82, Value.bool c83, Value.slice p84 k85 k86], Value.bool true]) w173)))

theorem Breplica_Read_run (s : ByteArray) {W w : World} {R : List Own} {Φ : PW} [Stable Φ] {J : Value → World → Prop} (c : Ctx W w R Φ) (h : Breplica_Read s W R Φ J) : Calls Tryd.prog F.replica_Read #[.string s] w fun e w' => ∃ v, e = .returned v ∧ J v w' :=
  vcFS_sound (H := { keep := some [0, 2, 3, 4, 5, 6, 38, 57], track := [2, 5], stages := [(5, [.held [(0, true), (2, true), (4, true), (1, true), (3, false), (5, false), (6, true), (7, false)], .stage [] (some 8), .stage [9] (some 10)])], split := [4, 6], loops := [(4, [], [(5, .agg [.int .i64, .int .i64, .int .i64, .int .i64, .int .i64, .int .i64, .int .i64, .bool, .slice])])] }) (by rw [show vcFS Tryd.prog W { keep := some [0, 2, 3, 4, 5, 6, 38, 57], track := [2, 5], stages := [(5, [.held [(0, true), (2, true), (4, true), (1, true), (3, false), (5, false), (6, true), (7, false)], .stage [] (some 8), .stage [9] (some 10)])], split := [4, 6], loops := [(4, [], [(5, .agg [.int .i64, .int .i64, .int .i64, .int .i64, .int .i64, .int .i64, .int .i64, .bool, .slice])])] } F.replica_Read #[.string s] R Φ J = Breplica_Read s W R Φ J by kernel_rfl]; exact h) c

/-- replica.Bytes -/
-- loop at region 12: 4 s, 44 ; blocks 
-- loop at region 6: 4 s, 27 ; blocks 
-- known blocks: 1 m, 8 x
def Breplica_Bytes (m0 : Int) (m1 : Int) (m2 : Int) (m3 : Int) (m4 : Int) (m5 : Int) (m6 : Int) (m7 : Bool) (m8P : Option Addr) (m8N m8C : Nat) (W : World) (R : List Own) (Φ : PW) (J : Value → World → Prop) : Prop :=
  ∀ (b : Nat), Br m7 (exI fun (I0 : ByteArray → Int → List Own → PW → Nat → Prop) => (∃ (R1 : List Own), ∃ (Φ2 : PW), ∃ (k3 : Nat), Stable Φ2 ∧ (∀ (w4 : World) (R5 : List Own), Ctx W w4 (R ++
  R5) Φ → Ctx W w4 (R1 ++ R5) Φ2) ∧ I0 (ByteArray.mk #[]) 0 R1 Φ2 k3) ∧ ∀ (s6 : ByteArray) (n7 : Int) (R8 : List Own) (I9 : List Nat → World → Prop) (k10 : Nat), Stable I9 → I0 s6 n7 R8 I9
  k10 → Br (decide (n7 < 8)) (∃ (n11 : Int), (0 ≤ n7 ∧ n7 < 8 ∧ aggAt (0 + n7.toNat) [Value.int IntKind.i64 m0, Value.int IntKind.i64 m1, Value.int IntKind.i64 m2, Value.int IntKind.i64 m3,
  Value.int IntKind.i64 m4, Value.int IntKind.i64 m5, Value.int IntKind.i64 m6, Value.int IntKind.i64 1] = some (Value.int IntKind.i64 n11)) ∧ ∀ (w12 : World) (R13 : List Own), Ctx W w12 (R8
  ++ R13) I9 → Calls Tryd.prog F.wire_Int #[Value.int IntKind.i64 n11] w12 fun (e14 : Ending) (w15 : World) => ∃ (s16 : ByteArray), e14 = Ending.returned (Value.string s16) ∧ ∃ (R17 : List
  Own), ∃ (Φ18 : PW), Stable Φ18 ∧ Ctx W w15 (R17 ++ R13) Φ18 ∧ (s6.size + s16.size).le 9223372036854775807 ∧ I64 (n7 + 1) ∧ ∃ (R19 : List Own), ∃ (Φ20 : PW), ∃ (k21 : Nat), Stable Φ20 ∧ (∀
  (w22 : World) (R23 : List Own), Ctx W w22 (R17 ++ R23) Φ18 → Ctx W w22 (R19 ++ R23) Φ20) ∧ I0 (s6 ++ s16) (n7 + 1) R19 Φ20 k21 ∧ k21 < k10) (∀ (w24 : World) (R25 : List Own), Ctx W w24 (R8
  ++ R25) I9 → Calls Tryd.prog F.wire_Num #[Value.int IntKind.i64 (↑m8N : Int)] w24 fun (e26 : Ending) (w27 : World) => ∃ (s28 : ByteArray), e26 = Ending.returned (Value.string s28) ∧ ∃ (R29
  : List Own), ∃ (Φ30 : PW), Stable Φ30 ∧ Ctx W w27 (R29 ++ R25) Φ30 ∧ (s6.size + s28.size).le 9223372036854775807 ∧ exI fun (I31 : ByteArray → Int → List Own → PW → Nat → Prop) => (∃ (R32 :
  List Own), ∃ (Φ33 : PW), ∃ (k34 : Nat), Stable Φ33 ∧ (∀ (w35 : World) (R36 : List Own), Ctx W w35 (R29 ++ R36) Φ30 → Ctx W w35 (R32 ++ R36) Φ33) ∧ I31 (s6 ++ s28) 0 R32 Φ33 k34) ∧ ∀ (s37 :
  ByteArray) (n38 : Int) (R39 : List Own) (I40 : List Nat → World → Prop) (k41 : Nat), Stable I40 → I31 s37 n38 R39 I40 k41 → Br (decide (n38 < (↑m8N : Int))) ((0 ≤ n38 ∧ n38 < (↑m8N : Int))
  ∧ ptrK none m8P fun (k42 k43 : Nat) => ∀ (w44 : World) (R45 : List Own), Ctx W w44 (R39 ++ R45) I40 → ∃ (n46 : Int), ∃ (s47 : ByteArray), RowAt w44 k42 (k43 + n38.toNat * 2) [Value.int
  IntKind.i64 n46, Value.string s47] ∧ ∀ (b : Nat) (w48 : World) (R49 : List Own), Ctx W w48 (R39 ++ R49) I40 → Calls Tryd.prog F.replica_RecBytes #[Value.agg #[Value.int IntKind.i64 n46,
  Value.string s47]] w48 fun (e50 : Ending) (w51 : World) => ∃ (s52 : ByteArray), e50 = Ending.returned (Value.string s52) ∧ ∃ (R53 : List Own), ∃ (Φ54 : PW), Stable Φ54 ∧ Ctx W w51 (R53 ++
  R49) Φ54 ∧ (s37.size + s52.size).le 9223372036854775807 ∧ I64 (n38 + 1) ∧ ∃ (R55 : List Own), ∃ (Φ56 : PW), ∃ (k57 : Nat), Stable Φ56 ∧ (∀ (w58 : World) (R59 : List Own), Ctx W w58 (R53 ++
  R59) Φ54 → Ctx W w58 (R55 ++ R59) Φ56) ∧ I31 (s37 ++ s52) (n38 + 1) R55 Φ56 k57 ∧ k57 < k41) (∀ (w60 : World) (R61 : List Own), Ctx W w60 (R39 ++ R61) I40 → J (Value.string s37) w60))) (exI
  fun (I62 : ByteArray → Int → List Own → PW → Nat → Prop) => (∃ (R63 : List Own), ∃ (Φ64 : PW), ∃ (k65 : Nat), Stable Φ64 ∧ (∀ (w66 : World) (R67 : List Own), Ctx W w66 (R ++ R67) Φ → Ctx W
  w66 (R63 ++ R67) Φ64) ∧ I62 (ByteArray.mk #[]) 0 R63 Φ64 k65) ∧ ∀ (s68 : ByteArray) (n69 : Int) (R70 : List Own) (I71 : List Nat → World → Prop) (k72 : Nat), Stable I71 → I62 s68 n69 R70
  I71 k72 → Br (decide (n69 < 8)) (∃ (n73 : Int), (0 ≤ n69 ∧ n69 < 8 ∧ aggAt (0 + n69.toNat) [Value.int IntKind.i64 m0, Value.int IntKind.i64 m1, Value.int IntKind.i64 m2, Value.int
  IntKind.i64 m3, Value.int IntKind.i64 m4, Value.int IntKind.i64 m5, Value.int IntKind.i64 m6, Value.int IntKind.i64 0] = some (Value.int IntKind.i64 n73)) ∧ ∀ (w74 : World) (R75 : List
  Own), Ctx W w74 (R70 ++ R75) I71 → Calls Tryd.prog F.wire_Int #[Value.int IntKind.i64 n73] w74 fun (e76 : Ending) (w77 : World) => ∃ (s78 : ByteArray), e76 = Ending.returned (Value.string
  s78) ∧ ∃ (R79 : List Own), ∃ (Φ80 : PW), Stable Φ80 ∧ Ctx W w77 (R79 ++ R75) Φ80 ∧ (s68.size + s78.size).le 9223372036854775807 ∧ I64 (n69 + 1) ∧ ∃ (R81 : List Own), ∃ (Φ82 : PW), ∃ (k83 :
  Nat), Stable Φ82 ∧ (∀ (w84 : World) (R85 : List Own), Ctx W w84 (R79 ++ R85) Φ80 → Ctx W w84 (R81 ++ R85) Φ82) ∧ I62 (s68 ++ s78) (n69 + 1) R81 Φ82 k83 ∧ k83 < k72) (∀ (w86 : World) (R87 :
  List Own), Ctx W w86 (R70 ++ R87) I71 → Calls Tryd.prog F.wire_Num #[Value.int IntKind.i64 (↑m8N : Int)] w86 fun (e88 : Ending) (w89 : World) => ∃ (s90 : ByteArray), e88 = Ending.returned
  (Value.string s90) ∧ ∃ (R91 : List Own), ∃ (Φ92 : PW), Stable Φ92 ∧ Ctx W w89 (R91 ++ R87) Φ92 ∧ (s68.size + s90.size).le 9223372036854775807 ∧ exI fun (I93 : ByteArray → Int → List Own →
  PW → Nat → Prop) => (∃ (R94 : List Own), ∃ (Φ95 : PW), ∃ (k96 : Nat), Stable Φ95 ∧ (∀ (w97 : World) (R98 : List Own), Ctx W w97 (R91 ++ R98) Φ92 → Ctx W w97 (R94 ++ R98) Φ95) ∧ I93 (s68 ++
  s90) 0 R94 Φ95 k96) ∧ ∀ (s99 : ByteArray) (n100 : Int) (R101 : List Own) (I102 : List Nat → World → Prop) (k103 : Nat), Stable I102 → I93 s99 n100 R101 I102 k103 → Br (decide (n100 < (↑m8N
  : Int))) ((0 ≤ n100 ∧ n100 < (↑m8N : Int)) ∧ ptrK none m8P fun (k104 k105 : Nat) => ∀ (w106 : World) (R107 : List Own), Ctx W w106 (R101 ++ R107) I102 → ∃ (n108 : Int), ∃ (s109 :
  ByteArray), RowAt w106 k104 (k105 + n100.toNat * 2) [Value.int IntKind.i64 n108, Value.string s109] ∧ ∀ (b : Nat) (w110 : World) (R111 : List Own), Ctx W w110 (R101 ++ R111) I102 → Calls
  Tryd.prog F.replica_RecBytes #[Value.agg #[Value.int IntKind.i64 n108, Value.string s109]] w110 fun (e112 : Ending) (w113 : World) => ∃ (s114 : ByteArray), e112 = Ending.returned
  (Value.string s114) ∧ ∃ (R115 : List Own), ∃ (Φ116 : PW), Stable Φ116 ∧ Ctx W w113 (R115 ++ R111) Φ116 ∧ (s99.size + s114.size).le 9223372036854775807 ∧ I64 (n100 + 1) ∧ ∃ (R117 : List
  Own), ∃ (Φ118 : PW), ∃ (k119 : Nat), Stable Φ118 ∧ (∀ (w120 : World) (R121 : List Own), Ctx W w120 (R115 ++ R121) Φ116 → Ctx W w120 (R117 ++ R121) Φ118) ∧ I93 (s99 ++ s114) (n100 + 1) R117
  Φ118 k119 ∧ k119 < k103) (∀ (w122 : World) (R123 : List Own), Ctx W w122 (R101 ++ R123) I102 → J (Value.string s99) w122)))

theorem Breplica_Bytes_run (m0 : Int) (m1 : Int) (m2 : Int) (m3 : Int) (m4 : Int) (m5 : Int) (m6 : Int) (m7 : Bool) (m8P : Option Addr) (m8N m8C : Nat) {W w : World} {R : List Own} {Φ : PW} [Stable Φ] {J : Value → World → Prop} (c : Ctx W w R Φ) (h : Breplica_Bytes m0 m1 m2 m3 m4 m5 m6 m7 m8P m8N m8C W R Φ J) : Calls Tryd.prog F.replica_Bytes #[.agg #[.int .i64 m0, .int .i64 m1, .int .i64 m2, .int .i64 m3, .int .i64 m4, .int .i64 m5, .int .i64 m6, .bool m7, .slice m8P m8N m8C]] w fun e w' => ∃ v, e = .returned v ∧ J v w' :=
  vcFS_sound (H := { keep := some [1, 2, 3, 4, 6, 8, 10, 26, 27, 28, 42, 43, 44, 45], track := [1, 8], loops := [(12, [(4, .one (.str)), (44, .one (.int .i64))], []), (6, [(4, .one (.str)), (27, .one (.int .i64))], [])] }) (by rw [show vcFS Tryd.prog W { keep := some [1, 2, 3, 4, 6, 8, 10, 26, 27, 28, 42, 43, 44, 45], track := [1, 8], loops := [(12, [(4, .one (.str)), (44, .one (.int .i64))], []), (6, [(4, .one (.str)), (27, .one (.int .i64))], [])] } F.replica_Bytes #[.agg #[.int .i64 m0, .int .i64 m1, .int .i64 m2, .int .i64 m3, .int .i64 m4, .int .i64 m5, .int .i64 m6, .bool m7, .slice m8P m8N m8C]] R Φ J = Breplica_Bytes m0 m1 m2 m3 m4 m5 m6 m7 m8P m8N m8C W R Φ J by kernel_rfl]; exact h) c

/-- errataref08.Read -/
-- loop at region 13: 7 i; blocks 5 m
-- known blocks: 2 , 5 m, 8 x
def Berrataref08_Read (s : ByteArray) (W : World) (R : List Own) (Φ : PW) (J : Value → World → Prop) : Prop :=
  ∀ (b : Nat) (w0 : World) (R1 : List Own), Ctx W w0 (R ++ R1) Φ → Calls Tryd.prog F.errataref01_Open #[Value.string s] w0 fun (e2 : Ending) (w3 : World) => ∃ (p4 : Option Addr), e2 =
  Ending.returned (Value.pointer p4) ∧ ∃ (R5 : List Own), ∃ (Φ6 : PW), Stable Φ6 ∧ Ctx W w3 (R5 ++ R1) Φ6 ∧ ∀ (b : Nat) (w7 : World) (R8 : List Own), Ctx W w7 (R5 ++ R8) Φ6 → Calls Tryd.prog
  F.errataref01_Reader_Int #[Value.pointer p4] w7 fun (e9 : Ending) (w10 : World) => ∃ (n11 : Int), e9 = Ending.returned (Value.int IntKind.i64 n11) ∧ ∃ (R12 : List Own), ∃ (Φ13 : PW), Stable
  Φ13 ∧ Ctx W w10 (R12 ++ R8) Φ13 ∧ ∀ (w14 : World) (R15 : List Own), Ctx W w14 (R12 ++ R15) Φ13 → Calls Tryd.prog F.errataref01_Reader_Int #[Value.pointer p4] w14 fun (e16 : Ending) (w17 :
  World) => ∃ (n18 : Int), e16 = Ending.returned (Value.int IntKind.i64 n18) ∧ ∃ (R19 : List Own), ∃ (Φ20 : PW), Stable Φ20 ∧ Ctx W w17 (R19 ++ R15) Φ20 ∧ ∀ (w21 : World) (R22 : List Own),
  Ctx W w21 (R19 ++ R22) Φ20 → Calls Tryd.prog F.errataref01_Reader_Int #[Value.pointer p4] w21 fun (e23 : Ending) (w24 : World) => ∃ (n25 : Int), e23 = Ending.returned (Value.int IntKind.i64
  n25) ∧ ∃ (R26 : List Own), ∃ (Φ27 : PW), Stable Φ27 ∧ Ctx W w24 (R26 ++ R22) Φ27 ∧ ∀ (w28 : World) (R29 : List Own), Ctx W w28 (R26 ++ R29) Φ27 → Calls Tryd.prog F.errataref01_Reader_Int
  #[Value.pointer p4] w28 fun (e30 : Ending) (w31 : World) => ∃ (n32 : Int), e30 = Ending.returned (Value.int IntKind.i64 n32) ∧ ∃ (R33 : List Own), ∃ (Φ34 : PW), Stable Φ34 ∧ Ctx W w31 (R33
  ++ R29) Φ34 ∧ ∀ (w35 : World) (R36 : List Own), Ctx W w35 (R33 ++ R36) Φ34 → Calls Tryd.prog F.errataref01_Reader_Int #[Value.pointer p4] w35 fun (e37 : Ending) (w38 : World) => ∃ (n39 :
  Int), e37 = Ending.returned (Value.int IntKind.i64 n39) ∧ ∃ (R40 : List Own), ∃ (Φ41 : PW), Stable Φ41 ∧ Ctx W w38 (R40 ++ R36) Φ41 ∧ ∀ (w42 : World) (R43 : List Own), Ctx W w42 (R40 ++
  R43) Φ41 → Calls Tryd.prog F.errataref01_Reader_Int #[Value.pointer p4] w42 fun (e44 : Ending) (w45 : World) => ∃ (n46 : Int), e44 = Ending.returned (Value.int IntKind.i64 n46) ∧ ∃ (R47 :
  List Own), ∃ (Φ48 : PW), Stable Φ48 ∧ Ctx W w45 (R47 ++ R43) Φ48 ∧ ∀ (w49 : World) (R50 : List Own), Ctx W w49 (R47 ++ R50) Φ48 → Calls Tryd.prog F.errataref01_Reader_Int #[Value.pointer
  p4] w49 fun (e51 : Ending) (w52 : World) => ∃ (n53 : Int), e51 = Ending.returned (Value.int IntKind.i64 n53) ∧ ∃ (R54 : List Own), ∃ (Φ55 : PW), Stable Φ55 ∧ Ctx W w52 (R54 ++ R50) Φ55 ∧ ∀
  (w56 : World) (R57 : List Own), Ctx W w56 (R54 ++ R57) Φ55 → Calls Tryd.prog F.errataref01_Reader_Int #[Value.pointer p4] w56 fun (e58 : Ending) (w59 : World) => ∃ (n60 : Int), e58 =
  Ending.returned (Value.int IntKind.i64 n60) ∧ ∃ (R61 : List Own), ∃ (Φ62 : PW), Stable Φ62 ∧ Ctx W w59 (R61 ++ R57) Φ62 ∧ ∀ (w63 : World) (R64 : List Own), Ctx W w63 (R61 ++ R64) Φ62 →
  Calls Tryd.prog F.errataref01_Reader_Num #[Value.pointer p4] w63 fun (e65 : Ending) (w66 : World) => ∃ (n67 : Int), e65 = Ending.returned (Value.int IntKind.i64 n67) ∧ ∃ (R68 : List Own), ∃
  (Φ69 : PW), Stable Φ69 ∧ Ctx W w66 (R68 ++ R64) Φ69 ∧ exI fun (I70 : Int → Int → Int → Int → Int → Int → Int → Int → Bool → Option Addr → Nat → Nat → List Own → PW → Nat → Prop) => (∃ (R71
  : List Own), ∃ (Φ72 : PW), ∃ (k73 : Nat), Stable Φ72 ∧ (∀ (w74 : World) (R75 : List Own), Ctx W w74 (R68 ++ R75) Φ69 → Ctx W w74 (R71 ++ R75) Φ72) ∧ I70 0 n11 n18 n25 n32 n39 n46 n53
  (decide (n60 = 1)) none 0 0 R71 Φ72 k73) ∧ ∀ (n76 n77 n78 n79 n80 n81 n82 n83 : Int) (c84 : Bool) (p85 : Option Addr) (k86 k87 : Nat) (R88 : List Own) (I89 : List Nat → World → Prop) (k90 :
  Nat), Stable I89 → I70 n76 n77 n78 n79 n80 n81 n82 n83 c84 p85 k86 k87 R88 I89 k90 → Br (decide (n76 < n67)) (∀ (w91 : World) (R92 : List Own), Ctx W w91 (R88 ++ R92) I89 → Calls Tryd.prog
  F.errataref01_Reader_Left #[Value.pointer p4] w91 fun (e93 : Ending) (w94 : World) => ∃ (n95 : Int), e93 = Ending.returned (Value.int IntKind.i64 n95) ∧ ∃ (R96 : List Own), ∃ (Φ97 : PW),
  Stable Φ97 ∧ Ctx W w94 (R96 ++ R92) Φ97 ∧ Br (decide (0 < n95)) (∀ (w98 : World) (R99 : List Own), Ctx W w98 (R96 ++ R99) Φ97 → Calls Tryd.prog F.errataref01_Reader_Int #[Value.pointer p4]
  w98 fun (e100 : Ending) (w101 : World) => ∃ (n102 : Int), e100 = Ending.returned (Value.int IntKind.i64 n102) ∧ ∃ (R103 : List Own), ∃ (Φ104 : PW), Stable Φ104 ∧ Ctx W w101 (R103 ++ R99)
  Φ104 ∧ ∀ (b : Nat) (w105 : World) (R106 : List Own), Ctx W w105 (R103 ++ R106) Φ104 → Calls Tryd.prog F.errataref01_Reader_Text #[Value.pointer p4] w105 fun (e107 : Ending) (w108 : World)
  => ∃ (s109 : ByteArray), e107 = Ending.returned (Value.string s109) ∧ ∃ (R110 : List Own), ∃ (Φ111 : PW), Stable Φ111 ∧ Ctx W w108 (R110 ++ R106) Φ111 ∧ ∀ (k112 : Nat) (w113 : World) (R114
  : List Own), Ctx W w113 (Own.blk k112 [Value.int IntKind.i64 n102, Value.string s109] 27 :: R110 ++ R114) Φ111 → ∃ (p115 : Option Addr), ∃ (k116 : Nat), ∃ (k117 : Nat), ∃ (w118 : World),
  Sem.run Tryd.prog (builtin Builtin.append #[22, 22] 22 #[false, false] #[Value.slice p85 k86 k87, Value.slice (some (Addr.mk k112 0 none)) 1 1]) w113 = Result.ok (Next.value (Value.slice
  p115 k116 k117)) w118 ∧ ∃ (R119 : List Own), ∃ (Φ120 : PW), Stable Φ120 ∧ Ctx W w118 (R119 ++ R114) Φ120 ∧ I64 (n76 + 1) ∧ ∃ (R121 : List Own), ∃ (Φ122 : PW), ∃ (k123 : Nat), Stable Φ122 ∧
  (∀ (w124 : World) (R125 : List Own), Ctx W w124 (R119 ++ R125) Φ120 → Ctx W w124 (R121 ++ R125) Φ122) ∧ I70 (n76 + 1) n77 n78 n79 n80 n81 n82 n83 c84 p115 k116 k117 R121 Φ122 k123 ∧ k123 <
  k90) (∀ (w126 : World) (R127 : List Own), Ctx W w126 (R96 ++ R127) Φ97 → Calls Tryd.prog F.errataref01_Reader_Done #[Value.pointer p4] w126 fun (e128 : Ending) (w129 : World) => ∃ (c130 :
  Bool), e128 = Ending.returned (Value.bool c130) ∧ ∃ (R131 : List Own), ∃ (Φ132 : PW), Stable Φ132 ∧ Ctx W w129 (R131 ++ R127) Φ132 ∧ Br (!c130) (∀ (w133 : World) (R134 : List Own), Ctx W
  w133 (R131 ++ R134) Φ132 → J (Value.tuple #[Value.agg #[Value.int IntKind.i64 0, Value.int IntKind.i64 0, Value.int IntKind.i64 0, Value.int IntKind.i64 0, Value.int IntKind.i64 0,
  Value.int IntKind.i64 0, Value.int IntKind.i64 0, Value.bool false, Value.slice none 0 0], Value.bool false]) w133) (∀ (w135 : World) (R136 : List Own), Ctx W w135 (R131 ++ R136) Φ132 →
  Calls Tryd.prog F.errataref08_Bytes #[Value.agg #[Value.int IntKind.i64 n77, Value.int IntKind.i64 n78, Value.int IntKind.i64 n79, Value.int IntKind.i64 n80, Value.int IntKind.i64 n81,
  Value.int IntKind.i64 n82, Value.int IntKind.i64 n83, Value.bool c84, Value.slice p85 k86 k87]] w135 fun (e137 : Ending) (w138 : World) => ∃ (s139 : ByteArray), e137 = Ending.returned
  (Value.string s139) ∧ ∃ (R140 : List Own), ∃ (Φ141 : PW), Stable Φ141 ∧ Ctx W w138 (R140 ++ R136) Φ141 ∧ Br (decide (s139 ≠ s)) (∀ (w142 : World) (R143 : List Own), Ctx W w142 (R140 ++
  R143) Φ141 → J (Value.tuple #[Value.agg #[Value.int IntKind.i64 0, Value.int IntKind.i64 0, Value.int IntKind.i64 0, Value.int IntKind.i64 0, Value.int IntKind.i64 0, Value.int IntKind.i64
  0, Value.int IntKind.i64 0, Value.bool false, Value.slice none 0 0], Value.bool false]) w142) (∀ (w144 : World) (R145 : List Own), Ctx W w144 (R140 ++ R145) Φ141 → J (Value.tuple
  #[Value.agg #[Value.int IntKind.i64 n77, Value.int IntKind.i64 n78, Value.int IntKind.i64 n79, Value.int IntKind.i64 n80, Value.int IntKind.i64 n81, Value.int IntKind.i64 n82, Value.int
  IntKind.i64 n83, Value.bool c84, Value.slice p85 k86 k87], Value.bool true]) w144)))) (∀ (w146 : World) (R147 : List Own), Ctx W w146 (R88 ++ R147) I89 → Calls Tryd.prog
  F.errataref01_Reader_Done #[Value.pointer p4] w146 fun (e148 : Ending) (w149 : World) => ∃ (c150 : Bool), e148 = Ending.returned (Value.bool c150) ∧ ∃ (R151 : List Own), ∃ (Φ152 : PW),
  Stable Φ152 ∧ Ctx W w149 (R151 ++ R147) Φ152 ∧ Br (!c150) (∀ (w153 : World) (R154 : List Own), Ctx W w153 (R151 ++ R154) Φ152 → J (Value.tuple #[Value.agg #[Value.int IntKind.i64 0,
  Value.int IntKind.i64 0, Value.int IntKind.i64 0, Value.int IntKind.i64 0, Value.int IntKind.i64 0, Value.int IntKind.i64 0, Value.int IntKind.i64 0, Value.bool false, Value.slice none 0
  0], Value.bool false]) w153) (∀ (w155 : World) (R156 : List Own), Ctx W w155 (R151 ++ R156) Φ152 → Calls Tryd.prog F.errataref08_Bytes #[Value.agg #[Value.int IntKind.i64 n77, Value.int
  IntKind.i64 n78, Value.int IntKind.i64 n79, Value.int IntKind.i64 n80, Value.int IntKind.i64 n81, Value.int IntKind.i64 n82, Value.int IntKind.i64 n83, Value.bool c84, Value.slice p85 k86
  k87]] w155 fun (e157 : Ending) (w158 : World) => ∃ (s159 : ByteArray), e157 = Ending.returned (Value.string s159) ∧ ∃ (R160 : List Own), ∃ (Φ161 : PW), Stable Φ161 ∧ Ctx W w158 (R160 ++
  R156) Φ161 ∧ Br (decide (s159 ≠ s)) (∀ (w162 : World) (R163 : List Own), Ctx W w162 (R160 ++ R163) Φ161 → J (Value.tuple #[Value.agg #[Value.int IntKind.i64 0, Value.int IntKind.i64 0,
  Value.int IntKind.i64 0, Value.int IntKind.i64 0, Value.int IntKind.i64 0, Value.int IntKind.i64 0, Value.int IntKind.i64 0, Value.bool false, Value.slice none 0 0], Value.bool false])
  w162) (∀ (w164 : World) (R165 : List Own), Ctx W w164 (R160 ++ R165) Φ161 → J (Value.tuple #[Value.agg #[Value.int IntKind.i64 n77, Value.int IntKind.i64 n78, Value.int IntKind.i64 n79,
  Value.int IntKind.i64 n80, Value.int IntKind.i64 n81, Value.int IntKind.i64 n82, Value.int IntKind.i64 n83, Value.bool c84, Value.slice p85 k86 k87], Value.bool true]) w164)))

theorem Berrataref08_Read_run (s : ByteArray) {W w : World} {R : List Own} {Φ : PW} [Stable Φ] {J : Value → World → Prop} (c : Ctx W w R Φ) (h : Berrataref08_Read s W R Φ J) : Calls Tryd.prog F.errataref08_Read #[.string s] w fun e w' => ∃ v, e = .returned v ∧ J v w' :=
  vcFS_sound (H := { keep := some [0, 2, 3, 4, 5, 6, 7, 8, 46, 69], track := [2, 5, 8], split := [13, 18], loops := [(13, [(7, .one (.int .i64))], [(5, .agg [.int .i64, .int .i64, .int .i64, .int .i64, .int .i64, .int .i64, .int .i64, .bool, .slice])])] }) (by rw [show vcFS Tryd.prog W { keep := some [0, 2, 3, 4, 5, 6, 7, 8, 46, 69], track := [2, 5, 8], split := [13, 18], loops := [(13, [(7, .one (.int .i64))], [(5, .agg [.int .i64, .int .i64, .int .i64, .int .i64, .int .i64, .int .i64, .int .i64, .bool, .slice])])] } F.errataref08_Read #[.string s] R Φ J = Berrataref08_Read s W R Φ J by kernel_rfl]; exact h) c

/-- errataref08.SameMsg -/
-- known blocks: 2 a, 3 b
def Berrataref08_SameMsg (a0 : Int) (a1 : Int) (a2 : Int) (a3 : Int) (a4 : Int) (a5 : Int) (a6 : Int) (a7 : Bool) (a8P : Option Addr) (a8N a8C : Nat) (b0 : Int) (b1 : Int) (b2 : Int) (b3 : Int) (b4 : Int) (b5 : Int) (b6 : Int) (b7 : Bool) (b8P : Option Addr) (b8N b8C : Nat) (W : World) (R : List Own) (Φ : PW) (J : Value → World → Prop) : Prop :=
  ∀ (b b : Nat), Br (decide (a0 = b0)) (Br (decide (a1 = b1)) (Br (decide (a2 = b2)) (Br (decide (a3 = b3)) (Br (decide (a4 = b4)) (Br (decide (a5 = b5)) (Br (decide (a6 = b6)) (Br (a7 == b7)
  (∀ (w0 : World) (R1 : List Own), Ctx W w0 (R ++ R1) Φ → Calls Tryd.prog F.errataref08_SameRecs #[Value.slice a8P a8N a8C, Value.slice b8P b8N b8C] w0 fun (e2 : Ending) (w3 : World) => ∃ (c4
  : Bool), e2 = Ending.returned (Value.bool c4) ∧ ∃ (R5 : List Own), ∃ (Φ6 : PW), Stable Φ6 ∧ Ctx W w3 (R5 ++ R1) Φ6 ∧ ∀ (w7 : World) (R8 : List Own), Ctx W w7 (R5 ++ R8) Φ6 → J (Value.bool
  c4) w7) (∀ (w9 : World) (R10 : List Own), Ctx W w9 (R ++ R10) Φ → J (Value.bool false) w9)) (∀ (w11 : World) (R12 : List Own), Ctx W w11 (R ++ R12) Φ → J (Value.bool false) w11)) (∀ (w13 :
  World) (R14 : List Own), Ctx W w13 (R ++ R14) Φ → J (Value.bool false) w13)) (∀ (w15 : World) (R16 : List Own), Ctx W w15 (R ++ R16) Φ → J (Value.bool false) w15)) (∀ (w17 : World) (R18 :
  List Own), Ctx W w17 (R ++ R18) Φ → J (Value.bool false) w17)) (∀ (w19 : World) (R20 : List Own), Ctx W w19 (R ++ R20) Φ → J (Value.bool false) w19)) (∀ (w21 : World) (R22 : List Own), Ctx
  W w21 (R ++ R22) Φ → J (Value.bool false) w21)) (∀ (w23 : World) (R24 : List Own), Ctx W w23 (R ++ R24) Φ → J (Value.bool false) w23)

theorem Berrataref08_SameMsg_run (a0 : Int) (a1 : Int) (a2 : Int) (a3 : Int) (a4 : Int) (a5 : Int) (a6 : Int) (a7 : Bool) (a8P : Option Addr) (a8N a8C : Nat) (b0 : Int) (b1 : Int) (b2 : Int) (b3 : Int) (b4 : Int) (b5 : Int) (b6 : Int) (b7 : Bool) (b8P : Option Addr) (b8N b8C : Nat) {W w : World} {R : List Own} {Φ : PW} [Stable Φ] {J : Value → World → Prop} (c : Ctx W w R Φ) (h : Berrataref08_SameMsg a0 a1 a2 a3 a4 a5 a6 a7 a8P a8N a8C b0 b1 b2 b3 b4 b5 b6 b7 b8P b8N b8C W R Φ J) : Calls Tryd.prog F.errataref08_SameMsg #[.agg #[.int .i64 a0, .int .i64 a1, .int .i64 a2, .int .i64 a3, .int .i64 a4, .int .i64 a5, .int .i64 a6, .bool a7, .slice a8P a8N a8C], .agg #[.int .i64 b0, .int .i64 b1, .int .i64 b2, .int .i64 b3, .int .i64 b4, .int .i64 b5, .int .i64 b6, .bool b7, .slice b8P b8N b8C]] w fun e w' => ∃ v, e = .returned v ∧ J v w' :=
  vcFS_sound (H := { keep := some [2, 3, 4], track := [2, 3], split := [1] }) (by rw [show vcFS Tryd.prog W { keep := some [2, 3, 4], track := [2, 3], split := [1] } F.errataref08_SameMsg #[.agg #[.int .i64 a0, .int .i64 a1, .int .i64 a2, .int .i64 a3, .int .i64 a4, .int .i64 a5, .int .i64 a6, .bool a7, .slice a8P a8N a8C], .agg #[.int .i64 b0, .int .i64 b1, .int .i64 b2, .int .i64 b3, .int .i64 b4, .int .i64 b5, .int .i64 b6, .bool b7, .slice b8P b8N b8C]] R Φ J = Berrataref08_SameMsg a0 a1 a2 a3 a4 a5 a6 a7 a8P a8N a8C b0 b1 b2 b3 b4 b5 b6 b7 b8P b8N b8C W R Φ J by kernel_rfl]; exact h) c

/-- errataref08.Bytes -/
-- loop at region 12: 5 s, 7 i; blocks 
-- loop at region 7: 5 s, 6 i; blocks 
-- known blocks: 1 m
def Berrataref08_Bytes (m0 : Int) (m1 : Int) (m2 : Int) (m3 : Int) (m4 : Int) (m5 : Int) (m6 : Int) (m7 : Bool) (m8P : Option Addr) (m8N m8C : Nat) (W : World) (R : List Own) (Φ : PW) (J : Value → World → Prop) : Prop :=
  ∀ (b : Nat), Br m7 (∀ (k0 : Nat), exI fun (I1 : ByteArray → Int → List Own → PW → Nat → Prop) => (∃ (R2 : List Own), ∃ (Φ3 : PW), ∃ (k4 : Nat), Stable Φ3 ∧ (∀ (w5 : World) (R6 : List Own),
  Ctx W w5 (Own.blk k0 [Value.int IntKind.i64 m0, Value.int IntKind.i64 m1, Value.int IntKind.i64 m2, Value.int IntKind.i64 m3, Value.int IntKind.i64 m4, Value.int IntKind.i64 m5, Value.int
  IntKind.i64 m6, Value.int IntKind.i64 1] 3 :: R ++ R6) Φ → Ctx W w5 (R2 ++ R6) Φ3) ∧ I1 (ByteArray.mk #[]) 0 R2 Φ3 k4) ∧ ∀ (s7 : ByteArray) (n8 : Int) (R9 : List Own) (I10 : List Nat →
  World → Prop) (k11 : Nat), Stable I10 → I1 s7 n8 R9 I10 k11 → Br (decide (n8 < 8)) ((0 ≤ n8 ∧ n8 < 8) ∧ ∀ (w12 : World) (R13 : List Own), Ctx W w12 (R9 ++ R13) I10 → ∃ (n14 : Int),
  w12.cell? (Addr.mk k0 (0 + n8.toNat) none) = some (Value.int IntKind.i64 n14) ∧ ∀ (w15 : World) (R16 : List Own), Ctx W w15 (R9 ++ R16) I10 → Calls Tryd.prog F.errataref01_Int #[Value.int
  IntKind.i64 n14] w15 fun (e17 : Ending) (w18 : World) => ∃ (s19 : ByteArray), e17 = Ending.returned (Value.string s19) ∧ ∃ (R20 : List Own), ∃ (Φ21 : PW), Stable Φ21 ∧ Ctx W w18 (R20 ++
  R16) Φ21 ∧ (s7.size + s19.size).le 9223372036854775807 ∧ I64 (n8 + 1) ∧ ∃ (R22 : List Own), ∃ (Φ23 : PW), ∃ (k24 : Nat), Stable Φ23 ∧ (∀ (w25 : World) (R26 : List Own), Ctx W w25 (R20 ++
  R26) Φ21 → Ctx W w25 (R22 ++ R26) Φ23) ∧ I1 (s7 ++ s19) (n8 + 1) R22 Φ23 k24 ∧ k24 < k11) (∀ (w27 : World) (R28 : List Own), Ctx W w27 (R9 ++ R28) I10 → Calls Tryd.prog F.errataref01_Num
  #[Value.int IntKind.i64 (↑m8N : Int)] w27 fun (e29 : Ending) (w30 : World) => ∃ (s31 : ByteArray), e29 = Ending.returned (Value.string s31) ∧ ∃ (R32 : List Own), ∃ (Φ33 : PW), Stable Φ33 ∧
  Ctx W w30 (R32 ++ R28) Φ33 ∧ (s7.size + s31.size).le 9223372036854775807 ∧ exI fun (I34 : ByteArray → Int → List Own → PW → Nat → Prop) => (∃ (R35 : List Own), ∃ (Φ36 : PW), ∃ (k37 : Nat),
  Stable Φ36 ∧ (∀ (w38 : World) (R39 : List Own), Ctx W w38 (R32 ++ R39) Φ33 → Ctx W w38 (R35 ++ R39) Φ36) ∧ I34 (s7 ++ s31) 0 R35 Φ36 k37) ∧ ∀ (s40 : ByteArray) (n41 : Int) (R42 : List Own)
  (I43 : List Nat → World → Prop) (k44 : Nat), Stable I43 → I34 s40 n41 R42 I43 k44 → Br (decide (n41 < (↑m8N : Int))) ((0 ≤ n41 ∧ n41 < (↑m8N : Int)) ∧ ptrK none m8P fun (k45 k46 : Nat) => ∀
  (w47 : World) (R48 : List Own), Ctx W w47 (R42 ++ R48) I43 → ∃ (n49 : Int), ∃ (s50 : ByteArray), RowAt w47 k45 (k46 + n41.toNat * 2) [Value.int IntKind.i64 n49, Value.string s50] ∧ ∀ (w51 :
  World) (R52 : List Own), Ctx W w51 (R42 ++ R52) I43 → Calls Tryd.prog F.errataref08_RecBytes #[Value.agg #[Value.int IntKind.i64 n49, Value.string s50]] w51 fun (e53 : Ending) (w54 : World)
  => ∃ (s55 : ByteArray), e53 = Ending.returned (Value.string s55) ∧ ∃ (R56 : List Own), ∃ (Φ57 : PW), Stable Φ57 ∧ Ctx W w54 (R56 ++ R52) Φ57 ∧ (s40.size + s55.size).le 9223372036854775807 ∧
  I64 (n41 + 1) ∧ ∃ (R58 : List Own), ∃ (Φ59 : PW), ∃ (k60 : Nat), Stable Φ59 ∧ (∀ (w61 : World) (R62 : List Own), Ctx W w61 (R56 ++ R62) Φ57 → Ctx W w61 (R58 ++ R62) Φ59) ∧ I34 (s40 ++ s55)
  (n41 + 1) R58 Φ59 k60 ∧ k60 < k44) (∀ (w63 : World) (R64 : List Own), Ctx W w63 (R42 ++ R64) I43 → J (Value.string s40) w63))) (∀ (k65 : Nat), exI fun (I66 : ByteArray → Int → List Own → PW
  → Nat → Prop) => (∃ (R67 : List Own), ∃ (Φ68 : PW), ∃ (k69 : Nat), Stable Φ68 ∧ (∀ (w70 : World) (R71 : List Own), Ctx W w70 (Own.blk k65 [Value.int IntKind.i64 m0, Value.int IntKind.i64
  m1, Value.int IntKind.i64 m2, Value.int IntKind.i64 m3, Value.int IntKind.i64 m4, Value.int IntKind.i64 m5, Value.int IntKind.i64 m6, Value.int IntKind.i64 0] 3 :: R ++ R71) Φ → Ctx W w70
  (R67 ++ R71) Φ68) ∧ I66 (ByteArray.mk #[]) 0 R67 Φ68 k69) ∧ ∀ (s72 : ByteArray) (n73 : Int) (R74 : List Own) (I75 : List Nat → World → Prop) (k76 : Nat), Stable I75 → I66 s72 n73 R74 I75
  k76 → Br (decide (n73 < 8)) ((0 ≤ n73 ∧ n73 < 8) ∧ ∀ (w77 : World) (R78 : List Own), Ctx W w77 (R74 ++ R78) I75 → ∃ (n79 : Int), w77.cell? (Addr.mk k65 (0 + n73.toNat) none) = some
  (Value.int IntKind.i64 n79) ∧ ∀ (w80 : World) (R81 : List Own), Ctx W w80 (R74 ++ R81) I75 → Calls Tryd.prog F.errataref01_Int #[Value.int IntKind.i64 n79] w80 fun (e82 : Ending) (w83 :
  World) => ∃ (s84 : ByteArray), e82 = Ending.returned (Value.string s84) ∧ ∃ (R85 : List Own), ∃ (Φ86 : PW), Stable Φ86 ∧ Ctx W w83 (R85 ++ R81) Φ86 ∧ (s72.size + s84.size).le
  9223372036854775807 ∧ I64 (n73 + 1) ∧ ∃ (R87 : List Own), ∃ (Φ88 : PW), ∃ (k89 : Nat), Stable Φ88 ∧ (∀ (w90 : World) (R91 : List Own), Ctx W w90 (R85 ++ R91) Φ86 → Ctx W w90 (R87 ++ R91)
  Φ88) ∧ I66 (s72 ++ s84) (n73 + 1) R87 Φ88 k89 ∧ k89 < k76) (∀ (w92 : World) (R93 : List Own), Ctx W w92 (R74 ++ R93) I75 → Calls Tryd.prog F.errataref01_Num #[Value.int IntKind.i64 (↑m8N :
  Int)] w92 fun (e94 : Ending) (w95 : World) => ∃ (s96 : ByteArray), e94 = Ending.returned (Value.string s96) ∧ ∃ (R97 : List Own), ∃ (Φ98 : PW), Stable Φ98 ∧ Ctx W w95 (R97 ++ R93) Φ98 ∧
  (s72.size + s96.size).le 9223372036854775807 ∧ exI fun (I99 : ByteArray → Int → List Own → PW → Nat → Prop) => (∃ (R100 : List Own), ∃ (Φ101 : PW), ∃ (k102 : Nat), Stable Φ101 ∧ (∀ (w103 :
  World) (R104 : List Own), Ctx W w103 (R97 ++ R104) Φ98 → Ctx W w103 (R100 ++ R104) Φ101) ∧ I99 (s72 ++ s96) 0 R100 Φ101 k102) ∧ ∀ (s105 : ByteArray) (n106 : Int) (R107 : List Own) (I108 :
  List Nat → World → Prop) (k109 : Nat), Stable I108 → I99 s105 n106 R107 I108 k109 → Br (decide (n106 < (↑m8N : Int))) ((0 ≤ n106 ∧ n106 < (↑m8N : Int)) ∧ ptrK none m8P fun (k110 k111 : Nat)
  => ∀ (w112 : World) (R113 : List Own), Ctx W w112 (R107 ++ R113) I108 → ∃ (n114 : Int), ∃ (s115 : ByteArray), RowAt w112 k110 (k111 + n106.toNat * 2) [Value.int IntKind.i64 n114,
  Value.string s115] ∧ ∀ (w116 : World) (R117 : List Own), Ctx W w116 (R107 ++ R117) I108 → Calls Tryd.prog F.errataref08_RecBytes #[Value.agg #[Value.int IntKind.i64 n114, Value.string
  s115]] w116 fun (e118 : Ending) (w119 : World) => ∃ (s120 : ByteArray), e118 = Ending.returned (Value.string s120) ∧ ∃ (R121 : List Own), ∃ (Φ122 : PW), Stable Φ122 ∧ Ctx W w119 (R121 ++
  R117) Φ122 ∧ (s105.size + s120.size).le 9223372036854775807 ∧ I64 (n106 + 1) ∧ ∃ (R123 : List Own), ∃ (Φ124 : PW), ∃ (k125 : Nat), Stable Φ124 ∧ (∀ (w126 : World) (R127 : List Own), Ctx W
  w126 (R121 ++ R127) Φ122 → Ctx W w126 (R123 ++ R127) Φ124) ∧ I99 (s105 ++ s120) (n106 + 1) R123 Φ124 k125 ∧ k125 < k109) (∀ (w128 : World) (R129 : List Own), Ctx W w128 (R107 ++ R129) I108
  → J (Value.string s105) w128)))

theorem Berrataref08_Bytes_run (m0 : Int) (m1 : Int) (m2 : Int) (m3 : Int) (m4 : Int) (m5 : Int) (m6 : Int) (m7 : Bool) (m8P : Option Addr) (m8N m8C : Nat) {W w : World} {R : List Own} {Φ : PW} [Stable Φ] {J : Value → World → Prop} (c : Ctx W w R Φ) (h : Berrataref08_Bytes m0 m1 m2 m3 m4 m5 m6 m7 m8P m8N m8C W R Φ J) : Calls Tryd.prog F.errataref08_Bytes #[.agg #[.int .i64 m0, .int .i64 m1, .int .i64 m2, .int .i64 m3, .int .i64 m4, .int .i64 m5, .int .i64 m6, .bool m7, .slice m8P m8N m8C]] w fun e w' => ∃ v, e = .returned v ∧ J v w' :=
  vcFS_sound (H := { keep := some [1, 2, 3, 4, 5, 6, 7, 9, 29, 49], track := [1], loops := [(12, [(5, .one (.str)), (7, .one (.int .i64))], []), (7, [(5, .one (.str)), (6, .one (.int .i64))], [])] }) (by rw [show vcFS Tryd.prog W { keep := some [1, 2, 3, 4, 5, 6, 7, 9, 29, 49], track := [1], loops := [(12, [(5, .one (.str)), (7, .one (.int .i64))], []), (7, [(5, .one (.str)), (6, .one (.int .i64))], [])] } F.errataref08_Bytes #[.agg #[.int .i64 m0, .int .i64 m1, .int .i64 m2, .int .i64 m3, .int .i64 m4, .int .i64 m5, .int .i64 m6, .bool m7, .slice m8P m8N m8C]] R Φ J = Berrataref08_Bytes m0 m1 m2 m3 m4 m5 m6 m7 m8P m8N m8C W R Φ J by kernel_rfl]; exact h) c

/-- errataref01.Open -/
def Berrataref01_Open (s : ByteArray) (W : World) (R : List Own) (Φ : PW) (J : Value → World → Prop) : Prop :=
  ∀ (k0 : Nat) (w1 : World) (R2 : List Own), Ctx W w1 (Own.blk k0 [Value.string s, Value.bool false] 77 :: R ++ R2) Φ → J (Value.pointer (some (Addr.mk k0 0 none))) w1

theorem Berrataref01_Open_run (s : ByteArray) {W w : World} {R : List Own} {Φ : PW} [Stable Φ] {J : Value → World → Prop} (c : Ctx W w R Φ) (h : Berrataref01_Open s W R Φ J) : Calls Tryd.prog F.errataref01_Open #[.string s] w fun e w' => ∃ v, e = .returned v ∧ J v w' :=
  vcFS_sound (H := { keep := some [0, 2] }) (by rw [show vcFS Tryd.prog W { keep := some [0, 2] } F.errataref01_Open #[.string s] R Φ J = Berrataref01_Open s W R Φ J by kernel_rfl]; exact h) c

/-- (*errataref01.Reader).Int -/
def Berrataref01_Reader_Int (rB rO : Nat) (W : World) (R : List Own) (Φ : PW) (J : Value → World → Prop) : Prop :=
  ∀ (w0 : World) (R1 : List Own), Ctx W w0 (R ++ R1) Φ → Calls Tryd.prog F.errataref01_Reader_ahead #[Value.pointer (some (Addr.mk rB rO none)), Value.int IntKind.u8 59] w0 fun (e2 : Ending)
  (w3 : World) => ∃ (n4 : Int), e2 = Ending.returned (Value.int IntKind.i64 n4) ∧ ∃ (R5 : List Own), ∃ (Φ6 : PW), Stable Φ6 ∧ Ctx W w3 (R5 ++ R1) Φ6 ∧ ∀ (w7 : World) (R8 : List Own), Ctx W w7
  (R5 ++ R8) Φ6 → J (Value.int IntKind.i64 n4) w7

theorem Berrataref01_Reader_Int_run (rB rO : Nat) {W w : World} {R : List Own} {Φ : PW} [Stable Φ] {J : Value → World → Prop} (c : Ctx W w R Φ) (h : Berrataref01_Reader_Int rB rO W R Φ J) : Calls Tryd.prog F.errataref01_Reader_Int #[.pointer (some ⟨rB, rO, none⟩)] w fun e w' => ∃ v, e = .returned v ∧ J v w' :=
  vcFS_sound (H := { keep := some [0, 2] }) (by rw [show vcFS Tryd.prog W { keep := some [0, 2] } F.errataref01_Reader_Int #[.pointer (some ⟨rB, rO, none⟩)] R Φ J = Berrataref01_Reader_Int rB rO W R Φ J by kernel_rfl]; exact h) c

/-- (*errataref01.Reader).Num -/
def Berrataref01_Reader_Num (rB rO : Nat) (W : World) (R : List Own) (Φ : PW) (J : Value → World → Prop) : Prop :=
  ∀ (w0 : World) (R1 : List Own), Ctx W w0 (R ++ R1) Φ → Calls Tryd.prog F.errataref01_Reader_number #[Value.pointer (some (Addr.mk rB rO none)), Value.int IntKind.u8 59] w0 fun (e2 : Ending)
  (w3 : World) => ∃ (n4 : Int), e2 = Ending.returned (Value.int IntKind.i64 n4) ∧ ∃ (R5 : List Own), ∃ (Φ6 : PW), Stable Φ6 ∧ Ctx W w3 (R5 ++ R1) Φ6 ∧ ∀ (w7 : World) (R8 : List Own), Ctx W w7
  (R5 ++ R8) Φ6 → J (Value.int IntKind.i64 n4) w7

theorem Berrataref01_Reader_Num_run (rB rO : Nat) {W w : World} {R : List Own} {Φ : PW} [Stable Φ] {J : Value → World → Prop} (c : Ctx W w R Φ) (h : Berrataref01_Reader_Num rB rO W R Φ J) : Calls Tryd.prog F.errataref01_Reader_Num #[.pointer (some ⟨rB, rO, none⟩)] w fun e w' => ∃ v, e = .returned v ∧ J v w' :=
  vcFS_sound (H := { keep := some [0, 2] }) (by rw [show vcFS Tryd.prog W { keep := some [0, 2] } F.errataref01_Reader_Num #[.pointer (some ⟨rB, rO, none⟩)] R Φ J = Berrataref01_Reader_Num rB rO W R Φ J by kernel_rfl]; exact h) c

/-- (*errataref01.Reader).Left -/
def Berrataref01_Reader_Left (rB rO : Nat) (W : World) (R : List Own) (Φ : PW) (J : Value → World → Prop) : Prop :=
  ∀ (w0 : World) (R1 : List Own), Ctx W w0 (R ++ R1) Φ → ∃ (s2 : ByteArray), w0.cell? (Addr.mk rB rO none) = some (Value.string s2) ∧ ∀ (w3 : World) (R4 : List Own), Ctx W w3 (R ++ R4) Φ → J
  (Value.int IntKind.i64 (↑s2.size : Int)) w3

theorem Berrataref01_Reader_Left_run (rB rO : Nat) {W w : World} {R : List Own} {Φ : PW} [Stable Φ] {J : Value → World → Prop} (c : Ctx W w R Φ) (h : Berrataref01_Reader_Left rB rO W R Φ J) : Calls Tryd.prog F.errataref01_Reader_Left #[.pointer (some ⟨rB, rO, none⟩)] w fun e w' => ∃ v, e = .returned v ∧ J v w' :=
  vcFS_sound (H := { keep := some [0, 2] }) (by rw [show vcFS Tryd.prog W { keep := some [0, 2] } F.errataref01_Reader_Left #[.pointer (some ⟨rB, rO, none⟩)] R Φ J = Berrataref01_Reader_Left rB rO W R Φ J by kernel_rfl]; exact h) c

/-- (*errataref01.Reader).Text -/
def Berrataref01_Reader_Text (rB rO : Nat) (W : World) (R : List Own) (Φ : PW) (J : Value → World → Prop) : Prop :=
  ∀ (w0 : World) (R1 : List Own), Ctx W w0 (R ++ R1) Φ → Calls Tryd.prog F.errataref01_Reader_number #[Value.pointer (some (Addr.mk rB rO none)), Value.int IntKind.u8 58] w0 fun (e2 : Ending)
  (w3 : World) => ∃ (n4 : Int), e2 = Ending.returned (Value.int IntKind.i64 n4) ∧ ∃ (R5 : List Own), ∃ (Φ6 : PW), Stable Φ6 ∧ Ctx W w3 (R5 ++ R1) Φ6 ∧ ∀ (w7 : World) (R8 : List Own), Ctx W w7
  (R5 ++ R8) Φ6 → ∃ (c9 : Bool), w7.cell? (Addr.mk rB (rO + 1) none) = some (Value.bool c9) ∧ ∃ (s10 : ByteArray), ((!c9) = true → w7.cell? (Addr.mk rB rO none) = some (Value.string s10)) ∧
  Br (c9 || decide ((↑s10.size : Int) ≤ n4)) (∀ (w11 : World) (R12 : List Own), Ctx W w11 (R5 ++ R12) Φ6 → Calls Tryd.prog F.errataref01_Reader_fail #[Value.pointer (some (Addr.mk rB rO
  none))] w11 fun (e13 : Ending) (w14 : World) => ∃ (n15 : Int), e13 = Ending.returned (Value.int IntKind.i64 n15) ∧ ∃ (R16 : List Own), ∃ (Φ17 : PW), Stable Φ17 ∧ Ctx W w14 (R16 ++ R12) Φ17
  ∧ ∀ (w18 : World) (R19 : List Own), Ctx W w18 (R16 ++ R19) Φ17 → J (Value.string (ByteArray.mk #[])) w18) (∀ (w20 : World) (R21 : List Own), Ctx W w20 (R5 ++ R21) Φ6 → ∃ (s22 : ByteArray),
  w20.cell? (Addr.mk rB rO none) = some (Value.string s22) ∧ (0 ≤ n4 ∧ n4 ≤ (↑s22.size : Int)) ∧ ∀ (w23 : World) (R24 : List Own), Ctx W w23 (R5 ++ R24) Φ6 → ∃ (s25 : ByteArray), w23.cell?
  (Addr.mk rB rO none) = some (Value.string s25) ∧ (0 ≤ n4 ∧ n4 ≤ (↑s25.size : Int) ∧ s25.size ≤ s25.size) ∧ ∀ (w26 : World) (R27 : List Own), Ctx W w26 (R5 ++ R27) Φ6 → CanWrite w26 rB rO 1
  ∧ ∀ (w28 : World), w28 = w26.setCell (Addr.mk rB rO none) (Value.string (s25.extract n4.toNat s25.size)) → ∃ (R29 : List Own), ∃ (Φ30 : PW), Stable Φ30 ∧ Ctx W w28 (R29 ++ R27) Φ30 ∧ ∀ (w31
  : World) (R32 : List Own), Ctx W w31 (R29 ++ R32) Φ30 → Calls Tryd.prog F.errataref01_Reader_close #[Value.pointer (some (Addr.mk rB rO none)), Value.int IntKind.u8 44] w31 fun (e33 :
  Ending) (w34 : World) => ∃ (c35 : Bool), e33 = Ending.returned (Value.bool c35) ∧ ∃ (R36 : List Own), ∃ (Φ37 : PW), Stable Φ37 ∧ Ctx W w34 (R36 ++ R32) Φ37 ∧ Br (!c35) (∀ (w38 : World) (R39
  : List Own), Ctx W w38 (R36 ++ R39) Φ37 → J (Value.string (ByteArray.mk #[])) w38) (∀ (w40 : World) (R41 : List Own), Ctx W w40 (R36 ++ R41) Φ37 → J (Value.string (s22.extract 0 n4.toNat))
  w40))

theorem Berrataref01_Reader_Text_run (rB rO : Nat) {W w : World} {R : List Own} {Φ : PW} [Stable Φ] {J : Value → World → Prop} (c : Ctx W w R Φ) (h : Berrataref01_Reader_Text rB rO W R Φ J) : Calls Tryd.prog F.errataref01_Reader_Text #[.pointer (some ⟨rB, rO, none⟩)] w fun e w' => ∃ v, e = .returned v ∧ J v w' :=
  vcFS_sound (H := { keep := some [0, 2, 3, 4, 19, 39] }) (by rw [show vcFS Tryd.prog W { keep := some [0, 2, 3, 4, 19, 39] } F.errataref01_Reader_Text #[.pointer (some ⟨rB, rO, none⟩)] R Φ J = Berrataref01_Reader_Text rB rO W R Φ J by kernel_rfl]; exact h) c

/-- (*errataref01.Reader).Done -/
def Berrataref01_Reader_Done (rB rO : Nat) (W : World) (R : List Own) (Φ : PW) (J : Value → World → Prop) : Prop :=
  ∀ (w0 : World) (R1 : List Own), Ctx W w0 (R ++ R1) Φ → ∃ (c2 : Bool), w0.cell? (Addr.mk rB (rO + 1) none) = some (Value.bool c2) ∧ ∃ (s3 : ByteArray), ((!c2) = true → w0.cell? (Addr.mk rB
  rO none) = some (Value.string s3)) ∧ ∀ (w4 : World) (R5 : List Own), Ctx W w4 (R ++ R5) Φ → J (Value.bool (!c2 && decide (s3 = ByteArray.mk #[]))) w4

theorem Berrataref01_Reader_Done_run (rB rO : Nat) {W w : World} {R : List Own} {Φ : PW} [Stable Φ] {J : Value → World → Prop} (c : Ctx W w R Φ) (h : Berrataref01_Reader_Done rB rO W R Φ J) : Calls Tryd.prog F.errataref01_Reader_Done #[.pointer (some ⟨rB, rO, none⟩)] w fun e w' => ∃ v, e = .returned v ∧ J v w' :=
  vcFS_sound (H := { keep := some [0, 2] }) (by rw [show vcFS Tryd.prog W { keep := some [0, 2] } F.errataref01_Reader_Done #[.pointer (some ⟨rB, rO, none⟩)] R Φ J = Berrataref01_Reader_Done rB rO W R Φ J by kernel_rfl]; exact h) c

/-- errataref01.Int -/
def Berrataref01_Int (n : Int) (W : World) (R : List Own) (Φ : PW) (J : Value → World → Prop) : Prop :=
  Br (decide (n < 0)) (∀ (w0 : World) (R1 : List Own), Ctx W w0 (R ++ R1) Φ → Calls Tryd.prog F.errataref01_digits #[Value.int IntKind.i64 n] w0 fun (e2 : Ending) (w3 : World) => ∃ (s4 :
  ByteArray), e2 = Ending.returned (Value.string s4) ∧ ∃ (R5 : List Own), ∃ (Φ6 : PW), Stable Φ6 ∧ Ctx W w3 (R5 ++ R1) Φ6 ∧ ((ByteArray.mk #[OfNat.ofNat 45]).size + s4.size).le
  9223372036854775807 ∧ ((ByteArray.mk #[OfNat.ofNat 45] ++ s4).size + (ByteArray.mk #[OfNat.ofNat 59]).size).le 9223372036854775807 ∧ ∀ (w7 : World) (R8 : List Own), Ctx W w7 (R5 ++ R8) Φ6 →
  J (Value.string (ByteArray.mk #[OfNat.ofNat 45] ++ s4 ++ ByteArray.mk #[OfNat.ofNat 59])) w7) (I64 (0 - n) ∧ ∀ (w9 : World) (R10 : List Own), Ctx W w9 (R ++ R10) Φ → Calls Tryd.prog
  F.errataref01_digits #[Value.int IntKind.i64 (0 - n)] w9 fun (e11 : Ending) (w12 : World) => ∃ (s13 : ByteArray), e11 = Ending.returned (Value.string s13) ∧ ∃ (R14 : List Own), ∃ (Φ15 :
  PW), Stable Φ15 ∧ Ctx W w12 (R14 ++ R10) Φ15 ∧ (s13.size + (ByteArray.mk #[OfNat.ofNat 59]).size).le 9223372036854775807 ∧ ∀ (w16 : World) (R17 : List Own), Ctx W w16 (R14 ++ R17) Φ15 → J
  (Value.string (s13 ++ ByteArray.mk #[OfNat.ofNat 59])) w16)

theorem Berrataref01_Int_run (n : Int) {W w : World} {R : List Own} {Φ : PW} [Stable Φ] {J : Value → World → Prop} (c : Ctx W w R Φ) (h : Berrataref01_Int n W R Φ J) : Calls Tryd.prog F.errataref01_Int #[.int .i64 n] w fun e w' => ∃ v, e = .returned v ∧ J v w' :=
  vcFS_sound (H := { keep := some [0, 2, 4] }) (by rw [show vcFS Tryd.prog W { keep := some [0, 2, 4] } F.errataref01_Int #[.int .i64 n] R Φ J = Berrataref01_Int n W R Φ J by kernel_rfl]; exact h) c

/-- errataref01.Num -/
def Berrataref01_Num (n : Int) (W : World) (R : List Own) (Φ : PW) (J : Value → World → Prop) : Prop :=
  Br (decide (n < 0)) (∀ (w0 : World) (R1 : List Own), Ctx W w0 (R ++ R1) Φ → J (Value.string (ByteArray.mk #[])) w0) (∀ (w2 : World) (R3 : List Own), Ctx W w2 (R ++ R3) Φ → Calls Tryd.prog
  F.errataref01_Int #[Value.int IntKind.i64 n] w2 fun (e4 : Ending) (w5 : World) => ∃ (s6 : ByteArray), e4 = Ending.returned (Value.string s6) ∧ ∃ (R7 : List Own), ∃ (Φ8 : PW), Stable Φ8 ∧
  Ctx W w5 (R7 ++ R3) Φ8 ∧ ∀ (w9 : World) (R10 : List Own), Ctx W w9 (R7 ++ R10) Φ8 → J (Value.string s6) w9)

theorem Berrataref01_Num_run (n : Int) {W w : World} {R : List Own} {Φ : PW} [Stable Φ] {J : Value → World → Prop} (c : Ctx W w R Φ) (h : Berrataref01_Num n W R Φ J) : Calls Tryd.prog F.errataref01_Num #[.int .i64 n] w fun e w' => ∃ v, e = .returned v ∧ J v w' :=
  vcFS_sound (H := { keep := some [0, 2, 4] }) (by rw [show vcFS Tryd.prog W { keep := some [0, 2, 4] } F.errataref01_Num #[.int .i64 n] R Φ J = Berrataref01_Num n W R Φ J by kernel_rfl]; exact h) c

/-- errataref08.RecBytes -/
-- known blocks: 1 x
def Berrataref08_RecBytes (x0 : Int) (x1 : ByteArray) (W : World) (R : List Own) (Φ : PW) (J : Value → World → Prop) : Prop :=
  ∀ (b : Nat), ∃ (R0 : List Own), ∃ (Φ1 : PW), Stable Φ1 ∧ (∀ (w2 : World) (R3 : List Own), Ctx W w2 (R ++ R3) Φ → Ctx W w2 (R0 ++ R3) Φ1) ∧ ∀ (w4 : World) (R5 : List Own), Ctx W w4 (R ++ R5)
  Φ → Calls Tryd.prog F.errataref01_Int #[Value.int IntKind.i64 x0] w4 fun (e6 : Ending) (w7 : World) => ∃ (s8 : ByteArray), e6 = Ending.returned (Value.string s8) ∧ ∃ (R9 : List Own), ∃ (Φ10
  : PW), Stable Φ10 ∧ Ctx W w7 (R9 ++ R5) Φ10 ∧ (∀ (w11 : World) (R12 : List Own), Ctx W w11 (R9 ++ R12) Φ10 → Ctx W w11 (R0 ++ R12) Φ1) ∧ ∀ (w13 : World) (R14 : List Own), Ctx W w13 (R9 ++
  R14) Φ10 → Calls Tryd.prog F.errataref01_Text #[Value.string x1] w13 fun (e15 : Ending) (w16 : World) => ∃ (s17 : ByteArray), e15 = Ending.returned (Value.string s17) ∧ ∃ (R18 : List Own),
  ∃ (Φ19 : PW), Stable Φ19 ∧ Ctx W w16 (R18 ++ R14) Φ19 ∧ (s8.size + s17.size).le 9223372036854775807 ∧ ∀ (w20 : World) (R21 : List Own), Ctx W w20 (R18 ++ R21) Φ19 → J (Value.string (s8 ++
  s17)) w20

theorem Berrataref08_RecBytes_run (x0 : Int) (x1 : ByteArray) {W w : World} {R : List Own} {Φ : PW} [Stable Φ] {J : Value → World → Prop} (c : Ctx W w R Φ) (h : Berrataref08_RecBytes x0 x1 W R Φ J) : Calls Tryd.prog F.errataref08_RecBytes #[.agg #[.int .i64 x0, .string x1]] w fun e w' => ∃ v, e = .returned v ∧ J v w' :=
  vcFS_sound (H := { keep := some [1, 2], track := [1], stages := [(1, [.held [(0, true), (3, true), (1, true), (4, true), (2, false)], .stage [] (some 5), .stage [6, 7] none])] }) (by rw [show vcFS Tryd.prog W { keep := some [1, 2], track := [1], stages := [(1, [.held [(0, true), (3, true), (1, true), (4, true), (2, false)], .stage [] (some 5), .stage [6, 7] none])] } F.errataref08_RecBytes #[.agg #[.int .i64 x0, .string x1]] R Φ J = Berrataref08_RecBytes x0 x1 W R Φ J by kernel_rfl]; exact h) c

/-- (*errataref01.Reader).ahead -/
-- loop at region 2: 5 n; blocks 
def Berrataref01_Reader_ahead (rB rO : Nat) (endx : Int) (W : World) (R : List Own) (Φ : PW) (J : Value → World → Prop) : Prop :=
  exI fun (I0 : Int → List Own → PW → Nat → Prop) => (∃ (R1 : List Own), ∃ (Φ2 : PW), ∃ (k3 : Nat), Stable Φ2 ∧ (∀ (w4 : World) (R5 : List Own), Ctx W w4 (R ++ R5) Φ → Ctx W w4 (R1 ++ R5) Φ2)
  ∧ I0 0 R1 Φ2 k3) ∧ ∀ (n6 : Int) (R7 : List Own) (I8 : List Nat → World → Prop) (k9 : Nat), Stable I8 → I0 n6 R7 I8 k9 → ∀ (w10 : World) (R11 : List Own), Ctx W w10 (R7 ++ R11) I8 → ∃ (s12 :
  ByteArray), w10.cell? (Addr.mk rB rO none) = some (Value.string s12) ∧ ∃ (s13 : ByteArray), ((decide (n6 < (↑s12.size : Int)) && decide (n6 < 21)) = true → w10.cell? (Addr.mk rB rO none) =
  some (Value.string s13)) ∧ ∃ (u14 : UInt8), ((decide (n6 < (↑s12.size : Int)) && decide (n6 < 21)) = true → 0 ≤ n6 ∧ s13.data.toList.get?Internal n6.toNat = some u14) ∧ Br (decide (n6 <
  (↑s12.size : Int)) && decide (n6 < 21) && decide ((↑u14.toNat : Int) ≠ endx)) (I64 (n6 + 1) ∧ ∃ (R15 : List Own), ∃ (Φ16 : PW), ∃ (k17 : Nat), Stable Φ16 ∧ (∀ (w18 : World) (R19 : List
  Own), Ctx W w18 (R7 ++ R19) I8 → Ctx W w18 (R15 ++ R19) Φ16) ∧ I0 (n6 + 1) R15 Φ16 k17 ∧ k17 < k9) (∀ (w20 : World) (R21 : List Own), Ctx W w20 (R7 ++ R21) I8 → ∃ (s22 : ByteArray),
  w20.cell? (Addr.mk rB rO none) = some (Value.string s22) ∧ Br (decide ((↑s22.size : Int) ≤ n6)) (∀ (w23 : World) (R24 : List Own), Ctx W w23 (R7 ++ R24) I8 → Calls Tryd.prog
  F.errataref01_Reader_fail #[Value.pointer (some (Addr.mk rB rO none))] w23 fun (e25 : Ending) (w26 : World) => ∃ (n27 : Int), e25 = Ending.returned (Value.int IntKind.i64 n27) ∧ ∃ (R28 :
  List Own), ∃ (Φ29 : PW), Stable Φ29 ∧ Ctx W w26 (R28 ++ R24) Φ29 ∧ ∀ (w30 : World) (R31 : List Own), Ctx W w30 (R28 ++ R31) Φ29 → J (Value.int IntKind.i64 n27) w30) (∀ (w32 : World) (R33 :
  List Own), Ctx W w32 (R7 ++ R33) I8 → ∃ (s34 : ByteArray), w32.cell? (Addr.mk rB rO none) = some (Value.string s34) ∧ ∃ (u35 : UInt8), (0 ≤ n6 ∧ s34.data.toList.get?Internal n6.toNat = some
  u35) ∧ Br (decide ((↑u35.toNat : Int) ≠ endx)) (∀ (w36 : World) (R37 : List Own), Ctx W w36 (R7 ++ R37) I8 → Calls Tryd.prog F.errataref01_Reader_fail #[Value.pointer (some (Addr.mk rB rO
  none))] w36 fun (e38 : Ending) (w39 : World) => ∃ (n40 : Int), e38 = Ending.returned (Value.int IntKind.i64 n40) ∧ ∃ (R41 : List Own), ∃ (Φ42 : PW), Stable Φ42 ∧ Ctx W w39 (R41 ++ R37) Φ42
  ∧ ∀ (w43 : World) (R44 : List Own), Ctx W w43 (R41 ++ R44) Φ42 → J (Value.int IntKind.i64 n40) w43) (∀ (w45 : World) (R46 : List Own), Ctx W w45 (R7 ++ R46) I8 → ∃ (s47 : ByteArray),
  w45.cell? (Addr.mk rB rO none) = some (Value.string s47) ∧ (0 ≤ n6 ∧ n6 ≤ (↑s47.size : Int)) ∧ ∀ (w48 : World) (R49 : List Own), Ctx W w48 (R7 ++ R49) I8 → Calls Tryd.prog
  F.errataref01_Back #[Value.string (s47.extract 0 n6.toNat)] w48 fun (e50 : Ending) (w51 : World) => ∃ (n52 : Int), ∃ (c53 : Bool), e50 = Ending.returned (Value.tuple #[Value.int IntKind.i64
  n52, Value.bool c53]) ∧ ∃ (R54 : List Own), ∃ (Φ55 : PW), Stable Φ55 ∧ Ctx W w51 (R54 ++ R49) Φ55 ∧ Br (!c53) (∀ (w56 : World) (R57 : List Own), Ctx W w56 (R54 ++ R57) Φ55 → Calls Tryd.prog
  F.errataref01_Reader_fail #[Value.pointer (some (Addr.mk rB rO none))] w56 fun (e58 : Ending) (w59 : World) => ∃ (n60 : Int), e58 = Ending.returned (Value.int IntKind.i64 n60) ∧ ∃ (R61 :
  List Own), ∃ (Φ62 : PW), Stable Φ62 ∧ Ctx W w59 (R61 ++ R57) Φ62 ∧ ∀ (w63 : World) (R64 : List Own), Ctx W w63 (R61 ++ R64) Φ62 → J (Value.int IntKind.i64 n60) w63) (∀ (w65 : World) (R66 :
  List Own), Ctx W w65 (R54 ++ R66) Φ55 → ∃ (s67 : ByteArray), w65.cell? (Addr.mk rB rO none) = some (Value.string s67) ∧ I64 (n6 + 1) ∧ (0 ≤ n6 + 1 ∧ n6 + 1 ≤ (↑s67.size : Int) ∧ s67.size ≤
  s67.size) ∧ ∀ (w68 : World) (R69 : List Own), Ctx W w68 (R54 ++ R69) Φ55 → CanWrite w68 rB rO 1 ∧ ∀ (w70 : World), w70 = w68.setCell (Addr.mk rB rO none) (Value.string (s67.extract (n6 +
  1).toNat s67.size)) → ∃ (R71 : List Own), ∃ (Φ72 : PW), Stable Φ72 ∧ Ctx W w70 (R71 ++ R69) Φ72 ∧ ∀ (w73 : World) (R74 : List Own), Ctx W w73 (R71 ++ R74) Φ72 → J (Value.int IntKind.i64
  n52) w73))))

theorem Berrataref01_Reader_ahead_run (rB rO : Nat) (endx : Int) {W w : World} {R : List Own} {Φ : PW} [Stable Φ] {J : Value → World → Prop} (c : Ctx W w R Φ) (h : Berrataref01_Reader_ahead rB rO endx W R Φ J) : Calls Tryd.prog F.errataref01_Reader_ahead #[.pointer (some ⟨rB, rO, none⟩), .int .u8 endx] w fun e w' => ∃ v, e = .returned v ∧ J v w' :=
  vcFS_sound (H := { keep := some [0, 1, 4, 5, 6, 7, 28, 37, 47, 61], loops := [(2, [(5, .one (.int .i64))], [])] }) (by rw [show vcFS Tryd.prog W { keep := some [0, 1, 4, 5, 6, 7, 28, 37, 47, 61], loops := [(2, [(5, .one (.int .i64))], [])] } F.errataref01_Reader_ahead #[.pointer (some ⟨rB, rO, none⟩), .int .u8 endx] R Φ J = Berrataref01_Reader_ahead rB rO endx W R Φ J by kernel_rfl]; exact h) c

/-- (*errataref01.Reader).number -/
def Berrataref01_Reader_number (rB rO : Nat) (endx : Int) (W : World) (R : List Own) (Φ : PW) (J : Value → World → Prop) : Prop :=
  ∀ (w0 : World) (R1 : List Own), Ctx W w0 (R ++ R1) Φ → Calls Tryd.prog F.errataref01_Reader_ahead #[Value.pointer (some (Addr.mk rB rO none)), Value.int IntKind.u8 endx] w0 fun (e2 :
  Ending) (w3 : World) => ∃ (n4 : Int), e2 = Ending.returned (Value.int IntKind.i64 n4) ∧ ∃ (R5 : List Own), ∃ (Φ6 : PW), Stable Φ6 ∧ Ctx W w3 (R5 ++ R1) Φ6 ∧ Br (decide (n4 < 0)) (∀ (w7 :
  World) (R8 : List Own), Ctx W w7 (R5 ++ R8) Φ6 → Calls Tryd.prog F.errataref01_Reader_fail #[Value.pointer (some (Addr.mk rB rO none))] w7 fun (e9 : Ending) (w10 : World) => ∃ (n11 : Int),
  e9 = Ending.returned (Value.int IntKind.i64 n11) ∧ ∃ (R12 : List Own), ∃ (Φ13 : PW), Stable Φ13 ∧ Ctx W w10 (R12 ++ R8) Φ13 ∧ ∀ (w14 : World) (R15 : List Own), Ctx W w14 (R12 ++ R15) Φ13 →
  J (Value.int IntKind.i64 n11) w14) (∀ (w16 : World) (R17 : List Own), Ctx W w16 (R5 ++ R17) Φ6 → J (Value.int IntKind.i64 n4) w16)

theorem Berrataref01_Reader_number_run (rB rO : Nat) (endx : Int) {W w : World} {R : List Own} {Φ : PW} [Stable Φ] {J : Value → World → Prop} (c : Ctx W w R Φ) (h : Berrataref01_Reader_number rB rO endx W R Φ J) : Calls Tryd.prog F.errataref01_Reader_number #[.pointer (some ⟨rB, rO, none⟩), .int .u8 endx] w fun e w' => ∃ v, e = .returned v ∧ J v w' :=
  vcFS_sound (H := { keep := some [0, 1, 4, 5, 10] }) (by rw [show vcFS Tryd.prog W { keep := some [0, 1, 4, 5, 10] } F.errataref01_Reader_number #[.pointer (some ⟨rB, rO, none⟩), .int .u8 endx] R Φ J = Berrataref01_Reader_number rB rO endx W R Φ J by kernel_rfl]; exact h) c

/-- (*errataref01.Reader).fail -/
def Berrataref01_Reader_fail (rB rO : Nat) (W : World) (R : List Own) (Φ : PW) (J : Value → World → Prop) : Prop :=
  ∀ (w0 : World) (R1 : List Own), Ctx W w0 (R ++ R1) Φ → CanWrite w0 rB rO 1 ∧ ∀ (w2 : World), w2 = w0.setCell (Addr.mk rB rO none) (Value.string (ByteArray.mk #[])) → ∃ (R3 : List Own), ∃
  (Φ4 : PW), Stable Φ4 ∧ Ctx W w2 (R3 ++ R1) Φ4 ∧ ∀ (w5 : World) (R6 : List Own), Ctx W w5 (R3 ++ R6) Φ4 → CanWrite w5 rB (rO + 1) 1 ∧ ∀ (w7 : World), w7 = w5.setCell (Addr.mk rB (rO + 1)
  none) (Value.bool true) → ∃ (R8 : List Own), ∃ (Φ9 : PW), Stable Φ9 ∧ Ctx W w7 (R8 ++ R6) Φ9 ∧ ∀ (w10 : World) (R11 : List Own), Ctx W w10 (R8 ++ R11) Φ9 → J (Value.int IntKind.i64 0) w10

theorem Berrataref01_Reader_fail_run (rB rO : Nat) {W w : World} {R : List Own} {Φ : PW} [Stable Φ] {J : Value → World → Prop} (c : Ctx W w R Φ) (h : Berrataref01_Reader_fail rB rO W R Φ J) : Calls Tryd.prog F.errataref01_Reader_fail #[.pointer (some ⟨rB, rO, none⟩)] w fun e w' => ∃ v, e = .returned v ∧ J v w' :=
  vcFS_sound (H := { keep := some [0, 2] }) (by rw [show vcFS Tryd.prog W { keep := some [0, 2] } F.errataref01_Reader_fail #[.pointer (some ⟨rB, rO, none⟩)] R Φ J = Berrataref01_Reader_fail rB rO W R Φ J by kernel_rfl]; exact h) c

/-- (*errataref01.Reader).close -/
def Berrataref01_Reader_close (rB rO : Nat) (endx : Int) (W : World) (R : List Own) (Φ : PW) (J : Value → World → Prop) : Prop :=
  ∀ (w0 : World) (R1 : List Own), Ctx W w0 (R ++ R1) Φ → ∃ (s2 : ByteArray), w0.cell? (Addr.mk rB rO none) = some (Value.string s2) ∧ Br (decide ((↑s2.size : Int) = 0)) (∀ (w3 : World) (R4 :
  List Own), Ctx W w3 (R ++ R4) Φ → Calls Tryd.prog F.errataref01_Reader_fail #[Value.pointer (some (Addr.mk rB rO none))] w3 fun (e5 : Ending) (w6 : World) => ∃ (n7 : Int), e5 =
  Ending.returned (Value.int IntKind.i64 n7) ∧ ∃ (R8 : List Own), ∃ (Φ9 : PW), Stable Φ9 ∧ Ctx W w6 (R8 ++ R4) Φ9 ∧ ∀ (w10 : World) (R11 : List Own), Ctx W w10 (R8 ++ R11) Φ9 → J (Value.bool
  false) w10) (∀ (w12 : World) (R13 : List Own), Ctx W w12 (R ++ R13) Φ → ∃ (s14 : ByteArray), w12.cell? (Addr.mk rB rO none) = some (Value.string s14) ∧ ∃ (u15 : UInt8), ((0 : Int) ≤ 0 ∧
  s14.data.toList.get?Internal 0 = some u15) ∧ Br (decide ((↑u15.toNat : Int) ≠ endx)) (∀ (w16 : World) (R17 : List Own), Ctx W w16 (R ++ R17) Φ → Calls Tryd.prog F.errataref01_Reader_fail
  #[Value.pointer (some (Addr.mk rB rO none))] w16 fun (e18 : Ending) (w19 : World) => ∃ (n20 : Int), e18 = Ending.returned (Value.int IntKind.i64 n20) ∧ ∃ (R21 : List Own), ∃ (Φ22 : PW),
  Stable Φ22 ∧ Ctx W w19 (R21 ++ R17) Φ22 ∧ ∀ (w23 : World) (R24 : List Own), Ctx W w23 (R21 ++ R24) Φ22 → J (Value.bool false) w23) (∀ (w25 : World) (R26 : List Own), Ctx W w25 (R ++ R26) Φ
  → ∃ (s27 : ByteArray), w25.cell? (Addr.mk rB rO none) = some (Value.string s27) ∧ ((0 : Int) ≤ 1 ∧ 1 ≤ (↑s27.size : Int) ∧ s27.size ≤ s27.size) ∧ ∀ (w28 : World) (R29 : List Own), Ctx W w28
  (R ++ R29) Φ → CanWrite w28 rB rO 1 ∧ ∀ (w30 : World), w30 = w28.setCell (Addr.mk rB rO none) (Value.string (s27.extract 1 s27.size)) → ∃ (R31 : List Own), ∃ (Φ32 : PW), Stable Φ32 ∧ Ctx W
  w30 (R31 ++ R29) Φ32 ∧ ∀ (w33 : World) (R34 : List Own), Ctx W w33 (R31 ++ R34) Φ32 → J (Value.bool true) w33))

theorem Berrataref01_Reader_close_run (rB rO : Nat) (endx : Int) {W w : World} {R : List Own} {Φ : PW} [Stable Φ] {J : Value → World → Prop} (c : Ctx W w R Φ) (h : Berrataref01_Reader_close rB rO endx W R Φ J) : Calls Tryd.prog F.errataref01_Reader_close #[.pointer (some ⟨rB, rO, none⟩), .int .u8 endx] w fun e w' => ∃ v, e = .returned v ∧ J v w' :=
  vcFS_sound (H := { keep := some [0, 1, 4, 10, 19] }) (by rw [show vcFS Tryd.prog W { keep := some [0, 1, 4, 10, 19] } F.errataref01_Reader_close #[.pointer (some ⟨rB, rO, none⟩), .int .u8 endx] R Φ J = Berrataref01_Reader_close rB rO endx W R Φ J by kernel_rfl]; exact h) c

/-- errataref01.digits -/
def Berrataref01_digits (n : Int) (W : World) (R : List Own) (Φ : PW) (J : Value → World → Prop) : Prop :=
  ((10 : Int) = 0 → False) ∧ I64 (48 - n.tmod 10) ∧ ∀ (k0 : Nat) (w1 : World) (R2 : List Own), Ctx W w1 (Own.blk k0 [Value.int IntKind.u8 (IntKind.u8.wrap (48 - n.tmod 10))] 5 :: R ++ R2) Φ →
  ∃ (s3 : ByteArray), ∃ (w4 : World), Sem.run Tryd.prog (convert 93 9 (Value.slice (some (Addr.mk k0 0 none)) 1 1)) w1 = Result.ok (Value.string s3) w4 ∧ ∃ (R5 : List Own), ∃ (Φ6 : PW),
  Stable Φ6 ∧ Ctx W w4 (R5 ++ R2) Φ6 ∧ Br (decide (-10 < n)) (∀ (w7 : World) (R8 : List Own), Ctx W w7 (R5 ++ R8) Φ6 → J (Value.string s3) w7) (((10 : Int) = 0 → False) ∧ I64 (n.tdiv 10) ∧ ∀
  (w9 : World) (R10 : List Own), Ctx W w9 (R5 ++ R10) Φ6 → Calls Tryd.prog F.errataref01_digits #[Value.int IntKind.i64 (n.tdiv 10)] w9 fun (e11 : Ending) (w12 : World) => ∃ (s13 :
  ByteArray), e11 = Ending.returned (Value.string s13) ∧ ∃ (R14 : List Own), ∃ (Φ15 : PW), Stable Φ15 ∧ Ctx W w12 (R14 ++ R10) Φ15 ∧ (s13.size + s3.size).le 9223372036854775807 ∧ ∀ (w16 :
  World) (R17 : List Own), Ctx W w16 (R14 ++ R17) Φ15 → J (Value.string (s13 ++ s3)) w16)

theorem Berrataref01_digits_run (n : Int) {W w : World} {R : List Own} {Φ : PW} [Stable Φ] {J : Value → World → Prop} (c : Ctx W w R Φ) (h : Berrataref01_digits n W R Φ J) : Calls Tryd.prog F.errataref01_digits #[.int .i64 n] w fun e w' => ∃ v, e = .returned v ∧ J v w' :=
  vcFS_sound (H := { keep := some [0, 2, 3, 11] }) (by rw [show vcFS Tryd.prog W { keep := some [0, 2, 3, 11] } F.errataref01_digits #[.int .i64 n] R Φ J = Berrataref01_digits n W R Φ J by kernel_rfl]; exact h) c

/-- errataref01.Text -/
def Berrataref01_Text (s : ByteArray) (W : World) (R : List Own) (Φ : PW) (J : Value → World → Prop) : Prop :=
  I64 (0 - (↑s.size : Int)) ∧ ∀ (w0 : World) (R1 : List Own), Ctx W w0 (R ++ R1) Φ → Calls Tryd.prog F.errataref01_digits #[Value.int IntKind.i64 (0 - (↑s.size : Int))] w0 fun (e2 : Ending)
  (w3 : World) => ∃ (s4 : ByteArray), e2 = Ending.returned (Value.string s4) ∧ ∃ (R5 : List Own), ∃ (Φ6 : PW), Stable Φ6 ∧ Ctx W w3 (R5 ++ R1) Φ6 ∧ (s4.size + (ByteArray.mk #[OfNat.ofNat
  58]).size).le 9223372036854775807 ∧ ((s4 ++ ByteArray.mk #[OfNat.ofNat 58]).size + s.size).le 9223372036854775807 ∧ ((s4 ++ ByteArray.mk #[OfNat.ofNat 58] ++ s).size + (ByteArray.mk
  #[OfNat.ofNat 44]).size).le 9223372036854775807 ∧ ∀ (w7 : World) (R8 : List Own), Ctx W w7 (R5 ++ R8) Φ6 → J (Value.string (s4 ++ ByteArray.mk #[OfNat.ofNat 58] ++ s ++ ByteArray.mk
  #[OfNat.ofNat 44])) w7

theorem Berrataref01_Text_run (s : ByteArray) {W w : World} {R : List Own} {Φ : PW} [Stable Φ] {J : Value → World → Prop} (c : Ctx W w R Φ) (h : Berrataref01_Text s W R Φ J) : Calls Tryd.prog F.errataref01_Text #[.string s] w fun e w' => ∃ v, e = .returned v ∧ J v w' :=
  vcFS_sound (H := { keep := some [0, 2] }) (by rw [show vcFS Tryd.prog W { keep := some [0, 2] } F.errataref01_Text #[.string s] R Φ J = Berrataref01_Text s W R Φ J by kernel_rfl]; exact h) c

end Go.Proofs.YtfpgbejdlikpgaaDoor
end

/-
  The walks of strings.Builder, of the decimal form of ints, and of the encodings of ints and texts.
-/
section
set_option linter.unusedVariables false
set_option linter.unusedSimpArgs false
namespace Go.Proofs.YtfpgbejdlikpgaaDoor
open Go.Vc


end Go.Proofs.YtfpgbejdlikpgaaDoor
end

/-
  The encodings of ints, texts, values and rows: in plain Lean, and walked.
-/
section
set_option linter.unusedVariables false
set_option linter.unusedSimpArgs false
namespace Go.Vc
end Go.Vc
namespace Go.Proofs.YtfpgbejdlikpgaaDoor
open Go.Vc

/-! ### in plain Lean -/
def numB (n : Int) : ByteArray := ⟨(Lib.itoa n).toArray⟩
def intB (n : Int) : ByteArray := numB n ++ ByteArray.mk #[59]
def natB (n : Int) : ByteArray := if n < 0 then ByteArray.mk #[] else intB n
def textB (s : ByteArray) : ByteArray := numB s.size ++ ByteArray.mk #[58] ++ s ++ ByteArray.mk #[44]
theorem size_app (a b : ByteArray) : (a ++ b).size = a.size + b.size := ByteArray.size_append
theorem size_list (l : List UInt8) : (ByteArray.mk l.toArray).size = l.length := by simp [ByteArray.size]
theorem list_size (a : ByteArray) : a.data.toList.length = a.size := by rw [Array.length_toList]; rfl

theorem nDigits_le : ∀ (k u : Nat), u < 10 ^ k → 0 < k → Lib.nDigits u ≤ k
  | 0, u, _, h => by omega
  | k + 1, u, h, _ => by
    by_cases h1 : u < 10
    · rw [Lib.nDigits_small h1]; omega
    · rw [Lib.nDigits_big h1]
      have hk : 0 < k := by
        rcases Nat.eq_zero_or_pos k with rfl | h2
        · simp at h; omega
        · exact h2
      have := nDigits_le k (u / 10) (by rw [Nat.pow_succ] at h; omega) hk
      omega

theorem itoa_len {n : Int} (h : I64 n) : 1 ≤ (Lib.itoa n).length ∧ (Lib.itoa n).length ≤ 20 := by
  unfold I64 at h
  unfold Lib.itoa
  split
  · have h1 := nDigits_le 19 n.natAbs (by omega) (by decide)
    have h2 := Lib.nDigits_pos n.natAbs
    rw [List.length_cons, Lib.decDigits_length]; omega
  · have h1 := nDigits_le 19 n.toNat (by omega) (by decide)
    have h2 := Lib.nDigits_pos n.toNat
    rw [Lib.decDigits_length]; omega

theorem numB_size {n : Int} (h : I64 n) : 1 ≤ (numB n).size ∧ (numB n).size ≤ 20 := by
  unfold numB; rw [size_list]; exact itoa_len h
theorem intB_size {n : Int} (h : I64 n) : 2 ≤ (intB n).size ∧ (intB n).size ≤ 21 := by
  have := numB_size h
  have e : (ByteArray.mk #[59]).size = 1 := rfl
  unfold intB; rw [size_app, e]; omega
theorem natB_size {n : Int} (h : I64 n) : (natB n).size ≤ 21 := by
  unfold natB
  split
  · exact Nat.zero_le _
  · exact (intB_size h).2
theorem textB_size {s : ByteArray} (h : s.size ≤ 9223372036854775807) : (textB s).size ≤ s.size + 22 ∧ s.size + 3 ≤ (textB s).size := by
  have := numB_size (n := s.size) (by unfold I64; omega)
  have e : (ByteArray.mk #[58]).size = 1 := rfl
  have e2 : (ByteArray.mk #[44]).size = 1 := rfl
  unfold textB; rw [size_app, size_app, size_app, e, e2]; omega
/-! ### walked -/
abbrev tabN : String := ((Rows.replicaBackRow.laid.map Prod.fst).drop 2).headD default
/-- the table of the powers of ten lies there -/
abbrev TabI : PW := Tab Tryd.prog tabN .u64 Lib.pow10Tab

theorem Itoa_in {Φ : PW} [Stable Φ] (hΦ : ∀ M w, Φ M w → TabI M w) (n : Int) (h : I64 n) : GivesIn Φ Tryd.prog F.strconv_Itoa #[.int .i64 n] (.string (numB n)) :=
  itoa_in (name := tabN) (fun n h0 h1 w ht => Any.strconv_Itoa Tryd.laysM171 n h0 h1 w ht) hΦ n h

theorem Itoa_small (i : Nat) (hi : i < 100) : Gives Tryd.prog F.strconv_Itoa #[.int .i64 i] (.string (numB i)) :=
  Quiet.gives ⟨fun w => by
    have h := Any.strconv_Itoa_small { Tryd.lays171 with } i hi w
    rw [← Lib.itoa_nonneg] at h
    exact h⟩

/-- ints that the library writes: at these places, or small ones -/
def Dec (Φ : PW) (n : Int) : Prop := (∀ M w, Φ M w → TabI M w) ∧ I64 n ∨ ∃ i : Nat, i < 100 ∧ n = i

theorem Itoa_dec {Φ : PW} [Stable Φ] {n : Int} (h : Dec Φ n) : GivesIn Φ Tryd.prog F.strconv_Itoa #[.int .i64 n] (.string (numB n)) := by
  rcases h with ⟨h1, h2⟩ | ⟨i, hi, rfl⟩
  · exact Itoa_in h1 n h2
  · exact (Itoa_small i hi).in
theorem Dec.i64 {Φ : PW} {n : Int} (h : Dec Φ n) : I64 n := by
  rcases h with ⟨_, h2⟩ | ⟨i, hi, rfl⟩
  · exact h2
  · unfold I64; omega

theorem Int_in {Φ : PW} [Stable Φ] {n : Int} (h : Dec Φ n) : GivesIn Φ Tryd.prog F.wire_Int #[.int .i64 n] (.string (intB n)) := by
  refine gives_in (Bwire_Int_run n) fun W R => ?_
  have := numB_size h.i64
  exact fun w G cx => (Itoa_dec h).use cx fun w cx => ⟨_, rfl, R, Φ, inferInstance, cx, by show (numB n).size + 1 ≤ _; omega, fun w G cx => ⟨rfl, cx.left⟩⟩

theorem Num_in {Φ : PW} [Stable Φ] {n : Int} (h : Dec Φ n) : GivesIn Φ Tryd.prog F.wire_Num #[.int .i64 n] (.string (natB n)) := by
  refine gives_in (Bwire_Num_run n) fun W R => Br.intro (fun hn => fun w G cx => ⟨?_, cx.left⟩) (fun hn => fun w G cx => (Int_in h).use cx fun w cx => ⟨_, rfl, R, Φ, inferInstance, cx, fun w G cx => ⟨?_, cx.left⟩⟩)
  · unfold natB; rw [if_pos (of_decide_eq_true hn)]
  · unfold natB; rw [if_neg (of_decide_eq_false hn)]

theorem Text_in {Φ : PW} [Stable Φ] {s : ByteArray} (h : Dec Φ s.size) (hs : s.size ≤ 1000000000000000) : GivesIn Φ Tryd.prog F.wire_Text #[.string s] (.string (textB s)) := by
  refine gives_in (Bwire_Text_run s) fun W R => ?_
  have h1 := numB_size h.i64
  have e : (ByteArray.mk #[58]).size = 1 := rfl
  have e2 : (ByteArray.mk #[44]).size = 1 := rfl
  exact fun w G cx => (Itoa_dec h).use cx fun w cx => ⟨_, rfl, R, Φ, inferInstance, cx, by show (numB s.size).size + 1 ≤ _; omega, by show (numB s.size ++ ByteArray.mk #[58]).size + s.size ≤ _; rw [size_app, e]; omega, by show (numB s.size ++ ByteArray.mk #[58] ++ s).size + 1 ≤ _; rw [size_app, size_app, e]; omega, fun w G cx => ⟨rfl, cx.left⟩⟩

end Go.Proofs.YtfpgbejdlikpgaaDoor
end

/-
  STEPS of a walk: a call whose contract is known, and what follows it.
-/
section
set_option linter.unusedVariables false
set_option linter.unusedSimpArgs false
namespace Go.Vc

section
variable {P : Program} {W w : World} {R G : List Own} {Φ Ψ : PW} {f : FuncId} {args : Array Value}

/-- what is known holds this, too -/
class Has (Φ Ψ : PW) : Prop where
  go : ∀ M w, Φ M w → Ψ M w
instance (priority := 2000) hasRefl (Φ : PW) : Has Φ Φ := ⟨fun _ _ h => h⟩
instance (priority := 900) hasL (A B Ψ : PW) [h : Has A Ψ] : Has (fun M w => A M w ∧ B M w) Ψ := ⟨fun M w x => h.go M w x.1⟩
instance (priority := 1000) hasR (A B Ψ : PW) [h : Has B Ψ] : Has (fun M w => A M w ∧ B M w) Ψ := ⟨fun M w x => h.go M w x.2⟩
instance hasTrue (Φ : PW) : Has Φ (fun _ _ => True) := ⟨fun _ _ _ => trivial⟩
instance (priority := 800) hasAnd (Φ A B : PW) [h : Has Φ A] [k : Has Φ B] : Has Φ (fun M w => A M w ∧ B M w) := ⟨fun M w x => ⟨h.go M w x, k.go M w x⟩⟩

theorem Ctx.has (c : Ctx W w R Φ) [h : Has Φ Ψ] : Ctx W w R Ψ := c.weak h.go

theorem GivesSl.to [Stable Φ] {α : Type} [Gv α] {l : List α} (h : GivesSl Φ P f args l id) (c : Ctx W w (R ++ G) Φ) {K : Option Addr → Nat → Nat → List Own → PW → Prop}
    (hk : ∀ p cap, l.length ≤ cap → cap ≤ maxLen → Stable (fun M w => Φ M w ∧ Sl M w p l) → K p l.length cap R (fun M w => Φ M w ∧ Sl M w p l)) :
    Calls P f args w fun e w' => ∃ p n c, e = .returned (.slice p n c) ∧ ∃ R' Φ', Stable Φ' ∧ Ctx W w' (R' ++ G) Φ' ∧ K p n c R' Φ' :=
  h.use c fun p cap w' h1 h2 c => ⟨p, _, cap, rfl, R, _, inferInstance, c, hk p cap h1 h2 inferInstance⟩

theorem GivesIn.toB [Stable Φ] {b : Bool} (h : GivesIn Φ P f args (.bool b)) (c : Ctx W w (R ++ G) Φ) {K : Bool → List Own → PW → Prop} (hk : K b R Φ) :
    Calls P f args w fun e w' => ∃ c, e = .returned (.bool c) ∧ ∃ R' Φ', Stable Φ' ∧ Ctx W w' (R' ++ G) Φ' ∧ K c R' Φ' :=
  h.use c fun w' c => ⟨b, rfl, R, Φ, inferInstance, c, hk⟩
theorem GivesIn.toI [Stable Φ] {n : Int} {k : IntKind} (h : GivesIn Φ P f args (.int k n)) (c : Ctx W w (R ++ G) Φ) {K : Int → List Own → PW → Prop} (hk : K n R Φ) :
    Calls P f args w fun e w' => ∃ c, e = .returned (.int k c) ∧ ∃ R' Φ', Stable Φ' ∧ Ctx W w' (R' ++ G) Φ' ∧ K c R' Φ' :=
  h.use c fun w' c => ⟨n, rfl, R, Φ, inferInstance, c, hk⟩
theorem GivesIn.toS [Stable Φ] {s : ByteArray} (h : GivesIn Φ P f args (.string s)) (c : Ctx W w (R ++ G) Φ) {K : ByteArray → List Own → PW → Prop} (hk : K s R Φ) :
    Calls P f args w fun e w' => ∃ c, e = .returned (.string c) ∧ ∃ R' Φ', Stable Φ' ∧ Ctx W w' (R' ++ G) Φ' ∧ K c R' Φ' :=
  h.use c fun w' c => ⟨s, rfl, R, Φ, inferInstance, c, hk⟩

/-- the end -/
theorem fin [Stable Φ] [Stable Ψ] [hw : Has Ψ Φ] {v : Value} (c : Ctx W w (R ++ G) Ψ) : v = v ∧ Ctx W w R Φ := ⟨rfl, (Ctx.has c).left⟩

end
end Go.Vc
end

/-
  The reader of encodings: in plain Lean, and walked.
-/
section
set_option linter.unusedVariables false
set_option linter.unusedSimpArgs false
namespace Go.Vc
/-- a variable that holds an error, or none, in a block that nobody writes -/
def ErrAt (g : Nat) : PW := fun M w => g ∉ M ∧ ∃ ev, w.cell? ⟨g, 0, none⟩ = some ev ∧ (ev = .nilIface ∨ ∃ te pe, ev = .iface te pe)
instance instStableErrAt (g : Nat) : Stable (ErrAt g) := ⟨fun {M M' w w'} hs ⟨h1, ev, h2, h3⟩ => by
  have hlt : g < w.heap.size := by
    rcases Nat.lt_or_ge g w.heap.size with h' | h'
    · exact h'
    · simp [World.cell?, Array.getElem?_eq_none h'] at h2
  refine ⟨fun hm => ?_, ev, hs.chg.cell h2 h1, h3⟩
  rcases hs.sub g hm with h | h
  · exact h1 h
  · omega⟩
theorem chg_below {w w' : World} (h : Go.RowKit.Below w.heap.size w w') : Chg [] w w' := ⟨h.os, h.tape, h.output, h.size, fun k hk _ => h.block k hk⟩
theorem eqGuard_iface {P : Program} {op : BinOp} {t : TypeId} {ox oy : Operand} {u : TypeId} {v : Value} (w : World) : (eqGuard op t ox oy (.iface u v) .nilIface).run P w = .ok () w := by
  unfold eqGuard
  cases op <;> rfl
theorem eqGuard_nil {P : Program} {op : BinOp} {t : TypeId} {k : Nat} {v : Value} (w : World) : (eqGuard op t (.tmp k) (.const v) .nilIface .nilIface).run P w = .ok () w := by
  unfold eqGuard
  cases op <;> rfl
theorem neq_nil {P : Program} {op : BinOp} {t t' : TypeId} {k : Nat} {v : Value} (ht : P.isIface t' = true) (w : World) : ((eqGuard op t (.tmp k) (.const v) .nilIface .nilIface) >>= fun _ => binOp .neq t' .nilIface .nilIface).run P w = .ok (.bool false) w := by
  rw [Sem.run_bind, eqGuard_nil]
  exact Go.run_neq_nil_nil_at w t' ht
theorem neq_err {P : Program} {op : BinOp} {t t' : TypeId} {ox oy : Operand} {u : TypeId} {v : Value} (ht : P.isIface t' = true) (w : World) : ((eqGuard op t ox oy (.iface u v) .nilIface) >>= fun _ => binOp .neq t' (.iface u v) .nilIface).run P w = .ok (.bool true) w := by
  rw [Sem.run_bind, eqGuard_iface]
  exact Go.run_neq_iface_nil w t' ht u v
end Go.Vc
namespace Go.Proofs.YtfpgbejdlikpgaaDoor
open Go.Vc


/-- what the reading of numbers looks at -/
def NumI : PW := fun M w => TabI M w ∧ ErrAt 1 M w ∧ ErrAt 2 M w
instance instStableNumI : Stable NumI := instStableAnd TabI (fun M w => ErrAt 1 M w ∧ ErrAt 2 M w)

/-! ### in plain Lean -/
def bs (l : List UInt8) : ByteArray := ⟨l.toArray⟩
theorem bs_list (l : List UInt8) : (bs l).data.toList = l := rfl
theorem bs_size (l : List UInt8) : (bs l).size = l.length := size_list l
theorem bs_ext (l : List UInt8) (a b : Nat) : (bs l).extract a b = bs ((l.drop a).take (b - a)) := by
  apply ByteArray.ext
  apply Array.toList_inj.1
  rw [ByteArray.data_extract, Array.toList_extract]
  rfl
theorem bs_inj {a b : List UInt8} : bs a = bs b ↔ a = b := ⟨fun h => by have := congrArg (fun x => x.data.toList) h; exact this, fun h => by rw [h]⟩
theorem bs_of (s : ByteArray) : bs s.data.toList = s := rfl

/-- what is left, and whether it has failed -/
abbrev RdS := List UInt8 × Bool
def numP (e : UInt8) (least : Int) (l : List UInt8) : Option (Int × List UInt8) :=
  let i := Lib.indexByte (l.take 21) e
  if i < 0 then none else match Lib.atoiAll (l.take i.toNat) with
    | .ok n => if Lib.itoa n = l.take i.toNat ∧ least ≤ n then some (n, l.drop (i.toNat + 1)) else none
    | _ => none
def stepN (e : UInt8) (least : Int) (st : RdS) : Int × RdS := match numP e least st.1 with
  | some (n, r) => (n, (r, st.2))
  | none => (0, ([], true))
def stepC (c : UInt8) (st : RdS) : RdS := match st.1 with
  | [] => ([], true)
  | x :: r => if x = c then (r, st.2) else ([], true)
def stepT (st : RdS) : ByteArray × RdS :=
  let a := stepN 58 0 st
  if (a.2.1.length : Int) < a.1 then (ByteArray.mk #[], ([], true)) else
    let c := stepC 44 (a.2.1.drop a.1.toNat, a.2.2)
    (if c.2 then ByteArray.mk #[] else bs (a.2.1.take a.1.toNat), c)

theorem at_of_split {l r : List UInt8} {i : Nat} {e : UInt8} (h : l.take i ++ e :: r = l) (hi : i < l.length) : l[i]? = some e := by
  have hl : (l.take i).length = i := by rw [List.length_take]; omega
  rw [← h, List.getElem?_append_right (by omega), hl, Nat.sub_self]
  rfl
theorem index_neg : ∀ (l : List UInt8) (c : UInt8), -1 ≤ Lib.indexByte l c ∧ (Lib.indexByte l c = -1 ∨ (0 ≤ Lib.indexByte l c ∧ Lib.indexByte l c < l.length ∧ l.take (Lib.indexByte l c).toNat ++ c :: l.drop ((Lib.indexByte l c).toNat + 1) = l ∧ c ∉ l.take (Lib.indexByte l c).toNat))
  | [], c => by simp [Lib.indexByte]
  | b :: l, c => by
    have ih := index_neg l c
    unfold Lib.indexByte
    by_cases hb : (b == c) = true
    · rw [if_pos hb]
      have : b = c := by simpa using hb
      subst this
      refine ⟨by omega, .inr ⟨by omega, by simp, by simp, by simp⟩⟩
    · rw [if_neg hb]
      by_cases h1 : (Lib.indexByte l c == -1) = true
      · rw [if_pos h1]; exact ⟨by omega, .inl rfl⟩
      · rw [if_neg h1]
        have h1 : Lib.indexByte l c ≠ -1 := by simpa using h1
        obtain ⟨h2, h3⟩ := ih
        rcases h3 with h3 | ⟨h3, h4, h5, h6⟩
        · exact absurd h3 h1
        · have e : (Lib.indexByte l c + 1).toNat = (Lib.indexByte l c).toNat + 1 := by omega
          refine ⟨by omega, .inr ⟨by omega, by simp; omega, ?_, ?_⟩⟩
          · rw [e, List.take_succ_cons, List.drop_succ_cons, List.cons_append, h5]
          · rw [e, List.take_succ_cons, List.mem_cons, not_or]
            exact ⟨fun e => hb (by simp [e]), h6⟩

theorem index_least {l : List UInt8} {c : UInt8} {a r : List UInt8} (hl : l = a ++ c :: r) (hc : c ∉ a) : Lib.indexByte l c = a.length := by
  subst hl
  induction a with
  | nil => simp [Lib.indexByte]
  | cons b a ih =>
    have hb : b ≠ c := fun e => hc (by simp [e])
    have ih := ih fun h => hc (by simp [h])
    rw [List.cons_append]
    unfold Lib.indexByte
    rw [if_neg (by simpa using hb), if_neg (by rw [ih]; simp), ih]
    simp

/-- digits and the sign -/
theorem digits_chars : ∀ (u : Nat), ∀ c ∈ Lib.decDigits u, 48 ≤ c.toNat ∧ c.toNat ≤ 57 := by
  intro u
  induction u using Nat.strongRecOn with
  | _ u ih =>
    intro c hc
    rw [Lib.decDigits] at hc
    split at hc
    · rename_i h
      rw [List.mem_singleton] at hc
      subst hc
      have : (UInt8.ofNat (48 + u)).toNat = 48 + u := by simp; omega
      omega
    · rename_i h
      rcases List.mem_append.1 hc with hc | hc
      · exact ih (u / 10) (by omega) c hc
      · rw [List.mem_singleton] at hc
        subst hc
        have : (UInt8.ofNat (48 + u % 10)).toNat = 48 + u % 10 := by simp; omega
        omega
theorem itoa_chars {n : Int} {c : UInt8} (h : c ∈ Lib.itoa n) : c.toNat = 45 ∨ 48 ≤ c.toNat ∧ c.toNat ≤ 57 := by
  unfold Lib.itoa at h
  split at h
  · rcases List.mem_cons.1 h with rfl | h
    · left; rfl
    · right; exact digits_chars _ c h
  · right; exact digits_chars _ c h

/-! ### the decimal form, read back -/
def digV (acc : Nat) (l : List UInt8) : Nat := l.foldl (fun a c => a * 10 + (c.toNat - 48)) acc
theorem digV_snoc (acc : Nat) (l : List UInt8) (c : UInt8) : digV acc (l ++ [c]) = digV acc l * 10 + (c.toNat - 48) := by simp [digV]
theorem digV_dec : ∀ u : Nat, digV 0 (Lib.decDigits u) = u := by
  intro u
  induction u using Nat.strongRecOn with
  | _ u ih =>
    rw [Lib.decDigits]
    split
    · rename_i h
      show 0 * 10 + ((UInt8.ofNat (48 + u)).toNat - 48) = u
      have : (UInt8.ofNat (48 + u)).toNat = 48 + u := by simp; omega
      omega
    · rename_i h
      rw [digV_snoc, ih (u / 10) (by omega)]
      have : (UInt8.ofNat (48 + u % 10)).toNat = 48 + u % 10 := by simp; omega
      omega
theorem digV_mono : ∀ (l : List UInt8) (acc : Nat), acc ≤ digV acc l
  | [], acc => Nat.le_refl _
  | c :: l, acc => by
    have := digV_mono l (acc * 10 + (c.toNat - 48))
    show acc ≤ digV (acc * 10 + (c.toNat - 48)) l
    omega
theorem parse_dig : ∀ (l : List UInt8) (acc : Nat), (∀ c ∈ l, 48 ≤ c.toNat ∧ c.toNat ≤ 57) → digV acc l < 18446744073709551616 → Lib.parseUint10 acc l = .ok (digV acc l)
  | [], acc, _, _ => rfl
  | c :: l, acc, hc, h => by
    have h0 := hc c (by simp)
    have hm := digV_mono l (acc * 10 + (c.toNat - 48))
    have e : digV acc (c :: l) = digV (acc * 10 + (c.toNat - 48)) l := rfl
    rw [e] at h ⊢
    unfold Lib.parseUint10
    rw [if_pos h0, if_neg (by omega), if_neg (by omega)]
    exact parse_dig l _ (fun d hd => hc d (by simp [hd])) h

theorem dec_ne (u : Nat) : Lib.decDigits u ≠ [] := by
  intro e
  have h1 := Lib.decDigits_length u
  have h2 := Lib.nDigits_pos u
  rw [e] at h1
  simp at h1
  omega
theorem mag_dec {u : Nat} (h : u < 18446744073709551616) : Lib.parseMag (Lib.decDigits u) = .ok u := by
  unfold Lib.parseMag
  rw [if_neg (dec_ne u), parse_dig _ 0 (digits_chars u) (by rw [digV_dec]; exact h), digV_dec]

theorem atoi_itoa {n : Int} (h : I64 n) : Lib.atoiAll (Lib.itoa n) = .ok n := by
  unfold I64 at h
  unfold Lib.itoa
  split
  · rename_i hn
    have hm := mag_dec (u := n.natAbs) (by omega)
    unfold Lib.atoiAll
    simp only
    rw [if_pos (.inr rfl), hm]
    simp only
    have e45 : (45 : UInt8).toNat = 45 := rfl
    rw [if_neg (by intro h; exact h.1 e45), if_neg (by intro h; omega), if_pos e45]
    congr 1
    omega
  · rename_i hn
    have hm := mag_dec (u := n.toNat) (by omega)
    obtain ⟨c, r, hcr⟩ : ∃ c r, Lib.decDigits n.toNat = c :: r := by
      cases hd : Lib.decDigits n.toNat with
      | nil => exact absurd hd (dec_ne _)
      | cons c r => exact ⟨c, r, rfl⟩
    have h0 := digits_chars n.toNat c (by rw [hcr]; simp)
    rw [hcr] at hm ⊢
    unfold Lib.atoiAll
    simp only
    rw [if_neg (by omega), hm]
    simp only
    rw [if_neg (by omega), if_neg (by omega), if_neg (by omega)]
    congr 1
    omega

/-- what a number's reading says -/
theorem numP_iff {e : UInt8} (he : e.toNat = 58 ∨ e.toNat = 59 ∨ e.toNat = 91) {least : Int} {l : List UInt8} {n : Int} {r : List UInt8} : numP e least l = some (n, r) ↔ (I64 n ∧ least ≤ n) ∧ l = Lib.itoa n ++ e :: r := by
  have hne : ∀ n : Int, e ∉ Lib.itoa n := fun n h => by have := itoa_chars h; omega
  constructor
  · intro h
    unfold numP at h
    simp only at h
    split at h
    · cases h
    · rename_i hi
      split at h
      · rename_i m hm
        split at h
        · rename_i hc
          cases h
          have hb := Lib.atoiAll_bounds hm
          obtain ⟨_, h3⟩ := index_neg (l.take 21) e
          rcases h3 with h3 | ⟨h3, h4, h5, h6⟩
          · omega
          · refine ⟨⟨by unfold I64; omega, hc.2⟩, ?_⟩
            rw [hc.1]
            have hlt : (Lib.indexByte (l.take 21) e).toNat < (l.take 21).length := by omega
            have hlt2 : (Lib.indexByte (l.take 21) e).toNat < l.length := by rw [List.length_take] at hlt; omega
            have hg : l[(Lib.indexByte (l.take 21) e).toNat] = e := by
              have h7 : (l.take 21)[(Lib.indexByte (l.take 21) e).toNat]? = some e := at_of_split h5 (by omega)
              rw [List.getElem?_take_of_lt (by rw [List.length_take] at hlt; omega), List.getElem?_eq_getElem hlt2] at h7
              exact Option.some.inj h7
            conv => lhs; rw [← List.take_append_drop (Lib.indexByte (l.take 21) e).toNat l, List.drop_eq_getElem_cons hlt2, hg]
        · cases h
      · cases h
  · rintro ⟨⟨h1, h2⟩, rfl⟩
    have hlen := itoa_len h1
    have ht : (Lib.itoa n ++ e :: r).take 21 = Lib.itoa n ++ e :: r.take (20 - (Lib.itoa n).length) := by
      rw [List.take_append, List.take_of_length_le (by omega)]
      congr 1
      rw [show 21 - (Lib.itoa n).length = (20 - (Lib.itoa n).length) + 1 by omega, List.take_succ_cons]
    have hi := index_least ht (hne n)
    unfold numP
    simp only
    rw [hi, if_neg (by omega), Int.toNat_natCast, List.take_left', atoi_itoa h1]
    · simp only
      rw [if_pos ⟨by simp, h2⟩]
      congr 2
      rw [List.drop_append, List.drop_of_length_le (by omega), List.nil_append, show (Lib.itoa n).length + 1 - (Lib.itoa n).length = 1 by omega]
      rfl
    · rfl

/-! ### walked -/
abbrev rd (b : Nat) (st : RdS) : Own := .blk b [.string (bs st.1), .bool st.2] 73

section
variable {W w : World} {R G S : List Own} {Φ : PW} {b : Nat} {st : RdS}

theorem Open_use [Stable Φ] (l : List UInt8) (c : Ctx W w S Φ) {K : Ending → World → Prop} (hk : ∀ b w', Ctx W w' (rd b (l, false) :: S) Φ → K (.returned (.pointer (some ⟨b, 0, none⟩))) w') :
    Calls Tryd.prog F.wire_Open #[.string (bs l)] w K := by
  refine (Bwire_Open_run (bs l) (J := fun u w' => K (.returned u) w') c ?_).mono fun e w' ⟨v, he, hj⟩ => by rw [he]; exact hj
  exact fun b w G cx => hk b w (Ctx.left (S := rd b (l, false) :: S) cx)

theorem fail_use [Stable Φ] (c : Ctx W w (rd b st :: S) Φ) {K : Ending → World → Prop} (hk : ∀ w', Ctx W w' (rd b ([], true) :: S) Φ → K (.returned (.tuple #[])) w') :
    Calls Tryd.prog F.wire_Reader_fail #[.pointer (some ⟨b, 0, none⟩)] w K := by
  refine (Bwire_Reader_fail_run b 0 (J := fun u w' => K (.returned u) w') c ?_).mono fun e w' ⟨v, he, hj⟩ => by rw [he]; exact hj
  refine fun w G cx => ⟨cx.can 0 rfl (by simp), fun w' hw' => ⟨.blk b [.string (bs []), .bool st.2] 73 :: S, Φ, inferInstance, cx.put 0 hw' rfl, fun w G cx => ⟨cx.can 0 rfl (by simp), fun w' hw' => ⟨rd b ([], true) :: S, Φ, inferInstance, cx.put 0 hw' rfl, fun w G cx => hk w cx.left⟩⟩⟩⟩

theorem fail_to [Stable Φ] (c : Ctx W w (rd b st :: S ++ G) Φ) {K : List Own → PW → Prop} (hk : K (rd b ([], true) :: S) Φ) :
    Calls Tryd.prog F.wire_Reader_fail #[.pointer (some ⟨b, 0, none⟩)] w fun e w' => e = .returned (.tuple #[]) ∧ ∃ R' Φ', Stable Φ' ∧ Ctx W w' (R' ++ G) Φ' ∧ K R' Φ' :=
  fail_use (S := S ++ G) c fun w' c => ⟨rfl, rd b ([], true) :: S, Φ, inferInstance, c, hk⟩

theorem index_g (s : ByteArray) (c : Int) : Gives Tryd.prog F.strings_IndexByte #[.string s, .int .u8 c] (.int .i64 (Lib.indexByte s.data.toList c.toNat.toUInt8)) :=
  Quiet.gives ⟨fun w => Any.strings_IndexByte Tryd.lays137 s c w⟩

theorem atoi_to [Stable Φ] (h1 : ∀ M w, Φ M w → ErrAt 1 M w) (h2 : ∀ M w, Φ M w → ErrAt 2 M w) (s : ByteArray) (hs : s.size ≤ 1000000) (c : Ctx W w (R ++ G) Φ) {K1 : Int → List Own → PW → Prop} {K2 : Int → TypeId → Value → List Own → PW → Prop}
    (k1 : ∀ n, Lib.atoiAll s.data.toList = .ok n → K1 n R Φ) (k2 : ∀ n t v, (∀ m, Lib.atoiAll s.data.toList ≠ .ok m) → K2 n t v R Φ) :
    Calls Tryd.prog F.strconv_Atoi #[.string s] w fun e w' => (∃ n : Int, e = .returned (.tuple #[.int .i64 n, .nilIface]) ∧ ∃ R' Φ', Stable Φ' ∧ Ctx W w' (R' ++ G) Φ' ∧ K1 n R' Φ') ∨
      ∃ (n : Int) (t : TypeId) (v : Value), e = .returned (.tuple #[.int .i64 n, .iface t v]) ∧ ∃ R' Φ', Stable Φ' ∧ Ctx W w' (R' ++ G) Φ' ∧ K2 n t v R' Φ' := by
  obtain ⟨_, ev, hv, hev⟩ := h1 _ _ c.phi
  obtain ⟨_, er, hr, her⟩ := h2 _ _ c.phi
  cases h : Lib.atoiAll s.data.toList
  · rename_i n
    refine (Any.strconv_Atoi_ok Tryd.laysC172 s (by omega) n h w).mono fun e w' ⟨he, hw⟩ => .inl ⟨n, he, R, Φ, inferInstance, ?_, k1 n h⟩
    rcases hw with rfl | ⟨t, rfl⟩
    · exact c
    · exact c.call (chg_below (Lib.bytesWorld_below _ _ _))
  · exact (Any.strconv_Atoi_syntax Tryd.laysC172 s (by omega) h ev w hv hev).mono fun e w' ⟨N, he, _, _, hb⟩ => .inr ⟨_, _, _, he, R, Φ, inferInstance, c.call (chg_below hb), k2 _ _ _ fun m hm => by rw [h] at hm; cases hm⟩
  · exact (Any.strconv_Atoi_range Tryd.laysC172 s (by omega) h er w hr her).mono fun e w' ⟨N, he, _, _, hb⟩ => .inr ⟨_, _, _, he, R, Φ, inferInstance, c.call (chg_below hb), k2 _ _ _ fun m hm => by rw [h] at hm; cases hm⟩

theorem stepN_none {e : UInt8} {least : Int} (h : numP e least st.1 = none) : stepN e least st = (0, ([], true)) := by unfold stepN; rw [h]
theorem stepN_some {e : UInt8} {least n : Int} {r : List UInt8} (h : numP e least st.1 = some (n, r)) : stepN e least st = (n, (r, st.2)) := by unfold stepN; rw [h]

set_option maxHeartbeats 2000000 in
theorem number_use [Stable Φ] (hΦ : ∀ M w, Φ M w → NumI M w) (e : Int) (least : Int) (hl : st.1.length ≤ 1000000000000000) (c : Ctx W w (rd b st :: S) Φ) {K : Ending → World → Prop}
    (hk : ∀ w', Ctx W w' (rd b (stepN e.toNat.toUInt8 least st).2 :: S) Φ → K (.returned (.int .i64 (stepN e.toNat.toUInt8 least st).1)) w') :
    Calls Tryd.prog F.wire_Reader_number #[.pointer (some ⟨b, 0, none⟩), .int .u8 e, .int .i64 least] w K := by
  refine (Bwire_Reader_number_run b 0 e least (J := fun u w' => K (.returned u) w') c ?_).mono fun e w' ⟨v, he, hj⟩ => by rw [he]; exact hj
  clear c
  obtain ⟨l, bad⟩ := st
  simp only at hl
  have hsz : (bs l).size = l.length := bs_size l
  have hmin : (min ((bs l).size : Int) 21).toNat = min l.length 21 := by rw [hsz]; omega
  have hhead : (bs l).extract 0 (min ((bs l).size : Int) 21).toNat = bs (l.take 21) := by
    rw [hmin, bs_ext, List.drop_zero, Nat.sub_zero]
    congr 1
    rcases Nat.le_total l.length 21 with h | h
    · rw [Nat.min_eq_left h, List.take_of_length_le (Nat.le_refl _), List.take_of_length_le h]
    · rw [Nat.min_eq_right h]
  refine fun w G cx => ⟨bs l, cx.get 0 rfl rfl, bs l, cx.get 0 rfl rfl, by omega, fun w G cx => ?_⟩
  rw [hhead]
  refine (index_g (bs (l.take 21)) e).in.toI (R := rd b (l, bad) :: S) cx ?_
  rw [bs_list]
  obtain ⟨i, hi⟩ : ∃ i, Lib.indexByte (l.take 21) e.toNat.toUInt8 = i := ⟨_, rfl⟩
  obtain ⟨hge, hidx⟩ := index_neg (l.take 21) e.toNat.toUInt8
  rw [hi] at hge hidx ⊢
  have failK : numP e.toNat.toUInt8 least l = none → ∀ (w : World) (G : List Own), Ctx W w (rd b (l, bad) :: S ++ G) Φ → Calls Tryd.prog F.wire_Reader_fail #[.pointer (some ⟨b, 0, none⟩)] w fun e w' => e = .returned (.tuple #[]) ∧ ∃ R' Φ', Stable Φ' ∧ Ctx W w' (R' ++ G) Φ' ∧ ∀ w F1, Ctx W w (R' ++ F1) Φ' → K (.returned (.int .i64 0)) w := fun hn w G cx => by
    rw [stepN_none (st := (l, bad)) hn] at hk
    exact fail_to (S := S) cx fun w F1 cx => hk w cx.left
  refine Br.intro (fun hneg => fun w G cx => failK ?_ w G cx) (fun hpos => ?_)
  · unfold numP
    simp only [hi]
    rw [if_pos (of_decide_eq_true hneg)]
  have hpos := of_decide_eq_false hpos
  rcases hidx with hidx | ⟨_, hlt, _, _⟩
  · omega
  have hlt2 : i.toNat < (l.take 21).length := by omega
  have hll : (l.take 21).length ≤ l.length := by rw [List.length_take]; omega
  have h21 : (l.take 21).length ≤ 21 := by rw [List.length_take]; omega
  have hhd : (bs (l.take 21)).extract 0 i.toNat = bs (l.take i.toNat) := by
    rw [bs_ext, List.drop_zero, Nat.sub_zero, List.take_take, Nat.min_eq_left (by omega)]
  refine ⟨⟨by omega, by rw [bs_size]; omega⟩, fun w G cx => ?_⟩
  rw [hhd]
  refine atoi_to (R := rd b (l, bad) :: S) (fun M w h => (hΦ M w h).2.1) (fun M w h => (hΦ M w h).2.2) (bs (l.take i.toNat)) (by rw [bs_size, List.length_take]; omega) cx (fun n hn => ?_) (fun n t v hn => ?_)
  · rw [bs_list] at hn
    have hb := Lib.atoiAll_bounds hn
    refine ⟨rd b (l, bad) :: S, Φ, inferInstance, fun w G cx => cx, false, fun w => neq_nil (by decide +kernel) w, Br.intro (fun h => by cases h) (fun _ => ⟨⟨by omega, by rw [bs_size]; omega⟩, fun w G cx => ?_⟩)⟩
    refine (Itoa_in (fun M w h => (hΦ M w h).1) n (by unfold I64; omega)).toS cx ⟨fun w G cx => cx, Br.intro (fun hne => fun w G cx => failK ?_ w G cx) (fun heq => Br.intro (fun hls => fun w G cx => failK ?_ w G cx) (fun hls => fun w G cx => ?_))⟩
    · have hne := of_decide_eq_true hne
      unfold numP
      simp only [hi]
      rw [if_neg (by omega), hn]
      simp only
      rw [if_neg (fun h => hne (by show bs (Lib.itoa n) = _; rw [h.1]))]
    · unfold numP
      simp only [hi]
      rw [if_neg (by omega), hn]
      simp only
      rw [if_neg (fun h => by have := of_decide_eq_true hls; omega)]
    · have heq : Lib.itoa n = l.take i.toNat := bs_inj.1 (Decidable.not_not.1 (of_decide_eq_false heq))
      have hls := of_decide_eq_false hls
      have hnum : numP e.toNat.toUInt8 least l = some (n, l.drop (i.toNat + 1)) := by
        unfold numP
        simp only [hi]
        rw [if_neg (by omega), hn]
        simp only
        rw [if_pos ⟨heq, by omega⟩]
      rw [stepN_some (st := (l, bad)) hnum] at hk
      have hex : (bs l).extract (i + 1).toNat (bs l).size = bs (l.drop (i.toNat + 1)) := by
        rw [bs_ext, hsz, show (i + 1).toNat = i.toNat + 1 by omega]
        congr 1
        exact List.take_of_length_le (by rw [List.length_drop]; omega)
      refine ⟨bs l, cx.get 0 rfl rfl, ?_, ⟨by omega, by omega, Nat.le_refl _⟩, fun w G cx => ⟨cx.can 0 rfl (by simp), fun w' hw' => ?_⟩⟩
      · unfold I64
        omega
      rw [hex] at hw'
      exact ⟨rd b (l.drop (i.toNat + 1), bad) :: S, Φ, inferInstance, cx.put 0 hw' rfl, fun w G cx => hk w cx.left⟩
  · rw [bs_list] at hn
    refine ⟨[], fun _ _ => True, inferInstance, fun w G cx => (cx.weak fun _ _ _ => trivial).right, true, fun w => ?_, Br.intro (fun _ => fun w G cx => failK ?_ w G cx) (fun h => by cases h)⟩
    · exact neq_err (by decide +kernel) w
    · unfold numP
      simp only [hi]
      rw [if_neg (by omega)]

theorem number_to [Stable Φ] (hΦ : ∀ M w, Φ M w → NumI M w) (e : Int) (least : Int) (hl : st.1.length ≤ 1000000000000000) (c : Ctx W w (rd b st :: S ++ G) Φ) {K : Int → List Own → PW → Prop}
    (hk : K (stepN e.toNat.toUInt8 least st).1 (rd b (stepN e.toNat.toUInt8 least st).2 :: S) Φ) :
    Calls Tryd.prog F.wire_Reader_number #[.pointer (some ⟨b, 0, none⟩), .int .u8 e, .int .i64 least] w fun e w' => ∃ n, e = .returned (.int .i64 n) ∧ ∃ R' Φ', Stable Φ' ∧ Ctx W w' (R' ++ G) Φ' ∧ K n R' Φ' :=
  number_use (S := S ++ G) hΦ e least hl c fun w' c => ⟨_, rfl, _, Φ, inferInstance, c, hk⟩

def rdInt (st : RdS) : Int × RdS := stepN 59 (-9223372036854775808) st
def rdNat (st : RdS) : Int × RdS := stepN 59 0 st

theorem RInt_to [Stable Φ] (hΦ : ∀ M w, Φ M w → NumI M w) (hl : st.1.length ≤ 1000000000000000) (c : Ctx W w (rd b st :: S ++ G) Φ) {K : Int → List Own → PW → Prop}
    (hk : K (rdInt st).1 (rd b (rdInt st).2 :: S) Φ) :
    Calls Tryd.prog F.wire_Reader_Int #[.pointer (some ⟨b, 0, none⟩)] w fun e w' => ∃ n, e = .returned (.int .i64 n) ∧ ∃ R' Φ', Stable Φ' ∧ Ctx W w' (R' ++ G) Φ' ∧ K n R' Φ' := by
  refine (Bwire_Reader_Int_run b 0 (J := fun u w' => ∃ n, (Ending.returned u) = .returned (.int .i64 n) ∧ ∃ R' Φ', Stable Φ' ∧ Ctx W w' (R' ++ G) Φ' ∧ K n R' Φ') (R := rd b st :: (S ++ G)) c ?_).mono fun e w' ⟨v, he, hj⟩ => by rw [he]; exact hj
  exact fun w F1 cx => number_to (S := S ++ G) hΦ 59 _ hl cx fun w F1 cx => ⟨_, rfl, _, Φ, inferInstance, cx.left, hk⟩
theorem RNum_to [Stable Φ] (hΦ : ∀ M w, Φ M w → NumI M w) (hl : st.1.length ≤ 1000000000000000) (c : Ctx W w (rd b st :: S ++ G) Φ) {K : Int → List Own → PW → Prop}
    (hk : K (rdNat st).1 (rd b (rdNat st).2 :: S) Φ) :
    Calls Tryd.prog F.wire_Reader_Num #[.pointer (some ⟨b, 0, none⟩)] w fun e w' => ∃ n, e = .returned (.int .i64 n) ∧ ∃ R' Φ', Stable Φ' ∧ Ctx W w' (R' ++ G) Φ' ∧ K n R' Φ' := by
  refine (Bwire_Reader_Num_run b 0 (J := fun u w' => ∃ n, (Ending.returned u) = .returned (.int .i64 n) ∧ ∃ R' Φ', Stable Φ' ∧ Ctx W w' (R' ++ G) Φ' ∧ K n R' Φ') (R := rd b st :: (S ++ G)) c ?_).mono fun e w' ⟨v, he, hj⟩ => by rw [he]; exact hj
  exact fun w F1 cx => number_to (S := S ++ G) hΦ 59 _ hl cx fun w F1 cx => ⟨_, rfl, _, Φ, inferInstance, cx.left, hk⟩

theorem Left_to [Stable Φ] (c : Ctx W w (rd b st :: S ++ G) Φ) {K : Int → List Own → PW → Prop} (hk : K st.1.length (rd b st :: S) Φ) :
    Calls Tryd.prog F.wire_Reader_Left #[.pointer (some ⟨b, 0, none⟩)] w fun e w' => ∃ n, e = .returned (.int .i64 n) ∧ ∃ R' Φ', Stable Φ' ∧ Ctx W w' (R' ++ G) Φ' ∧ K n R' Φ' := by
  refine (Bwire_Reader_Left_run b 0 (J := fun u w' => ∃ n, (Ending.returned u) = .returned (.int .i64 n) ∧ ∃ R' Φ', Stable Φ' ∧ Ctx W w' (R' ++ G) Φ' ∧ K n R' Φ') (R := rd b st :: (S ++ G)) c ?_).mono fun e w' ⟨v, he, hj⟩ => by rw [he]; exact hj
  exact fun w F1 cx => ⟨bs st.1, cx.get 0 rfl rfl, fun w F1 cx => ⟨st.1.length, by rw [bs_size], _, Φ, inferInstance, cx.left, hk⟩⟩

def rdDone (st : RdS) : Bool := !st.2 && decide (st.1 = [])
theorem Done_to [Stable Φ] (c : Ctx W w (rd b st :: S ++ G) Φ) {K : Bool → List Own → PW → Prop} (hk : K (rdDone st) (rd b st :: S) Φ) :
    Calls Tryd.prog F.wire_Reader_Done #[.pointer (some ⟨b, 0, none⟩)] w fun e w' => ∃ n, e = .returned (.bool n) ∧ ∃ R' Φ', Stable Φ' ∧ Ctx W w' (R' ++ G) Φ' ∧ K n R' Φ' := by
  refine (Bwire_Reader_Done_run b 0 (J := fun u w' => ∃ n, (Ending.returned u) = .returned (.bool n) ∧ ∃ R' Φ', Stable Φ' ∧ Ctx W w' (R' ++ G) Φ' ∧ K n R' Φ') (R := rd b st :: (S ++ G)) c ?_).mono fun e w' ⟨v, he, hj⟩ => by rw [he]; exact hj
  refine fun w F1 cx => ⟨st.2, cx.get 0 rfl rfl, bs st.1, fun _ => cx.get 0 rfl rfl, fun w F1 cx => ⟨rdDone st, ?_, _, Φ, inferInstance, cx.left, hk⟩⟩
  have e : decide (bs st.1 = ByteArray.mk #[]) = decide (st.1 = []) := by
    rw [show ByteArray.mk #[] = bs [] from rfl]
    exact decide_eq_decide.2 bs_inj
  rw [e]
  rfl

theorem prefix_one (c : UInt8) (l : List UInt8) : Lib.hasPrefix l [c] = (match l with | [] => false | x :: _ => x == c) := by
  cases l with
  | nil => rfl
  | cons x r =>
    unfold Lib.hasPrefix
    rw [List.isPrefixOf_cons_cons]
    simp [Bool.beq_comm]

theorem close_to [Stable Φ] (e : UInt8) (c : Ctx W w (rd b st :: S ++ G) Φ) {K : List Own → PW → Prop} (hk : K (rd b (stepC e st) :: S) Φ) :
    Calls Tryd.prog F.wire_Reader_close #[.pointer (some ⟨b, 0, none⟩), .string (ByteArray.mk #[e])] w fun e w' => e = .returned (.tuple #[]) ∧ ∃ R' Φ', Stable Φ' ∧ Ctx W w' (R' ++ G) Φ' ∧ K R' Φ' := by
  refine (Bwire_Reader_close_run b 0 (ByteArray.mk #[e]) (J := fun u w' => (Ending.returned u) = .returned (.tuple #[]) ∧ ∃ R' Φ', Stable Φ' ∧ Ctx W w' (R' ++ G) Φ' ∧ K R' Φ') (R := rd b st :: (S ++ G)) c ?_).mono fun e w' ⟨v, he, hj⟩ => by rw [he]; exact hj
  clear c
  obtain ⟨l, bad⟩ := st
  refine fun w F1 cx => ⟨bs l, cx.get 0 rfl rfl, fun w F1 cx => ?_⟩
  refine (Any.strings_CutPrefix Tryd.lays103 (bs l) (ByteArray.mk #[e]) w).mono fun e2 w' ⟨he, hw⟩ => ?_
  subst hw
  refine ⟨_, _, he, rd b (l, bad) :: (S ++ G), Φ, inferInstance, cx, ?_⟩
  clear cx
  rw [bs_list, show (ByteArray.mk #[e]).data.toList = [e] from rfl]
  unfold Lib.trimPrefix
  rw [prefix_one]
  unfold stepC at hk
  cases l with
  | nil =>
    refine fun w F1 cx => ⟨cx.can 0 rfl (by simp), fun w' hw' => ⟨rd b ([], bad) :: (S ++ G), Φ, inferInstance, cx.put 0 hw' rfl, Br.intro (fun _ => fun w F1 cx => fail_to (S := S ++ G) cx fun w F1 cx => ⟨by first | trivial | rfl, _, Φ, inferInstance, cx.left, hk⟩) (fun h => by cases h)⟩⟩
  | cons x r =>
    simp only at hk ⊢
    by_cases hx : x = e
    · subst hx
      rw [if_pos rfl] at hk
      rw [if_pos (by simp)]
      refine fun w F1 cx => ⟨cx.can 0 rfl (by simp), fun w' hw' => ⟨rd b (r, bad) :: (S ++ G), Φ, inferInstance, cx.put 0 hw' rfl, Br.intro (fun h => by simp at h) (fun _ => fun w F1 cx => ⟨by first | trivial | rfl, _, Φ, inferInstance, cx.left, hk⟩)⟩⟩
    · rw [if_neg hx] at hk
      rw [if_neg (by simpa using hx)]
      refine fun w F1 cx => ⟨cx.can 0 rfl (by simp), fun w' hw' => ⟨rd b (x :: r, bad) :: (S ++ G), Φ, inferInstance, cx.put 0 hw' rfl, Br.intro (fun _ => fun w F1 cx => fail_to (S := S ++ G) cx fun w F1 cx => ⟨by first | trivial | rfl, _, Φ, inferInstance, cx.left, hk⟩) (fun h => by simp at h; exact absurd h hx)⟩⟩

theorem stepN_nonneg {e : UInt8} (he : e.toNat = 58 ∨ e.toNat = 59 ∨ e.toNat = 91) (st : RdS) : 0 ≤ (stepN e 0 st).1 ∧ (stepN e 0 st).1 ≤ 9223372036854775807 := by
  unfold stepN
  split
  · rename_i n r h
    obtain ⟨⟨h1, h2⟩, _⟩ := (numP_iff he).1 h
    unfold I64 at h1
    simp only; omega
  · simp only; omega
theorem stepN_len (e : UInt8) (least : Int) (st : RdS) : (stepN e least st).2.1.length ≤ st.1.length := by
  unfold stepN
  split
  · rename_i n r h
    unfold numP at h
    simp only at h
    split at h
    · cases h
    · split at h
      · split at h
        · cases h
          simp only [List.length_drop]; omega
        · cases h
      · cases h
  · simp

theorem Text_to [Stable Φ] (hΦ : ∀ M w, Φ M w → NumI M w) (hl : st.1.length ≤ 1000000000000000) (c : Ctx W w (rd b st :: S ++ G) Φ) {K : ByteArray → List Own → PW → Prop}
    (hk : K (stepT st).1 (rd b (stepT st).2 :: S) Φ) :
    Calls Tryd.prog F.wire_Reader_Text #[.pointer (some ⟨b, 0, none⟩)] w fun e w' => ∃ n, e = .returned (.string n) ∧ ∃ R' Φ', Stable Φ' ∧ Ctx W w' (R' ++ G) Φ' ∧ K n R' Φ' := by
  refine (Bwire_Reader_Text_run b 0 (J := fun u w' => ∃ n, (Ending.returned u) = .returned (.string n) ∧ ∃ R' Φ', Stable Φ' ∧ Ctx W w' (R' ++ G) Φ' ∧ K n R' Φ') (R := rd b st :: (S ++ G)) c ?_).mono fun e w' ⟨v, he, hj⟩ => by rw [he]; exact hj
  clear c
  refine fun w F1 cx => number_to (S := S ++ G) hΦ 58 0 hl cx ?_
  rw [show ((58 : Int).toNat.toUInt8) = (58 : UInt8) from rfl]
  unfold stepT at hk
  simp only at hk
  have hn := stepN_nonneg (e := 58) (.inl rfl) st
  obtain ⟨⟨n, l, bad⟩, ha⟩ : ∃ a, stepN 58 0 st = a := ⟨_, rfl⟩
  rw [ha] at hk hn ⊢
  simp only at hk hn ⊢
  refine fun w F1 cx => ⟨bs l, cx.get 0 rfl rfl, Br.intro (fun h => ?_) (fun h => ?_)⟩
  · have h := of_decide_eq_true h
    rw [bs_size] at h
    rw [if_pos h] at hk
    exact fun w F1 cx => fail_to (S := S ++ G) cx fun w F1 cx => ⟨_, rfl, _, Φ, inferInstance, cx.left, hk⟩
  · have h := of_decide_eq_false h
    rw [bs_size] at h
    rw [if_neg h] at hk
    have e1 : (bs l).extract n.toNat (bs l).size = bs (l.drop n.toNat) := by
      rw [bs_ext, bs_size]
      congr 1
      exact List.take_of_length_le (by rw [List.length_drop]; omega)
    have e2 : (bs l).extract 0 n.toNat = bs (l.take n.toNat) := by rw [bs_ext, List.drop_zero, Nat.sub_zero]
    refine fun w F1 cx => ⟨bs l, cx.get 0 rfl rfl, ⟨by omega, by rw [bs_size]; omega⟩, fun w F1 cx => ⟨bs l, cx.get 0 rfl rfl, ⟨by omega, by rw [bs_size]; omega, Nat.le_refl _⟩, fun w F1 cx => ⟨cx.can 0 rfl (by simp), fun w' hw' => ?_⟩⟩⟩
    rw [e1] at hw'
    refine ⟨rd b (l.drop n.toNat, bad) :: (S ++ G), Φ, inferInstance, cx.put 0 hw' rfl, fun w F1 cx => close_to (S := S ++ G) 44 cx fun w F1 cx => ⟨(stepC 44 (l.drop n.toNat, bad)).2, cx.get 0 rfl rfl, Br.intro (fun hb => ?_) (fun hb => ?_)⟩⟩
    · rw [hb] at hk
      exact fun w F1 cx => ⟨_, rfl, _, Φ, inferInstance, cx.left, hk⟩
    · rw [hb] at hk
      rw [e2]
      exact fun w F1 cx => ⟨_, rfl, _, Φ, inferInstance, cx.left, hk⟩

end
end Go.Proofs.YtfpgbejdlikpgaaDoor
end

/-
  Rows, read: in plain Lean, and walked.
-/
section
set_option linter.unusedVariables false
set_option linter.unusedSimpArgs false
namespace Go.Proofs.YtfpgbejdlikpgaaDoor
open Go.Vc


/-! ### in plain Lean -/
theorem num_read {e : UInt8} (he : e.toNat = 58 ∨ e.toNat = 59 ∨ e.toNat = 91) {least n : Int} {r : List UInt8} {bad : Bool} (h : I64 n) (h2 : least ≤ n) : stepN e least (Lib.itoa n ++ e :: r, bad) = (n, (r, bad)) :=
  stepN_some (st := (Lib.itoa n ++ e :: r, bad)) ((numP_iff he).2 ⟨⟨h, h2⟩, rfl⟩)
theorem intB_list (n : Int) : (intB n).data.toList = Lib.itoa n ++ [59] := by
  unfold intB numB
  rw [ByteArray.data_append, Array.toList_append]
theorem int_read {n : Int} {r : List UInt8} {bad : Bool} (h : I64 n) : rdInt ((intB n).data.toList ++ r, bad) = (n, (r, bad)) := by
  rw [intB_list, List.append_assoc]
  exact num_read (.inr (.inl rfl)) h h.1
theorem nat_read {n : Nat} {r : List UInt8} {bad : Bool} (h : (n : Int) ≤ 9223372036854775807) : rdNat ((natB n).data.toList ++ r, bad) = ((n : Int), (r, bad)) := by
  unfold natB
  rw [if_neg (by omega), intB_list, List.append_assoc]
  exact num_read (.inr (.inl rfl)) (by unfold I64; omega) (by omega)
theorem textB_list (s : ByteArray) : (textB s).data.toList = Lib.itoa s.size ++ 58 :: (s.data.toList ++ [44]) := by
  unfold textB numB
  simp [ByteArray.data_append]
theorem text_read {s : ByteArray} {r : List UInt8} (h : s.size ≤ 9223372036854775807) : stepT ((textB s).data.toList ++ r, false) = (s, (r, false)) := by
  have e1 : stepN 58 0 ((textB s).data.toList ++ r, false) = ((s.size : Int), (s.data.toList ++ 44 :: r, false)) := by
    rw [textB_list, List.append_assoc, List.cons_append, List.append_assoc]
    exact num_read (.inl rfl) (by unfold I64; omega) (by omega)
  unfold stepT
  simp only [e1]
  have hl : s.data.toList.length = s.size := list_size s
  rw [if_neg (by rw [List.length_append, List.length_cons, hl]; omega), Int.toNat_natCast, List.drop_left' hl, List.take_left' hl]
  rfl
/-! lengths -/
theorem stepC_len (c : UInt8) (st : RdS) : (stepC c st).1.length ≤ st.1.length := by
  unfold stepC
  split
  · simp
  · rename_i h
    split
    · rw [h]; simp
    · simp
theorem stepT_len (st : RdS) : (stepT st).2.1.length ≤ st.1.length ∧ (stepT st).1.size ≤ st.1.length := by
  have h1 := stepN_len 58 0 st
  have h2 := stepC_len 44 (((stepN 58 0 st).2.1.drop (stepN 58 0 st).1.toNat, (stepN 58 0 st).2.2))
  rw [List.length_drop] at h2
  unfold stepT
  simp only
  split
  · exact ⟨Nat.zero_le _, Nat.zero_le _⟩
  · refine ⟨by simp only; omega, ?_⟩
    simp only
    split
    · exact Nat.zero_le _
    · rw [bs_size, List.length_take]; omega
theorem rdInt_i64 (st : RdS) : I64 (rdInt st).1 := by
  unfold rdInt stepN
  split
  · rename_i n r h
    exact ((numP_iff (.inr (.inl rfl))).1 h).1.1
  · unfold I64; simp
/-! ### walked -/
section
variable {W w : World} {R G S : List Own} {Φ : PW} {b : Nat} {st : RdS}

end
end Go.Proofs.YtfpgbejdlikpgaaDoor
end

/-
  What was read stands in the string: the readers' results, read backwards.
-/
section
set_option linter.unusedVariables false
set_option linter.unusedSimpArgs false
namespace Go.Proofs.YtfpgbejdlikpgaaDoor
open Go.Vc

theorem stepN_is {e : UInt8} (he : e.toNat = 58 ∨ e.toNat = 59 ∨ e.toNat = 91) {least : Int} {st : RdS} (h : (stepN e least st).2.2 = false) :
    st.2 = false ∧ I64 (stepN e least st).1 ∧ least ≤ (stepN e least st).1 ∧ st.1 = Lib.itoa (stepN e least st).1 ++ e :: (stepN e least st).2.1 := by
  unfold stepN at h ⊢
  split at h
  · rename_i n r hn
    obtain ⟨⟨h1, h2⟩, h3⟩ := (numP_iff he).1 hn
    exact ⟨h, h1, h2, h3⟩
  · cases h
theorem int_is {st : RdS} (h : (rdInt st).2.2 = false) : st.2 = false ∧ I64 (rdInt st).1 ∧ st.1 = (intB (rdInt st).1).data.toList ++ (rdInt st).2.1 := by
  obtain ⟨h1, h2, _, h3⟩ := stepN_is (e := 59) (.inr (.inl rfl)) h
  refine ⟨h1, h2, ?_⟩
  rw [intB_list, List.append_assoc, List.singleton_append]
  exact h3
theorem stepC_is {c : UInt8} {st : RdS} (h : (stepC c st).2 = false) : st.2 = false ∧ st.1 = c :: (stepC c st).1 := by
  obtain ⟨l, bad⟩ := st
  unfold stepC at h ⊢
  cases l with
  | nil => cases h
  | cons x r =>
    simp only at h ⊢
    by_cases hx : x = c
    · rw [if_pos hx] at h ⊢
      exact ⟨h, by rw [hx]⟩
    · rw [if_neg hx] at h
      cases h
theorem text_is {st : RdS} (h : (stepT st).2.2 = false) : st.2 = false ∧ st.1 = (textB (stepT st).1).data.toList ++ (stepT st).2.1 := by
  unfold stepT at h ⊢
  simp only at h ⊢
  split at h
  · cases h
  rename_i hlt
  rw [if_neg hlt]
  simp only at h ⊢
  rw [if_neg (by rw [h]; simp)]
  obtain ⟨h1, h2⟩ := stepC_is h
  simp only at h1 h2
  obtain ⟨h3, h4, h5, h6⟩ := stepN_is (e := 58) (.inl rfl) h1
  refine ⟨h3, ?_⟩
  have hl : ((stepN 58 0 st).2.1.take (stepN 58 0 st).1.toNat).length = (stepN 58 0 st).1.toNat := by rw [List.length_take]; omega
  rw [textB_list, bs_list, bs_size, hl, show (((stepN 58 0 st).1.toNat : Nat) : Int) = (stepN 58 0 st).1 by omega, List.append_assoc, List.cons_append, List.append_assoc, List.singleton_append, ← h2, List.take_append_drop]
  exact h6
theorem done_is {st : RdS} (h : rdDone st = true) : st = ([], false) := by
  unfold rdDone at h
  rw [Bool.and_eq_true] at h
  obtain ⟨l, bad⟩ := st
  have h1 := of_decide_eq_true h.2
  have h2 := h.1
  simp only at h1 h2
  cases bad with
  | true => cases h2
  | false => rw [h1]
end Go.Proofs.YtfpgbejdlikpgaaDoor
end

/-
  Entries and messages as strings, in plain Lean: how they are written, what is read.
-/
section
set_option linter.unusedVariables false
set_option linter.unusedSimpArgs false
namespace Go.Proofs.YtfpgbejdlikpgaaDoor
open Go.Vc

def recL (x : RecD) : List UInt8 := (intB x.term ++ textB x.data).data.toList
def recsL (l : List RecD) : List UInt8 := l.flatMap recL
def numsL (l : List Int) : List UInt8 := l.flatMap fun n => (intB n).data.toList
def msgN (m : MsgR) : List Int := [m.kind, m.src, m.to, m.term, m.index, m.prev, m.commit, if m.yes then 1 else 0]
def headM (m : MsgR) : List UInt8 := numsL (msgN m) ++ (natB m.recs.length).data.toList
def msgL (m : MsgR) : List UInt8 := headM m ++ recsL m.recs

/-! ### reading -/
def recR (st : RdS) : RecD × RdS := (⟨(rdInt st).1, (stepT (rdInt st).2).1⟩, (stepT (rdInt st).2).2)
def recsR : Nat → RdS → List RecD → List RecD × RdS
  | 0, st, acc => (acc, st)
  | k + 1, st, acc => if st.1 = [] then (acc, st) else recsR k (recR st).2 (acc ++ [(recR st).1])
def intsR : Nat → RdS → List Int × RdS
  | 0, st => ([], st)
  | k + 1, st => ((rdInt st).1 :: (intsR k (rdInt st).2).1, (intsR k (rdInt st).2).2)
def msgO (ns : List Int) (rs : List RecD) : MsgR := ⟨ns.getD 0 0, ns.getD 1 0, ns.getD 2 0, ns.getD 3 0, ns.getD 4 0, ns.getD 5 0, ns.getD 6 0, decide (ns.getD 7 0 = 1), rs⟩
def msgR0 : MsgR := ⟨0, 0, 0, 0, 0, 0, 0, false, []⟩
/-- what an entry's reading gives -/
def readE (l : List UInt8) : Option RecD := if rdDone (recR (l, false)).2 = true then some (recR (l, false)).1 else none
/-- the reading of a message after its first numbers -/
def finM (l : List UInt8) (ns : List Int) (rs : List RecD × RdS) : Option MsgR := if rdDone rs.2 = true ∧ msgL (msgO ns rs.1) = l then some (msgO ns rs.1) else none
def tailM (l : List UInt8) (ns : List Int) (st : RdS) : Option MsgR := finM l ns (recsR (rdNat st).1.toNat (rdNat st).2 [])
def readM (l : List UInt8) : Option MsgR := tailM l (intsR 8 (l, false)).1 (intsR 8 (l, false)).2

theorem recsR_succ (k : Nat) (st : RdS) (acc : List RecD) : recsR (k + 1) st acc = if st.1 = [] then (acc, st) else recsR k (recR st).2 (acc ++ [(recR st).1]) := rfl
theorem recsR_end : ∀ (k : Nat) (st : RdS) (acc : List RecD), st.1 = [] → recsR k st acc = (acc, st)
  | 0, _, _, _ => rfl
  | k + 1, st, acc, h => by rw [recsR_succ, if_pos h]
theorem rdInt_eats {st : RdS} (h : st.1 ≠ []) : (rdInt st).2.1.length < st.1.length := by
  unfold rdInt stepN
  split
  · rename_i n r hn
    obtain ⟨_, h2⟩ := (numP_iff (e := 59) (.inr (.inl rfl))).1 hn
    rw [h2, List.length_append, List.length_cons]
    simp only
    omega
  · exact List.length_pos_iff.2 h
theorem recR_eats {st : RdS} (h : st.1 ≠ []) : (recR st).2.1.length < st.1.length := by
  have h1 := rdInt_eats h
  have h2 := (stepT_len (rdInt st).2).1
  show (stepT (rdInt st).2).2.1.length < _
  omega
theorem recR_data (st : RdS) : (recR st).1.data.size ≤ st.1.length := by
  have h1 := stepN_len 59 (-9223372036854775808) st
  have h2 := (stepT_len (rdInt st).2).2
  show (stepT (rdInt st).2).1.size ≤ _
  have h3 : (rdInt st).2.1.length ≤ st.1.length := h1
  omega
theorem recR_term (st : RdS) : I64 (recR st).1.term := rdInt_i64 st

/-! ### writing, and reading what was written -/
theorem recL_app (x : RecD) (t : List UInt8) : recL x ++ t = (intB x.term).data.toList ++ ((textB x.data).data.toList ++ t) := by
  unfold recL
  simp [ByteArray.data_append]
theorem recsL_cons (x : RecD) (l : List RecD) : recsL (x :: l) = recL x ++ recsL l := by simp [recsL]
theorem recsL_app (a b : List RecD) : recsL (a ++ b) = recsL a ++ recsL b := List.flatMap_append
theorem recsL_one (x : RecD) : recsL [x] = recL x := by simp [recsL]
theorem numsL_cons (n : Int) (l : List Int) : numsL (n :: l) = (intB n).data.toList ++ numsL l := by simp [numsL]
theorem numsL_app (a b : List Int) : numsL (a ++ b) = numsL a ++ numsL b := List.flatMap_append
theorem numsL_one (n : Int) : numsL [n] = (intB n).data.toList := by simp [numsL]

theorem rec_read {x : RecD} {t : List UInt8} (h : I64 x.term) (h2 : x.data.size ≤ 1000000) : recR (recL x ++ t, false) = (x, (t, false)) := by
  unfold recR
  rw [recL_app, int_read h]
  simp only
  rw [text_read (by omega)]
theorem recL_ne {x : RecD} (h : I64 x.term) (t : List UInt8) : recL x ++ t ≠ [] := by
  rw [recL_app]
  have h1 := (intB_size h).1
  intro e
  have e := congrArg List.length e
  rw [List.length_append, list_size, show ([] : List UInt8).length = 0 from rfl] at e
  omega
theorem recs_read : ∀ (l acc : List RecD) (t : List UInt8), (∀ x ∈ l, I64 x.term ∧ x.data.size ≤ 1000000) → recsR l.length (recsL l ++ t, false) acc = (acc ++ l, (t, false))
  | [], acc, t, _ => by rw [List.append_nil]; rfl
  | x :: l, acc, t, h => by
    have hx := h x (by simp)
    rw [List.length_cons, recsR_succ, recsL_cons, List.append_assoc, if_neg (recL_ne hx.1 _), rec_read hx.1 hx.2]
    simp only
    rw [recs_read l (acc ++ [x]) t (fun y hy => h y (by simp [hy])), List.append_assoc]
    rfl
theorem ints_read : ∀ (l : List Int) (t : List UInt8), (∀ n ∈ l, I64 n) → intsR l.length (numsL l ++ t, false) = (l, (t, false))
  | [], t, _ => rfl
  | n :: l, t, h => by
    have ih := ints_read l t fun y hy => h y (by simp [hy])
    rw [List.length_cons, numsL_cons, List.append_assoc]
    unfold intsR
    rw [int_read (h n (by simp))]
    simp only
    rw [ih]
structure MsgW (m : MsgR) : Prop where
  ints : ∀ n ∈ msgN m, I64 n
  recs : ∀ x ∈ m.recs, I64 x.term ∧ x.data.size ≤ 1000000
theorem msgO_of (m : MsgR) : msgO (msgN m) m.recs = m := by
  obtain ⟨k, s, t, e, i, p, c, y, r⟩ := m
  cases y <;> rfl
theorem msg_read {m : MsgR} (h : MsgW m) (hl : m.recs.length ≤ 1000000) : readM (msgL m) = some m := by
  have h1 := ints_read (msgN m) ((natB m.recs.length).data.toList ++ (recsL m.recs ++ [])) h.ints
  have h2 := recs_read m.recs [] [] h.recs
  have e : msgL m = numsL (msgN m) ++ ((natB m.recs.length).data.toList ++ (recsL m.recs ++ [])) := by
    unfold msgL headM
    simp only [List.append_assoc, List.append_nil]
  have e8 : (msgN m).length = 8 := rfl
  rw [e8, ← e] at h1
  unfold readM
  rw [h1]
  unfold tailM
  simp only
  rw [nat_read (by omega)]
  simp only
  rw [Int.toNat_natCast, h2]
  unfold finM
  simp only
  rw [List.nil_append, msgO_of]
  exact if_pos ⟨rfl, rfl⟩
theorem readM_is {l : List UInt8} {m : MsgR} (h : readM l = some m) : msgL m = l := by
  unfold readM tailM finM at h
  split at h
  · rename_i h1
    cases h
    exact h1.2
  · cases h
theorem rec_read1 {x : RecD} (h : I64 x.term) (h2 : x.data.size ≤ 1000000) : readE (recL x) = some x := by
  have h3 := rec_read (t := []) h h2
  rw [List.append_nil] at h3
  unfold readE
  rw [h3]
  exact if_pos rfl
theorem readE_is {l : List UInt8} {x : RecD} (h : readE l = some x) : recL x = l := by
  unfold readE at h
  split at h
  · rename_i hd
    have h1 : (recR (l, false)).1 = x := Option.some.inj h
    have hd := done_is hd
    obtain ⟨e1, e2⟩ := text_is (st := (rdInt (l, false)).2) (by
      have : (stepT (rdInt (l, false)).2).2 = ([], false) := hd
      rw [this])
    obtain ⟨_, _, e3⟩ := int_is (st := (l, false)) e1
    have e4 : (stepT (rdInt (l, false)).2).2.1 = [] := by
      have : (stepT (rdInt (l, false)).2).2 = ([], false) := hd
      rw [this]
    rw [e4, List.append_nil] at e2
    rw [e2] at e3
    have e5 : l = (intB (rdInt (l, false)).1).data.toList ++ (textB (stepT (rdInt (l, false)).2).1).data.toList := e3
    rw [← h1]
    unfold recL recR
    simp only
    conv => rhs; rw [e5]
    simp [ByteArray.data_append]
  · cases h
end Go.Proofs.YtfpgbejdlikpgaaDoor
end

section
namespace Go.Proofs.YtfpgbejdlikpgaaDoor
set_option linter.unusedVariables false
set_option linter.unusedSimpArgs false
set_option maxRecDepth 100000
open Go.Vc

/-- errataref01.Back -/
-- loop at region 6: 5 n, 6 i; blocks 
def Merrataref01_Back (s : ByteArray) (W : World) (R : List Own) (Φ : PW) (J : Value → World → Prop) : Prop :=
  ∀ (w0 : World) (R1 : List Own), Ctx W w0 (R ++ R1) Φ → ∃ (u2 : UInt8), (decide (0 < (↑s.size : Int)) = true → (0 : Int) ≤ 0 ∧ s.data.toList.get?Internal 0 = some u2) ∧ Br (decide (0 <
  (↑s.size : Int)) && decide ((↑u2.toNat : Int) = 45)) (exI fun (I3 : Int → Int → List Own → PW → Nat → Prop) => (∃ (R4 : List Own), ∃ (Φ5 : PW), ∃ (k6 : Nat), Stable Φ5 ∧ (∀ (w7 : World) (R8
  : List Own), Ctx W w7 (R ++ R8) Φ → Ctx W w7 (R4 ++ R8) Φ5) ∧ I3 0 1 R4 Φ5 k6) ∧ ∀ (n9 n10 : Int) (R11 : List Own) (I12 : List Nat → World → Prop) (k13 : Nat), Stable I12 → I3 n9 n10 R11
  I12 k13 → Br (decide (n10 < (↑s.size : Int))) (∀ (w14 : World) (R15 : List Own), Ctx W w14 (R11 ++ R15) I12 → ∃ (u16 : UInt8), (0 ≤ n10 ∧ s.data.toList.get?Internal n10.toNat = some u16) ∧
  ∃ (u17 : UInt8), ((!decide ((↑u16.toNat : Int) < 48)) = true → 0 ≤ n10 ∧ s.data.toList.get?Internal n10.toNat = some u17) ∧ Br (decide ((↑u16.toNat : Int) < 48) || decide (57 < (↑u17.toNat
  : Int)) || decide (20 < n10)) (∀ (w18 : World) (R19 : List Own), Ctx W w18 (R11 ++ R19) I12 → J (Value.tuple #[Value.int IntKind.i64 0, Value.bool false]) w18) (∃ (u20 : UInt8), (0 ≤ n10 ∧
  s.data.toList.get?Internal n10.toNat = some u20) ∧ I64 (n10 + 1) ∧ ∃ (R21 : List Own), ∃ (Φ22 : PW), ∃ (k23 : Nat), Stable Φ22 ∧ (∀ (w24 : World) (R25 : List Own), Ctx W w24 (R11 ++ R25)
  I12 → Ctx W w24 (R21 ++ R25) Φ22) ∧ I3 (IntKind.i64.wrap (IntKind.i64.wrap (10 * n9) - IntKind.i64.wrap (IntKind.u8.wrap ((↑u20.toNat : Int) - 48)))) (n10 + 1) R21 Φ22 k23 ∧ k23 < k13)) (∀
  (w26 : World) (R27 : List Own), Ctx W w26 (R11 ++ R27) I12 → Calls Tryd.prog F.errataref01_Int #[Value.int IntKind.i64 n9] w26 fun (e28 : Ending) (w29 : World) => ∃ (s30 : ByteArray), e28 =
  Ending.returned (Value.string s30) ∧ ∃ (R31 : List Own), ∃ (Φ32 : PW), Stable Φ32 ∧ Ctx W w29 (R31 ++ R27) Φ32 ∧ (s.size + (ByteArray.mk #[OfNat.ofNat 59]).size).le 9223372036854775807 ∧ ∀
  (w33 : World) (R34 : List Own), Ctx W w33 (R31 ++ R34) Φ32 → J (Value.tuple #[Value.int IntKind.i64 n9, Value.bool (decide (s30 = s ++ ByteArray.mk #[OfNat.ofNat 59]))]) w33)) (exI fun (I35
  : Int → Int → List Own → PW → Nat → Prop) => (∃ (R36 : List Own), ∃ (Φ37 : PW), ∃ (k38 : Nat), Stable Φ37 ∧ (∀ (w39 : World) (R40 : List Own), Ctx W w39 (R ++ R40) Φ → Ctx W w39 (R36 ++
  R40) Φ37) ∧ I35 0 0 R36 Φ37 k38) ∧ ∀ (n41 n42 : Int) (R43 : List Own) (I44 : List Nat → World → Prop) (k45 : Nat), Stable I44 → I35 n41 n42 R43 I44 k45 → Br (decide (n42 < (↑s.size : Int)))
  (∀ (w46 : World) (R47 : List Own), Ctx W w46 (R43 ++ R47) I44 → ∃ (u48 : UInt8), (0 ≤ n42 ∧ s.data.toList.get?Internal n42.toNat = some u48) ∧ ∃ (u49 : UInt8), ((!decide ((↑u48.toNat : Int)
  < 48)) = true → 0 ≤ n42 ∧ s.data.toList.get?Internal n42.toNat = some u49) ∧ Br (decide ((↑u48.toNat : Int) < 48) || decide (57 < (↑u49.toNat : Int)) || decide (20 < n42)) (∀ (w50 : World)
  (R51 : List Own), Ctx W w50 (R43 ++ R51) I44 → J (Value.tuple #[Value.int IntKind.i64 0, Value.bool false]) w50) (∃ (u52 : UInt8), (0 ≤ n42 ∧ s.data.toList.get?Internal n42.toNat = some
  u52) ∧ I64 (n42 + 1) ∧ ∃ (R53 : List Own), ∃ (Φ54 : PW), ∃ (k55 : Nat), Stable Φ54 ∧ (∀ (w56 : World) (R57 : List Own), Ctx W w56 (R43 ++ R57) I44 → Ctx W w56 (R53 ++ R57) Φ54) ∧ I35
  (IntKind.i64.wrap (IntKind.i64.wrap (10 * n41) - IntKind.i64.wrap (IntKind.u8.wrap ((↑u52.toNat : Int) - 48)))) (n42 + 1) R53 Φ54 k55 ∧ k55 < k45)) (∀ (w58 : World) (R59 : List Own), Ctx W
  w58 (R43 ++ R59) I44 → Calls Tryd.prog F.errataref01_Int #[Value.int IntKind.i64 (IntKind.i64.wrap (0 - n41))] w58 fun (e60 : Ending) (w61 : World) => ∃ (s62 : ByteArray), e60 =
  Ending.returned (Value.string s62) ∧ ∃ (R63 : List Own), ∃ (Φ64 : PW), Stable Φ64 ∧ Ctx W w61 (R63 ++ R59) Φ64 ∧ (s.size + (ByteArray.mk #[OfNat.ofNat 59]).size).le 9223372036854775807 ∧ ∀
  (w65 : World) (R66 : List Own), Ctx W w65 (R63 ++ R66) Φ64 → J (Value.tuple #[Value.int IntKind.i64 (IntKind.i64.wrap (0 - n41)), Value.bool (decide (s62 = s ++ ByteArray.mk #[OfNat.ofNat
  59]))]) w65))

theorem Merrataref01_Back_run (s : ByteArray) {W w : World} {R : List Own} {Φ : PW} [Stable Φ] {J : Value → World → Prop} (c : Ctx W w R Φ) (h : Merrataref01_Back s W R Φ J) : Calls Tryd.prog F.errataref01_Back #[.string s] w fun e w' => ∃ v, e = .returned v ∧ J v w' :=
  vcFS_sound (H := { keep := some [0, 2, 3, 4, 5, 6, 14, 19, 35, 45], wrap := [37, 43, 47], loops := [(6, [(5, .one (.int .i64)), (6, .one (.int .i64))], [])] }) (by rw [show vcFS Tryd.prog W { keep := some [0, 2, 3, 4, 5, 6, 14, 19, 35, 45], wrap := [37, 43, 47], loops := [(6, [(5, .one (.int .i64)), (6, .one (.int .i64))], [])] } F.errataref01_Back #[.string s] R Φ J = Merrataref01_Back s W R Φ J by kernel_rfl]; exact h) c

end Go.Proofs.YtfpgbejdlikpgaaDoor
end

/-
  The reference's writer of encodings, walked.
-/
section
set_option linter.unusedVariables false
set_option linter.unusedSimpArgs false
namespace Go.Proofs.YtfpgbejdlikpgaaDoor
open Go.Vc


theorem neg_tmod10 (n : Nat) : (-(n : Int)).tmod 10 = -((n % 10 : Nat) : Int) := by
  rw [Int.neg_tmod]; rfl
theorem neg_tdiv10 (n : Nat) : (-(n : Int)).tdiv 10 = -((n / 10 : Nat) : Int) := by
  rw [Int.neg_tdiv]; rfl
theorem wrap_dig (d : Nat) (h : d < 10) : IntKind.u8.wrap (48 - -(d : Int)) = ((UInt8.ofNat (48 + d)).toNat : Int) := by
  have : ∀ d : Fin 10, IntKind.u8.wrap (48 - -((d.val : Nat) : Int)) = ((UInt8.ofNat (48 + d.val)).toNat : Int) := by decide
  exact this ⟨d, h⟩
theorem mk_app (l : List UInt8) (b : ByteArray) : (⟨l.toArray⟩ : ByteArray) ++ b = ⟨(l ++ b.data.toList).toArray⟩ := by
  apply ByteArray.ext
  rw [ByteArray.data_append]
  apply Array.toList_inj.1
  simp

theorem digits_g : ∀ (n : Nat), n ≤ 9223372036854775808 → Gives Tryd.prog F.errataref01_digits #[.int .i64 (-(n : Int))] (.string ⟨(Lib.decDigits n).toArray⟩) := by
  intro n
  induction n using Nat.strongRecOn with
  | _ n ih =>
    intro hn
    refine gives_of (Berrataref01_digits_run (-(n : Int))) fun W R Φ hs => ?_
    have e0 : (48 : Int) - (-(n : Int)).tmod 10 = 48 - -((n % 10 : Nat) : Int) := by rw [neg_tmod10]
    refine ⟨by omega, by rw [e0]; unfold I64; omega, fun k w G cx => ?_⟩
    rw [e0, wrap_dig _ (by omega)] at cx
    have hcell : ∀ j, (hj : j < [UInt8.ofNat (48 + n % 10)].length) → w.cell? ((⟨k, 0, none⟩ : Addr).add j) = some (.int .u8 ([UInt8.ofNat (48 + n % 10)][j].toNat : Int)) := fun j hj => by
      obtain rfl : j = 0 := by simpa using hj
      exact cx.get 0 rfl rfl
    refine ⟨_, _, run_convert_bytes_back w 93 9 5 ⟨k, 0, none⟩ 1 [UInt8.ofNat (48 + n % 10)] (by kernel_rfl) (by kernel_rfl) (by kernel_rfl) hcell, R, Φ, hs, cx.drop1, ?_⟩
    clear cx
    refine Br.intro (fun h => fun w G cx => ⟨?_, cx.left⟩) (fun h => ?_)
    · have h := of_decide_eq_true h
      rw [Lib.decDigits, dif_pos (by omega), show n % 10 = n by omega]
    · have h := of_decide_eq_false h
      have e1 := neg_tdiv10 n
      refine ⟨by omega, by rw [e1]; unfold I64; omega, fun w G cx => ?_⟩
      rw [e1]
      have hl := nDigits_le 19 (n / 10) (by omega) (by decide)
      have hd := Lib.decDigits_length (n / 10)
      refine ((ih (n / 10) (by omega) (by omega)).in).toS cx ⟨?_, fun w G cx => ⟨?_, cx.left⟩⟩
      · show (ByteArray.mk (Lib.decDigits (n / 10)).toArray).size + 1 ≤ _
        rw [size_list, hd]; omega
      · conv => rhs; rw [Lib.decDigits, dif_neg (by omega)]
        rw [mk_app]

theorem Int01_g (n : Int) (h : I64 n) : Gives Tryd.prog F.errataref01_Int #[.int .i64 n] (.string (intB n)) := by
  have hs := intB_size h
  unfold intB numB at hs
  rw [size_app, size_list, show (ByteArray.mk #[59]).size = 1 from rfl] at hs
  unfold I64 at h
  refine gives_of (Berrataref01_Int_run n) fun W R Φ _ => Br.intro (fun hn => ?_) (fun hn => ?_)
  · have hn := of_decide_eq_true hn
    have e : n = -((n.natAbs : Nat) : Int) := by omega
    have hi : Lib.itoa n = 45 :: Lib.decDigits n.natAbs := by unfold Lib.itoa; rw [if_pos hn]
    have hg := digits_g n.natAbs (by omega)
    rw [← e] at hg
    rw [hi, List.length_cons] at hs
    have e45 : (ByteArray.mk #[45]) ++ ByteArray.mk (Lib.decDigits n.natAbs).toArray = numB n := by
      unfold numB
      rw [show (ByteArray.mk #[45]) = ⟨[(45 : UInt8)].toArray⟩ from rfl, mk_app, hi]
      rfl
    refine fun w G cx => (hg.in).toS cx ⟨?_, ?_, fun w G cx => ⟨?_, cx.left⟩⟩
    · show 1 + (ByteArray.mk (Lib.decDigits n.natAbs).toArray).size ≤ _
      rw [size_list]; omega
    · show ((ByteArray.mk #[45]) ++ ByteArray.mk (Lib.decDigits n.natAbs).toArray).size + 1 ≤ _
      have e1 : (ByteArray.mk #[45]).size = 1 := rfl
      rw [size_app, size_list (Lib.decDigits n.natAbs), e1]
      omega
    · unfold intB
      rw [← e45]
  · have hn := of_decide_eq_false hn
    have e : 0 - n = -((n.toNat : Nat) : Int) := by omega
    have hi : Lib.itoa n = Lib.decDigits n.toNat := by unfold Lib.itoa; rw [if_neg hn]
    have hg := digits_g n.toNat (by omega)
    rw [← e, ← hi] at hg
    refine ⟨by unfold I64; omega, fun w G cx => (hg.in).toS cx ⟨?_, fun w G cx => ⟨rfl, cx.left⟩⟩⟩
    show (ByteArray.mk (Lib.itoa n).toArray).size + 1 ≤ _
    rw [size_list]; omega

theorem Num01_g (n : Int) (h : I64 n) : Gives Tryd.prog F.errataref01_Num #[.int .i64 n] (.string (natB n)) := by
  refine gives_of (Berrataref01_Num_run n) fun W R Φ _ => Br.intro (fun hn => fun w G cx => ⟨?_, cx.left⟩) (fun hn => fun w G cx => ((Int01_g n h).in).toS cx fun w G cx => ⟨?_, cx.left⟩)
  · unfold natB; rw [if_pos (of_decide_eq_true hn)]
  · unfold natB; rw [if_neg (of_decide_eq_false hn)]

theorem Text01_g (s : ByteArray) (hs : s.size ≤ 1000000000000) : Gives Tryd.prog F.errataref01_Text #[.string s] (.string (textB s)) := by
  have h1 := numB_size (n := (s.size : Int)) (by unfold I64; omega)
  have e : (0 : Int) - s.size = -((s.size : Nat) : Int) := by omega
  have hg := digits_g s.size (by omega)
  have hi : Lib.itoa (s.size : Int) = Lib.decDigits s.size := by unfold Lib.itoa; rw [if_neg (by omega)]; rfl
  rw [← e, ← hi] at hg
  have e1 : (ByteArray.mk #[58]).size = 1 := rfl
  refine gives_of (Berrataref01_Text_run s) fun W R Φ _ => ⟨by unfold I64; omega, fun w G cx => (hg.in).toS cx ⟨?_, ?_, ?_, fun w G cx => ⟨rfl, cx.left⟩⟩⟩
  · show (numB s.size).size + 1 ≤ _; omega
  · show (numB s.size ++ ByteArray.mk #[58]).size + s.size ≤ _; rw [size_app, e1]; omega
  · show (numB s.size ++ ByteArray.mk #[58] ++ s).size + 1 ≤ _; rw [size_app, size_app, e1]; omega

end Go.Proofs.YtfpgbejdlikpgaaDoor
end

