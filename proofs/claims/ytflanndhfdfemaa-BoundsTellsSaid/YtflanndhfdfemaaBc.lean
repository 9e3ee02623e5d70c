/-
  The conditions of the walks of some functions, one formula each; 'B<f>_run' says that they suffice. The formulas are printed by a program; the kernel compares them with the functions' code.
-/
import Derived.Test.YtflanndhfdfemaaBa
namespace Go.Proofs.Ytflanndhfdfemaa
set_option linter.unusedVariables false
set_option linter.unusedSimpArgs false
open Go.Vc

/-- erratalaw20.BoundsRefuse -/
-- loop at region 29: 22 i; blocks 
-- loop at region 23: 20 i; blocks 
-- known blocks: 4 p, 5 c, 13 q, 14 x
def Berratalaw20_BoundsRefuse (p0P : Option Addr) (p0N p0C : Nat) (p1P : Option Addr) (p1N p1C : Nat) (c0 : Int) (c1 : Int) (c2 : Int) (c3 : Int) (c4 : Int) (c5 : Int) (node : Int) (n : Int) (W : World) (R : List Own) (Φ : PW) (J : Value → World → Prop) : Prop :=
  ∀ (b b : Nat) (w0 : World) (R1 : List Own), Ctx W w0 (R ++ R1) Φ → Calls Try.prog F.erratalaw20_small #[] w0 fun (e2 : Ending) (w3 : World) => ∃ (c4_1 : Bool), e2 = Ending.returned
  (Value.bool c4_1) ∧ ∃ (R5 : List Own), ∃ (Φ6 : PW), Stable Φ6 ∧ Ctx W w3 (R5 ++ R1) Φ6 ∧ ∀ (w7 : World) (R8 : List Own), Ctx W w7 (R5 ++ R8) Φ6 → Calls Try.prog F.erratalaw20_few
  #[Value.agg #[Value.slice p0P p0N p0C, Value.slice p1P p1N p1C]] w7 fun (e9 : Ending) (w10 : World) => ∃ (c11 : Bool), e9 = Ending.returned (Value.bool c11) ∧ ∃ (R12 : List Own), ∃ (Φ13 :
  PW), Stable Φ13 ∧ Ctx W w10 (R12 ++ R8) Φ13 ∧ Br (!c11) (∀ (w14 : World) (R15 : List Own), Ctx W w14 (R12 ++ R15) Φ13 → J (Value.bool c4_1) w14) (Br (decide (node < 0)) (∀ (w16 : World)
  (R17 : List Own), Ctx W w16 (R12 ++ R17) Φ13 → J (Value.bool c4_1) w16) (Br (decide ((↑p1N : Int) ≤ node)) (∀ (w18 : World) (R19 : List Own), Ctx W w18 (R12 ++ R19) Φ13 → J (Value.bool
  c4_1) w18) (Br (decide (n < 1)) (∀ (w20 : World) (R21 : List Own), Ctx W w20 (R12 ++ R21) Φ13 → J (Value.bool c4_1) w20) (Br (decide (100 < n)) (∀ (w22 : World) (R23 : List Own), Ctx W w22
  (R12 ++ R23) Φ13 → J (Value.bool c4_1) w22) (∀ (w24 : World) (R25 : List Own), Ctx W w24 (R12 ++ R25) Φ13 → Calls Try.prog F.bounds_Analyze #[Value.agg #[Value.slice p0P p0N p0C,
  Value.slice p1P p1N p1C], Value.agg #[Value.int IntKind.i64 c0, Value.int IntKind.i64 c1, Value.int IntKind.i64 c2, Value.int IntKind.i64 c3, Value.int IntKind.i64 c4, Value.int IntKind.i64
  c5]] w24 fun (e26 : Ending) (w27 : World) => ∃ (p28 : Option Addr), ∃ (k29 : Nat), ∃ (k30 : Nat), ∃ (n31 : Int), ∃ (n32 : Int), e26 = Ending.returned (Value.tuple #[Value.slice p28 k29 k30,
  Value.int IntKind.i64 n31, Value.int IntKind.i64 n32]) ∧ ∃ (R33 : List Own), ∃ (Φ34 : PW), Stable Φ34 ∧ Ctx W w27 (R33 ++ R25) Φ34 ∧ ∀ (w35 : World) (R36 : List Own), Ctx W w35 (R33 ++ R36)
  Φ34 → Br (decide (n32 ≠ 0) || decide ((↑k29 : Int) = 0)) (∀ (w37 : World) (R38 : List Own), Ctx W w37 (R33 ++ R38) Φ34 → J (Value.bool c4_1) w37) (∀ (k39 : Nat) (w40 : World) (R41 : List
  Own), Ctx W w40 (Own.blk k39 [] 44 :: R33 ++ R41) Φ34 → ∃ (p42 : Option Addr), ∃ (k43 : Nat), ∃ (k44 : Nat), ∃ (w45 : World), Sem.run Try.prog (builtin Builtin.append #[23, 23] 23 #[false,
  false] #[Value.slice (some (Addr.mk k39 0 none)) 0 0, Value.slice p1P p1N p1C]) w40 = Result.ok (Next.value (Value.slice p42 k43 k44)) w45 ∧ ∃ (R46 : List Own), ∃ (Φ47 : PW), Stable Φ47 ∧
  Ctx W w45 (R46 ++ R41) Φ47 ∧ ∀ (b : Nat), (0 ≤ node ∧ node < (↑k43 : Int)) ∧ ptrK none p42 fun (k48 k49 : Nat) => ∀ (w50 : World) (R51 : List Own), Ctx W w50 (R46 ++ R51) Φ47 → ∃ (n52 :
  Int), ∃ (p53 : Option Addr), ∃ (k54 : Nat), ∃ (k55 : Nat), ∃ (s56 : ByteArray), ∃ (n57 : Int), ∃ (p58 : Option Addr), ∃ (k59 : Nat), ∃ (k60 : Nat), ∃ (n61 : Int), ∃ (n62 : Int), ∃ (n63 :
  Int), ∃ (p64 : Option Addr), ∃ (k65 : Nat), ∃ (k66 : Nat), ∃ (p67 : Option Addr), ∃ (k68 : Nat), ∃ (k69 : Nat), ∃ (n70 : Int), ∃ (n71 : Int), ∃ (n72 : Int), ∃ (p73 : Option Addr), ∃ (k74 :
  Nat), ∃ (k75 : Nat), ∃ (p76 : Option Addr), ∃ (k77 : Nat), ∃ (k78 : Nat), ∃ (p79 : Option Addr), ∃ (k80 : Nat), ∃ (k81 : Nat), RowAt w50 k48 (k49 + node.toNat * 16) [Value.int IntKind.i64
  n52, Value.slice p53 k54 k55, Value.string s56, Value.int IntKind.i64 n57, Value.slice p58 k59 k60, Value.int IntKind.i64 n61, Value.int IntKind.i64 n62, Value.int IntKind.i64 n63,
  Value.slice p64 k65 k66, Value.slice p67 k68 k69, Value.int IntKind.i64 n70, Value.int IntKind.i64 n71, Value.int IntKind.i64 n72, Value.slice p73 k74 k75, Value.slice p76 k77 k78,
  Value.slice p79 k80 k81] ∧ ∀ (b : Nat), (0 ≤ node ∧ node < (↑k43 : Int)) ∧ ptrK none p42 fun (k82 k83 : Nat) => ∀ (w84 : World) (R85 : List Own), Ctx W w84 (R46 ++ R85) Φ47 → CanWrite w84
  k82 (k83 + node.toNat * 16) 16 ∧ ∀ (w86 : World), w86 = w84.setCells k82 (k83 + node.toNat * 16) [Value.int IntKind.i64 n52, Value.slice p53 k54 k55, Value.string s56, Value.int IntKind.i64
  n57, Value.slice p58 k59 k60, Value.int IntKind.i64 n61, Value.int IntKind.i64 (-1), Value.int IntKind.i64 (-1), Value.slice p64 k65 k66, Value.slice p67 k68 k69, Value.int IntKind.i64
  (-1), Value.int IntKind.i64 (-1), Value.int IntKind.i64 (-1), Value.slice p73 k74 k75, Value.slice p76 k77 k78, Value.slice p79 k80 k81] → ∃ (R87 : List Own), ∃ (Φ88 : PW), Stable Φ88 ∧ Ctx
  W w86 (R87 ++ R85) Φ88 ∧ ∀ (w89 : World) (R90 : List Own), Ctx W w89 (R87 ++ R90) Φ88 → Calls Try.prog F.bounds_Analyze #[Value.agg #[Value.slice none 0 0, Value.slice p42 k43 k44],
  Value.agg #[Value.int IntKind.i64 c0, Value.int IntKind.i64 c1, Value.int IntKind.i64 c2, Value.int IntKind.i64 c3, Value.int IntKind.i64 c4, Value.int IntKind.i64 c5]] w89 fun (e91 :
  Ending) (w92 : World) => ∃ (p93 : Option Addr), ∃ (k94 : Nat), ∃ (k95 : Nat), ∃ (n96 : Int), ∃ (n97 : Int), e91 = Ending.returned (Value.tuple #[Value.slice p93 k94 k95, Value.int
  IntKind.i64 n96, Value.int IntKind.i64 n97]) ∧ ∃ (R98 : List Own), ∃ (Φ99 : PW), Stable Φ99 ∧ Ctx W w92 (R98 ++ R90) Φ99 ∧ Br (!decide (3 < n52)) (∀ (w100 : World) (R101 : List Own), Ctx W
  w100 (R98 ++ R101) Φ99 → ∀ (w102 : World) (R103 : List Own), Ctx W w102 (R98 ++ R103) Φ99 → J (Value.bool (c4_1 && decide (n97 = 0) && decide (n96 = -1))) w102) (Br (decide (n97 ≠ 14)) (∀
  (w104 : World) (R105 : List Own), Ctx W w104 (R98 ++ R105) Φ99 → J (Value.bool false) w104) (Br (decide (n96 ≠ node)) (∀ (w106 : World) (R107 : List Own), Ctx W w106 (R98 ++ R107) Φ99 → J
  (Value.bool false) w106) (∀ (w108 : World) (R109 : List Own), Ctx W w108 (R98 ++ R109) Φ99 → Calls Try.prog F.bounds_Bounded #[Value.agg #[Value.int IntKind.i64 n52, Value.slice p53 k54
  k55, Value.string s56, Value.int IntKind.i64 n57, Value.slice p58 k59 k60, Value.int IntKind.i64 n61, Value.int IntKind.i64 (-1), Value.int IntKind.i64 (-1), Value.slice p64 k65 k66,
  Value.slice p67 k68 k69, Value.int IntKind.i64 (-1), Value.int IntKind.i64 (-1), Value.int IntKind.i64 (-1), Value.slice p73 k74 k75, Value.slice p76 k77 k78, Value.slice p79 k80 k81]] w108
  fun (e110 : Ending) (w111 : World) => ∃ (c112 : Bool), e110 = Ending.returned (Value.bool c112) ∧ ∃ (R113 : List Own), ∃ (Φ114 : PW), Stable Φ114 ∧ Ctx W w111 (R113 ++ R109) Φ114 ∧ Br c112
  (∀ (w115 : World) (R116 : List Own), Ctx W w115 (R113 ++ R116) Φ114 → J (Value.bool false) w115) (∀ (w117 : World) (R118 : List Own), Ctx W w117 (R113 ++ R118) Φ114 → ((0 : Int) ≤ 0 ∧ 0 <
  (↑k54 : Int)) ∧ ptrK none p53 fun (k119 k120 : Nat) => ∃ (n121 : Int), w117.cell? (Addr.mk k119 k120 none) = some (Value.int IntKind.i64 n121) ∧ (0 ≤ n121 ∧ n121 < (↑k43 : Int)) ∧ ptrK none
  p42 fun (k122 k123 : Nat) => ∃ (p124 : Option Addr), ∃ (k125 : Nat), ∃ (k126 : Nat), w117.cell? (Addr.mk k122 (k123 + n121.toNat * 16 + 15) none) = some (Value.slice p124 k125 k126) ∧ exI
  fun (I127 : Int → List Own → PW → Nat → Prop) => (∃ (R128 : List Own), ∃ (Φ129 : PW), ∃ (k130 : Nat), Stable Φ129 ∧ (∀ (w131 : World) (R132 : List Own), Ctx W w131 (R113 ++ R132) Φ114 → Ctx
  W w131 (R128 ++ R132) Φ129) ∧ I127 0 R128 Φ129 k130) ∧ ∀ (n133 : Int) (R134 : List Own) (I135 : List Nat → World → Prop) (k136 : Nat), Stable I135 → I127 n133 R134 I135 k136 → Br (decide
  (n133 < (↑k125 : Int))) (∀ (w137 : World) (R138 : List Own), Ctx W w137 (R134 ++ R138) I135 → (0 ≤ n133 ∧ n133 < (↑k125 : Int)) ∧ ptrK none p124 fun (k139 k140 : Nat) => ∃ (n141 : Int),
  w137.cell? (Addr.mk k139 (k140 + n133.toNat * 3 + 1) none) = some (Value.int IntKind.i64 n141) ∧ ((!decide (n141 < 0)) = true → 0 ≤ n133 ∧ n133 < (↑k125 : Int)) ∧ ptrK (some !decide (n141 <
  0)) p124 fun (k142 k143 : Nat) => ∃ (n144 : Int), ((!decide (n141 < 0)) = true → w137.cell? (Addr.mk k142 (k143 + n133.toNat * 3 + 1) none) = some (Value.int IntKind.i64 n144)) ∧ Br (decide
  (n141 < 0) || decide (3 ≤ n144)) (Br c4_1 (∀ (w145 : World) (R146 : List Own), Ctx W w145 (R134 ++ R146) I135 → Calls Try.prog F.bounds_Witness #[Value.agg #[Value.slice none 0 0,
  Value.slice p42 k43 k44], Value.int IntKind.i64 node, Value.int IntKind.i64 n] w145 fun (e147 : Ending) (w148 : World) => ∃ (p149 : Option Addr), ∃ (k150 : Nat), ∃ (k151 : Nat), e147 =
  Ending.returned (Value.slice p149 k150 k151) ∧ ∃ (R152 : List Own), ∃ (Φ153 : PW), Stable Φ153 ∧ Ctx W w148 (R152 ++ R146) Φ153 ∧ ∀ (w154 : World) (R155 : List Own), Ctx W w154 (R152 ++
  R155) Φ153 → J (Value.bool (decide ((↑k150 : Int) = 0))) w154) (∀ (w156 : World) (R157 : List Own), Ctx W w156 (R134 ++ R157) I135 → J (Value.bool false) w156)) (I64 (n133 + 1) ∧ ∃ (R158 :
  List Own), ∃ (Φ159 : PW), ∃ (k160 : Nat), Stable Φ159 ∧ (∀ (w161 : World) (R162 : List Own), Ctx W w161 (R134 ++ R162) I135 → Ctx W w161 (R158 ++ R162) Φ159) ∧ I127 (n133 + 1) R158 Φ159
  k160 ∧ k160 < k136)) (∀ (w163 : World) (R164 : List Own), Ctx W w163 (R134 ++ R164) I135 → Calls Try.prog F.bounds_Witness #[Value.agg #[Value.slice none 0 0, Value.slice p42 k43 k44],
  Value.int IntKind.i64 node, Value.int IntKind.i64 n] w163 fun (e165 : Ending) (w166 : World) => ∃ (p167 : Option Addr), ∃ (k168 : Nat), ∃ (k169 : Nat), e165 = Ending.returned (Value.slice
  p167 k168 k169) ∧ ∃ (R170 : List Own), ∃ (Φ171 : PW), Stable Φ171 ∧ Ctx W w166 (R170 ++ R164) Φ171 ∧ exI fun (I172 : Int → List Own → PW → Nat → Prop) => (∃ (R173 : List Own), ∃ (Φ174 :
  PW), ∃ (k175 : Nat), Stable Φ174 ∧ (∀ (w176 : World) (R177 : List Own), Ctx W w176 (R170 ++ R177) Φ171 → Ctx W w176 (R173 ++ R177) Φ174) ∧ I172 1 R173 Φ174 k175) ∧ ∀ (n178 : Int) (R179 :
  List Own) (I180 : List Nat → World → Prop) (k181 : Nat), Stable I180 → I172 n178 R179 I180 k181 → Br (decide (n178 < (↑k168 : Int))) (∀ (w182 : World) (R183 : List Own), Ctx W w182 (R179 ++
  R183) I180 → (0 ≤ n178 ∧ n178 < (↑k168 : Int)) ∧ ptrK none p167 fun (k184 k185 : Nat) => ∃ (n186 : Int), w182.cell? (Addr.mk k184 (k185 + n178.toNat * 3) none) = some (Value.int IntKind.i64
  n186) ∧ I64 (n178 - 1) ∧ (0 ≤ n178 - 1 ∧ n178 - 1 < (↑k168 : Int)) ∧ ptrK none p167 fun (k187 k188 : Nat) => ∃ (n189 : Int), w182.cell? (Addr.mk k187 (k188 + (n178 - 1).toNat * 3) none) =
  some (Value.int IntKind.i64 n189) ∧ I64 (n186 - n189) ∧ ((!decide (n186 - n189 ≤ c5)) = true → 0 ≤ n178 ∧ n178 < (↑k168 : Int)) ∧ ptrK (some !decide (n186 - n189 ≤ c5)) p167 fun (k190 k191
  : Nat) => ∃ (n192 : Int), ((!decide (n186 - n189 ≤ c5)) = true → w182.cell? (Addr.mk k190 (k191 + n178.toNat * 3 + 2) none) = some (Value.int IntKind.i64 n192)) ∧ ((!(decide (n186 - n189 ≤
  c5) || decide (n192 ≠ 1))) = true → 0 ≤ n178 ∧ n178 < (↑k168 : Int)) ∧ ptrK (some !(decide (n186 - n189 ≤ c5) || decide (n192 ≠ 1))) p167 fun (k193 k194 : Nat) => ∃ (p195 : Option Addr), ∃
  (k196 : Nat), ∃ (k197 : Nat), ((!(decide (n186 - n189 ≤ c5) || decide (n192 ≠ 1))) = true → w182.cell? (Addr.mk k193 (k194 + n178.toNat * 3 + 1) none) = some (Value.slice p195 k196 k197)) ∧
  Br (decide (n186 - n189 ≤ c5) || decide (n192 ≠ 1) || decide ((↑k196 : Int) ≠ (↑k125 : Int))) (∀ (w198 : World) (R199 : List Own), Ctx W w198 (R179 ++ R199) I180 → J (Value.bool false)
  w198) (I64 (n178 + 1) ∧ ∃ (R200 : List Own), ∃ (Φ201 : PW), ∃ (k202 : Nat), Stable Φ201 ∧ (∀ (w203 : World) (R204 : List Own), Ctx W w203 (R179 ++ R204) I180 → Ctx W w203 (R200 ++ R204)
  Φ201) ∧ I172 (n178 + 1) R200 Φ201 k202 ∧ k202 < k181)) (∀ (w205 : World) (R206 : List Own), Ctx W w205 (R179 ++ R206) I180 → ∀ (w207 : World) (R208 : List Own), Ctx W w207 (R179 ++ R208)
  I180 → J (Value.bool (c4_1 && decide ((↑k168 : Int) = n))) w207))))))))))))

theorem Berratalaw20_BoundsRefuse_run (p0P : Option Addr) (p0N p0C : Nat) (p1P : Option Addr) (p1N p1C : Nat) (c0 : Int) (c1 : Int) (c2 : Int) (c3 : Int) (c4 : Int) (c5 : Int) (node : Int) (n : Int) {W w : World} {R : List Own} {Φ : PW} [Stable Φ] {J : Value → World → Prop} (c : Ctx W w R Φ) (h : Berratalaw20_BoundsRefuse p0P p0N p0C p1P p1N p1C c0 c1 c2 c3 c4 c5 node n W R Φ J) : Calls Try.prog F.erratalaw20_BoundsRefuse #[.agg #[.slice p0P p0N p0C, .slice p1P p1N p1C], .agg #[.int .i64 c0, .int .i64 c1, .int .i64 c2, .int .i64 c3, .int .i64 c4, .int .i64 c5], .int .i64 node, .int .i64 n] w fun e w' => ∃ v, e = .returned v ∧ J v w' :=
  vcFS_sound (H := { keep := some [2, 3, 4, 5, 8, 9, 10, 12, 13, 14, 15, 17, 18, 19, 20, 21, 22, 45, 60, 93, 113, 126, 142, 159, 195], track := [4, 5, 13, 14], split := [2, 19, 26], loops := [(29, [(22, .one (.int .i64))], []), (23, [(20, .one (.int .i64))], [])] }) (by rw [show vcFS Try.prog W { keep := some [2, 3, 4, 5, 8, 9, 10, 12, 13, 14, 15, 17, 18, 19, 20, 21, 22, 45, 60, 93, 113, 126, 142, 159, 195], track := [4, 5, 13, 14], split := [2, 19, 26], loops := [(29, [(22, .one (.int .i64))], []), (23, [(20, .one (.int .i64))], [])] } F.erratalaw20_BoundsRefuse #[.agg #[.slice p0P p0N p0C, .slice p1P p1N p1C], .agg #[.int .i64 c0, .int .i64 c1, .int .i64 c2, .int .i64 c3, .int .i64 c4, .int .i64 c5], .int .i64 node, .int .i64 n] R Φ J = Berratalaw20_BoundsRefuse p0P p0N p0C p1P p1N p1C c0 c1 c2 c3 c4 c5 node n W R Φ J by kernel_rfl]; exact h) c

/-- bounds.Witness -/
-- loop at region 12: 60 ; blocks 10 d
-- loop at region 8: 8 out, 44 ; blocks 
-- known blocks: 3 p, 7 x, 10 d, 12 c
def Bbounds_Witness (p0P : Option Addr) (p0N p0C : Nat) (p1P : Option Addr) (p1N p1C : Nat) (node : Int) (n : Int) (W : World) (R : List Own) (Φ : PW) (J : Value → World → Prop) : Prop :=
  ∀ (b : Nat) (w0 : World) (R1 : List Own), Ctx W w0 (R ++ R1) Φ → Calls Try.prog F.bounds_Well #[Value.agg #[Value.slice p0P p0N p0C, Value.slice p1P p1N p1C]] w0 fun (e2 : Ending) (w3 :
  World) => ∃ (c4 : Bool), e2 = Ending.returned (Value.bool c4) ∧ ∃ (R5 : List Own), ∃ (Φ6 : PW), Stable Φ6 ∧ Ctx W w3 (R5 ++ R1) Φ6 ∧ Br (!c4) (∀ (w7 : World) (R8 : List Own), Ctx W w7 (R5
  ++ R8) Φ6 → J (Value.slice none 0 0) w7) (I64 ((↑p1N : Int) - 1) ∧ ∀ (w9 : World) (R10 : List Own), Ctx W w9 (R5 ++ R10) Φ6 → Calls Try.prog F.bounds_within #[Value.int IntKind.i64 node,
  Value.int IntKind.i64 0, Value.int IntKind.i64 ((↑p1N : Int) - 1)] w9 fun (e11 : Ending) (w12 : World) => ∃ (c13 : Bool), e11 = Ending.returned (Value.bool c13) ∧ ∃ (R14 : List Own), ∃ (Φ15
  : PW), Stable Φ15 ∧ Ctx W w12 (R14 ++ R10) Φ15 ∧ Br (!c13) (∀ (w16 : World) (R17 : List Own), Ctx W w16 (R14 ++ R17) Φ15 → J (Value.slice none 0 0) w16) (∀ (w18 : World) (R19 : List Own),
  Ctx W w18 (R14 ++ R19) Φ15 → Calls Try.prog F.bounds_within #[Value.int IntKind.i64 n, Value.int IntKind.i64 1, Value.int IntKind.i64 1000] w18 fun (e20 : Ending) (w21 : World) => ∃ (c22 :
  Bool), e20 = Ending.returned (Value.bool c22) ∧ ∃ (R23 : List Own), ∃ (Φ24 : PW), Stable Φ24 ∧ Ctx W w21 (R23 ++ R19) Φ24 ∧ Br (!c22) (∀ (w25 : World) (R26 : List Own), Ctx W w25 (R23 ++
  R26) Φ24 → J (Value.slice none 0 0) w25) ((0 ≤ node ∧ node < (↑p1N : Int)) ∧ ptrK none p1P fun (k27 k28 : Nat) => ∀ (w29 : World) (R30 : List Own), Ctx W w29 (R23 ++ R30) Φ24 → ∃ (n31 :
  Int), ∃ (p32 : Option Addr), ∃ (k33 : Nat), ∃ (k34 : Nat), ∃ (s35 : ByteArray), ∃ (n36 : Int), ∃ (p37 : Option Addr), ∃ (k38 : Nat), ∃ (k39 : Nat), ∃ (n40 : Int), ∃ (n41 : Int), ∃ (n42 :
  Int), ∃ (p43 : Option Addr), ∃ (k44 : Nat), ∃ (k45 : Nat), ∃ (p46 : Option Addr), ∃ (k47 : Nat), ∃ (k48 : Nat), ∃ (n49 : Int), ∃ (n50 : Int), ∃ (n51 : Int), ∃ (p52 : Option Addr), ∃ (k53 :
  Nat), ∃ (k54 : Nat), ∃ (p55 : Option Addr), ∃ (k56 : Nat), ∃ (k57 : Nat), ∃ (p58 : Option Addr), ∃ (k59 : Nat), ∃ (k60 : Nat), RowAt w29 k27 (k28 + node.toNat * 16) [Value.int IntKind.i64
  n31, Value.slice p32 k33 k34, Value.string s35, Value.int IntKind.i64 n36, Value.slice p37 k38 k39, Value.int IntKind.i64 n40, Value.int IntKind.i64 n41, Value.int IntKind.i64 n42,
  Value.slice p43 k44 k45, Value.slice p46 k47 k48, Value.int IntKind.i64 n49, Value.int IntKind.i64 n50, Value.int IntKind.i64 n51, Value.slice p52 k53 k54, Value.slice p55 k56 k57,
  Value.slice p58 k59 k60] ∧ ∀ (b : Nat) (w61 : World) (R62 : List Own), Ctx W w61 (R23 ++ R62) Φ24 → Calls Try.prog F.bounds_Bounded #[Value.agg #[Value.int IntKind.i64 n31, Value.slice p32
  k33 k34, Value.string s35, Value.int IntKind.i64 n36, Value.slice p37 k38 k39, Value.int IntKind.i64 n40, Value.int IntKind.i64 n41, Value.int IntKind.i64 n42, Value.slice p43 k44 k45,
  Value.slice p46 k47 k48, Value.int IntKind.i64 n49, Value.int IntKind.i64 n50, Value.int IntKind.i64 n51, Value.slice p52 k53 k54, Value.slice p55 k56 k57, Value.slice p58 k59 k60]] w61 fun
  (e63 : Ending) (w64 : World) => ∃ (c65 : Bool), e63 = Ending.returned (Value.bool c65) ∧ ∃ (R66 : List Own), ∃ (Φ67 : PW), Stable Φ67 ∧ Ctx W w64 (R66 ++ R62) Φ67 ∧ Br c65 (∀ (w68 : World)
  (R69 : List Own), Ctx W w68 (R66 ++ R69) Φ67 → J (Value.slice none 0 0) w68) (Br (decide ((↑k33 : Int) = 0)) (∀ (w70 : World) (R71 : List Own), Ctx W w70 (R66 ++ R71) Φ67 → J (Value.slice
  none 0 0) w70) (exI fun (I72 : Option Addr → Nat → Nat → Int → List Own → PW → Nat → Prop) => (∃ (R73 : List Own), ∃ (Φ74 : PW), ∃ (k75 : Nat), Stable Φ74 ∧ (∀ (w76 : World) (R77 : List
  Own), Ctx W w76 (R66 ++ R77) Φ67 → Ctx W w76 (R73 ++ R77) Φ74) ∧ I72 none 0 0 0 R73 Φ74 k75) ∧ ∀ (p78 : Option Addr) (k79 k80 : Nat) (n81 : Int) (R82 : List Own) (I83 : List Nat → World →
  Prop) (k84 : Nat), Stable I83 → I72 p78 k79 k80 n81 R82 I83 k84 → Br (decide (n81 < n)) (I64 (30001 * n81) ∧ ∀ (b : Nat) (w85 : World) (R86 : List Own), Ctx W w85 (R82 ++ R86) I83 → ((0 :
  Int) ≤ 0 ∧ 0 < (↑k33 : Int)) ∧ ptrK none p32 fun (k87 k88 : Nat) => ∃ (n89 : Int), w85.cell? (Addr.mk k87 k88 none) = some (Value.int IntKind.i64 n89) ∧ (0 ≤ n89 ∧ n89 < (↑p1N : Int)) ∧
  ptrK none p1P fun (k90 k91 : Nat) => ∃ (p92 : Option Addr), ∃ (k93 : Nat), ∃ (k94 : Nat), w85.cell? (Addr.mk k90 (k91 + n89.toNat * 16 + 15) none) = some (Value.slice p92 k93 k94) ∧ exI fun
  (I95 : Int → Int → Option Addr → Nat → Nat → Int → List Own → PW → Nat → Prop) => (∃ (R96 : List Own), ∃ (Φ97 : PW), ∃ (k98 : Nat), Stable Φ97 ∧ (∀ (w99 : World) (R100 : List Own), Ctx W
  w99 (R82 ++ R100) I83 → Ctx W w99 (R96 ++ R100) Φ97) ∧ I95 0 (30001 * n81) none 0 0 1 R96 Φ97 k98) ∧ ∀ (n101 n102 : Int) (p103 : Option Addr) (k104 k105 : Nat) (n106 : Int) (R107 : List
  Own) (I108 : List Nat → World → Prop) (k109 : Nat), Stable I108 → I95 n101 n102 p103 k104 k105 n106 R107 I108 k109 → Br (decide (n101 < (↑k93 : Int))) ((0 ≤ n101 ∧ n101 < (↑k93 : Int)) ∧
  ptrK none p92 fun (k110 k111 : Nat) => ∀ (w112 : World) (R113 : List Own), Ctx W w112 (R107 ++ R113) I108 → ∃ (s114 : ByteArray), ∃ (n115 : Int), ∃ (s116 : ByteArray), RowAt w112 k110 (k111
  + n101.toNat * 3) [Value.string s114, Value.int IntKind.i64 n115, Value.string s116] ∧ ∀ (b : Nat) (w117 : World) (R118 : List Own), Ctx W w117 (R107 ++ R118) I108 → Calls Try.prog
  F.bounds_within #[Value.int IntKind.i64 n115, Value.int IntKind.i64 0, Value.int IntKind.i64 2] w117 fun (e119 : Ending) (w120 : World) => ∃ (c121 : Bool), e119 = Ending.returned
  (Value.bool c121) ∧ ∃ (R122 : List Own), ∃ (Φ123 : PW), Stable Φ123 ∧ Ctx W w120 (R122 ++ R118) Φ123 ∧ Br (!c121) (∀ (w124 : World) (R125 : List Own), Ctx W w124 (R122 ++ R125) Φ123 → J
  (Value.slice none 0 0) w124) (∀ (w126 : World) (R127 : List Own), Ctx W w126 (R122 ++ R127) Φ123 → Calls Try.prog F.value_Zero #[Value.int IntKind.i64 n115] w126 fun (e128 : Ending) (w129 :
  World) => ∃ (n130 : Int), ∃ (n131 : Int), ∃ (s132 : ByteArray), e128 = Ending.returned (Value.agg #[Value.int IntKind.i64 n130, Value.int IntKind.i64 n131, Value.string s132]) ∧ ∃ (R133 :
  List Own), ∃ (Φ134 : PW), Stable Φ134 ∧ Ctx W w129 (R133 ++ R127) Φ134 ∧ (∀ (R135 : List Nat) (w136 : World), Φ134 R135 w136 → Φ123 R135 w136) ∧ ∀ (k137 : Nat), (∀ (R138 : List Nat) (w139 :
  World), Φ134 R138 w139 → Φ123 R138 w139) ∧ ∀ (w140 : World) (R141 : List Own), Ctx W w140 (Own.blk k137 [Value.int IntKind.i64 n130, Value.int IntKind.i64 n131, Value.string s132] 70 ::
  R133 ++ R141) Φ134 → ∃ (p142 : Option Addr), ∃ (k143 : Nat), ∃ (k144 : Nat), ∃ (w145 : World), Sem.run Try.prog (builtin Builtin.append #[53, 53] 53 #[false, false] #[Value.slice p103 k104
  k105, Value.slice (some (Addr.mk k137 0 none)) 1 1]) w140 = Result.ok (Next.value (Value.slice p142 k143 k144)) w145 ∧ ∃ (R146 : List Own), ∃ (Φ147 : PW), Stable Φ147 ∧ Ctx W w145 (R146 ++
  R141) Φ147 ∧ (∀ (R148 : List Nat) (w149 : World), Φ147 R148 w149 → Φ123 R148 w149) ∧ I64 (n101 + 1) ∧ ∃ (R150 : List Own), ∃ (Φ151 : PW), ∃ (k152 : Nat), Stable Φ151 ∧ (∀ (w153 : World)
  (R154 : List Own), Ctx W w153 (R146 ++ R154) Φ147 → Ctx W w153 (R150 ++ R154) Φ151) ∧ I95 (n101 + 1) n102 p142 k143 k144 n106 R150 Φ151 k152 ∧ k152 < k109)) (∀ (k155 : Nat) (w156 : World)
  (R157 : List Own), Ctx W w156 (Own.blk k155 [Value.int IntKind.i64 n102, Value.slice p103 k104 k105, Value.int IntKind.i64 n106] 55 :: R107 ++ R157) I108 → ∃ (p158 : Option Addr), ∃ (k159 :
  Nat), ∃ (k160 : Nat), ∃ (w161 : World), Sem.run Try.prog (builtin Builtin.append #[51, 51] 51 #[false, false] #[Value.slice p78 k79 k80, Value.slice (some (Addr.mk k155 0 none)) 1 1]) w156
  = Result.ok (Next.value (Value.slice p158 k159 k160)) w161 ∧ ∃ (R162 : List Own), ∃ (Φ163 : PW), Stable Φ163 ∧ Ctx W w161 (R162 ++ R157) Φ163 ∧ I64 (n81 + 1) ∧ ∃ (R164 : List Own), ∃ (Φ165
  : PW), ∃ (k166 : Nat), Stable Φ165 ∧ (∀ (w167 : World) (R168 : List Own), Ctx W w167 (R162 ++ R168) Φ163 → Ctx W w167 (R164 ++ R168) Φ165) ∧ I72 p158 k159 k160 (n81 + 1) R164 Φ165 k166 ∧
  k166 < k84)) (∀ (w169 : World) (R170 : List Own), Ctx W w169 (R82 ++ R170) I83 → J (Value.slice p78 k79 k80) w169))))))

theorem Bbounds_Witness_run (p0P : Option Addr) (p0N p0C : Nat) (p1P : Option Addr) (p1N p1C : Nat) (node : Int) (n : Int) {W w : World} {R : List Own} {Φ : PW} [Stable Φ] {J : Value → World → Prop} (c : Ctx W w R Φ) (h : Bbounds_Witness p0P p0N p0C p1P p1N p1C node n W R Φ J) : Calls Try.prog F.bounds_Witness #[.agg #[.slice p0P p0N p0C, .slice p1P p1N p1C], .int .i64 node, .int .i64 n] w fun e w' => ∃ v, e = .returned v ∧ J v w' :=
  vcFS_sound (H := { keep := some [1, 2, 3, 6, 7, 8, 9, 10, 12, 29, 42, 43, 44, 45, 58, 59, 60, 61, 67], track := [3, 7, 10, 12], stages := [(16, [.held [(0, true), (2, true), (1, true), (3, true), (4, false), (5, false), (6, false), (7, true)], .stage [] (some 8)])], split := [1, 4], loops := [(12, [(60, .one (.int .i64))], [(10, .agg [.int .i64, .slice, .int .i64])]), (8, [(8, .one (.slice)), (44, .one (.int .i64))], [])] }) (by rw [show vcFS Try.prog W { keep := some [1, 2, 3, 6, 7, 8, 9, 10, 12, 29, 42, 43, 44, 45, 58, 59, 60, 61, 67], track := [3, 7, 10, 12], stages := [(16, [.held [(0, true), (2, true), (1, true), (3, true), (4, false), (5, false), (6, false), (7, true)], .stage [] (some 8)])], split := [1, 4], loops := [(12, [(60, .one (.int .i64))], [(10, .agg [.int .i64, .slice, .int .i64])]), (8, [(8, .one (.slice)), (44, .one (.int .i64))], [])] } F.bounds_Witness #[.agg #[.slice p0P p0N p0C, .slice p1P p1N p1C], .int .i64 node, .int .i64 n] R Φ J = Bbounds_Witness p0P p0N p0C p1P p1N p1C node n W R Φ J by kernel_rfl]; exact h) c

/-- value.Zero -/
-- known blocks: 2 
def Bvalue_Zero (kind : Int) (W : World) (R : List Own) (Φ : PW) (J : Value → World → Prop) : Prop :=
  ∀ (b : Nat) (w0 : World) (R1 : List Own), Ctx W w0 (R ++ R1) Φ → J (Value.agg #[Value.int IntKind.i64 kind, Value.int IntKind.i64 0, Value.string (ByteArray.mk #[])]) w0

theorem Bvalue_Zero_run (kind : Int) {W w : World} {R : List Own} {Φ : PW} [Stable Φ] {J : Value → World → Prop} (c : Ctx W w R Φ) (h : Bvalue_Zero kind W R Φ J) : Calls Try.prog F.value_Zero #[.int .i64 kind] w fun e w' => ∃ v, e = .returned v ∧ J v w' :=
  vcFS_sound (H := { keep := some [0, 2], track := [2] }) (by rw [show vcFS Try.prog W { keep := some [0, 2], track := [2] } F.value_Zero #[.int .i64 kind] R Φ J = Bvalue_Zero kind W R Φ J by kernel_rfl]; exact h) c

end Go.Proofs.Ytflanndhfdfemaa
