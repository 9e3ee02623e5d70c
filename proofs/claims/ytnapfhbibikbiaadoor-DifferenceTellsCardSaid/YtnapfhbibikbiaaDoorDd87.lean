/-
  The conditions of the walks of some functions, one formula each; 'B<f>_run' says that they suffice. The formulas are printed by a program; the kernel compares them with the functions' code.
-/
import Derived.Test.YtnapfhbibikbiaaDoorDd84
import Derived.Test.YtnapfhbibikbiaaDoorDd86
import Derived.Lib.AppendZeros
import Derived.Test.YtnapfhbibikbiaaDoorDd85
import Derived.Shelf.Strings.Builder1
import Derived.Shelf.Strconv.Itoa3
import Derived.Lib.AppendStr
import Derived.Lib.LaidTab
import Derived.LaidMore
import Derived.OpenShut
import Derived.Stop.Joined

section
namespace Go.Proofs.YtnapfhbibikbiaaDoor
set_option linter.unusedVariables false
set_option linter.unusedSimpArgs false
set_option maxRecDepth 100000
open Go.Vc

/-- erratalaw42.DifferenceTells -/
-- loop at region 12: 19 k; blocks 
def Berratalaw42_DifferenceTells (aP : Option Addr) (aN aC : Nat) (bP : Option Addr) (bN bC : Nat) (no : Int) (batch : Int) (mark : Int) (replace : Int) (lP : Option Addr) (lN lC : Nat) (bucket : Int) (W : World) (R : List Own) (Φ : PW) (J : Value → World → Prop) : Prop :=
  ∀ (w0 : World) (R1 : List Own), Ctx W w0 (R ++ R1) Φ → Calls Tryd.prog F.erratalaw42_small #[] w0 fun (e2 : Ending) (w3 : World) => ∃ (c4 : Bool), e2 = Ending.returned (Value.bool c4) ∧ ∃
  (R5 : List Own), ∃ (Φ6 : PW), Stable Φ6 ∧ Ctx W w3 (R5 ++ R1) Φ6 ∧ ∀ (w7 : World) (R8 : List Own), Ctx W w7 (R5 ++ R8) Φ6 → Calls Tryd.prog F.errataref42_Right #[Value.slice aP aN aC,
  Value.int IntKind.i64 50] w7 fun (e9 : Ending) (w10 : World) => ∃ (c11 : Bool), e9 = Ending.returned (Value.bool c11) ∧ ∃ (R12 : List Own), ∃ (Φ13 : PW), Stable Φ13 ∧ Ctx W w10 (R12 ++ R8)
  Φ13 ∧ Br (!c11) (∀ (w14 : World) (R15 : List Own), Ctx W w14 (R12 ++ R15) Φ13 → J (Value.bool c4) w14) (∀ (w16 : World) (R17 : List Own), Ctx W w16 (R12 ++ R17) Φ13 → Calls Tryd.prog
  F.errataref42_Right #[Value.slice bP bN bC, Value.int IntKind.i64 50] w16 fun (e18 : Ending) (w19 : World) => ∃ (c20 : Bool), e18 = Ending.returned (Value.bool c20) ∧ ∃ (R21 : List Own), ∃
  (Φ22 : PW), Stable Φ22 ∧ Ctx W w19 (R21 ++ R17) Φ22 ∧ Br (!c20) (∀ (w23 : World) (R24 : List Own), Ctx W w23 (R21 ++ R24) Φ22 → J (Value.bool c4) w23) (∀ (w25 : World) (R26 : List Own), Ctx
  W w25 (R21 ++ R26) Φ22 → Calls Tryd.prog F.errataref42_RightLines #[Value.slice lP lN lC, Value.int IntKind.i64 50] w25 fun (e27 : Ending) (w28 : World) => ∃ (c29 : Bool), e27 =
  Ending.returned (Value.bool c29) ∧ ∃ (R30 : List Own), ∃ (Φ31 : PW), Stable Φ31 ∧ Ctx W w28 (R30 ++ R26) Φ31 ∧ Br (!c29) (∀ (w32 : World) (R33 : List Own), Ctx W w32 (R30 ++ R33) Φ31 → J
  (Value.bool c4) w32) (∀ (w34 : World) (R35 : List Own), Ctx W w34 (R30 ++ R35) Φ31 → Calls Tryd.prog F.difference_Diff #[Value.slice aP aN aC, Value.slice bP bN bC] w34 fun (e36 : Ending)
  (w37 : World) => ∃ (p38 : Option Addr), ∃ (k39 : Nat), ∃ (k40 : Nat), e36 = Ending.returned (Value.slice p38 k39 k40) ∧ ∃ (R41 : List Own), ∃ (Φ42 : PW), Stable Φ42 ∧ Ctx W w37 (R41 ++ R35)
  Φ42 ∧ ∀ (w43 : World) (R44 : List Own), Ctx W w43 (R41 ++ R44) Φ42 → Calls Tryd.prog F.errataref28_Sub #[Value.slice bP bN bC, Value.slice aP aN aC] w43 fun (e45 : Ending) (w46 : World) =>
  ∃ (p47 : Option Addr), ∃ (k48 : Nat), ∃ (k49 : Nat), e45 = Ending.returned (Value.slice p47 k48 k49) ∧ ∃ (R50 : List Own), ∃ (Φ51 : PW), Stable Φ51 ∧ Ctx W w46 (R50 ++ R44) Φ51 ∧ ∀ (w52 :
  World) (R53 : List Own), Ctx W w52 (R50 ++ R53) Φ51 → Calls Tryd.prog F.errataref28_Equal #[Value.slice p38 k39 k40, Value.slice p47 k48 k49] w52 fun (e54 : Ending) (w55 : World) => ∃ (c56
  : Bool), e54 = Ending.returned (Value.bool c56) ∧ ∃ (R57 : List Own), ∃ (Φ58 : PW), Stable Φ58 ∧ Ctx W w55 (R57 ++ R53) Φ58 ∧ Br (!c56) (∀ (w59 : World) (R60 : List Own), Ctx W w59 (R57 ++
  R60) Φ58 → J (Value.bool false) w59) (∀ (w61 : World) (R62 : List Own), Ctx W w61 (R57 ++ R62) Φ58 → Calls Tryd.prog F.difference_Lines #[Value.slice aP aN aC, Value.int IntKind.i64 no,
  Value.int IntKind.i64 batch, Value.int IntKind.i64 mark, Value.int IntKind.i64 replace] w61 fun (e63 : Ending) (w64 : World) => ∃ (p65 : Option Addr), ∃ (k66 : Nat), ∃ (k67 : Nat), e63 =
  Ending.returned (Value.slice p65 k66 k67) ∧ ∃ (R68 : List Own), ∃ (Φ69 : PW), Stable Φ69 ∧ Ctx W w64 (R68 ++ R62) Φ69 ∧ ∀ (w70 : World) (R71 : List Own), Ctx W w70 (R68 ++ R71) Φ69 → Calls
  Tryd.prog F.errataref42_Lines #[Value.slice aP aN aC, Value.int IntKind.i64 no, Value.int IntKind.i64 batch, Value.int IntKind.i64 mark, Value.int IntKind.i64 replace] w70 fun (e72 :
  Ending) (w73 : World) => ∃ (p74 : Option Addr), ∃ (k75 : Nat), ∃ (k76 : Nat), e72 = Ending.returned (Value.slice p74 k75 k76) ∧ ∃ (R77 : List Own), ∃ (Φ78 : PW), Stable Φ78 ∧ Ctx W w73 (R77
  ++ R71) Φ78 ∧ ∀ (w79 : World) (R80 : List Own), Ctx W w79 (R77 ++ R80) Φ78 → Calls Tryd.prog F.errataref42_Same #[Value.slice p65 k66 k67, Value.slice p74 k75 k76] w79 fun (e81 : Ending)
  (w82 : World) => ∃ (c83 : Bool), e81 = Ending.returned (Value.bool c83) ∧ ∃ (R84 : List Own), ∃ (Φ85 : PW), Stable Φ85 ∧ Ctx W w82 (R84 ++ R80) Φ85 ∧ Br (!c83) (∀ (w86 : World) (R87 : List
  Own), Ctx W w86 (R84 ++ R87) Φ85 → J (Value.bool false) w86) (∀ (w88 : World) (R89 : List Own), Ctx W w88 (R84 ++ R89) Φ85 → Calls Tryd.prog F.difference_Net #[Value.slice lP lN lC] w88 fun
  (e90 : Ending) (w91 : World) => ∃ (p92 : Option Addr), ∃ (k93 : Nat), ∃ (k94 : Nat), e90 = Ending.returned (Value.slice p92 k93 k94) ∧ ∃ (R95 : List Own), ∃ (Φ96 : PW), Stable Φ96 ∧ Ctx W
  w91 (R95 ++ R89) Φ96 ∧ ∀ (w97 : World) (R98 : List Own), Ctx W w97 (R95 ++ R98) Φ96 → Calls Tryd.prog F.errataref42_Net #[Value.slice lP lN lC] w97 fun (e99 : Ending) (w100 : World) => ∃
  (p101 : Option Addr), ∃ (k102 : Nat), ∃ (k103 : Nat), e99 = Ending.returned (Value.slice p101 k102 k103) ∧ ∃ (R104 : List Own), ∃ (Φ105 : PW), Stable Φ105 ∧ Ctx W w100 (R104 ++ R98) Φ105 ∧
  ∀ (w106 : World) (R107 : List Own), Ctx W w106 (R104 ++ R107) Φ105 → Calls Tryd.prog F.errataref28_Equal #[Value.slice p92 k93 k94, Value.slice p101 k102 k103] w106 fun (e108 : Ending)
  (w109 : World) => ∃ (c110 : Bool), e108 = Ending.returned (Value.bool c110) ∧ ∃ (R111 : List Own), ∃ (Φ112 : PW), Stable Φ112 ∧ Ctx W w109 (R111 ++ R107) Φ112 ∧ Br (!c110) (∀ (w113 : World)
  (R114 : List Own), Ctx W w113 (R111 ++ R114) Φ112 → J (Value.bool false) w113) (∀ (w115 : World) (R116 : List Own), Ctx W w115 (R111 ++ R116) Φ112 → Calls Tryd.prog F.difference_Least
  #[Value.slice lP lN lC] w115 fun (e117 : Ending) (w118 : World) => ∃ (c119 : Bool), e117 = Ending.returned (Value.bool c119) ∧ ∃ (R120 : List Own), ∃ (Φ121 : PW), Stable Φ121 ∧ Ctx W w118
  (R120 ++ R116) Φ121 ∧ ∀ (w122 : World) (R123 : List Own), Ctx W w122 (R120 ++ R123) Φ121 → Calls Tryd.prog F.errataref42_Least #[Value.slice lP lN lC] w122 fun (e124 : Ending) (w125 :
  World) => ∃ (c126 : Bool), e124 = Ending.returned (Value.bool c126) ∧ ∃ (R127 : List Own), ∃ (Φ128 : PW), Stable Φ128 ∧ Ctx W w125 (R127 ++ R123) Φ128 ∧ Br (c119 != c126) (∀ (w129 : World)
  (R130 : List Own), Ctx W w129 (R127 ++ R130) Φ128 → J (Value.bool false) w129) (∀ (w131 : World) (R132 : List Own), Ctx W w131 (R127 ++ R132) Φ128 → Calls Tryd.prog F.difference_Split
  #[Value.slice aP aN aC] w131 fun (e133 : Ending) (w134 : World) => ∃ (p135 : Option Addr), ∃ (k136 : Nat), ∃ (k137 : Nat), e133 = Ending.returned (Value.slice p135 k136 k137) ∧ ∃ (R138 :
  List Own), ∃ (Φ139 : PW), Stable Φ139 ∧ Ctx W w134 (R138 ++ R132) Φ139 ∧ Br (decide ((↑k136 : Int) ≠ 16)) (∀ (w140 : World) (R141 : List Own), Ctx W w140 (R138 ++ R141) Φ139 → J (Value.bool
  false) w140) (exI fun (I142 : Int → List Own → PW → Nat → Prop) => (∃ (R143 : List Own), ∃ (Φ144 : PW), ∃ (k145 : Nat), Stable Φ144 ∧ (∀ (w146 : World) (R147 : List Own), Ctx W w146 (R138
  ++ R147) Φ139 → Ctx W w146 (R143 ++ R147) Φ144) ∧ I142 0 R143 Φ144 k145) ∧ ∀ (n148 : Int) (R149 : List Own) (I150 : List Nat → World → Prop) (k151 : Nat), Stable I150 → I142 n148 R149 I150
  k151 → Br (decide (n148 < 16)) (∃ (R152 : List Own), ∃ (Φ153 : PW), Stable Φ153 ∧ (∀ (w154 : World) (R155 : List Own), Ctx W w154 (R149 ++ R155) I150 → Ctx W w154 (R152 ++ R155) Φ153) ∧ (0
  ≤ n148 ∧ n148 < (↑k136 : Int)) ∧ ptrK none p135 fun (k156 k157 : Nat) => ∃ (p158 : Option Addr), ∃ (k159 : Nat), ∃ (k160 : Nat), (∀ (w161 : World) (R162 : List Own), Ctx W w161 (R152 ++
  R162) Φ153 → ∃ (p163 : Option Addr), ∃ (k164 : Nat), ∃ (k165 : Nat), w161.cell? (Addr.mk k156 (k157 + n148.toNat) none) = some (Value.slice p163 k164 k165) ∧ Value.slice p163 k164 k165 =
  Value.slice p158 k159 k160) ∧ ∀ (w166 : World) (R167 : List Own), Ctx W w166 (R149 ++ R167) I150 → Calls Tryd.prog F.errataref42_Part #[Value.slice aP aN aC, Value.int IntKind.i64 n148]
  w166 fun (e168 : Ending) (w169 : World) => ∃ (p170 : Option Addr), ∃ (k171 : Nat), ∃ (k172 : Nat), e168 = Ending.returned (Value.slice p170 k171 k172) ∧ ∃ (R173 : List Own), ∃ (Φ174 : PW),
  Stable Φ174 ∧ Ctx W w169 (R173 ++ R167) Φ174 ∧ (∀ (w175 : World) (R176 : List Own), Ctx W w175 (R173 ++ R176) Φ174 → Ctx W w175 (R152 ++ R176) Φ153) ∧ ∀ (w177 : World) (R178 : List Own),
  Ctx W w177 (R173 ++ R178) Φ174 → Calls Tryd.prog F.errataref28_Equal #[Value.slice p158 k159 k160, Value.slice p170 k171 k172] w177 fun (e179 : Ending) (w180 : World) => ∃ (c181 : Bool),
  e179 = Ending.returned (Value.bool c181) ∧ ∃ (R182 : List Own), ∃ (Φ183 : PW), Stable Φ183 ∧ Ctx W w180 (R182 ++ R178) Φ183 ∧ Br (!c181) (∀ (w184 : World) (R185 : List Own), Ctx W w184
  (R182 ++ R185) Φ183 → J (Value.bool false) w184) (I64 (n148 + 1) ∧ ∃ (R186 : List Own), ∃ (Φ187 : PW), ∃ (k188 : Nat), Stable Φ187 ∧ (∀ (w189 : World) (R190 : List Own), Ctx W w189 (R182 ++
  R190) Φ183 → Ctx W w189 (R186 ++ R190) Φ187) ∧ I142 (n148 + 1) R186 Φ187 k188 ∧ k188 < k151)) (∀ (w191 : World) (R192 : List Own), Ctx W w191 (R149 ++ R192) I150 → Calls Tryd.prog
  F.difference_Part #[Value.slice aP aN aC, Value.int IntKind.i64 bucket] w191 fun (e193 : Ending) (w194 : World) => ∃ (p195 : Option Addr), ∃ (k196 : Nat), ∃ (k197 : Nat), e193 =
  Ending.returned (Value.slice p195 k196 k197) ∧ ∃ (R198 : List Own), ∃ (Φ199 : PW), Stable Φ199 ∧ Ctx W w194 (R198 ++ R192) Φ199 ∧ ∀ (w200 : World) (R201 : List Own), Ctx W w200 (R198 ++
  R201) Φ199 → Br (decide (bucket < 0) || decide (16 ≤ bucket)) (∀ (w202 : World) (R203 : List Own), Ctx W w202 (R198 ++ R203) Φ199 → ∀ (w204 : World) (R205 : List Own), Ctx W w204 (R198 ++
  R205) Φ199 → J (Value.bool (c4 && decide ((↑k196 : Int) = 0))) w204) (Br c4 (∀ (w206 : World) (R207 : List Own), Ctx W w206 (R198 ++ R207) Φ199 → Calls Tryd.prog F.errataref42_Part
  #[Value.slice aP aN aC, Value.int IntKind.i64 bucket] w206 fun (e208 : Ending) (w209 : World) => ∃ (p210 : Option Addr), ∃ (k211 : Nat), ∃ (k212 : Nat), e208 = Ending.returned (Value.slice
  p210 k211 k212) ∧ ∃ (R213 : List Own), ∃ (Φ214 : PW), Stable Φ214 ∧ Ctx W w209 (R213 ++ R207) Φ214 ∧ ∀ (w215 : World) (R216 : List Own), Ctx W w215 (R213 ++ R216) Φ214 → Calls Tryd.prog
  F.errataref28_Equal #[Value.slice p195 k196 k197, Value.slice p210 k211 k212] w215 fun (e217 : Ending) (w218 : World) => ∃ (c219 : Bool), e217 = Ending.returned (Value.bool c219) ∧ ∃ (R220
  : List Own), ∃ (Φ221 : PW), Stable Φ221 ∧ Ctx W w218 (R220 ++ R216) Φ221 ∧ ∀ (w222 : World) (R223 : List Own), Ctx W w222 (R220 ++ R223) Φ221 → J (Value.bool c219) w222) (∀ (w224 : World)
  (R225 : List Own), Ctx W w224 (R198 ++ R225) Φ199 → J (Value.bool false) w224)))))))))))

theorem Berratalaw42_DifferenceTells_run (aP : Option Addr) (aN aC : Nat) (bP : Option Addr) (bN bC : Nat) (no : Int) (batch : Int) (mark : Int) (replace : Int) (lP : Option Addr) (lN lC : Nat) (bucket : Int) {W w : World} {R : List Own} {Φ : PW} [Stable Φ] {J : Value → World → Prop} (c : Ctx W w R Φ) (h : Berratalaw42_DifferenceTells aP aN aC bP bN bC no batch mark replace lP lN lC bucket W R Φ J) : Calls Tryd.prog F.erratalaw42_DifferenceTells #[.slice aP aN aC, .slice bP bN bC, .int .i64 no, .int .i64 batch, .int .i64 mark, .int .i64 replace, .slice lP lN lC, .int .i64 bucket] w fun e w' => ∃ v, e = .returned v ∧ J v w' :=
  vcFS_sound (H := { keep := some [0, 1, 2, 3, 4, 5, 6, 7, 16, 17, 18, 19, 20, 34, 59, 72, 77, 79, 90, 99], stages := [(14, [.held [(0, true), (1, true), (4, true), (5, true), (2, true), (3, true), (6, false)], .stage [] (some 7), .stage [8] none])], split := [2, 4, 6, 19], loops := [(12, [(19, .one (.int .i64))], [])] }) (by rw [show vcFS Tryd.prog W { keep := some [0, 1, 2, 3, 4, 5, 6, 7, 16, 17, 18, 19, 20, 34, 59, 72, 77, 79, 90, 99], stages := [(14, [.held [(0, true), (1, true), (4, true), (5, true), (2, true), (3, true), (6, false)], .stage [] (some 7), .stage [8] none])], split := [2, 4, 6, 19], loops := [(12, [(19, .one (.int .i64))], [])] } F.erratalaw42_DifferenceTells #[.slice aP aN aC, .slice bP bN bC, .int .i64 no, .int .i64 batch, .int .i64 mark, .int .i64 replace, .slice lP lN lC, .int .i64 bucket] R Φ J = Berratalaw42_DifferenceTells aP aN aC bP bN bC no batch mark replace lP lN lC bucket W R Φ J by kernel_rfl]; exact h) c

/-- erratalaw42.DifferenceParts -/
-- loop at region 25: 16 m; blocks 
-- loop at region 20: 15 m; blocks 
-- loop at region 9: 9 now, 11 total, 12 i; blocks 
def Berratalaw42_DifferenceParts (aP : Option Addr) (aN aC : Nat) (bP : Option Addr) (bN bC : Nat) (orderP : Option Addr) (orderN orderC : Nat) (W : World) (R : List Own) (Φ : PW) (J : Value → World → Prop) : Prop :=
  ∀ (w0 : World) (R1 : List Own), Ctx W w0 (R ++ R1) Φ → Calls Tryd.prog F.erratalaw42_small #[] w0 fun (e2 : Ending) (w3 : World) => ∃ (c4 : Bool), e2 = Ending.returned (Value.bool c4) ∧ ∃
  (R5 : List Own), ∃ (Φ6 : PW), Stable Φ6 ∧ Ctx W w3 (R5 ++ R1) Φ6 ∧ ∀ (w7 : World) (R8 : List Own), Ctx W w7 (R5 ++ R8) Φ6 → Calls Tryd.prog F.errataref42_Right #[Value.slice aP aN aC,
  Value.int IntKind.i64 50] w7 fun (e9 : Ending) (w10 : World) => ∃ (c11 : Bool), e9 = Ending.returned (Value.bool c11) ∧ ∃ (R12 : List Own), ∃ (Φ13 : PW), Stable Φ13 ∧ Ctx W w10 (R12 ++ R8)
  Φ13 ∧ Br (!c11) (∀ (w14 : World) (R15 : List Own), Ctx W w14 (R12 ++ R15) Φ13 → J (Value.bool c4) w14) (∀ (w16 : World) (R17 : List Own), Ctx W w16 (R12 ++ R17) Φ13 → Calls Tryd.prog
  F.errataref42_Right #[Value.slice bP bN bC, Value.int IntKind.i64 50] w16 fun (e18 : Ending) (w19 : World) => ∃ (c20 : Bool), e18 = Ending.returned (Value.bool c20) ∧ ∃ (R21 : List Own), ∃
  (Φ22 : PW), Stable Φ22 ∧ Ctx W w19 (R21 ++ R17) Φ22 ∧ Br (!c20) (∀ (w23 : World) (R24 : List Own), Ctx W w23 (R21 ++ R24) Φ22 → J (Value.bool c4) w23) (Br (decide (40 < (↑orderN : Int))) (∀
  (w25 : World) (R26 : List Own), Ctx W w25 (R21 ++ R26) Φ22 → J (Value.bool c4) w25) (∀ (w27 : World) (R28 : List Own), Ctx W w27 (R21 ++ R28) Φ22 → Calls Tryd.prog F.difference_Diff
  #[Value.slice aP aN aC, Value.slice bP bN bC] w27 fun (e29 : Ending) (w30 : World) => ∃ (p31 : Option Addr), ∃ (k32 : Nat), ∃ (k33 : Nat), e29 = Ending.returned (Value.slice p31 k32 k33) ∧
  ∃ (R34 : List Own), ∃ (Φ35 : PW), Stable Φ35 ∧ Ctx W w30 (R34 ++ R28) Φ35 ∧ ∀ (w36 : World) (R37 : List Own), Ctx W w36 (R34 ++ R37) Φ35 → Calls Tryd.prog F.delta_Consolidate #[Value.slice
  aP aN aC] w36 fun (e38 : Ending) (w39 : World) => ∃ (p40 : Option Addr), ∃ (k41 : Nat), ∃ (k42 : Nat), e38 = Ending.returned (Value.slice p40 k41 k42) ∧ ∃ (R43 : List Own), ∃ (Φ44 : PW),
  Stable Φ44 ∧ Ctx W w39 (R43 ++ R37) Φ44 ∧ ((0 : Int) ≤ 16 ∧ (16 : Int) ≤ 16 ∧ (16 : Int) ≤ 281474976710656 ∧ (16 : Int) ≤ 9223372036854775807) ∧ ∀ (k45 : Nat), exI fun (I46 : Option Addr →
  Nat → Nat → Int → Int → List Own → PW → Nat → Prop) => (∃ (R47 : List Own), ∃ (Φ48 : PW), ∃ (k49 : Nat), Stable Φ48 ∧ (∀ (w50 : World) (R51 : List Own), Ctx W w50 (Own.blk k45 [Value.bool
  false, Value.bool false, Value.bool false, Value.bool false, Value.bool false, Value.bool false, Value.bool false, Value.bool false, Value.bool false, Value.bool false, Value.bool false,
  Value.bool false, Value.bool false, Value.bool false, Value.bool false, Value.bool false] 4 :: R43 ++ R51) Φ44 → Ctx W w50 (R47 ++ R51) Φ48) ∧ I46 p40 k41 k42 0 0 R47 Φ48 k49) ∧ ∀ (p52 :
  Option Addr) (k53 k54 : Nat) (n55 n56 : Int) (R57 : List Own) (I58 : List Nat → World → Prop) (k59 : Nat), Stable I58 → I46 p52 k53 k54 n55 n56 R57 I58 k59 → I64 ((↑orderN : Int) + 16) ∧ Br
  (decide (n56 < (↑orderN : Int) + 16)) (I64 (n56 - (↑orderN : Int)) ∧ Br (decide (n56 < (↑orderN : Int))) ((0 ≤ n56 ∧ n56 < (↑orderN : Int)) ∧ ptrK none orderP fun (k60 k61 : Nat) => ∀ (w62
  : World) (R63 : List Own), Ctx W w62 (R57 ++ R63) I58 → ∃ (n64 : Int), w62.cell? (Addr.mk k60 (k61 + n56.toNat) none) = some (Value.int IntKind.i64 n64) ∧ ∃ (n65 : Int), (∀ (w66 : World),
  Sem.run Tryd.prog (binOp BinOp.and 3 (Value.int IntKind.i64 n64) (Value.int IntKind.i64 15)) w66 = Result.ok (Value.int IntKind.i64 n65) w66) ∧ (0 ≤ n65 ∧ n65 < 16) ∧ ∀ (w67 : World) (R68 :
  List Own), Ctx W w67 (R57 ++ R68) I58 → ∃ (c69 : Bool), w67.cell? (Addr.mk k45 (0 + n65.toNat) none) = some (Value.bool c69) ∧ Br c69 (I64 (n56 + 1) ∧ ∃ (R70 : List Own), ∃ (Φ71 : PW), ∃
  (k72 : Nat), Stable Φ71 ∧ (∀ (w73 : World) (R74 : List Own), Ctx W w73 (R57 ++ R74) I58 → Ctx W w73 (R70 ++ R74) Φ71) ∧ I46 p52 k53 k54 n55 (n56 + 1) R70 Φ71 k72 ∧ k72 < k59) ((0 ≤ n65 ∧
  n65 < 16) ∧ ∀ (w75 : World) (R76 : List Own), Ctx W w75 (R57 ++ R76) I58 → CanWrite w75 k45 (0 + n65.toNat) 1 ∧ ∀ (w77 : World), w77 = w75.setCell (Addr.mk k45 (0 + n65.toNat) none)
  (Value.bool true) → ∃ (R78 : List Own), ∃ (Φ79 : PW), Stable Φ79 ∧ Ctx W w77 (R78 ++ R76) Φ79 ∧ ∀ (w80 : World) (R81 : List Own), Ctx W w80 (R78 ++ R81) Φ79 → Calls Tryd.prog
  F.difference_Part #[Value.slice p31 k32 k33, Value.int IntKind.i64 n65] w80 fun (e82 : Ending) (w83 : World) => ∃ (p84 : Option Addr), ∃ (k85 : Nat), ∃ (k86 : Nat), e82 = Ending.returned
  (Value.slice p84 k85 k86) ∧ ∃ (R87 : List Own), ∃ (Φ88 : PW), Stable Φ88 ∧ Ctx W w83 (R87 ++ R81) Φ88 ∧ I64 (n55 + (↑k85 : Int)) ∧ ∀ (w89 : World) (R90 : List Own), Ctx W w89 (R87 ++ R90)
  Φ88 → Calls Tryd.prog F.delta_Add #[Value.slice p52 k53 k54, Value.slice p84 k85 k86] w89 fun (e91 : Ending) (w92 : World) => ∃ (p93 : Option Addr), ∃ (k94 : Nat), ∃ (k95 : Nat), e91 =
  Ending.returned (Value.slice p93 k94 k95) ∧ ∃ (R96 : List Own), ∃ (Φ97 : PW), Stable Φ97 ∧ Ctx W w92 (R96 ++ R90) Φ97 ∧ exI fun (I98 : Int → List Own → PW → Nat → Prop) => (∃ (R99 : List
  Own), ∃ (Φ100 : PW), ∃ (k101 : Nat), Stable Φ100 ∧ (∀ (w102 : World) (R103 : List Own), Ctx W w102 (R96 ++ R103) Φ97 → Ctx W w102 (R99 ++ R103) Φ100) ∧ I98 0 R99 Φ100 k101) ∧ ∀ (n104 : Int)
  (R105 : List Own) (I106 : List Nat → World → Prop) (k107 : Nat), Stable I106 → I98 n104 R105 I106 k107 → Br (decide (n104 < (↑k85 : Int))) ((0 ≤ n104 ∧ n104 < (↑k85 : Int)) ∧ ptrK none p84
  fun (k108 k109 : Nat) => ∀ (w110 : World) (R111 : List Own), Ctx W w110 (R105 ++ R111) I106 → ∃ (p112 : Option Addr), ∃ (k113 : Nat), ∃ (k114 : Nat), w110.cell? (Addr.mk k108 (k109 +
  n104.toNat * 3 + 1) none) = some (Value.slice p112 k113 k114) ∧ ∀ (w115 : World) (R116 : List Own), Ctx W w115 (R105 ++ R116) I106 → Calls Tryd.prog F.place_Bucket #[Value.slice p112 k113
  k114] w115 fun (e117 : Ending) (w118 : World) => ∃ (n119 : Int), e117 = Ending.returned (Value.int IntKind.i64 n119) ∧ ∃ (R120 : List Own), ∃ (Φ121 : PW), Stable Φ121 ∧ Ctx W w118 (R120 ++
  R116) Φ121 ∧ Br (decide (n119 ≠ n65)) (∀ (w122 : World) (R123 : List Own), Ctx W w122 (R120 ++ R123) Φ121 → J (Value.bool false) w122) (I64 (n104 + 1) ∧ ∃ (R124 : List Own), ∃ (Φ125 : PW),
  ∃ (k126 : Nat), Stable Φ125 ∧ (∀ (w127 : World) (R128 : List Own), Ctx W w127 (R120 ++ R128) Φ121 → Ctx W w127 (R124 ++ R128) Φ125) ∧ I98 (n104 + 1) R124 Φ125 k126 ∧ k126 < k107)) (exI fun
  (I129 : Int → List Own → PW → Nat → Prop) => (∃ (R130 : List Own), ∃ (Φ131 : PW), ∃ (k132 : Nat), Stable Φ131 ∧ (∀ (w133 : World) (R134 : List Own), Ctx W w133 (R105 ++ R134) I106 → Ctx W
  w133 (R130 ++ R134) Φ131) ∧ I129 0 R130 Φ131 k132) ∧ ∀ (n135 : Int) (R136 : List Own) (I137 : List Nat → World → Prop) (k138 : Nat), Stable I137 → I129 n135 R136 I137 k138 → Br (decide
  (n135 < 16)) ((0 ≤ n135 ∧ n135 < 16) ∧ ∀ (w139 : World) (R140 : List Own), Ctx W w139 (R136 ++ R140) I137 → ∃ (c141 : Bool), w139.cell? (Addr.mk k45 (0 + n135.toNat) none) = some
  (Value.bool c141) ∧ Br c141 (∀ (w142 : World) (R143 : List Own), Ctx W w142 (R136 ++ R143) I137 → Calls Tryd.prog F.difference_Part #[Value.slice p93 k94 k95, Value.int IntKind.i64 n135]
  w142 fun (e144 : Ending) (w145 : World) => ∃ (p146 : Option Addr), ∃ (k147 : Nat), ∃ (k148 : Nat), e144 = Ending.returned (Value.slice p146 k147 k148) ∧ ∃ (R149 : List Own), ∃ (Φ150 : PW),
  Stable Φ150 ∧ Ctx W w145 (R149 ++ R143) Φ150 ∧ ∀ (w151 : World) (R152 : List Own), Ctx W w151 (R149 ++ R152) Φ150 → Calls Tryd.prog F.difference_Part #[Value.slice bP bN bC, Value.int
  IntKind.i64 n135] w151 fun (e153 : Ending) (w154 : World) => ∃ (p155 : Option Addr), ∃ (k156 : Nat), ∃ (k157 : Nat), e153 = Ending.returned (Value.slice p155 k156 k157) ∧ ∃ (R158 : List
  Own), ∃ (Φ159 : PW), Stable Φ159 ∧ Ctx W w154 (R158 ++ R152) Φ159 ∧ ∀ (w160 : World) (R161 : List Own), Ctx W w160 (R158 ++ R161) Φ159 → Calls Tryd.prog F.delta_Same #[Value.slice p146 k147
  k148, Value.slice p155 k156 k157] w160 fun (e162 : Ending) (w163 : World) => ∃ (c164 : Bool), e162 = Ending.returned (Value.bool c164) ∧ ∃ (R165 : List Own), ∃ (Φ166 : PW), Stable Φ166 ∧
  Ctx W w163 (R165 ++ R161) Φ166 ∧ Br (!c164) (∀ (w167 : World) (R168 : List Own), Ctx W w167 (R165 ++ R168) Φ166 → J (Value.bool false) w167) (I64 (n135 + 1) ∧ ∃ (R169 : List Own), ∃ (Φ170 :
  PW), ∃ (k171 : Nat), Stable Φ170 ∧ (∀ (w172 : World) (R173 : List Own), Ctx W w172 (R165 ++ R173) Φ166 → Ctx W w172 (R169 ++ R173) Φ170) ∧ I129 (n135 + 1) R169 Φ170 k171 ∧ k171 < k138)) (∀
  (w174 : World) (R175 : List Own), Ctx W w174 (R136 ++ R175) I137 → Calls Tryd.prog F.difference_Part #[Value.slice p93 k94 k95, Value.int IntKind.i64 n135] w174 fun (e176 : Ending) (w177 :
  World) => ∃ (p178 : Option Addr), ∃ (k179 : Nat), ∃ (k180 : Nat), e176 = Ending.returned (Value.slice p178 k179 k180) ∧ ∃ (R181 : List Own), ∃ (Φ182 : PW), Stable Φ182 ∧ Ctx W w177 (R181 ++
  R175) Φ182 ∧ ∀ (w183 : World) (R184 : List Own), Ctx W w183 (R181 ++ R184) Φ182 → Calls Tryd.prog F.difference_Part #[Value.slice aP aN aC, Value.int IntKind.i64 n135] w183 fun (e185 :
  Ending) (w186 : World) => ∃ (p187 : Option Addr), ∃ (k188 : Nat), ∃ (k189 : Nat), e185 = Ending.returned (Value.slice p187 k188 k189) ∧ ∃ (R190 : List Own), ∃ (Φ191 : PW), Stable Φ191 ∧ Ctx
  W w186 (R190 ++ R184) Φ191 ∧ ∀ (w192 : World) (R193 : List Own), Ctx W w192 (R190 ++ R193) Φ191 → Calls Tryd.prog F.delta_Same #[Value.slice p178 k179 k180, Value.slice p187 k188 k189] w192
  fun (e194 : Ending) (w195 : World) => ∃ (c196 : Bool), e194 = Ending.returned (Value.bool c196) ∧ ∃ (R197 : List Own), ∃ (Φ198 : PW), Stable Φ198 ∧ Ctx W w195 (R197 ++ R193) Φ198 ∧ Br
  (!c196) (∀ (w199 : World) (R200 : List Own), Ctx W w199 (R197 ++ R200) Φ198 → J (Value.bool false) w199) (I64 (n135 + 1) ∧ ∃ (R201 : List Own), ∃ (Φ202 : PW), ∃ (k203 : Nat), Stable Φ202 ∧
  (∀ (w204 : World) (R205 : List Own), Ctx W w204 (R197 ++ R205) Φ198 → Ctx W w204 (R201 ++ R205) Φ202) ∧ I129 (n135 + 1) R201 Φ202 k203 ∧ k203 < k138))) (I64 (n56 + 1) ∧ ∃ (R206 : List Own),
  ∃ (Φ207 : PW), ∃ (k208 : Nat), Stable Φ207 ∧ (∀ (w209 : World) (R210 : List Own), Ctx W w209 (R136 ++ R210) I137 → Ctx W w209 (R206 ++ R210) Φ207) ∧ I46 p93 k94 k95 (n55 + (↑k85 : Int))
  (n56 + 1) R206 Φ207 k208 ∧ k208 < k59)))) ((0 ≤ n56 - (↑orderN : Int) ∧ n56 - (↑orderN : Int) < 16) ∧ ∀ (w211 : World) (R212 : List Own), Ctx W w211 (R57 ++ R212) I58 → ∃ (c213 : Bool),
  w211.cell? (Addr.mk k45 (0 + (n56 - (↑orderN : Int)).toNat) none) = some (Value.bool c213) ∧ Br c213 (I64 (n56 + 1) ∧ ∃ (R214 : List Own), ∃ (Φ215 : PW), ∃ (k216 : Nat), Stable Φ215 ∧ (∀
  (w217 : World) (R218 : List Own), Ctx W w217 (R57 ++ R218) I58 → Ctx W w217 (R214 ++ R218) Φ215) ∧ I46 p52 k53 k54 n55 (n56 + 1) R214 Φ215 k216 ∧ k216 < k59) ((0 ≤ n56 - (↑orderN : Int) ∧
  n56 - (↑orderN : Int) < 16) ∧ ∀ (w219 : World) (R220 : List Own), Ctx W w219 (R57 ++ R220) I58 → CanWrite w219 k45 (0 + (n56 - (↑orderN : Int)).toNat) 1 ∧ ∀ (w221 : World), w221 =
  w219.setCell (Addr.mk k45 (0 + (n56 - (↑orderN : Int)).toNat) none) (Value.bool true) → ∃ (R222 : List Own), ∃ (Φ223 : PW), Stable Φ223 ∧ Ctx W w221 (R222 ++ R220) Φ223 ∧ ∀ (w224 : World)
  (R225 : List Own), Ctx W w224 (R222 ++ R225) Φ223 → Calls Tryd.prog F.difference_Part #[Value.slice p31 k32 k33, Value.int IntKind.i64 (n56 - (↑orderN : Int))] w224 fun (e226 : Ending)
  (w227 : World) => ∃ (p228 : Option Addr), ∃ (k229 : Nat), ∃ (k230 : Nat), e226 = Ending.returned (Value.slice p228 k229 k230) ∧ ∃ (R231 : List Own), ∃ (Φ232 : PW), Stable Φ232 ∧ Ctx W w227
  (R231 ++ R225) Φ232 ∧ I64 (n55 + (↑k229 : Int)) ∧ ∀ (w233 : World) (R234 : List Own), Ctx W w233 (R231 ++ R234) Φ232 → Calls Tryd.prog F.delta_Add #[Value.slice p52 k53 k54, Value.slice
  p228 k229 k230] w233 fun (e235 : Ending) (w236 : World) => ∃ (p237 : Option Addr), ∃ (k238 : Nat), ∃ (k239 : Nat), e235 = Ending.returned (Value.slice p237 k238 k239) ∧ ∃ (R240 : List Own),
  ∃ (Φ241 : PW), Stable Φ241 ∧ Ctx W w236 (R240 ++ R234) Φ241 ∧ exI fun (I242 : Int → List Own → PW → Nat → Prop) => (∃ (R243 : List Own), ∃ (Φ244 : PW), ∃ (k245 : Nat), Stable Φ244 ∧ (∀
  (w246 : World) (R247 : List Own), Ctx W w246 (R240 ++ R247) Φ241 → Ctx W w246 (R243 ++ R247) Φ244) ∧ I242 0 R243 Φ244 k245) ∧ ∀ (n248 : Int) (R249 : List Own) (I250 : List Nat → World →
  Prop) (k251 : Nat), Stable I250 → I242 n248 R249 I250 k251 → Br (decide (n248 < (↑k229 : Int))) ((0 ≤ n248 ∧ n248 < (↑k229 : Int)) ∧ ptrK none p228 fun (k252 k253 : Nat) => ∀ (w254 : World)
  (R255 : List Own), Ctx W w254 (R249 ++ R255) I250 → ∃ (p256 : Option Addr), ∃ (k257 : Nat), ∃ (k258 : Nat), w254.cell? (Addr.mk k252 (k253 + n248.toNat * 3 + 1) none) = some (Value.slice
  p256 k257 k258) ∧ ∀ (w259 : World) (R260 : List Own), Ctx W w259 (R249 ++ R260) I250 → Calls Tryd.prog F.place_Bucket #[Value.slice p256 k257 k258] w259 fun (e261 : Ending) (w262 : World)
  => ∃ (n263 : Int), e261 = Ending.returned (Value.int IntKind.i64 n263) ∧ ∃ (R264 : List Own), ∃ (Φ265 : PW), Stable Φ265 ∧ Ctx W w262 (R264 ++ R260) Φ265 ∧ Br (decide (n263 ≠ n56 - (↑orderN
  : Int))) (∀ (w266 : World) (R267 : List Own), Ctx W w266 (R264 ++ R267) Φ265 → J (Value.bool false) w266) (I64 (n248 + 1) ∧ ∃ (R268 : List Own), ∃ (Φ269 : PW), ∃ (k270 : Nat), Stable Φ269 ∧
  (∀ (w271 : World) (R272 : List Own), Ctx W w271 (R264 ++ R272) Φ265 → Ctx W w271 (R268 ++ R272) Φ269) ∧ I242 (n248 + 1) R268 Φ269 k270 ∧ k270 < k251)) (exI fun (I273 : Int → List Own → PW →
  Nat → Prop) => (∃ (R274 : List Own), ∃ (Φ275 : PW), ∃ (k276 : Nat), Stable Φ275 ∧ (∀ (w277 : World) (R278 : List Own), Ctx W w277 (R249 ++ R278) I250 → Ctx W w277 (R274 ++ R278) Φ275) ∧
  I273 0 R274 Φ275 k276) ∧ ∀ (n279 : Int) (R280 : List Own) (I281 : List Nat → World → Prop) (k282 : Nat), Stable I281 → I273 n279 R280 I281 k282 → Br (decide (n279 < 16)) ((0 ≤ n279 ∧ n279 <
  16) ∧ ∀ (w283 : World) (R284 : List Own), Ctx W w283 (R280 ++ R284) I281 → ∃ (c285 : Bool), w283.cell? (Addr.mk k45 (0 + n279.toNat) none) = some (Value.bool c285) ∧ Br c285 (∀ (w286 :
  World) (R287 : List Own), Ctx W w286 (R280 ++ R287) I281 → Calls Tryd.prog F.difference_Part #[Value.slice p237 k238 k239, Value.int IntKind.i64 n279] w286 fun (e288 : Ending) (w289 :
  World) => ∃ (p290 : Option Addr), ∃ (k291 : Nat), ∃ (k292 : Nat), e288 = Ending.returned (Value.slice p290 k291 k292) ∧ ∃ (R293 : List Own), ∃ (Φ294 : PW), Stable Φ294 ∧ Ctx W w289 (R293 ++
  R287) Φ294 ∧ ∀ (w295 : World) (R296 : List Own), Ctx W w295 (R293 ++ R296) Φ294 → Calls Tryd.prog F.difference_Part #[Value.slice bP bN bC, Value.int IntKind.i64 n279] w295 fun (e297 :
  Ending) (w298 : World) => ∃ (p299 : Option Addr), ∃ (k300 : Nat), ∃ (k301 : Nat), e297 = Ending.returned (Value.slice p299 k300 k301) ∧ ∃ (R302 : List Own), ∃ (Φ303 : PW), Stable Φ303 ∧ Ctx
  W w298 (R302 ++ R296) Φ303 ∧ ∀ (w304 : World) (R305 : List Own), Ctx W w304 (R302 ++ R305) Φ303 → Calls Tryd.prog F.delta_Same #[Value.slice p290 k291 k292, Value.slice p299 k300 k301] w304
  fun (e306 : Ending) (w307 : World) => ∃ (c308 : Bool), e306 = Ending.returned (Value.bool c308) ∧ ∃ (R309 : List Own), ∃ (Φ310 : PW), Stable Φ310 ∧ Ctx W w307 (R309 ++ R305) Φ310 ∧ Br
  (!c308) (∀ (w311 : World) (R312 : List Own), Ctx W w311 (R309 ++ R312) Φ310 → J (Value.bool false) w311) (I64 (n279 + 1) ∧ ∃ (R313 : List Own), ∃ (Φ314 : PW), ∃ (k315 : Nat), Stable Φ314 ∧
  (∀ (w316 : World) (R317 : List Own), Ctx W w316 (R309 ++ R317) Φ310 → Ctx W w316 (R313 ++ R317) Φ314) ∧ I273 (n279 + 1) R313 Φ314 k315 ∧ k315 < k282)) (∀ (w318 : World) (R319 : List Own),
  Ctx W w318 (R280 ++ R319) I281 → Calls Tryd.prog F.difference_Part #[Value.slice p237 k238 k239, Value.int IntKind.i64 n279] w318 fun (e320 : Ending) (w321 : World) => ∃ (p322 : Option
  Addr), ∃ (k323 : Nat), ∃ (k324 : Nat), e320 = Ending.returned (Value.slice p322 k323 k324) ∧ ∃ (R325 : List Own), ∃ (Φ326 : PW), Stable Φ326 ∧ Ctx W w321 (R325 ++ R319) Φ326 ∧ ∀ (w327 :
  World) (R328 : List Own), Ctx W w327 (R325 ++ R328) Φ326 → Calls Tryd.prog F.difference_Part #[Value.slice aP aN aC, Value.int IntKind.i64 n279] w327 fun (e329 : Ending) (w330 : World) => ∃
  (p331 : Option Addr), ∃ (k332 : Nat), ∃ (k333 : Nat), e329 = Ending.returned (Value.slice p331 k332 k333) ∧ ∃ (R334 : List Own), ∃ (Φ335 : PW), Stable Φ335 ∧ Ctx W w330 (R334 ++ R328) Φ335
  ∧ ∀ (w336 : World) (R337 : List Own), Ctx W w336 (R334 ++ R337) Φ335 → Calls Tryd.prog F.delta_Same #[Value.slice p322 k323 k324, Value.slice p331 k332 k333] w336 fun (e338 : Ending) (w339
  : World) => ∃ (c340 : Bool), e338 = Ending.returned (Value.bool c340) ∧ ∃ (R341 : List Own), ∃ (Φ342 : PW), Stable Φ342 ∧ Ctx W w339 (R341 ++ R337) Φ342 ∧ Br (!c340) (∀ (w343 : World) (R344
  : List Own), Ctx W w343 (R341 ++ R344) Φ342 → J (Value.bool false) w343) (I64 (n279 + 1) ∧ ∃ (R345 : List Own), ∃ (Φ346 : PW), ∃ (k347 : Nat), Stable Φ346 ∧ (∀ (w348 : World) (R349 : List
  Own), Ctx W w348 (R341 ++ R349) Φ342 → Ctx W w348 (R345 ++ R349) Φ346) ∧ I273 (n279 + 1) R345 Φ346 k347 ∧ k347 < k282))) (I64 (n56 + 1) ∧ ∃ (R350 : List Own), ∃ (Φ351 : PW), ∃ (k352 : Nat),
  Stable Φ351 ∧ (∀ (w353 : World) (R354 : List Own), Ctx W w353 (R280 ++ R354) I281 → Ctx W w353 (R350 ++ R354) Φ351) ∧ I46 p237 k238 k239 (n55 + (↑k229 : Int)) (n56 + 1) R350 Φ351 k352 ∧
  k352 < k59))))) (Br c4 (∀ (w355 : World) (R356 : List Own), Ctx W w355 (R57 ++ R356) I58 → Calls Tryd.prog F.delta_Same #[Value.slice p52 k53 k54, Value.slice bP bN bC] w355 fun (e357 :
  Ending) (w358 : World) => ∃ (c359 : Bool), e357 = Ending.returned (Value.bool c359) ∧ ∃ (R360 : List Own), ∃ (Φ361 : PW), Stable Φ361 ∧ Ctx W w358 (R360 ++ R356) Φ361 ∧ Br c359 (∀ (w362 :
  World) (R363 : List Own), Ctx W w362 (R360 ++ R363) Φ361 → J (Value.bool (decide (n55 = (↑k32 : Int)))) w362) (∀ (w364 : World) (R365 : List Own), Ctx W w364 (R360 ++ R365) Φ361 → J
  (Value.bool false) w364)) (∀ (w366 : World) (R367 : List Own), Ctx W w366 (R57 ++ R367) I58 → J (Value.bool false) w366)))))

/-- errataref42.RightLines -/
-- loop at region 2: 5 i; blocks 
def Berrataref42_RightLines (lP : Option Addr) (lN lC : Nat) (most : Int) (W : World) (R : List Own) (Φ : PW) (J : Value → World → Prop) : Prop :=
  exI fun (I0 : Int → List Own → PW → Nat → Prop) => (∃ (R1 : List Own), ∃ (Φ2 : PW), ∃ (k3 : Nat), Stable Φ2 ∧ (∀ (w4 : World) (R5 : List Own), Ctx W w4 (R ++ R5) Φ → Ctx W w4 (R1 ++ R5) Φ2)
  ∧ I0 0 R1 Φ2 k3) ∧ ∀ (n6 : Int) (R7 : List Own) (I8 : List Nat → World → Prop) (k9 : Nat), Stable I8 → I0 n6 R7 I8 k9 → ∀ (w10 : World) (R11 : List Own), Ctx W w10 (R7 ++ R11) I8 → Br
  (decide (n6 < (↑lN : Int)) && decide (n6 ≤ most)) ((0 ≤ n6 ∧ n6 < (↑lN : Int)) ∧ ptrK none lP fun (k12 k13 : Nat) => ∀ (w14 : World) (R15 : List Own), Ctx W w14 (R7 ++ R15) I8 → ∃ (p16 :
  Option Addr), ∃ (k17 : Nat), ∃ (k18 : Nat), w14.cell? (Addr.mk k12 (k13 + n6.toNat * 7 + 3) none) = some (Value.slice p16 k17 k18) ∧ ∀ (w19 : World) (R20 : List Own), Ctx W w19 (R7 ++ R20)
  I8 → Calls Tryd.prog F.errataref03_RightRow #[Value.slice p16 k17 k18] w19 fun (e21 : Ending) (w22 : World) => ∃ (c23 : Bool), e21 = Ending.returned (Value.bool c23) ∧ ∃ (R24 : List Own), ∃
  (Φ25 : PW), Stable Φ25 ∧ Ctx W w22 (R24 ++ R20) Φ25 ∧ Br (!c23) (∀ (w26 : World) (R27 : List Own), Ctx W w26 (R24 ++ R27) Φ25 → J (Value.bool false) w26) (I64 (n6 + 1) ∧ ∃ (R28 : List Own),
  ∃ (Φ29 : PW), ∃ (k30 : Nat), Stable Φ29 ∧ (∀ (w31 : World) (R32 : List Own), Ctx W w31 (R24 ++ R32) Φ25 → Ctx W w31 (R28 ++ R32) Φ29) ∧ I0 (n6 + 1) R28 Φ29 k30 ∧ k30 < k9)) (∀ (w33 : World)
  (R34 : List Own), Ctx W w33 (R7 ++ R34) I8 → J (Value.bool (decide ((↑lN : Int) ≤ most))) w33)

theorem Berrataref42_RightLines_run (lP : Option Addr) (lN lC : Nat) (most : Int) {W w : World} {R : List Own} {Φ : PW} [Stable Φ] {J : Value → World → Prop} (c : Ctx W w R Φ) (h : Berrataref42_RightLines lP lN lC most W R Φ J) : Calls Tryd.prog F.errataref42_RightLines #[.slice lP lN lC, .int .i64 most] w fun e w' => ∃ v, e = .returned v ∧ J v w' :=
  vcFS_sound (H := { keep := some [0, 1, 4, 5, 14, 23], loops := [(2, [(5, .one (.int .i64))], [])] }) (by rw [show vcFS Tryd.prog W { keep := some [0, 1, 4, 5, 14, 23], loops := [(2, [(5, .one (.int .i64))], [])] } F.errataref42_RightLines #[.slice lP lN lC, .int .i64 most] R Φ J = Berrataref42_RightLines lP lN lC most W R Φ J by kernel_rfl]; exact h) c

/-- errataref28.Sub -/
-- loop at region 3: 5 l, 6 i; blocks 
def Berrataref28_Sub (aP : Option Addr) (aN aC : Nat) (bP : Option Addr) (bN bC : Nat) (W : World) (R : List Own) (Φ : PW) (J : Value → World → Prop) : Prop :=
  ∀ (k0 : Nat) (w1 : World) (R2 : List Own), Ctx W w1 (Own.blk k0 [] 39 :: R ++ R2) Φ → ∃ (p3 : Option Addr), ∃ (k4 : Nat), ∃ (k5 : Nat), ∃ (w6 : World), Sem.run Tryd.prog (builtin
  Builtin.append #[22, 22] 22 #[false, false] #[Value.slice (some (Addr.mk k0 0 none)) 0 0, Value.slice aP aN aC]) w1 = Result.ok (Next.value (Value.slice p3 k4 k5)) w6 ∧ ∃ (R7 : List Own), ∃
  (Φ8 : PW), Stable Φ8 ∧ Ctx W w6 (R7 ++ R2) Φ8 ∧ exI fun (I9 : Option Addr → Nat → Nat → Int → List Own → PW → Nat → Prop) => (∃ (R10 : List Own), ∃ (Φ11 : PW), ∃ (k12 : Nat), Stable Φ11 ∧
  (∀ (w13 : World) (R14 : List Own), Ctx W w13 (R7 ++ R14) Φ8 → Ctx W w13 (R10 ++ R14) Φ11) ∧ I9 p3 k4 k5 0 R10 Φ11 k12) ∧ ∀ (p15 : Option Addr) (k16 k17 : Nat) (n18 : Int) (R19 : List Own)
  (I20 : List Nat → World → Prop) (k21 : Nat), Stable I20 → I9 p15 k16 k17 n18 R19 I20 k21 → Br (decide (n18 < (↑bN : Int))) (∃ (R22 : List Own), ∃ (Φ23 : PW), Stable Φ23 ∧ (∀ (w24 : World)
  (R25 : List Own), Ctx W w24 (R19 ++ R25) I20 → Ctx W w24 (R22 ++ R25) Φ23) ∧ (0 ≤ n18 ∧ n18 < (↑bN : Int)) ∧ ptrK none bP fun (k26 k27 : Nat) => (0 ≤ n18 ∧ n18 < (↑bN : Int)) ∧ ptrK none bP
  fun (k28 k29 : Nat) => ∃ (n30 : Int), ∃ (p31 : Option Addr), ∃ (k32 : Nat), ∃ (k33 : Nat), ∃ (n34 : Int), (∀ (w35 : World) (R36 : List Own), Ctx W w35 (R22 ++ R36) Φ23 → ∃ (n37 : Int), ∃
  (p38 : Option Addr), ∃ (k39 : Nat), ∃ (k40 : Nat), ∃ (n41 : Int), RowAt w35 k26 (k27 + n18.toNat * 3) [Value.int IntKind.i64 n37, Value.slice p38 k39 k40, Value.int IntKind.i64 n41] ∧
  Value.agg #[Value.int IntKind.i64 n37, Value.slice p38 k39 k40, Value.int IntKind.i64 n41] = Value.agg #[Value.int IntKind.i64 n30, Value.slice p31 k32 k33, Value.int IntKind.i64 n34]) ∧ ∃
  (n42 : Int), (∀ (w43 : World) (R44 : List Own), Ctx W w43 (R22 ++ R44) Φ23 → ∃ (n45 : Int), w43.cell? (Addr.mk k28 (k29 + n18.toNat * 3 + 2) none) = some (Value.int IntKind.i64 n45) ∧
  Value.int IntKind.i64 n45 = Value.int IntKind.i64 n42) ∧ ∀ (w46 : World) (R47 : List Own), Ctx W w46 (R19 ++ R47) I20 → Calls Tryd.prog F.errataref28_clone #[Value.agg #[Value.int
  IntKind.i64 n30, Value.slice p31 k32 k33, Value.int IntKind.i64 n34], Value.int IntKind.i64 (IntKind.i64.wrap (0 - n42))] w46 fun (e48 : Ending) (w49 : World) => ∃ (n50 : Int), ∃ (p51 :
  Option Addr), ∃ (k52 : Nat), ∃ (k53 : Nat), ∃ (n54 : Int), e48 = Ending.returned (Value.agg #[Value.int IntKind.i64 n50, Value.slice p51 k52 k53, Value.int IntKind.i64 n54]) ∧ ∃ (R55 : List
  Own), ∃ (Φ56 : PW), Stable Φ56 ∧ Ctx W w49 (R55 ++ R47) Φ56 ∧ (∀ (w57 : World) (R58 : List Own), Ctx W w57 (R55 ++ R58) Φ56 → Ctx W w57 (R22 ++ R58) Φ23) ∧ ∀ (k59 : Nat), (∀ (w60 : World)
  (R61 : List Own), Ctx W w60 (Own.blk k59 [Value.int IntKind.i64 n50, Value.slice p51 k52 k53, Value.int IntKind.i64 n54] 39 :: R55 ++ R61) Φ56 → Ctx W w60 (R22 ++ R61) Φ23) ∧ ∀ (w62 :
  World) (R63 : List Own), Ctx W w62 (Own.blk k59 [Value.int IntKind.i64 n50, Value.slice p51 k52 k53, Value.int IntKind.i64 n54] 39 :: R55 ++ R63) Φ56 → ∃ (p64 : Option Addr), ∃ (k65 : Nat),
  ∃ (k66 : Nat), ∃ (w67 : World), Sem.run Tryd.prog (builtin Builtin.append #[22, 22] 22 #[false, false] #[Value.slice p15 k16 k17, Value.slice (some (Addr.mk k59 0 none)) 1 1]) w62 =
  Result.ok (Next.value (Value.slice p64 k65 k66)) w67 ∧ ∃ (R68 : List Own), ∃ (Φ69 : PW), Stable Φ69 ∧ Ctx W w67 (R68 ++ R63) Φ69 ∧ I64 (n18 + 1) ∧ ∃ (R70 : List Own), ∃ (Φ71 : PW), ∃ (k72 :
  Nat), Stable Φ71 ∧ (∀ (w73 : World) (R74 : List Own), Ctx W w73 (R68 ++ R74) Φ69 → Ctx W w73 (R70 ++ R74) Φ71) ∧ I9 p64 k65 k66 (n18 + 1) R70 Φ71 k72 ∧ k72 < k21) (∀ (w75 : World) (R76 :
  List Own), Ctx W w75 (R19 ++ R76) I20 → Calls Tryd.prog F.errataref28_Consolidate #[Value.slice p15 k16 k17] w75 fun (e77 : Ending) (w78 : World) => ∃ (p79 : Option Addr), ∃ (k80 : Nat), ∃
  (k81 : Nat), e77 = Ending.returned (Value.slice p79 k80 k81) ∧ ∃ (R82 : List Own), ∃ (Φ83 : PW), Stable Φ83 ∧ Ctx W w78 (R82 ++ R76) Φ83 ∧ ∀ (w84 : World) (R85 : List Own), Ctx W w84 (R82
  ++ R85) Φ83 → J (Value.slice p79 k80 k81) w84)

theorem Berrataref28_Sub_run (aP : Option Addr) (aN aC : Nat) (bP : Option Addr) (bN bC : Nat) {W w : World} {R : List Own} {Φ : PW} [Stable Φ] {J : Value → World → Prop} (c : Ctx W w R Φ) (h : Berrataref28_Sub aP aN aC bP bN bC W R Φ J) : Calls Tryd.prog F.errataref28_Sub #[.slice aP aN aC, .slice bP bN bC] w fun e w' => ∃ v, e = .returned v ∧ J v w' :=
  vcFS_sound (H := { keep := some [0, 1, 4, 5, 6, 13], wrap := [26], stages := [(5, [.held [(0, true), (1, true), (2, true), (5, true), (6, true), (3, true), (7, true), (4, true), (8, true), (9, true), (10, true), (11, false), (12, false)], .stage [] (some 13), .stage [14] none])], loops := [(3, [(5, .one (.slice)), (6, .one (.int .i64))], [])] }) (by rw [show vcFS Tryd.prog W { keep := some [0, 1, 4, 5, 6, 13], wrap := [26], stages := [(5, [.held [(0, true), (1, true), (2, true), (5, true), (6, true), (3, true), (7, true), (4, true), (8, true), (9, true), (10, true), (11, false), (12, false)], .stage [] (some 13), .stage [14] none])], loops := [(3, [(5, .one (.slice)), (6, .one (.int .i64))], [])] } F.errataref28_Sub #[.slice aP aN aC, .slice bP bN bC] R Φ J = Berrataref28_Sub aP aN aC bP bN bC W R Φ J by kernel_rfl]; exact h) c

/-- errataref42.Same -/
-- loop at region 4: 5 i; blocks 
-- known blocks: 6 x, 7 y
def Berrataref42_Same (aP : Option Addr) (aN aC : Nat) (bP : Option Addr) (bN bC : Nat) (W : World) (R : List Own) (Φ : PW) (J : Value → World → Prop) : Prop :=
  Br (decide ((↑aN : Int) ≠ (↑bN : Int))) (∀ (w0 : World) (R1 : List Own), Ctx W w0 (R ++ R1) Φ → J (Value.bool false) w0) (exI fun (I2 : Int → List Own → PW → Nat → Prop) => (∃ (R3 : List
  Own), ∃ (Φ4 : PW), ∃ (k5 : Nat), Stable Φ4 ∧ (∀ (w6 : World) (R7 : List Own), Ctx W w6 (R ++ R7) Φ → Ctx W w6 (R3 ++ R7) Φ4) ∧ I2 0 R3 Φ4 k5) ∧ ∀ (n8 : Int) (R9 : List Own) (I10 : List Nat
  → World → Prop) (k11 : Nat), Stable I10 → I2 n8 R9 I10 k11 → Br (decide (n8 < (↑aN : Int))) ((0 ≤ n8 ∧ n8 < (↑aN : Int)) ∧ ptrK none aP fun (k12 k13 : Nat) => ∀ (w14 : World) (R15 : List
  Own), Ctx W w14 (R9 ++ R15) I10 → ∃ (n16 : Int), ∃ (n17 : Int), ∃ (n18 : Int), ∃ (p19 : Option Addr), ∃ (k20 : Nat), ∃ (k21 : Nat), ∃ (n22 : Int), ∃ (n23 : Int), ∃ (n24 : Int), RowAt w14
  k12 (k13 + n8.toNat * 7) [Value.int IntKind.i64 n16, Value.int IntKind.i64 n17, Value.int IntKind.i64 n18, Value.slice p19 k20 k21, Value.int IntKind.i64 n22, Value.int IntKind.i64 n23,
  Value.int IntKind.i64 n24] ∧ ∀ (b : Nat), (0 ≤ n8 ∧ n8 < (↑bN : Int)) ∧ ptrK none bP fun (k25 k26 : Nat) => ∀ (w27 : World) (R28 : List Own), Ctx W w27 (R9 ++ R28) I10 → ∃ (n29 : Int), ∃
  (n30 : Int), ∃ (n31 : Int), ∃ (p32 : Option Addr), ∃ (k33 : Nat), ∃ (k34 : Nat), ∃ (n35 : Int), ∃ (n36 : Int), ∃ (n37 : Int), RowAt w27 k25 (k26 + n8.toNat * 7) [Value.int IntKind.i64 n29,
  Value.int IntKind.i64 n30, Value.int IntKind.i64 n31, Value.slice p32 k33 k34, Value.int IntKind.i64 n35, Value.int IntKind.i64 n36, Value.int IntKind.i64 n37] ∧ ∀ (b : Nat), Br (decide
  (n16 ≠ n29)) (∀ (w38 : World) (R39 : List Own), Ctx W w38 (R9 ++ R39) I10 → J (Value.bool false) w38) (Br (decide (n17 ≠ n30)) (∀ (w40 : World) (R41 : List Own), Ctx W w40 (R9 ++ R41) I10 →
  J (Value.bool false) w40) (Br (decide (n18 ≠ n31)) (∀ (w42 : World) (R43 : List Own), Ctx W w42 (R9 ++ R43) I10 → J (Value.bool false) w42) (Br (decide (n22 ≠ n35)) (∀ (w44 : World) (R45 :
  List Own), Ctx W w44 (R9 ++ R45) I10 → J (Value.bool false) w44) (Br (decide (n23 ≠ n36)) (∀ (w46 : World) (R47 : List Own), Ctx W w46 (R9 ++ R47) I10 → J (Value.bool false) w46) (Br
  (decide (n24 ≠ n37)) (∀ (w48 : World) (R49 : List Own), Ctx W w48 (R9 ++ R49) I10 → J (Value.bool false) w48) (∀ (w50 : World) (R51 : List Own), Ctx W w50 (R9 ++ R51) I10 → Calls Tryd.prog
  F.errataref03_Same #[Value.slice p19 k20 k21, Value.slice p32 k33 k34] w50 fun (e52 : Ending) (w53 : World) => ∃ (c54 : Bool), e52 = Ending.returned (Value.bool c54) ∧ ∃ (R55 : List Own), ∃
  (Φ56 : PW), Stable Φ56 ∧ Ctx W w53 (R55 ++ R51) Φ56 ∧ Br (!c54) (∀ (w57 : World) (R58 : List Own), Ctx W w57 (R55 ++ R58) Φ56 → J (Value.bool false) w57) (I64 (n8 + 1) ∧ ∃ (R59 : List Own),
  ∃ (Φ60 : PW), ∃ (k61 : Nat), Stable Φ60 ∧ (∀ (w62 : World) (R63 : List Own), Ctx W w62 (R55 ++ R63) Φ56 → Ctx W w62 (R59 ++ R63) Φ60) ∧ I2 (n8 + 1) R59 Φ60 k61 ∧ k61 < k11)))))))) (∀ (w64 :
  World) (R65 : List Own), Ctx W w64 (R9 ++ R65) I10 → J (Value.bool true) w64))

theorem Berrataref42_Same_run (aP : Option Addr) (aN aC : Nat) (bP : Option Addr) (bN bC : Nat) {W w : World} {R : List Own} {Φ : PW} [Stable Φ] {J : Value → World → Prop} (c : Ctx W w R Φ) (h : Berrataref42_Same aP aN aC bP bN bC W R Φ J) : Calls Tryd.prog F.errataref42_Same #[.slice aP aN aC, .slice bP bN bC] w fun e w' => ∃ v, e = .returned v ∧ J v w' :=
  vcFS_sound (H := { keep := some [0, 1, 4, 5, 6, 7, 12, 16, 74], track := [6, 7], split := [8], loops := [(4, [(5, .one (.int .i64))], [])] }) (by rw [show vcFS Tryd.prog W { keep := some [0, 1, 4, 5, 6, 7, 12, 16, 74], track := [6, 7], split := [8], loops := [(4, [(5, .one (.int .i64))], [])] } F.errataref42_Same #[.slice aP aN aC, .slice bP bN bC] R Φ J = Berrataref42_Same aP aN aC bP bN bC W R Φ J by kernel_rfl]; exact h) c

/-- errataref42.Lines -/
-- loop at region 4: 11 out, 13 i; blocks 
-- known blocks: 14 x
def Berrataref42_Lines (dP : Option Addr) (dN dC : Nat) (no : Int) (batch : Int) (mark : Int) (replace : Int) (W : World) (R : List Own) (Φ : PW) (J : Value → World → Prop) : Prop :=
  ∀ (w0 : World) (R1 : List Own), Ctx W w0 (R ++ R1) Φ → Calls Tryd.prog F.errataref28_Consolidate #[Value.slice dP dN dC] w0 fun (e2 : Ending) (w3 : World) => ∃ (p4 : Option Addr), ∃ (k5 :
  Nat), ∃ (k6 : Nat), e2 = Ending.returned (Value.slice p4 k5 k6) ∧ ∃ (R7 : List Own), ∃ (Φ8 : PW), Stable Φ8 ∧ Ctx W w3 (R7 ++ R1) Φ8 ∧ exI fun (I9 : Option Addr → Nat → Nat → Int → List Own
  → PW → Nat → Prop) => (∃ (R10 : List Own), ∃ (Φ11 : PW), ∃ (k12 : Nat), Stable Φ11 ∧ (∀ (w13 : World) (R14 : List Own), Ctx W w13 (R7 ++ R14) Φ8 → Ctx W w13 (R10 ++ R14) Φ11) ∧ I9 none 0 0
  0 R10 Φ11 k12) ∧ ∀ (p15 : Option Addr) (k16 k17 : Nat) (n18 : Int) (R19 : List Own) (I20 : List Nat → World → Prop) (k21 : Nat), Stable I20 → I9 p15 k16 k17 n18 R19 I20 k21 → Br (decide
  (n18 < (↑k5 : Int))) (∃ (R22 : List Own), ∃ (Φ23 : PW), Stable Φ23 ∧ (∀ (w24 : World) (R25 : List Own), Ctx W w24 (R19 ++ R25) I20 → Ctx W w24 (R22 ++ R25) Φ23) ∧ (0 ≤ n18 ∧ n18 < (↑k5 :
  Int)) ∧ ptrK none p4 fun (k26 k27 : Nat) => (0 ≤ n18 ∧ n18 < (↑k5 : Int)) ∧ ptrK none p4 fun (k28 k29 : Nat) => (0 ≤ n18 ∧ n18 < (↑k5 : Int)) ∧ ptrK none p4 fun (k30 k31 : Nat) => ∃ (n32 :
  Int), (∀ (w33 : World) (R34 : List Own), Ctx W w33 (R22 ++ R34) Φ23 → ∃ (n35 : Int), w33.cell? (Addr.mk k26 (k27 + n18.toNat * 3) none) = some (Value.int IntKind.i64 n35) ∧ Value.int
  IntKind.i64 n35 = Value.int IntKind.i64 n32) ∧ ∃ (p36 : Option Addr), ∃ (k37 : Nat), ∃ (k38 : Nat), (∀ (w39 : World) (R40 : List Own), Ctx W w39 (R22 ++ R40) Φ23 → ∃ (p41 : Option Addr), ∃
  (k42 : Nat), ∃ (k43 : Nat), w39.cell? (Addr.mk k28 (k29 + n18.toNat * 3 + 1) none) = some (Value.slice p41 k42 k43) ∧ Value.slice p41 k42 k43 = Value.slice p36 k37 k38) ∧ ∃ (n44 : Int), (∀
  (w45 : World) (R46 : List Own), Ctx W w45 (R22 ++ R46) Φ23 → ∃ (n47 : Int), w45.cell? (Addr.mk k30 (k31 + n18.toNat * 3 + 2) none) = some (Value.int IntKind.i64 n47) ∧ Value.int IntKind.i64
  n47 = Value.int IntKind.i64 n44) ∧ ∀ (b : Nat), (∀ (w48 : World) (R49 : List Own), Ctx W w48 (R19 ++ R49) I20 → Ctx W w48 (R22 ++ R49) Φ23) ∧ (∀ (w50 : World) (R51 : List Own), Ctx W w50
  (R19 ++ R51) I20 → Ctx W w50 (R22 ++ R51) Φ23) ∧ Br (decide (n32 ≤ mark)) (Br (decide (0 < replace)) (∀ (k52 : Nat) (w53 : World) (R54 : List Own), Ctx W w53 (Own.blk k52 [Value.int
  IntKind.i64 (IntKind.i64.wrap (no + n18)), Value.int IntKind.i64 batch, Value.int IntKind.i64 n32, Value.slice p36 k37 k38, Value.int IntKind.i64 n44, Value.int IntKind.i64 2, Value.int
  IntKind.i64 replace] 56 :: R19 ++ R54) I20 → ∃ (p55 : Option Addr), ∃ (k56 : Nat), ∃ (k57 : Nat), ∃ (w58 : World), Sem.run Tryd.prog (builtin Builtin.append #[23, 23] 23 #[false, false]
  #[Value.slice p15 k16 k17, Value.slice (some (Addr.mk k52 0 none)) 1 1]) w53 = Result.ok (Next.value (Value.slice p55 k56 k57)) w58 ∧ ∃ (R59 : List Own), ∃ (Φ60 : PW), Stable Φ60 ∧ Ctx W
  w58 (R59 ++ R54) Φ60 ∧ I64 (n18 + 1) ∧ ∃ (R61 : List Own), ∃ (Φ62 : PW), ∃ (k63 : Nat), Stable Φ62 ∧ (∀ (w64 : World) (R65 : List Own), Ctx W w64 (R59 ++ R65) Φ60 → Ctx W w64 (R61 ++ R65)
  Φ62) ∧ I9 p55 k56 k57 (n18 + 1) R61 Φ62 k63 ∧ k63 < k21) (∀ (k66 : Nat) (w67 : World) (R68 : List Own), Ctx W w67 (Own.blk k66 [Value.int IntKind.i64 (IntKind.i64.wrap (no + n18)),
  Value.int IntKind.i64 batch, Value.int IntKind.i64 n32, Value.slice p36 k37 k38, Value.int IntKind.i64 n44, Value.int IntKind.i64 1, Value.int IntKind.i64 0] 56 :: R19 ++ R68) I20 → ∃ (p69
  : Option Addr), ∃ (k70 : Nat), ∃ (k71 : Nat), ∃ (w72 : World), Sem.run Tryd.prog (builtin Builtin.append #[23, 23] 23 #[false, false] #[Value.slice p15 k16 k17, Value.slice (some (Addr.mk
  k66 0 none)) 1 1]) w67 = Result.ok (Next.value (Value.slice p69 k70 k71)) w72 ∧ ∃ (R73 : List Own), ∃ (Φ74 : PW), Stable Φ74 ∧ Ctx W w72 (R73 ++ R68) Φ74 ∧ I64 (n18 + 1) ∧ ∃ (R75 : List
  Own), ∃ (Φ76 : PW), ∃ (k77 : Nat), Stable Φ76 ∧ (∀ (w78 : World) (R79 : List Own), Ctx W w78 (R73 ++ R79) Φ74 → Ctx W w78 (R75 ++ R79) Φ76) ∧ I9 p69 k70 k71 (n18 + 1) R75 Φ76 k77 ∧ k77 <
  k21)) (Br (decide (0 < replace)) (∀ (k80 : Nat) (w81 : World) (R82 : List Own), Ctx W w81 (Own.blk k80 [Value.int IntKind.i64 (IntKind.i64.wrap (no + n18)), Value.int IntKind.i64 batch,
  Value.int IntKind.i64 n32, Value.slice p36 k37 k38, Value.int IntKind.i64 n44, Value.int IntKind.i64 2, Value.int IntKind.i64 replace] 56 :: R19 ++ R82) I20 → ∃ (p83 : Option Addr), ∃ (k84
  : Nat), ∃ (k85 : Nat), ∃ (w86 : World), Sem.run Tryd.prog (builtin Builtin.append #[23, 23] 23 #[false, false] #[Value.slice p15 k16 k17, Value.slice (some (Addr.mk k80 0 none)) 1 1]) w81 =
  Result.ok (Next.value (Value.slice p83 k84 k85)) w86 ∧ ∃ (R87 : List Own), ∃ (Φ88 : PW), Stable Φ88 ∧ Ctx W w86 (R87 ++ R82) Φ88 ∧ I64 (n18 + 1) ∧ ∃ (R89 : List Own), ∃ (Φ90 : PW), ∃ (k91 :
  Nat), Stable Φ90 ∧ (∀ (w92 : World) (R93 : List Own), Ctx W w92 (R87 ++ R93) Φ88 → Ctx W w92 (R89 ++ R93) Φ90) ∧ I9 p83 k84 k85 (n18 + 1) R89 Φ90 k91 ∧ k91 < k21) (∀ (k94 : Nat) (w95 :
  World) (R96 : List Own), Ctx W w95 (Own.blk k94 [Value.int IntKind.i64 (IntKind.i64.wrap (no + n18)), Value.int IntKind.i64 batch, Value.int IntKind.i64 n32, Value.slice p36 k37 k38,
  Value.int IntKind.i64 n44, Value.int IntKind.i64 0, Value.int IntKind.i64 0] 56 :: R19 ++ R96) I20 → ∃ (p97 : Option Addr), ∃ (k98 : Nat), ∃ (k99 : Nat), ∃ (w100 : World), Sem.run Tryd.prog
  (builtin Builtin.append #[23, 23] 23 #[false, false] #[Value.slice p15 k16 k17, Value.slice (some (Addr.mk k94 0 none)) 1 1]) w95 = Result.ok (Next.value (Value.slice p97 k98 k99)) w100 ∧ ∃
  (R101 : List Own), ∃ (Φ102 : PW), Stable Φ102 ∧ Ctx W w100 (R101 ++ R96) Φ102 ∧ I64 (n18 + 1) ∧ ∃ (R103 : List Own), ∃ (Φ104 : PW), ∃ (k105 : Nat), Stable Φ104 ∧ (∀ (w106 : World) (R107 :
  List Own), Ctx W w106 (R101 ++ R107) Φ102 → Ctx W w106 (R103 ++ R107) Φ104) ∧ I9 p97 k98 k99 (n18 + 1) R103 Φ104 k105 ∧ k105 < k21))) (∀ (w108 : World) (R109 : List Own), Ctx W w108 (R19 ++
  R109) I20 → J (Value.slice p15 k16 k17) w108)

theorem Berrataref42_Lines_run (dP : Option Addr) (dN dC : Nat) (no : Int) (batch : Int) (mark : Int) (replace : Int) {W w : World} {R : List Own} {Φ : PW} [Stable Φ] {J : Value → World → Prop} (c : Ctx W w R Φ) (h : Berrataref42_Lines dP dN dC no batch mark replace W R Φ J) : Calls Tryd.prog F.errataref42_Lines #[.slice dP dN dC, .int .i64 no, .int .i64 batch, .int .i64 mark, .int .i64 replace] w fun e w' => ∃ v, e = .returned v ∧ J v w' :=
  vcFS_sound (H := { keep := some [0, 1, 2, 3, 4, 10, 11, 12, 13, 14, 20, 46, 49], wrap := [25], track := [14], stages := [(6, [.late [] [0, 1, 3, 4, 5, 9, 10, 14, 15, 2, 6, 11, 16, 7, 12, 17, 8, 13, 18, 19] [(20, []), (21, [])]])], loops := [(4, [(11, .one (.slice)), (13, .one (.int .i64))], [])] }) (by rw [show vcFS Tryd.prog W { keep := some [0, 1, 2, 3, 4, 10, 11, 12, 13, 14, 20, 46, 49], wrap := [25], track := [14], stages := [(6, [.late [] [0, 1, 3, 4, 5, 9, 10, 14, 15, 2, 6, 11, 16, 7, 12, 17, 8, 13, 18, 19] [(20, []), (21, [])]])], loops := [(4, [(11, .one (.slice)), (13, .one (.int .i64))], [])] } F.errataref42_Lines #[.slice dP dN dC, .int .i64 no, .int .i64 batch, .int .i64 mark, .int .i64 replace] R Φ J = Berrataref42_Lines dP dN dC no batch mark replace W R Φ J by kernel_rfl]; exact h) c

/-- errataref42.Net -/
-- loop at region 3: 3 out, 4 i; blocks 
def Berrataref42_Net (lP : Option Addr) (lN lC : Nat) (W : World) (R : List Own) (Φ : PW) (J : Value → World → Prop) : Prop :=
  exI fun (I0 : Option Addr → Nat → Nat → Int → List Own → PW → Nat → Prop) => (∃ (R1 : List Own), ∃ (Φ2 : PW), ∃ (k3 : Nat), Stable Φ2 ∧ (∀ (w4 : World) (R5 : List Own), Ctx W w4 (R ++ R5) Φ
  → Ctx W w4 (R1 ++ R5) Φ2) ∧ I0 none 0 0 0 R1 Φ2 k3) ∧ ∀ (p6 : Option Addr) (k7 k8 : Nat) (n9 : Int) (R10 : List Own) (I11 : List Nat → World → Prop) (k12 : Nat), Stable I11 → I0 p6 k7 k8 n9
  R10 I11 k12 → Br (decide (n9 < (↑lN : Int))) (∃ (R13 : List Own), ∃ (Φ14 : PW), Stable Φ14 ∧ (∀ (w15 : World) (R16 : List Own), Ctx W w15 (R10 ++ R16) I11 → Ctx W w15 (R13 ++ R16) Φ14) ∧ (0
  ≤ n9 ∧ n9 < (↑lN : Int)) ∧ ptrK none lP fun (k17 k18 : Nat) => (0 ≤ n9 ∧ n9 < (↑lN : Int)) ∧ ptrK none lP fun (k19 k20 : Nat) => (0 ≤ n9 ∧ n9 < (↑lN : Int)) ∧ ptrK none lP fun (k21 k22 :
  Nat) => ∃ (n23 : Int), (∀ (w24 : World) (R25 : List Own), Ctx W w24 (R13 ++ R25) Φ14 → ∃ (n26 : Int), w24.cell? (Addr.mk k17 (k18 + n9.toNat * 7 + 2) none) = some (Value.int IntKind.i64
  n26) ∧ Value.int IntKind.i64 n26 = Value.int IntKind.i64 n23) ∧ ∃ (p27 : Option Addr), ∃ (k28 : Nat), ∃ (k29 : Nat), (∀ (w30 : World) (R31 : List Own), Ctx W w30 (R13 ++ R31) Φ14 → ∃ (p32 :
  Option Addr), ∃ (k33 : Nat), ∃ (k34 : Nat), w30.cell? (Addr.mk k19 (k20 + n9.toNat * 7 + 3) none) = some (Value.slice p32 k33 k34) ∧ Value.slice p32 k33 k34 = Value.slice p27 k28 k29) ∧ ∃
  (n35 : Int), (∀ (w36 : World) (R37 : List Own), Ctx W w36 (R13 ++ R37) Φ14 → ∃ (n38 : Int), w36.cell? (Addr.mk k21 (k22 + n9.toNat * 7 + 4) none) = some (Value.int IntKind.i64 n38) ∧
  Value.int IntKind.i64 n38 = Value.int IntKind.i64 n35) ∧ ∀ (k39 : Nat), (∀ (w40 : World) (R41 : List Own), Ctx W w40 (Own.blk k39 [Value.int IntKind.i64 n23, Value.slice p27 k28 k29,
  Value.int IntKind.i64 n35] 39 :: R10 ++ R41) I11 → Ctx W w40 (R13 ++ R41) Φ14) ∧ ∀ (w42 : World) (R43 : List Own), Ctx W w42 (Own.blk k39 [Value.int IntKind.i64 n23, Value.slice p27 k28
  k29, Value.int IntKind.i64 n35] 39 :: R10 ++ R43) I11 → ∃ (p44 : Option Addr), ∃ (k45 : Nat), ∃ (k46 : Nat), ∃ (w47 : World), Sem.run Tryd.prog (builtin Builtin.append #[22, 22] 22 #[false,
  false] #[Value.slice p6 k7 k8, Value.slice (some (Addr.mk k39 0 none)) 1 1]) w42 = Result.ok (Next.value (Value.slice p44 k45 k46)) w47 ∧ ∃ (R48 : List Own), ∃ (Φ49 : PW), Stable Φ49 ∧ Ctx
  W w47 (R48 ++ R43) Φ49 ∧ I64 (n9 + 1) ∧ ∃ (R50 : List Own), ∃ (Φ51 : PW), ∃ (k52 : Nat), Stable Φ51 ∧ (∀ (w53 : World) (R54 : List Own), Ctx W w53 (R48 ++ R54) Φ49 → Ctx W w53 (R50 ++ R54)
  Φ51) ∧ I0 p44 k45 k46 (n9 + 1) R50 Φ51 k52 ∧ k52 < k12) (∀ (w55 : World) (R56 : List Own), Ctx W w55 (R10 ++ R56) I11 → Calls Tryd.prog F.errataref28_Consolidate #[Value.slice p6 k7 k8] w55
  fun (e57 : Ending) (w58 : World) => ∃ (p59 : Option Addr), ∃ (k60 : Nat), ∃ (k61 : Nat), e57 = Ending.returned (Value.slice p59 k60 k61) ∧ ∃ (R62 : List Own), ∃ (Φ63 : PW), Stable Φ63 ∧ Ctx
  W w58 (R62 ++ R56) Φ63 ∧ ∀ (w64 : World) (R65 : List Own), Ctx W w64 (R62 ++ R65) Φ63 → J (Value.slice p59 k60 k61) w64)

theorem Berrataref42_Net_run (lP : Option Addr) (lN lC : Nat) {W w : World} {R : List Own} {Φ : PW} [Stable Φ] {J : Value → World → Prop} (c : Ctx W w R Φ) (h : Berrataref42_Net lP lN lC W R Φ J) : Calls Tryd.prog F.errataref42_Net #[.slice lP lN lC] w fun e w' => ∃ v, e = .returned v ∧ J v w' :=
  vcFS_sound (H := { keep := some [0, 2, 3, 4, 8], stages := [(5, [.held [(0, true), (1, true), (2, true), (6, true), (7, true), (11, true), (12, true), (3, true), (8, true), (13, true), (4, true), (9, true), (14, true), (5, true), (10, true), (15, true), (16, true), (17, false)], .stage [] (some 18), .stage [19] none])], loops := [(3, [(3, .one (.slice)), (4, .one (.int .i64))], [])] }) (by rw [show vcFS Tryd.prog W { keep := some [0, 2, 3, 4, 8], stages := [(5, [.held [(0, true), (1, true), (2, true), (6, true), (7, true), (11, true), (12, true), (3, true), (8, true), (13, true), (4, true), (9, true), (14, true), (5, true), (10, true), (15, true), (16, true), (17, false)], .stage [] (some 18), .stage [19] none])], loops := [(3, [(3, .one (.slice)), (4, .one (.int .i64))], [])] } F.errataref42_Net #[.slice lP lN lC] R Φ J = Berrataref42_Net lP lN lC W R Φ J by kernel_rfl]; exact h) c

/-- errataref42.Least -/
-- loop at region 3: 3 live, 4 i; blocks 
-- known blocks: 5 x, 7 b
def Berrataref42_Least (lP : Option Addr) (lN lC : Nat) (W : World) (R : List Own) (Φ : PW) (J : Value → World → Prop) : Prop :=
  exI fun (I0 : Bool → Int → List Own → PW → Nat → Prop) => (∃ (R1 : List Own), ∃ (Φ2 : PW), ∃ (k3 : Nat), Stable Φ2 ∧ (∀ (w4 : World) (R5 : List Own), Ctx W w4 (R ++ R5) Φ → Ctx W w4 (R1 ++
  R5) Φ2) ∧ I0 false 0 R1 Φ2 k3) ∧ ∀ (c6 : Bool) (n7 : Int) (R8 : List Own) (I9 : List Nat → World → Prop) (k10 : Nat), Stable I9 → I0 c6 n7 R8 I9 k10 → Br (decide (n7 < (↑lN : Int))) ((0 ≤
  n7 ∧ n7 < (↑lN : Int)) ∧ ptrK none lP fun (k11 k12 : Nat) => ∀ (w13 : World) (R14 : List Own), Ctx W w13 (R8 ++ R14) I9 → ∃ (n15 : Int), ∃ (n16 : Int), ∃ (n17 : Int), ∃ (p18 : Option Addr),
  ∃ (k19 : Nat), ∃ (k20 : Nat), ∃ (n21 : Int), ∃ (n22 : Int), ∃ (n23 : Int), RowAt w13 k11 (k12 + n7.toNat * 7) [Value.int IntKind.i64 n15, Value.int IntKind.i64 n16, Value.int IntKind.i64
  n17, Value.slice p18 k19 k20, Value.int IntKind.i64 n21, Value.int IntKind.i64 n22, Value.int IntKind.i64 n23] ∧ ∀ (b : Nat) (w24 : World) (R25 : List Own), Ctx W w24 (R8 ++ R25) I9 → ∀
  (w26 : World) (R27 : List Own), Ctx W w26 (R8 ++ R27) I9 → Br (!(decide (n22 = 2) && decide (0 < n23) || (decide (n22 = 0) || decide (n22 = 1)) && decide (n23 = 0)) || decide (n21 = 0) ||
  decide (n22 = 1) && c6) (∀ (w28 : World) (R29 : List Own), Ctx W w28 (R8 ++ R29) I9 → J (Value.bool false) w28) (∀ (w30 : World) (R31 : List Own), Ctx W w30 (R8 ++ R31) I9 → Br (decide (n7
  = 0)) (I64 (n7 + 1) ∧ ∃ (R32 : List Own), ∃ (Φ33 : PW), ∃ (k34 : Nat), Stable Φ33 ∧ (∀ (w35 : World) (R36 : List Own), Ctx W w35 (R8 ++ R36) I9 → Ctx W w35 (R32 ++ R36) Φ33) ∧ I0 (c6 ||
  decide (n22 = 0)) (n7 + 1) R32 Φ33 k34 ∧ k34 < k10) (I64 (n7 - 1) ∧ (0 ≤ max (n7 - 1) 0 ∧ max (n7 - 1) 0 < (↑lN : Int)) ∧ ptrK none lP fun (k37 k38 : Nat) => ∀ (w39 : World) (R40 : List
  Own), Ctx W w39 (R8 ++ R40) I9 → ∃ (n41 : Int), ∃ (n42 : Int), ∃ (n43 : Int), ∃ (p44 : Option Addr), ∃ (k45 : Nat), ∃ (k46 : Nat), ∃ (n47 : Int), ∃ (n48 : Int), ∃ (n49 : Int), RowAt w39 k37
  (k38 + (max (n7 - 1) 0).toNat * 7) [Value.int IntKind.i64 n41, Value.int IntKind.i64 n42, Value.int IntKind.i64 n43, Value.slice p44 k45 k46, Value.int IntKind.i64 n47, Value.int
  IntKind.i64 n48, Value.int IntKind.i64 n49] ∧ ∀ (b : Nat) (w50 : World) (R51 : List Own), Ctx W w50 (R8 ++ R51) I9 → Br (decide (n15 ≠ IntKind.i64.wrap (n41 + 1)) || decide (n16 ≠ n42) ||
  decide (n23 ≠ n49) || decide (n22 = 2) != decide (n48 = 2)) (∀ (w52 : World) (R53 : List Own), Ctx W w52 (R8 ++ R53) I9 → J (Value.bool false) w52) (Br (decide (n17 < n43)) (∀ (w54 : World)
  (R55 : List Own), Ctx W w54 (R8 ++ R55) I9 → J (Value.bool false) w54) (Br (decide (n17 = n43)) (∀ (w56 : World) (R57 : List Own), Ctx W w56 (R8 ++ R57) I9 → Calls Tryd.prog
  F.errataref03_CompareRows #[Value.slice p44 k45 k46, Value.slice p18 k19 k20] w56 fun (e58 : Ending) (w59 : World) => ∃ (n60 : Int), e58 = Ending.returned (Value.int IntKind.i64 n60) ∧ ∃
  (R61 : List Own), ∃ (Φ62 : PW), Stable Φ62 ∧ Ctx W w59 (R61 ++ R57) Φ62 ∧ Br (decide (0 ≤ n60)) (∀ (w63 : World) (R64 : List Own), Ctx W w63 (R61 ++ R64) Φ62 → J (Value.bool false) w63) (Br
  (decide (n17 = n43)) (Br (decide (n22 ≠ n48)) (∀ (w65 : World) (R66 : List Own), Ctx W w65 (R61 ++ R66) Φ62 → J (Value.bool false) w65) (I64 (n7 + 1) ∧ ∃ (R67 : List Own), ∃ (Φ68 : PW), ∃
  (k69 : Nat), Stable Φ68 ∧ (∀ (w70 : World) (R71 : List Own), Ctx W w70 (R61 ++ R71) Φ62 → Ctx W w70 (R67 ++ R71) Φ68) ∧ I0 (c6 || decide (n22 = 0)) (n7 + 1) R67 Φ68 k69 ∧ k69 < k10)) (I64
  (n7 + 1) ∧ ∃ (R72 : List Own), ∃ (Φ73 : PW), ∃ (k74 : Nat), Stable Φ73 ∧ (∀ (w75 : World) (R76 : List Own), Ctx W w75 (R61 ++ R76) Φ62 → Ctx W w75 (R72 ++ R76) Φ73) ∧ I0 (c6 || decide (n22
  = 0)) (n7 + 1) R72 Φ73 k74 ∧ k74 < k10))) (Br (decide (n17 = n43)) (Br (decide (n22 ≠ n48)) (∀ (w77 : World) (R78 : List Own), Ctx W w77 (R8 ++ R78) I9 → J (Value.bool false) w77) (I64 (n7
  + 1) ∧ ∃ (R79 : List Own), ∃ (Φ80 : PW), ∃ (k81 : Nat), Stable Φ80 ∧ (∀ (w82 : World) (R83 : List Own), Ctx W w82 (R8 ++ R83) I9 → Ctx W w82 (R79 ++ R83) Φ80) ∧ I0 (c6 || decide (n22 = 0))
  (n7 + 1) R79 Φ80 k81 ∧ k81 < k10)) (I64 (n7 + 1) ∧ ∃ (R84 : List Own), ∃ (Φ85 : PW), ∃ (k86 : Nat), Stable Φ85 ∧ (∀ (w87 : World) (R88 : List Own), Ctx W w87 (R8 ++ R88) I9 → Ctx W w87 (R84
  ++ R88) Φ85) ∧ I0 (c6 || decide (n22 = 0)) (n7 + 1) R84 Φ85 k86 ∧ k86 < k10))))))) (∀ (w89 : World) (R90 : List Own), Ctx W w89 (R8 ++ R90) I9 → J (Value.bool true) w89)

theorem Berrataref42_Least_run (lP : Option Addr) (lN lC : Nat) {W w : World} {R : List Own} {Φ : PW} [Stable Φ] {J : Value → World → Prop} (c : Ctx W w R Φ) (h : Berrataref42_Least lP lN lC W R Φ J) : Calls Tryd.prog F.errataref42_Least #[.slice lP lN lC] w fun e w' => ∃ v, e = .returned v ∧ J v w' :=
  vcFS_sound (H := { keep := some [0, 2, 3, 4, 5, 6, 7, 11, 55, 63, 98, 132], wrap := [74], track := [5, 7], split := [14], loops := [(3, [(3, .one (.bool)), (4, .one (.int .i64))], [])] }) (by rw [show vcFS Tryd.prog W { keep := some [0, 2, 3, 4, 5, 6, 7, 11, 55, 63, 98, 132], wrap := [74], track := [5, 7], split := [14], loops := [(3, [(3, .one (.bool)), (4, .one (.int .i64))], [])] } F.errataref42_Least #[.slice lP lN lC] R Φ J = Berrataref42_Least lP lN lC W R Φ J by kernel_rfl]; exact h) c

/-- difference.Split -/
-- loop at region 3: 10 ; blocks 
-- known blocks: 5 x
def Bdifference_Split (dP : Option Addr) (dN dC : Nat) (W : World) (R : List Own) (Φ : PW) (J : Value → World → Prop) : Prop :=
  ∀ (k0 : Nat) (w1 : World) (R2 : List Own), Ctx W w1 (Own.blk k0 [Value.slice none 0 0, Value.slice none 0 0, Value.slice none 0 0, Value.slice none 0 0, Value.slice none 0 0, Value.slice
  none 0 0, Value.slice none 0 0, Value.slice none 0 0, Value.slice none 0 0, Value.slice none 0 0, Value.slice none 0 0, Value.slice none 0 0, Value.slice none 0 0, Value.slice none 0 0,
  Value.slice none 0 0, Value.slice none 0 0] 63 :: R ++ R2) Φ → Calls Tryd.prog F.delta_Consolidate #[Value.slice dP dN dC] w1 fun (e3 : Ending) (w4 : World) => ∃ (p5 : Option Addr), ∃ (k6 :
  Nat), ∃ (k7 : Nat), e3 = Ending.returned (Value.slice p5 k6 k7) ∧ ∃ (R8 : List Own), ∃ (Φ9 : PW), Stable Φ9 ∧ Ctx W w4 (R8 ++ R2) Φ9 ∧ exI fun (I10 : Int → List Own → PW → Nat → Prop) => (∃
  (R11 : List Own), ∃ (Φ12 : PW), ∃ (k13 : Nat), Stable Φ12 ∧ (∀ (w14 : World) (R15 : List Own), Ctx W w14 (R8 ++ R15) Φ9 → Ctx W w14 (R11 ++ R15) Φ12) ∧ I10 0 R11 Φ12 k13) ∧ ∀ (n16 : Int)
  (R17 : List Own) (I18 : List Nat → World → Prop) (k19 : Nat), Stable I18 → I10 n16 R17 I18 k19 → Br (decide (n16 < (↑k6 : Int))) ((0 ≤ n16 ∧ n16 < (↑k6 : Int)) ∧ ptrK none p5 fun (k20 k21 :
  Nat) => ∀ (w22 : World) (R23 : List Own), Ctx W w22 (R17 ++ R23) I18 → ∃ (n24 : Int), ∃ (p25 : Option Addr), ∃ (k26 : Nat), ∃ (k27 : Nat), ∃ (n28 : Int), RowAt w22 k20 (k21 + n16.toNat * 3)
  [Value.int IntKind.i64 n24, Value.slice p25 k26 k27, Value.int IntKind.i64 n28] ∧ ∀ (b : Nat) (w29 : World) (R30 : List Own), Ctx W w29 (R17 ++ R30) I18 → Calls Tryd.prog F.place_Bucket
  #[Value.slice p25 k26 k27] w29 fun (e31 : Ending) (w32 : World) => ∃ (n33 : Int), e31 = Ending.returned (Value.int IntKind.i64 n33) ∧ ∃ (R34 : List Own), ∃ (Φ35 : PW), Stable Φ35 ∧ Ctx W
  w32 (R34 ++ R30) Φ35 ∧ ∃ (R36 : List Own), ∃ (Φ37 : PW), Stable Φ37 ∧ (∀ (w38 : World) (R39 : List Own), Ctx W w38 (R34 ++ R39) Φ35 → Ctx W w38 (R36 ++ R39) Φ37) ∧ (0 ≤ n33 ∧ n33 < 16) ∧ ∃
  (p40 : Option Addr), ∃ (k41 : Nat), ∃ (k42 : Nat), (∀ (w43 : World) (R44 : List Own), Ctx W w43 (R36 ++ R44) Φ37 → ∃ (p45 : Option Addr), ∃ (k46 : Nat), ∃ (k47 : Nat), w43.cell? (Addr.mk k0
  (0 + n33.toNat) none) = some (Value.slice p45 k46 k47) ∧ Value.slice p45 k46 k47 = Value.slice p40 k41 k42) ∧ ∀ (k48 : Nat), (∀ (w49 : World) (R50 : List Own), Ctx W w49 (Own.blk k48
  [Value.int IntKind.i64 n24, Value.slice p25 k26 k27, Value.int IntKind.i64 n28] 39 :: R34 ++ R50) Φ35 → Ctx W w49 (R36 ++ R50) Φ37) ∧ ∀ (w51 : World) (R52 : List Own), Ctx W w51 (Own.blk
  k48 [Value.int IntKind.i64 n24, Value.slice p25 k26 k27, Value.int IntKind.i64 n28] 39 :: R34 ++ R52) Φ35 → ∃ (p53 : Option Addr), ∃ (k54 : Nat), ∃ (k55 : Nat), ∃ (w56 : World), Sem.run
  Tryd.prog (builtin Builtin.append #[22, 22] 22 #[false, false] #[Value.slice p40 k41 k42, Value.slice (some (Addr.mk k48 0 none)) 1 1]) w51 = Result.ok (Next.value (Value.slice p53 k54
  k55)) w56 ∧ ∃ (R57 : List Own), ∃ (Φ58 : PW), Stable Φ58 ∧ Ctx W w56 (R57 ++ R52) Φ58 ∧ (∀ (w59 : World) (R60 : List Own), Ctx W w59 (R57 ++ R60) Φ58 → Ctx W w59 (R36 ++ R60) Φ37) ∧ (0 ≤
  n33 ∧ n33 < 16) ∧ ∀ (w61 : World) (R62 : List Own), Ctx W w61 (R57 ++ R62) Φ58 → CanWrite w61 k0 (0 + n33.toNat) 1 ∧ ∀ (w63 : World), w63 = w61.setCell (Addr.mk k0 (0 + n33.toNat) none)
  (Value.slice p53 k54 k55) → ∃ (R64 : List Own), ∃ (Φ65 : PW), Stable Φ65 ∧ Ctx W w63 (R64 ++ R62) Φ65 ∧ I64 (n16 + 1) ∧ ∃ (R66 : List Own), ∃ (Φ67 : PW), ∃ (k68 : Nat), Stable Φ67 ∧ (∀ (w69
  : World) (R70 : List Own), Ctx W w69 (R64 ++ R70) Φ65 → Ctx W w69 (R66 ++ R70) Φ67) ∧ I10 (n16 + 1) R66 Φ67 k68 ∧ k68 < k19) (Nat.le 16 16 ∧ ∀ (w71 : World) (R72 : List Own), Ctx W w71 (R17
  ++ R72) I18 → J (Value.slice (subPtr (some (Addr.mk k0 0 none)) 1 0 16) 16 16) w71)

theorem Bdifference_Split_run (dP : Option Addr) (dN dC : Nat) {W w : World} {R : List Own} {Φ : PW} [Stable Φ] {J : Value → World → Prop} (c : Ctx W w R Φ) (h : Bdifference_Split dP dN dC W R Φ J) : Calls Tryd.prog F.difference_Split #[.slice dP dN dC] w fun e w' => ∃ v, e = .returned v ∧ J v w' :=
  vcFS_sound (H := { keep := some [0, 2, 3, 5, 6, 8, 9, 10, 11], track := [5], stages := [(6, [.held [(0, true), (1, true), (4, true), (2, true), (3, true), (5, false), (6, false)], .stage [7] (some 8)])], loops := [(3, [(10, .one (.int .i64))], [])] }) (by rw [show vcFS Tryd.prog W { keep := some [0, 2, 3, 5, 6, 8, 9, 10, 11], track := [5], stages := [(6, [.held [(0, true), (1, true), (4, true), (2, true), (3, true), (5, false), (6, false)], .stage [7] (some 8)])], loops := [(3, [(10, .one (.int .i64))], [])] } F.difference_Split #[.slice dP dN dC] R Φ J = Bdifference_Split dP dN dC W R Φ J by kernel_rfl]; exact h) c

/-- errataref42.Part -/
-- loop at region 4: 5 out, 7 i; blocks 
def Berrataref42_Part (dP : Option Addr) (dN dC : Nat) (bucket : Int) (W : World) (R : List Own) (Φ : PW) (J : Value → World → Prop) : Prop :=
  ∀ (w0 : World) (R1 : List Own), Ctx W w0 (R ++ R1) Φ → Calls Tryd.prog F.errataref28_Consolidate #[Value.slice dP dN dC] w0 fun (e2 : Ending) (w3 : World) => ∃ (p4 : Option Addr), ∃ (k5 :
  Nat), ∃ (k6 : Nat), e2 = Ending.returned (Value.slice p4 k5 k6) ∧ ∃ (R7 : List Own), ∃ (Φ8 : PW), Stable Φ8 ∧ Ctx W w3 (R7 ++ R1) Φ8 ∧ exI fun (I9 : Option Addr → Nat → Nat → Int → List Own
  → PW → Nat → Prop) => (∃ (R10 : List Own), ∃ (Φ11 : PW), ∃ (k12 : Nat), Stable Φ11 ∧ (∀ (w13 : World) (R14 : List Own), Ctx W w13 (R7 ++ R14) Φ8 → Ctx W w13 (R10 ++ R14) Φ11) ∧ I9 none 0 0
  0 R10 Φ11 k12) ∧ ∀ (p15 : Option Addr) (k16 k17 : Nat) (n18 : Int) (R19 : List Own) (I20 : List Nat → World → Prop) (k21 : Nat), Stable I20 → I9 p15 k16 k17 n18 R19 I20 k21 → Br (decide
  (n18 < (↑k5 : Int))) ((0 ≤ n18 ∧ n18 < (↑k5 : Int)) ∧ ptrK none p4 fun (k22 k23 : Nat) => ∀ (w24 : World) (R25 : List Own), Ctx W w24 (R19 ++ R25) I20 → ∃ (p26 : Option Addr), ∃ (k27 :
  Nat), ∃ (k28 : Nat), w24.cell? (Addr.mk k22 (k23 + n18.toNat * 3 + 1) none) = some (Value.slice p26 k27 k28) ∧ ∀ (w29 : World) (R30 : List Own), Ctx W w29 (R19 ++ R30) I20 → Calls Tryd.prog
  F.errataref37_Bucket #[Value.slice p26 k27 k28] w29 fun (e31 : Ending) (w32 : World) => ∃ (n33 : Int), e31 = Ending.returned (Value.int IntKind.i64 n33) ∧ ∃ (R34 : List Own), ∃ (Φ35 : PW),
  Stable Φ35 ∧ Ctx W w32 (R34 ++ R30) Φ35 ∧ Br (decide (n33 = bucket)) ((0 ≤ n18 ∧ n18 < (↑k5 : Int)) ∧ ptrK none p4 fun (k36 k37 : Nat) => ∀ (w38 : World) (R39 : List Own), Ctx W w38 (R34 ++
  R39) Φ35 → ∃ (n40 : Int), ∃ (p41 : Option Addr), ∃ (k42 : Nat), ∃ (k43 : Nat), ∃ (n44 : Int), RowAt w38 k36 (k37 + n18.toNat * 3) [Value.int IntKind.i64 n40, Value.slice p41 k42 k43,
  Value.int IntKind.i64 n44] ∧ ∀ (k45 : Nat) (w46 : World) (R47 : List Own), Ctx W w46 (Own.blk k45 [Value.int IntKind.i64 n40, Value.slice p41 k42 k43, Value.int IntKind.i64 n44] 39 :: R34
  ++ R47) Φ35 → ∃ (p48 : Option Addr), ∃ (k49 : Nat), ∃ (k50 : Nat), ∃ (w51 : World), Sem.run Tryd.prog (builtin Builtin.append #[22, 22] 22 #[false, false] #[Value.slice p15 k16 k17,
  Value.slice (some (Addr.mk k45 0 none)) 1 1]) w46 = Result.ok (Next.value (Value.slice p48 k49 k50)) w51 ∧ ∃ (R52 : List Own), ∃ (Φ53 : PW), Stable Φ53 ∧ Ctx W w51 (R52 ++ R47) Φ53 ∧ I64
  (n18 + 1) ∧ ∃ (R54 : List Own), ∃ (Φ55 : PW), ∃ (k56 : Nat), Stable Φ55 ∧ (∀ (w57 : World) (R58 : List Own), Ctx W w57 (R52 ++ R58) Φ53 → Ctx W w57 (R54 ++ R58) Φ55) ∧ I9 p48 k49 k50 (n18 +
  1) R54 Φ55 k56 ∧ k56 < k21) (I64 (n18 + 1) ∧ ∃ (R59 : List Own), ∃ (Φ60 : PW), ∃ (k61 : Nat), Stable Φ60 ∧ (∀ (w62 : World) (R63 : List Own), Ctx W w62 (R34 ++ R63) Φ35 → Ctx W w62 (R59 ++
  R63) Φ60) ∧ I9 p15 k16 k17 (n18 + 1) R59 Φ60 k61 ∧ k61 < k21)) (∀ (w64 : World) (R65 : List Own), Ctx W w64 (R19 ++ R65) I20 → J (Value.slice p15 k16 k17) w64)

theorem Berrataref42_Part_run (dP : Option Addr) (dN dC : Nat) (bucket : Int) {W w : World} {R : List Own} {Φ : PW} [Stable Φ] {J : Value → World → Prop} (c : Ctx W w R Φ) (h : Berrataref42_Part dP dN dC bucket W R Φ J) : Calls Tryd.prog F.errataref42_Part #[.slice dP dN dC, .int .i64 bucket] w fun e w' => ∃ v, e = .returned v ∧ J v w' :=
  vcFS_sound (H := { keep := some [0, 1, 4, 5, 6, 7, 13, 23], loops := [(4, [(5, .one (.slice)), (7, .one (.int .i64))], [])] }) (by rw [show vcFS Tryd.prog W { keep := some [0, 1, 4, 5, 6, 7, 13, 23], loops := [(4, [(5, .one (.slice)), (7, .one (.int .i64))], [])] } F.errataref42_Part #[.slice dP dN dC, .int .i64 bucket] R Φ J = Berrataref42_Part dP dN dC bucket W R Φ J by kernel_rfl]; exact h) c

/-- difference.Part -/
-- loop at region 2: 6 ; blocks 
def Bdifference_Part (dP : Option Addr) (dN dC : Nat) (bucket : Int) (W : World) (R : List Own) (Φ : PW) (J : Value → World → Prop) : Prop :=
  exI fun (I0 : Int → List Own → PW → Nat → Prop) => (∃ (R1 : List Own), ∃ (Φ2 : PW), ∃ (k3 : Nat), Stable Φ2 ∧ (∀ (w4 : World) (R5 : List Own), Ctx W w4 (R ++ R5) Φ → Ctx W w4 (R1 ++ R5) Φ2)
  ∧ I0 0 R1 Φ2 k3) ∧ ∀ (n6 : Int) (R7 : List Own) (I8 : List Nat → World → Prop) (k9 : Nat), Stable I8 → I0 n6 R7 I8 k9 → Br (decide (n6 < 16)) (Br (decide (n6 = bucket)) (∀ (w10 : World)
  (R11 : List Own), Ctx W w10 (R7 ++ R11) I8 → Calls Tryd.prog F.difference_Split #[Value.slice dP dN dC] w10 fun (e12 : Ending) (w13 : World) => ∃ (p14 : Option Addr), ∃ (k15 : Nat), ∃ (k16
  : Nat), e12 = Ending.returned (Value.slice p14 k15 k16) ∧ ∃ (R17 : List Own), ∃ (Φ18 : PW), Stable Φ18 ∧ Ctx W w13 (R17 ++ R11) Φ18 ∧ (0 ≤ n6 ∧ n6 < (↑k15 : Int)) ∧ ptrK none p14 fun (k19
  k20 : Nat) => ∀ (w21 : World) (R22 : List Own), Ctx W w21 (R17 ++ R22) Φ18 → ∃ (p23 : Option Addr), ∃ (k24 : Nat), ∃ (k25 : Nat), w21.cell? (Addr.mk k19 (k20 + n6.toNat) none) = some
  (Value.slice p23 k24 k25) ∧ ∀ (w26 : World) (R27 : List Own), Ctx W w26 (R17 ++ R27) Φ18 → J (Value.slice p23 k24 k25) w26) (I64 (n6 + 1) ∧ ∃ (R28 : List Own), ∃ (Φ29 : PW), ∃ (k30 : Nat),
  Stable Φ29 ∧ (∀ (w31 : World) (R32 : List Own), Ctx W w31 (R7 ++ R32) I8 → Ctx W w31 (R28 ++ R32) Φ29) ∧ I0 (n6 + 1) R28 Φ29 k30 ∧ k30 < k9)) (∀ (w33 : World) (R34 : List Own), Ctx W w33
  (R7 ++ R34) I8 → J (Value.slice none 0 0) w33)

theorem Bdifference_Part_run (dP : Option Addr) (dN dC : Nat) (bucket : Int) {W w : World} {R : List Own} {Φ : PW} [Stable Φ] {J : Value → World → Prop} (c : Ctx W w R Φ) (h : Bdifference_Part dP dN dC bucket W R Φ J) : Calls Tryd.prog F.difference_Part #[.slice dP dN dC, .int .i64 bucket] w fun e w' => ∃ v, e = .returned v ∧ J v w' :=
  vcFS_sound (H := { keep := some [0, 1, 4, 5, 6, 7, 11], loops := [(2, [(6, .one (.int .i64))], [])] }) (by rw [show vcFS Tryd.prog W { keep := some [0, 1, 4, 5, 6, 7, 11], loops := [(2, [(6, .one (.int .i64))], [])] } F.difference_Part #[.slice dP dN dC, .int .i64 bucket] R Φ J = Bdifference_Part dP dN dC bucket W R Φ J by kernel_rfl]; exact h) c

/-- errataref28.Consolidate -/
-- loop at region 7: 6 n, 7 k; blocks 
-- loop at region 4: 4 out, 5 i; blocks 
def Berrataref28_Consolidate (lP : Option Addr) (lN lC : Nat) (W : World) (R : List Own) (Φ : PW) (J : Value → World → Prop) : Prop :=
  ∀ (w0 : World) (R1 : List Own), Ctx W w0 (R ++ R1) Φ → Calls Tryd.prog F.errataref28_sorted #[Value.slice lP lN lC] w0 fun (e2 : Ending) (w3 : World) => ∃ (p4 : Option Addr), ∃ (k5 : Nat),
  ∃ (k6 : Nat), e2 = Ending.returned (Value.slice p4 k5 k6) ∧ ∃ (R7 : List Own), ∃ (Φ8 : PW), Stable Φ8 ∧ Ctx W w3 (R7 ++ R1) Φ8 ∧ exI fun (I9 : Option Addr → Nat → Nat → Int → List Own → PW
  → Nat → Prop) => (∃ (R10 : List Own), ∃ (Φ11 : PW), ∃ (k12 : Nat), Stable Φ11 ∧ (∀ (w13 : World) (R14 : List Own), Ctx W w13 (R7 ++ R14) Φ8 → Ctx W w13 (R10 ++ R14) Φ11) ∧ I9 none 0 0 0 R10
  Φ11 k12) ∧ ∀ (p15 : Option Addr) (k16 k17 : Nat) (n18 : Int) (R19 : List Own) (I20 : List Nat → World → Prop) (k21 : Nat), Stable I20 → I9 p15 k16 k17 n18 R19 I20 k21 → Br (decide (n18 <
  (↑k5 : Int))) (exI fun (I22 : Int → Int → List Own → PW → Nat → Prop) => (∃ (R23 : List Own), ∃ (Φ24 : PW), ∃ (k25 : Nat), Stable Φ24 ∧ (∀ (w26 : World) (R27 : List Own), Ctx W w26 (R19 ++
  R27) I20 → Ctx W w26 (R23 ++ R27) Φ24) ∧ I22 0 n18 R23 Φ24 k25) ∧ ∀ (n28 n29 : Int) (R30 : List Own) (I31 : List Nat → World → Prop) (k32 : Nat), Stable I31 → I22 n28 n29 R30 I31 k32 → ∃
  (R33 : List Own), ∃ (Φ34 : PW), Stable Φ34 ∧ (∀ (w35 : World) (R36 : List Own), Ctx W w35 (R30 ++ R36) I31 → Ctx W w35 (R33 ++ R36) Φ34) ∧ Br (decide (n29 < (↑k5 : Int))) ((0 ≤ n18 ∧ n18 <
  (↑k5 : Int)) ∧ ptrK none p4 fun (k37 k38 : Nat) => ∃ (n39 : Int), ∃ (p40 : Option Addr), ∃ (k41 : Nat), ∃ (k42 : Nat), ∃ (n43 : Int), (∀ (w44 : World) (R45 : List Own), Ctx W w44 (R33 ++
  R45) Φ34 → ∃ (n46 : Int), ∃ (p47 : Option Addr), ∃ (k48 : Nat), ∃ (k49 : Nat), ∃ (n50 : Int), RowAt w44 k37 (k38 + n18.toNat * 3) [Value.int IntKind.i64 n46, Value.slice p47 k48 k49,
  Value.int IntKind.i64 n50] ∧ Value.agg #[Value.int IntKind.i64 n46, Value.slice p47 k48 k49, Value.int IntKind.i64 n50] = Value.agg #[Value.int IntKind.i64 n39, Value.slice p40 k41 k42,
  Value.int IntKind.i64 n43]) ∧ I64 ((↑k5 : Int) - 1) ∧ (0 ≤ min n29 ((↑k5 : Int) - 1) ∧ min n29 ((↑k5 : Int) - 1) < (↑k5 : Int)) ∧ ptrK none p4 fun (k51 k52 : Nat) => ∃ (n53 : Int), ∃ (p54 :
  Option Addr), ∃ (k55 : Nat), ∃ (k56 : Nat), ∃ (n57 : Int), (∀ (w58 : World) (R59 : List Own), Ctx W w58 (R33 ++ R59) Φ34 → ∃ (n60 : Int), ∃ (p61 : Option Addr), ∃ (k62 : Nat), ∃ (k63 :
  Nat), ∃ (n64 : Int), RowAt w58 k51 (k52 + (min n29 ((↑k5 : Int) - 1)).toNat * 3) [Value.int IntKind.i64 n60, Value.slice p61 k62 k63, Value.int IntKind.i64 n64] ∧ Value.agg #[Value.int
  IntKind.i64 n60, Value.slice p61 k62 k63, Value.int IntKind.i64 n64] = Value.agg #[Value.int IntKind.i64 n53, Value.slice p54 k55 k56, Value.int IntKind.i64 n57]) ∧ ∀ (w65 : World) (R66 :
  List Own), Ctx W w65 (R30 ++ R66) I31 → Calls Tryd.prog F.errataref28_Compare #[Value.agg #[Value.int IntKind.i64 n39, Value.slice p40 k41 k42, Value.int IntKind.i64 n43], Value.agg
  #[Value.int IntKind.i64 n53, Value.slice p54 k55 k56, Value.int IntKind.i64 n57]] w65 fun (e67 : Ending) (w68 : World) => ∃ (n69 : Int), e67 = Ending.returned (Value.int IntKind.i64 n69) ∧
  ∃ (R70 : List Own), ∃ (Φ71 : PW), Stable Φ71 ∧ Ctx W w68 (R70 ++ R66) Φ71 ∧ Br (decide (n69 = 0)) ((0 ≤ n29 ∧ n29 < (↑k5 : Int)) ∧ ptrK none p4 fun (k72 k73 : Nat) => ∀ (w74 : World) (R75 :
  List Own), Ctx W w74 (R70 ++ R75) Φ71 → ∃ (n76 : Int), w74.cell? (Addr.mk k72 (k73 + n29.toNat * 3 + 2) none) = some (Value.int IntKind.i64 n76) ∧ I64 (n29 + 1) ∧ ∃ (R77 : List Own), ∃ (Φ78
  : PW), ∃ (k79 : Nat), Stable Φ78 ∧ (∀ (w80 : World) (R81 : List Own), Ctx W w80 (R70 ++ R81) Φ71 → Ctx W w80 (R77 ++ R81) Φ78) ∧ I22 (IntKind.i64.wrap (n28 + n76)) (n29 + 1) R77 Φ78 k79 ∧
  k79 < k32) (Br (decide (n28 ≠ 0)) ((0 ≤ n18 ∧ n18 < (↑k5 : Int)) ∧ ptrK none p4 fun (k82 k83 : Nat) => ∀ (w84 : World) (R85 : List Own), Ctx W w84 (R70 ++ R85) Φ71 → ∃ (n86 : Int), ∃ (p87 :
  Option Addr), ∃ (k88 : Nat), ∃ (k89 : Nat), ∃ (n90 : Int), RowAt w84 k82 (k83 + n18.toNat * 3) [Value.int IntKind.i64 n86, Value.slice p87 k88 k89, Value.int IntKind.i64 n90] ∧ ∀ (w91 :
  World) (R92 : List Own), Ctx W w91 (R70 ++ R92) Φ71 → Calls Tryd.prog F.errataref28_clone #[Value.agg #[Value.int IntKind.i64 n86, Value.slice p87 k88 k89, Value.int IntKind.i64 n90],
  Value.int IntKind.i64 n28] w91 fun (e93 : Ending) (w94 : World) => ∃ (n95 : Int), ∃ (p96 : Option Addr), ∃ (k97 : Nat), ∃ (k98 : Nat), ∃ (n99 : Int), e93 = Ending.returned (Value.agg
  #[Value.int IntKind.i64 n95, Value.slice p96 k97 k98, Value.int IntKind.i64 n99]) ∧ ∃ (R100 : List Own), ∃ (Φ101 : PW), Stable Φ101 ∧ Ctx W w94 (R100 ++ R92) Φ101 ∧ ∀ (k102 : Nat) (w103 :
  World) (R104 : List Own), Ctx W w103 (Own.blk k102 [Value.int IntKind.i64 n95, Value.slice p96 k97 k98, Value.int IntKind.i64 n99] 39 :: R100 ++ R104) Φ101 → ∃ (p105 : Option Addr), ∃ (k106
  : Nat), ∃ (k107 : Nat), ∃ (w108 : World), Sem.run Tryd.prog (builtin Builtin.append #[22, 22] 22 #[false, false] #[Value.slice p15 k16 k17, Value.slice (some (Addr.mk k102 0 none)) 1 1])
  w103 = Result.ok (Next.value (Value.slice p105 k106 k107)) w108 ∧ ∃ (R109 : List Own), ∃ (Φ110 : PW), Stable Φ110 ∧ Ctx W w108 (R109 ++ R104) Φ110 ∧ ∃ (R111 : List Own), ∃ (Φ112 : PW), ∃
  (k113 : Nat), Stable Φ112 ∧ (∀ (w114 : World) (R115 : List Own), Ctx W w114 (R109 ++ R115) Φ110 → Ctx W w114 (R111 ++ R115) Φ112) ∧ I9 p105 k106 k107 n29 R111 Φ112 k113 ∧ k113 < k21) (∃
  (R116 : List Own), ∃ (Φ117 : PW), ∃ (k118 : Nat), Stable Φ117 ∧ (∀ (w119 : World) (R120 : List Own), Ctx W w119 (R70 ++ R120) Φ71 → Ctx W w119 (R116 ++ R120) Φ117) ∧ I9 p15 k16 k17 n29 R116
  Φ117 k118 ∧ k118 < k21))) (Br (decide (n28 ≠ 0)) ((0 ≤ n18 ∧ n18 < (↑k5 : Int)) ∧ ptrK none p4 fun (k121 k122 : Nat) => ∀ (w123 : World) (R124 : List Own), Ctx W w123 (R30 ++ R124) I31 → ∃
  (n125 : Int), ∃ (p126 : Option Addr), ∃ (k127 : Nat), ∃ (k128 : Nat), ∃ (n129 : Int), RowAt w123 k121 (k122 + n18.toNat * 3) [Value.int IntKind.i64 n125, Value.slice p126 k127 k128,
  Value.int IntKind.i64 n129] ∧ ∀ (w130 : World) (R131 : List Own), Ctx W w130 (R30 ++ R131) I31 → Calls Tryd.prog F.errataref28_clone #[Value.agg #[Value.int IntKind.i64 n125, Value.slice
  p126 k127 k128, Value.int IntKind.i64 n129], Value.int IntKind.i64 n28] w130 fun (e132 : Ending) (w133 : World) => ∃ (n134 : Int), ∃ (p135 : Option Addr), ∃ (k136 : Nat), ∃ (k137 : Nat), ∃
  (n138 : Int), e132 = Ending.returned (Value.agg #[Value.int IntKind.i64 n134, Value.slice p135 k136 k137, Value.int IntKind.i64 n138]) ∧ ∃ (R139 : List Own), ∃ (Φ140 : PW), Stable Φ140 ∧
  Ctx W w133 (R139 ++ R131) Φ140 ∧ ∀ (k141 : Nat) (w142 : World) (R143 : List Own), Ctx W w142 (Own.blk k141 [Value.int IntKind.i64 n134, Value.slice p135 k136 k137, Value.int IntKind.i64
  n138] 39 :: R139 ++ R143) Φ140 → ∃ (p144 : Option Addr), ∃ (k145 : Nat), ∃ (k146 : Nat), ∃ (w147 : World), Sem.run Tryd.prog (builtin Builtin.append #[22, 22] 22 #[false, false]
  #[Value.slice p15 k16 k17, Value.slice (some (Addr.mk k141 0 none)) 1 1]) w142 = Result.ok (Next.value (Value.slice p144 k145 k146)) w147 ∧ ∃ (R148 : List Own), ∃ (Φ149 : PW), Stable Φ149 ∧
  Ctx W w147 (R148 ++ R143) Φ149 ∧ ∃ (R150 : List Own), ∃ (Φ151 : PW), ∃ (k152 : Nat), Stable Φ151 ∧ (∀ (w153 : World) (R154 : List Own), Ctx W w153 (R148 ++ R154) Φ149 → Ctx W w153 (R150 ++
  R154) Φ151) ∧ I9 p144 k145 k146 n29 R150 Φ151 k152 ∧ k152 < k21) (∃ (R155 : List Own), ∃ (Φ156 : PW), ∃ (k157 : Nat), Stable Φ156 ∧ (∀ (w158 : World) (R159 : List Own), Ctx W w158 (R30 ++
  R159) I31 → Ctx W w158 (R155 ++ R159) Φ156) ∧ I9 p15 k16 k17 n29 R155 Φ156 k157 ∧ k157 < k21))) (∀ (w160 : World) (R161 : List Own), Ctx W w160 (R19 ++ R161) I20 → J (Value.slice p15 k16
  k17) w160)

theorem Berrataref28_Consolidate_run (lP : Option Addr) (lN lC : Nat) {W w : World} {R : List Own} {Φ : PW} [Stable Φ] {J : Value → World → Prop} (c : Ctx W w R Φ) (h : Berrataref28_Consolidate lP lN lC W R Φ J) : Calls Tryd.prog F.errataref28_Consolidate #[.slice lP lN lC] w fun e w' => ∃ v, e = .returned v ∧ J v w' :=
  vcFS_sound (H := { keep := some [0, 2, 3, 4, 5, 6, 7, 13, 34, 45], wrap := [41], stages := [(7, [.held [(0, true), (1, true), (2, true), (3, true), (4, true), (5, true), (6, true), (9, true), (10, true), (11, true), (7, true), (12, true), (8, true), (13, true), (14, true), (15, true), (16, true)], .stage [] (some 17), .stage [18, 19] none])], loops := [(7, [(6, .one (.int .i64)), (7, .one (.int .i64))], []), (4, [(4, .one (.slice)), (5, .one (.int .i64))], [])] }) (by rw [show vcFS Tryd.prog W { keep := some [0, 2, 3, 4, 5, 6, 7, 13, 34, 45], wrap := [41], stages := [(7, [.held [(0, true), (1, true), (2, true), (3, true), (4, true), (5, true), (6, true), (9, true), (10, true), (11, true), (7, true), (12, true), (8, true), (13, true), (14, true), (15, true), (16, true)], .stage [] (some 17), .stage [18, 19] none])], loops := [(7, [(6, .one (.int .i64)), (7, .one (.int .i64))], []), (4, [(4, .one (.slice)), (5, .one (.int .i64))], [])] } F.errataref28_Consolidate #[.slice lP lN lC] R Φ J = Berrataref28_Consolidate lP lN lC W R Φ J by kernel_rfl]; exact h) c

/-- errataref28.Add -/
def Berrataref28_Add (aP : Option Addr) (aN aC : Nat) (bP : Option Addr) (bN bC : Nat) (W : World) (R : List Own) (Φ : PW) (J : Value → World → Prop) : Prop :=
  ∀ (k0 : Nat) (w1 : World) (R2 : List Own), Ctx W w1 (Own.blk k0 [] 39 :: R ++ R2) Φ → ∃ (p3 : Option Addr), ∃ (k4 : Nat), ∃ (k5 : Nat), ∃ (w6 : World), Sem.run Tryd.prog (builtin
  Builtin.append #[22, 22] 22 #[false, false] #[Value.slice (some (Addr.mk k0 0 none)) 0 0, Value.slice aP aN aC]) w1 = Result.ok (Next.value (Value.slice p3 k4 k5)) w6 ∧ ∃ (R7 : List Own), ∃
  (Φ8 : PW), Stable Φ8 ∧ Ctx W w6 (R7 ++ R2) Φ8 ∧ ∀ (w9 : World) (R10 : List Own), Ctx W w9 (R7 ++ R10) Φ8 → ∃ (p11 : Option Addr), ∃ (k12 : Nat), ∃ (k13 : Nat), ∃ (w14 : World), Sem.run
  Tryd.prog (builtin Builtin.append #[22, 22] 22 #[false, false] #[Value.slice p3 k4 k5, Value.slice bP bN bC]) w9 = Result.ok (Next.value (Value.slice p11 k12 k13)) w14 ∧ ∃ (R15 : List Own),
  ∃ (Φ16 : PW), Stable Φ16 ∧ Ctx W w14 (R15 ++ R10) Φ16 ∧ ∀ (w17 : World) (R18 : List Own), Ctx W w17 (R15 ++ R18) Φ16 → Calls Tryd.prog F.errataref28_Consolidate #[Value.slice p11 k12 k13]
  w17 fun (e19 : Ending) (w20 : World) => ∃ (p21 : Option Addr), ∃ (k22 : Nat), ∃ (k23 : Nat), e19 = Ending.returned (Value.slice p21 k22 k23) ∧ ∃ (R24 : List Own), ∃ (Φ25 : PW), Stable Φ25 ∧
  Ctx W w20 (R24 ++ R18) Φ25 ∧ ∀ (w26 : World) (R27 : List Own), Ctx W w26 (R24 ++ R27) Φ25 → J (Value.slice p21 k22 k23) w26

/-- errataref28.Upto -/
-- loop at region 3: 5 out, 6 i; blocks 
def Berrataref28_Upto (lP : Option Addr) (lN lC : Nat) (t : Int) (W : World) (R : List Own) (Φ : PW) (J : Value → World → Prop) : Prop :=
  exI fun (I0 : Option Addr → Nat → Nat → Int → List Own → PW → Nat → Prop) => (∃ (R1 : List Own), ∃ (Φ2 : PW), ∃ (k3 : Nat), Stable Φ2 ∧ (∀ (w4 : World) (R5 : List Own), Ctx W w4 (R ++ R5) Φ
  → Ctx W w4 (R1 ++ R5) Φ2) ∧ I0 none 0 0 0 R1 Φ2 k3) ∧ ∀ (p6 : Option Addr) (k7 k8 : Nat) (n9 : Int) (R10 : List Own) (I11 : List Nat → World → Prop) (k12 : Nat), Stable I11 → I0 p6 k7 k8 n9
  R10 I11 k12 → Br (decide (n9 < (↑lN : Int))) ((0 ≤ n9 ∧ n9 < (↑lN : Int)) ∧ ptrK none lP fun (k13 k14 : Nat) => ∀ (w15 : World) (R16 : List Own), Ctx W w15 (R10 ++ R16) I11 → ∃ (n17 : Int),
  w15.cell? (Addr.mk k13 (k14 + n9.toNat * 3) none) = some (Value.int IntKind.i64 n17) ∧ Br (decide (n17 ≤ t)) ((0 ≤ n9 ∧ n9 < (↑lN : Int)) ∧ ptrK none lP fun (k18 k19 : Nat) => ∀ (w20 :
  World) (R21 : List Own), Ctx W w20 (R10 ++ R21) I11 → ∃ (n22 : Int), ∃ (p23 : Option Addr), ∃ (k24 : Nat), ∃ (k25 : Nat), ∃ (n26 : Int), RowAt w20 k18 (k19 + n9.toNat * 3) [Value.int
  IntKind.i64 n22, Value.slice p23 k24 k25, Value.int IntKind.i64 n26] ∧ ∀ (k27 : Nat) (w28 : World) (R29 : List Own), Ctx W w28 (Own.blk k27 [Value.int IntKind.i64 n22, Value.slice p23 k24
  k25, Value.int IntKind.i64 n26] 39 :: R10 ++ R29) I11 → ∃ (p30 : Option Addr), ∃ (k31 : Nat), ∃ (k32 : Nat), ∃ (w33 : World), Sem.run Tryd.prog (builtin Builtin.append #[22, 22] 22 #[false,
  false] #[Value.slice p6 k7 k8, Value.slice (some (Addr.mk k27 0 none)) 1 1]) w28 = Result.ok (Next.value (Value.slice p30 k31 k32)) w33 ∧ ∃ (R34 : List Own), ∃ (Φ35 : PW), Stable Φ35 ∧ Ctx
  W w33 (R34 ++ R29) Φ35 ∧ I64 (n9 + 1) ∧ ∃ (R36 : List Own), ∃ (Φ37 : PW), ∃ (k38 : Nat), Stable Φ37 ∧ (∀ (w39 : World) (R40 : List Own), Ctx W w39 (R34 ++ R40) Φ35 → Ctx W w39 (R36 ++ R40)
  Φ37) ∧ I0 p30 k31 k32 (n9 + 1) R36 Φ37 k38 ∧ k38 < k12) (I64 (n9 + 1) ∧ ∃ (R41 : List Own), ∃ (Φ42 : PW), ∃ (k43 : Nat), Stable Φ42 ∧ (∀ (w44 : World) (R45 : List Own), Ctx W w44 (R10 ++
  R45) I11 → Ctx W w44 (R41 ++ R45) Φ42) ∧ I0 p6 k7 k8 (n9 + 1) R41 Φ42 k43 ∧ k43 < k12)) (∀ (w46 : World) (R47 : List Own), Ctx W w46 (R10 ++ R47) I11 → Calls Tryd.prog
  F.errataref28_Consolidate #[Value.slice p6 k7 k8] w46 fun (e48 : Ending) (w49 : World) => ∃ (p50 : Option Addr), ∃ (k51 : Nat), ∃ (k52 : Nat), e48 = Ending.returned (Value.slice p50 k51
  k52) ∧ ∃ (R53 : List Own), ∃ (Φ54 : PW), Stable Φ54 ∧ Ctx W w49 (R53 ++ R47) Φ54 ∧ ∀ (w55 : World) (R56 : List Own), Ctx W w55 (R53 ++ R56) Φ54 → J (Value.slice p50 k51 k52) w55)

/-- errataref28.After -/
-- loop at region 3: 5 out, 6 i; blocks 
def Berrataref28_After (lP : Option Addr) (lN lC : Nat) (t : Int) (W : World) (R : List Own) (Φ : PW) (J : Value → World → Prop) : Prop :=
  exI fun (I0 : Option Addr → Nat → Nat → Int → List Own → PW → Nat → Prop) => (∃ (R1 : List Own), ∃ (Φ2 : PW), ∃ (k3 : Nat), Stable Φ2 ∧ (∀ (w4 : World) (R5 : List Own), Ctx W w4 (R ++ R5) Φ
  → Ctx W w4 (R1 ++ R5) Φ2) ∧ I0 none 0 0 0 R1 Φ2 k3) ∧ ∀ (p6 : Option Addr) (k7 k8 : Nat) (n9 : Int) (R10 : List Own) (I11 : List Nat → World → Prop) (k12 : Nat), Stable I11 → I0 p6 k7 k8 n9
  R10 I11 k12 → Br (decide (n9 < (↑lN : Int))) ((0 ≤ n9 ∧ n9 < (↑lN : Int)) ∧ ptrK none lP fun (k13 k14 : Nat) => ∀ (w15 : World) (R16 : List Own), Ctx W w15 (R10 ++ R16) I11 → ∃ (n17 : Int),
  w15.cell? (Addr.mk k13 (k14 + n9.toNat * 3) none) = some (Value.int IntKind.i64 n17) ∧ Br (decide (t < n17)) ((0 ≤ n9 ∧ n9 < (↑lN : Int)) ∧ ptrK none lP fun (k18 k19 : Nat) => ∀ (w20 :
  World) (R21 : List Own), Ctx W w20 (R10 ++ R21) I11 → ∃ (n22 : Int), ∃ (p23 : Option Addr), ∃ (k24 : Nat), ∃ (k25 : Nat), ∃ (n26 : Int), RowAt w20 k18 (k19 + n9.toNat * 3) [Value.int
  IntKind.i64 n22, Value.slice p23 k24 k25, Value.int IntKind.i64 n26] ∧ ∀ (k27 : Nat) (w28 : World) (R29 : List Own), Ctx W w28 (Own.blk k27 [Value.int IntKind.i64 n22, Value.slice p23 k24
  k25, Value.int IntKind.i64 n26] 39 :: R10 ++ R29) I11 → ∃ (p30 : Option Addr), ∃ (k31 : Nat), ∃ (k32 : Nat), ∃ (w33 : World), Sem.run Tryd.prog (builtin Builtin.append #[22, 22] 22 #[false,
  false] #[Value.slice p6 k7 k8, Value.slice (some (Addr.mk k27 0 none)) 1 1]) w28 = Result.ok (Next.value (Value.slice p30 k31 k32)) w33 ∧ ∃ (R34 : List Own), ∃ (Φ35 : PW), Stable Φ35 ∧ Ctx
  W w33 (R34 ++ R29) Φ35 ∧ I64 (n9 + 1) ∧ ∃ (R36 : List Own), ∃ (Φ37 : PW), ∃ (k38 : Nat), Stable Φ37 ∧ (∀ (w39 : World) (R40 : List Own), Ctx W w39 (R34 ++ R40) Φ35 → Ctx W w39 (R36 ++ R40)
  Φ37) ∧ I0 p30 k31 k32 (n9 + 1) R36 Φ37 k38 ∧ k38 < k12) (I64 (n9 + 1) ∧ ∃ (R41 : List Own), ∃ (Φ42 : PW), ∃ (k43 : Nat), Stable Φ42 ∧ (∀ (w44 : World) (R45 : List Own), Ctx W w44 (R10 ++
  R45) I11 → Ctx W w44 (R41 ++ R45) Φ42) ∧ I0 p6 k7 k8 (n9 + 1) R41 Φ42 k43 ∧ k43 < k12)) (∀ (w46 : World) (R47 : List Own), Ctx W w46 (R10 ++ R47) I11 → Calls Tryd.prog
  F.errataref28_Consolidate #[Value.slice p6 k7 k8] w46 fun (e48 : Ending) (w49 : World) => ∃ (p50 : Option Addr), ∃ (k51 : Nat), ∃ (k52 : Nat), e48 = Ending.returned (Value.slice p50 k51
  k52) ∧ ∃ (R53 : List Own), ∃ (Φ54 : PW), Stable Φ54 ∧ Ctx W w49 (R53 ++ R47) Φ54 ∧ ∀ (w55 : World) (R56 : List Own), Ctx W w55 (R53 ++ R56) Φ54 → J (Value.slice p50 k51 k52) w55)

/-- errataref28.Consolidated -/
-- loop at region 2: 3 i; blocks 
def Berrataref28_Consolidated (lP : Option Addr) (lN lC : Nat) (W : World) (R : List Own) (Φ : PW) (J : Value → World → Prop) : Prop :=
  exI fun (I0 : Int → List Own → PW → Nat → Prop) => (∃ (R1 : List Own), ∃ (Φ2 : PW), ∃ (k3 : Nat), Stable Φ2 ∧ (∀ (w4 : World) (R5 : List Own), Ctx W w4 (R ++ R5) Φ → Ctx W w4 (R1 ++ R5) Φ2)
  ∧ I0 0 R1 Φ2 k3) ∧ ∀ (n6 : Int) (R7 : List Own) (I8 : List Nat → World → Prop) (k9 : Nat), Stable I8 → I0 n6 R7 I8 k9 → Br (decide (n6 < (↑lN : Int))) (∃ (R10 : List Own), ∃ (Φ11 : PW),
  Stable Φ11 ∧ (∀ (w12 : World) (R13 : List Own), Ctx W w12 (R7 ++ R13) I8 → Ctx W w12 (R10 ++ R13) Φ11) ∧ (0 ≤ n6 ∧ n6 < (↑lN : Int)) ∧ ptrK none lP fun (k14 k15 : Nat) => ∃ (n16 : Int), (∀
  (w17 : World) (R18 : List Own), Ctx W w17 (R10 ++ R18) Φ11 → ∃ (n19 : Int), w17.cell? (Addr.mk k14 (k15 + n6.toNat * 3 + 2) none) = some (Value.int IntKind.i64 n19) ∧ Value.int IntKind.i64
  n19 = Value.int IntKind.i64 n16) ∧ Br (decide (n16 = 0)) (∀ (w20 : World) (R21 : List Own), Ctx W w20 (R7 ++ R21) I8 → J (Value.bool false) w20) (Br (decide (0 < n6)) (I64 (n6 - 1) ∧ (0 ≤
  n6 ∧ n6 < (↑lN : Int)) ∧ ptrK none lP fun (k22 k23 : Nat) => ∃ (n24 : Int), ∃ (p25 : Option Addr), ∃ (k26 : Nat), ∃ (k27 : Nat), ∃ (n28 : Int), (∀ (w29 : World) (R30 : List Own), Ctx W w29
  (R10 ++ R30) Φ11 → ∃ (n31 : Int), ∃ (p32 : Option Addr), ∃ (k33 : Nat), ∃ (k34 : Nat), ∃ (n35 : Int), RowAt w29 k22 (k23 + n6.toNat * 3) [Value.int IntKind.i64 n31, Value.slice p32 k33 k34,
  Value.int IntKind.i64 n35] ∧ Value.agg #[Value.int IntKind.i64 n31, Value.slice p32 k33 k34, Value.int IntKind.i64 n35] = Value.agg #[Value.int IntKind.i64 n24, Value.slice p25 k26 k27,
  Value.int IntKind.i64 n28]) ∧ (0 ≤ max (n6 - 1) 0 ∧ max (n6 - 1) 0 < (↑lN : Int)) ∧ ptrK none lP fun (k36 k37 : Nat) => ∃ (n38 : Int), ∃ (p39 : Option Addr), ∃ (k40 : Nat), ∃ (k41 : Nat), ∃
  (n42 : Int), (∀ (w43 : World) (R44 : List Own), Ctx W w43 (R10 ++ R44) Φ11 → ∃ (n45 : Int), ∃ (p46 : Option Addr), ∃ (k47 : Nat), ∃ (k48 : Nat), ∃ (n49 : Int), RowAt w43 k36 (k37 + (max (n6
  - 1) 0).toNat * 3) [Value.int IntKind.i64 n45, Value.slice p46 k47 k48, Value.int IntKind.i64 n49] ∧ Value.agg #[Value.int IntKind.i64 n45, Value.slice p46 k47 k48, Value.int IntKind.i64
  n49] = Value.agg #[Value.int IntKind.i64 n38, Value.slice p39 k40 k41, Value.int IntKind.i64 n42]) ∧ ∀ (w50 : World) (R51 : List Own), Ctx W w50 (R7 ++ R51) I8 → Calls Tryd.prog
  F.errataref28_Compare #[Value.agg #[Value.int IntKind.i64 n38, Value.slice p39 k40 k41, Value.int IntKind.i64 n42], Value.agg #[Value.int IntKind.i64 n24, Value.slice p25 k26 k27, Value.int
  IntKind.i64 n28]] w50 fun (e52 : Ending) (w53 : World) => ∃ (n54 : Int), e52 = Ending.returned (Value.int IntKind.i64 n54) ∧ ∃ (R55 : List Own), ∃ (Φ56 : PW), Stable Φ56 ∧ Ctx W w53 (R55 ++
  R51) Φ56 ∧ Br (decide (0 ≤ n54)) (∀ (w57 : World) (R58 : List Own), Ctx W w57 (R55 ++ R58) Φ56 → J (Value.bool false) w57) (I64 (n6 + 1) ∧ ∃ (R59 : List Own), ∃ (Φ60 : PW), ∃ (k61 : Nat),
  Stable Φ60 ∧ (∀ (w62 : World) (R63 : List Own), Ctx W w62 (R55 ++ R63) Φ56 → Ctx W w62 (R59 ++ R63) Φ60) ∧ I0 (n6 + 1) R59 Φ60 k61 ∧ k61 < k9)) (I64 (n6 + 1) ∧ ∃ (R64 : List Own), ∃ (Φ65 :
  PW), ∃ (k66 : Nat), Stable Φ65 ∧ (∀ (w67 : World) (R68 : List Own), Ctx W w67 (R7 ++ R68) I8 → Ctx W w67 (R64 ++ R68) Φ65) ∧ I0 (n6 + 1) R64 Φ65 k66 ∧ k66 < k9))) (∀ (w69 : World) (R70 :
  List Own), Ctx W w69 (R7 ++ R70) I8 → J (Value.bool true) w69)

/-- errataref28.Find -/
-- loop at region 3: 7 n, 8 i; blocks 
def Berrataref28_Find (lP : Option Addr) (lN lC : Nat) (time : Int) (rowP : Option Addr) (rowN rowC : Nat) (W : World) (R : List Own) (Φ : PW) (J : Value → World → Prop) : Prop :=
  exI fun (I0 : Int → Int → List Own → PW → Nat → Prop) => (∃ (R1 : List Own), ∃ (Φ2 : PW), ∃ (k3 : Nat), Stable Φ2 ∧ (∀ (w4 : World) (R5 : List Own), Ctx W w4 (R ++ R5) Φ → Ctx W w4 (R1 ++
  R5) Φ2) ∧ I0 0 0 R1 Φ2 k3) ∧ ∀ (n6 n7 : Int) (R8 : List Own) (I9 : List Nat → World → Prop) (k10 : Nat), Stable I9 → I0 n6 n7 R8 I9 k10 → Br (decide (n7 < (↑lN : Int))) ((0 ≤ n7 ∧ n7 < (↑lN
  : Int)) ∧ ptrK none lP fun (k11 k12 : Nat) => ∀ (w13 : World) (R14 : List Own), Ctx W w13 (R8 ++ R14) I9 → ∃ (n15 : Int), ∃ (p16 : Option Addr), ∃ (k17 : Nat), ∃ (k18 : Nat), ∃ (n19 : Int),
  RowAt w13 k11 (k12 + n7.toNat * 3) [Value.int IntKind.i64 n15, Value.slice p16 k17 k18, Value.int IntKind.i64 n19] ∧ ∀ (w20 : World) (R21 : List Own), Ctx W w20 (R8 ++ R21) I9 → Calls
  Tryd.prog F.errataref28_Compare #[Value.agg #[Value.int IntKind.i64 n15, Value.slice p16 k17 k18, Value.int IntKind.i64 n19], Value.agg #[Value.int IntKind.i64 time, Value.slice rowP rowN
  rowC, Value.int IntKind.i64 0]] w20 fun (e22 : Ending) (w23 : World) => ∃ (n24 : Int), e22 = Ending.returned (Value.int IntKind.i64 n24) ∧ ∃ (R25 : List Own), ∃ (Φ26 : PW), Stable Φ26 ∧ Ctx
  W w23 (R25 ++ R21) Φ26 ∧ Br (decide (n24 = 0)) ((0 ≤ n7 ∧ n7 < (↑lN : Int)) ∧ ptrK none lP fun (k27 k28 : Nat) => ∀ (w29 : World) (R30 : List Own), Ctx W w29 (R25 ++ R30) Φ26 → ∃ (n31 :
  Int), w29.cell? (Addr.mk k27 (k28 + n7.toNat * 3 + 2) none) = some (Value.int IntKind.i64 n31) ∧ I64 (n7 + 1) ∧ ∃ (R32 : List Own), ∃ (Φ33 : PW), ∃ (k34 : Nat), Stable Φ33 ∧ (∀ (w35 :
  World) (R36 : List Own), Ctx W w35 (R25 ++ R36) Φ26 → Ctx W w35 (R32 ++ R36) Φ33) ∧ I0 (IntKind.i64.wrap (n6 + n31)) (n7 + 1) R32 Φ33 k34 ∧ k34 < k10) (I64 (n7 + 1) ∧ ∃ (R37 : List Own), ∃
  (Φ38 : PW), ∃ (k39 : Nat), Stable Φ38 ∧ (∀ (w40 : World) (R41 : List Own), Ctx W w40 (R25 ++ R41) Φ26 → Ctx W w40 (R37 ++ R41) Φ38) ∧ I0 n6 (n7 + 1) R37 Φ38 k39 ∧ k39 < k10)) (∀ (w42 :
  World) (R43 : List Own), Ctx W w42 (R8 ++ R43) I9 → J (Value.int IntKind.i64 n6) w42)

/-- errataref28.Multiset -/
-- loop at region 3: 4 i; blocks 
def Berrataref28_Multiset (lP : Option Addr) (lN lC : Nat) (W : World) (R : List Own) (Φ : PW) (J : Value → World → Prop) : Prop :=
  ∀ (w0 : World) (R1 : List Own), Ctx W w0 (R ++ R1) Φ → Calls Tryd.prog F.errataref28_Consolidate #[Value.slice lP lN lC] w0 fun (e2 : Ending) (w3 : World) => ∃ (p4 : Option Addr), ∃ (k5 :
  Nat), ∃ (k6 : Nat), e2 = Ending.returned (Value.slice p4 k5 k6) ∧ ∃ (R7 : List Own), ∃ (Φ8 : PW), Stable Φ8 ∧ Ctx W w3 (R7 ++ R1) Φ8 ∧ exI fun (I9 : Int → List Own → PW → Nat → Prop) => (∃
  (R10 : List Own), ∃ (Φ11 : PW), ∃ (k12 : Nat), Stable Φ11 ∧ (∀ (w13 : World) (R14 : List Own), Ctx W w13 (R7 ++ R14) Φ8 → Ctx W w13 (R10 ++ R14) Φ11) ∧ I9 0 R10 Φ11 k12) ∧ ∀ (n15 : Int)
  (R16 : List Own) (I17 : List Nat → World → Prop) (k18 : Nat), Stable I17 → I9 n15 R16 I17 k18 → Br (decide (n15 < (↑k5 : Int))) ((0 ≤ n15 ∧ n15 < (↑k5 : Int)) ∧ ptrK none p4 fun (k19 k20 :
  Nat) => ∀ (w21 : World) (R22 : List Own), Ctx W w21 (R16 ++ R22) I17 → ∃ (n23 : Int), w21.cell? (Addr.mk k19 (k20 + n15.toNat * 3 + 2) none) = some (Value.int IntKind.i64 n23) ∧ Br (decide
  (n23 < 0)) (∀ (w24 : World) (R25 : List Own), Ctx W w24 (R16 ++ R25) I17 → J (Value.bool false) w24) (I64 (n15 + 1) ∧ ∃ (R26 : List Own), ∃ (Φ27 : PW), ∃ (k28 : Nat), Stable Φ27 ∧ (∀ (w29 :
  World) (R30 : List Own), Ctx W w29 (R16 ++ R30) I17 → Ctx W w29 (R26 ++ R30) Φ27) ∧ I9 (n15 + 1) R26 Φ27 k28 ∧ k28 < k18)) (∀ (w31 : World) (R32 : List Own), Ctx W w31 (R16 ++ R32) I17 → J
  (Value.bool true) w31)

/-- errataref28.Count -/
-- loop at region 3: 3 n, 4 i; blocks 
def Berrataref28_Count (lP : Option Addr) (lN lC : Nat) (W : World) (R : List Own) (Φ : PW) (J : Value → World → Prop) : Prop :=
  exI fun (I0 : Int → Int → List Own → PW → Nat → Prop) => (∃ (R1 : List Own), ∃ (Φ2 : PW), ∃ (k3 : Nat), Stable Φ2 ∧ (∀ (w4 : World) (R5 : List Own), Ctx W w4 (R ++ R5) Φ → Ctx W w4 (R1 ++
  R5) Φ2) ∧ I0 0 0 R1 Φ2 k3) ∧ ∀ (n6 n7 : Int) (R8 : List Own) (I9 : List Nat → World → Prop) (k10 : Nat), Stable I9 → I0 n6 n7 R8 I9 k10 → Br (decide (n7 < (↑lN : Int))) ((0 ≤ n7 ∧ n7 < (↑lN
  : Int)) ∧ ptrK none lP fun (k11 k12 : Nat) => ∀ (w13 : World) (R14 : List Own), Ctx W w13 (R8 ++ R14) I9 → ∃ (n15 : Int), w13.cell? (Addr.mk k11 (k12 + n7.toNat * 3 + 2) none) = some
  (Value.int IntKind.i64 n15) ∧ I64 (n7 + 1) ∧ ∃ (R16 : List Own), ∃ (Φ17 : PW), ∃ (k18 : Nat), Stable Φ17 ∧ (∀ (w19 : World) (R20 : List Own), Ctx W w19 (R8 ++ R20) I9 → Ctx W w19 (R16 ++
  R20) Φ17) ∧ I0 (IntKind.i64.wrap (n6 + n15)) (n7 + 1) R16 Φ17 k18 ∧ k18 < k10) (∀ (w21 : World) (R22 : List Own), Ctx W w21 (R8 ++ R22) I9 → J (Value.int IntKind.i64 n6) w21)

/-- errataref28.Same -/
def Berrataref28_Same (aP : Option Addr) (aN aC : Nat) (bP : Option Addr) (bN bC : Nat) (W : World) (R : List Own) (Φ : PW) (J : Value → World → Prop) : Prop :=
  ∀ (w0 : World) (R1 : List Own), Ctx W w0 (R ++ R1) Φ → Calls Tryd.prog F.errataref28_Consolidate #[Value.slice aP aN aC] w0 fun (e2 : Ending) (w3 : World) => ∃ (p4 : Option Addr), ∃ (k5 :
  Nat), ∃ (k6 : Nat), e2 = Ending.returned (Value.slice p4 k5 k6) ∧ ∃ (R7 : List Own), ∃ (Φ8 : PW), Stable Φ8 ∧ Ctx W w3 (R7 ++ R1) Φ8 ∧ ∀ (w9 : World) (R10 : List Own), Ctx W w9 (R7 ++ R10)
  Φ8 → Calls Tryd.prog F.errataref28_Consolidate #[Value.slice bP bN bC] w9 fun (e11 : Ending) (w12 : World) => ∃ (p13 : Option Addr), ∃ (k14 : Nat), ∃ (k15 : Nat), e11 = Ending.returned
  (Value.slice p13 k14 k15) ∧ ∃ (R16 : List Own), ∃ (Φ17 : PW), Stable Φ17 ∧ Ctx W w12 (R16 ++ R10) Φ17 ∧ ∀ (w18 : World) (R19 : List Own), Ctx W w18 (R16 ++ R19) Φ17 → Calls Tryd.prog
  F.errataref28_Equal #[Value.slice p4 k5 k6, Value.slice p13 k14 k15] w18 fun (e20 : Ending) (w21 : World) => ∃ (c22 : Bool), e20 = Ending.returned (Value.bool c22) ∧ ∃ (R23 : List Own), ∃
  (Φ24 : PW), Stable Φ24 ∧ Ctx W w21 (R23 ++ R19) Φ24 ∧ ∀ (w25 : World) (R26 : List Own), Ctx W w25 (R23 ++ R26) Φ24 → J (Value.bool c22) w25

/-- errataref28.clone -/
-- known blocks: 2 d, 4 
def Berrataref28_clone (d0 : Int) (d1P : Option Addr) (d1N d1C : Nat) (d2 : Int) (n : Int) (W : World) (R : List Own) (Φ : PW) (J : Value → World → Prop) : Prop :=
  ∀ (b b : Nat), ∃ (R0 : List Own), ∃ (Φ1 : PW), Stable Φ1 ∧ (∀ (w2 : World) (R3 : List Own), Ctx W w2 (R ++ R3) Φ → Ctx W w2 (R0 ++ R3) Φ1) ∧ ∀ (k4 : Nat), (∀ (w5 : World) (R6 : List Own),
  Ctx W w5 (Own.blk k4 [] 65 :: R ++ R6) Φ → Ctx W w5 (R0 ++ R6) Φ1) ∧ ∀ (w7 : World) (R8 : List Own), Ctx W w7 (Own.blk k4 [] 65 :: R ++ R8) Φ → ∃ (p9 : Option Addr), ∃ (k10 : Nat), ∃ (k11 :
  Nat), ∃ (w12 : World), Sem.run Tryd.prog (builtin Builtin.append #[37, 37] 37 #[false, false] #[Value.slice (some (Addr.mk k4 0 none)) 0 0, Value.slice d1P d1N d1C]) w7 = Result.ok
  (Next.value (Value.slice p9 k10 k11)) w12 ∧ ∃ (R13 : List Own), ∃ (Φ14 : PW), Stable Φ14 ∧ Ctx W w12 (R13 ++ R8) Φ14 ∧ (∀ (w15 : World) (R16 : List Own), Ctx W w15 (R13 ++ R16) Φ14 → Ctx W
  w15 (R0 ++ R16) Φ1) ∧ ∀ (w17 : World) (R18 : List Own), Ctx W w17 (R13 ++ R18) Φ14 → J (Value.agg #[Value.int IntKind.i64 d0, Value.slice p9 k10 k11, Value.int IntKind.i64 n]) w17

theorem Berrataref28_clone_run (d0 : Int) (d1P : Option Addr) (d1N d1C : Nat) (d2 : Int) (n : Int) {W w : World} {R : List Own} {Φ : PW} [Stable Φ] {J : Value → World → Prop} (c : Ctx W w R Φ) (h : Berrataref28_clone d0 d1P d1N d1C d2 n W R Φ J) : Calls Tryd.prog F.errataref28_clone #[.agg #[.int .i64 d0, .slice d1P d1N d1C, .int .i64 d2], .int .i64 n] w fun e w' => ∃ v, e = .returned v ∧ J v w' :=
  vcFS_sound (H := { keep := some [1, 2, 4], track := [2, 4], stages := [(1, [.held [(0, true), (3, true), (6, true), (1, true), (4, true), (2, false), (5, false)], .stage [7] (some 8)])] }) (by rw [show vcFS Tryd.prog W { keep := some [1, 2, 4], track := [2, 4], stages := [(1, [.held [(0, true), (3, true), (6, true), (1, true), (4, true), (2, false), (5, false)], .stage [7] (some 8)])] } F.errataref28_clone #[.agg #[.int .i64 d0, .slice d1P d1N d1C, .int .i64 d2], .int .i64 n] R Φ J = Berrataref28_clone d0 d1P d1N d1C d2 n W R Φ J by kernel_rfl]; exact h) c

/-- errataref03.Same -/
def Berrataref03_Same (aP : Option Addr) (aN aC : Nat) (bP : Option Addr) (bN bC : Nat) (W : World) (R : List Own) (Φ : PW) (J : Value → World → Prop) : Prop :=
  ∀ (w0 : World) (R1 : List Own), Ctx W w0 (R ++ R1) Φ → Calls Tryd.prog F.errataref03_CompareRows #[Value.slice aP aN aC, Value.slice bP bN bC] w0 fun (e2 : Ending) (w3 : World) => ∃ (n4 :
  Int), e2 = Ending.returned (Value.int IntKind.i64 n4) ∧ ∃ (R5 : List Own), ∃ (Φ6 : PW), Stable Φ6 ∧ Ctx W w3 (R5 ++ R1) Φ6 ∧ ∀ (w7 : World) (R8 : List Own), Ctx W w7 (R5 ++ R8) Φ6 → J
  (Value.bool (decide (n4 = 0))) w7

theorem Berrataref03_Same_run (aP : Option Addr) (aN aC : Nat) (bP : Option Addr) (bN bC : Nat) {W w : World} {R : List Own} {Φ : PW} [Stable Φ] {J : Value → World → Prop} (c : Ctx W w R Φ) (h : Berrataref03_Same aP aN aC bP bN bC W R Φ J) : Calls Tryd.prog F.errataref03_Same #[.slice aP aN aC, .slice bP bN bC] w fun e w' => ∃ v, e = .returned v ∧ J v w' :=
  vcFS_sound (H := { keep := some [0, 1, 4] }) (by rw [show vcFS Tryd.prog W { keep := some [0, 1, 4] } F.errataref03_Same #[.slice aP aN aC, .slice bP bN bC] R Φ J = Berrataref03_Same aP aN aC bP bN bC W R Φ J by kernel_rfl]; exact h) c

/-- errataref37.Bucket -/
-- loop at region 4: 4 n, 5 i; blocks 
def Berrataref37_Bucket (valuesP : Option Addr) (valuesN valuesC : Nat) (W : World) (R : List Own) (Φ : PW) (J : Value → World → Prop) : Prop :=
  ∀ (w0 : World) (R1 : List Own), Ctx W w0 (R ++ R1) Φ → Calls Tryd.prog F.errataref03_RowBytes #[Value.slice valuesP valuesN valuesC] w0 fun (e2 : Ending) (w3 : World) => ∃ (s4 : ByteArray),
  e2 = Ending.returned (Value.string s4) ∧ ∃ (R5 : List Own), ∃ (Φ6 : PW), Stable Φ6 ∧ Ctx W w3 (R5 ++ R1) Φ6 ∧ exI fun (I7 : Int → Int → List Own → PW → Nat → Prop) => (∃ (R8 : List Own), ∃
  (Φ9 : PW), ∃ (k10 : Nat), Stable Φ9 ∧ (∀ (w11 : World) (R12 : List Own), Ctx W w11 (R5 ++ R12) Φ6 → Ctx W w11 (R8 ++ R12) Φ9) ∧ I7 0 0 R8 Φ9 k10) ∧ ∀ (n13 n14 : Int) (R15 : List Own) (I16 :
  List Nat → World → Prop) (k17 : Nat), Stable I16 → I7 n13 n14 R15 I16 k17 → Br (decide (n14 < (↑s4.size : Int))) (∃ (u18 : UInt8), (0 ≤ n14 ∧ s4.data.toList.get?Internal n14.toNat = some
  u18) ∧ I64 (n13 + IntKind.i64.wrap (↑u18.toNat : Int)) ∧ ((16 : Int) = 0 → False) ∧ I64 (n14 + 1) ∧ ∃ (R19 : List Own), ∃ (Φ20 : PW), ∃ (k21 : Nat), Stable Φ20 ∧ (∀ (w22 : World) (R23 :
  List Own), Ctx W w22 (R15 ++ R23) I16 → Ctx W w22 (R19 ++ R23) Φ20) ∧ I7 ((n13 + IntKind.i64.wrap (↑u18.toNat : Int)).tmod 16) (n14 + 1) R19 Φ20 k21 ∧ k21 < k17) (∀ (w24 : World) (R25 :
  List Own), Ctx W w24 (R15 ++ R25) I16 → J (Value.int IntKind.i64 n13) w24)

theorem Berrataref37_Bucket_run (valuesP : Option Addr) (valuesN valuesC : Nat) {W w : World} {R : List Own} {Φ : PW} [Stable Φ] {J : Value → World → Prop} (c : Ctx W w R Φ) (h : Berrataref37_Bucket valuesP valuesN valuesC W R Φ J) : Calls Tryd.prog F.errataref37_Bucket #[.slice valuesP valuesN valuesC] w fun e w' => ∃ v, e = .returned v ∧ J v w' :=
  vcFS_sound (H := { keep := some [0, 2, 3, 4, 5, 11], loops := [(4, [(4, .one (.int .i64)), (5, .one (.int .i64))], [])] }) (by rw [show vcFS Tryd.prog W { keep := some [0, 2, 3, 4, 5, 11], loops := [(4, [(4, .one (.int .i64)), (5, .one (.int .i64))], [])] } F.errataref37_Bucket #[.slice valuesP valuesN valuesC] R Φ J = Berrataref37_Bucket valuesP valuesN valuesC W R Φ J by kernel_rfl]; exact h) c

/-- errataref28.sorted -/
-- loop at region 8: 5 out, 6 i, 7 k; blocks 
def Berrataref28_sorted (lP : Option Addr) (lN lC : Nat) (W : World) (R : List Own) (Φ : PW) (J : Value → World → Prop) : Prop :=
  Br (decide ((↑lN : Int) < 2)) (∀ (w0 : World) (R1 : List Own), Ctx W w0 (R ++ R1) Φ → J (Value.slice lP lN lC) w0) (((2 : Int) = 0 → False) ∧ I64 ((↑lN : Int).tdiv 2) ∧ (0 ≤ (↑lN :
  Int).tdiv 2 ∧ (↑lN : Int).tdiv 2 ≤ (↑lC : Int)) ∧ ∀ (w2 : World) (R3 : List Own), Ctx W w2 (R ++ R3) Φ → Calls Tryd.prog F.errataref28_sorted #[Value.slice (subPtr lP 3 0 lC) ((↑lN :
  Int).tdiv 2).toNat lC] w2 fun (e4 : Ending) (w5 : World) => ∃ (p6 : Option Addr), ∃ (k7 : Nat), ∃ (k8 : Nat), e4 = Ending.returned (Value.slice p6 k7 k8) ∧ ∃ (R9 : List Own), ∃ (Φ10 : PW),
  Stable Φ10 ∧ Ctx W w5 (R9 ++ R3) Φ10 ∧ ((2 : Int) = 0 → False) ∧ I64 ((↑lN : Int).tdiv 2) ∧ (0 ≤ (↑lN : Int).tdiv 2 ∧ (↑lN : Int).tdiv 2 ≤ (↑lN : Int) ∧ lN ≤ lC) ∧ ∀ (w11 : World) (R12 :
  List Own), Ctx W w11 (R9 ++ R12) Φ10 → Calls Tryd.prog F.errataref28_sorted #[Value.slice (subPtr lP 3 ((↑lN : Int).tdiv 2).toNat lC) (lN - ((↑lN : Int).tdiv 2).toNat) (lC - ((↑lN :
  Int).tdiv 2).toNat)] w11 fun (e13 : Ending) (w14 : World) => ∃ (p15 : Option Addr), ∃ (k16 : Nat), ∃ (k17 : Nat), e13 = Ending.returned (Value.slice p15 k16 k17) ∧ ∃ (R18 : List Own), ∃
  (Φ19 : PW), Stable Φ19 ∧ Ctx W w14 (R18 ++ R12) Φ19 ∧ exI fun (I20 : Option Addr → Nat → Nat → Int → Int → List Own → PW → Nat → Prop) => (∃ (R21 : List Own), ∃ (Φ22 : PW), ∃ (k23 : Nat),
  Stable Φ22 ∧ (∀ (w24 : World) (R25 : List Own), Ctx W w24 (R18 ++ R25) Φ19 → Ctx W w24 (R21 ++ R25) Φ22) ∧ I20 none 0 0 0 0 R21 Φ22 k23) ∧ ∀ (p26 : Option Addr) (k27 k28 : Nat) (n29 n30 :
  Int) (R31 : List Own) (I32 : List Nat → World → Prop) (k33 : Nat), Stable I32 → I20 p26 k27 k28 n29 n30 R31 I32 k33 → ∀ (w34 : World) (R35 : List Own), Ctx W w34 (R31 ++ R35) I32 → Br
  (decide (n29 < (↑k7 : Int)) || decide (n30 < (↑k16 : Int))) (∀ (w36 : World) (R37 : List Own), Ctx W w36 (R31 ++ R37) I32 → Br (decide (n29 < (↑k7 : Int)) && decide (n30 < (↑k16 : Int))) (∃
  (R38 : List Own), ∃ (Φ39 : PW), Stable Φ39 ∧ (∀ (w40 : World) (R41 : List Own), Ctx W w40 (R31 ++ R41) I32 → Ctx W w40 (R38 ++ R41) Φ39) ∧ (0 ≤ n29 ∧ n29 < (↑k7 : Int)) ∧ ptrK none p6 fun
  (k42 k43 : Nat) => (0 ≤ n30 ∧ n30 < (↑k16 : Int)) ∧ ptrK none p15 fun (k44 k45 : Nat) => ∃ (n46 : Int), ∃ (p47 : Option Addr), ∃ (k48 : Nat), ∃ (k49 : Nat), ∃ (n50 : Int), (∀ (w51 : World)
  (R52 : List Own), Ctx W w51 (R38 ++ R52) Φ39 → ∃ (n53 : Int), ∃ (p54 : Option Addr), ∃ (k55 : Nat), ∃ (k56 : Nat), ∃ (n57 : Int), RowAt w51 k42 (k43 + n29.toNat * 3) [Value.int IntKind.i64
  n53, Value.slice p54 k55 k56, Value.int IntKind.i64 n57] ∧ Value.agg #[Value.int IntKind.i64 n53, Value.slice p54 k55 k56, Value.int IntKind.i64 n57] = Value.agg #[Value.int IntKind.i64
  n46, Value.slice p47 k48 k49, Value.int IntKind.i64 n50]) ∧ ∃ (n58 : Int), ∃ (p59 : Option Addr), ∃ (k60 : Nat), ∃ (k61 : Nat), ∃ (n62 : Int), (∀ (w63 : World) (R64 : List Own), Ctx W w63
  (R38 ++ R64) Φ39 → ∃ (n65 : Int), ∃ (p66 : Option Addr), ∃ (k67 : Nat), ∃ (k68 : Nat), ∃ (n69 : Int), RowAt w63 k44 (k45 + n30.toNat * 3) [Value.int IntKind.i64 n65, Value.slice p66 k67
  k68, Value.int IntKind.i64 n69] ∧ Value.agg #[Value.int IntKind.i64 n65, Value.slice p66 k67 k68, Value.int IntKind.i64 n69] = Value.agg #[Value.int IntKind.i64 n58, Value.slice p59 k60
  k61, Value.int IntKind.i64 n62]) ∧ ∀ (w70 : World) (R71 : List Own), Ctx W w70 (R31 ++ R71) I32 → Calls Tryd.prog F.errataref28_Compare #[Value.agg #[Value.int IntKind.i64 n46, Value.slice
  p47 k48 k49, Value.int IntKind.i64 n50], Value.agg #[Value.int IntKind.i64 n58, Value.slice p59 k60 k61, Value.int IntKind.i64 n62]] w70 fun (e72 : Ending) (w73 : World) => ∃ (n74 : Int),
  e72 = Ending.returned (Value.int IntKind.i64 n74) ∧ ∃ (R75 : List Own), ∃ (Φ76 : PW), Stable Φ76 ∧ Ctx W w73 (R75 ++ R71) Φ76 ∧ Br (decide (n74 ≤ 0)) ((0 ≤ n29 ∧ n29 < (↑k7 : Int)) ∧ ptrK
  none p6 fun (k77 k78 : Nat) => ∀ (w79 : World) (R80 : List Own), Ctx W w79 (R75 ++ R80) Φ76 → ∃ (n81 : Int), ∃ (p82 : Option Addr), ∃ (k83 : Nat), ∃ (k84 : Nat), ∃ (n85 : Int), RowAt w79
  k77 (k78 + n29.toNat * 3) [Value.int IntKind.i64 n81, Value.slice p82 k83 k84, Value.int IntKind.i64 n85] ∧ ∀ (k86 : Nat) (w87 : World) (R88 : List Own), Ctx W w87 (Own.blk k86 [Value.int
  IntKind.i64 n81, Value.slice p82 k83 k84, Value.int IntKind.i64 n85] 39 :: R75 ++ R88) Φ76 → ∃ (p89 : Option Addr), ∃ (k90 : Nat), ∃ (k91 : Nat), ∃ (w92 : World), Sem.run Tryd.prog (builtin
  Builtin.append #[22, 22] 22 #[false, false] #[Value.slice p26 k27 k28, Value.slice (some (Addr.mk k86 0 none)) 1 1]) w87 = Result.ok (Next.value (Value.slice p89 k90 k91)) w92 ∧ ∃ (R93 :
  List Own), ∃ (Φ94 : PW), Stable Φ94 ∧ Ctx W w92 (R93 ++ R88) Φ94 ∧ I64 (n29 + 1) ∧ ∃ (R95 : List Own), ∃ (Φ96 : PW), ∃ (k97 : Nat), Stable Φ96 ∧ (∀ (w98 : World) (R99 : List Own), Ctx W w98
  (R93 ++ R99) Φ94 → Ctx W w98 (R95 ++ R99) Φ96) ∧ I20 p89 k90 k91 (n29 + 1) n30 R95 Φ96 k97 ∧ k97 < k33) ((0 ≤ n30 ∧ n30 < (↑k16 : Int)) ∧ ptrK none p15 fun (k100 k101 : Nat) => ∀ (w102 :
  World) (R103 : List Own), Ctx W w102 (R75 ++ R103) Φ76 → ∃ (n104 : Int), ∃ (p105 : Option Addr), ∃ (k106 : Nat), ∃ (k107 : Nat), ∃ (n108 : Int), RowAt w102 k100 (k101 + n30.toNat * 3)
  [Value.int IntKind.i64 n104, Value.slice p105 k106 k107, Value.int IntKind.i64 n108] ∧ ∀ (k109 : Nat) (w110 : World) (R111 : List Own), Ctx W w110 (Own.blk k109 [Value.int IntKind.i64 n104,
  Value.slice p105 k106 k107, Value.int IntKind.i64 n108] 39 :: R75 ++ R111) Φ76 → ∃ (p112 : Option Addr), ∃ (k113 : Nat), ∃ (k114 : Nat), ∃ (w115 : World), Sem.run Tryd.prog (builtin
  Builtin.append #[22, 22] 22 #[false, false] #[Value.slice p26 k27 k28, Value.slice (some (Addr.mk k109 0 none)) 1 1]) w110 = Result.ok (Next.value (Value.slice p112 k113 k114)) w115 ∧ ∃
  (R116 : List Own), ∃ (Φ117 : PW), Stable Φ117 ∧ Ctx W w115 (R116 ++ R111) Φ117 ∧ I64 (n30 + 1) ∧ ∃ (R118 : List Own), ∃ (Φ119 : PW), ∃ (k120 : Nat), Stable Φ119 ∧ (∀ (w121 : World) (R122 :
  List Own), Ctx W w121 (R116 ++ R122) Φ117 → Ctx W w121 (R118 ++ R122) Φ119) ∧ I20 p112 k113 k114 n29 (n30 + 1) R118 Φ119 k120 ∧ k120 < k33)) (Br (decide ((↑k16 : Int) ≤ n30)) ((0 ≤ n29 ∧
  n29 < (↑k7 : Int)) ∧ ptrK none p6 fun (k123 k124 : Nat) => ∀ (w125 : World) (R126 : List Own), Ctx W w125 (R31 ++ R126) I32 → ∃ (n127 : Int), ∃ (p128 : Option Addr), ∃ (k129 : Nat), ∃ (k130
  : Nat), ∃ (n131 : Int), RowAt w125 k123 (k124 + n29.toNat * 3) [Value.int IntKind.i64 n127, Value.slice p128 k129 k130, Value.int IntKind.i64 n131] ∧ ∀ (k132 : Nat) (w133 : World) (R134 :
  List Own), Ctx W w133 (Own.blk k132 [Value.int IntKind.i64 n127, Value.slice p128 k129 k130, Value.int IntKind.i64 n131] 39 :: R31 ++ R134) I32 → ∃ (p135 : Option Addr), ∃ (k136 : Nat), ∃
  (k137 : Nat), ∃ (w138 : World), Sem.run Tryd.prog (builtin Builtin.append #[22, 22] 22 #[false, false] #[Value.slice p26 k27 k28, Value.slice (some (Addr.mk k132 0 none)) 1 1]) w133 =
  Result.ok (Next.value (Value.slice p135 k136 k137)) w138 ∧ ∃ (R139 : List Own), ∃ (Φ140 : PW), Stable Φ140 ∧ Ctx W w138 (R139 ++ R134) Φ140 ∧ I64 (n29 + 1) ∧ ∃ (R141 : List Own), ∃ (Φ142 :
  PW), ∃ (k143 : Nat), Stable Φ142 ∧ (∀ (w144 : World) (R145 : List Own), Ctx W w144 (R139 ++ R145) Φ140 → Ctx W w144 (R141 ++ R145) Φ142) ∧ I20 p135 k136 k137 (n29 + 1) n30 R141 Φ142 k143 ∧
  k143 < k33) ((0 ≤ n30 ∧ n30 < (↑k16 : Int)) ∧ ptrK none p15 fun (k146 k147 : Nat) => ∀ (w148 : World) (R149 : List Own), Ctx W w148 (R31 ++ R149) I32 → ∃ (n150 : Int), ∃ (p151 : Option
  Addr), ∃ (k152 : Nat), ∃ (k153 : Nat), ∃ (n154 : Int), RowAt w148 k146 (k147 + n30.toNat * 3) [Value.int IntKind.i64 n150, Value.slice p151 k152 k153, Value.int IntKind.i64 n154] ∧ ∀ (k155
  : Nat) (w156 : World) (R157 : List Own), Ctx W w156 (Own.blk k155 [Value.int IntKind.i64 n150, Value.slice p151 k152 k153, Value.int IntKind.i64 n154] 39 :: R31 ++ R157) I32 → ∃ (p158 :
  Option Addr), ∃ (k159 : Nat), ∃ (k160 : Nat), ∃ (w161 : World), Sem.run Tryd.prog (builtin Builtin.append #[22, 22] 22 #[false, false] #[Value.slice p26 k27 k28, Value.slice (some (Addr.mk
  k155 0 none)) 1 1]) w156 = Result.ok (Next.value (Value.slice p158 k159 k160)) w161 ∧ ∃ (R162 : List Own), ∃ (Φ163 : PW), Stable Φ163 ∧ Ctx W w161 (R162 ++ R157) Φ163 ∧ I64 (n30 + 1) ∧ ∃
  (R164 : List Own), ∃ (Φ165 : PW), ∃ (k166 : Nat), Stable Φ165 ∧ (∀ (w167 : World) (R168 : List Own), Ctx W w167 (R162 ++ R168) Φ163 → Ctx W w167 (R164 ++ R168) Φ165) ∧ I20 p158 k159 k160
  n29 (n30 + 1) R164 Φ165 k166 ∧ k166 < k33))) (∀ (w169 : World) (R170 : List Own), Ctx W w169 (R31 ++ R170) I32 → J (Value.slice p26 k27 k28) w169))

theorem Berrataref28_sorted_run (lP : Option Addr) (lN lC : Nat) {W w : World} {R : List Own} {Φ : PW} [Stable Φ] {J : Value → World → Prop} (c : Ctx W w R Φ) (h : Berrataref28_sorted lP lN lC W R Φ J) : Calls Tryd.prog F.errataref28_sorted #[.slice lP lN lC] w fun e w' => ∃ v, e = .returned v ∧ J v w' :=
  vcFS_sound (H := { keep := some [0, 2, 3, 4, 5, 6, 7, 8, 11, 34, 48, 59], stages := [(11, [.held [(0, true), (1, true), (4, true), (5, true), (2, true), (6, true), (3, true), (7, true)], .stage [] (some 8), .stage [9, 10] none])], loops := [(8, [(5, .one (.slice)), (6, .one (.int .i64)), (7, .one (.int .i64))], [])] }) (by rw [show vcFS Tryd.prog W { keep := some [0, 2, 3, 4, 5, 6, 7, 8, 11, 34, 48, 59], stages := [(11, [.held [(0, true), (1, true), (4, true), (5, true), (2, true), (6, true), (3, true), (7, true)], .stage [] (some 8), .stage [9, 10] none])], loops := [(8, [(5, .one (.slice)), (6, .one (.int .i64)), (7, .one (.int .i64))], [])] } F.errataref28_sorted #[.slice lP lN lC] R Φ J = Berrataref28_sorted lP lN lC W R Φ J by kernel_rfl]; exact h) c

/-- errataref01.Num -/
def Berrataref01_Num (n : Int) (W : World) (R : List Own) (Φ : PW) (J : Value → World → Prop) : Prop :=
  Br (decide (n < 0)) (∀ (w0 : World) (R1 : List Own), Ctx W w0 (R ++ R1) Φ → J (Value.string (ByteArray.mk #[])) w0) (∀ (w2 : World) (R3 : List Own), Ctx W w2 (R ++ R3) Φ → Calls Tryd.prog
  F.errataref01_Int #[Value.int IntKind.i64 n] w2 fun (e4 : Ending) (w5 : World) => ∃ (s6 : ByteArray), e4 = Ending.returned (Value.string s6) ∧ ∃ (R7 : List Own), ∃ (Φ8 : PW), Stable Φ8 ∧
  Ctx W w5 (R7 ++ R3) Φ8 ∧ ∀ (w9 : World) (R10 : List Own), Ctx W w9 (R7 ++ R10) Φ8 → J (Value.string s6) w9)

theorem Berrataref01_Num_run (n : Int) {W w : World} {R : List Own} {Φ : PW} [Stable Φ] {J : Value → World → Prop} (c : Ctx W w R Φ) (h : Berrataref01_Num n W R Φ J) : Calls Tryd.prog F.errataref01_Num #[.int .i64 n] w fun e w' => ∃ v, e = .returned v ∧ J v w' :=
  vcFS_sound (H := { keep := some [0, 2, 4] }) (by rw [show vcFS Tryd.prog W { keep := some [0, 2, 4] } F.errataref01_Num #[.int .i64 n] R Φ J = Berrataref01_Num n W R Φ J by kernel_rfl]; exact h) c

/-- errataref01.Int -/
def Berrataref01_Int (n : Int) (W : World) (R : List Own) (Φ : PW) (J : Value → World → Prop) : Prop :=
  Br (decide (n < 0)) (∀ (w0 : World) (R1 : List Own), Ctx W w0 (R ++ R1) Φ → Calls Tryd.prog F.errataref01_digits #[Value.int IntKind.i64 n] w0 fun (e2 : Ending) (w3 : World) => ∃ (s4 :
  ByteArray), e2 = Ending.returned (Value.string s4) ∧ ∃ (R5 : List Own), ∃ (Φ6 : PW), Stable Φ6 ∧ Ctx W w3 (R5 ++ R1) Φ6 ∧ ((ByteArray.mk #[OfNat.ofNat 45]).size + s4.size).le
  9223372036854775807 ∧ ((ByteArray.mk #[OfNat.ofNat 45] ++ s4).size + (ByteArray.mk #[OfNat.ofNat 59]).size).le 9223372036854775807 ∧ ∀ (w7 : World) (R8 : List Own), Ctx W w7 (R5 ++ R8) Φ6 →
  J (Value.string (ByteArray.mk #[OfNat.ofNat 45] ++ s4 ++ ByteArray.mk #[OfNat.ofNat 59])) w7) (I64 (0 - n) ∧ ∀ (w9 : World) (R10 : List Own), Ctx W w9 (R ++ R10) Φ → Calls Tryd.prog
  F.errataref01_digits #[Value.int IntKind.i64 (0 - n)] w9 fun (e11 : Ending) (w12 : World) => ∃ (s13 : ByteArray), e11 = Ending.returned (Value.string s13) ∧ ∃ (R14 : List Own), ∃ (Φ15 :
  PW), Stable Φ15 ∧ Ctx W w12 (R14 ++ R10) Φ15 ∧ (s13.size + (ByteArray.mk #[OfNat.ofNat 59]).size).le 9223372036854775807 ∧ ∀ (w16 : World) (R17 : List Own), Ctx W w16 (R14 ++ R17) Φ15 → J
  (Value.string (s13 ++ ByteArray.mk #[OfNat.ofNat 59])) w16)

theorem Berrataref01_Int_run (n : Int) {W w : World} {R : List Own} {Φ : PW} [Stable Φ] {J : Value → World → Prop} (c : Ctx W w R Φ) (h : Berrataref01_Int n W R Φ J) : Calls Tryd.prog F.errataref01_Int #[.int .i64 n] w fun e w' => ∃ v, e = .returned v ∧ J v w' :=
  vcFS_sound (H := { keep := some [0, 2, 4] }) (by rw [show vcFS Tryd.prog W { keep := some [0, 2, 4] } F.errataref01_Int #[.int .i64 n] R Φ J = Berrataref01_Int n W R Φ J by kernel_rfl]; exact h) c

/-- errataref01.Text -/
def Berrataref01_Text (s : ByteArray) (W : World) (R : List Own) (Φ : PW) (J : Value → World → Prop) : Prop :=
  I64 (0 - (↑s.size : Int)) ∧ ∀ (w0 : World) (R1 : List Own), Ctx W w0 (R ++ R1) Φ → Calls Tryd.prog F.errataref01_digits #[Value.int IntKind.i64 (0 - (↑s.size : Int))] w0 fun (e2 : Ending)
  (w3 : World) => ∃ (s4 : ByteArray), e2 = Ending.returned (Value.string s4) ∧ ∃ (R5 : List Own), ∃ (Φ6 : PW), Stable Φ6 ∧ Ctx W w3 (R5 ++ R1) Φ6 ∧ (s4.size + (ByteArray.mk #[OfNat.ofNat
  58]).size).le 9223372036854775807 ∧ ((s4 ++ ByteArray.mk #[OfNat.ofNat 58]).size + s.size).le 9223372036854775807 ∧ ((s4 ++ ByteArray.mk #[OfNat.ofNat 58] ++ s).size + (ByteArray.mk
  #[OfNat.ofNat 44]).size).le 9223372036854775807 ∧ ∀ (w7 : World) (R8 : List Own), Ctx W w7 (R5 ++ R8) Φ6 → J (Value.string (s4 ++ ByteArray.mk #[OfNat.ofNat 58] ++ s ++ ByteArray.mk
  #[OfNat.ofNat 44])) w7

theorem Berrataref01_Text_run (s : ByteArray) {W w : World} {R : List Own} {Φ : PW} [Stable Φ] {J : Value → World → Prop} (c : Ctx W w R Φ) (h : Berrataref01_Text s W R Φ J) : Calls Tryd.prog F.errataref01_Text #[.string s] w fun e w' => ∃ v, e = .returned v ∧ J v w' :=
  vcFS_sound (H := { keep := some [0, 2] }) (by rw [show vcFS Tryd.prog W { keep := some [0, 2] } F.errataref01_Text #[.string s] R Φ J = Berrataref01_Text s W R Φ J by kernel_rfl]; exact h) c

/-- errataref03.RowBytes -/
-- loop at region 3: 3 s, 4 i; blocks 
def Berrataref03_RowBytes (rP : Option Addr) (rN rC : Nat) (W : World) (R : List Own) (Φ : PW) (J : Value → World → Prop) : Prop :=
  ∀ (w0 : World) (R1 : List Own), Ctx W w0 (R ++ R1) Φ → Calls Tryd.prog F.errataref01_Num #[Value.int IntKind.i64 (↑rN : Int)] w0 fun (e2 : Ending) (w3 : World) => ∃ (s4 : ByteArray), e2 =
  Ending.returned (Value.string s4) ∧ ∃ (R5 : List Own), ∃ (Φ6 : PW), Stable Φ6 ∧ Ctx W w3 (R5 ++ R1) Φ6 ∧ exI fun (I7 : ByteArray → Int → List Own → PW → Nat → Prop) => (∃ (R8 : List Own), ∃
  (Φ9 : PW), ∃ (k10 : Nat), Stable Φ9 ∧ (∀ (w11 : World) (R12 : List Own), Ctx W w11 (R5 ++ R12) Φ6 → Ctx W w11 (R8 ++ R12) Φ9) ∧ I7 s4 0 R8 Φ9 k10) ∧ ∀ (s13 : ByteArray) (n14 : Int) (R15 :
  List Own) (I16 : List Nat → World → Prop) (k17 : Nat), Stable I16 → I7 s13 n14 R15 I16 k17 → Br (decide (n14 < (↑rN : Int))) ((0 ≤ n14 ∧ n14 < (↑rN : Int)) ∧ ptrK none rP fun (k18 k19 :
  Nat) => ∀ (w20 : World) (R21 : List Own), Ctx W w20 (R15 ++ R21) I16 → ∃ (n22 : Int), ∃ (n23 : Int), ∃ (s24 : ByteArray), RowAt w20 k18 (k19 + n14.toNat * 3) [Value.int IntKind.i64 n22,
  Value.int IntKind.i64 n23, Value.string s24] ∧ ∀ (w25 : World) (R26 : List Own), Ctx W w25 (R15 ++ R26) I16 → Calls Tryd.prog F.errataref03_Bytes #[Value.agg #[Value.int IntKind.i64 n22,
  Value.int IntKind.i64 n23, Value.string s24]] w25 fun (e27 : Ending) (w28 : World) => ∃ (s29 : ByteArray), e27 = Ending.returned (Value.string s29) ∧ ∃ (R30 : List Own), ∃ (Φ31 : PW),
  Stable Φ31 ∧ Ctx W w28 (R30 ++ R26) Φ31 ∧ (s13.size + s29.size).le 9223372036854775807 ∧ I64 (n14 + 1) ∧ ∃ (R32 : List Own), ∃ (Φ33 : PW), ∃ (k34 : Nat), Stable Φ33 ∧ (∀ (w35 : World) (R36
  : List Own), Ctx W w35 (R30 ++ R36) Φ31 → Ctx W w35 (R32 ++ R36) Φ33) ∧ I7 (s13 ++ s29) (n14 + 1) R32 Φ33 k34 ∧ k34 < k17) (∀ (w37 : World) (R38 : List Own), Ctx W w37 (R15 ++ R38) I16 → J
  (Value.string s13) w37)

theorem Berrataref03_RowBytes_run (rP : Option Addr) (rN rC : Nat) {W w : World} {R : List Own} {Φ : PW} [Stable Φ] {J : Value → World → Prop} (c : Ctx W w R Φ) (h : Berrataref03_RowBytes rP rN rC W R Φ J) : Calls Tryd.prog F.errataref03_RowBytes #[.slice rP rN rC] w fun e w' => ∃ v, e = .returned v ∧ J v w' :=
  vcFS_sound (H := { keep := some [0, 2, 3, 4, 11], loops := [(3, [(3, .one (.str)), (4, .one (.int .i64))], [])] }) (by rw [show vcFS Tryd.prog W { keep := some [0, 2, 3, 4, 11], loops := [(3, [(3, .one (.str)), (4, .one (.int .i64))], [])] } F.errataref03_RowBytes #[.slice rP rN rC] R Φ J = Berrataref03_RowBytes rP rN rC W R Φ J by kernel_rfl]; exact h) c

/-- errataref01.digits -/
def Berrataref01_digits (n : Int) (W : World) (R : List Own) (Φ : PW) (J : Value → World → Prop) : Prop :=
  ((10 : Int) = 0 → False) ∧ I64 (48 - n.tmod 10) ∧ ∀ (k0 : Nat) (w1 : World) (R2 : List Own), Ctx W w1 (Own.blk k0 [Value.int IntKind.u8 (IntKind.u8.wrap (48 - n.tmod 10))] 5 :: R ++ R2) Φ →
  ∃ (s3 : ByteArray), ∃ (w4 : World), Sem.run Tryd.prog (convert 71 9 (Value.slice (some (Addr.mk k0 0 none)) 1 1)) w1 = Result.ok (Value.string s3) w4 ∧ ∃ (R5 : List Own), ∃ (Φ6 : PW),
  Stable Φ6 ∧ Ctx W w4 (R5 ++ R2) Φ6 ∧ Br (decide (-10 < n)) (∀ (w7 : World) (R8 : List Own), Ctx W w7 (R5 ++ R8) Φ6 → J (Value.string s3) w7) (((10 : Int) = 0 → False) ∧ I64 (n.tdiv 10) ∧ ∀
  (w9 : World) (R10 : List Own), Ctx W w9 (R5 ++ R10) Φ6 → Calls Tryd.prog F.errataref01_digits #[Value.int IntKind.i64 (n.tdiv 10)] w9 fun (e11 : Ending) (w12 : World) => ∃ (s13 :
  ByteArray), e11 = Ending.returned (Value.string s13) ∧ ∃ (R14 : List Own), ∃ (Φ15 : PW), Stable Φ15 ∧ Ctx W w12 (R14 ++ R10) Φ15 ∧ (s13.size + s3.size).le 9223372036854775807 ∧ ∀ (w16 :
  World) (R17 : List Own), Ctx W w16 (R14 ++ R17) Φ15 → J (Value.string (s13 ++ s3)) w16)

theorem Berrataref01_digits_run (n : Int) {W w : World} {R : List Own} {Φ : PW} [Stable Φ] {J : Value → World → Prop} (c : Ctx W w R Φ) (h : Berrataref01_digits n W R Φ J) : Calls Tryd.prog F.errataref01_digits #[.int .i64 n] w fun e w' => ∃ v, e = .returned v ∧ J v w' :=
  vcFS_sound (H := { keep := some [0, 2, 3, 11] }) (by rw [show vcFS Tryd.prog W { keep := some [0, 2, 3, 11] } F.errataref01_digits #[.int .i64 n] R Φ J = Berrataref01_digits n W R Φ J by kernel_rfl]; exact h) c

/-- errataref03.Bytes -/
-- known blocks: 1 v
def Berrataref03_Bytes (v0 : Int) (v1 : Int) (v2 : ByteArray) (W : World) (R : List Own) (Φ : PW) (J : Value → World → Prop) : Prop :=
  ∀ (b : Nat), ∃ (R0 : List Own), ∃ (Φ1 : PW), Stable Φ1 ∧ (∀ (w2 : World) (R3 : List Own), Ctx W w2 (R ++ R3) Φ → Ctx W w2 (R0 ++ R3) Φ1) ∧ ∀ (w4 : World) (R5 : List Own), Ctx W w4 (R ++ R5)
  Φ → Calls Tryd.prog F.errataref01_Int #[Value.int IntKind.i64 v0] w4 fun (e6 : Ending) (w7 : World) => ∃ (s8 : ByteArray), e6 = Ending.returned (Value.string s8) ∧ ∃ (R9 : List Own), ∃ (Φ10
  : PW), Stable Φ10 ∧ Ctx W w7 (R9 ++ R5) Φ10 ∧ (∀ (w11 : World) (R12 : List Own), Ctx W w11 (R9 ++ R12) Φ10 → Ctx W w11 (R0 ++ R12) Φ1) ∧ ∀ (w13 : World) (R14 : List Own), Ctx W w13 (R9 ++
  R14) Φ10 → Calls Tryd.prog F.errataref01_Int #[Value.int IntKind.i64 v1] w13 fun (e15 : Ending) (w16 : World) => ∃ (s17 : ByteArray), e15 = Ending.returned (Value.string s17) ∧ ∃ (R18 :
  List Own), ∃ (Φ19 : PW), Stable Φ19 ∧ Ctx W w16 (R18 ++ R14) Φ19 ∧ (∀ (w20 : World) (R21 : List Own), Ctx W w20 (R18 ++ R21) Φ19 → Ctx W w20 (R0 ++ R21) Φ1) ∧ (s8.size + s17.size).le
  9223372036854775807 ∧ ∀ (w22 : World) (R23 : List Own), Ctx W w22 (R18 ++ R23) Φ19 → Calls Tryd.prog F.errataref01_Text #[Value.string v2] w22 fun (e24 : Ending) (w25 : World) => ∃ (s26 :
  ByteArray), e24 = Ending.returned (Value.string s26) ∧ ∃ (R27 : List Own), ∃ (Φ28 : PW), Stable Φ28 ∧ Ctx W w25 (R27 ++ R23) Φ28 ∧ (∀ (w29 : World) (R30 : List Own), Ctx W w29 (R27 ++ R30)
  Φ28 → Ctx W w29 (R0 ++ R30) Φ1) ∧ ((s8 ++ s17).size + s26.size).le 9223372036854775807 ∧ ∀ (w31 : World) (R32 : List Own), Ctx W w31 (R27 ++ R32) Φ28 → J (Value.string (s8 ++ s17 ++ s26))
  w31

theorem Berrataref03_Bytes_run (v0 : Int) (v1 : Int) (v2 : ByteArray) {W w : World} {R : List Own} {Φ : PW} [Stable Φ] {J : Value → World → Prop} (c : Ctx W w R Φ) (h : Berrataref03_Bytes v0 v1 v2 W R Φ J) : Calls Tryd.prog F.errataref03_Bytes #[.agg #[.int .i64 v0, .int .i64 v1, .string v2]] w fun e w' => ∃ v, e = .returned v ∧ J v w' :=
  vcFS_sound (H := { keep := some [1, 2], track := [1], stages := [(1, [.held [(0, true), (3, true), (7, true), (1, true), (4, true), (8, true), (2, false), (5, false), (6, true), (9, false)], .stage [10, 11] none])] }) (by rw [show vcFS Tryd.prog W { keep := some [1, 2], track := [1], stages := [(1, [.held [(0, true), (3, true), (7, true), (1, true), (4, true), (8, true), (2, false), (5, false), (6, true), (9, false)], .stage [10, 11] none])] } F.errataref03_Bytes #[.agg #[.int .i64 v0, .int .i64 v1, .string v2]] R Φ J = Berrataref03_Bytes v0 v1 v2 W R Φ J by kernel_rfl]; exact h) c

end Go.Proofs.YtnapfhbibikbiaaDoor
end

/-
  Concat, Add, Consolidated, walked.
-/
section
set_option linter.unusedVariables false
set_option linter.unusedSimpArgs false
namespace Go.Vc
section
variable {W w : World} {S : List Own} {Φ : PW}

end
end Go.Vc

namespace Go.Proofs.YtnapfhbibikbiaaDoor
open Go.Vc


theorem pin_ll {M : List Nat} {w : World} {g o : Nat} {cs : List (List Value)} {ls : List (List DeltaD)} (h : Pin g o cs ls M w) {j : Nat} (hj : j < ls.length) : ∃ p c, cs.getD j [] = [.slice p ls[j].length c] ∧ ls[j].length ≤ c ∧ c ≤ maxLen := by
  obtain ⟨_, h1, h2⟩ := h j hj
  obtain ⟨p, c, e, g1, g2, _⟩ := rep_list.1 h2
  exact ⟨p, c, e, g1, g2⟩
theorem pin_llSl {M : List Nat} {w : World} {g o : Nat} {cs : List (List Value)} {ls : List (List DeltaD)} (h : Pin g o cs ls M w) {j : Nat} (hj : j < ls.length) {p : Option Addr} {c : Nat} (e : cs.getD j [] = [.slice p ls[j].length c]) : Sl M w p ls[j] := by
  obtain ⟨_, h1, h2⟩ := h j hj
  obtain ⟨p', c', e', g1, g2, hs⟩ := rep_list.1 h2
  rw [e] at e'
  simp only [List.cons.injEq, Value.slice.injEq] at e'
  rw [e'.1.1]
  exact hs
theorem pin_llAt {M : List Nat} {w : World} {g o : Nat} {cs : List (List Value)} {ls : List (List DeltaD)} (h : Pin g o cs ls M w) {j : Nat} (hj : j < ls.length) {p : Option Addr} {c : Nat} (e : cs.getD j [] = [.slice p ls[j].length c]) : w.cell? ⟨g, o + j, none⟩ = some (.slice p ls[j].length c) := by
  obtain ⟨_, h1, h2⟩ := h j hj
  rw [e] at h1
  have := h1 0 (by simp)
  rw [show (Gv.ty (List DeltaD)).size = 1 from rfl, Nat.mul_one] at this
  simpa using this

def addP (a b : List DeltaD) : List DeltaD := consP (a ++ b)

end Go.Proofs.YtnapfhbibikbiaaDoor
end

/-
  Consolidated, walked; DifferenceLeast in plain Lean, and walked.
-/
section
set_option linter.unusedVariables false
set_option linter.unusedSimpArgs false
namespace Go.Proofs.YtnapfhbibikbiaaDoor
open Go.Vc


def consAt (l : List DeltaD) (j : Nat) : Bool := match l[j]? with
  | none => false
  | some y => decide (y.n ≠ 0) && match j with
    | 0 => true
    | i + 1 => match l[i]? with
      | none => false
      | some x => decide (cmpD x y < 0)
def consolidated (l : List DeltaD) : Bool := (List.range l.length).all fun j => consAt l j

theorem sumK_neg (k : Key) : ∀ a : List DeltaD, (sumK (a.map negD) k + sumK a k) % 18446744073709551616 = 0
  | [] => rfl
  | x :: a => by
    have ih := sumK_neg k a
    have h := w64_mod (0 - x.n)
    show ((if (negD x).key = k then (negD x).n else 0) + sumK (a.map negD) k + ((if x.key = k then x.n else 0) + sumK a k)) % 18446744073709551616 = 0
    have e1 : (negD x).key = x.key := rfl
    have e2 : (negD x).n = w64 (0 - x.n) := rfl
    rw [e1, e2]
    by_cases hk : x.key = k
    · rw [if_pos hk, if_pos hk]; omega
    · rw [if_neg hk, if_neg hk]; omega

theorem find_neg (a : List DeltaD) (k : Key) : findP (a.map negD) k = w64 (-(findP a k)) := by
  unfold findP
  apply w64_cong
  have := sumK_neg k a
  have := w64_mod (sumK a k)
  omega

theorem find_cons (l : List DeltaD) (k : Key) : findP (consP l) k = findP l k := (consP_norm l).2 k
theorem find_sub (a b : List DeltaD) (k : Key) : findP (subP a b) k = w64 (findP a k - findP b k) := by
  unfold subP
  rw [find_cons, findP_app, find_neg, w64_r, ← Int.sub_eq_add_neg]
theorem find_add (a b : List DeltaD) (k : Key) : findP (addP a b) k = w64 (findP a k + findP b k) := by
  unfold addP
  rw [find_cons, findP_app]
theorem find_w (a : List DeltaD) (k : Key) : w64 (findP a k) = findP a k := by unfold findP; rw [w64_w]

theorem subP_len (a b : List DeltaD) : (subP a b).length ≤ a.length + b.length := by
  have := consP_len (a ++ b.map negD)
  rw [List.length_append, List.length_map] at this
  exact this
theorem addP_len (a b : List DeltaD) : (addP a b).length ≤ a.length + b.length := by
  have := consP_len (a ++ b)
  rw [List.length_append] at this
  exact this
abbrev Rows1 (l : List DeltaD) : Prop := ∀ x ∈ l, x.row.length ≤ 1000000
end Go.Proofs.YtnapfhbibikbiaaDoor
end

/-
  STRINGS.BUILDER over what a walk owns; tables that a row lays; rows with laid tables; the decimal form of ints.
-/
section
set_option linter.unusedVariables false
set_option linter.unusedSimpArgs false
namespace Go.Vc
open Go.RowKit Go.Shelf

section
variable {P : Program} {W w w' : World} {S R F : List Own} {Φ Ψ : PW}

/-- what is owned changes, and is owned no more -/
theorem Ctx.lose [Stable Φ] (c : Ctx W w (R ++ S) Φ) (h : Chg (dom R) w w') : Ctx W w' S Φ := by
  have hn := c.nodup
  rw [dom_app, List.nodup_append] at hn
  refine c.go ⟨h.mono fun x hx => by rw [dom_app]; exact List.mem_append_left _ hx, fun b hb => .inl (by rw [dom_app]; exact List.mem_append_right _ hb)⟩ (fun o ho => ?_) hn.2.1
  exact Own.at_keep (c.own o (List.mem_append_right _ ho)) fun b hb => h.block b (c.lt (mem_dom (List.mem_append_right _ ho) hb)) fun hm => hn.2.2 b hm b (mem_dom ho hb) rfl

/-- append of a string's bytes -/
theorem Ctx.appStr [Stable Φ] {p : Option Addr} {n cap : Nat} {cs : List Value} {e : TypeId} (c : Ctx W w (.buf p n cap cs e 1 :: S) Φ) {t u ty : TypeId} {kb : Array Bool} {i : TypeInfo}
    (ht : P.underlying t = some (.slice e)) (hu : P.underlying u = some .string) (hi : P.info? e = some i) (hz : i.zero = some (.int .u8 0)) (hsize : i.size = 1) (hby : i.bytes = 1) (s : ByteArray)
    (hb : n + s.size ≤ 140737488355328) (h63 : n + s.size ≤ maxLen) :
    ∃ p' cap' w', Sem.run P (builtin Builtin.append #[t, u] ty kb #[.slice p n cap, .string s]) w = .ok (.value (.slice p' (n + s.size) cap')) w' ∧ Ctx W w' (.buf p' (n + s.size) cap' (cs ++ Lib.strCells s) e 1 :: S) Φ := by
  have hown := c.own _ (List.mem_cons_self)
  obtain ⟨hcl, hown⟩ := hown
  have hxl : cs.length = n := by simpa using hcl
  have hlen : (cs ++ Lib.strCells s).length = (n + s.size) * 1 := by rw [List.length_append, hxl, Lib.strCells_length, Nat.mul_one]
  have grown : ∀ (old : Nat), old < n + s.size →
      Ctx W (w.drew.alloc (.cells (cs.toArray ++ (Lib.strCells s).toArray ++ Builtin.zeroCells (Value.int .u8 0).cells (grownCap w (n + s.size) old e - (n + s.size))) e))
        (.buf (some ⟨w.heap.size, 0, none⟩) (n + s.size) (grownCap w (n + s.size) old e) (cs ++ Lib.strCells s) e 1 :: S) Φ := by
    intro old ho
    have hge := grownCap_ge w (n + s.size) old e
    have hcm : grownCap w (n + s.size) old e ≤ maxLen := grownCap_le_maxLen w (n + s.size) old e h63
    have h := c.upd (k := 0) (o' := .buf (some ⟨w.heap.size, 0, none⟩) (n + s.size) (grownCap w (n + s.size) old e) (cs ++ Lib.strCells s) e 1) rfl (((Chg.refl _ _).drewN 1).alloc (.cells (cs.toArray ++ (Lib.strCells s).toArray ++ Builtin.zeroCells (Value.int .u8 0).cells (grownCap w (n + s.size) old e - (n + s.size))) e)) (by simp [Own.dom]) (by simp [Own.dom])
      ⟨hlen, .inr ⟨w.heap.size, _, _, rfl, Nat.zero_le _, hp_alloc_new w.drew _, hge, hcm, ?_, ?_⟩⟩
    · exact h
    · have hz1 : (Value.int IntKind.u8 0).cells.size = 1 := rfl
      simp only [Array.size_append, List.size_toArray, size_zeroCells, hz1, hxl, Lib.strCells_length]
      omega
    · simp only [Array.toList_append, List.append_assoc]
      rw [← List.append_assoc, ← hlen]
      exact List.take_left
  rcases hown with ⟨e1, rfl⟩ | ⟨g, cap', cur, e1, _, hg, hnc, hcm, hcs, htake⟩
  · cases e1
    have hx : cs = [] := List.eq_nil_of_length_eq_zero hxl
    subst hx
    by_cases hm : s.size = 0
    · have hn : Lib.strCells s = [] := List.eq_nil_of_length_eq_zero (by rw [Lib.strCells_length]; exact hm)
      refine ⟨none, 0, w, run_app ?_, by rw [hm, hn]; exact c⟩
      have hf := Lib.run_firstCells_string (P := P) w 1 s
      rw [hm] at hf
      simp [Builtin.append_, run_underlying ht, run_underlying hu, sizeOf, typeInfo, hi, hsize, Builtin.lenOf, hm, hf]
    · have hr := run_append_nil_string (P := P) w t u ty e i (.int .u8 0) ht hu hi hz s (by omega) (by omega) (by rw [hby]; omega)
      have hgr := grown 0 (by omega)
      simp only [Nat.zero_add, List.nil_append, Array.empty_append] at hgr ⊢
      have e1 : (s.data.map fun b => Value.int .u8 b.toNat) = (Lib.strCells s).toArray := by
        apply Array.ext'
        simp [Lib.strCells]
      rw [e1] at hr
      exact ⟨_, _, _, run_app hr, hgr⟩
  · cases e1
    have hcs' : cur.size = cap := by simpa using hcs
    have ht' : cur.toList.take n = cs := by simpa using htake
    by_cases hroom : n + s.size ≤ cap
    · have hr := Lib.run_append_room_string (P := P) w t u ty e i ht hu hi hsize g n cap cur hg s hroom (by omega)
      refine ⟨_, _, _, run_app hr, ?_⟩
      have h := c.upd (k := 0) (w' := w.setRow g (cur.toList.take n ++ Lib.strCells s ++ cur.toList.drop (n + s.size)).toArray) (o' := .buf (some ⟨g, 0, none⟩) (n + s.size) cap (cs ++ Lib.strCells s) e 1) rfl ⟨rfl, rfl, rfl, by simp, fun b _ hb => setRow_other w g b _ (by simpa [Own.dom] using hb)⟩ (by simp [Own.dom]) (by simp [Own.dom])
        ⟨hlen, .inr ⟨g, cap, _, rfl, Nat.zero_le _, setRow_heap w g cur _ e _ hg, hroom, hcm, ?_, ?_⟩⟩
      · exact h
      · simp only [List.size_toArray, List.length_append, List.length_take, List.length_drop, Array.length_toList, Lib.strCells_length]
        omega
      · rw [ht', ← hlen]
        exact List.take_left
    · have holds : ∀ j u, cs[j]? = some u → w.cell? ((⟨g, 0, none⟩ : Addr).add j) = some u := by
        intro j u hj
        have hlt : j < cs.length := (List.getElem?_eq_some_iff.1 hj).1
        have h2 : cur[j]? = some u := by
          rw [← ht', List.getElem?_take_of_lt (by omega)] at hj
          simpa using hj
        rw [addr_add, Nat.zero_add]
        simp [World.cell?, hg, h2]
      have hr := Lib.run_append_grow_string (P := P) w t u ty e i (.int .u8 0) ht hu hi hz ⟨g, 0, none⟩ n cap cs (by rw [hsize]; simpa using hxl) holds s (by omega) (by omega) (by rw [hby]; exact growslice_fits (by omega) (by omega))
      exact ⟨_, _, _, run_app hr, grown cap (by omega)⟩

/-- a strings.Builder (of type T, in block b) that holds these bytes (of type e) -/
def Bd (T e : TypeId) (b : Nat) (l : List UInt8) (R : List Own) : Prop :=
  ∃ (pa : Value) (p : Option Addr) (cap : Nat), (pa = .pointer none ∨ pa = .pointer (some ⟨b, 0, none⟩)) ∧ R = [.blk b [pa, .slice p l.length cap] T, .buf p l.length cap (Lib.byteCells l) e 1]

theorem Bd.fresh [Stable Φ] {T e : TypeId} {b : Nat} (c : Ctx W w (.blk b [.pointer none, .slice none 0 0] T :: S) Φ) : Ctx W w ([.blk b [.pointer none, .slice none 0 0] T, .buf none 0 0 [] e 1] ++ S) Φ :=
  ((c.buf0 e 1).perm (List.Perm.swap _ _ _))
theorem Bd.nil {T e : TypeId} {b : Nat} : Bd T e b [] [.blk b [.pointer none, .slice none 0 0] T, .buf none 0 0 [] e 1] := ⟨.pointer none, none, 0, .inl rfl, rfl⟩

end

/-! ### String -/
section
open Go.Proofs
variable {P : Program} {ρ : Ren}

theorem chg_freeze {a w : World} {D : List Nat} (h : Chg D a w) {p : Addr} (hp : p.block ∈ D) (n : Nat) : Chg D a (w.freeze p n) := by
  refine h.trans (T := D) ?_ (fun x hx => .inl hx)
  unfold World.freeze
  split
  · exact Chg.refl _ _
  · refine ⟨rfl, rfl, rfl, by simp, fun k hk hn => ?_⟩
    simp only [Array.getElem?_modify]
    rw [if_neg (fun e => hn (by rw [← e]; exact hp))]

set_option maxHeartbeats 1000000 in
set_option maxRecDepth 100000 in
theorem builder_String_some (L : Lays.n169 P ρ) (X : Builder.Extra P ρ) (b g cap : Nat) (pa : Value) (l : List UInt8) (w : World) (h0 : l ≠ []) (hbk : w.heap[b]? = some (.cells #[pa, .slice (some ⟨g, 0, none⟩) l.length cap] (ρ.t 72) (0, 0)))
    (hown : w.ownsRow 0 (ρ.t 5) 1 (.slice (some ⟨g, 0, none⟩) l.length cap) l.length (Lib.byteCells l)) :
    Calls P (ρ.f 169) #[.pointer (some ⟨b, 0, none⟩)] w fun e w' => e = .returned (.string ⟨l.toArray⟩) ∧ Chg [g] w w' := by
  have hl0 : l.length ≠ 0 := by simpa using h0
  obtain ⟨cur, hg, hnc, hcm, hcs, htake⟩ : ∃ cur, w.heap[g]? = some (.cells cur (ρ.t 5) (0, 0)) ∧ l.length ≤ cap ∧ cap ≤ maxLen ∧ cur.size = cap * 1 ∧ cur.toList.take (l.length * 1) = Lib.byteCells l := by
    rcases hown.2 with ⟨hv, _⟩ | ⟨g', cap', cur, hv, _, r⟩
    · cases hv
    · cases hv; exact ⟨cur, r⟩
  have c1 : w.drew.cell? ⟨b, 1, none⟩ = some (.slice (some ⟨g, 0, none⟩) l.length cap) := by
    have : w.drew.heap[b]? = some (.cells #[pa, .slice (some ⟨g, 0, none⟩) l.length cap] (ρ.t 72) (0, 0)) := hbk
    rw [Lib.cell_of_heap this]; rfl
  have hSD : (Builtin.unsafeSliceData_ #[(ρ.t 37)] (ρ.t 127) #[.slice (some ⟨g, 0, none⟩) l.length cap]).run P w.drew = .ok (.pointer (some ⟨g, 0, none⟩)) w.drew :=
    Lib.run_unsafeSliceData_row _ _ _ _ _ _ (by omega)
  have hUS : (Builtin.unsafeString_ #[(ρ.t 127), (ρ.t 3)] (ρ.t 9) #[.pointer (some ⟨g, 0, none⟩), .int .i64 l.length]).run P w.drew = .ok (.string ⟨l.toArray⟩) (w.drew.freeze ⟨g, 0, none⟩ l.length) := by
    refine Lib.run_unsafeString_row w.drew (ρ.t 127) (ρ.t 3) (ρ.t 9) (ρ.t 5) L.t127 X.cellsByte g cur.size (by have hg' : w.drew.heap[g]? = some (.cells cur (ρ.t 5) (0, 0)) := hg; simp [World.shape?, hg']) l h0 (by omega) (by unfold maxLen at hcm; omega) ?_
    intro j x hx
    have := hown.cells (g := g) rfl j (.int .u8 x.toNat) (by simp [Lib.byteCells, hx])
    exact this
  have mixed := L.mixed
  have t72 := L.t72; have a72 := L.a72; have z72 := L.z72; have v72 := L.v72; have u72 := run_underlying L.t72
  have t70 := L.t70; have a70 := L.a70; have z70 := L.z70; have v70 := L.v70; have u70 := run_underlying L.t70
  have t37 := L.t37; have a37 := L.a37; have z37 := L.z37; have v37 := L.v37; have u37 := run_underlying L.t37
  have t127 := L.t127; have a127 := L.a127; have z127 := L.z127; have v127 := L.v127; have u127 := run_underlying L.t127
  have t3 := L.t3; have a3 := L.a3; have z3 := L.z3; have v3 := L.v3; have u3 := run_underlying L.t3
  have t9 := L.t9; have a9 := L.a9; have z9 := L.z9; have v9 := L.v9; have u9 := run_underlying L.t9
  have t5 := X.t5; have a5 := X.a5; have z5 := X.z5; have v5 := X.v5; have u5 := run_underlying X.t5
  go_enter L.f169, Body.n169_ntmps ρ
  go_wp2
  go_region_o
  all_goals (go_wp2; go_ret; exact ⟨rfl, chg_freeze ((Chg.refl _ _).drewN 1) (p := ⟨g, 0, none⟩) (by simp) _⟩)

set_option maxHeartbeats 2000000 in
set_option maxRecDepth 100000 in
theorem builder_String_nil (L : Lays.n169 P ρ) (X : Builder.Extra P ρ) (b : Nat) (p : Value) (w : World) (hbk : w.heap[b]? = some (.cells #[p, .slice none 0 0] (ρ.t 72) (0, 0))) :
    Calls P (ρ.f 169) #[.pointer (some ⟨b, 0, none⟩)] w fun e w' => e = .returned (.string ⟨#[]⟩) ∧ Chg [] w w' := by
  have hUS := Any.unsafeString_none L X
  have c1 : w.drew.cell? ⟨b, 1, none⟩ = some (.slice none 0 0) := by
    have : w.drew.heap[b]? = some (.cells #[p, .slice none 0 0] (ρ.t 72) (0, 0)) := hbk
    rw [Lib.cell_of_heap this]; rfl
  have hSD : (Builtin.unsafeSliceData_ #[(ρ.t 37)] (ρ.t 127) #[.slice none 0 0]).run P w.drew = .ok (.pointer none) w.drew := rfl
  have mixed := L.mixed
  have t72 := L.t72; have a72 := L.a72; have z72 := L.z72; have v72 := L.v72; have u72 := run_underlying L.t72
  have t70 := L.t70; have a70 := L.a70; have z70 := L.z70; have v70 := L.v70; have u70 := run_underlying L.t70
  have t37 := L.t37; have a37 := L.a37; have z37 := L.z37; have v37 := L.v37; have u37 := run_underlying L.t37
  have t127 := L.t127; have a127 := L.a127; have z127 := L.z127; have v127 := L.v127; have u127 := run_underlying L.t127
  have t3 := L.t3; have a3 := L.a3; have z3 := L.z3; have v3 := L.v3; have u3 := run_underlying L.t3
  have t9 := L.t9; have a9 := L.a9; have z9 := L.z9; have v9 := L.v9; have u9 := run_underlying L.t9
  have t5 := X.t5; have a5 := X.a5; have z5 := X.z5; have v5 := X.v5; have u5 := run_underlying X.t5
  go_enter L.f169, Body.n169_ntmps ρ
  go_wp2
  go_region_o
  all_goals (go_wp2; go_ret; exact ⟨rfl, (Chg.refl _ _).drewN 1⟩)

set_option maxHeartbeats 2000000 in
set_option maxRecDepth 100000 in
theorem builder_String_noroom (L : Lays.n169 P ρ) (X : Builder.Extra P ρ) (b g : Nat) (p : Value) (cur : Array Value) (w : World) (hbk : w.heap[b]? = some (.cells #[p, .slice (some ⟨g, 0, none⟩) 0 0] (ρ.t 72) (0, 0))) (hg : w.heap[g]? = some (.cells cur (ρ.t 5) (0, 0))) :
    Calls P (ρ.f 169) #[.pointer (some ⟨b, 0, none⟩)] w fun e w' => e = .returned (.string ⟨#[]⟩) ∧ Chg [] w w' := by
  have hUS := Any.unsafeString_none L X
  have hlt : b < w.heap.size := by
    rcases Nat.lt_or_ge b w.heap.size with h' | h'
    · exact h'
    · simp [Array.getElem?_eq_none h'] at hbk
  have c1 : w.drew.cell? ⟨b, 1, none⟩ = some (.slice (some ⟨g, 0, none⟩) 0 0) := by
    have : w.drew.heap[b]? = some (.cells #[p, .slice (some ⟨g, 0, none⟩) 0 0] (ρ.t 72) (0, 0)) := hbk
    rw [Lib.cell_of_heap this]; rfl
  have hSD : (Builtin.unsafeSliceData_ #[(ρ.t 37)] (ρ.t 127) #[.slice (some ⟨g, 0, none⟩) 0 0]).run P w.drew = .ok (.pointer (some ⟨w.drew.heap.size, 0, none⟩)) (w.drew.alloc (.view ⟨g, 0, none⟩ (ρ.t 5))) :=
    Lib.run_unsafeSliceData_zero w.drew _ _ (ρ.t 5) L.t127 ⟨g, 0, none⟩ 0 ((ρ.t 5), cur.size) (by have hg' : w.drew.heap[g]? = some (.cells cur (ρ.t 5) (0, 0)) := hg; simp [World.shape?, hg'])
  have c2 : (w.drew.alloc (.view ⟨g, 0, none⟩ (ρ.t 5))).cell? ⟨b, 1, none⟩ = some (.slice (some ⟨g, 0, none⟩) 0 0) := by
    have : (w.drew.alloc (.view ⟨g, 0, none⟩ (ρ.t 5))).heap[b]? = _ := (Lib.alloc_old w.drew _ b hlt).trans hbk
    rw [Lib.cell_of_heap this]; rfl
  have c3 : (w.alloc (.view ⟨g, 0, none⟩ (ρ.t 5))).drew.cell? ⟨b, 1, none⟩ = some (.slice (some ⟨g, 0, none⟩) 0 0) := c2
  have c0 : w.cell? ⟨b, 1, none⟩ = some (.slice (some ⟨g, 0, none⟩) 0 0) := c1
  have mixed := L.mixed
  have t72 := L.t72; have a72 := L.a72; have z72 := L.z72; have v72 := L.v72; have u72 := run_underlying L.t72
  have t70 := L.t70; have a70 := L.a70; have z70 := L.z70; have v70 := L.v70; have u70 := run_underlying L.t70
  have t37 := L.t37; have a37 := L.a37; have z37 := L.z37; have v37 := L.v37; have u37 := run_underlying L.t37
  have t127 := L.t127; have a127 := L.a127; have z127 := L.z127; have v127 := L.v127; have u127 := run_underlying L.t127
  have t3 := L.t3; have a3 := L.a3; have z3 := L.z3; have v3 := L.v3; have u3 := run_underlying L.t3
  have t9 := L.t9; have a9 := L.a9; have z9 := L.z9; have v9 := L.v9; have u9 := run_underlying L.t9
  have t5 := X.t5; have a5 := X.a5; have z5 := X.z5; have v5 := X.v5; have u5 := run_underlying X.t5
  go_enter L.f169, Body.n169_ntmps ρ
  go_wp2
  go_region_o
  all_goals (go_wp2; go_ret; exact ⟨rfl, ((Chg.refl _ _).drewN 1).alloc _⟩)

set_option maxHeartbeats 2000000 in
set_option maxRecDepth 100000 in
theorem builder_String_room (L : Lays.n169 P ρ) (X : Builder.Extra P ρ) (b g cap : Nat) (p : Value) (w : World) (hc0 : cap ≠ 0) (hbk : w.heap[b]? = some (.cells #[p, .slice (some ⟨g, 0, none⟩) 0 cap] (ρ.t 72) (0, 0))) :
    Calls P (ρ.f 169) #[.pointer (some ⟨b, 0, none⟩)] w fun e w' => e = .returned (.string ⟨#[]⟩) ∧ Chg [] w w' := by
  have hUS := Any.unsafeString_none L X
  have c1 : w.drew.cell? ⟨b, 1, none⟩ = some (.slice (some ⟨g, 0, none⟩) 0 cap) := by
    have : w.drew.heap[b]? = some (.cells #[p, .slice (some ⟨g, 0, none⟩) 0 cap] (ρ.t 72) (0, 0)) := hbk
    rw [Lib.cell_of_heap this]; rfl
  have hSD : (Builtin.unsafeSliceData_ #[(ρ.t 37)] (ρ.t 127) #[.slice (some ⟨g, 0, none⟩) 0 cap]).run P w.drew = .ok (.pointer (some ⟨g, 0, none⟩)) w.drew :=
    Lib.run_unsafeSliceData_row _ _ _ _ _ _ hc0
  clear hc0
  have mixed := L.mixed
  have t72 := L.t72; have a72 := L.a72; have z72 := L.z72; have v72 := L.v72; have u72 := run_underlying L.t72
  have t70 := L.t70; have a70 := L.a70; have z70 := L.z70; have v70 := L.v70; have u70 := run_underlying L.t70
  have t37 := L.t37; have a37 := L.a37; have z37 := L.z37; have v37 := L.v37; have u37 := run_underlying L.t37
  have t127 := L.t127; have a127 := L.a127; have z127 := L.z127; have v127 := L.v127; have u127 := run_underlying L.t127
  have t3 := L.t3; have a3 := L.a3; have z3 := L.z3; have v3 := L.v3; have u3 := run_underlying L.t3
  have t9 := L.t9; have a9 := L.a9; have z9 := L.z9; have v9 := L.v9; have u9 := run_underlying L.t9
  have t5 := X.t5; have a5 := X.a5; have z5 := X.z5; have v5 := X.v5; have u5 := run_underlying X.t5
  go_enter L.f169, Body.n169_ntmps ρ
  go_wp2
  go_region_o
  all_goals (go_wp2; go_ret; exact ⟨rfl, (Chg.refl _ _).drewN 1⟩)

/-- (*strings.Builder).String: the builder is given up -/
theorem Bd.string {W w : World} {S R : List Own} {Φ : PW} [Stable Φ] {b : Nat} {l : List UInt8} (L : Lays.n169 P ρ) (X : Builder.Extra P ρ) (h : Bd (ρ.t 72) (ρ.t 5) b l R) (c : Ctx W w (R ++ S) Φ) {K : Ending → World → Prop}
    (hk : ∀ w', Ctx W w' S Φ → K (.returned (.string ⟨l.toArray⟩)) w') : Calls P (ρ.f 169) #[.pointer (some ⟨b, 0, none⟩)] w K := by
  obtain ⟨pa, p, cap, hpa, rfl⟩ := h
  have hbk : w.heap[b]? = some (.cells #[pa, .slice p l.length cap] (ρ.t 72) (0, 0)) := c.blk 0 rfl
  have hown : w.ownsRow 0 (ρ.t 5) 1 (.slice p l.length cap) l.length (Lib.byteCells l) := c.own _ (List.mem_cons_of_mem _ List.mem_cons_self)
  by_cases h0 : l = []
  · subst h0
    rcases hown.2 with ⟨e, _⟩ | ⟨g, cap', cur, e, _, hg, _⟩
    · cases e
      exact (builder_String_nil L X b pa w hbk).mono fun e w' ⟨he, hc⟩ => by subst he; exact hk w' (c.lose (hc.mono (by simp)))
    · cases e
      by_cases hc0 : cap = 0
      · subst hc0
        exact (builder_String_noroom L X b g pa cur w hbk hg).mono fun e w' ⟨he, hc⟩ => by subst he; exact hk w' (c.lose (hc.mono (by simp)))
      · exact (builder_String_room L X b g cap pa w hc0 hbk).mono fun e w' ⟨he, hc⟩ => by subst he; exact hk w' (c.lose (hc.mono (by simp)))
  · have hl0 : l.length ≠ 0 := by simpa using h0
    obtain ⟨g, rfl⟩ : ∃ g, p = some ⟨g, 0, none⟩ := by
      rcases hown.2 with ⟨_, hz⟩ | ⟨g, cap', cur, hv, _⟩
      · exact absurd hz hl0
      · cases hv; exact ⟨g, rfl⟩
    exact (builder_String_some L X b g cap pa l w h0 hbk hown).mono fun e w' ⟨he, hc⟩ => by subst he; exact hk w' (c.lose (hc.mono (by simp [dom, Own.dom])))

end

/-! ### tables -/
/-- a table of the library's, in a block that nobody writes -/
def Tab (P : Program) (name : String) (k : IntKind) (zs : List Int) : PW := fun M w => Lib.TabIs P w name k zs ∧ ∀ g, P.globalNamed name = some g → g ∉ M

instance instStableTab (P : Program) (name : String) (k : IntKind) (zs : List Int) : Stable (Tab P name k zs) := ⟨fun {M M' w w'} hs h => by
  obtain ⟨h1, h2⟩ := h
  unfold Lib.TabIs World.var? at h1
  cases hg : P.globalNamed name with
  | none => simp [hg] at h1
  | some g =>
    simp only [hg, Option.bind_some] at h1
    have hlt : g < w.heap.size := by
      rcases Nat.lt_or_ge g w.heap.size with h' | h'
      · exact h'
      · rw [Array.getElem?_eq_none h'] at h1; simp at h1
    refine ⟨?_, fun g' hg' hm => ?_⟩
    · unfold Lib.TabIs World.var?
      simp only [hg, Option.bind_some]
      rw [hs.chg.block g hlt (h2 g hg)]
      exact h1
    · rw [hg] at hg'
      cases hg'
      rcases hs.sub g hm with h | h
      · exact h2 g hg h
      · omega⟩

theorem Tab.start {P : Program} {name : String} {k : IntKind} {zs : List Int} {w : World} (h : Lib.TabIs P w name k zs) : Tab P name k zs [] w := ⟨h, fun _ _ => by simp⟩

theorem chg_grow {w : World} {k : Nat} {os : Array Obj} : Chg [] w (Sort.grow (w.drewN k) os) :=
  ⟨rfl, rfl, rfl, by show w.heap.size ≤ (w.heap ++ os).size; rw [Array.size_append]; omega, fun j hj _ => by
    show (w.heap ++ os)[j]? = w.heap[j]?
    rw [Array.getElem?_append_left hj]⟩

/-- strconv.Itoa -/
theorem itoa_in {P : Program} {f : FuncId} {Φ : PW} [Stable Φ] {name : String} (hI : ∀ (n : Int), -9223372036854775808 ≤ n → n ≤ 9223372036854775807 → ∀ w, Lib.TabIs P w name .u64 Lib.pow10Tab →
      Calls P f #[.int .i64 n] w fun e w' => e = .returned (.string ⟨(Lib.itoa n).toArray⟩) ∧ ∃ k os, w' = Sort.grow (w.drewN k) os)
    (hΦ : ∀ M w, Φ M w → Tab P name .u64 Lib.pow10Tab M w) (n : Int) (h : I64 n) : GivesIn Φ P f #[.int .i64 n] (.string ⟨(Lib.itoa n).toArray⟩) :=
  ⟨fun W w S c => (hI n (by unfold I64 at h; omega) (by unfold I64 at h; omega) w (hΦ _ _ c.phi).1).mono fun e w' ⟨he, k, os, hw⟩ => ⟨he, by rw [hw]; exact c.call chg_grow⟩⟩

/-! ### rows with laid tables -/
open Go.ChangeShapes Go.WideShapes Go.ChangeAt

/-- the row: true, and what came in reads as it did; tables are laid -/
theorem lawTrueLaid {H : Type} {enc : TypeId × Value → H} {C : Checked} {os : Os} {f : FuncId} {fn : Func} {s : ChangeSpec} {conds : List PathCond} {apart fresh handsOn : Bool} {tb : TypeId} {ld : List (String × DataW Unit)}
    (own : ownKnob C.prog.godebug = none) (started : os.Started) (noInit : C.prog.inits.idxOf? f = none) (hfn : C.prog.funcs[f]? = some fn)
    (laid : laidOutB C.prog = true) (hvars : s.vars = []) (hspec : ∀ ds : List (DataW H), ds.length = fn.params.toList.length → (s.fn H (ds ++ [])).results = [.lit (.bool true)] ∧ (s.fn H (ds ++ [])).args = ds ∧ (s.fn H (ds ++ [])).vars = [])
    (hres : fn.resultTypes = #[tb]) (htb : C.prog.underlying tb = some .bool)
    (types : (fn.params.toList.all fun t => C.prog.readableRec t && decide (t < C.prog.types.size)) = true)
    (witness : ∃ (w : World) (tape : Tape) (i : Input), w.os = os ∧ (w.forCall tape i).Shaped C.prog ∧ i.vars = [] ∧ Input.okWide C.prog (w.forCall tape i) .any w.heap.size f i ∧
      ((s.pre enc C.prog fn conds apart (w.forCall tape i).memory i.args ∧ laidMetH C.prog ld (w.forCall tape i).memory) ∧ sizedMet enc C.prog fn (OpenSpec.ofChange s) apart (w.forCall tape i).memory i.args) ∧ Assume.holds {} C.prog (lone (Frame.enter C.prog f i.args .normal) [] (w.forCall tape i)))
    (contract : ∀ (W : World) (base : Nat) (args : Array Value) (ds : List (DataW H)) (p : List MemPlace),
      (∀ (j : Nat) t v, fn.params[j]? = some t → args[j]? = some v → Value.okWide C.prog W .any base t v) →
      DataW.TrodAll enc C.prog W 0 (fun _ => true) true fn.params.toList args.toList ds p →
      conds.all (PathCond.test C.prog ⟨fn.params.toList, ds, s.plain.varTypes C.prog, []⟩) = true → laidMetH C.prog ld W →
      Calls C.prog f args W fun e W' => ∃ u, e = .returned u ∧ (u = .bool true ∧ Chg [] W W')) :
    ReturnsInHanded {} C os f .any (fun w args => (s.pre enc C.prog fn conds apart w args ∧ laidMetH C.prog ld w) ∧ sizedMet enc C.prog fn (OpenSpec.ofChange s) apart w args) (s.post enc C.prog fn apart fresh handsOn false) := by
  refine returnsInHanded_of_change_and (X := fun w _ => laidMetH C.prog ld w) (fun _ _ _ hh h => h.of_heap hh) own started noInit hfn witness ?_
  intro W base args ds gs before hval hW hcnd _ hL _
  have hW' := hW
  obtain ⟨p, q, hA, hV, rfl, _, _⟩ := hW
  rw [hvars] at hV
  obtain ⟨rfl, rfl⟩ := trodVars_none hV
  simp only [List.append_nil] at hW'
  refine (contract W base args ds p hval hA hcnd hL).mono fun e W' ⟨u, he, hu, hc⟩ => ?_
  subst he; subst hu
  have hb : Below W.heap.size W W' := hc.below (Nat.le_refl _) (by simp)
  obtain ⟨e1, e2, e3⟩ := hspec ds (trodAll_length hA).2
  refine ⟨_, rfl, ds, [], p, [], p, [], hW', ?_, ?_, ?_, hb.frame _, fun h => by cases h⟩
  · rw [e1, hres]
    exact trodAll_mk1 (t := tb) (v := .bool true) ⟨1, by simp [DataW.trod, Value.cells, htb]⟩
  · rw [e2]
    exact trodAll_below laid hb types hA (fun x hx => by simpa using hW'.lt x hx)
  · rw [e3, hvars]
    rfl

end Go.Vc
end

