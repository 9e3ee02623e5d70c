/-
  The conditions of the walks of some functions, one formula each; 'B<f>_run' says that they suffice. The formulas are printed by a program; the kernel compares them with the functions' code.
-/
import Derived.Test.YtflanndhfdfemaaBa
namespace Go.Proofs.Ytflanndhfdfemaa
set_option linter.unusedVariables false
set_option linter.unusedSimpArgs false
set_option maxRecDepth 100000
open Go.Vc

/-- errataref20.Analyze -/
-- loop at region 13: 13 k; blocks 
-- loop at region 5: 7 l, 8 i; blocks 
-- cut 12: 12 b; blocks 
-- known blocks: 2 p, 3 c, 9 n
def Berrataref20_Analyze (p0P : Option Addr) (p0N p0C : Nat) (p1P : Option Addr) (p1N p1C : Nat) (c0 : Int) (c1 : Int) (c2 : Int) (c3 : Int) (c4 : Int) (c5 : Int) (W : World) (R : List Own) (Φ : PW) (J : Value → World → Prop) : Prop :=
  ∀ (b b : Nat) (w0 : World) (R1 : List Own), Ctx W w0 (R ++ R1) Φ → Calls Try.prog F.errataref20_RightConfig #[Value.agg #[Value.int IntKind.i64 c0, Value.int IntKind.i64 c1, Value.int
  IntKind.i64 c2, Value.int IntKind.i64 c3, Value.int IntKind.i64 c4, Value.int IntKind.i64 c5]] w0 fun (e2 : Ending) (w3 : World) => ∃ (c4_1 : Bool), e2 = Ending.returned (Value.bool c4_1) ∧
  ∃ (R5 : List Own), ∃ (Φ6 : PW), Stable Φ6 ∧ Ctx W w3 (R5 ++ R1) Φ6 ∧ Br (!c4_1) (∀ (w7 : World) (R8 : List Own), Ctx W w7 (R5 ++ R8) Φ6 → J (Value.tuple #[Value.slice none 0 0, Value.int
  IntKind.i64 (-1), Value.int IntKind.i64 2]) w7) (∀ (w9 : World) (R10 : List Own), Ctx W w9 (R5 ++ R10) Φ6 → Calls Try.prog F.errataref20_Well #[Value.agg #[Value.slice p0P p0N p0C,
  Value.slice p1P p1N p1C]] w9 fun (e11 : Ending) (w12 : World) => ∃ (c13 : Bool), e11 = Ending.returned (Value.bool c13) ∧ ∃ (R14 : List Own), ∃ (Φ15 : PW), Stable Φ15 ∧ Ctx W w12 (R14 ++
  R10) Φ15 ∧ Br (!c13) (∀ (w16 : World) (R17 : List Own), Ctx W w16 (R14 ++ R17) Φ15 → J (Value.tuple #[Value.slice none 0 0, Value.int IntKind.i64 (-1), Value.int IntKind.i64 2]) w16) (exI
  fun (I18 : Option Addr → Nat → Nat → Int → List Own → PW → Nat → Prop) => (∃ (R19 : List Own), ∃ (Φ20 : PW), ∃ (k21 : Nat), Stable Φ20 ∧ (∀ (w22 : World) (R23 : List Own), Ctx W w22 (R14 ++
  R23) Φ15 → Ctx W w22 (R19 ++ R23) Φ20) ∧ I18 none 0 0 0 R19 Φ20 k21) ∧ ∀ (p24 : Option Addr) (k25 k26 : Nat) (n27 : Int) (R28 : List Own) (I29 : List Nat → World → Prop) (k30 : Nat), Stable
  I29 → I18 p24 k25 k26 n27 R28 I29 k30 → Br (decide (n27 < (↑p1N : Int))) ((0 ≤ n27 ∧ n27 < (↑p1N : Int)) ∧ ptrK none p1P fun (k31 k32 : Nat) => ∀ (w33 : World) (R34 : List Own), Ctx W w33
  (R28 ++ R34) I29 → ∃ (n35 : Int), ∃ (p36 : Option Addr), ∃ (k37 : Nat), ∃ (k38 : Nat), ∃ (s39 : ByteArray), ∃ (n40 : Int), ∃ (p41 : Option Addr), ∃ (k42 : Nat), ∃ (k43 : Nat), ∃ (n44 :
  Int), ∃ (n45 : Int), ∃ (n46 : Int), ∃ (p47 : Option Addr), ∃ (k48 : Nat), ∃ (k49 : Nat), ∃ (p50 : Option Addr), ∃ (k51 : Nat), ∃ (k52 : Nat), ∃ (n53 : Int), ∃ (n54 : Int), ∃ (n55 : Int), ∃
  (p56 : Option Addr), ∃ (k57 : Nat), ∃ (k58 : Nat), ∃ (p59 : Option Addr), ∃ (k60 : Nat), ∃ (k61 : Nat), ∃ (p62 : Option Addr), ∃ (k63 : Nat), ∃ (k64 : Nat), RowAt w33 k31 (k32 + n27.toNat *
  16) [Value.int IntKind.i64 n35, Value.slice p36 k37 k38, Value.string s39, Value.int IntKind.i64 n40, Value.slice p41 k42 k43, Value.int IntKind.i64 n44, Value.int IntKind.i64 n45,
  Value.int IntKind.i64 n46, Value.slice p47 k48 k49, Value.slice p50 k51 k52, Value.int IntKind.i64 n53, Value.int IntKind.i64 n54, Value.int IntKind.i64 n55, Value.slice p56 k57 k58,
  Value.slice p59 k60 k61, Value.slice p62 k63 k64] ∧ ∀ (b : Nat) (w65 : World) (R66 : List Own), Ctx W w65 (R28 ++ R66) I29 → Calls Try.prog F.errataref20_Bounded #[Value.agg #[Value.int
  IntKind.i64 n35, Value.slice p36 k37 k38, Value.string s39, Value.int IntKind.i64 n40, Value.slice p41 k42 k43, Value.int IntKind.i64 n44, Value.int IntKind.i64 n45, Value.int IntKind.i64
  n46, Value.slice p47 k48 k49, Value.slice p50 k51 k52, Value.int IntKind.i64 n53, Value.int IntKind.i64 n54, Value.int IntKind.i64 n55, Value.slice p56 k57 k58, Value.slice p59 k60 k61,
  Value.slice p62 k63 k64]] w65 fun (e67 : Ending) (w68 : World) => ∃ (c69 : Bool), e67 = Ending.returned (Value.bool c69) ∧ ∃ (R70 : List Own), ∃ (Φ71 : PW), Stable Φ71 ∧ Ctx W w68 (R70 ++
  R66) Φ71 ∧ Br (!c69) (∀ (w72 : World) (R73 : List Own), Ctx W w72 (R70 ++ R73) Φ71 → J (Value.tuple #[Value.slice none 0 0, Value.int IntKind.i64 n27, Value.int IntKind.i64 14]) w72) (∀
  (w74 : World) (R75 : List Own), Ctx W w74 (R70 ++ R75) Φ71 → Calls Try.prog F.errataref20_Own #[Value.agg #[Value.int IntKind.i64 n35, Value.slice p36 k37 k38, Value.string s39, Value.int
  IntKind.i64 n40, Value.slice p41 k42 k43, Value.int IntKind.i64 n44, Value.int IntKind.i64 n45, Value.int IntKind.i64 n46, Value.slice p47 k48 k49, Value.slice p50 k51 k52, Value.int
  IntKind.i64 n53, Value.int IntKind.i64 n54, Value.int IntKind.i64 n55, Value.slice p56 k57 k58, Value.slice p59 k60 k61, Value.slice p62 k63 k64]] w74 fun (e76 : Ending) (w77 : World) => ∃
  (n78 : Int), ∃ (n79 : Int), e76 = Ending.returned (Value.tuple #[Value.int IntKind.i64 n78, Value.int IntKind.i64 n79]) ∧ ∃ (R80 : List Own), ∃ (Φ81 : PW), Stable Φ81 ∧ Ctx W w77 (R80 ++
  R75) Φ81 ∧ exI fun (I82 : Nat → Nat → List Own → PW → Prop) => ((∀ (w83 : World) (R84 : List Own), Ctx W w83 (R80 ++ R84) Φ81 → Calls Try.prog F.errataref20_rate #[Value.agg #[Value.int
  IntKind.i64 n35, Value.slice p36 k37 k38, Value.string s39, Value.int IntKind.i64 n40, Value.slice p41 k42 k43, Value.int IntKind.i64 n44, Value.int IntKind.i64 n45, Value.int IntKind.i64
  n46, Value.slice p47 k48 k49, Value.slice p50 k51 k52, Value.int IntKind.i64 n53, Value.int IntKind.i64 n54, Value.int IntKind.i64 n55, Value.slice p56 k57 k58, Value.slice p59 k60 k61,
  Value.slice p62 k63 k64], Value.slice p24 k25 k26, Value.agg #[Value.int IntKind.i64 c0, Value.int IntKind.i64 c1, Value.int IntKind.i64 c2, Value.int IntKind.i64 c3, Value.int IntKind.i64
  c4, Value.int IntKind.i64 c5]] w83 fun (e85 : Ending) (w86 : World) => ∃ (n87 : Int), e85 = Ending.returned (Value.int IntKind.i64 n87) ∧ ∃ (R88 : List Own), ∃ (Φ89 : PW), Stable Φ89 ∧ Ctx
  W w86 (R88 ++ R84) Φ89 ∧ (∀ (R90 : List Nat) (w91 : World), Φ89 R90 w91 → Φ81 R90 w91) ∧ (∀ (w92 : World) (R93 : List Own), Ctx W w92 (R88 ++ R93) Φ89 → Calls Try.prog F.errataref20_state
  #[Value.agg #[Value.int IntKind.i64 n35, Value.slice p36 k37 k38, Value.string s39, Value.int IntKind.i64 n40, Value.slice p41 k42 k43, Value.int IntKind.i64 n44, Value.int IntKind.i64 n45,
  Value.int IntKind.i64 n46, Value.slice p47 k48 k49, Value.slice p50 k51 k52, Value.int IntKind.i64 n53, Value.int IntKind.i64 n54, Value.int IntKind.i64 n55, Value.slice p56 k57 k58,
  Value.slice p59 k60 k61, Value.slice p62 k63 k64], Value.slice p24 k25 k26, Value.agg #[Value.int IntKind.i64 c0, Value.int IntKind.i64 c1, Value.int IntKind.i64 c2, Value.int IntKind.i64
  c3, Value.int IntKind.i64 c4, Value.int IntKind.i64 c5]] w92 fun (e94 : Ending) (w95 : World) => ∃ (n96 : Int), e94 = Ending.returned (Value.int IntKind.i64 n96) ∧ ∃ (R97 : List Own), ∃
  (Φ98 : PW), Stable Φ98 ∧ Ctx W w95 (R97 ++ R93) Φ98 ∧ (∀ (R99 : List Nat) (w100 : World), Φ98 R99 w100 → Φ81 R99 w100) ∧ (∀ (k101 : Nat), (∀ (R102 : List Nat) (w103 : World), Φ98 R102 w103
  → Φ81 R102 w103) ∧ (∀ (w104 : World) (R105 : List Own), Ctx W w104 (Own.blk k101 [Value.int IntKind.i64 0, Value.int IntKind.i64 0, Value.int IntKind.i64 0, Value.int IntKind.i64 0] 37 ::
  R97 ++ R105) Φ98 → CanWrite w104 k101 0 4 ∧ ∀ (w106 : World), w106 = w104.setCells k101 0 [Value.int IntKind.i64 0, Value.int IntKind.i64 0, Value.int IntKind.i64 n87, Value.int IntKind.i64
  n96] → ∃ (R107 : List Own), ∃ (Φ108 : PW), Stable Φ108 ∧ Ctx W w106 (R107 ++ R105) Φ108 ∧ (∀ (R109 : List Nat) (w110 : World), Φ108 R109 w110 → Φ81 R109 w110) ∧ ∃ (R111 : List Own), ∃ (Φ112
  : PW), Stable Φ112 ∧ (∀ (w113 : World) (R114 : List Own), Ctx W w113 (R107 ++ R114) Φ108 → Ctx W w113 (R111 ++ R114) Φ112) ∧ I82 k101 0 R111 Φ112) ∧ True) ∧ True) ∧ (∀ (k115 : Nat), (∀
  (R116 : List Nat) (w117 : World), Φ89 R116 w117 → Φ81 R116 w117) ∧ (∀ (w118 : World) (R119 : List Own), Ctx W w118 (Own.blk k115 [Value.int IntKind.i64 0, Value.int IntKind.i64 0, Value.int
  IntKind.i64 0, Value.int IntKind.i64 0] 37 :: R88 ++ R119) Φ89 → Calls Try.prog F.errataref20_state #[Value.agg #[Value.int IntKind.i64 n35, Value.slice p36 k37 k38, Value.string s39,
  Value.int IntKind.i64 n40, Value.slice p41 k42 k43, Value.int IntKind.i64 n44, Value.int IntKind.i64 n45, Value.int IntKind.i64 n46, Value.slice p47 k48 k49, Value.slice p50 k51 k52,
  Value.int IntKind.i64 n53, Value.int IntKind.i64 n54, Value.int IntKind.i64 n55, Value.slice p56 k57 k58, Value.slice p59 k60 k61, Value.slice p62 k63 k64], Value.slice p24 k25 k26,
  Value.agg #[Value.int IntKind.i64 c0, Value.int IntKind.i64 c1, Value.int IntKind.i64 c2, Value.int IntKind.i64 c3, Value.int IntKind.i64 c4, Value.int IntKind.i64 c5]] w118 fun (e120 :
  Ending) (w121 : World) => ∃ (n122 : Int), e120 = Ending.returned (Value.int IntKind.i64 n122) ∧ ∃ (R123 : List Own), ∃ (Φ124 : PW), Stable Φ124 ∧ Ctx W w121 (R123 ++ R119) Φ124 ∧ (∀ (R125 :
  List Nat) (w126 : World), Φ124 R125 w126 → Φ81 R125 w126) ∧ (∀ (w127 : World) (R128 : List Own), Ctx W w127 (R123 ++ R128) Φ124 → CanWrite w127 k115 0 4 ∧ ∀ (w129 : World), w129 =
  w127.setCells k115 0 [Value.int IntKind.i64 0, Value.int IntKind.i64 0, Value.int IntKind.i64 n87, Value.int IntKind.i64 n122] → ∃ (R130 : List Own), ∃ (Φ131 : PW), Stable Φ131 ∧ Ctx W w129
  (R130 ++ R128) Φ131 ∧ (∀ (R132 : List Nat) (w133 : World), Φ131 R132 w133 → Φ81 R132 w133) ∧ ∃ (R134 : List Own), ∃ (Φ135 : PW), Stable Φ135 ∧ (∀ (w136 : World) (R137 : List Own), Ctx W
  w136 (R130 ++ R137) Φ131 → Ctx W w136 (R134 ++ R137) Φ135) ∧ I82 k115 0 R134 Φ135) ∧ True) ∧ True) ∧ True) ∧ (∀ (k138 : Nat), (∀ (R139 : List Nat) (w140 : World), Φ81 R139 w140 → Φ81 R139
  w140) ∧ (∀ (w141 : World) (R142 : List Own), Ctx W w141 (Own.blk k138 [Value.int IntKind.i64 0, Value.int IntKind.i64 0, Value.int IntKind.i64 0, Value.int IntKind.i64 0] 37 :: R80 ++ R142)
  Φ81 → Calls Try.prog F.errataref20_rate #[Value.agg #[Value.int IntKind.i64 n35, Value.slice p36 k37 k38, Value.string s39, Value.int IntKind.i64 n40, Value.slice p41 k42 k43, Value.int
  IntKind.i64 n44, Value.int IntKind.i64 n45, Value.int IntKind.i64 n46, Value.slice p47 k48 k49, Value.slice p50 k51 k52, Value.int IntKind.i64 n53, Value.int IntKind.i64 n54, Value.int
  IntKind.i64 n55, Value.slice p56 k57 k58, Value.slice p59 k60 k61, Value.slice p62 k63 k64], Value.slice p24 k25 k26, Value.agg #[Value.int IntKind.i64 c0, Value.int IntKind.i64 c1,
  Value.int IntKind.i64 c2, Value.int IntKind.i64 c3, Value.int IntKind.i64 c4, Value.int IntKind.i64 c5]] w141 fun (e143 : Ending) (w144 : World) => ∃ (n145 : Int), e143 = Ending.returned
  (Value.int IntKind.i64 n145) ∧ ∃ (R146 : List Own), ∃ (Φ147 : PW), Stable Φ147 ∧ Ctx W w144 (R146 ++ R142) Φ147 ∧ (∀ (R148 : List Nat) (w149 : World), Φ147 R148 w149 → Φ81 R148 w149) ∧ (∀
  (w150 : World) (R151 : List Own), Ctx W w150 (R146 ++ R151) Φ147 → Calls Try.prog F.errataref20_state #[Value.agg #[Value.int IntKind.i64 n35, Value.slice p36 k37 k38, Value.string s39,
  Value.int IntKind.i64 n40, Value.slice p41 k42 k43, Value.int IntKind.i64 n44, Value.int IntKind.i64 n45, Value.int IntKind.i64 n46, Value.slice p47 k48 k49, Value.slice p50 k51 k52,
  Value.int IntKind.i64 n53, Value.int IntKind.i64 n54, Value.int IntKind.i64 n55, Value.slice p56 k57 k58, Value.slice p59 k60 k61, Value.slice p62 k63 k64], Value.slice p24 k25 k26,
  Value.agg #[Value.int IntKind.i64 c0, Value.int IntKind.i64 c1, Value.int IntKind.i64 c2, Value.int IntKind.i64 c3, Value.int IntKind.i64 c4, Value.int IntKind.i64 c5]] w150 fun (e152 :
  Ending) (w153 : World) => ∃ (n154 : Int), e152 = Ending.returned (Value.int IntKind.i64 n154) ∧ ∃ (R155 : List Own), ∃ (Φ156 : PW), Stable Φ156 ∧ Ctx W w153 (R155 ++ R151) Φ156 ∧ (∀ (R157 :
  List Nat) (w158 : World), Φ156 R157 w158 → Φ81 R157 w158) ∧ (∀ (w159 : World) (R160 : List Own), Ctx W w159 (R155 ++ R160) Φ156 → CanWrite w159 k138 0 4 ∧ ∀ (w161 : World), w161 =
  w159.setCells k138 0 [Value.int IntKind.i64 0, Value.int IntKind.i64 0, Value.int IntKind.i64 n145, Value.int IntKind.i64 n154] → ∃ (R162 : List Own), ∃ (Φ163 : PW), Stable Φ163 ∧ Ctx W
  w161 (R162 ++ R160) Φ163 ∧ (∀ (R164 : List Nat) (w165 : World), Φ163 R164 w165 → Φ81 R164 w165) ∧ ∃ (R166 : List Own), ∃ (Φ167 : PW), Stable Φ167 ∧ (∀ (w168 : World) (R169 : List Own), Ctx
  W w168 (R162 ++ R169) Φ163 → Ctx W w168 (R166 ++ R169) Φ167) ∧ I82 k138 0 R166 Φ167) ∧ True) ∧ True) ∧ True) ∧ True) ∧ ∀ (k170 k171 : Nat) (R172 : List Own) (I173 : List Nat → World →
  Prop), Stable I173 → I82 k170 k171 R172 I173 → exI fun (I174 : Int → List Own → PW → Nat → Prop) => (∃ (R175 : List Own), ∃ (Φ176 : PW), ∃ (k177 : Nat), Stable Φ176 ∧ (∀ (w178 : World)
  (R179 : List Own), Ctx W w178 (R172 ++ R179) I173 → Ctx W w178 (R175 ++ R179) Φ176) ∧ I174 0 R175 Φ176 k177) ∧ ∀ (n180 : Int) (R181 : List Own) (I182 : List Nat → World → Prop) (k183 :
  Nat), Stable I182 → I174 n180 R181 I182 k183 → Br (decide (n180 < (↑k37 : Int))) (∀ (w184 : World) (R185 : List Own), Ctx W w184 (R181 ++ R185) I182 → ∃ (n186 : Int), w184.cell? (Addr.mk
  k170 k171 none) = some (Value.int IntKind.i64 n186) ∧ (0 ≤ n180 ∧ n180 < (↑k37 : Int)) ∧ ptrK none p36 fun (k187 k188 : Nat) => ∀ (w189 : World) (R190 : List Own), Ctx W w189 (R181 ++ R190)
  I182 → ∃ (n191 : Int), w189.cell? (Addr.mk k187 (k188 + n180.toNat) none) = some (Value.int IntKind.i64 n191) ∧ (0 ≤ n191 ∧ n191 < (↑k25 : Int)) ∧ ptrK none p24 fun (k192 k193 : Nat) => ∀
  (w194 : World) (R195 : List Own), Ctx W w194 (R181 ++ R195) I182 → ∃ (n196 : Int), w194.cell? (Addr.mk k192 (k193 + n191.toNat * 4) none) = some (Value.int IntKind.i64 n196) ∧ ∀ (w197 :
  World) (R198 : List Own), Ctx W w197 (R181 ++ R198) I182 → CanWrite w197 k170 k171 1 ∧ ∀ (w199 : World), w199 = w197.setCell (Addr.mk k170 k171 none) (Value.int IntKind.i64 (max n186 n196))
  → ∃ (R200 : List Own), ∃ (Φ201 : PW), Stable Φ201 ∧ Ctx W w199 (R200 ++ R198) Φ201 ∧ ∀ (w202 : World) (R203 : List Own), Ctx W w202 (R200 ++ R203) Φ201 → ∃ (n204 : Int), w202.cell? (Addr.mk
  k170 (k171 + 1) none) = some (Value.int IntKind.i64 n204) ∧ (0 ≤ n180 ∧ n180 < (↑k37 : Int)) ∧ ptrK none p36 fun (k205 k206 : Nat) => ∀ (w207 : World) (R208 : List Own), Ctx W w207 (R200 ++
  R208) Φ201 → ∃ (n209 : Int), w207.cell? (Addr.mk k205 (k206 + n180.toNat) none) = some (Value.int IntKind.i64 n209) ∧ (0 ≤ n209 ∧ n209 < (↑k25 : Int)) ∧ ptrK none p24 fun (k210 k211 : Nat)
  => ∀ (w212 : World) (R213 : List Own), Ctx W w212 (R200 ++ R213) Φ201 → ∃ (n214 : Int), w212.cell? (Addr.mk k210 (k211 + n209.toNat * 4 + 1) none) = some (Value.int IntKind.i64 n214) ∧ ∀
  (w215 : World) (R216 : List Own), Ctx W w215 (R200 ++ R216) Φ201 → CanWrite w215 k170 (k171 + 1) 1 ∧ ∀ (w217 : World), w217 = w215.setCell (Addr.mk k170 (k171 + 1) none) (Value.int
  IntKind.i64 (max n204 n214)) → ∃ (R218 : List Own), ∃ (Φ219 : PW), Stable Φ219 ∧ Ctx W w217 (R218 ++ R216) Φ219 ∧ I64 (n180 + 1) ∧ ∃ (R220 : List Own), ∃ (Φ221 : PW), ∃ (k222 : Nat), Stable
  Φ221 ∧ (∀ (w223 : World) (R224 : List Own), Ctx W w223 (R218 ++ R224) Φ219 → Ctx W w223 (R220 ++ R224) Φ221) ∧ I174 (n180 + 1) R220 Φ221 k222 ∧ k222 < k183) (∀ (w225 : World) (R226 : List
  Own), Ctx W w225 (R181 ++ R226) I182 → ∃ (n227 : Int), w225.cell? (Addr.mk k170 k171 none) = some (Value.int IntKind.i64 n227) ∧ I64 (n227 + n78) ∧ ∀ (w228 : World) (R229 : List Own), Ctx W
  w228 (R181 ++ R229) I182 → CanWrite w228 k170 k171 1 ∧ ∀ (w230 : World), w230 = w228.setCell (Addr.mk k170 k171 none) (Value.int IntKind.i64 (n227 + n78)) → ∃ (R231 : List Own), ∃ (Φ232 :
  PW), Stable Φ232 ∧ Ctx W w230 (R231 ++ R229) Φ232 ∧ ∀ (w233 : World) (R234 : List Own), Ctx W w233 (R231 ++ R234) Φ232 → ∃ (n235 : Int), w233.cell? (Addr.mk k170 (k171 + 1) none) = some
  (Value.int IntKind.i64 n235) ∧ I64 (n235 + n79) ∧ ∀ (w236 : World) (R237 : List Own), Ctx W w236 (R231 ++ R237) Φ232 → CanWrite w236 k170 (k171 + 1) 1 ∧ ∀ (w238 : World), w238 =
  w236.setCell (Addr.mk k170 (k171 + 1) none) (Value.int IntKind.i64 (n235 + n79)) → ∃ (R239 : List Own), ∃ (Φ240 : PW), Stable Φ240 ∧ Ctx W w238 (R239 ++ R237) Φ240 ∧ ∀ (w241 : World) (R242
  : List Own), Ctx W w241 (R239 ++ R242) Φ240 → ∃ (n243 : Int), w241.cell? (Addr.mk k170 (k171 + 2) none) = some (Value.int IntKind.i64 n243) ∧ ∃ (n244 : Int), ((!decide (1099511627776 ≤
  n243)) = true → w241.cell? (Addr.mk k170 (k171 + 3) none) = some (Value.int IntKind.i64 n244)) ∧ Br (decide (1099511627776 ≤ n243) || decide (1099511627776 ≤ n244)) (∀ (w245 : World) (R246
  : List Own), Ctx W w245 (R239 ++ R246) Φ240 → J (Value.tuple #[Value.slice none 0 0, Value.int IntKind.i64 n27, Value.int IntKind.i64 14]) w245) (∀ (w247 : World) (R248 : List Own), Ctx W
  w247 (R239 ++ R248) Φ240 → ∃ (n249 : Int), ∃ (n250 : Int), ∃ (n251 : Int), ∃ (n252 : Int), RowAt w247 k170 k171 [Value.int IntKind.i64 n249, Value.int IntKind.i64 n250, Value.int
  IntKind.i64 n251, Value.int IntKind.i64 n252] ∧ ∀ (k253 : Nat) (w254 : World) (R255 : List Own), Ctx W w254 (Own.blk k253 [Value.int IntKind.i64 n249, Value.int IntKind.i64 n250, Value.int
  IntKind.i64 n251, Value.int IntKind.i64 n252] 37 :: R239 ++ R255) Φ240 → ∃ (p256 : Option Addr), ∃ (k257 : Nat), ∃ (k258 : Nat), ∃ (w259 : World), Sem.run Try.prog (builtin Builtin.append
  #[30, 30] 30 #[false, false] #[Value.slice p24 k25 k26, Value.slice (some (Addr.mk k253 0 none)) 1 1]) w254 = Result.ok (Next.value (Value.slice p256 k257 k258)) w259 ∧ ∃ (R260 : List Own),
  ∃ (Φ261 : PW), Stable Φ261 ∧ Ctx W w259 (R260 ++ R255) Φ261 ∧ I64 (n27 + 1) ∧ ∃ (R262 : List Own), ∃ (Φ263 : PW), ∃ (k264 : Nat), Stable Φ263 ∧ (∀ (w265 : World) (R266 : List Own), Ctx W
  w265 (R260 ++ R266) Φ261 → Ctx W w265 (R262 ++ R266) Φ263) ∧ I18 p256 k257 k258 (n27 + 1) R262 Φ263 k264 ∧ k264 < k30)))) (∀ (w267 : World) (R268 : List Own), Ctx W w267 (R28 ++ R268) I29 →
  J (Value.tuple #[Value.slice p24 k25 k26, Value.int IntKind.i64 (-1), Value.int IntKind.i64 0]) w267)))

theorem Berrataref20_Analyze_run (p0P : Option Addr) (p0N p0C : Nat) (p1P : Option Addr) (p1N p1C : Nat) (c0 : Int) (c1 : Int) (c2 : Int) (c3 : Int) (c4 : Int) (c5 : Int) {W w : World} {R : List Own} {Φ : PW} [Stable Φ] {J : Value → World → Prop} (c : Ctx W w R Φ) (h : Berrataref20_Analyze p0P p0N p0C p1P p1N p1C c0 c1 c2 c3 c4 c5 W R Φ J) : Calls Try.prog F.errataref20_Analyze #[.agg #[.slice p0P p0N p0C, .slice p1P p1N p1C], .agg #[.int .i64 c0, .int .i64 c1, .int .i64 c2, .int .i64 c3, .int .i64 c4, .int .i64 c5]] w fun e w' => ∃ v, e = .returned v ∧ J v w' :=
  vcFS_sound (H := { keep := some [2, 3, 4, 5, 6, 7, 8, 9, 10, 11, 12, 13, 21, 26, 36, 56, 102], track := [2, 3, 9], stages := [(11, [.tree (.rd 0 (.rd 1 (.rd 2 (.rd 4 (.rd 5 (.rd 6 (.alt 3 (.alt 7 (.rd 8 (.alt 9 (.alt 10 (.done) (.no)) (.no))) (.alt 9 (.alt 7 (.rd 8 (.alt 10 (.done) (.no))) (.no)) (.no))) (.alt 9 (.alt 3 (.alt 7 (.rd 8 (.alt 10 (.done) (.no))) (.no)) (.no)) (.no))))))))) 11]), (15, [.stage [0, 2, 3, 5, 1, 4, 6, 7, 8, 9, 10, 11, 12] (some 13)]), (16, [.stage [0, 2, 3, 5, 1, 4, 6, 7, 8, 9, 10, 11, 12] (some 13)])], split := [1], loops := [(13, [(13, .one (.int .i64))], []), (5, [(7, .one (.slice)), (8, .one (.int .i64))], [])], cuts := [(12, [(12, .one .adr)], [])] }) (by rw [show vcFS Try.prog W { keep := some [2, 3, 4, 5, 6, 7, 8, 9, 10, 11, 12, 13, 21, 26, 36, 56, 102], track := [2, 3, 9], stages := [(11, [.tree (.rd 0 (.rd 1 (.rd 2 (.rd 4 (.rd 5 (.rd 6 (.alt 3 (.alt 7 (.rd 8 (.alt 9 (.alt 10 (.done) (.no)) (.no))) (.alt 9 (.alt 7 (.rd 8 (.alt 10 (.done) (.no))) (.no)) (.no))) (.alt 9 (.alt 3 (.alt 7 (.rd 8 (.alt 10 (.done) (.no))) (.no)) (.no)) (.no))))))))) 11]), (15, [.stage [0, 2, 3, 5, 1, 4, 6, 7, 8, 9, 10, 11, 12] (some 13)]), (16, [.stage [0, 2, 3, 5, 1, 4, 6, 7, 8, 9, 10, 11, 12] (some 13)])], split := [1], loops := [(13, [(13, .one (.int .i64))], []), (5, [(7, .one (.slice)), (8, .one (.int .i64))], [])], cuts := [(12, [(12, .one .adr)], [])] } F.errataref20_Analyze #[.agg #[.slice p0P p0N p0C, .slice p1P p1N p1C], .agg #[.int .i64 c0, .int .i64 c1, .int .i64 c2, .int .i64 c3, .int .i64 c4, .int .i64 c5]] R Φ J = Berrataref20_Analyze p0P p0N p0C p1P p1N p1C c0 c1 c2 c3 c4 c5 W R Φ J by kernel_rfl]; exact h) c

/-- bounds.Total -/
-- loop at region 6: 9 sum, 26 ; blocks 
-- known blocks: 2 p, 3 c, 4 , 11 b, 12 b
def Bbounds_Total (p0P : Option Addr) (p0N p0C : Nat) (p1P : Option Addr) (p1N p1C : Nat) (c0 : Int) (c1 : Int) (c2 : Int) (c3 : Int) (c4 : Int) (c5 : Int) (W : World) (R : List Own) (Φ : PW) (J : Value → World → Prop) : Prop :=
  ∀ (b b b : Nat) (w0 : World) (R1 : List Own), Ctx W w0 (R ++ R1) Φ → Calls Try.prog F.bounds_Analyze #[Value.agg #[Value.slice p0P p0N p0C, Value.slice p1P p1N p1C], Value.agg #[Value.int
  IntKind.i64 c0, Value.int IntKind.i64 c1, Value.int IntKind.i64 c2, Value.int IntKind.i64 c3, Value.int IntKind.i64 c4, Value.int IntKind.i64 c5]] w0 fun (e2 : Ending) (w3 : World) => ∃ (p4
  : Option Addr), ∃ (k5 : Nat), ∃ (k6 : Nat), ∃ (n7 : Int), ∃ (n8 : Int), e2 = Ending.returned (Value.tuple #[Value.slice p4 k5 k6, Value.int IntKind.i64 n7, Value.int IntKind.i64 n8]) ∧ ∃
  (R9 : List Own), ∃ (Φ10 : PW), Stable Φ10 ∧ Ctx W w3 (R9 ++ R1) Φ10 ∧ Br (decide (n8 ≠ 0)) (∀ (w11 : World) (R12 : List Own), Ctx W w11 (R9 ++ R12) Φ10 → J (Value.tuple #[Value.agg
  #[Value.int IntKind.i64 0, Value.int IntKind.i64 0, Value.int IntKind.i64 0, Value.int IntKind.i64 0], Value.int IntKind.i64 n8]) w11) (exI fun (I13 : Int → Int → List Own → PW → Nat →
  Prop) => (∃ (R14 : List Own), ∃ (Φ15 : PW), ∃ (k16 : Nat), Stable Φ15 ∧ (∀ (w17 : World) (R18 : List Own), Ctx W w17 (R9 ++ R18) Φ10 → Ctx W w17 (R14 ++ R18) Φ15) ∧ I13 0 0 R14 Φ15 k16) ∧ ∀
  (n19 n20 : Int) (R21 : List Own) (I22 : List Nat → World → Prop) (k23 : Nat), Stable I22 → I13 n19 n20 R21 I22 k23 → Br (decide (n20 < (↑k5 : Int))) ((0 ≤ n20 ∧ n20 < (↑k5 : Int)) ∧ ptrK
  none p4 fun (k24 k25 : Nat) => ∀ (w26 : World) (R27 : List Own), Ctx W w26 (R21 ++ R27) I22 → ∃ (n28 : Int), ∃ (n29 : Int), ∃ (n30 : Int), ∃ (n31 : Int), RowAt w26 k24 (k25 + n20.toNat * 4)
  [Value.int IntKind.i64 n28, Value.int IntKind.i64 n29, Value.int IntKind.i64 n30, Value.int IntKind.i64 n31] ∧ ∀ (b : Nat) (w32 : World) (R33 : List Own), Ctx W w32 (R21 ++ R33) I22 → Calls
  Try.prog F.bounds_plus #[Value.int IntKind.i64 n19, Value.int IntKind.i64 n31] w32 fun (e34 : Ending) (w35 : World) => ∃ (n36 : Int), e34 = Ending.returned (Value.int IntKind.i64 n36) ∧ ∃
  (R37 : List Own), ∃ (Φ38 : PW), Stable Φ38 ∧ Ctx W w35 (R37 ++ R33) Φ38 ∧ I64 (n20 + 1) ∧ ∃ (R39 : List Own), ∃ (Φ40 : PW), ∃ (k41 : Nat), Stable Φ40 ∧ (∀ (w42 : World) (R43 : List Own),
  Ctx W w42 (R37 ++ R43) Φ38 → Ctx W w42 (R39 ++ R43) Φ40) ∧ I13 n36 (n20 + 1) R39 Φ40 k41 ∧ k41 < k23) (I64 ((↑k5 : Int) - 1) ∧ (0 ≤ (↑k5 : Int) - 1 ∧ (↑k5 : Int) - 1 < (↑k5 : Int)) ∧ ptrK
  none p4 fun (k44 k45 : Nat) => ∀ (w46 : World) (R47 : List Own), Ctx W w46 (R21 ++ R47) I22 → ∃ (n48 : Int), ∃ (n49 : Int), ∃ (n50 : Int), ∃ (n51 : Int), RowAt w46 k44 (k45 + ((↑k5 : Int) -
  1).toNat * 4) [Value.int IntKind.i64 n48, Value.int IntKind.i64 n49, Value.int IntKind.i64 n50, Value.int IntKind.i64 n51] ∧ ∀ (b : Nat) (w52 : World) (R53 : List Own), Ctx W w52 (R21 ++
  R53) I22 → J (Value.tuple #[Value.agg #[Value.int IntKind.i64 n48, Value.int IntKind.i64 n49, Value.int IntKind.i64 n50, Value.int IntKind.i64 n19], Value.int IntKind.i64 0]) w52))

theorem Bbounds_Total_run (p0P : Option Addr) (p0N p0C : Nat) (p1P : Option Addr) (p1N p1C : Nat) (c0 : Int) (c1 : Int) (c2 : Int) (c3 : Int) (c4 : Int) (c5 : Int) {W w : World} {R : List Own} {Φ : PW} [Stable Φ] {J : Value → World → Prop} (c : Ctx W w R Φ) (h : Bbounds_Total p0P p0N p0C p1P p1N p1C c0 c1 c2 c3 c4 c5 W R Φ J) : Calls Try.prog F.bounds_Total #[.agg #[.slice p0P p0N p0C, .slice p1P p1N p1C], .agg #[.int .i64 c0, .int .i64 c1, .int .i64 c2, .int .i64 c3, .int .i64 c4, .int .i64 c5]] w fun e w' => ∃ v, e = .returned v ∧ J v w' :=
  vcFS_sound (H := { keep := some [2, 3, 4, 5, 6, 8, 9, 11, 12, 21, 24, 25, 26, 27], track := [2, 3, 4, 11, 12], loops := [(6, [(9, .one (.int .i64)), (26, .one (.int .i64))], [])] }) (by rw [show vcFS Try.prog W { keep := some [2, 3, 4, 5, 6, 8, 9, 11, 12, 21, 24, 25, 26, 27], track := [2, 3, 4, 11, 12], loops := [(6, [(9, .one (.int .i64)), (26, .one (.int .i64))], [])] } F.bounds_Total #[.agg #[.slice p0P p0N p0C, .slice p1P p1N p1C], .agg #[.int .i64 c0, .int .i64 c1, .int .i64 c2, .int .i64 c3, .int .i64 c4, .int .i64 c5]] R Φ J = Bbounds_Total p0P p0N p0C p1P p1N p1C c0 c1 c2 c3 c4 c5 W R Φ J by kernel_rfl]; exact h) c

/-- errataref20.Total -/
-- loop at region 7: 10 i; blocks 9 b
-- known blocks: 2 p, 3 c, 4 , 9 b
def Berrataref20_Total (p0P : Option Addr) (p0N p0C : Nat) (p1P : Option Addr) (p1N p1C : Nat) (c0 : Int) (c1 : Int) (c2 : Int) (c3 : Int) (c4 : Int) (c5 : Int) (W : World) (R : List Own) (Φ : PW) (J : Value → World → Prop) : Prop :=
  ∀ (b b b : Nat) (w0 : World) (R1 : List Own), Ctx W w0 (R ++ R1) Φ → Calls Try.prog F.errataref20_Analyze #[Value.agg #[Value.slice p0P p0N p0C, Value.slice p1P p1N p1C], Value.agg
  #[Value.int IntKind.i64 c0, Value.int IntKind.i64 c1, Value.int IntKind.i64 c2, Value.int IntKind.i64 c3, Value.int IntKind.i64 c4, Value.int IntKind.i64 c5]] w0 fun (e2 : Ending) (w3 :
  World) => ∃ (p4 : Option Addr), ∃ (k5 : Nat), ∃ (k6 : Nat), ∃ (n7 : Int), ∃ (n8 : Int), e2 = Ending.returned (Value.tuple #[Value.slice p4 k5 k6, Value.int IntKind.i64 n7, Value.int
  IntKind.i64 n8]) ∧ ∃ (R9 : List Own), ∃ (Φ10 : PW), Stable Φ10 ∧ Ctx W w3 (R9 ++ R1) Φ10 ∧ ∀ (w11 : World) (R12 : List Own), Ctx W w11 (R9 ++ R12) Φ10 → Br (decide (n8 ≠ 0) || decide ((↑k5
  : Int) = 0)) (∀ (w13 : World) (R14 : List Own), Ctx W w13 (R9 ++ R14) Φ10 → J (Value.tuple #[Value.agg #[Value.int IntKind.i64 0, Value.int IntKind.i64 0, Value.int IntKind.i64 0, Value.int
  IntKind.i64 0], Value.int IntKind.i64 n8]) w13) (I64 ((↑k5 : Int) - 1) ∧ (0 ≤ (↑k5 : Int) - 1 ∧ (↑k5 : Int) - 1 < (↑k5 : Int)) ∧ ptrK none p4 fun (k15 k16 : Nat) => ∀ (w17 : World) (R18 :
  List Own), Ctx W w17 (R9 ++ R18) Φ10 → ∃ (n19 : Int), ∃ (n20 : Int), ∃ (n21 : Int), ∃ (n22 : Int), RowAt w17 k15 (k16 + ((↑k5 : Int) - 1).toNat * 4) [Value.int IntKind.i64 n19, Value.int
  IntKind.i64 n20, Value.int IntKind.i64 n21, Value.int IntKind.i64 n22] ∧ ∀ (b : Nat), exI fun (I23 : Int → Int → Int → Int → Int → List Own → PW → Nat → Prop) => (∃ (R24 : List Own), ∃ (Φ25
  : PW), ∃ (k26 : Nat), Stable Φ25 ∧ (∀ (w27 : World) (R28 : List Own), Ctx W w27 (R9 ++ R28) Φ10 → Ctx W w27 (R24 ++ R28) Φ25) ∧ I23 0 n19 n20 n21 0 R24 Φ25 k26) ∧ ∀ (n29 n30 n31 n32 n33 :
  Int) (R34 : List Own) (I35 : List Nat → World → Prop) (k36 : Nat), Stable I35 → I23 n29 n30 n31 n32 n33 R34 I35 k36 → Br (decide (n29 < (↑k5 : Int))) ((0 ≤ n29 ∧ n29 < (↑k5 : Int)) ∧ ptrK
  none p4 fun (k37 k38 : Nat) => ∀ (w39 : World) (R40 : List Own), Ctx W w39 (R34 ++ R40) I35 → ∃ (n41 : Int), w39.cell? (Addr.mk k37 (k38 + n29.toNat * 4 + 3) none) = some (Value.int
  IntKind.i64 n41) ∧ I64 (n33 + n41) ∧ I64 (n29 + 1) ∧ ∃ (R42 : List Own), ∃ (Φ43 : PW), ∃ (k44 : Nat), Stable Φ43 ∧ (∀ (w45 : World) (R46 : List Own), Ctx W w45 (R34 ++ R46) I35 → Ctx W w45
  (R42 ++ R46) Φ43) ∧ I23 (n29 + 1) n30 n31 n32 (min (n33 + n41) 1099511627776) R42 Φ43 k44 ∧ k44 < k36) (∀ (w47 : World) (R48 : List Own), Ctx W w47 (R34 ++ R48) I35 → J (Value.tuple
  #[Value.agg #[Value.int IntKind.i64 n30, Value.int IntKind.i64 n31, Value.int IntKind.i64 n32, Value.int IntKind.i64 n33], Value.int IntKind.i64 0]) w47))

theorem Berrataref20_Total_run (p0P : Option Addr) (p0N p0C : Nat) (p1P : Option Addr) (p1N p1C : Nat) (c0 : Int) (c1 : Int) (c2 : Int) (c3 : Int) (c4 : Int) (c5 : Int) {W w : World} {R : List Own} {Φ : PW} [Stable Φ] {J : Value → World → Prop} (c : Ctx W w R Φ) (h : Berrataref20_Total p0P p0N p0C p1P p1N p1C c0 c1 c2 c3 c4 c5 W R Φ J) : Calls Try.prog F.errataref20_Total #[.agg #[.slice p0P p0N p0C, .slice p1P p1N p1C], .agg #[.int .i64 c0, .int .i64 c1, .int .i64 c2, .int .i64 c3, .int .i64 c4, .int .i64 c5]] w fun e w' => ∃ v, e = .returned v ∧ J v w' :=
  vcFS_sound (H := { keep := some [2, 3, 4, 5, 6, 8, 9, 10, 24, 37], track := [2, 3, 4, 9], stages := [(9, [.stage [0, 2, 3, 1, 4, 5, 6, 7, 8, 9] (some 10)])], loops := [(7, [(10, .one (.int .i64))], [(9, .agg [.int .i64, .int .i64, .int .i64, .int .i64])])] }) (by rw [show vcFS Try.prog W { keep := some [2, 3, 4, 5, 6, 8, 9, 10, 24, 37], track := [2, 3, 4, 9], stages := [(9, [.stage [0, 2, 3, 1, 4, 5, 6, 7, 8, 9] (some 10)])], loops := [(7, [(10, .one (.int .i64))], [(9, .agg [.int .i64, .int .i64, .int .i64, .int .i64])])] } F.errataref20_Total #[.agg #[.slice p0P p0N p0C, .slice p1P p1N p1C], .agg #[.int .i64 c0, .int .i64 c1, .int .i64 c2, .int .i64 c3, .int .i64 c4, .int .i64 c5]] R Φ J = Berrataref20_Total p0P p0N p0C p1P p1N p1C c0 c1 c2 c3 c4 c5 W R Φ J by kernel_rfl]; exact h) c

/-- errataref20.Own -/
-- known blocks: 1 n
def Berrataref20_Own (n0 : Int) (n1P : Option Addr) (n1N n1C : Nat) (n2 : ByteArray) (n3 : Int) (n4P : Option Addr) (n4N n4C : Nat) (n5 : Int) (n6 : Int) (n7 : Int) (n8P : Option Addr) (n8N n8C : Nat) (n9P : Option Addr) (n9N n9C : Nat) (n10 : Int) (n11 : Int) (n12 : Int) (n13P : Option Addr) (n13N n13C : Nat) (n14P : Option Addr) (n14N n14C : Nat) (n15P : Option Addr) (n15N n15C : Nat) (W : World) (R : List Own) (Φ : PW) (J : Value → World → Prop) : Prop :=
  ∀ (b : Nat) (w0 : World) (R1 : List Own), Ctx W w0 (R ++ R1) Φ → Calls Try.prog F.errataref20_Bounded #[Value.agg #[Value.int IntKind.i64 n0, Value.slice n1P n1N n1C, Value.string n2,
  Value.int IntKind.i64 n3, Value.slice n4P n4N n4C, Value.int IntKind.i64 n5, Value.int IntKind.i64 n6, Value.int IntKind.i64 n7, Value.slice n8P n8N n8C, Value.slice n9P n9N n9C, Value.int
  IntKind.i64 n10, Value.int IntKind.i64 n11, Value.int IntKind.i64 n12, Value.slice n13P n13N n13C, Value.slice n14P n14N n14C, Value.slice n15P n15N n15C]] w0 fun (e2 : Ending) (w3 : World)
  => ∃ (c4 : Bool), e2 = Ending.returned (Value.bool c4) ∧ ∃ (R5 : List Own), ∃ (Φ6 : PW), Stable Φ6 ∧ Ctx W w3 (R5 ++ R1) Φ6 ∧ Br (!c4) (∀ (w7 : World) (R8 : List Own), Ctx W w7 (R5 ++ R8)
  Φ6 → J (Value.tuple #[Value.int IntKind.i64 0, Value.int IntKind.i64 0]) w7) (Br (decide (n0 = 4)) (Br (decide (n5 = 2)) (∀ (w9 : World) (R10 : List Own), Ctx W w9 (R5 ++ R10) Φ6 → I64 (n6
  - 1) ∧ I64 (n7 - 1) ∧ ∀ (w11 : World) (R12 : List Own), Ctx W w11 (R5 ++ R12) Φ6 → J (Value.tuple #[Value.int IntKind.i64 (n6 - 1), Value.int IntKind.i64 (n7 - 1)]) w11) (∀ (w13 : World)
  (R14 : List Own), Ctx W w13 (R5 ++ R14) Φ6 → I64 (n6 - 1) ∧ I64 (n6 - 1) ∧ ∀ (w15 : World) (R16 : List Own), Ctx W w15 (R5 ++ R16) Φ6 → J (Value.tuple #[Value.int IntKind.i64 (n6 - 1),
  Value.int IntKind.i64 (n6 - 1)]) w15)) (Br (decide (n0 = 5)) (∀ (w17 : World) (R18 : List Own), Ctx W w17 (R5 ++ R18) Φ6 → I64 (n6 - 1) ∧ I64 (n6 - 1) ∧ ∀ (w19 : World) (R20 : List Own),
  Ctx W w19 (R5 ++ R20) Φ6 → J (Value.tuple #[Value.int IntKind.i64 (n6 - 1), Value.int IntKind.i64 (n6 - 1)]) w19) (Br (decide (n0 = 6)) (∀ (w21 : World) (R22 : List Own), Ctx W w21 (R5 ++
  R22) Φ6 → J (Value.tuple #[Value.int IntKind.i64 (max n10 n11), Value.int IntKind.i64 0]) w21) (Br (decide (n0 = 7)) (I64 (n12 - 1) ∧ ∀ (w23 : World) (R24 : List Own), Ctx W w23 (R5 ++ R24)
  Φ6 → J (Value.tuple #[Value.int IntKind.i64 (n12 - 1), Value.int IntKind.i64 0]) w23) (Br (decide (n0 = 8)) (I64 (n6 - 1) ∧ ∀ (w25 : World) (R26 : List Own), Ctx W w25 (R5 ++ R26) Φ6 → J
  (Value.tuple #[Value.int IntKind.i64 (n6 - 1), Value.int IntKind.i64 0]) w25) (∀ (w27 : World) (R28 : List Own), Ctx W w27 (R5 ++ R28) Φ6 → J (Value.tuple #[Value.int IntKind.i64 0,
  Value.int IntKind.i64 0]) w27))))))

theorem Berrataref20_Own_run (n0 : Int) (n1P : Option Addr) (n1N n1C : Nat) (n2 : ByteArray) (n3 : Int) (n4P : Option Addr) (n4N n4C : Nat) (n5 : Int) (n6 : Int) (n7 : Int) (n8P : Option Addr) (n8N n8C : Nat) (n9P : Option Addr) (n9N n9C : Nat) (n10 : Int) (n11 : Int) (n12 : Int) (n13P : Option Addr) (n13N n13C : Nat) (n14P : Option Addr) (n14N n14C : Nat) (n15P : Option Addr) (n15N n15C : Nat) {W w : World} {R : List Own} {Φ : PW} [Stable Φ] {J : Value → World → Prop} (c : Ctx W w R Φ) (h : Berrataref20_Own n0 n1P n1N n1C n2 n3 n4P n4N n4C n5 n6 n7 n8P n8N n8C n9P n9N n9C n10 n11 n12 n13P n13N n13C n14P n14N n14C n15P n15N n15C W R Φ J) : Calls Try.prog F.errataref20_Own #[.agg #[.int .i64 n0, .slice n1P n1N n1C, .string n2, .int .i64 n3, .slice n4P n4N n4C, .int .i64 n5, .int .i64 n6, .int .i64 n7, .slice n8P n8N n8C, .slice n9P n9N n9C, .int .i64 n10, .int .i64 n11, .int .i64 n12, .slice n13P n13N n13C, .slice n14P n14N n14C, .slice n15P n15N n15C]] w fun e w' => ∃ v, e = .returned v ∧ J v w' :=
  vcFS_sound (H := { keep := some [1, 2, 3, 6, 8, 9, 13, 26, 34, 41, 46], track := [1] }) (by rw [show vcFS Try.prog W { keep := some [1, 2, 3, 6, 8, 9, 13, 26, 34, 41, 46], track := [1] } F.errataref20_Own #[.agg #[.int .i64 n0, .slice n1P n1N n1C, .string n2, .int .i64 n3, .slice n4P n4N n4C, .int .i64 n5, .int .i64 n6, .int .i64 n7, .slice n8P n8N n8C, .slice n9P n9N n9C, .int .i64 n10, .int .i64 n11, .int .i64 n12, .slice n13P n13N n13C, .slice n14P n14N n14C, .slice n15P n15N n15C]] R Φ J = Berrataref20_Own n0 n1P n1N n1C n2 n3 n4P n4N n4C n5 n6 n7 n8P n8N n8C n9P n9N n9C n10 n11 n12 n13P n13N n13C n14P n14N n14C n15P n15N n15C W R Φ J by kernel_rfl]; exact h) c

/-- errataref20.RightConfig -/
-- known blocks: 1 c
def Berrataref20_RightConfig (c0 : Int) (c1 : Int) (c2 : Int) (c3 : Int) (c4 : Int) (c5 : Int) (W : World) (R : List Own) (Φ : PW) (J : Value → World → Prop) : Prop :=
  ∀ (b : Nat) (w0 : World) (R1 : List Own), Ctx W w0 (R ++ R1) Φ → ∀ (w2 : World) (R3 : List Own), Ctx W w2 (R ++ R3) Φ → J (Value.bool (decide (1 ≤ c0) && decide (c0 ≤ 8) && decide (0 ≤ c1)
  && decide (c1 ≤ c2) && decide (c2 ≤ 10000) && decide (0 ≤ c3) && decide (c3 ≤ 10000) && decide (1 ≤ c4) && decide (c4 ≤ 20) && decide (c2 < c5) && decide (c5 ≤ 30000))) w2

theorem Berrataref20_RightConfig_run (c0 : Int) (c1 : Int) (c2 : Int) (c3 : Int) (c4 : Int) (c5 : Int) {W w : World} {R : List Own} {Φ : PW} [Stable Φ] {J : Value → World → Prop} (c : Ctx W w R Φ) (h : Berrataref20_RightConfig c0 c1 c2 c3 c4 c5 W R Φ J) : Calls Try.prog F.errataref20_RightConfig #[.agg #[.int .i64 c0, .int .i64 c1, .int .i64 c2, .int .i64 c3, .int .i64 c4, .int .i64 c5]] w fun e w' => ∃ v, e = .returned v ∧ J v w' :=
  vcFS_sound (H := { keep := some [1, 2], track := [1] }) (by rw [show vcFS Try.prog W { keep := some [1, 2], track := [1] } F.errataref20_RightConfig #[.agg #[.int .i64 c0, .int .i64 c1, .int .i64 c2, .int .i64 c3, .int .i64 c4, .int .i64 c5]] R Φ J = Berrataref20_RightConfig c0 c1 c2 c3 c4 c5 W R Φ J by kernel_rfl]; exact h) c

/-- errataref20.Well -/
-- loop at region 10: 5 k; blocks 
-- loop at region 4: 3 i; blocks 
-- known blocks: 1 p, 4 n
def Berrataref20_Well (p0P : Option Addr) (p0N p0C : Nat) (p1P : Option Addr) (p1N p1C : Nat) (W : World) (R : List Own) (Φ : PW) (J : Value → World → Prop) : Prop :=
  ∀ (b : Nat) (w0 : World) (R1 : List Own), Ctx W w0 (R ++ R1) Φ → Br (decide ((↑p1N : Int) < 1) || decide (40 < (↑p1N : Int))) (∀ (w2 : World) (R3 : List Own), Ctx W w2 (R ++ R3) Φ → J
  (Value.bool false) w2) (exI fun (I4 : Int → List Own → PW → Nat → Prop) => (∃ (R5 : List Own), ∃ (Φ6 : PW), ∃ (k7 : Nat), Stable Φ6 ∧ (∀ (w8 : World) (R9 : List Own), Ctx W w8 (R ++ R9) Φ →
  Ctx W w8 (R5 ++ R9) Φ6) ∧ I4 0 R5 Φ6 k7) ∧ ∀ (n10 : Int) (R11 : List Own) (I12 : List Nat → World → Prop) (k13 : Nat), Stable I12 → I4 n10 R11 I12 k13 → Br (decide (n10 < (↑p1N : Int))) ((0
  ≤ n10 ∧ n10 < (↑p1N : Int)) ∧ ptrK none p1P fun (k14 k15 : Nat) => ∀ (w16 : World) (R17 : List Own), Ctx W w16 (R11 ++ R17) I12 → ∃ (n18 : Int), ∃ (p19 : Option Addr), ∃ (k20 : Nat), ∃ (k21
  : Nat), ∃ (s22 : ByteArray), ∃ (n23 : Int), ∃ (p24 : Option Addr), ∃ (k25 : Nat), ∃ (k26 : Nat), ∃ (n27 : Int), ∃ (n28 : Int), ∃ (n29 : Int), ∃ (p30 : Option Addr), ∃ (k31 : Nat), ∃ (k32 :
  Nat), ∃ (p33 : Option Addr), ∃ (k34 : Nat), ∃ (k35 : Nat), ∃ (n36 : Int), ∃ (n37 : Int), ∃ (n38 : Int), ∃ (p39 : Option Addr), ∃ (k40 : Nat), ∃ (k41 : Nat), ∃ (p42 : Option Addr), ∃ (k43 :
  Nat), ∃ (k44 : Nat), ∃ (p45 : Option Addr), ∃ (k46 : Nat), ∃ (k47 : Nat), RowAt w16 k14 (k15 + n10.toNat * 16) [Value.int IntKind.i64 n18, Value.slice p19 k20 k21, Value.string s22,
  Value.int IntKind.i64 n23, Value.slice p24 k25 k26, Value.int IntKind.i64 n27, Value.int IntKind.i64 n28, Value.int IntKind.i64 n29, Value.slice p30 k31 k32, Value.slice p33 k34 k35,
  Value.int IntKind.i64 n36, Value.int IntKind.i64 n37, Value.int IntKind.i64 n38, Value.slice p39 k40 k41, Value.slice p42 k43 k44, Value.slice p45 k46 k47] ∧ ∀ (b : Nat) (w48 : World) (R49
  : List Own), Ctx W w48 (R11 ++ R49) I12 → ∃ (n50 : Int), ((!(decide (n18 < 0) || decide (9 ≤ n18))) = true → ∀ (w51 : World), (∃ (k52 : Nat), w51 = w48.drewN k52) → Calls Try.prog
  F.errataref20_inputs #[Value.int IntKind.i64 n18] w51 fun (e53 : Ending) (w54 : World) => e53 = Ending.returned (Value.int IntKind.i64 n50) ∧ ∃ (k55 : Nat), w54 = w48.drewN k55) ∧ Br
  (decide (n18 < 0) || decide (9 ≤ n18) || decide ((↑k20 : Int) ≠ n50)) (∀ (w56 : World) (R57 : List Own), Ctx W w56 (R11 ++ R57) I12 → J (Value.bool false) w56) (exI fun (I58 : Int → List
  Own → PW → Nat → Prop) => (∃ (R59 : List Own), ∃ (Φ60 : PW), ∃ (k61 : Nat), Stable Φ60 ∧ (∀ (w62 : World) (R63 : List Own), Ctx W w62 (R11 ++ R63) I12 → Ctx W w62 (R59 ++ R63) Φ60) ∧ I58 0
  R59 Φ60 k61) ∧ ∀ (n64 : Int) (R65 : List Own) (I66 : List Nat → World → Prop) (k67 : Nat), Stable I66 → I58 n64 R65 I66 k67 → Br (decide (n64 < (↑k20 : Int))) (∀ (w68 : World) (R69 : List
  Own), Ctx W w68 (R65 ++ R69) I66 → (0 ≤ n64 ∧ n64 < (↑k20 : Int)) ∧ ptrK none p19 fun (k70 k71 : Nat) => ∃ (n72 : Int), w68.cell? (Addr.mk k70 (k71 + n64.toNat) none) = some (Value.int
  IntKind.i64 n72) ∧ ((!decide (n72 < 0)) = true → 0 ≤ n64 ∧ n64 < (↑k20 : Int)) ∧ ptrK (some !decide (n72 < 0)) p19 fun (k73 k74 : Nat) => ∃ (n75 : Int), ((!decide (n72 < 0)) = true →
  w68.cell? (Addr.mk k73 (k74 + n64.toNat) none) = some (Value.int IntKind.i64 n75)) ∧ Br (decide (n72 < 0) || decide (n10 ≤ n75)) (∀ (w76 : World) (R77 : List Own), Ctx W w76 (R65 ++ R77)
  I66 → J (Value.bool false) w76) (I64 (n64 + 1) ∧ ∃ (R78 : List Own), ∃ (Φ79 : PW), ∃ (k80 : Nat), Stable Φ79 ∧ (∀ (w81 : World) (R82 : List Own), Ctx W w81 (R65 ++ R82) I66 → Ctx W w81 (R78
  ++ R82) Φ79) ∧ I58 (n64 + 1) R78 Φ79 k80 ∧ k80 < k67)) (I64 (n10 + 1) ∧ ∃ (R83 : List Own), ∃ (Φ84 : PW), ∃ (k85 : Nat), Stable Φ84 ∧ (∀ (w86 : World) (R87 : List Own), Ctx W w86 (R65 ++
  R87) I66 → Ctx W w86 (R83 ++ R87) Φ84) ∧ I4 (n10 + 1) R83 Φ84 k85 ∧ k85 < k13))) (∀ (w88 : World) (R89 : List Own), Ctx W w88 (R11 ++ R89) I12 → J (Value.bool true) w88))

theorem Berrataref20_Well_run (p0P : Option Addr) (p0N p0C : Nat) (p1P : Option Addr) (p1N p1C : Nat) {W w : World} {R : List Own} {Φ : PW} [Stable Φ] {J : Value → World → Prop} (c : Ctx W w R Φ) (h : Berrataref20_Well p0P p0N p0C p1P p1N p1C W R Φ J) : Calls Try.prog F.errataref20_Well #[.agg #[.slice p0P p0N p0C, .slice p1P p1N p1C]] w fun e w' => ∃ v, e = .returned v ∧ J v w' :=
  vcFS_sound (H := { keep := some [1, 2, 3, 4, 5, 15, 20, 44, 49, 66], track := [1, 4], loops := [(10, [(5, .one (.int .i64))], []), (4, [(3, .one (.int .i64))], [])] }) (by rw [show vcFS Try.prog W { keep := some [1, 2, 3, 4, 5, 15, 20, 44, 49, 66], track := [1, 4], loops := [(10, [(5, .one (.int .i64))], []), (4, [(3, .one (.int .i64))], [])] } F.errataref20_Well #[.agg #[.slice p0P p0N p0C, .slice p1P p1N p1C]] R Φ J = Berrataref20_Well p0P p0N p0C p1P p1N p1C W R Φ J by kernel_rfl]; exact h) c

/-- errataref20.Bounded -/
-- known blocks: 1 n
def Berrataref20_Bounded (n0 : Int) (n1P : Option Addr) (n1N n1C : Nat) (n2 : ByteArray) (n3 : Int) (n4P : Option Addr) (n4N n4C : Nat) (n5 : Int) (n6 : Int) (n7 : Int) (n8P : Option Addr) (n8N n8C : Nat) (n9P : Option Addr) (n9N n9C : Nat) (n10 : Int) (n11 : Int) (n12 : Int) (n13P : Option Addr) (n13N n13C : Nat) (n14P : Option Addr) (n14N n14C : Nat) (n15P : Option Addr) (n15N n15C : Nat) (W : World) (R : List Own) (Φ : PW) (J : Value → World → Prop) : Prop :=
  ∀ (b : Nat), Br (decide (n0 = 4)) (∀ (w0 : World) (R1 : List Own), Ctx W w0 (R ++ R1) Φ → Calls Try.prog F.errataref20_within #[Value.int IntKind.i64 n6, Value.int IntKind.i64 1, Value.int
  IntKind.i64 10000] w0 fun (e2 : Ending) (w3 : World) => ∃ (c4 : Bool), e2 = Ending.returned (Value.bool c4) ∧ ∃ (R5 : List Own), ∃ (Φ6 : PW), Stable Φ6 ∧ Ctx W w3 (R5 ++ R1) Φ6 ∧ Br (!c4)
  (∀ (w7 : World) (R8 : List Own), Ctx W w7 (R5 ++ R8) Φ6 → J (Value.bool false) w7) (Br (decide (n5 = 0)) (∀ (w9 : World) (R10 : List Own), Ctx W w9 (R5 ++ R10) Φ6 → J (Value.bool true) w9)
  (Br (decide (n5 = 1)) (Br (decide (n7 < 1)) (∀ (w11 : World) (R12 : List Own), Ctx W w11 (R5 ++ R12) Φ6 → J (Value.bool false) w11) ((n7 = 0 → False) ∧ ∀ (w13 : World) (R14 : List Own), Ctx
  W w13 (R5 ++ R14) Φ6 → J (Value.bool (decide (n6.tmod n7 = 0))) w13)) (Br (decide (n5 = 2)) (∀ (w15 : World) (R16 : List Own), Ctx W w15 (R5 ++ R16) Φ6 → Calls Try.prog F.errataref20_within
  #[Value.int IntKind.i64 n7, Value.int IntKind.i64 1, Value.int IntKind.i64 n6] w15 fun (e17 : Ending) (w18 : World) => ∃ (c19 : Bool), e17 = Ending.returned (Value.bool c19) ∧ ∃ (R20 : List
  Own), ∃ (Φ21 : PW), Stable Φ21 ∧ Ctx W w18 (R20 ++ R16) Φ21 ∧ ∀ (w22 : World) (R23 : List Own), Ctx W w22 (R20 ++ R23) Φ21 → J (Value.bool c19) w22) (∀ (w24 : World) (R25 : List Own), Ctx W
  w24 (R5 ++ R25) Φ6 → J (Value.bool false) w24))))) (Br (decide (n0 = 5)) (∀ (w26 : World) (R27 : List Own), Ctx W w26 (R ++ R27) Φ → ∃ (c28 : Bool), (∀ (w29 : World), w29 = w26 → Calls
  Try.prog F.errataref20_within #[Value.int IntKind.i64 n6, Value.int IntKind.i64 1, Value.int IntKind.i64 10000] w29 fun (e30 : Ending) (w31 : World) => e30 = Ending.returned (Value.bool
  c28) ∧ w31 = w26) ∧ ∃ (c32 : Bool), (c28 = true → ∀ (w33 : World), w33 = w26 → Calls Try.prog F.errataref20_within #[Value.int IntKind.i64 n12, Value.int IntKind.i64 1, Value.int
  IntKind.i64 100] w33 fun (e34 : Ending) (w35 : World) => e34 = Ending.returned (Value.bool c32) ∧ w35 = w26) ∧ ∀ (w36 : World) (R37 : List Own), Ctx W w36 (R ++ R37) Φ → J (Value.bool (c28
  && c32)) w36) (Br (decide (n0 = 6)) (∀ (w38 : World) (R39 : List Own), Ctx W w38 (R ++ R39) Φ → ∃ (c40 : Bool), (∀ (w41 : World), w41 = w38 → Calls Try.prog F.errataref20_within #[Value.int
  IntKind.i64 n10, Value.int IntKind.i64 0, Value.int IntKind.i64 10000] w41 fun (e42 : Ending) (w43 : World) => e42 = Ending.returned (Value.bool c40) ∧ w43 = w38) ∧ ∃ (c44 : Bool), (c40 =
  true → ∀ (w45 : World), w45 = w38 → Calls Try.prog F.errataref20_within #[Value.int IntKind.i64 n11, Value.int IntKind.i64 0, Value.int IntKind.i64 10000] w45 fun (e46 : Ending) (w47 :
  World) => e46 = Ending.returned (Value.bool c44) ∧ w47 = w38) ∧ ∀ (w48 : World) (R49 : List Own), Ctx W w48 (R ++ R49) Φ → J (Value.bool (c40 && c44)) w48) (Br (decide (n0 = 7)) (∀ (w50 :
  World) (R51 : List Own), Ctx W w50 (R ++ R51) Φ → Calls Try.prog F.errataref20_within #[Value.int IntKind.i64 n12, Value.int IntKind.i64 1, Value.int IntKind.i64 10000] w50 fun (e52 :
  Ending) (w53 : World) => ∃ (c54 : Bool), e52 = Ending.returned (Value.bool c54) ∧ ∃ (R55 : List Own), ∃ (Φ56 : PW), Stable Φ56 ∧ Ctx W w53 (R55 ++ R51) Φ56 ∧ ∀ (w57 : World) (R58 : List
  Own), Ctx W w57 (R55 ++ R58) Φ56 → J (Value.bool c54) w57) (Br (decide (n0 = 8)) (∀ (w59 : World) (R60 : List Own), Ctx W w59 (R ++ R60) Φ → ∃ (c61 : Bool), (∀ (w62 : World), w62 = w59 →
  Calls Try.prog F.errataref20_within #[Value.int IntKind.i64 n6, Value.int IntKind.i64 1, Value.int IntKind.i64 10000] w62 fun (e63 : Ending) (w64 : World) => e63 = Ending.returned
  (Value.bool c61) ∧ w64 = w59) ∧ ∃ (c65 : Bool), (c61 = true → ∀ (w66 : World), w66 = w59 → Calls Try.prog F.errataref20_within #[Value.int IntKind.i64 (↑n14N : Int), Value.int IntKind.i64
  1, Value.int IntKind.i64 8] w66 fun (e67 : Ending) (w68 : World) => e67 = Ending.returned (Value.bool c65) ∧ w68 = w59) ∧ ∀ (w69 : World) (R70 : List Own), Ctx W w69 (R ++ R70) Φ → J
  (Value.bool (c61 && c65)) w69) (∀ (w71 : World) (R72 : List Own), Ctx W w71 (R ++ R72) Φ → Calls Try.prog F.errataref20_within #[Value.int IntKind.i64 n0, Value.int IntKind.i64 0, Value.int
  IntKind.i64 8] w71 fun (e73 : Ending) (w74 : World) => ∃ (c75 : Bool), e73 = Ending.returned (Value.bool c75) ∧ ∃ (R76 : List Own), ∃ (Φ77 : PW), Stable Φ77 ∧ Ctx W w74 (R76 ++ R72) Φ77 ∧ ∀
  (w78 : World) (R79 : List Own), Ctx W w78 (R76 ++ R79) Φ77 → J (Value.bool c75) w78)))))

theorem Berrataref20_Bounded_run (n0 : Int) (n1P : Option Addr) (n1N n1C : Nat) (n2 : ByteArray) (n3 : Int) (n4P : Option Addr) (n4N n4C : Nat) (n5 : Int) (n6 : Int) (n7 : Int) (n8P : Option Addr) (n8N n8C : Nat) (n9P : Option Addr) (n9N n9C : Nat) (n10 : Int) (n11 : Int) (n12 : Int) (n13P : Option Addr) (n13N n13C : Nat) (n14P : Option Addr) (n14N n14C : Nat) (n15P : Option Addr) (n15N n15C : Nat) {W w : World} {R : List Own} {Φ : PW} [Stable Φ] {J : Value → World → Prop} (c : Ctx W w R Φ) (h : Berrataref20_Bounded n0 n1P n1N n1C n2 n3 n4P n4N n4C n5 n6 n7 n8P n8N n8C n9P n9N n9C n10 n11 n12 n13P n13N n13C n14P n14N n14C n15P n15N n15C W R Φ J) : Calls Try.prog F.errataref20_Bounded #[.agg #[.int .i64 n0, .slice n1P n1N n1C, .string n2, .int .i64 n3, .slice n4P n4N n4C, .int .i64 n5, .int .i64 n6, .int .i64 n7, .slice n8P n8N n8C, .slice n9P n9N n9C, .int .i64 n10, .int .i64 n11, .int .i64 n12, .slice n13P n13N n13C, .slice n14P n14N n14C, .slice n15P n15N n15C]] w fun e w' => ∃ v, e = .returned v ∧ J v w' :=
  vcFS_sound (H := { keep := some [1, 2, 4, 5, 10, 12, 13, 15, 19, 26, 33, 43, 53, 58], track := [1] }) (by rw [show vcFS Try.prog W { keep := some [1, 2, 4, 5, 10, 12, 13, 15, 19, 26, 33, 43, 53, 58], track := [1] } F.errataref20_Bounded #[.agg #[.int .i64 n0, .slice n1P n1N n1C, .string n2, .int .i64 n3, .slice n4P n4N n4C, .int .i64 n5, .int .i64 n6, .int .i64 n7, .slice n8P n8N n8C, .slice n9P n9N n9C, .int .i64 n10, .int .i64 n11, .int .i64 n12, .slice n13P n13N n13C, .slice n14P n14N n14C, .slice n15P n15N n15C]] R Φ J = Berrataref20_Bounded n0 n1P n1N n1C n2 n3 n4P n4N n4C n5 n6 n7 n8P n8N n8C n9P n9N n9C n10 n11 n12 n13P n13N n13C n14P n14N n14C n15P n15N n15C W R Φ J by kernel_rfl]; exact h) c

/-- errataref20.SameRows -/
-- loop at region 9: 6 k; blocks 
-- loop at region 4: 5 i; blocks 
def Berrataref20_SameRows (aP : Option Addr) (aN aC : Nat) (bP : Option Addr) (bN bC : Nat) (W : World) (R : List Own) (Φ : PW) (J : Value → World → Prop) : Prop :=
  Br (decide ((↑aN : Int) ≠ (↑bN : Int))) (∀ (w0 : World) (R1 : List Own), Ctx W w0 (R ++ R1) Φ → J (Value.bool false) w0) (exI fun (I2 : Int → List Own → PW → Nat → Prop) => (∃ (R3 : List
  Own), ∃ (Φ4 : PW), ∃ (k5 : Nat), Stable Φ4 ∧ (∀ (w6 : World) (R7 : List Own), Ctx W w6 (R ++ R7) Φ → Ctx W w6 (R3 ++ R7) Φ4) ∧ I2 0 R3 Φ4 k5) ∧ ∀ (n8 : Int) (R9 : List Own) (I10 : List Nat
  → World → Prop) (k11 : Nat), Stable I10 → I2 n8 R9 I10 k11 → Br (decide (n8 < (↑aN : Int))) (∀ (w12 : World) (R13 : List Own), Ctx W w12 (R9 ++ R13) I10 → (0 ≤ n8 ∧ n8 < (↑aN : Int)) ∧ ptrK
  none aP fun (k14 k15 : Nat) => ∃ (n16 : Int), w12.cell? (Addr.mk k14 (k15 + n8.toNat * 3) none) = some (Value.int IntKind.i64 n16) ∧ (0 ≤ n8 ∧ n8 < (↑bN : Int)) ∧ ptrK none bP fun (k17 k18
  : Nat) => ∃ (n19 : Int), w12.cell? (Addr.mk k17 (k18 + n8.toNat * 3) none) = some (Value.int IntKind.i64 n19) ∧ ((!decide (n16 ≠ n19)) = true → 0 ≤ n8 ∧ n8 < (↑aN : Int)) ∧ ptrK (some
  !decide (n16 ≠ n19)) aP fun (k20 k21 : Nat) => ∃ (n22 : Int), ((!decide (n16 ≠ n19)) = true → w12.cell? (Addr.mk k20 (k21 + n8.toNat * 3 + 2) none) = some (Value.int IntKind.i64 n22)) ∧
  ((!decide (n16 ≠ n19)) = true → 0 ≤ n8 ∧ n8 < (↑bN : Int)) ∧ ptrK (some !decide (n16 ≠ n19)) bP fun (k23 k24 : Nat) => ∃ (n25 : Int), ((!decide (n16 ≠ n19)) = true → w12.cell? (Addr.mk k23
  (k24 + n8.toNat * 3 + 2) none) = some (Value.int IntKind.i64 n25)) ∧ ((!(decide (n16 ≠ n19) || decide (n22 ≠ n25))) = true → 0 ≤ n8 ∧ n8 < (↑aN : Int)) ∧ ptrK (some !(decide (n16 ≠ n19) ||
  decide (n22 ≠ n25))) aP fun (k26 k27 : Nat) => ∃ (p28 : Option Addr), ∃ (k29 : Nat), ∃ (k30 : Nat), ((!(decide (n16 ≠ n19) || decide (n22 ≠ n25))) = true → w12.cell? (Addr.mk k26 (k27 +
  n8.toNat * 3 + 1) none) = some (Value.slice p28 k29 k30)) ∧ ((!(decide (n16 ≠ n19) || decide (n22 ≠ n25))) = true → 0 ≤ n8 ∧ n8 < (↑bN : Int)) ∧ ptrK (some !(decide (n16 ≠ n19) || decide
  (n22 ≠ n25))) bP fun (k31 k32 : Nat) => ∃ (p33 : Option Addr), ∃ (k34 : Nat), ∃ (k35 : Nat), ((!(decide (n16 ≠ n19) || decide (n22 ≠ n25))) = true → w12.cell? (Addr.mk k31 (k32 + n8.toNat *
  3 + 1) none) = some (Value.slice p33 k34 k35)) ∧ Br (decide (n16 ≠ n19) || decide (n22 ≠ n25) || decide ((↑k29 : Int) ≠ (↑k34 : Int))) (∀ (w36 : World) (R37 : List Own), Ctx W w36 (R9 ++
  R37) I10 → J (Value.bool false) w36) (exI fun (I38 : Int → List Own → PW → Nat → Prop) => (∃ (R39 : List Own), ∃ (Φ40 : PW), ∃ (k41 : Nat), Stable Φ40 ∧ (∀ (w42 : World) (R43 : List Own),
  Ctx W w42 (R9 ++ R43) I10 → Ctx W w42 (R39 ++ R43) Φ40) ∧ I38 0 R39 Φ40 k41) ∧ ∀ (n44 : Int) (R45 : List Own) (I46 : List Nat → World → Prop) (k47 : Nat), Stable I46 → I38 n44 R45 I46 k47 →
  (0 ≤ n8 ∧ n8 < (↑aN : Int)) ∧ ptrK none aP fun (k48 k49 : Nat) => ∀ (w50 : World) (R51 : List Own), Ctx W w50 (R45 ++ R51) I46 → ∃ (p52 : Option Addr), ∃ (k53 : Nat), ∃ (k54 : Nat),
  w50.cell? (Addr.mk k48 (k49 + n8.toNat * 3 + 1) none) = some (Value.slice p52 k53 k54) ∧ Br (decide (n44 < (↑k53 : Int))) (∀ (w55 : World) (R56 : List Own), Ctx W w55 (R45 ++ R56) I46 → (0
  ≤ n8 ∧ n8 < (↑aN : Int)) ∧ ptrK none aP fun (k57 k58 : Nat) => ∃ (p59 : Option Addr), ∃ (k60 : Nat), ∃ (k61 : Nat), w55.cell? (Addr.mk k57 (k58 + n8.toNat * 3 + 1) none) = some (Value.slice
  p59 k60 k61) ∧ (0 ≤ n44 ∧ n44 < (↑k60 : Int)) ∧ ptrK none p59 fun (k62 k63 : Nat) => ∃ (n64 : Int), ∃ (n65 : Int), ∃ (s66 : ByteArray), RowAt w55 k62 (k63 + n44.toNat * 3) [Value.int
  IntKind.i64 n64, Value.int IntKind.i64 n65, Value.string s66] ∧ (0 ≤ n8 ∧ n8 < (↑bN : Int)) ∧ ptrK none bP fun (k67 k68 : Nat) => ∃ (p69 : Option Addr), ∃ (k70 : Nat), ∃ (k71 : Nat),
  w55.cell? (Addr.mk k67 (k68 + n8.toNat * 3 + 1) none) = some (Value.slice p69 k70 k71) ∧ (0 ≤ n44 ∧ n44 < (↑k70 : Int)) ∧ ptrK none p69 fun (k72 k73 : Nat) => ∃ (n74 : Int), ∃ (n75 : Int),
  ∃ (s76 : ByteArray), RowAt w55 k72 (k73 + n44.toNat * 3) [Value.int IntKind.i64 n74, Value.int IntKind.i64 n75, Value.string s76] ∧ okAgg Try.prog 70 = true ∧ Br (!(decide (n64 = n74) &&
  (decide (n65 = n75) && (decide (s66 = s76) && true)))) (∀ (w77 : World) (R78 : List Own), Ctx W w77 (R45 ++ R78) I46 → J (Value.bool false) w77) (I64 (n44 + 1) ∧ ∃ (R79 : List Own), ∃ (Φ80
  : PW), ∃ (k81 : Nat), Stable Φ80 ∧ (∀ (w82 : World) (R83 : List Own), Ctx W w82 (R45 ++ R83) I46 → Ctx W w82 (R79 ++ R83) Φ80) ∧ I38 (n44 + 1) R79 Φ80 k81 ∧ k81 < k47)) (I64 (n8 + 1) ∧ ∃
  (R84 : List Own), ∃ (Φ85 : PW), ∃ (k86 : Nat), Stable Φ85 ∧ (∀ (w87 : World) (R88 : List Own), Ctx W w87 (R45 ++ R88) I46 → Ctx W w87 (R84 ++ R88) Φ85) ∧ I2 (n8 + 1) R84 Φ85 k86 ∧ k86 <
  k11))) (∀ (w89 : World) (R90 : List Own), Ctx W w89 (R9 ++ R90) I10 → J (Value.bool true) w89))

theorem Berrataref20_SameRows_run (aP : Option Addr) (aN aC : Nat) (bP : Option Addr) (bN bC : Nat) {W w : World} {R : List Own} {Φ : PW} [Stable Φ] {J : Value → World → Prop} (c : Ctx W w R Φ) (h : Berrataref20_SameRows aP aN aC bP bN bC W R Φ J) : Calls Try.prog F.errataref20_SameRows #[.slice aP aN aC, .slice bP bN bC] w fun e w' => ∃ v, e = .returned v ∧ J v w' :=
  vcFS_sound (H := { keep := some [0, 1, 4, 5, 6, 11, 15, 56, 64, 83], loops := [(9, [(6, .one (.int .i64))], []), (4, [(5, .one (.int .i64))], [])] }) (by rw [show vcFS Try.prog W { keep := some [0, 1, 4, 5, 6, 11, 15, 56, 64, 83], loops := [(9, [(6, .one (.int .i64))], []), (4, [(5, .one (.int .i64))], [])] } F.errataref20_SameRows #[.slice aP aN aC, .slice bP bN bC] R Φ J = Berrataref20_SameRows aP aN aC bP bN bC W R Φ J by kernel_rfl]; exact h) c

/-- errataref20.Witness -/
-- loop at region 13: 12 i; blocks 11 d
-- loop at region 9: 9 out, 10 k; blocks 
-- known blocks: 3 p, 7 x, 11 d
def Berrataref20_Witness (p0P : Option Addr) (p0N p0C : Nat) (p1P : Option Addr) (p1N p1C : Nat) (node : Int) (n : Int) (W : World) (R : List Own) (Φ : PW) (J : Value → World → Prop) : Prop :=
  ∀ (b : Nat) (w0 : World) (R1 : List Own), Ctx W w0 (R ++ R1) Φ → Calls Try.prog F.errataref20_Well #[Value.agg #[Value.slice p0P p0N p0C, Value.slice p1P p1N p1C]] w0 fun (e2 : Ending) (w3
  : World) => ∃ (c4 : Bool), e2 = Ending.returned (Value.bool c4) ∧ ∃ (R5 : List Own), ∃ (Φ6 : PW), Stable Φ6 ∧ Ctx W w3 (R5 ++ R1) Φ6 ∧ Br (!c4) (∀ (w7 : World) (R8 : List Own), Ctx W w7 (R5
  ++ R8) Φ6 → J (Value.slice none 0 0) w7) (Br (decide (node < 0)) (∀ (w9 : World) (R10 : List Own), Ctx W w9 (R5 ++ R10) Φ6 → J (Value.slice none 0 0) w9) (Br (decide ((↑p1N : Int) ≤ node))
  (∀ (w11 : World) (R12 : List Own), Ctx W w11 (R5 ++ R12) Φ6 → J (Value.slice none 0 0) w11) (Br (decide (n < 1)) (∀ (w13 : World) (R14 : List Own), Ctx W w13 (R5 ++ R14) Φ6 → J (Value.slice
  none 0 0) w13) (Br (decide (1000 < n)) (∀ (w15 : World) (R16 : List Own), Ctx W w15 (R5 ++ R16) Φ6 → J (Value.slice none 0 0) w15) ((0 ≤ node ∧ node < (↑p1N : Int)) ∧ ptrK none p1P fun (k17
  k18 : Nat) => ∀ (w19 : World) (R20 : List Own), Ctx W w19 (R5 ++ R20) Φ6 → ∃ (n21 : Int), ∃ (p22 : Option Addr), ∃ (k23 : Nat), ∃ (k24 : Nat), ∃ (s25 : ByteArray), ∃ (n26 : Int), ∃ (p27 :
  Option Addr), ∃ (k28 : Nat), ∃ (k29 : Nat), ∃ (n30 : Int), ∃ (n31 : Int), ∃ (n32 : Int), ∃ (p33 : Option Addr), ∃ (k34 : Nat), ∃ (k35 : Nat), ∃ (p36 : Option Addr), ∃ (k37 : Nat), ∃ (k38 :
  Nat), ∃ (n39 : Int), ∃ (n40 : Int), ∃ (n41 : Int), ∃ (p42 : Option Addr), ∃ (k43 : Nat), ∃ (k44 : Nat), ∃ (p45 : Option Addr), ∃ (k46 : Nat), ∃ (k47 : Nat), ∃ (p48 : Option Addr), ∃ (k49 :
  Nat), ∃ (k50 : Nat), RowAt w19 k17 (k18 + node.toNat * 16) [Value.int IntKind.i64 n21, Value.slice p22 k23 k24, Value.string s25, Value.int IntKind.i64 n26, Value.slice p27 k28 k29,
  Value.int IntKind.i64 n30, Value.int IntKind.i64 n31, Value.int IntKind.i64 n32, Value.slice p33 k34 k35, Value.slice p36 k37 k38, Value.int IntKind.i64 n39, Value.int IntKind.i64 n40,
  Value.int IntKind.i64 n41, Value.slice p42 k43 k44, Value.slice p45 k46 k47, Value.slice p48 k49 k50] ∧ ∀ (b : Nat) (w51 : World) (R52 : List Own), Ctx W w51 (R5 ++ R52) Φ6 → Calls Try.prog
  F.errataref20_Bounded #[Value.agg #[Value.int IntKind.i64 n21, Value.slice p22 k23 k24, Value.string s25, Value.int IntKind.i64 n26, Value.slice p27 k28 k29, Value.int IntKind.i64 n30,
  Value.int IntKind.i64 n31, Value.int IntKind.i64 n32, Value.slice p33 k34 k35, Value.slice p36 k37 k38, Value.int IntKind.i64 n39, Value.int IntKind.i64 n40, Value.int IntKind.i64 n41,
  Value.slice p42 k43 k44, Value.slice p45 k46 k47, Value.slice p48 k49 k50]] w51 fun (e53 : Ending) (w54 : World) => ∃ (c55 : Bool), e53 = Ending.returned (Value.bool c55) ∧ ∃ (R56 : List
  Own), ∃ (Φ57 : PW), Stable Φ57 ∧ Ctx W w54 (R56 ++ R52) Φ57 ∧ Br c55 (∀ (w58 : World) (R59 : List Own), Ctx W w58 (R56 ++ R59) Φ57 → J (Value.slice none 0 0) w58) (Br (decide ((↑k23 : Int)
  = 0)) (∀ (w60 : World) (R61 : List Own), Ctx W w60 (R56 ++ R61) Φ57 → J (Value.slice none 0 0) w60) (∀ (w62 : World) (R63 : List Own), Ctx W w62 (R56 ++ R63) Φ57 → ((0 : Int) ≤ 0 ∧ 0 <
  (↑k23 : Int)) ∧ ptrK none p22 fun (k64 k65 : Nat) => ∃ (n66 : Int), w62.cell? (Addr.mk k64 k65 none) = some (Value.int IntKind.i64 n66) ∧ (0 ≤ n66 ∧ n66 < (↑p1N : Int)) ∧ ptrK none p1P fun
  (k67 k68 : Nat) => ∃ (p69 : Option Addr), ∃ (k70 : Nat), ∃ (k71 : Nat), w62.cell? (Addr.mk k67 (k68 + n66.toNat * 16 + 15) none) = some (Value.slice p69 k70 k71) ∧ exI fun (I72 : Option
  Addr → Nat → Nat → Int → List Own → PW → Nat → Prop) => (∃ (R73 : List Own), ∃ (Φ74 : PW), ∃ (k75 : Nat), Stable Φ74 ∧ (∀ (w76 : World) (R77 : List Own), Ctx W w76 (R56 ++ R77) Φ57 → Ctx W
  w76 (R73 ++ R77) Φ74) ∧ I72 none 0 0 0 R73 Φ74 k75) ∧ ∀ (p78 : Option Addr) (k79 k80 : Nat) (n81 : Int) (R82 : List Own) (I83 : List Nat → World → Prop) (k84 : Nat), Stable I83 → I72 p78
  k79 k80 n81 R82 I83 k84 → Br (decide (n81 < n)) (I64 (30001 * n81) ∧ ∀ (b : Nat), exI fun (I85 : Int → Int → Option Addr → Nat → Nat → Int → List Own → PW → Nat → Prop) => (∃ (R86 : List
  Own), ∃ (Φ87 : PW), ∃ (k88 : Nat), Stable Φ87 ∧ (∀ (w89 : World) (R90 : List Own), Ctx W w89 (R82 ++ R90) I83 → Ctx W w89 (R86 ++ R90) Φ87) ∧ I85 0 (30001 * n81) none 0 0 1 R86 Φ87 k88) ∧ ∀
  (n91 n92 : Int) (p93 : Option Addr) (k94 k95 : Nat) (n96 : Int) (R97 : List Own) (I98 : List Nat → World → Prop) (k99 : Nat), Stable I98 → I85 n91 n92 p93 k94 k95 n96 R97 I98 k99 → Br
  (decide (n91 < (↑k70 : Int))) ((0 ≤ n91 ∧ n91 < (↑k70 : Int)) ∧ ptrK none p69 fun (k100 k101 : Nat) => ∀ (w102 : World) (R103 : List Own), Ctx W w102 (R97 ++ R103) I98 → ∃ (n104 : Int),
  w102.cell? (Addr.mk k100 (k101 + n91.toNat * 3 + 1) none) = some (Value.int IntKind.i64 n104) ∧ ∀ (w105 : World) (R106 : List Own), Ctx W w105 (R97 ++ R106) I98 → Calls Try.prog
  F.errataref20_within #[Value.int IntKind.i64 n104, Value.int IntKind.i64 0, Value.int IntKind.i64 2] w105 fun (e107 : Ending) (w108 : World) => ∃ (c109 : Bool), e107 = Ending.returned
  (Value.bool c109) ∧ ∃ (R110 : List Own), ∃ (Φ111 : PW), Stable Φ111 ∧ Ctx W w108 (R110 ++ R106) Φ111 ∧ Br (!c109) (∀ (w112 : World) (R113 : List Own), Ctx W w112 (R110 ++ R113) Φ111 → J
  (Value.slice none 0 0) w112) ((0 ≤ n91 ∧ n91 < (↑k70 : Int)) ∧ ptrK none p69 fun (k114 k115 : Nat) => ∃ (n116 : Int), (∀ (w117 : World) (R118 : List Own), Ctx W w117 R118 Φ111 → ∃ (n119 :
  Int), w117.cell? (Addr.mk k114 (k115 + n91.toNat * 3 + 1) none) = some (Value.int IntKind.i64 n119) ∧ Value.int IntKind.i64 n119 = Value.int IntKind.i64 n116) ∧ ∀ (k120 : Nat), (∀ (R121 :
  List Nat) (w122 : World), Φ111 R121 w122 → Φ111 R121 w122) ∧ ∀ (w123 : World) (R124 : List Own), Ctx W w123 (Own.blk k120 [Value.int IntKind.i64 n116, Value.int IntKind.i64 0, Value.string
  (ByteArray.mk #[])] 70 :: R110 ++ R124) Φ111 → ∃ (p125 : Option Addr), ∃ (k126 : Nat), ∃ (k127 : Nat), ∃ (w128 : World), Sem.run Try.prog (builtin Builtin.append #[53, 53] 53 #[false,
  false] #[Value.slice p93 k94 k95, Value.slice (some (Addr.mk k120 0 none)) 1 1]) w123 = Result.ok (Next.value (Value.slice p125 k126 k127)) w128 ∧ ∃ (R129 : List Own), ∃ (Φ130 : PW), Stable
  Φ130 ∧ Ctx W w128 (R129 ++ R124) Φ130 ∧ (∀ (R131 : List Nat) (w132 : World), Φ130 R131 w132 → Φ111 R131 w132) ∧ I64 (n91 + 1) ∧ ∃ (R133 : List Own), ∃ (Φ134 : PW), ∃ (k135 : Nat), Stable
  Φ134 ∧ (∀ (w136 : World) (R137 : List Own), Ctx W w136 (R129 ++ R137) Φ130 → Ctx W w136 (R133 ++ R137) Φ134) ∧ I85 (n91 + 1) n92 p125 k126 k127 n96 R133 Φ134 k135 ∧ k135 < k99)) (∀ (k138 :
  Nat) (w139 : World) (R140 : List Own), Ctx W w139 (Own.blk k138 [Value.int IntKind.i64 n92, Value.slice p93 k94 k95, Value.int IntKind.i64 n96] 55 :: R97 ++ R140) I98 → ∃ (p141 : Option
  Addr), ∃ (k142 : Nat), ∃ (k143 : Nat), ∃ (w144 : World), Sem.run Try.prog (builtin Builtin.append #[51, 51] 51 #[false, false] #[Value.slice p78 k79 k80, Value.slice (some (Addr.mk k138 0
  none)) 1 1]) w139 = Result.ok (Next.value (Value.slice p141 k142 k143)) w144 ∧ ∃ (R145 : List Own), ∃ (Φ146 : PW), Stable Φ146 ∧ Ctx W w144 (R145 ++ R140) Φ146 ∧ I64 (n81 + 1) ∧ ∃ (R147 :
  List Own), ∃ (Φ148 : PW), ∃ (k149 : Nat), Stable Φ148 ∧ (∀ (w150 : World) (R151 : List Own), Ctx W w150 (R145 ++ R151) Φ146 → Ctx W w150 (R147 ++ R151) Φ148) ∧ I72 p141 k142 k143 (n81 + 1)
  R147 Φ148 k149 ∧ k149 < k84)) (∀ (w152 : World) (R153 : List Own), Ctx W w152 (R82 ++ R153) I83 → J (Value.slice p78 k79 k80) w152))))))))

theorem Berrataref20_Witness_run (p0P : Option Addr) (p0N p0C : Nat) (p1P : Option Addr) (p1N p1C : Nat) (node : Int) (n : Int) {W w : World} {R : List Own} {Φ : PW} [Stable Φ] {J : Value → World → Prop} (c : Ctx W w R Φ) (h : Berrataref20_Witness p0P p0N p0C p1P p1N p1C node n W R Φ J) : Calls Try.prog F.errataref20_Witness #[.agg #[.slice p0P p0N p0C, .slice p1P p1N p1C], .int .i64 node, .int .i64 n] w fun e w' => ∃ v, e = .returned v ∧ J v w' :=
  vcFS_sound (H := { keep := some [1, 2, 3, 6, 7, 8, 9, 10, 11, 12, 34, 47, 59, 68, 77], track := [3, 7, 11], stages := [(17, [.held [(0, true), (2, true), (3, true), (1, true), (4, true), (5, true), (6, true), (7, true), (8, false), (9, false), (10, true)], .stage [] (some 11)])], split := [1, 4], loops := [(13, [(12, .one (.int .i64))], [(11, .agg [.int .i64, .slice, .int .i64])]), (9, [(9, .one (.slice)), (10, .one (.int .i64))], [])] }) (by rw [show vcFS Try.prog W { keep := some [1, 2, 3, 6, 7, 8, 9, 10, 11, 12, 34, 47, 59, 68, 77], track := [3, 7, 11], stages := [(17, [.held [(0, true), (2, true), (3, true), (1, true), (4, true), (5, true), (6, true), (7, true), (8, false), (9, false), (10, true)], .stage [] (some 11)])], split := [1, 4], loops := [(13, [(12, .one (.int .i64))], [(11, .agg [.int .i64, .slice, .int .i64])]), (9, [(9, .one (.slice)), (10, .one (.int .i64))], [])] } F.errataref20_Witness #[.agg #[.slice p0P p0N p0C, .slice p1P p1N p1C], .int .i64 node, .int .i64 n] R Φ J = Berrataref20_Witness p0P p0N p0C p1P p1N p1C node n W R Φ J by kernel_rfl]; exact h) c

/-- errataref20.rate -/
-- known blocks: 3 n, 5 c
def Berrataref20_rate (n0 : Int) (n1P : Option Addr) (n1N n1C : Nat) (n2 : ByteArray) (n3 : Int) (n4P : Option Addr) (n4N n4C : Nat) (n5 : Int) (n6 : Int) (n7 : Int) (n8P : Option Addr) (n8N n8C : Nat) (n9P : Option Addr) (n9N n9C : Nat) (n10 : Int) (n11 : Int) (n12 : Int) (n13P : Option Addr) (n13N n13C : Nat) (n14P : Option Addr) (n14N n14C : Nat) (n15P : Option Addr) (n15N n15C : Nat) (lP : Option Addr) (lN lC : Nat) (c0 : Int) (c1 : Int) (c2 : Int) (c3 : Int) (c4 : Int) (c5 : Int) (W : World) (R : List Own) (Φ : PW) (J : Value → World → Prop) : Prop :=
  ∀ (b b : Nat), Br (decide (n0 = 0)) (I64 (c0 * c4) ∧ ∀ (w0 : World) (R1 : List Own), Ctx W w0 (R ++ R1) Φ → J (Value.int IntKind.i64 (c0 * c4)) w0) (((0 : Int) ≤ 0 ∧ 0 < (↑n1N : Int)) ∧
  ptrK none n1P fun (k2 k3 : Nat) => ∀ (w4 : World) (R5 : List Own), Ctx W w4 (R ++ R5) Φ → ∃ (n6_1 : Int), w4.cell? (Addr.mk k2 k3 none) = some (Value.int IntKind.i64 n6_1) ∧ (0 ≤ n6_1 ∧
  n6_1 < (↑lN : Int)) ∧ ptrK none lP fun (k7 k8 : Nat) => ∀ (w9 : World) (R10 : List Own), Ctx W w9 (R ++ R10) Φ → ∃ (n11_1 : Int), w9.cell? (Addr.mk k7 (k8 + n6_1.toNat * 4 + 2) none) = some
  (Value.int IntKind.i64 n11_1) ∧ Br (decide (n0 = 3)) (((0 : Int) ≤ 1 ∧ 1 < (↑n1N : Int)) ∧ ptrK none n1P fun (k12 k13 : Nat) => ∀ (w14 : World) (R15 : List Own), Ctx W w14 (R ++ R15) Φ → ∃
  (n16 : Int), w14.cell? (Addr.mk k12 k13.succ none) = some (Value.int IntKind.i64 n16) ∧ (0 ≤ n16 ∧ n16 < (↑lN : Int)) ∧ ptrK none lP fun (k17 k18 : Nat) => ∀ (w19 : World) (R20 : List Own),
  Ctx W w19 (R ++ R20) Φ → ∃ (n21 : Int), w19.cell? (Addr.mk k17 (k18 + n16.toNat * 4 + 2) none) = some (Value.int IntKind.i64 n21) ∧ I64 (n11_1 + n21) ∧ ∀ (w22 : World) (R23 : List Own), Ctx
  W w22 (R ++ R23) Φ → J (Value.int IntKind.i64 (min (n11_1 + n21) 1099511627776)) w22) (Br (decide (n0 = 4)) (Br (decide (n0 = 4)) (∀ (w24 : World) (R25 : List Own), Ctx W w24 (R ++ R25) Φ →
  Calls Try.prog F.errataref20_times #[Value.int IntKind.i64 n11_1, Value.int IntKind.i64 n6] w24 fun (e26 : Ending) (w27 : World) => ∃ (n28 : Int), e26 = Ending.returned (Value.int
  IntKind.i64 n28) ∧ ∃ (R29 : List Own), ∃ (Φ30 : PW), Stable Φ30 ∧ Ctx W w27 (R29 ++ R25) Φ30 ∧ ∀ (w31 : World) (R32 : List Own), Ctx W w31 (R29 ++ R32) Φ30 → J (Value.int IntKind.i64 n28)
  w31) (Br (decide (n0 = 6)) (∀ (w33 : World) (R34 : List Own), Ctx W w33 (R ++ R34) Φ → ((0 : Int) ≤ 1 ∧ 1 < (↑n1N : Int)) ∧ ptrK none n1P fun (k35 k36 : Nat) => ∃ (n37 : Int), w33.cell?
  (Addr.mk k35 k36.succ none) = some (Value.int IntKind.i64 n37) ∧ (0 ≤ n37 ∧ n37 < (↑lN : Int)) ∧ ptrK none lP fun (k38 k39 : Nat) => ∃ (n40 : Int), w33.cell? (Addr.mk k38 (k39 + n37.toNat *
  4 + 2) none) = some (Value.int IntKind.i64 n40) ∧ ∃ (n41 : Int), (∀ (w42 : World), (∃ (k43 : Nat), w42 = w33.drewN k43) → Calls Try.prog F.errataref20_times #[Value.int IntKind.i64 n11_1,
  Value.int IntKind.i64 n40] w42 fun (e44 : Ending) (w45 : World) => e44 = Ending.returned (Value.int IntKind.i64 n41) ∧ ∃ (k46 : Nat), w45 = w33.drewN k46) ∧ I64 (n10 + n11) ∧ I64 (n10 + n11
  + 2) ∧ ∃ (n47 : Int), (∀ (w48 : World), (∃ (k49 : Nat), w48 = w33.drewN k49) → Calls Try.prog F.errataref20_times #[Value.int IntKind.i64 n41, Value.int IntKind.i64 (n10 + n11 + 2)] w48 fun
  (e50 : Ending) (w51 : World) => e50 = Ending.returned (Value.int IntKind.i64 n47) ∧ ∃ (k52 : Nat), w51 = w33.drewN k52) ∧ ∀ (w53 : World) (R54 : List Own), Ctx W w53 (R ++ R54) Φ → J
  (Value.int IntKind.i64 n47) w53) (∀ (w55 : World) (R56 : List Own), Ctx W w55 (R ++ R56) Φ → J (Value.int IntKind.i64 n11_1) w55))) (Br (decide (n0 = 5)) (∀ (w57 : World) (R58 : List Own),
  Ctx W w57 (R ++ R58) Φ → Calls Try.prog F.errataref20_times #[Value.int IntKind.i64 n11_1, Value.int IntKind.i64 n6] w57 fun (e59 : Ending) (w60 : World) => ∃ (n61 : Int), e59 =
  Ending.returned (Value.int IntKind.i64 n61) ∧ ∃ (R62 : List Own), ∃ (Φ63 : PW), Stable Φ63 ∧ Ctx W w60 (R62 ++ R58) Φ63 ∧ ∀ (w64 : World) (R65 : List Own), Ctx W w64 (R62 ++ R65) Φ63 → J
  (Value.int IntKind.i64 n61) w64) (Br (decide (n0 = 6)) (∀ (w66 : World) (R67 : List Own), Ctx W w66 (R ++ R67) Φ → ((0 : Int) ≤ 1 ∧ 1 < (↑n1N : Int)) ∧ ptrK none n1P fun (k68 k69 : Nat) =>
  ∃ (n70 : Int), w66.cell? (Addr.mk k68 k69.succ none) = some (Value.int IntKind.i64 n70) ∧ (0 ≤ n70 ∧ n70 < (↑lN : Int)) ∧ ptrK none lP fun (k71 k72 : Nat) => ∃ (n73 : Int), w66.cell?
  (Addr.mk k71 (k72 + n70.toNat * 4 + 2) none) = some (Value.int IntKind.i64 n73) ∧ ∃ (n74 : Int), (∀ (w75 : World), (∃ (k76 : Nat), w75 = w66.drewN k76) → Calls Try.prog F.errataref20_times
  #[Value.int IntKind.i64 n11_1, Value.int IntKind.i64 n73] w75 fun (e77 : Ending) (w78 : World) => e77 = Ending.returned (Value.int IntKind.i64 n74) ∧ ∃ (k79 : Nat), w78 = w66.drewN k79) ∧
  I64 (n10 + n11) ∧ I64 (n10 + n11 + 2) ∧ ∃ (n80 : Int), (∀ (w81 : World), (∃ (k82 : Nat), w81 = w66.drewN k82) → Calls Try.prog F.errataref20_times #[Value.int IntKind.i64 n74, Value.int
  IntKind.i64 (n10 + n11 + 2)] w81 fun (e83 : Ending) (w84 : World) => e83 = Ending.returned (Value.int IntKind.i64 n80) ∧ ∃ (k85 : Nat), w84 = w66.drewN k85) ∧ ∀ (w86 : World) (R87 : List
  Own), Ctx W w86 (R ++ R87) Φ → J (Value.int IntKind.i64 n80) w86) (∀ (w88 : World) (R89 : List Own), Ctx W w88 (R ++ R89) Φ → J (Value.int IntKind.i64 n11_1) w88)))))

theorem Berrataref20_rate_run (n0 : Int) (n1P : Option Addr) (n1N n1C : Nat) (n2 : ByteArray) (n3 : Int) (n4P : Option Addr) (n4N n4C : Nat) (n5 : Int) (n6 : Int) (n7 : Int) (n8P : Option Addr) (n8N n8C : Nat) (n9P : Option Addr) (n9N n9C : Nat) (n10 : Int) (n11 : Int) (n12 : Int) (n13P : Option Addr) (n13N n13C : Nat) (n14P : Option Addr) (n14N n14C : Nat) (n15P : Option Addr) (n15N n15C : Nat) (lP : Option Addr) (lN lC : Nat) (c0 : Int) (c1 : Int) (c2 : Int) (c3 : Int) (c4 : Int) (c5 : Int) {W w : World} {R : List Own} {Φ : PW} [Stable Φ] {J : Value → World → Prop} (c : Ctx W w R Φ) (h : Berrataref20_rate n0 n1P n1N n1C n2 n3 n4P n4N n4C n5 n6 n7 n8P n8N n8C n9P n9N n9C n10 n11 n12 n13P n13N n13C n14P n14N n14C n15P n15N n15C lP lN lC c0 c1 c2 c3 c4 c5 W R Φ J) : Calls Try.prog F.errataref20_rate #[.agg #[.int .i64 n0, .slice n1P n1N n1C, .string n2, .int .i64 n3, .slice n4P n4N n4C, .int .i64 n5, .int .i64 n6, .int .i64 n7, .slice n8P n8N n8C, .slice n9P n9N n9C, .int .i64 n10, .int .i64 n11, .int .i64 n12, .slice n13P n13N n13C, .slice n14P n14N n14C, .slice n15P n15N n15C], .slice lP lN lC, .agg #[.int .i64 c0, .int .i64 c1, .int .i64 c2, .int .i64 c3, .int .i64 c4, .int .i64 c5]] w fun e w' => ∃ v, e = .returned v ∧ J v w' :=
  vcFS_sound (H := { keep := some [1, 3, 5, 6, 7, 10, 25, 26, 39, 46], track := [3, 5] }) (by rw [show vcFS Try.prog W { keep := some [1, 3, 5, 6, 7, 10, 25, 26, 39, 46], track := [3, 5] } F.errataref20_rate #[.agg #[.int .i64 n0, .slice n1P n1N n1C, .string n2, .int .i64 n3, .slice n4P n4N n4C, .int .i64 n5, .int .i64 n6, .int .i64 n7, .slice n8P n8N n8C, .slice n9P n9N n9C, .int .i64 n10, .int .i64 n11, .int .i64 n12, .slice n13P n13N n13C, .slice n14P n14N n14C, .slice n15P n15N n15C], .slice lP lN lC, .agg #[.int .i64 c0, .int .i64 c1, .int .i64 c2, .int .i64 c3, .int .i64 c4, .int .i64 c5]] R Φ J = Berrataref20_rate n0 n1P n1N n1C n2 n3 n4P n4N n4C n5 n6 n7 n8P n8N n8C n9P n9N n9C n10 n11 n12 n13P n13N n13C n14P n14N n14C n15P n15N n15C lP lN lC c0 c1 c2 c3 c4 c5 W R Φ J by kernel_rfl]; exact h) c

/-- errataref20.state -/
-- loop at region 6: 9 sum, 10 i; blocks 
-- known blocks: 3 n, 5 c, 11 b
def Berrataref20_state (n0 : Int) (n1P : Option Addr) (n1N n1C : Nat) (n2 : ByteArray) (n3 : Int) (n4P : Option Addr) (n4N n4C : Nat) (n5 : Int) (n6 : Int) (n7 : Int) (n8P : Option Addr) (n8N n8C : Nat) (n9P : Option Addr) (n9N n9C : Nat) (n10 : Int) (n11 : Int) (n12 : Int) (n13P : Option Addr) (n13N n13C : Nat) (n14P : Option Addr) (n14N n14C : Nat) (n15P : Option Addr) (n15N n15C : Nat) (lP : Option Addr) (lN lC : Nat) (c0 : Int) (c1 : Int) (c2 : Int) (c3 : Int) (c4 : Int) (c5 : Int) (W : World) (R : List Own) (Φ : PW) (J : Value → World → Prop) : Prop :=
  ∀ (b b : Nat), Br (decide (n0 ≤ 3)) (∀ (w0 : World) (R1 : List Own), Ctx W w0 (R ++ R1) Φ → J (Value.int IntKind.i64 0) w0) (∀ (w2 : World) (R3 : List Own), Ctx W w2 (R ++ R3) Φ → Calls
  Try.prog F.errataref20_Own #[Value.agg #[Value.int IntKind.i64 n0, Value.slice n1P n1N n1C, Value.string n2, Value.int IntKind.i64 n3, Value.slice n4P n4N n4C, Value.int IntKind.i64 n5,
  Value.int IntKind.i64 n6, Value.int IntKind.i64 n7, Value.slice n8P n8N n8C, Value.slice n9P n9N n9C, Value.int IntKind.i64 n10, Value.int IntKind.i64 n11, Value.int IntKind.i64 n12,
  Value.slice n13P n13N n13C, Value.slice n14P n14N n14C, Value.slice n15P n15N n15C]] w2 fun (e4 : Ending) (w5 : World) => ∃ (n6 : Int), ∃ (n7 : Int), e4 = Ending.returned (Value.tuple
  #[Value.int IntKind.i64 n6, Value.int IntKind.i64 n7]) ∧ ∃ (R8 : List Own), ∃ (Φ9 : PW), Stable Φ9 ∧ Ctx W w5 (R8 ++ R3) Φ9 ∧ exI fun (I10 : Int → Int → List Own → PW → Nat → Prop) => (∃
  (R11 : List Own), ∃ (Φ12 : PW), ∃ (k13 : Nat), Stable Φ12 ∧ (∀ (w14 : World) (R15 : List Own), Ctx W w14 (R8 ++ R15) Φ9 → Ctx W w14 (R11 ++ R15) Φ12) ∧ I10 0 0 R11 Φ12 k13) ∧ ∀ (n16 n17 :
  Int) (R18 : List Own) (I19 : List Nat → World → Prop) (k20 : Nat), Stable I19 → I10 n16 n17 R18 I19 k20 → Br (decide (n17 < (↑n1N : Int))) ((0 ≤ n17 ∧ n17 < (↑n1N : Int)) ∧ ptrK none n1P
  fun (k21 k22 : Nat) => ∀ (w23 : World) (R24 : List Own), Ctx W w23 (R18 ++ R24) I19 → ∃ (n25 : Int), w23.cell? (Addr.mk k21 (k22 + n17.toNat) none) = some (Value.int IntKind.i64 n25) ∧ (0 ≤
  n25 ∧ n25 < (↑lN : Int)) ∧ ptrK none lP fun (k26 k27 : Nat) => ∀ (w28 : World) (R29 : List Own), Ctx W w28 (R18 ++ R29) I19 → ∃ (n30 : Int), ∃ (n31 : Int), ∃ (n32 : Int), ∃ (n33 : Int),
  RowAt w28 k26 (k27 + n25.toNat * 4) [Value.int IntKind.i64 n30, Value.int IntKind.i64 n31, Value.int IntKind.i64 n32, Value.int IntKind.i64 n33] ∧ ∀ (b : Nat), I64 (c5 + n31) ∧ I64 (c5 +
  n31 + n6) ∧ ∀ (w34 : World) (R35 : List Own), Ctx W w34 (R18 ++ R35) I19 → Calls Try.prog F.errataref20_times #[Value.int IntKind.i64 n32, Value.int IntKind.i64 (c5 + n31 + n6)] w34 fun
  (e36 : Ending) (w37 : World) => ∃ (n38 : Int), e36 = Ending.returned (Value.int IntKind.i64 n38) ∧ ∃ (R39 : List Own), ∃ (Φ40 : PW), Stable Φ40 ∧ Ctx W w37 (R39 ++ R35) Φ40 ∧ I64 (n16 +
  n38) ∧ I64 (n17 + 1) ∧ ∃ (R41 : List Own), ∃ (Φ42 : PW), ∃ (k43 : Nat), Stable Φ42 ∧ (∀ (w44 : World) (R45 : List Own), Ctx W w44 (R39 ++ R45) Φ40 → Ctx W w44 (R41 ++ R45) Φ42) ∧ I10 (min
  (n16 + n38) 1099511627776) (n17 + 1) R41 Φ42 k43 ∧ k43 < k20) (∀ (w46 : World) (R47 : List Own), Ctx W w46 (R18 ++ R47) I19 → J (Value.int IntKind.i64 n16) w46))

theorem Berrataref20_state_run (n0 : Int) (n1P : Option Addr) (n1N n1C : Nat) (n2 : ByteArray) (n3 : Int) (n4P : Option Addr) (n4N n4C : Nat) (n5 : Int) (n6 : Int) (n7 : Int) (n8P : Option Addr) (n8N n8C : Nat) (n9P : Option Addr) (n9N n9C : Nat) (n10 : Int) (n11 : Int) (n12 : Int) (n13P : Option Addr) (n13N n13C : Nat) (n14P : Option Addr) (n14N n14C : Nat) (n15P : Option Addr) (n15N n15C : Nat) (lP : Option Addr) (lN lC : Nat) (c0 : Int) (c1 : Int) (c2 : Int) (c3 : Int) (c4 : Int) (c5 : Int) {W w : World} {R : List Own} {Φ : PW} [Stable Φ] {J : Value → World → Prop} (c : Ctx W w R Φ) (h : Berrataref20_state n0 n1P n1N n1C n2 n3 n4P n4N n4C n5 n6 n7 n8P n8N n8C n9P n9N n9C n10 n11 n12 n13P n13N n13C n14P n14N n14C n15P n15N n15C lP lN lC c0 c1 c2 c3 c4 c5 W R Φ J) : Calls Try.prog F.errataref20_state #[.agg #[.int .i64 n0, .slice n1P n1N n1C, .string n2, .int .i64 n3, .slice n4P n4N n4C, .int .i64 n5, .int .i64 n6, .int .i64 n7, .slice n8P n8N n8C, .slice n9P n9N n9C, .int .i64 n10, .int .i64 n11, .int .i64 n12, .slice n13P n13N n13C, .slice n14P n14N n14C, .slice n15P n15N n15C], .slice lP lN lC, .agg #[.int .i64 c0, .int .i64 c1, .int .i64 c2, .int .i64 c3, .int .i64 c4, .int .i64 c5]] w fun e w' => ∃ v, e = .returned v ∧ J v w' :=
  vcFS_sound (H := { keep := some [1, 3, 5, 6, 7, 9, 10, 11, 14, 24], track := [3, 5, 11], loops := [(6, [(9, .one (.int .i64)), (10, .one (.int .i64))], [])] }) (by rw [show vcFS Try.prog W { keep := some [1, 3, 5, 6, 7, 9, 10, 11, 14, 24], track := [3, 5, 11], loops := [(6, [(9, .one (.int .i64)), (10, .one (.int .i64))], [])] } F.errataref20_state #[.agg #[.int .i64 n0, .slice n1P n1N n1C, .string n2, .int .i64 n3, .slice n4P n4N n4C, .int .i64 n5, .int .i64 n6, .int .i64 n7, .slice n8P n8N n8C, .slice n9P n9N n9C, .int .i64 n10, .int .i64 n11, .int .i64 n12, .slice n13P n13N n13C, .slice n14P n14N n14C, .slice n15P n15N n15C], .slice lP lN lC, .agg #[.int .i64 c0, .int .i64 c1, .int .i64 c2, .int .i64 c3, .int .i64 c4, .int .i64 c5]] R Φ J = Berrataref20_state n0 n1P n1N n1C n2 n3 n4P n4N n4C n5 n6 n7 n8P n8N n8C n9P n9N n9C n10 n11 n12 n13P n13N n13C n14P n14N n14C n15P n15N n15C lP lN lC c0 c1 c2 c3 c4 c5 W R Φ J by kernel_rfl]; exact h) c

/-- errataref20.inputs -/
def Berrataref20_inputs (op : Int) (W : World) (R : List Own) (Φ : PW) (J : Value → World → Prop) : Prop :=
  Br (decide (op = 0)) (∀ (w0 : World) (R1 : List Own), Ctx W w0 (R ++ R1) Φ → J (Value.int IntKind.i64 0) w0) (Br (decide (op = 3)) (Br (decide (op = 3)) (∀ (w2 : World) (R3 : List Own), Ctx
  W w2 (R ++ R3) Φ → J (Value.int IntKind.i64 2) w2) (∀ (w4 : World) (R5 : List Own), Ctx W w4 (R ++ R5) Φ → J (Value.int IntKind.i64 1) w4)) (Br (decide (op = 6)) (Br (decide (op = 6)) (∀
  (w6 : World) (R7 : List Own), Ctx W w6 (R ++ R7) Φ → J (Value.int IntKind.i64 2) w6) (∀ (w8 : World) (R9 : List Own), Ctx W w8 (R ++ R9) Φ → J (Value.int IntKind.i64 1) w8)) (Br (decide (op
  = 7)) (∀ (w10 : World) (R11 : List Own), Ctx W w10 (R ++ R11) Φ → J (Value.int IntKind.i64 2) w10) (∀ (w12 : World) (R13 : List Own), Ctx W w12 (R ++ R13) Φ → J (Value.int IntKind.i64 1)
  w12))))

theorem Berrataref20_inputs_run (op : Int) {W w : World} {R : List Own} {Φ : PW} [Stable Φ] {J : Value → World → Prop} (c : Ctx W w R Φ) (h : Berrataref20_inputs op W R Φ J) : Calls Try.prog F.errataref20_inputs #[.int .i64 op] w fun e w' => ∃ v, e = .returned v ∧ J v w' :=
  vcFS_sound (H := { keep := some [0, 2, 3, 4, 6] }) (by rw [show vcFS Try.prog W { keep := some [0, 2, 3, 4, 6] } F.errataref20_inputs #[.int .i64 op] R Φ J = Berrataref20_inputs op W R Φ J by kernel_rfl]; exact h) c

/-- errataref20.within -/
def Berrataref20_within (n : Int) (fromx : Int) (to : Int) (W : World) (R : List Own) (Φ : PW) (J : Value → World → Prop) : Prop :=
  ∀ (w0 : World) (R1 : List Own), Ctx W w0 (R ++ R1) Φ → ∀ (w2 : World) (R3 : List Own), Ctx W w2 (R ++ R3) Φ → J (Value.bool (decide (fromx ≤ n) && decide (n ≤ to))) w2

theorem Berrataref20_within_run (n : Int) (fromx : Int) (to : Int) {W w : World} {R : List Own} {Φ : PW} [Stable Φ] {J : Value → World → Prop} (c : Ctx W w R Φ) (h : Berrataref20_within n fromx to W R Φ J) : Calls Try.prog F.errataref20_within #[.int .i64 n, .int .i64 fromx, .int .i64 to] w fun e w' => ∃ v, e = .returned v ∧ J v w' :=
  vcFS_sound (H := { keep := some [0, 1, 2, 6] }) (by rw [show vcFS Try.prog W { keep := some [0, 1, 2, 6] } F.errataref20_within #[.int .i64 n, .int .i64 fromx, .int .i64 to] R Φ J = Berrataref20_within n fromx to W R Φ J by kernel_rfl]; exact h) c

/-- errataref20.times -/
def Berrataref20_times (a : Int) (b : Int) (W : World) (R : List Own) (Φ : PW) (J : Value → World → Prop) : Prop :=
  ∀ (w0 : World) (R1 : List Own), Ctx W w0 (R ++ R1) Φ → Br (decide (a = 0) || decide (b = 0)) (∀ (w2 : World) (R3 : List Own), Ctx W w2 (R ++ R3) Φ → J (Value.int IntKind.i64 0) w2) ((b = 0
  → False) ∧ I64 (Int.tdiv 1099511627776 b) ∧ Br (decide (Int.tdiv 1099511627776 b < a)) (∀ (w4 : World) (R5 : List Own), Ctx W w4 (R ++ R5) Φ → J (Value.int IntKind.i64 1099511627776) w4)
  (I64 (a * b) ∧ ∀ (w6 : World) (R7 : List Own), Ctx W w6 (R ++ R7) Φ → J (Value.int IntKind.i64 (min (a * b) 1099511627776)) w6))

theorem Berrataref20_times_run (a : Int) (b : Int) {W w : World} {R : List Own} {Φ : PW} [Stable Φ] {J : Value → World → Prop} (c : Ctx W w R Φ) (h : Berrataref20_times a b W R Φ J) : Calls Try.prog F.errataref20_times #[.int .i64 a, .int .i64 b] w fun e w' => ∃ v, e = .returned v ∧ J v w' :=
  vcFS_sound (H := { keep := some [0, 1, 4, 10, 14] }) (by rw [show vcFS Try.prog W { keep := some [0, 1, 4, 10, 14] } F.errataref20_times #[.int .i64 a, .int .i64 b] R Φ J = Berrataref20_times a b W R Φ J by kernel_rfl]; exact h) c

end Go.Proofs.Ytflanndhfdfemaa
