/-
  The conditions of the walks of some functions, one formula each; 'B<f>_run' says that they suffice. The formulas are printed by a program; the kernel compares them with the functions' code.
-/
import Derived.Test.YtbkpfhhhbhaecaaDoorPT4

section
namespace Go.Proofs.YtbkpfhhhbhaecaaDoor
set_option linter.unusedVariables false
set_option linter.unusedSimpArgs false
set_option maxRecDepth 100000
open Go.Vc

/-- erratalaw37.PlaceSpread -/
-- loop at region 24: 15 b; blocks 
-- loop at region 21: 14 a; blocks 
-- loop at region 11: 11 b; blocks 
-- loop at region 8: 10 a; blocks 
def Berratalaw37_PlaceSpread (pP : Option Addr) (pN pC : Nat) (workers : Int) (otherP : Option Addr) (otherN otherC : Nat) (W : World) (R : List Own) (Φ : PW) (J : Value → World → Prop) : Prop :=
  ∀ (w0 : World) (R1 : List Own), Ctx W w0 (R ++ R1) Φ → Calls Tryd.prog F.erratalaw37_small #[] w0 fun (e2 : Ending) (w3 : World) => ∃ (c4 : Bool), e2 = Ending.returned (Value.bool c4) ∧ ∃
  (R5 : List Own), ∃ (Φ6 : PW), Stable Φ6 ∧ Ctx W w3 (R5 ++ R1) Φ6 ∧ ∀ (w7 : World) (R8 : List Own), Ctx W w7 (R5 ++ R8) Φ6 → Calls Tryd.prog F.place_Right #[Value.slice pP pN pC, Value.int
  IntKind.i64 8] w7 fun (e9 : Ending) (w10 : World) => ∃ (c11 : Bool), e9 = Ending.returned (Value.bool c11) ∧ ∃ (R12 : List Own), ∃ (Φ13 : PW), Stable Φ13 ∧ Ctx W w10 (R12 ++ R8) Φ13 ∧ Br
  (!c11) (∀ (w14 : World) (R15 : List Own), Ctx W w14 (R12 ++ R15) Φ13 → J (Value.bool c4) w14) (Br (decide (workers < 1)) (∀ (w16 : World) (R17 : List Own), Ctx W w16 (R12 ++ R17) Φ13 → J
  (Value.bool c4) w16) (Br (decide (8 < workers)) (∀ (w18 : World) (R19 : List Own), Ctx W w18 (R12 ++ R19) Φ13 → J (Value.bool c4) w18) (∀ (w20 : World) (R21 : List Own), Ctx W w20 (R12 ++
  R21) Φ13 → Calls Tryd.prog F.place_Spread #[Value.slice pP pN pC, Value.int IntKind.i64 workers] w20 fun (e22 : Ending) (w23 : World) => ∃ (p24 : Option Addr), ∃ (k25 : Nat), ∃ (k26 : Nat),
  ∃ (n27 : Int), e22 = Ending.returned (Value.tuple #[Value.slice p24 k25 k26, Value.int IntKind.i64 n27]) ∧ ∃ (R28 : List Own), ∃ (Φ29 : PW), Stable Φ29 ∧ Ctx W w23 (R28 ++ R21) Φ29 ∧ Br
  (decide (n27 ≠ 0)) (∀ (w30 : World) (R31 : List Own), Ctx W w30 (R28 ++ R31) Φ29 → J (Value.bool false) w30) (∀ (w32 : World) (R33 : List Own), Ctx W w32 (R28 ++ R33) Φ29 → Calls Tryd.prog
  F.place_Right #[Value.slice p24 k25 k26, Value.int IntKind.i64 workers] w32 fun (e34 : Ending) (w35 : World) => ∃ (c36 : Bool), e34 = Ending.returned (Value.bool c36) ∧ ∃ (R37 : List Own),
  ∃ (Φ38 : PW), Stable Φ38 ∧ Ctx W w35 (R37 ++ R33) Φ38 ∧ Br (!c36) (∀ (w39 : World) (R40 : List Own), Ctx W w39 (R37 ++ R40) Φ38 → J (Value.bool false) w39) (exI fun (I41 : Int → List Own →
  PW → Nat → Prop) => (∃ (R42 : List Own), ∃ (Φ43 : PW), ∃ (k44 : Nat), Stable Φ43 ∧ (∀ (w45 : World) (R46 : List Own), Ctx W w45 (R37 ++ R46) Φ38 → Ctx W w45 (R42 ++ R46) Φ43) ∧ I41 0 R42
  Φ43 k44) ∧ ∀ (n47 : Int) (R48 : List Own) (I49 : List Nat → World → Prop) (k50 : Nat), Stable I49 → I41 n47 R48 I49 k50 → Br (decide (n47 < workers)) (exI fun (I51 : Int → List Own → PW →
  Nat → Prop) => (∃ (R52 : List Own), ∃ (Φ53 : PW), ∃ (k54 : Nat), Stable Φ53 ∧ (∀ (w55 : World) (R56 : List Own), Ctx W w55 (R48 ++ R56) I49 → Ctx W w55 (R52 ++ R56) Φ53) ∧ I51 0 R52 Φ53
  k54) ∧ ∀ (n57 : Int) (R58 : List Own) (I59 : List Nat → World → Prop) (k60 : Nat), Stable I59 → I51 n57 R58 I59 k60 → Br (decide (n57 < workers)) (∀ (w61 : World) (R62 : List Own), Ctx W
  w61 (R58 ++ R62) I59 → Calls Tryd.prog F.erratalaw37_share #[Value.slice p24 k25 k26, Value.int IntKind.i64 n47] w61 fun (e63 : Ending) (w64 : World) => ∃ (n65 : Int), e63 = Ending.returned
  (Value.int IntKind.i64 n65) ∧ ∃ (R66 : List Own), ∃ (Φ67 : PW), Stable Φ67 ∧ Ctx W w64 (R66 ++ R62) Φ67 ∧ ∀ (w68 : World) (R69 : List Own), Ctx W w68 (R66 ++ R69) Φ67 → Calls Tryd.prog
  F.erratalaw37_share #[Value.slice p24 k25 k26, Value.int IntKind.i64 n57] w68 fun (e70 : Ending) (w71 : World) => ∃ (n72 : Int), e70 = Ending.returned (Value.int IntKind.i64 n72) ∧ ∃ (R73 :
  List Own), ∃ (Φ74 : PW), Stable Φ74 ∧ Ctx W w71 (R73 ++ R69) Φ74 ∧ I64 (n65 - n72) ∧ Br (decide (1 < n65 - n72)) (∀ (w75 : World) (R76 : List Own), Ctx W w75 (R73 ++ R76) Φ74 → J
  (Value.bool false) w75) (I64 (n57 + 1) ∧ ∃ (R77 : List Own), ∃ (Φ78 : PW), ∃ (k79 : Nat), Stable Φ78 ∧ (∀ (w80 : World) (R81 : List Own), Ctx W w80 (R73 ++ R81) Φ74 → Ctx W w80 (R77 ++ R81)
  Φ78) ∧ I51 (n57 + 1) R77 Φ78 k79 ∧ k79 < k60)) (I64 (n47 + 1) ∧ ∃ (R82 : List Own), ∃ (Φ83 : PW), ∃ (k84 : Nat), Stable Φ83 ∧ (∀ (w85 : World) (R86 : List Own), Ctx W w85 (R58 ++ R86) I59 →
  Ctx W w85 (R82 ++ R86) Φ83) ∧ I41 (n47 + 1) R82 Φ83 k84 ∧ k84 < k50)) (∀ (w87 : World) (R88 : List Own), Ctx W w87 (R48 ++ R88) I49 → Calls Tryd.prog F.place_Spread #[Value.slice p24 k25
  k26, Value.int IntKind.i64 workers] w87 fun (e89 : Ending) (w90 : World) => ∃ (p91 : Option Addr), ∃ (k92 : Nat), ∃ (k93 : Nat), ∃ (n94 : Int), e89 = Ending.returned (Value.tuple
  #[Value.slice p91 k92 k93, Value.int IntKind.i64 n94]) ∧ ∃ (R95 : List Own), ∃ (Φ96 : PW), Stable Φ96 ∧ Ctx W w90 (R95 ++ R88) Φ96 ∧ Br (decide (n94 ≠ 0)) (∀ (w97 : World) (R98 : List Own),
  Ctx W w97 (R95 ++ R98) Φ96 → J (Value.bool false) w97) (∀ (w99 : World) (R100 : List Own), Ctx W w99 (R95 ++ R100) Φ96 → Calls Tryd.prog F.place_Moved #[Value.slice p24 k25 k26, Value.slice
  p91 k92 k93] w99 fun (e101 : Ending) (w102 : World) => ∃ (p103 : Option Addr), ∃ (k104 : Nat), ∃ (k105 : Nat), e101 = Ending.returned (Value.slice p103 k104 k105) ∧ ∃ (R106 : List Own), ∃
  (Φ107 : PW), Stable Φ107 ∧ Ctx W w102 (R106 ++ R100) Φ107 ∧ Br (decide ((↑k104 : Int) ≠ 0)) (∀ (w108 : World) (R109 : List Own), Ctx W w108 (R106 ++ R109) Φ107 → J (Value.bool false) w108)
  (∀ (w110 : World) (R111 : List Own), Ctx W w110 (R106 ++ R111) Φ107 → Calls Tryd.prog F.place_Right #[Value.slice otherP otherN otherC, Value.int IntKind.i64 workers] w110 fun (e112 :
  Ending) (w113 : World) => ∃ (c114 : Bool), e112 = Ending.returned (Value.bool c114) ∧ ∃ (R115 : List Own), ∃ (Φ116 : PW), Stable Φ116 ∧ Ctx W w113 (R115 ++ R111) Φ116 ∧ Br (!c114) (∀ (w117
  : World) (R118 : List Own), Ctx W w117 (R115 ++ R118) Φ116 → J (Value.bool c4) w117) (exI fun (I119 : Int → List Own → PW → Nat → Prop) => (∃ (R120 : List Own), ∃ (Φ121 : PW), ∃ (k122 :
  Nat), Stable Φ121 ∧ (∀ (w123 : World) (R124 : List Own), Ctx W w123 (R115 ++ R124) Φ116 → Ctx W w123 (R120 ++ R124) Φ121) ∧ I119 0 R120 Φ121 k122) ∧ ∀ (n125 : Int) (R126 : List Own) (I127 :
  List Nat → World → Prop) (k128 : Nat), Stable I127 → I119 n125 R126 I127 k128 → Br (decide (n125 < workers)) (exI fun (I129 : Int → List Own → PW → Nat → Prop) => (∃ (R130 : List Own), ∃
  (Φ131 : PW), ∃ (k132 : Nat), Stable Φ131 ∧ (∀ (w133 : World) (R134 : List Own), Ctx W w133 (R126 ++ R134) I127 → Ctx W w133 (R130 ++ R134) Φ131) ∧ I129 0 R130 Φ131 k132) ∧ ∀ (n135 : Int)
  (R136 : List Own) (I137 : List Nat → World → Prop) (k138 : Nat), Stable I137 → I129 n135 R136 I137 k138 → Br (decide (n135 < workers)) (∀ (w139 : World) (R140 : List Own), Ctx W w139 (R136
  ++ R140) I137 → Calls Tryd.prog F.erratalaw37_share #[Value.slice otherP otherN otherC, Value.int IntKind.i64 n125] w139 fun (e141 : Ending) (w142 : World) => ∃ (n143 : Int), e141 =
  Ending.returned (Value.int IntKind.i64 n143) ∧ ∃ (R144 : List Own), ∃ (Φ145 : PW), Stable Φ145 ∧ Ctx W w142 (R144 ++ R140) Φ145 ∧ ∀ (w146 : World) (R147 : List Own), Ctx W w146 (R144 ++
  R147) Φ145 → Calls Tryd.prog F.erratalaw37_share #[Value.slice otherP otherN otherC, Value.int IntKind.i64 n135] w146 fun (e148 : Ending) (w149 : World) => ∃ (n150 : Int), e148 =
  Ending.returned (Value.int IntKind.i64 n150) ∧ ∃ (R151 : List Own), ∃ (Φ152 : PW), Stable Φ152 ∧ Ctx W w149 (R151 ++ R147) Φ152 ∧ I64 (n143 - n150) ∧ Br (decide (1 < n143 - n150)) (∀ (w153
  : World) (R154 : List Own), Ctx W w153 (R151 ++ R154) Φ152 → J (Value.bool c4) w153) (I64 (n135 + 1) ∧ ∃ (R155 : List Own), ∃ (Φ156 : PW), ∃ (k157 : Nat), Stable Φ156 ∧ (∀ (w158 : World)
  (R159 : List Own), Ctx W w158 (R151 ++ R159) Φ152 → Ctx W w158 (R155 ++ R159) Φ156) ∧ I129 (n135 + 1) R155 Φ156 k157 ∧ k157 < k138)) (I64 (n125 + 1) ∧ ∃ (R160 : List Own), ∃ (Φ161 : PW), ∃
  (k162 : Nat), Stable Φ161 ∧ (∀ (w163 : World) (R164 : List Own), Ctx W w163 (R136 ++ R164) I137 → Ctx W w163 (R160 ++ R164) Φ161) ∧ I119 (n125 + 1) R160 Φ161 k162 ∧ k162 < k128)) (Br c4 (∀
  (w165 : World) (R166 : List Own), Ctx W w165 (R126 ++ R166) I127 → Calls Tryd.prog F.place_Moved #[Value.slice pP pN pC, Value.slice p24 k25 k26] w165 fun (e167 : Ending) (w168 : World) =>
  ∃ (p169 : Option Addr), ∃ (k170 : Nat), ∃ (k171 : Nat), e167 = Ending.returned (Value.slice p169 k170 k171) ∧ ∃ (R172 : List Own), ∃ (Φ173 : PW), Stable Φ173 ∧ Ctx W w168 (R172 ++ R166)
  Φ173 ∧ ∀ (w174 : World) (R175 : List Own), Ctx W w174 (R172 ++ R175) Φ173 → Calls Tryd.prog F.place_Moved #[Value.slice pP pN pC, Value.slice otherP otherN otherC] w174 fun (e176 : Ending)
  (w177 : World) => ∃ (p178 : Option Addr), ∃ (k179 : Nat), ∃ (k180 : Nat), e176 = Ending.returned (Value.slice p178 k179 k180) ∧ ∃ (R181 : List Own), ∃ (Φ182 : PW), Stable Φ182 ∧ Ctx W w177
  (R181 ++ R175) Φ182 ∧ ∀ (w183 : World) (R184 : List Own), Ctx W w183 (R181 ++ R184) Φ182 → J (Value.bool (decide ((↑k170 : Int) ≤ (↑k179 : Int)))) w183) (∀ (w185 : World) (R186 : List Own),
  Ctx W w185 (R126 ++ R186) I127 → J (Value.bool false) w185)))))))))))

/-- erratalaw37.PlaceMoves -/
-- loop at region 15: 14 count, 15 w; blocks 
def Berratalaw37_PlaceMoves (pP : Option Addr) (pN pC : Nat) (bucket : Int) (worker : Int) (workers : Int) (W : World) (R : List Own) (Φ : PW) (J : Value → World → Prop) : Prop :=
  ∀ (w0 : World) (R1 : List Own), Ctx W w0 (R ++ R1) Φ → Calls Tryd.prog F.erratalaw37_small #[] w0 fun (e2 : Ending) (w3 : World) => ∃ (c4 : Bool), e2 = Ending.returned (Value.bool c4) ∧ ∃
  (R5 : List Own), ∃ (Φ6 : PW), Stable Φ6 ∧ Ctx W w3 (R5 ++ R1) Φ6 ∧ Br (decide (40 < (↑pN : Int))) (∀ (w7 : World) (R8 : List Own), Ctx W w7 (R5 ++ R8) Φ6 → J (Value.bool c4) w7) (∀ (w9 :
  World) (R10 : List Own), Ctx W w9 (R5 ++ R10) Φ6 → Calls Tryd.prog F.place_Move #[Value.slice pP pN pC, Value.int IntKind.i64 bucket, Value.int IntKind.i64 worker, Value.int IntKind.i64
  workers] w9 fun (e11 : Ending) (w12 : World) => ∃ (p13 : Option Addr), ∃ (k14 : Nat), ∃ (k15 : Nat), ∃ (n16 : Int), e11 = Ending.returned (Value.tuple #[Value.slice p13 k14 k15, Value.int
  IntKind.i64 n16]) ∧ ∃ (R17 : List Own), ∃ (Φ18 : PW), Stable Φ18 ∧ Ctx W w12 (R17 ++ R10) Φ18 ∧ ∀ (w19 : World) (R20 : List Own), Ctx W w19 (R17 ++ R20) Φ18 → Calls Tryd.prog F.place_Right
  #[Value.slice pP pN pC, Value.int IntKind.i64 workers] w19 fun (e21 : Ending) (w22 : World) => ∃ (c23 : Bool), e21 = Ending.returned (Value.bool c23) ∧ ∃ (R24 : List Own), ∃ (Φ25 : PW),
  Stable Φ25 ∧ Ctx W w22 (R24 ++ R20) Φ25 ∧ Br c23 (Br (decide (0 ≤ bucket)) (Br (decide (bucket < 16)) (Br (decide (0 ≤ worker)) (∀ (w26 : World) (R27 : List Own), Ctx W w26 (R24 ++ R27) Φ25
  → Br (decide (n16 = 0) != decide (worker < workers) || decide (n16 ≠ 0) && decide ((↑k14 : Int) ≠ 0)) (∀ (w28 : World) (R29 : List Own), Ctx W w28 (R24 ++ R29) Φ25 → J (Value.bool false)
  w28) (Br (!decide (worker < workers)) (∀ (w30 : World) (R31 : List Own), Ctx W w30 (R24 ++ R31) Φ25 → J (Value.bool c4) w30) (∀ (w32 : World) (R33 : List Own), Ctx W w32 (R24 ++ R33) Φ25 →
  Calls Tryd.prog F.place_Moved #[Value.slice pP pN pC, Value.slice p13 k14 k15] w32 fun (e34 : Ending) (w35 : World) => ∃ (p36 : Option Addr), ∃ (k37 : Nat), ∃ (k38 : Nat), e34 =
  Ending.returned (Value.slice p36 k37 k38) ∧ ∃ (R39 : List Own), ∃ (Φ40 : PW), Stable Φ40 ∧ Ctx W w35 (R39 ++ R33) Φ40 ∧ ∀ (w41 : World) (R42 : List Own), Ctx W w41 (R39 ++ R42) Φ40 →
  ((!decide (1 < (↑k37 : Int)) && decide ((↑k37 : Int) = 1)) = true → (0 : Int) ≤ 0 ∧ 0 < (↑k37 : Int)) ∧ ptrK (some (!decide (1 < (↑k37 : Int)) && decide ((↑k37 : Int) = 1))) p36 fun (k43
  k44 : Nat) => ∃ (n45 : Int), ((!decide (1 < (↑k37 : Int)) && decide ((↑k37 : Int) = 1)) = true → w41.cell? (Addr.mk k43 k44 none) = some (Value.int IntKind.i64 n45)) ∧ ((!(decide (1 < (↑k37
  : Int)) || decide ((↑k37 : Int) = 1) && decide (n45 ≠ bucket))) = true → 0 ≤ bucket ∧ bucket < (↑k14 : Int)) ∧ ptrK (some !(decide (1 < (↑k37 : Int)) || decide ((↑k37 : Int) = 1) && decide
  (n45 ≠ bucket))) p13 fun (k46 k47 : Nat) => ∃ (n48 : Int), ((!(decide (1 < (↑k37 : Int)) || decide ((↑k37 : Int) = 1) && decide (n45 ≠ bucket))) = true → w41.cell? (Addr.mk k46 (k47 +
  bucket.toNat) none) = some (Value.int IntKind.i64 n48)) ∧ ((!(decide (1 < (↑k37 : Int)) || decide ((↑k37 : Int) = 1) && decide (n45 ≠ bucket) || decide (n48 ≠ worker))) = true → 0 ≤ bucket
  ∧ bucket < (↑pN : Int)) ∧ ptrK (some !(decide (1 < (↑k37 : Int)) || decide ((↑k37 : Int) = 1) && decide (n45 ≠ bucket) || decide (n48 ≠ worker))) pP fun (k49 k50 : Nat) => ∃ (n51 : Int),
  ((!(decide (1 < (↑k37 : Int)) || decide ((↑k37 : Int) = 1) && decide (n45 ≠ bucket) || decide (n48 ≠ worker))) = true → w41.cell? (Addr.mk k49 (k50 + bucket.toNat) none) = some (Value.int
  IntKind.i64 n51)) ∧ Br (decide (1 < (↑k37 : Int)) || decide ((↑k37 : Int) = 1) && decide (n45 ≠ bucket) || decide (n48 ≠ worker) || decide ((↑k37 : Int) = 0) != decide (n51 = worker)) (∀
  (w52 : World) (R53 : List Own), Ctx W w52 (R39 ++ R53) Φ40 → J (Value.bool false) w52) (exI fun (I54 : Int → Int → List Own → PW → Nat → Prop) => (∃ (R55 : List Own), ∃ (Φ56 : PW), ∃ (k57 :
  Nat), Stable Φ56 ∧ (∀ (w58 : World) (R59 : List Own), Ctx W w58 (R39 ++ R59) Φ40 → Ctx W w58 (R55 ++ R59) Φ56) ∧ I54 0 0 R55 Φ56 k57) ∧ ∀ (n60 n61 : Int) (R62 : List Own) (I63 : List Nat →
  World → Prop) (k64 : Nat), Stable I63 → I54 n60 n61 R62 I63 k64 → Br (decide (n61 < workers)) (∀ (w65 : World) (R66 : List Own), Ctx W w65 (R62 ++ R66) I63 → Calls Tryd.prog
  F.erratalaw37_share #[Value.slice p13 k14 k15, Value.int IntKind.i64 n61] w65 fun (e67 : Ending) (w68 : World) => ∃ (n69 : Int), e67 = Ending.returned (Value.int IntKind.i64 n69) ∧ ∃ (R70 :
  List Own), ∃ (Φ71 : PW), Stable Φ71 ∧ Ctx W w68 (R70 ++ R66) Φ71 ∧ I64 (n60 + n69) ∧ I64 (n61 + 1) ∧ ∃ (R72 : List Own), ∃ (Φ73 : PW), ∃ (k74 : Nat), Stable Φ73 ∧ (∀ (w75 : World) (R76 :
  List Own), Ctx W w75 (R70 ++ R76) Φ71 → Ctx W w75 (R72 ++ R76) Φ73) ∧ I54 (n60 + n69) (n61 + 1) R72 Φ73 k74 ∧ k74 < k64) (∀ (w77 : World) (R78 : List Own), Ctx W w77 (R62 ++ R78) I63 →
  Calls Tryd.prog F.place_Even #[Value.int IntKind.i64 workers] w77 fun (e79 : Ending) (w80 : World) => ∃ (p81 : Option Addr), ∃ (k82 : Nat), ∃ (k83 : Nat), e79 = Ending.returned (Value.slice
  p81 k82 k83) ∧ ∃ (R84 : List Own), ∃ (Φ85 : PW), Stable Φ85 ∧ Ctx W w80 (R84 ++ R78) Φ85 ∧ ∀ (w86 : World) (R87 : List Own), Ctx W w86 (R84 ++ R87) Φ85 → Calls Tryd.prog F.place_Spread
  #[Value.slice p81 k82 k83, Value.int IntKind.i64 workers] w86 fun (e88 : Ending) (w89 : World) => ∃ (p90 : Option Addr), ∃ (k91 : Nat), ∃ (k92 : Nat), ∃ (n93 : Int), e88 = Ending.returned
  (Value.tuple #[Value.slice p90 k91 k92, Value.int IntKind.i64 n93]) ∧ ∃ (R94 : List Own), ∃ (Φ95 : PW), Stable Φ95 ∧ Ctx W w89 (R94 ++ R87) Φ95 ∧ Br c4 (Br (decide (n60 = 16)) (∀ (w96 :
  World) (R97 : List Own), Ctx W w96 (R94 ++ R97) Φ95 → Calls Tryd.prog F.place_Right #[Value.slice p81 k82 k83, Value.int IntKind.i64 workers] w96 fun (e98 : Ending) (w99 : World) => ∃ (c100
  : Bool), e98 = Ending.returned (Value.bool c100) ∧ ∃ (R101 : List Own), ∃ (Φ102 : PW), Stable Φ102 ∧ Ctx W w99 (R101 ++ R97) Φ102 ∧ Br c100 (Br (decide (n93 = 0)) (∀ (w103 : World) (R104 :
  List Own), Ctx W w103 (R101 ++ R104) Φ102 → Calls Tryd.prog F.place_Moved #[Value.slice p81 k82 k83, Value.slice p90 k91 k92] w103 fun (e105 : Ending) (w106 : World) => ∃ (p107 : Option
  Addr), ∃ (k108 : Nat), ∃ (k109 : Nat), e105 = Ending.returned (Value.slice p107 k108 k109) ∧ ∃ (R110 : List Own), ∃ (Φ111 : PW), Stable Φ111 ∧ Ctx W w106 (R110 ++ R104) Φ111 ∧ ∀ (w112 :
  World) (R113 : List Own), Ctx W w112 (R110 ++ R113) Φ111 → J (Value.bool (decide ((↑k108 : Int) = 0))) w112) (∀ (w114 : World) (R115 : List Own), Ctx W w114 (R101 ++ R115) Φ102 → J
  (Value.bool false) w114)) (∀ (w116 : World) (R117 : List Own), Ctx W w116 (R101 ++ R117) Φ102 → J (Value.bool false) w116)) (∀ (w118 : World) (R119 : List Own), Ctx W w118 (R94 ++ R119) Φ95
  → J (Value.bool false) w118)) (∀ (w120 : World) (R121 : List Own), Ctx W w120 (R94 ++ R121) Φ95 → J (Value.bool false) w120)))))) (∀ (w122 : World) (R123 : List Own), Ctx W w122 (R24 ++
  R123) Φ25 → Br (decide (n16 = 0) != false || decide (n16 ≠ 0) && decide ((↑k14 : Int) ≠ 0)) (∀ (w124 : World) (R125 : List Own), Ctx W w124 (R24 ++ R125) Φ25 → J (Value.bool false) w124) (∀
  (w126 : World) (R127 : List Own), Ctx W w126 (R24 ++ R127) Φ25 → J (Value.bool c4) w126))) (∀ (w128 : World) (R129 : List Own), Ctx W w128 (R24 ++ R129) Φ25 → Br (decide (n16 = 0) != false
  || decide (n16 ≠ 0) && decide ((↑k14 : Int) ≠ 0)) (∀ (w130 : World) (R131 : List Own), Ctx W w130 (R24 ++ R131) Φ25 → J (Value.bool false) w130) (∀ (w132 : World) (R133 : List Own), Ctx W
  w132 (R24 ++ R133) Φ25 → J (Value.bool c4) w132))) (∀ (w134 : World) (R135 : List Own), Ctx W w134 (R24 ++ R135) Φ25 → Br (decide (n16 = 0) != false || decide (n16 ≠ 0) && decide ((↑k14 :
  Int) ≠ 0)) (∀ (w136 : World) (R137 : List Own), Ctx W w136 (R24 ++ R137) Φ25 → J (Value.bool false) w136) (∀ (w138 : World) (R139 : List Own), Ctx W w138 (R24 ++ R139) Φ25 → J (Value.bool
  c4) w138))) (∀ (w140 : World) (R141 : List Own), Ctx W w140 (R24 ++ R141) Φ25 → Br (decide (n16 = 0) != false || decide (n16 ≠ 0) && decide ((↑k14 : Int) ≠ 0)) (∀ (w142 : World) (R143 :
  List Own), Ctx W w142 (R24 ++ R143) Φ25 → J (Value.bool false) w142) (∀ (w144 : World) (R145 : List Own), Ctx W w144 (R24 ++ R145) Φ25 → J (Value.bool c4) w144)))

/-- erratalaw37.PlaceKeys -/
-- known blocks: 6 n
def Berratalaw37_PlaceKeys (n0 : Int) (n1P : Option Addr) (n1N n1C : Nat) (n2 : ByteArray) (n3 : Int) (n4P : Option Addr) (n4N n4C : Nat) (n5 : Int) (n6 : Int) (n7 : Int) (n8P : Option Addr) (n8N n8C : Nat) (n9P : Option Addr) (n9N n9C : Nat) (n10 : Int) (n11 : Int) (n12 : Int) (n13P : Option Addr) (n13N n13C : Nat) (n14P : Option Addr) (n14N n14C : Nat) (n15P : Option Addr) (n15N n15C : Nat) (aP : Option Addr) (aN aC : Nat) (bP : Option Addr) (bN bC : Nat) (inx : Int) (other : Int) (bucket : Int) (W : World) (R : List Own) (Φ : PW) (J : Value → World → Prop) : Prop :=
  ∀ (b : Nat) (w0 : World) (R1 : List Own), Ctx W w0 (R ++ R1) Φ → Calls Tryd.prog F.erratalaw37_small #[] w0 fun (e2 : Ending) (w3 : World) => ∃ (c4 : Bool), e2 = Ending.returned (Value.bool
  c4) ∧ ∃ (R5 : List Own), ∃ (Φ6 : PW), Stable Φ6 ∧ Ctx W w3 (R5 ++ R1) Φ6 ∧ ∀ (w7 : World) (R8 : List Own), Ctx W w7 (R5 ++ R8) Φ6 → Calls Tryd.prog F.errataref03_Short #[Value.slice aP aN
  aC, Value.int IntKind.i64 13] w7 fun (e9 : Ending) (w10 : World) => ∃ (c11 : Bool), e9 = Ending.returned (Value.bool c11) ∧ ∃ (R12 : List Own), ∃ (Φ13 : PW), Stable Φ13 ∧ Ctx W w10 (R12 ++
  R8) Φ13 ∧ Br (!c11) (∀ (w14 : World) (R15 : List Own), Ctx W w14 (R12 ++ R15) Φ13 → J (Value.bool c4) w14) (∀ (w16 : World) (R17 : List Own), Ctx W w16 (R12 ++ R17) Φ13 → Calls Tryd.prog
  F.errataref03_Short #[Value.slice bP bN bC, Value.int IntKind.i64 13] w16 fun (e18 : Ending) (w19 : World) => ∃ (c20 : Bool), e18 = Ending.returned (Value.bool c20) ∧ ∃ (R21 : List Own), ∃
  (Φ22 : PW), Stable Φ22 ∧ Ctx W w19 (R21 ++ R17) Φ22 ∧ Br (!c20) (∀ (w23 : World) (R24 : List Own), Ctx W w23 (R21 ++ R24) Φ22 → J (Value.bool c4) w23) (Br (decide (13 < (↑n8N : Int))) (∀
  (w25 : World) (R26 : List Own), Ctx W w25 (R21 ++ R26) Φ22 → J (Value.bool c4) w25) (Br (decide (13 < (↑n9N : Int))) (∀ (w27 : World) (R28 : List Own), Ctx W w27 (R21 ++ R28) Φ22 → J
  (Value.bool c4) w27) (∀ (w29 : World) (R30 : List Own), Ctx W w29 (R21 ++ R30) Φ22 → Calls Tryd.prog F.place_Key #[Value.agg #[Value.int IntKind.i64 n0, Value.slice n1P n1N n1C,
  Value.string n2, Value.int IntKind.i64 n3, Value.slice n4P n4N n4C, Value.int IntKind.i64 n5, Value.int IntKind.i64 n6, Value.int IntKind.i64 n7, Value.slice n8P n8N n8C, Value.slice n9P
  n9N n9C, Value.int IntKind.i64 n10, Value.int IntKind.i64 n11, Value.int IntKind.i64 n12, Value.slice n13P n13N n13C, Value.slice n14P n14N n14C, Value.slice n15P n15N n15C], Value.int
  IntKind.i64 inx] w29 fun (e31 : Ending) (w32 : World) => ∃ (p33 : Option Addr), ∃ (k34 : Nat), ∃ (k35 : Nat), ∃ (c36 : Bool), e31 = Ending.returned (Value.tuple #[Value.slice p33 k34 k35,
  Value.bool c36]) ∧ ∃ (R37 : List Own), ∃ (Φ38 : PW), Stable Φ38 ∧ Ctx W w32 (R37 ++ R30) Φ38 ∧ ∀ (w39 : World) (R40 : List Own), Ctx W w39 (R37 ++ R40) Φ38 → Calls Tryd.prog F.place_Key
  #[Value.agg #[Value.int IntKind.i64 n0, Value.slice n1P n1N n1C, Value.string n2, Value.int IntKind.i64 n3, Value.slice n4P n4N n4C, Value.int IntKind.i64 n5, Value.int IntKind.i64 n6,
  Value.int IntKind.i64 n7, Value.slice n8P n8N n8C, Value.slice n9P n9N n9C, Value.int IntKind.i64 n10, Value.int IntKind.i64 n11, Value.int IntKind.i64 n12, Value.slice n13P n13N n13C,
  Value.slice n14P n14N n14C, Value.slice n15P n15N n15C], Value.int IntKind.i64 other] w39 fun (e41 : Ending) (w42 : World) => ∃ (p43 : Option Addr), ∃ (k44 : Nat), ∃ (k45 : Nat), ∃ (c46 :
  Bool), e41 = Ending.returned (Value.tuple #[Value.slice p43 k44 k45, Value.bool c46]) ∧ ∃ (R47 : List Own), ∃ (Φ48 : PW), Stable Φ48 ∧ Ctx W w42 (R47 ++ R40) Φ48 ∧ Br (!c36) (∀ (w49 :
  World) (R50 : List Own), Ctx W w49 (R47 ++ R50) Φ48 → Calls Tryd.prog F.place_Need #[Value.agg #[Value.int IntKind.i64 n0, Value.slice n1P n1N n1C, Value.string n2, Value.int IntKind.i64
  n3, Value.slice n4P n4N n4C, Value.int IntKind.i64 n5, Value.int IntKind.i64 n6, Value.int IntKind.i64 n7, Value.slice n8P n8N n8C, Value.slice n9P n9N n9C, Value.int IntKind.i64 n10,
  Value.int IntKind.i64 n11, Value.int IntKind.i64 n12, Value.slice n13P n13N n13C, Value.slice n14P n14N n14C, Value.slice n15P n15N n15C], Value.int IntKind.i64 inx, Value.int IntKind.i64
  bucket, Value.slice aP aN aC] w49 fun (e51 : Ending) (w52 : World) => ∃ (n53 : Int), e51 = Ending.returned (Value.int IntKind.i64 n53) ∧ ∃ (R54 : List Own), ∃ (Φ55 : PW), Stable Φ55 ∧ Ctx W
  w52 (R54 ++ R50) Φ55 ∧ Br (decide (n53 ≠ bucket)) (∀ (w56 : World) (R57 : List Own), Ctx W w56 (R54 ++ R57) Φ55 → J (Value.bool false) w56) (∀ (w58 : World) (R59 : List Own), Ctx W w58 (R54
  ++ R59) Φ55 → Br (!c36 || !c46) (∀ (w60 : World) (R61 : List Own), Ctx W w60 (R54 ++ R61) Φ55 → J (Value.bool c4) w60) (∀ (w62 : World) (R63 : List Own), Ctx W w62 (R54 ++ R63) Φ55 → Calls
  Tryd.prog F.place_Need #[Value.agg #[Value.int IntKind.i64 n0, Value.slice n1P n1N n1C, Value.string n2, Value.int IntKind.i64 n3, Value.slice n4P n4N n4C, Value.int IntKind.i64 n5,
  Value.int IntKind.i64 n6, Value.int IntKind.i64 n7, Value.slice n8P n8N n8C, Value.slice n9P n9N n9C, Value.int IntKind.i64 n10, Value.int IntKind.i64 n11, Value.int IntKind.i64 n12,
  Value.slice n13P n13N n13C, Value.slice n14P n14N n14C, Value.slice n15P n15N n15C], Value.int IntKind.i64 inx, Value.int IntKind.i64 bucket, Value.slice aP aN aC] w62 fun (e64 : Ending)
  (w65 : World) => ∃ (n66 : Int), e64 = Ending.returned (Value.int IntKind.i64 n66) ∧ ∃ (R67 : List Own), ∃ (Φ68 : PW), Stable Φ68 ∧ Ctx W w65 (R67 ++ R63) Φ68 ∧ ∀ (w69 : World) (R70 : List
  Own), Ctx W w69 (R67 ++ R70) Φ68 → Calls Tryd.prog F.place_Need #[Value.agg #[Value.int IntKind.i64 n0, Value.slice n1P n1N n1C, Value.string n2, Value.int IntKind.i64 n3, Value.slice n4P
  n4N n4C, Value.int IntKind.i64 n5, Value.int IntKind.i64 n6, Value.int IntKind.i64 n7, Value.slice n8P n8N n8C, Value.slice n9P n9N n9C, Value.int IntKind.i64 n10, Value.int IntKind.i64
  n11, Value.int IntKind.i64 n12, Value.slice n13P n13N n13C, Value.slice n14P n14N n14C, Value.slice n15P n15N n15C], Value.int IntKind.i64 other, Value.int IntKind.i64 (IntKind.i64.wrap
  (bucket + 1)), Value.slice bP bN bC] w69 fun (e71 : Ending) (w72 : World) => ∃ (n73 : Int), e71 = Ending.returned (Value.int IntKind.i64 n73) ∧ ∃ (R74 : List Own), ∃ (Φ75 : PW), Stable Φ75
  ∧ Ctx W w72 (R74 ++ R70) Φ75 ∧ Br (decide (n66 < 0)) (∀ (w76 : World) (R77 : List Own), Ctx W w76 (R74 ++ R77) Φ75 → J (Value.bool false) w76) (Br (decide (16 ≤ n66)) (∀ (w78 : World) (R79
  : List Own), Ctx W w78 (R74 ++ R79) Φ75 → J (Value.bool false) w78) (∀ (w80 : World) (R81 : List Own), Ctx W w80 (R74 ++ R81) Φ75 → Calls Tryd.prog F.place_Need #[Value.agg #[Value.int
  IntKind.i64 n0, Value.slice n1P n1N n1C, Value.string n2, Value.int IntKind.i64 n3, Value.slice n4P n4N n4C, Value.int IntKind.i64 n5, Value.int IntKind.i64 n6, Value.int IntKind.i64 n7,
  Value.slice n8P n8N n8C, Value.slice n9P n9N n9C, Value.int IntKind.i64 n10, Value.int IntKind.i64 n11, Value.int IntKind.i64 n12, Value.slice n13P n13N n13C, Value.slice n14P n14N n14C,
  Value.slice n15P n15N n15C], Value.int IntKind.i64 inx, Value.int IntKind.i64 0, Value.slice aP aN aC] w80 fun (e82 : Ending) (w83 : World) => ∃ (n84 : Int), e82 = Ending.returned
  (Value.int IntKind.i64 n84) ∧ ∃ (R85 : List Own), ∃ (Φ86 : PW), Stable Φ86 ∧ Ctx W w83 (R85 ++ R81) Φ86 ∧ Br (decide (n66 ≠ n84)) (∀ (w87 : World) (R88 : List Own), Ctx W w87 (R85 ++ R88)
  Φ86 → J (Value.bool false) w87) (∀ (w89 : World) (R90 : List Own), Ctx W w89 (R85 ++ R90) Φ86 → Calls Tryd.prog F.erratalaw37_values #[Value.slice aP aN aC, Value.slice p33 k34 k35] w89 fun
  (e91 : Ending) (w92 : World) => ∃ (p93 : Option Addr), ∃ (k94 : Nat), ∃ (k95 : Nat), e91 = Ending.returned (Value.slice p93 k94 k95) ∧ ∃ (R96 : List Own), ∃ (Φ97 : PW), Stable Φ97 ∧ Ctx W
  w92 (R96 ++ R90) Φ97 ∧ ∀ (w98 : World) (R99 : List Own), Ctx W w98 (R96 ++ R99) Φ97 → Calls Tryd.prog F.place_Bucket #[Value.slice p93 k94 k95] w98 fun (e100 : Ending) (w101 : World) => ∃
  (n102 : Int), e100 = Ending.returned (Value.int IntKind.i64 n102) ∧ ∃ (R103 : List Own), ∃ (Φ104 : PW), Stable Φ104 ∧ Ctx W w101 (R103 ++ R99) Φ104 ∧ Br (decide (n66 ≠ n102)) (∀ (w105 :
  World) (R106 : List Own), Ctx W w105 (R103 ++ R106) Φ104 → J (Value.bool false) w105) (Br c4 (∀ (w107 : World) (R108 : List Own), Ctx W w107 (R103 ++ R108) Φ104 → Calls Tryd.prog
  F.erratalaw37_values #[Value.slice aP aN aC, Value.slice p33 k34 k35] w107 fun (e109 : Ending) (w110 : World) => ∃ (p111 : Option Addr), ∃ (k112 : Nat), ∃ (k113 : Nat), e109 =
  Ending.returned (Value.slice p111 k112 k113) ∧ ∃ (R114 : List Own), ∃ (Φ115 : PW), Stable Φ115 ∧ Ctx W w110 (R114 ++ R108) Φ115 ∧ ∀ (w116 : World) (R117 : List Own), Ctx W w116 (R114 ++
  R117) Φ115 → Calls Tryd.prog F.erratalaw37_values #[Value.slice bP bN bC, Value.slice p43 k44 k45] w116 fun (e118 : Ending) (w119 : World) => ∃ (p120 : Option Addr), ∃ (k121 : Nat), ∃ (k122
  : Nat), e118 = Ending.returned (Value.slice p120 k121 k122) ∧ ∃ (R123 : List Own), ∃ (Φ124 : PW), Stable Φ124 ∧ Ctx W w119 (R123 ++ R117) Φ124 ∧ ∀ (w125 : World) (R126 : List Own), Ctx W
  w125 (R123 ++ R126) Φ124 → Calls Tryd.prog F.value_SameRows #[Value.slice p111 k112 k113, Value.slice p120 k121 k122] w125 fun (e127 : Ending) (w128 : World) => ∃ (c129 : Bool), e127 =
  Ending.returned (Value.bool c129) ∧ ∃ (R130 : List Own), ∃ (Φ131 : PW), Stable Φ131 ∧ Ctx W w128 (R130 ++ R126) Φ131 ∧ Br (!c129) (∀ (w132 : World) (R133 : List Own), Ctx W w132 (R130 ++
  R133) Φ131 → J (Value.bool true) w132) (∀ (w134 : World) (R135 : List Own), Ctx W w134 (R130 ++ R135) Φ131 → J (Value.bool (decide (n66 = n73))) w134)) (∀ (w136 : World) (R137 : List Own),
  Ctx W w136 (R103 ++ R137) Φ104 → J (Value.bool false) w136)))))))) (∀ (w138 : World) (R139 : List Own), Ctx W w138 (R47 ++ R139) Φ48 → Br (!c36 || !c46) (∀ (w140 : World) (R141 : List Own),
  Ctx W w140 (R47 ++ R141) Φ48 → J (Value.bool c4) w140) (∀ (w142 : World) (R143 : List Own), Ctx W w142 (R47 ++ R143) Φ48 → Calls Tryd.prog F.place_Need #[Value.agg #[Value.int IntKind.i64
  n0, Value.slice n1P n1N n1C, Value.string n2, Value.int IntKind.i64 n3, Value.slice n4P n4N n4C, Value.int IntKind.i64 n5, Value.int IntKind.i64 n6, Value.int IntKind.i64 n7, Value.slice
  n8P n8N n8C, Value.slice n9P n9N n9C, Value.int IntKind.i64 n10, Value.int IntKind.i64 n11, Value.int IntKind.i64 n12, Value.slice n13P n13N n13C, Value.slice n14P n14N n14C, Value.slice
  n15P n15N n15C], Value.int IntKind.i64 inx, Value.int IntKind.i64 bucket, Value.slice aP aN aC] w142 fun (e144 : Ending) (w145 : World) => ∃ (n146 : Int), e144 = Ending.returned (Value.int
  IntKind.i64 n146) ∧ ∃ (R147 : List Own), ∃ (Φ148 : PW), Stable Φ148 ∧ Ctx W w145 (R147 ++ R143) Φ148 ∧ ∀ (w149 : World) (R150 : List Own), Ctx W w149 (R147 ++ R150) Φ148 → Calls Tryd.prog
  F.place_Need #[Value.agg #[Value.int IntKind.i64 n0, Value.slice n1P n1N n1C, Value.string n2, Value.int IntKind.i64 n3, Value.slice n4P n4N n4C, Value.int IntKind.i64 n5, Value.int
  IntKind.i64 n6, Value.int IntKind.i64 n7, Value.slice n8P n8N n8C, Value.slice n9P n9N n9C, Value.int IntKind.i64 n10, Value.int IntKind.i64 n11, Value.int IntKind.i64 n12, Value.slice n13P
  n13N n13C, Value.slice n14P n14N n14C, Value.slice n15P n15N n15C], Value.int IntKind.i64 other, Value.int IntKind.i64 (IntKind.i64.wrap (bucket + 1)), Value.slice bP bN bC] w149 fun (e151
  : Ending) (w152 : World) => ∃ (n153 : Int), e151 = Ending.returned (Value.int IntKind.i64 n153) ∧ ∃ (R154 : List Own), ∃ (Φ155 : PW), Stable Φ155 ∧ Ctx W w152 (R154 ++ R150) Φ155 ∧ Br
  (decide (n146 < 0)) (∀ (w156 : World) (R157 : List Own), Ctx W w156 (R154 ++ R157) Φ155 → J (Value.bool false) w156) (Br (decide (16 ≤ n146)) (∀ (w158 : World) (R159 : List Own), Ctx W w158
  (R154 ++ R159) Φ155 → J (Value.bool false) w158) (∀ (w160 : World) (R161 : List Own), Ctx W w160 (R154 ++ R161) Φ155 → Calls Tryd.prog F.place_Need #[Value.agg #[Value.int IntKind.i64 n0,
  Value.slice n1P n1N n1C, Value.string n2, Value.int IntKind.i64 n3, Value.slice n4P n4N n4C, Value.int IntKind.i64 n5, Value.int IntKind.i64 n6, Value.int IntKind.i64 n7, Value.slice n8P
  n8N n8C, Value.slice n9P n9N n9C, Value.int IntKind.i64 n10, Value.int IntKind.i64 n11, Value.int IntKind.i64 n12, Value.slice n13P n13N n13C, Value.slice n14P n14N n14C, Value.slice n15P
  n15N n15C], Value.int IntKind.i64 inx, Value.int IntKind.i64 0, Value.slice aP aN aC] w160 fun (e162 : Ending) (w163 : World) => ∃ (n164 : Int), e162 = Ending.returned (Value.int
  IntKind.i64 n164) ∧ ∃ (R165 : List Own), ∃ (Φ166 : PW), Stable Φ166 ∧ Ctx W w163 (R165 ++ R161) Φ166 ∧ Br (decide (n146 ≠ n164)) (∀ (w167 : World) (R168 : List Own), Ctx W w167 (R165 ++
  R168) Φ166 → J (Value.bool false) w167) (∀ (w169 : World) (R170 : List Own), Ctx W w169 (R165 ++ R170) Φ166 → Calls Tryd.prog F.erratalaw37_values #[Value.slice aP aN aC, Value.slice p33
  k34 k35] w169 fun (e171 : Ending) (w172 : World) => ∃ (p173 : Option Addr), ∃ (k174 : Nat), ∃ (k175 : Nat), e171 = Ending.returned (Value.slice p173 k174 k175) ∧ ∃ (R176 : List Own), ∃
  (Φ177 : PW), Stable Φ177 ∧ Ctx W w172 (R176 ++ R170) Φ177 ∧ ∀ (w178 : World) (R179 : List Own), Ctx W w178 (R176 ++ R179) Φ177 → Calls Tryd.prog F.place_Bucket #[Value.slice p173 k174 k175]
  w178 fun (e180 : Ending) (w181 : World) => ∃ (n182 : Int), e180 = Ending.returned (Value.int IntKind.i64 n182) ∧ ∃ (R183 : List Own), ∃ (Φ184 : PW), Stable Φ184 ∧ Ctx W w181 (R183 ++ R179)
  Φ184 ∧ Br (decide (n146 ≠ n182)) (∀ (w185 : World) (R186 : List Own), Ctx W w185 (R183 ++ R186) Φ184 → J (Value.bool false) w185) (Br c4 (∀ (w187 : World) (R188 : List Own), Ctx W w187
  (R183 ++ R188) Φ184 → Calls Tryd.prog F.erratalaw37_values #[Value.slice aP aN aC, Value.slice p33 k34 k35] w187 fun (e189 : Ending) (w190 : World) => ∃ (p191 : Option Addr), ∃ (k192 :
  Nat), ∃ (k193 : Nat), e189 = Ending.returned (Value.slice p191 k192 k193) ∧ ∃ (R194 : List Own), ∃ (Φ195 : PW), Stable Φ195 ∧ Ctx W w190 (R194 ++ R188) Φ195 ∧ ∀ (w196 : World) (R197 : List
  Own), Ctx W w196 (R194 ++ R197) Φ195 → Calls Tryd.prog F.erratalaw37_values #[Value.slice bP bN bC, Value.slice p43 k44 k45] w196 fun (e198 : Ending) (w199 : World) => ∃ (p200 : Option
  Addr), ∃ (k201 : Nat), ∃ (k202 : Nat), e198 = Ending.returned (Value.slice p200 k201 k202) ∧ ∃ (R203 : List Own), ∃ (Φ204 : PW), Stable Φ204 ∧ Ctx W w199 (R203 ++ R197) Φ204 ∧ ∀ (w205 :
  World) (R206 : List Own), Ctx W w205 (R203 ++ R206) Φ204 → Calls Tryd.prog F.value_SameRows #[Value.slice p191 k192 k193, Value.slice p200 k201 k202] w205 fun (e207 : Ending) (w208 : World)
  => ∃ (c209 : Bool), e207 = Ending.returned (Value.bool c209) ∧ ∃ (R210 : List Own), ∃ (Φ211 : PW), Stable Φ211 ∧ Ctx W w208 (R210 ++ R206) Φ211 ∧ Br (!c209) (∀ (w212 : World) (R213 : List
  Own), Ctx W w212 (R210 ++ R213) Φ211 → J (Value.bool true) w212) (∀ (w214 : World) (R215 : List Own), Ctx W w214 (R210 ++ R215) Φ211 → J (Value.bool (decide (n146 = n153))) w214)) (∀ (w216
  : World) (R217 : List Own), Ctx W w216 (R183 ++ R217) Φ184 → J (Value.bool false) w216)))))))))))

/-- erratalaw37.small -/
def Berratalaw37_small  (W : World) (R : List Own) (Φ : PW) (J : Value → World → Prop) : Prop :=
  ∀ (w0 : World) (R1 : List Own), Ctx W w0 (R ++ R1) Φ → Calls Tryd.prog F.place_Bucket #[Value.slice none 0 0] w0 fun (e2 : Ending) (w3 : World) => ∃ (n4 : Int), e2 = Ending.returned
  (Value.int IntKind.i64 n4) ∧ ∃ (R5 : List Own), ∃ (Φ6 : PW), Stable Φ6 ∧ Ctx W w3 (R5 ++ R1) Φ6 ∧ Br (decide (n4 = 11)) (∀ (k7 : Nat) (w8 : World) (R9 : List Own), Ctx W w8 (Own.blk k7
  [Value.int IntKind.i64 0, Value.int IntKind.i64 0, Value.string (ByteArray.mk #[])] 99 :: R5 ++ R9) Φ6 → Calls Tryd.prog F.place_Bucket #[Value.slice (some (Addr.mk k7 0 none)) 1 1] w8 fun
  (e10 : Ending) (w11 : World) => ∃ (n12 : Int), e10 = Ending.returned (Value.int IntKind.i64 n12) ∧ ∃ (R13 : List Own), ∃ (Φ14 : PW), Stable Φ14 ∧ Ctx W w11 (R13 ++ R9) Φ14 ∧ ∀ (w15 : World)
  (R16 : List Own), Ctx W w15 (R13 ++ R16) Φ14 → Calls Tryd.prog F.place_Even #[Value.int IntKind.i64 3] w15 fun (e17 : Ending) (w18 : World) => ∃ (p19 : Option Addr), ∃ (k20 : Nat), ∃ (k21 :
  Nat), e17 = Ending.returned (Value.slice p19 k20 k21) ∧ ∃ (R22 : List Own), ∃ (Φ23 : PW), Stable Φ23 ∧ Ctx W w18 (R22 ++ R16) Φ23 ∧ ∀ (k24 : Nat) (w25 : World) (R26 : List Own), Ctx W w25
  (Own.blk k24 [Value.int IntKind.i64 0, Value.int IntKind.i64 0, Value.int IntKind.i64 0, Value.int IntKind.i64 0, Value.int IntKind.i64 0, Value.int IntKind.i64 0, Value.int IntKind.i64 1,
  Value.int IntKind.i64 1, Value.int IntKind.i64 1, Value.int IntKind.i64 1, Value.int IntKind.i64 1, Value.int IntKind.i64 2, Value.int IntKind.i64 2, Value.int IntKind.i64 2, Value.int
  IntKind.i64 2, Value.int IntKind.i64 2] 3 :: R22 ++ R26) Φ23 → Calls Tryd.prog F.errataref37_SameInts #[Value.slice p19 k20 k21, Value.slice (some (Addr.mk k24 0 none)) 16 16] w25 fun (e27
  : Ending) (w28 : World) => ∃ (c29 : Bool), e27 = Ending.returned (Value.bool c29) ∧ ∃ (R30 : List Own), ∃ (Φ31 : PW), Stable Φ31 ∧ Ctx W w28 (R30 ++ R26) Φ31 ∧ ∀ (w32 : World) (R33 : List
  Own), Ctx W w32 (R30 ++ R33) Φ31 → Calls Tryd.prog F.place_Even #[Value.int IntKind.i64 3] w32 fun (e34 : Ending) (w35 : World) => ∃ (p36 : Option Addr), ∃ (k37 : Nat), ∃ (k38 : Nat), e34 =
  Ending.returned (Value.slice p36 k37 k38) ∧ ∃ (R39 : List Own), ∃ (Φ40 : PW), Stable Φ40 ∧ Ctx W w35 (R39 ++ R33) Φ40 ∧ ∀ (w41 : World) (R42 : List Own), Ctx W w41 (R39 ++ R42) Φ40 → Calls
  Tryd.prog F.place_Spread #[Value.slice p36 k37 k38, Value.int IntKind.i64 2] w41 fun (e43 : Ending) (w44 : World) => ∃ (p45 : Option Addr), ∃ (k46 : Nat), ∃ (k47 : Nat), ∃ (n48 : Int), e43
  = Ending.returned (Value.tuple #[Value.slice p45 k46 k47, Value.int IntKind.i64 n48]) ∧ ∃ (R49 : List Own), ∃ (Φ50 : PW), Stable Φ50 ∧ Ctx W w44 (R49 ++ R42) Φ50 ∧ Br (decide (n12 = 8)) (Br
  c29 (Br (decide (n48 = 0)) (∀ (k51 : Nat) (w52 : World) (R53 : List Own), Ctx W w52 (Own.blk k51 [Value.int IntKind.i64 0, Value.int IntKind.i64 0, Value.int IntKind.i64 0, Value.int
  IntKind.i64 0, Value.int IntKind.i64 0, Value.int IntKind.i64 0, Value.int IntKind.i64 1, Value.int IntKind.i64 1, Value.int IntKind.i64 1, Value.int IntKind.i64 1, Value.int IntKind.i64 1,
  Value.int IntKind.i64 0, Value.int IntKind.i64 0, Value.int IntKind.i64 1, Value.int IntKind.i64 1, Value.int IntKind.i64 1] 3 :: R49 ++ R53) Φ50 → Calls Tryd.prog F.errataref37_SameInts
  #[Value.slice p45 k46 k47, Value.slice (some (Addr.mk k51 0 none)) 16 16] w52 fun (e54 : Ending) (w55 : World) => ∃ (c56 : Bool), e54 = Ending.returned (Value.bool c56) ∧ ∃ (R57 : List
  Own), ∃ (Φ58 : PW), Stable Φ58 ∧ Ctx W w55 (R57 ++ R53) Φ58 ∧ ∀ (w59 : World) (R60 : List Own), Ctx W w59 (R57 ++ R60) Φ58 → J (Value.bool c56) w59) (∀ (w61 : World) (R62 : List Own), Ctx W
  w61 (R49 ++ R62) Φ50 → J (Value.bool false) w61)) (∀ (w63 : World) (R64 : List Own), Ctx W w63 (R49 ++ R64) Φ50 → J (Value.bool false) w63)) (∀ (w65 : World) (R66 : List Own), Ctx W w65
  (R49 ++ R66) Φ50 → J (Value.bool false) w65)) (∀ (w67 : World) (R68 : List Own), Ctx W w67 (R5 ++ R68) Φ6 → Calls Tryd.prog F.place_Even #[Value.int IntKind.i64 3] w67 fun (e69 : Ending)
  (w70 : World) => ∃ (p71 : Option Addr), ∃ (k72 : Nat), ∃ (k73 : Nat), e69 = Ending.returned (Value.slice p71 k72 k73) ∧ ∃ (R74 : List Own), ∃ (Φ75 : PW), Stable Φ75 ∧ Ctx W w70 (R74 ++ R68)
  Φ75 ∧ ∀ (k76 : Nat) (w77 : World) (R78 : List Own), Ctx W w77 (Own.blk k76 [Value.int IntKind.i64 0, Value.int IntKind.i64 0, Value.int IntKind.i64 0, Value.int IntKind.i64 0, Value.int
  IntKind.i64 0, Value.int IntKind.i64 0, Value.int IntKind.i64 1, Value.int IntKind.i64 1, Value.int IntKind.i64 1, Value.int IntKind.i64 1, Value.int IntKind.i64 1, Value.int IntKind.i64 2,
  Value.int IntKind.i64 2, Value.int IntKind.i64 2, Value.int IntKind.i64 2, Value.int IntKind.i64 2] 3 :: R74 ++ R78) Φ75 → Calls Tryd.prog F.errataref37_SameInts #[Value.slice p71 k72 k73,
  Value.slice (some (Addr.mk k76 0 none)) 16 16] w77 fun (e79 : Ending) (w80 : World) => ∃ (c81 : Bool), e79 = Ending.returned (Value.bool c81) ∧ ∃ (R82 : List Own), ∃ (Φ83 : PW), Stable Φ83
  ∧ Ctx W w80 (R82 ++ R78) Φ83 ∧ ∀ (w84 : World) (R85 : List Own), Ctx W w84 (R82 ++ R85) Φ83 → Calls Tryd.prog F.place_Even #[Value.int IntKind.i64 3] w84 fun (e86 : Ending) (w87 : World) =>
  ∃ (p88 : Option Addr), ∃ (k89 : Nat), ∃ (k90 : Nat), e86 = Ending.returned (Value.slice p88 k89 k90) ∧ ∃ (R91 : List Own), ∃ (Φ92 : PW), Stable Φ92 ∧ Ctx W w87 (R91 ++ R85) Φ92 ∧ ∀ (w93 :
  World) (R94 : List Own), Ctx W w93 (R91 ++ R94) Φ92 → Calls Tryd.prog F.place_Spread #[Value.slice p88 k89 k90, Value.int IntKind.i64 2] w93 fun (e95 : Ending) (w96 : World) => ∃ (p97 :
  Option Addr), ∃ (k98 : Nat), ∃ (k99 : Nat), ∃ (n100 : Int), e95 = Ending.returned (Value.tuple #[Value.slice p97 k98 k99, Value.int IntKind.i64 n100]) ∧ ∃ (R101 : List Own), ∃ (Φ102 : PW),
  Stable Φ102 ∧ Ctx W w96 (R101 ++ R94) Φ102 ∧ ∀ (w103 : World) (R104 : List Own), Ctx W w103 (R101 ++ R104) Φ102 → J (Value.bool false) w103)

/-- place.Right -/
def Bplace_Right (pP : Option Addr) (pN pC : Nat) (workers : Int) (W : World) (R : List Own) (Φ : PW) (J : Value → World → Prop) : Prop :=
  Br (decide (1 ≤ workers)) (Br (decide (workers ≤ 8)) (Br (decide ((↑pN : Int) = 16)) (∀ (w0 : World) (R1 : List Own), Ctx W w0 (R ++ R1) Φ → Calls Tryd.prog F.slices_Min_int_int
  #[Value.slice pP pN pC] w0 fun (e2 : Ending) (w3 : World) => ∃ (n4 : Int), e2 = Ending.returned (Value.int IntKind.i64 n4) ∧ ∃ (R5 : List Own), ∃ (Φ6 : PW), Stable Φ6 ∧ Ctx W w3 (R5 ++ R1)
  Φ6 ∧ Br (decide (0 ≤ n4)) (∀ (w7 : World) (R8 : List Own), Ctx W w7 (R5 ++ R8) Φ6 → Calls Tryd.prog F.slices_Max_int_int #[Value.slice pP pN pC] w7 fun (e9 : Ending) (w10 : World) => ∃ (n11
  : Int), e9 = Ending.returned (Value.int IntKind.i64 n11) ∧ ∃ (R12 : List Own), ∃ (Φ13 : PW), Stable Φ13 ∧ Ctx W w10 (R12 ++ R8) Φ13 ∧ ∀ (w14 : World) (R15 : List Own), Ctx W w14 (R12 ++
  R15) Φ13 → J (Value.bool (decide (n11 < workers))) w14) (∀ (w16 : World) (R17 : List Own), Ctx W w16 (R5 ++ R17) Φ6 → J (Value.bool false) w16)) (∀ (w18 : World) (R19 : List Own), Ctx W w18
  (R ++ R19) Φ → J (Value.bool false) w18)) (∀ (w20 : World) (R21 : List Own), Ctx W w20 (R ++ R21) Φ → J (Value.bool false) w20)) (∀ (w22 : World) (R23 : List Own), Ctx W w22 (R ++ R23) Φ →
  J (Value.bool false) w22)

/-- place.Spread -/
-- loop at region 29: 94 ; blocks 
-- loop at region 22: 12 rest, 68 ; blocks 
-- loop at region 13: 45 ; blocks 
-- loop at region 5: 6 order, 30 ; blocks 
def Bplace_Spread (pP : Option Addr) (pN pC : Nat) (workers : Int) (W : World) (R : List Own) (Φ : PW) (J : Value → World → Prop) : Prop :=
  Br (decide (workers < 1)) (∀ (w0 : World) (R1 : List Own), Ctx W w0 (R ++ R1) Φ → J (Value.tuple #[Value.slice none 0 0, Value.int IntKind.i64 1]) w0) (Br (decide (8 < workers)) (∀ (w2 :
  World) (R3 : List Own), Ctx W w2 (R ++ R3) Φ → J (Value.tuple #[Value.slice none 0 0, Value.int IntKind.i64 1]) w2) (∀ (w4 : World) (R5 : List Own), Ctx W w4 (R ++ R5) Φ → Calls Tryd.prog
  F.place_Right #[Value.slice pP pN pC, Value.int IntKind.i64 8] w4 fun (e6 : Ending) (w7 : World) => ∃ (c8 : Bool), e6 = Ending.returned (Value.bool c8) ∧ ∃ (R9 : List Own), ∃ (Φ10 : PW),
  Stable Φ10 ∧ Ctx W w7 (R9 ++ R5) Φ10 ∧ Br (!c8) (∀ (w11 : World) (R12 : List Own), Ctx W w11 (R9 ++ R12) Φ10 → J (Value.tuple #[Value.slice none 0 0, Value.int IntKind.i64 1]) w11) (exI fun
  (I13 : Option Addr → Nat → Nat → Int → List Own → PW → Nat → Prop) => (∃ (R14 : List Own), ∃ (Φ15 : PW), ∃ (k16 : Nat), Stable Φ15 ∧ (∀ (w17 : World) (R18 : List Own), Ctx W w17 (R9 ++ R18)
  Φ10 → Ctx W w17 (R14 ++ R18) Φ15) ∧ I13 none 0 0 0 R14 Φ15 k16) ∧ ∀ (p19 : Option Addr) (k20 k21 : Nat) (n22 : Int) (R23 : List Own) (I24 : List Nat → World → Prop) (k25 : Nat), Stable I24
  → I13 p19 k20 k21 n22 R23 I24 k25 → Br (decide (n22 < workers)) (∀ (k26 : Nat) (w27 : World) (R28 : List Own), Ctx W w27 (Own.blk k26 [Value.int IntKind.i64 n22] 3 :: R23 ++ R28) I24 → ∃
  (p29 : Option Addr), ∃ (k30 : Nat), ∃ (k31 : Nat), ∃ (w32 : World), Sem.run Tryd.prog (builtin Builtin.append #[22, 22] 22 #[false, false] #[Value.slice p19 k20 k21, Value.slice (some
  (Addr.mk k26 0 none)) 1 1]) w27 = Result.ok (Next.value (Value.slice p29 k30 k31)) w32 ∧ ∃ (R33 : List Own), ∃ (Φ34 : PW), Stable Φ34 ∧ Ctx W w32 (R33 ++ R28) Φ34 ∧ I64 (n22 + 1) ∧ ∃ (R35 :
  List Own), ∃ (Φ36 : PW), ∃ (k37 : Nat), Stable Φ36 ∧ (∀ (w38 : World) (R39 : List Own), Ctx W w38 (R33 ++ R39) Φ34 → Ctx W w38 (R35 ++ R39) Φ36) ∧ I13 p29 k30 k31 (n22 + 1) R35 Φ36 k37 ∧
  k37 < k25) (∀ (w40 : World) (R41 : List Own), Ctx W w40 (R23 ++ R41) I24 → Calls Tryd.prog F.place_shares #[Value.slice pP pN pC] w40 fun (e42 : Ending) (w43 : World) => ∃ (n44 : Int), ∃
  (n45 : Int), ∃ (n46 : Int), ∃ (n47 : Int), ∃ (n48 : Int), ∃ (n49 : Int), ∃ (n50 : Int), ∃ (n51 : Int), e42 = Ending.returned (Value.agg #[Value.int IntKind.i64 n44, Value.int IntKind.i64
  n45, Value.int IntKind.i64 n46, Value.int IntKind.i64 n47, Value.int IntKind.i64 n48, Value.int IntKind.i64 n49, Value.int IntKind.i64 n50, Value.int IntKind.i64 n51]) ∧ ∃ (R52 : List Own),
  ∃ (Φ53 : PW), Stable Φ53 ∧ Ctx W w43 (R52 ++ R41) Φ53 ∧ ∀ (k54 : Nat) (w55 : World) (R56 : List Own), Ctx W w55 (Own.blk k54 [Value.int IntKind.i64 0, Value.int IntKind.i64 0, Value.int
  IntKind.i64 0, Value.int IntKind.i64 0, Value.int IntKind.i64 0, Value.int IntKind.i64 0, Value.int IntKind.i64 0, Value.int IntKind.i64 0] 102 :: R52 ++ R56) Φ53 → CanWrite w55 k54 0 8 ∧ ∀
  (w57 : World), w57 = w55.setCells k54 0 [Value.int IntKind.i64 n44, Value.int IntKind.i64 n45, Value.int IntKind.i64 n46, Value.int IntKind.i64 n47, Value.int IntKind.i64 n48, Value.int
  IntKind.i64 n49, Value.int IntKind.i64 n50, Value.int IntKind.i64 n51] → ∃ (R58 : List Own), ∃ (Φ59 : PW), Stable Φ59 ∧ Ctx W w57 (R58 ++ R56) Φ59 ∧ ∀ (w60 : World) (R61 : List Own), Ctx W
  w60 (R58 ++ R61) Φ59 → Calls Tryd.prog F.slices_SortStableFunc_int_int #[Value.slice p19 k20 k21, Value.func (Fn.func 62) #[] #[Value.pointer (some (Addr.mk k54 0 none))]] w60 fun (e62 :
  Ending) (w63 : World) => e62 = Ending.returned (Value.tuple #[]) ∧ ∃ (R64 : List Own), ∃ (Φ65 : PW), Stable Φ65 ∧ Ctx W w63 (R64 ++ R61) Φ65 ∧ ∀ (k66 : Nat), exI fun (I67 : Int → List Own →
  PW → Nat → Prop) => (∃ (R68 : List Own), ∃ (Φ69 : PW), ∃ (k70 : Nat), Stable Φ69 ∧ (∀ (w71 : World) (R72 : List Own), Ctx W w71 (Own.blk k66 [Value.int IntKind.i64 0, Value.int IntKind.i64
  0, Value.int IntKind.i64 0, Value.int IntKind.i64 0, Value.int IntKind.i64 0, Value.int IntKind.i64 0, Value.int IntKind.i64 0, Value.int IntKind.i64 0] 102 :: R64 ++ R72) Φ65 → Ctx W w71
  (R68 ++ R72) Φ69) ∧ I67 0 R68 Φ69 k70) ∧ ∀ (n73 : Int) (R74 : List Own) (I75 : List Nat → World → Prop) (k76 : Nat), Stable I75 → I67 n73 R74 I75 k76 → Br (decide (n73 < (↑k20 : Int))) ((0
  ≤ n73 ∧ n73 < (↑k20 : Int)) ∧ ptrK none p19 fun (k77 k78 : Nat) => ∀ (w79 : World) (R80 : List Own), Ctx W w79 (R74 ++ R80) I75 → ∃ (n81 : Int), w79.cell? (Addr.mk k77 (k78 + n73.toNat)
  none) = some (Value.int IntKind.i64 n81) ∧ (workers = 0 → False) ∧ I64 (Int.tdiv 16 workers) ∧ (0 ≤ n81 ∧ n81 < 8) ∧ ∀ (w82 : World) (R83 : List Own), Ctx W w82 (R74 ++ R83) I75 → CanWrite
  w82 k66 (0 + n81.toNat) 1 ∧ ∀ (w84 : World), w84 = w82.setCell (Addr.mk k66 (0 + n81.toNat) none) (Value.int IntKind.i64 (Int.tdiv 16 workers)) → ∃ (R85 : List Own), ∃ (Φ86 : PW), Stable
  Φ86 ∧ Ctx W w84 (R85 ++ R83) Φ86 ∧ (workers = 0 → False) ∧ Br (decide (n73 < Int.tmod 16 workers)) ((0 ≤ n81 ∧ n81 < 8) ∧ ∀ (w87 : World) (R88 : List Own), Ctx W w87 (R85 ++ R88) Φ86 → ∃
  (n89 : Int), w87.cell? (Addr.mk k66 (0 + n81.toNat) none) = some (Value.int IntKind.i64 n89) ∧ I64 (n89 + 1) ∧ (0 ≤ n81 ∧ n81 < 8) ∧ ∀ (w90 : World) (R91 : List Own), Ctx W w90 (R85 ++ R91)
  Φ86 → CanWrite w90 k66 (0 + n81.toNat) 1 ∧ ∀ (w92 : World), w92 = w90.setCell (Addr.mk k66 (0 + n81.toNat) none) (Value.int IntKind.i64 (n89 + 1)) → ∃ (R93 : List Own), ∃ (Φ94 : PW), Stable
  Φ94 ∧ Ctx W w92 (R93 ++ R91) Φ94 ∧ I64 (n73 + 1) ∧ ∃ (R95 : List Own), ∃ (Φ96 : PW), ∃ (k97 : Nat), Stable Φ96 ∧ (∀ (w98 : World) (R99 : List Own), Ctx W w98 (R93 ++ R99) Φ94 → Ctx W w98
  (R95 ++ R99) Φ96) ∧ I67 (n73 + 1) R95 Φ96 k97 ∧ k97 < k76) (I64 (n73 + 1) ∧ ∃ (R100 : List Own), ∃ (Φ101 : PW), ∃ (k102 : Nat), Stable Φ101 ∧ (∀ (w103 : World) (R104 : List Own), Ctx W w103
  (R85 ++ R104) Φ86 → Ctx W w103 (R100 ++ R104) Φ101) ∧ I67 (n73 + 1) R100 Φ101 k102 ∧ k102 < k76)) (∀ (w105 : World) (R106 : List Own), Ctx W w105 (R74 ++ R106) I75 → Calls Tryd.prog
  F.slices_Clone_int_int #[Value.slice pP pN pC] w105 fun (e107 : Ending) (w108 : World) => ∃ (p109 : Option Addr), ∃ (k110 : Nat), ∃ (k111 : Nat), e107 = Ending.returned (Value.slice p109
  k110 k111) ∧ ∃ (R112 : List Own), ∃ (Φ113 : PW), Stable Φ113 ∧ Ctx W w108 (R112 ++ R106) Φ113 ∧ exI fun (I114 : Option Addr → Nat → Nat → Int → List Own → PW → Nat → Prop) => (∃ (R115 :
  List Own), ∃ (Φ116 : PW), ∃ (k117 : Nat), Stable Φ116 ∧ (∀ (w118 : World) (R119 : List Own), Ctx W w118 (R112 ++ R119) Φ113 → Ctx W w118 (R115 ++ R119) Φ116) ∧ I114 none 0 0 0 R115 Φ116
  k117) ∧ ∀ (p120 : Option Addr) (k121 k122 : Nat) (n123 : Int) (R124 : List Own) (I125 : List Nat → World → Prop) (k126 : Nat), Stable I125 → I114 p120 k121 k122 n123 R124 I125 k126 → Br
  (decide (n123 < (↑k110 : Int))) ((0 ≤ n123 ∧ n123 < (↑k110 : Int)) ∧ ptrK none p109 fun (k127 k128 : Nat) => ∀ (w129 : World) (R130 : List Own), Ctx W w129 (R124 ++ R130) I125 → ∃ (n131 :
  Int), w129.cell? (Addr.mk k127 (k128 + n123.toNat) none) = some (Value.int IntKind.i64 n131) ∧ ∀ (w132 : World) (R133 : List Own), Ctx W w132 (R124 ++ R133) I125 → (decide (n131 < workers)
  = true → 0 ≤ n131 ∧ n131 < 8) ∧ ∃ (n134 : Int), (decide (n131 < workers) = true → w132.cell? (Addr.mk k66 (0 + n131.toNat) none) = some (Value.int IntKind.i64 n134)) ∧ Br (decide (n131 <
  workers) && decide (0 < n134)) ((0 ≤ n131 ∧ n131 < 8) ∧ ∀ (w135 : World) (R136 : List Own), Ctx W w135 (R124 ++ R136) I125 → ∃ (n137 : Int), w135.cell? (Addr.mk k66 (0 + n131.toNat) none) =
  some (Value.int IntKind.i64 n137) ∧ I64 (n137 - 1) ∧ (0 ≤ n131 ∧ n131 < 8) ∧ ∀ (w138 : World) (R139 : List Own), Ctx W w138 (R124 ++ R139) I125 → CanWrite w138 k66 (0 + n131.toNat) 1 ∧ ∀
  (w140 : World), w140 = w138.setCell (Addr.mk k66 (0 + n131.toNat) none) (Value.int IntKind.i64 (n137 - 1)) → ∃ (R141 : List Own), ∃ (Φ142 : PW), Stable Φ142 ∧ Ctx W w140 (R141 ++ R139) Φ142
  ∧ I64 (n123 + 1) ∧ ∃ (R143 : List Own), ∃ (Φ144 : PW), ∃ (k145 : Nat), Stable Φ144 ∧ (∀ (w146 : World) (R147 : List Own), Ctx W w146 (R141 ++ R147) Φ142 → Ctx W w146 (R143 ++ R147) Φ144) ∧
  I114 p120 k121 k122 (n123 + 1) R143 Φ144 k145 ∧ k145 < k126) (∀ (k148 : Nat) (w149 : World) (R150 : List Own), Ctx W w149 (Own.blk k148 [Value.int IntKind.i64 n123] 3 :: R124 ++ R150) I125
  → ∃ (p151 : Option Addr), ∃ (k152 : Nat), ∃ (k153 : Nat), ∃ (w154 : World), Sem.run Tryd.prog (builtin Builtin.append #[22, 22] 22 #[false, false] #[Value.slice p120 k121 k122, Value.slice
  (some (Addr.mk k148 0 none)) 1 1]) w149 = Result.ok (Next.value (Value.slice p151 k152 k153)) w154 ∧ ∃ (R155 : List Own), ∃ (Φ156 : PW), Stable Φ156 ∧ Ctx W w154 (R155 ++ R150) Φ156 ∧ I64
  (n123 + 1) ∧ ∃ (R157 : List Own), ∃ (Φ158 : PW), ∃ (k159 : Nat), Stable Φ158 ∧ (∀ (w160 : World) (R161 : List Own), Ctx W w160 (R155 ++ R161) Φ156 → Ctx W w160 (R157 ++ R161) Φ158) ∧ I114
  p151 k152 k153 (n123 + 1) R157 Φ158 k159 ∧ k159 < k126)) (exI fun (I162 : Int → List Own → PW → Nat → Prop) => (∃ (R163 : List Own), ∃ (Φ164 : PW), ∃ (k165 : Nat), Stable Φ164 ∧ (∀ (w166 :
  World) (R167 : List Own), Ctx W w166 (R124 ++ R167) I125 → Ctx W w166 (R163 ++ R167) Φ164) ∧ I162 0 R163 Φ164 k165) ∧ ∀ (n168 : Int) (R169 : List Own) (I170 : List Nat → World → Prop) (k171
  : Nat), Stable I170 → I162 n168 R169 I170 k171 → Br (decide (n168 < (↑k121 : Int))) ((0 ≤ n168 ∧ n168 < (↑k121 : Int)) ∧ ptrK none p120 fun (k172 k173 : Nat) => ∀ (w174 : World) (R175 :
  List Own), Ctx W w174 (R169 ++ R175) I170 → ∃ (n176 : Int), w174.cell? (Addr.mk k172 (k173 + n168.toNat) none) = some (Value.int IntKind.i64 n176) ∧ Nat.le 8 8 ∧ ∀ (w177 : World) (R178 :
  List Own), Ctx W w177 (R169 ++ R178) I170 → Calls Tryd.prog F.slices_IndexFunc_int_int #[Value.slice (subPtr (some (Addr.mk k66 0 none)) 1 0 8) 8 8, Value.func (Fn.func 65) #[] #[]] w177
  fun (e179 : Ending) (w180 : World) => ∃ (n181 : Int), e179 = Ending.returned (Value.int IntKind.i64 n181) ∧ ∃ (R182 : List Own), ∃ (Φ183 : PW), Stable Φ183 ∧ Ctx W w180 (R182 ++ R178) Φ183
  ∧ (0 ≤ n176 ∧ n176 < (↑k110 : Int)) ∧ ptrK none p109 fun (k184 k185 : Nat) => ∀ (w186 : World) (R187 : List Own), Ctx W w186 (R182 ++ R187) Φ183 → CanWrite w186 k184 (k185 + n176.toNat) 1 ∧
  ∀ (w188 : World), w188 = w186.setCell (Addr.mk k184 (k185 + n176.toNat) none) (Value.int IntKind.i64 n181) → ∃ (R189 : List Own), ∃ (Φ190 : PW), Stable Φ190 ∧ Ctx W w188 (R189 ++ R187) Φ190
  ∧ (0 ≤ n181 ∧ n181 < 8) ∧ ∀ (w191 : World) (R192 : List Own), Ctx W w191 (R189 ++ R192) Φ190 → ∃ (n193 : Int), w191.cell? (Addr.mk k66 (0 + n181.toNat) none) = some (Value.int IntKind.i64
  n193) ∧ I64 (n193 - 1) ∧ (0 ≤ n181 ∧ n181 < 8) ∧ ∀ (w194 : World) (R195 : List Own), Ctx W w194 (R189 ++ R195) Φ190 → CanWrite w194 k66 (0 + n181.toNat) 1 ∧ ∀ (w196 : World), w196 =
  w194.setCell (Addr.mk k66 (0 + n181.toNat) none) (Value.int IntKind.i64 (n193 - 1)) → ∃ (R197 : List Own), ∃ (Φ198 : PW), Stable Φ198 ∧ Ctx W w196 (R197 ++ R195) Φ198 ∧ I64 (n168 + 1) ∧ ∃
  (R199 : List Own), ∃ (Φ200 : PW), ∃ (k201 : Nat), Stable Φ200 ∧ (∀ (w202 : World) (R203 : List Own), Ctx W w202 (R197 ++ R203) Φ198 → Ctx W w202 (R199 ++ R203) Φ200) ∧ I162 (n168 + 1) R199
  Φ200 k201 ∧ k201 < k171) (∀ (w204 : World) (R205 : List Own), Ctx W w204 (R169 ++ R205) I170 → J (Value.tuple #[Value.slice p109 k110 k111, Value.int IntKind.i64 0]) w204)))))))

/-- erratalaw37.share -/
def Berratalaw37_share (pP : Option Addr) (pN pC : Nat) (worker : Int) (W : World) (R : List Own) (Φ : PW) (J : Value → World → Prop) : Prop :=
  ∀ (w0 : World) (R1 : List Own), Ctx W w0 (R ++ R1) Φ → Calls Tryd.prog F.place_Of #[Value.slice pP pN pC, Value.int IntKind.i64 worker] w0 fun (e2 : Ending) (w3 : World) => ∃ (p4 : Option
  Addr), ∃ (k5 : Nat), ∃ (k6 : Nat), e2 = Ending.returned (Value.slice p4 k5 k6) ∧ ∃ (R7 : List Own), ∃ (Φ8 : PW), Stable Φ8 ∧ Ctx W w3 (R7 ++ R1) Φ8 ∧ ∀ (w9 : World) (R10 : List Own), Ctx W
  w9 (R7 ++ R10) Φ8 → J (Value.int IntKind.i64 (↑k5 : Int)) w9

/-- place.Moved -/
-- loop at region 5: 5 out, 17 ; blocks 
def Bplace_Moved (aP : Option Addr) (aN aC : Nat) (bP : Option Addr) (bN bC : Nat) (W : World) (R : List Own) (Φ : PW) (J : Value → World → Prop) : Prop :=
  ∀ (w0 : World) (R1 : List Own), Ctx W w0 (R ++ R1) Φ → Br (decide ((↑aN : Int) ≠ 16) || decide ((↑bN : Int) ≠ 16)) (∀ (w2 : World) (R3 : List Own), Ctx W w2 (R ++ R3) Φ → J (Value.slice
  none 0 0) w2) (exI fun (I4 : Option Addr → Nat → Nat → Int → List Own → PW → Nat → Prop) => (∃ (R5 : List Own), ∃ (Φ6 : PW), ∃ (k7 : Nat), Stable Φ6 ∧ (∀ (w8 : World) (R9 : List Own), Ctx W
  w8 (R ++ R9) Φ → Ctx W w8 (R5 ++ R9) Φ6) ∧ I4 none 0 0 0 R5 Φ6 k7) ∧ ∀ (p10 : Option Addr) (k11 k12 : Nat) (n13 : Int) (R14 : List Own) (I15 : List Nat → World → Prop) (k16 : Nat), Stable
  I15 → I4 p10 k11 k12 n13 R14 I15 k16 → Br (decide (n13 < (↑aN : Int))) (∀ (w17 : World) (R18 : List Own), Ctx W w17 (R14 ++ R18) I15 → (0 ≤ n13 ∧ n13 < (↑aN : Int)) ∧ ptrK none aP fun (k19
  k20 : Nat) => ∃ (n21 : Int), w17.cell? (Addr.mk k19 (k20 + n13.toNat) none) = some (Value.int IntKind.i64 n21) ∧ (0 ≤ n13 ∧ n13 < (↑bN : Int)) ∧ ptrK none bP fun (k22 k23 : Nat) => ∃ (n24 :
  Int), w17.cell? (Addr.mk k22 (k23 + n13.toNat) none) = some (Value.int IntKind.i64 n24) ∧ Br (decide (n21 ≠ n24)) (∀ (k25 : Nat) (w26 : World) (R27 : List Own), Ctx W w26 (Own.blk k25
  [Value.int IntKind.i64 n13] 3 :: R14 ++ R27) I15 → ∃ (p28 : Option Addr), ∃ (k29 : Nat), ∃ (k30 : Nat), ∃ (w31 : World), Sem.run Tryd.prog (builtin Builtin.append #[22, 22] 22 #[false,
  false] #[Value.slice p10 k11 k12, Value.slice (some (Addr.mk k25 0 none)) 1 1]) w26 = Result.ok (Next.value (Value.slice p28 k29 k30)) w31 ∧ ∃ (R32 : List Own), ∃ (Φ33 : PW), Stable Φ33 ∧
  Ctx W w31 (R32 ++ R27) Φ33 ∧ I64 (n13 + 1) ∧ ∃ (R34 : List Own), ∃ (Φ35 : PW), ∃ (k36 : Nat), Stable Φ35 ∧ (∀ (w37 : World) (R38 : List Own), Ctx W w37 (R32 ++ R38) Φ33 → Ctx W w37 (R34 ++
  R38) Φ35) ∧ I4 p28 k29 k30 (n13 + 1) R34 Φ35 k36 ∧ k36 < k16) (I64 (n13 + 1) ∧ ∃ (R39 : List Own), ∃ (Φ40 : PW), ∃ (k41 : Nat), Stable Φ40 ∧ (∀ (w42 : World) (R43 : List Own), Ctx W w42
  (R14 ++ R43) I15 → Ctx W w42 (R39 ++ R43) Φ40) ∧ I4 p10 k11 k12 (n13 + 1) R39 Φ40 k41 ∧ k41 < k16)) (∀ (w44 : World) (R45 : List Own), Ctx W w44 (R14 ++ R45) I15 → J (Value.slice p10 k11
  k12) w44))

/-- place.Move -/
def Bplace_Move (pP : Option Addr) (pN pC : Nat) (bucket : Int) (worker : Int) (workers : Int) (W : World) (R : List Own) (Φ : PW) (J : Value → World → Prop) : Prop :=
  ∀ (w0 : World) (R1 : List Own), Ctx W w0 (R ++ R1) Φ → Calls Tryd.prog F.place_Right #[Value.slice pP pN pC, Value.int IntKind.i64 workers] w0 fun (e2 : Ending) (w3 : World) => ∃ (c4 :
  Bool), e2 = Ending.returned (Value.bool c4) ∧ ∃ (R5 : List Own), ∃ (Φ6 : PW), Stable Φ6 ∧ Ctx W w3 (R5 ++ R1) Φ6 ∧ Br (!c4) (∀ (w7 : World) (R8 : List Own), Ctx W w7 (R5 ++ R8) Φ6 → J
  (Value.tuple #[Value.slice none 0 0, Value.int IntKind.i64 1]) w7) (Br (decide (bucket < 0)) (∀ (w9 : World) (R10 : List Own), Ctx W w9 (R5 ++ R10) Φ6 → J (Value.tuple #[Value.slice none 0
  0, Value.int IntKind.i64 1]) w9) (Br (decide (16 ≤ bucket)) (∀ (w11 : World) (R12 : List Own), Ctx W w11 (R5 ++ R12) Φ6 → J (Value.tuple #[Value.slice none 0 0, Value.int IntKind.i64 1])
  w11) (Br (decide (worker < 0)) (∀ (w13 : World) (R14 : List Own), Ctx W w13 (R5 ++ R14) Φ6 → J (Value.tuple #[Value.slice none 0 0, Value.int IntKind.i64 1]) w13) (Br (decide (workers ≤
  worker)) (∀ (w15 : World) (R16 : List Own), Ctx W w15 (R5 ++ R16) Φ6 → J (Value.tuple #[Value.slice none 0 0, Value.int IntKind.i64 1]) w15) (∀ (w17 : World) (R18 : List Own), Ctx W w17 (R5
  ++ R18) Φ6 → Calls Tryd.prog F.slices_Clone_int_int #[Value.slice pP pN pC] w17 fun (e19 : Ending) (w20 : World) => ∃ (p21 : Option Addr), ∃ (k22 : Nat), ∃ (k23 : Nat), e19 =
  Ending.returned (Value.slice p21 k22 k23) ∧ ∃ (R24 : List Own), ∃ (Φ25 : PW), Stable Φ25 ∧ Ctx W w20 (R24 ++ R18) Φ25 ∧ (0 ≤ bucket ∧ bucket < (↑k22 : Int)) ∧ ptrK none p21 fun (k26 k27 :
  Nat) => ∀ (w28 : World) (R29 : List Own), Ctx W w28 (R24 ++ R29) Φ25 → CanWrite w28 k26 (k27 + bucket.toNat) 1 ∧ ∀ (w30 : World), w30 = w28.setCell (Addr.mk k26 (k27 + bucket.toNat) none)
  (Value.int IntKind.i64 worker) → ∃ (R31 : List Own), ∃ (Φ32 : PW), Stable Φ32 ∧ Ctx W w30 (R31 ++ R29) Φ32 ∧ ∀ (w33 : World) (R34 : List Own), Ctx W w33 (R31 ++ R34) Φ32 → J (Value.tuple
  #[Value.slice p21 k22 k23, Value.int IntKind.i64 0]) w33)))))

/-- place.Even -/
-- loop at region 5: 3 p, 11 ; blocks 
def Bplace_Even (workers : Int) (W : World) (R : List Own) (Φ : PW) (J : Value → World → Prop) : Prop :=
  ∀ (w0 : World) (R1 : List Own), Ctx W w0 (R ++ R1) Φ → Br (decide (workers < 1) || decide (8 < workers)) (∀ (w2 : World) (R3 : List Own), Ctx W w2 (R ++ R3) Φ → J (Value.slice none 0 0) w2)
  (exI fun (I4 : Option Addr → Nat → Nat → Int → List Own → PW → Nat → Prop) => (∃ (R5 : List Own), ∃ (Φ6 : PW), ∃ (k7 : Nat), Stable Φ6 ∧ (∀ (w8 : World) (R9 : List Own), Ctx W w8 (R ++ R9)
  Φ → Ctx W w8 (R5 ++ R9) Φ6) ∧ I4 none 0 0 0 R5 Φ6 k7) ∧ ∀ (p10 : Option Addr) (k11 k12 : Nat) (n13 : Int) (R14 : List Own) (I15 : List Nat → World → Prop) (k16 : Nat), Stable I15 → I4 p10
  k11 k12 n13 R14 I15 k16 → Br (decide (n13 < 16)) (I64 (n13 * workers) ∧ ((16 : Int) = 0 → False) ∧ I64 ((n13 * workers).tdiv 16) ∧ ∀ (k17 : Nat) (w18 : World) (R19 : List Own), Ctx W w18
  (Own.blk k17 [Value.int IntKind.i64 ((n13 * workers).tdiv 16)] 3 :: R14 ++ R19) I15 → ∃ (p20 : Option Addr), ∃ (k21 : Nat), ∃ (k22 : Nat), ∃ (w23 : World), Sem.run Tryd.prog (builtin
  Builtin.append #[22, 22] 22 #[false, false] #[Value.slice p10 k11 k12, Value.slice (some (Addr.mk k17 0 none)) 1 1]) w18 = Result.ok (Next.value (Value.slice p20 k21 k22)) w23 ∧ ∃ (R24 :
  List Own), ∃ (Φ25 : PW), Stable Φ25 ∧ Ctx W w23 (R24 ++ R19) Φ25 ∧ I64 (n13 + 1) ∧ ∃ (R26 : List Own), ∃ (Φ27 : PW), ∃ (k28 : Nat), Stable Φ27 ∧ (∀ (w29 : World) (R30 : List Own), Ctx W w29
  (R24 ++ R30) Φ25 → Ctx W w29 (R26 ++ R30) Φ27) ∧ I4 p20 k21 k22 (n13 + 1) R26 Φ27 k28 ∧ k28 < k16) (∀ (w31 : World) (R32 : List Own), Ctx W w31 (R14 ++ R32) I15 → J (Value.slice p10 k11
  k12) w31))

/-- errataref03.Short -/
-- loop at region 2: 5 i; blocks 
def Berrataref03_Short (rP : Option Addr) (rN rC : Nat) (n : Int) (W : World) (R : List Own) (Φ : PW) (J : Value → World → Prop) : Prop :=
  exI fun (I0 : Int → List Own → PW → Nat → Prop) => (∃ (R1 : List Own), ∃ (Φ2 : PW), ∃ (k3 : Nat), Stable Φ2 ∧ (∀ (w4 : World) (R5 : List Own), Ctx W w4 (R ++ R5) Φ → Ctx W w4 (R1 ++ R5) Φ2)
  ∧ I0 0 R1 Φ2 k3) ∧ ∀ (n6 : Int) (R7 : List Own) (I8 : List Nat → World → Prop) (k9 : Nat), Stable I8 → I0 n6 R7 I8 k9 → Br (decide (n6 < (↑rN : Int))) ((0 ≤ n6 ∧ n6 < (↑rN : Int)) ∧ ptrK
  none rP fun (k10 k11 : Nat) => ∀ (w12 : World) (R13 : List Own), Ctx W w12 (R7 ++ R13) I8 → ∃ (s14 : ByteArray), w12.cell? (Addr.mk k10 (k11 + n6.toNat * 3 + 2) none) = some (Value.string
  s14) ∧ Br (decide (300 < (↑s14.size : Int))) (∀ (w15 : World) (R16 : List Own), Ctx W w15 (R7 ++ R16) I8 → J (Value.bool false) w15) (I64 (n6 + 1) ∧ ∃ (R17 : List Own), ∃ (Φ18 : PW), ∃ (k19
  : Nat), Stable Φ18 ∧ (∀ (w20 : World) (R21 : List Own), Ctx W w20 (R7 ++ R21) I8 → Ctx W w20 (R17 ++ R21) Φ18) ∧ I0 (n6 + 1) R17 Φ18 k19 ∧ k19 < k9)) (∀ (w22 : World) (R23 : List Own), Ctx
  W w22 (R7 ++ R23) I8 → J (Value.bool (decide ((↑rN : Int) ≤ n))) w22)

theorem Berrataref03_Short_run (rP : Option Addr) (rN rC : Nat) (n : Int) {W w : World} {R : List Own} {Φ : PW} [Stable Φ] {J : Value → World → Prop} (c : Ctx W w R Φ) (h : Berrataref03_Short rP rN rC n W R Φ J) : Calls Tryd.prog F.errataref03_Short #[.slice rP rN rC, .int .i64 n] w fun e w' => ∃ v, e = .returned v ∧ J v w' :=
  vcFS_sound (H := { keep := some [0, 1, 4, 5, 9, 18], loops := [(2, [(5, .one (.int .i64))], [])] }) (by rw [show vcFS Tryd.prog W { keep := some [0, 1, 4, 5, 9, 18], loops := [(2, [(5, .one (.int .i64))], [])] } F.errataref03_Short #[.slice rP rN rC, .int .i64 n] R Φ J = Berrataref03_Short rP rN rC n W R Φ J by kernel_rfl]; exact h) c

/-- place.Key -/
-- known blocks: 2 n
def Bplace_Key (n0 : Int) (n1P : Option Addr) (n1N n1C : Nat) (n2 : ByteArray) (n3 : Int) (n4P : Option Addr) (n4N n4C : Nat) (n5 : Int) (n6 : Int) (n7 : Int) (n8P : Option Addr) (n8N n8C : Nat) (n9P : Option Addr) (n9N n9C : Nat) (n10 : Int) (n11 : Int) (n12 : Int) (n13P : Option Addr) (n13N n13C : Nat) (n14P : Option Addr) (n14N n14C : Nat) (n15P : Option Addr) (n15N n15C : Nat) (inx : Int) (W : World) (R : List Own) (Φ : PW) (J : Value → World → Prop) : Prop :=
  ∀ (b : Nat) (w0 : World) (R1 : List Own), Ctx W w0 (R ++ R1) Φ → ∀ (w2 : World) (R3 : List Own), Ctx W w2 (R ++ R3) Φ → Br (decide (inx = 0) && (decide (n0 = 6) || decide (n0 = 7) || decide
  (n0 = 4) || decide (n0 = 5) || decide (n0 = 8))) (∀ (w4 : World) (R5 : List Own), Ctx W w4 (R ++ R5) Φ → Calls Tryd.prog F.slices_Clone_int_int #[Value.slice n8P n8N n8C] w4 fun (e6 :
  Ending) (w7 : World) => ∃ (p8 : Option Addr), ∃ (k9 : Nat), ∃ (k10 : Nat), e6 = Ending.returned (Value.slice p8 k9 k10) ∧ ∃ (R11 : List Own), ∃ (Φ12 : PW), Stable Φ12 ∧ Ctx W w7 (R11 ++ R5)
  Φ12 ∧ ∀ (w13 : World) (R14 : List Own), Ctx W w13 (R11 ++ R14) Φ12 → J (Value.tuple #[Value.slice p8 k9 k10, Value.bool true]) w13) (∀ (w15 : World) (R16 : List Own), Ctx W w15 (R ++ R16) Φ
  → Br (decide (inx = 1) && (decide (n0 = 6) || decide (n0 = 7))) (∀ (w17 : World) (R18 : List Own), Ctx W w17 (R ++ R18) Φ → Calls Tryd.prog F.slices_Clone_int_int #[Value.slice n9P n9N n9C]
  w17 fun (e19 : Ending) (w20 : World) => ∃ (p21 : Option Addr), ∃ (k22 : Nat), ∃ (k23 : Nat), e19 = Ending.returned (Value.slice p21 k22 k23) ∧ ∃ (R24 : List Own), ∃ (Φ25 : PW), Stable Φ25 ∧
  Ctx W w20 (R24 ++ R18) Φ25 ∧ ∀ (w26 : World) (R27 : List Own), Ctx W w26 (R24 ++ R27) Φ25 → J (Value.tuple #[Value.slice p21 k22 k23, Value.bool true]) w26) (∀ (w28 : World) (R29 : List
  Own), Ctx W w28 (R ++ R29) Φ → J (Value.tuple #[Value.slice none 0 0, Value.bool false]) w28))

/-- place.Need -/
-- loop at region 6: 11 values, 29 ; blocks 
-- known blocks: 4 n, 14 v
def Bplace_Need (n0 : Int) (n1P : Option Addr) (n1N n1C : Nat) (n2 : ByteArray) (n3 : Int) (n4P : Option Addr) (n4N n4C : Nat) (n5 : Int) (n6 : Int) (n7 : Int) (n8P : Option Addr) (n8N n8C : Nat) (n9P : Option Addr) (n9N n9C : Nat) (n10 : Int) (n11 : Int) (n12 : Int) (n13P : Option Addr) (n13N n13C : Nat) (n14P : Option Addr) (n14N n14C : Nat) (n15P : Option Addr) (n15N n15C : Nat) (inx : Int) (bucket : Int) (rowP : Option Addr) (rowN rowC : Nat) (W : World) (R : List Own) (Φ : PW) (J : Value → World → Prop) : Prop :=
  ∀ (b : Nat) (w0 : World) (R1 : List Own), Ctx W w0 (R ++ R1) Φ → Calls Tryd.prog F.place_Key #[Value.agg #[Value.int IntKind.i64 n0, Value.slice n1P n1N n1C, Value.string n2, Value.int
  IntKind.i64 n3, Value.slice n4P n4N n4C, Value.int IntKind.i64 n5, Value.int IntKind.i64 n6, Value.int IntKind.i64 n7, Value.slice n8P n8N n8C, Value.slice n9P n9N n9C, Value.int
  IntKind.i64 n10, Value.int IntKind.i64 n11, Value.int IntKind.i64 n12, Value.slice n13P n13N n13C, Value.slice n14P n14N n14C, Value.slice n15P n15N n15C], Value.int IntKind.i64 inx] w0 fun
  (e2 : Ending) (w3 : World) => ∃ (p4 : Option Addr), ∃ (k5 : Nat), ∃ (k6 : Nat), ∃ (c7 : Bool), e2 = Ending.returned (Value.tuple #[Value.slice p4 k5 k6, Value.bool c7]) ∧ ∃ (R8 : List Own),
  ∃ (Φ9 : PW), Stable Φ9 ∧ Ctx W w3 (R8 ++ R1) Φ9 ∧ Br (!c7) (∀ (w10 : World) (R11 : List Own), Ctx W w10 (R8 ++ R11) Φ9 → J (Value.int IntKind.i64 bucket) w10) (((0 : Int) ≤ 0 ∧ 0 ≤ (↑k5 :
  Int) ∧ 32 * (↑k5 : Int) ≤ 281474976710656 ∧ (↑k5 : Int) ≤ 9223372036854775807) ∧ ∀ (k12 : Nat), exI fun (I13 : Option Addr → Nat → Nat → Int → List Own → PW → Nat → Prop) => (∃ (R14 : List
  Own), ∃ (Φ15 : PW), ∃ (k16 : Nat), Stable Φ15 ∧ (∀ (w17 : World) (R18 : List Own), Ctx W w17 (Own.blk k12 (List.replicate (↑k5 : Int).toNat [Value.int IntKind.i64 0, Value.int IntKind.i64
  0, Value.string (ByteArray.mk #[])]).flatten 99 :: R8 ++ R18) Φ9 → Ctx W w17 (R14 ++ R18) Φ15) ∧ I13 (some (Addr.mk k12 0 none)) 0 (↑k5 : Int).toNat 0 R14 Φ15 k16) ∧ ∀ (p19 : Option Addr)
  (k20 k21 : Nat) (n22 : Int) (R23 : List Own) (I24 : List Nat → World → Prop) (k25 : Nat), Stable I24 → I13 p19 k20 k21 n22 R23 I24 k25 → Br (decide (n22 < (↑k5 : Int))) ((0 ≤ n22 ∧ n22 <
  (↑k5 : Int)) ∧ ptrK none p4 fun (k26 k27 : Nat) => ∀ (w28 : World) (R29 : List Own), Ctx W w28 (R23 ++ R29) I24 → ∃ (n30 : Int), w28.cell? (Addr.mk k26 (k27 + n22.toNat) none) = some
  (Value.int IntKind.i64 n30) ∧ ∀ (b : Nat) (w31 : World) (R32 : List Own), Ctx W w31 (R23 ++ R32) I24 → Br (decide (0 ≤ n30) && decide (n30 < (↑rowN : Int))) ((0 ≤ n30 ∧ n30 < (↑rowN : Int))
  ∧ ptrK none rowP fun (k33 k34 : Nat) => ∀ (w35 : World) (R36 : List Own), Ctx W w35 (R23 ++ R36) I24 → ∃ (n37 : Int), ∃ (n38 : Int), ∃ (s39 : ByteArray), RowAt w35 k33 (k34 + n30.toNat * 3)
  [Value.int IntKind.i64 n37, Value.int IntKind.i64 n38, Value.string s39] ∧ ∀ (k40 : Nat) (w41 : World) (R42 : List Own), Ctx W w41 (Own.blk k40 [Value.int IntKind.i64 n37, Value.int
  IntKind.i64 n38, Value.string s39] 99 :: R23 ++ R42) I24 → ∃ (p43 : Option Addr), ∃ (k44 : Nat), ∃ (k45 : Nat), ∃ (w46 : World), Sem.run Tryd.prog (builtin Builtin.append #[40, 40] 40
  #[false, false] #[Value.slice p19 k20 k21, Value.slice (some (Addr.mk k40 0 none)) 1 1]) w41 = Result.ok (Next.value (Value.slice p43 k44 k45)) w46 ∧ ∃ (R47 : List Own), ∃ (Φ48 : PW),
  Stable Φ48 ∧ Ctx W w46 (R47 ++ R42) Φ48 ∧ I64 (n22 + 1) ∧ ∃ (R49 : List Own), ∃ (Φ50 : PW), ∃ (k51 : Nat), Stable Φ50 ∧ (∀ (w52 : World) (R53 : List Own), Ctx W w52 (R47 ++ R53) Φ48 → Ctx W
  w52 (R49 ++ R53) Φ50) ∧ I13 p43 k44 k45 (n22 + 1) R49 Φ50 k51 ∧ k51 < k25) (∀ (k54 : Nat) (w55 : World) (R56 : List Own), Ctx W w55 (Own.blk k54 [Value.int IntKind.i64 0, Value.int
  IntKind.i64 0, Value.string (ByteArray.mk #[])] 99 :: R23 ++ R56) I24 → ∃ (p57 : Option Addr), ∃ (k58 : Nat), ∃ (k59 : Nat), ∃ (w60 : World), Sem.run Tryd.prog (builtin Builtin.append #[40,
  40] 40 #[false, false] #[Value.slice p19 k20 k21, Value.slice (some (Addr.mk k54 0 none)) 1 1]) w55 = Result.ok (Next.value (Value.slice p57 k58 k59)) w60 ∧ ∃ (R61 : List Own), ∃ (Φ62 :
  PW), Stable Φ62 ∧ Ctx W w60 (R61 ++ R56) Φ62 ∧ I64 (n22 + 1) ∧ ∃ (R63 : List Own), ∃ (Φ64 : PW), ∃ (k65 : Nat), Stable Φ64 ∧ (∀ (w66 : World) (R67 : List Own), Ctx W w66 (R61 ++ R67) Φ62 →
  Ctx W w66 (R63 ++ R67) Φ64) ∧ I13 p57 k58 k59 (n22 + 1) R63 Φ64 k65 ∧ k65 < k25)) (∀ (w68 : World) (R69 : List Own), Ctx W w68 (R23 ++ R69) I24 → Calls Tryd.prog F.place_Bucket
  #[Value.slice p19 k20 k21] w68 fun (e70 : Ending) (w71 : World) => ∃ (n72 : Int), e70 = Ending.returned (Value.int IntKind.i64 n72) ∧ ∃ (R73 : List Own), ∃ (Φ74 : PW), Stable Φ74 ∧ Ctx W
  w71 (R73 ++ R69) Φ74 ∧ ∀ (w75 : World) (R76 : List Own), Ctx W w75 (R73 ++ R76) Φ74 → J (Value.int IntKind.i64 n72) w75))

/-- place.Bucket -/
-- loop at region 3: 3 n, 10 ; blocks 
def Bplace_Bucket (valuesP : Option Addr) (valuesN valuesC : Nat) (W : World) (R : List Own) (Φ : PW) (J : Value → World → Prop) : Prop :=
  ∀ (w0 : World) (R1 : List Own), Ctx W w0 (R ++ R1) Φ → Calls Tryd.prog F.value_RowBytes #[Value.slice valuesP valuesN valuesC] w0 fun (e2 : Ending) (w3 : World) => ∃ (s4 : ByteArray), e2 =
  Ending.returned (Value.string s4) ∧ ∃ (R5 : List Own), ∃ (Φ6 : PW), Stable Φ6 ∧ Ctx W w3 (R5 ++ R1) Φ6 ∧ ∀ (w7 : World) (R8 : List Own), Ctx W w7 (R5 ++ R8) Φ6 → ∃ (p9 : Option Addr), ∃
  (k10 : Nat), ∃ (k11 : Nat), ∃ (w12 : World), Sem.run Tryd.prog (convert 9 109 (Value.string s4)) w7 = Result.ok (Value.slice p9 k10 k11) w12 ∧ ∃ (R13 : List Own), ∃ (Φ14 : PW), Stable Φ14 ∧
  Ctx W w12 (R13 ++ R8) Φ14 ∧ exI fun (I15 : Int → Int → List Own → PW → Nat → Prop) => (∃ (R16 : List Own), ∃ (Φ17 : PW), ∃ (k18 : Nat), Stable Φ17 ∧ (∀ (w19 : World) (R20 : List Own), Ctx W
  w19 (R13 ++ R20) Φ14 → Ctx W w19 (R16 ++ R20) Φ17) ∧ I15 0 0 R16 Φ17 k18) ∧ ∀ (n21 n22 : Int) (R23 : List Own) (I24 : List Nat → World → Prop) (k25 : Nat), Stable I24 → I15 n21 n22 R23 I24
  k25 → Br (decide (n22 < (↑k10 : Int))) ((0 ≤ n22 ∧ n22 < (↑k10 : Int)) ∧ ptrK none p9 fun (k26 k27 : Nat) => ∀ (w28 : World) (R29 : List Own), Ctx W w28 (R23 ++ R29) I24 → ∃ (n30 : Int),
  w28.cell? (Addr.mk k26 (k27 + n22.toNat) none) = some (Value.int IntKind.u8 n30) ∧ I64 (n21 + IntKind.i64.wrap n30) ∧ I64 (n22 + 1) ∧ ∃ (R31 : List Own), ∃ (Φ32 : PW), ∃ (k33 : Nat), Stable
  Φ32 ∧ (∀ (w34 : World) (R35 : List Own), Ctx W w34 (R23 ++ R35) I24 → Ctx W w34 (R31 ++ R35) Φ32) ∧ I15 (n21 + IntKind.i64.wrap n30) (n22 + 1) R31 Φ32 k33 ∧ k33 < k25) (((16 : Int) = 0 →
  False) ∧ ∀ (w36 : World) (R37 : List Own), Ctx W w36 (R23 ++ R37) I24 → J (Value.int IntKind.i64 (n21.tmod 16)) w36)

/-- erratalaw37.values -/
-- loop at region 3: 5 out, 6 i; blocks 
-- known blocks: 7 v
def Berratalaw37_values (rowP : Option Addr) (rowN rowC : Nat) (keyP : Option Addr) (keyN keyC : Nat) (W : World) (R : List Own) (Φ : PW) (J : Value → World → Prop) : Prop :=
  exI fun (I0 : Option Addr → Nat → Nat → Int → List Own → PW → Nat → Prop) => (∃ (R1 : List Own), ∃ (Φ2 : PW), ∃ (k3 : Nat), Stable Φ2 ∧ (∀ (w4 : World) (R5 : List Own), Ctx W w4 (R ++ R5) Φ
  → Ctx W w4 (R1 ++ R5) Φ2) ∧ I0 none 0 0 0 R1 Φ2 k3) ∧ ∀ (p6 : Option Addr) (k7 k8 : Nat) (n9 : Int) (R10 : List Own) (I11 : List Nat → World → Prop) (k12 : Nat), Stable I11 → I0 p6 k7 k8 n9
  R10 I11 k12 → Br (decide (n9 < (↑keyN : Int))) (∀ (b : Nat) (w13 : World) (R14 : List Own), Ctx W w13 (R10 ++ R14) I11 → (0 ≤ n9 ∧ n9 < (↑keyN : Int)) ∧ ptrK none keyP fun (k15 k16 : Nat)
  => ∃ (n17 : Int), w13.cell? (Addr.mk k15 (k16 + n9.toNat) none) = some (Value.int IntKind.i64 n17) ∧ (decide (0 ≤ n17) = true → 0 ≤ n9 ∧ n9 < (↑keyN : Int)) ∧ ptrK (some (decide (0 ≤ n17)))
  keyP fun (k18 k19 : Nat) => ∃ (n20 : Int), (decide (0 ≤ n17) = true → w13.cell? (Addr.mk k18 (k19 + n9.toNat) none) = some (Value.int IntKind.i64 n20)) ∧ Br (decide (0 ≤ n17) && decide (n20
  < (↑rowN : Int))) ((0 ≤ n9 ∧ n9 < (↑keyN : Int)) ∧ ptrK none keyP fun (k21 k22 : Nat) => ∀ (w23 : World) (R24 : List Own), Ctx W w23 (R10 ++ R24) I11 → ∃ (n25 : Int), w23.cell? (Addr.mk k21
  (k22 + n9.toNat) none) = some (Value.int IntKind.i64 n25) ∧ (0 ≤ n25 ∧ n25 < (↑rowN : Int)) ∧ ptrK none rowP fun (k26 k27 : Nat) => ∀ (w28 : World) (R29 : List Own), Ctx W w28 (R10 ++ R29)
  I11 → ∃ (n30 : Int), ∃ (n31 : Int), ∃ (s32 : ByteArray), RowAt w28 k26 (k27 + n25.toNat * 3) [Value.int IntKind.i64 n30, Value.int IntKind.i64 n31, Value.string s32] ∧ ∀ (k33 : Nat) (w34 :
  World) (R35 : List Own), Ctx W w34 (Own.blk k33 [Value.int IntKind.i64 n30, Value.int IntKind.i64 n31, Value.string s32] 99 :: R10 ++ R35) I11 → ∃ (p36 : Option Addr), ∃ (k37 : Nat), ∃ (k38
  : Nat), ∃ (w39 : World), Sem.run Tryd.prog (builtin Builtin.append #[40, 40] 40 #[false, false] #[Value.slice p6 k7 k8, Value.slice (some (Addr.mk k33 0 none)) 1 1]) w34 = Result.ok
  (Next.value (Value.slice p36 k37 k38)) w39 ∧ ∃ (R40 : List Own), ∃ (Φ41 : PW), Stable Φ41 ∧ Ctx W w39 (R40 ++ R35) Φ41 ∧ I64 (n9 + 1) ∧ ∃ (R42 : List Own), ∃ (Φ43 : PW), ∃ (k44 : Nat),
  Stable Φ43 ∧ (∀ (w45 : World) (R46 : List Own), Ctx W w45 (R40 ++ R46) Φ41 → Ctx W w45 (R42 ++ R46) Φ43) ∧ I0 p36 k37 k38 (n9 + 1) R42 Φ43 k44 ∧ k44 < k12) (∀ (k47 : Nat) (w48 : World) (R49
  : List Own), Ctx W w48 (Own.blk k47 [Value.int IntKind.i64 0, Value.int IntKind.i64 0, Value.string (ByteArray.mk #[])] 99 :: R10 ++ R49) I11 → ∃ (p50 : Option Addr), ∃ (k51 : Nat), ∃ (k52
  : Nat), ∃ (w53 : World), Sem.run Tryd.prog (builtin Builtin.append #[40, 40] 40 #[false, false] #[Value.slice p6 k7 k8, Value.slice (some (Addr.mk k47 0 none)) 1 1]) w48 = Result.ok
  (Next.value (Value.slice p50 k51 k52)) w53 ∧ ∃ (R54 : List Own), ∃ (Φ55 : PW), Stable Φ55 ∧ Ctx W w53 (R54 ++ R49) Φ55 ∧ I64 (n9 + 1) ∧ ∃ (R56 : List Own), ∃ (Φ57 : PW), ∃ (k58 : Nat),
  Stable Φ57 ∧ (∀ (w59 : World) (R60 : List Own), Ctx W w59 (R54 ++ R60) Φ55 → Ctx W w59 (R56 ++ R60) Φ57) ∧ I0 p50 k51 k52 (n9 + 1) R56 Φ57 k58 ∧ k58 < k12)) (∀ (w61 : World) (R62 : List
  Own), Ctx W w61 (R10 ++ R62) I11 → J (Value.slice p6 k7 k8) w61)

/-- value.SameRows -/
def Bvalue_SameRows (aP : Option Addr) (aN aC : Nat) (bP : Option Addr) (bN bC : Nat) (W : World) (R : List Own) (Φ : PW) (J : Value → World → Prop) : Prop :=
  ∀ (w0 : World) (R1 : List Own), Ctx W w0 (R ++ R1) Φ → Calls Tryd.prog F.slices_Equal_api_Value_api_Value #[Value.slice aP aN aC, Value.slice bP bN bC] w0 fun (e2 : Ending) (w3 : World) =>
  ∃ (c4 : Bool), e2 = Ending.returned (Value.bool c4) ∧ ∃ (R5 : List Own), ∃ (Φ6 : PW), Stable Φ6 ∧ Ctx W w3 (R5 ++ R1) Φ6 ∧ ∀ (w7 : World) (R8 : List Own), Ctx W w7 (R5 ++ R8) Φ6 → J
  (Value.bool c4) w7

/-- errataref37.SameInts -/
-- loop at region 4: 5 i; blocks 
def Berrataref37_SameInts (aP : Option Addr) (aN aC : Nat) (bP : Option Addr) (bN bC : Nat) (W : World) (R : List Own) (Φ : PW) (J : Value → World → Prop) : Prop :=
  Br (decide ((↑aN : Int) ≠ (↑bN : Int))) (∀ (w0 : World) (R1 : List Own), Ctx W w0 (R ++ R1) Φ → J (Value.bool false) w0) (exI fun (I2 : Int → List Own → PW → Nat → Prop) => (∃ (R3 : List
  Own), ∃ (Φ4 : PW), ∃ (k5 : Nat), Stable Φ4 ∧ (∀ (w6 : World) (R7 : List Own), Ctx W w6 (R ++ R7) Φ → Ctx W w6 (R3 ++ R7) Φ4) ∧ I2 0 R3 Φ4 k5) ∧ ∀ (n8 : Int) (R9 : List Own) (I10 : List Nat
  → World → Prop) (k11 : Nat), Stable I10 → I2 n8 R9 I10 k11 → Br (decide (n8 < (↑aN : Int))) (∀ (w12 : World) (R13 : List Own), Ctx W w12 (R9 ++ R13) I10 → (0 ≤ n8 ∧ n8 < (↑aN : Int)) ∧ ptrK
  none aP fun (k14 k15 : Nat) => ∃ (n16 : Int), w12.cell? (Addr.mk k14 (k15 + n8.toNat) none) = some (Value.int IntKind.i64 n16) ∧ (0 ≤ n8 ∧ n8 < (↑bN : Int)) ∧ ptrK none bP fun (k17 k18 :
  Nat) => ∃ (n19 : Int), w12.cell? (Addr.mk k17 (k18 + n8.toNat) none) = some (Value.int IntKind.i64 n19) ∧ Br (decide (n16 ≠ n19)) (∀ (w20 : World) (R21 : List Own), Ctx W w20 (R9 ++ R21)
  I10 → J (Value.bool false) w20) (I64 (n8 + 1) ∧ ∃ (R22 : List Own), ∃ (Φ23 : PW), ∃ (k24 : Nat), Stable Φ23 ∧ (∀ (w25 : World) (R26 : List Own), Ctx W w25 (R9 ++ R26) I10 → Ctx W w25 (R22
  ++ R26) Φ23) ∧ I2 (n8 + 1) R22 Φ23 k24 ∧ k24 < k11)) (∀ (w27 : World) (R28 : List Own), Ctx W w27 (R9 ++ R28) I10 → J (Value.bool true) w27))

/-- slices.Min[[]int,int] -/
-- loop at region 5: 3 m, 4 i; blocks 
def Bslices_Min_int_int (xP : Option Addr) (xN xC : Nat) (W : World) (R : List Own) (Φ : PW) (J : Value → World → Prop) : Prop :=
  Br (decide ((↑xN : Int) < 1)) (∀ (w0 : World) (R1 : List Own), Ctx W w0 (R ++ R1) Φ → False) (((0 : Int) ≤ 0 ∧ 0 < (↑xN : Int)) ∧ ptrK none xP fun (k2 k3 : Nat) => ∀ (w4 : World) (R5 : List
  Own), Ctx W w4 (R ++ R5) Φ → ∃ (n6 : Int), w4.cell? (Addr.mk k2 k3 none) = some (Value.int IntKind.i64 n6) ∧ exI fun (I7 : Int → Int → List Own → PW → Nat → Prop) => (∃ (R8 : List Own), ∃
  (Φ9 : PW), ∃ (k10 : Nat), Stable Φ9 ∧ (∀ (w11 : World) (R12 : List Own), Ctx W w11 (R ++ R12) Φ → Ctx W w11 (R8 ++ R12) Φ9) ∧ I7 n6 1 R8 Φ9 k10) ∧ ∀ (n13 n14 : Int) (R15 : List Own) (I16 :
  List Nat → World → Prop) (k17 : Nat), Stable I16 → I7 n13 n14 R15 I16 k17 → Br (decide (n14 < (↑xN : Int))) ((0 ≤ n14 ∧ n14 < (↑xN : Int)) ∧ ptrK none xP fun (k18 k19 : Nat) => ∀ (w20 :
  World) (R21 : List Own), Ctx W w20 (R15 ++ R21) I16 → ∃ (n22 : Int), w20.cell? (Addr.mk k18 (k19 + n14.toNat) none) = some (Value.int IntKind.i64 n22) ∧ I64 (n14 + 1) ∧ ∃ (R23 : List Own),
  ∃ (Φ24 : PW), ∃ (k25 : Nat), Stable Φ24 ∧ (∀ (w26 : World) (R27 : List Own), Ctx W w26 (R15 ++ R27) I16 → Ctx W w26 (R23 ++ R27) Φ24) ∧ I7 (min n13 n22) (n14 + 1) R23 Φ24 k25 ∧ k25 < k17)
  (∀ (w28 : World) (R29 : List Own), Ctx W w28 (R15 ++ R29) I16 → J (Value.int IntKind.i64 n13) w28))

/-- slices.Max[[]int,int] -/
-- loop at region 5: 3 m, 4 i; blocks 
def Bslices_Max_int_int (xP : Option Addr) (xN xC : Nat) (W : World) (R : List Own) (Φ : PW) (J : Value → World → Prop) : Prop :=
  Br (decide ((↑xN : Int) < 1)) (∀ (w0 : World) (R1 : List Own), Ctx W w0 (R ++ R1) Φ → False) (((0 : Int) ≤ 0 ∧ 0 < (↑xN : Int)) ∧ ptrK none xP fun (k2 k3 : Nat) => ∀ (w4 : World) (R5 : List
  Own), Ctx W w4 (R ++ R5) Φ → ∃ (n6 : Int), w4.cell? (Addr.mk k2 k3 none) = some (Value.int IntKind.i64 n6) ∧ exI fun (I7 : Int → Int → List Own → PW → Nat → Prop) => (∃ (R8 : List Own), ∃
  (Φ9 : PW), ∃ (k10 : Nat), Stable Φ9 ∧ (∀ (w11 : World) (R12 : List Own), Ctx W w11 (R ++ R12) Φ → Ctx W w11 (R8 ++ R12) Φ9) ∧ I7 n6 1 R8 Φ9 k10) ∧ ∀ (n13 n14 : Int) (R15 : List Own) (I16 :
  List Nat → World → Prop) (k17 : Nat), Stable I16 → I7 n13 n14 R15 I16 k17 → Br (decide (n14 < (↑xN : Int))) ((0 ≤ n14 ∧ n14 < (↑xN : Int)) ∧ ptrK none xP fun (k18 k19 : Nat) => ∀ (w20 :
  World) (R21 : List Own), Ctx W w20 (R15 ++ R21) I16 → ∃ (n22 : Int), w20.cell? (Addr.mk k18 (k19 + n14.toNat) none) = some (Value.int IntKind.i64 n22) ∧ I64 (n14 + 1) ∧ ∃ (R23 : List Own),
  ∃ (Φ24 : PW), ∃ (k25 : Nat), Stable Φ24 ∧ (∀ (w26 : World) (R27 : List Own), Ctx W w26 (R15 ++ R27) I16 → Ctx W w26 (R23 ++ R27) Φ24) ∧ I7 (max n13 n22) (n14 + 1) R23 Φ24 k25 ∧ k25 < k17)
  (∀ (w28 : World) (R29 : List Own), Ctx W w28 (R15 ++ R29) I16 → J (Value.int IntKind.i64 n13) w28))

/-- place.shares -/
-- loop at region 3: 8 ; blocks 
-- known blocks: 2 
def Bplace_shares (pP : Option Addr) (pN pC : Nat) (W : World) (R : List Own) (Φ : PW) (J : Value → World → Prop) : Prop :=
  ∀ (b k0 : Nat), exI fun (I1 : Int → List Own → PW → Nat → Prop) => (∃ (R2 : List Own), ∃ (Φ3 : PW), ∃ (k4 : Nat), Stable Φ3 ∧ (∀ (w5 : World) (R6 : List Own), Ctx W w5 (Own.blk k0
  [Value.int IntKind.i64 0, Value.int IntKind.i64 0, Value.int IntKind.i64 0, Value.int IntKind.i64 0, Value.int IntKind.i64 0, Value.int IntKind.i64 0, Value.int IntKind.i64 0, Value.int
  IntKind.i64 0] 102 :: R ++ R6) Φ → Ctx W w5 (R2 ++ R6) Φ3) ∧ I1 0 R2 Φ3 k4) ∧ ∀ (n7 : Int) (R8 : List Own) (I9 : List Nat → World → Prop) (k10 : Nat), Stable I9 → I1 n7 R8 I9 k10 → Br
  (decide (n7 < (↑pN : Int))) ((0 ≤ n7 ∧ n7 < (↑pN : Int)) ∧ ptrK none pP fun (k11 k12 : Nat) => ∀ (w13 : World) (R14 : List Own), Ctx W w13 (R8 ++ R14) I9 → ∃ (n15 : Int), w13.cell? (Addr.mk
  k11 (k12 + n7.toNat) none) = some (Value.int IntKind.i64 n15) ∧ (0 ≤ n15 ∧ n15 < 8) ∧ ∀ (w16 : World) (R17 : List Own), Ctx W w16 (R8 ++ R17) I9 → ∃ (n18 : Int), w16.cell? (Addr.mk k0 (0 +
  n15.toNat) none) = some (Value.int IntKind.i64 n18) ∧ I64 (n18 + 1) ∧ (0 ≤ n15 ∧ n15 < 8) ∧ ∀ (w19 : World) (R20 : List Own), Ctx W w19 (R8 ++ R20) I9 → CanWrite w19 k0 (0 + n15.toNat) 1 ∧
  ∀ (w21 : World), w21 = w19.setCell (Addr.mk k0 (0 + n15.toNat) none) (Value.int IntKind.i64 (n18 + 1)) → ∃ (R22 : List Own), ∃ (Φ23 : PW), Stable Φ23 ∧ Ctx W w21 (R22 ++ R20) Φ23 ∧ I64 (n7
  + 1) ∧ ∃ (R24 : List Own), ∃ (Φ25 : PW), ∃ (k26 : Nat), Stable Φ25 ∧ (∀ (w27 : World) (R28 : List Own), Ctx W w27 (R22 ++ R28) Φ23 → Ctx W w27 (R24 ++ R28) Φ25) ∧ I1 (n7 + 1) R24 Φ25 k26 ∧
  k26 < k10) (∀ (w29 : World) (R30 : List Own), Ctx W w29 (R8 ++ R30) I9 → ∃ (n31 : Int), ∃ (n32 : Int), ∃ (n33 : Int), ∃ (n34 : Int), ∃ (n35 : Int), ∃ (n36 : Int), ∃ (n37 : Int), ∃ (n38 :
  Int), RowAt w29 k0 0 [Value.int IntKind.i64 n31, Value.int IntKind.i64 n32, Value.int IntKind.i64 n33, Value.int IntKind.i64 n34, Value.int IntKind.i64 n35, Value.int IntKind.i64 n36,
  Value.int IntKind.i64 n37, Value.int IntKind.i64 n38] ∧ ∀ (w39 : World) (R40 : List Own), Ctx W w39 (R8 ++ R40) I9 → J (Value.agg #[Value.int IntKind.i64 n31, Value.int IntKind.i64 n32,
  Value.int IntKind.i64 n33, Value.int IntKind.i64 n34, Value.int IntKind.i64 n35, Value.int IntKind.i64 n36, Value.int IntKind.i64 n37, Value.int IntKind.i64 n38]) w39)

/-- slices.SortStableFunc[[]int,int] -/
def Bslices_SortStableFunc_int_int (xP : Option Addr) (xN xC : Nat) (cmpF : FuncId) (cmpC : Array Value) (W : World) (R : List Own) (Φ : PW) (J : Value → World → Prop) : Prop :=
  ∀ (w0 : World) (R1 : List Own), Ctx W w0 (R ++ R1) Φ → Calls Tryd.prog F.slices_stableCmpFunc_int #[Value.slice xP xN xC, Value.int IntKind.i64 (↑xN : Int), Value.func (Fn.func cmpF) #[]
  cmpC] w0 fun (e2 : Ending) (w3 : World) => e2 = Ending.returned (Value.tuple #[]) ∧ ∃ (R4 : List Own), ∃ (Φ5 : PW), Stable Φ5 ∧ Ctx W w3 (R4 ++ R1) Φ5 ∧ ∀ (w6 : World) (R7 : List Own), Ctx
  W w6 (R4 ++ R7) Φ5 → J (Value.tuple #[]) w6

/-- place.Spread$1 -/
def Bplace_Spread_1 (a b : Int) (kB kO : Nat) (W : World) (R : List Own) (Φ : PW) (J : Value → World → Prop) : Prop :=
  ∀ (w0 : World) (R1 : List Own), Ctx W w0 (R ++ R1) Φ → (0 ≤ b ∧ b < 8) ∧ ∃ (n2 : Int), w0.cell? (Addr.mk kB (kO + b.toNat) none) = some (Value.int IntKind.i64 n2) ∧ (0 ≤ a ∧ a < 8) ∧ ∃ (n3
  : Int), w0.cell? (Addr.mk kB (kO + a.toNat) none) = some (Value.int IntKind.i64 n3) ∧ I64 (n2 - n3) ∧ ∀ (w4 : World) (R5 : List Own), Ctx W w4 (R ++ R5) Φ → J (Value.int IntKind.i64 (n2 -
  n3)) w4

/-- slices.Clone[[]int,int] -/
def Bslices_Clone_int_int (sP : Option Addr) (sN sC : Nat) (W : World) (R : List Own) (Φ : PW) (J : Value → World → Prop) : Prop :=
  Br sP.isNone (∀ (w0 : World) (R1 : List Own), Ctx W w0 (R ++ R1) Φ → J (Value.slice none 0 0) w0) (∀ (k2 : Nat) (w3 : World) (R4 : List Own), Ctx W w3 (Own.blk k2 [] 3 :: R ++ R4) Φ → ∃ (p5
  : Option Addr), ∃ (k6 : Nat), ∃ (k7 : Nat), ∃ (w8 : World), Sem.run Tryd.prog (builtin Builtin.append #[22, 22] 22 #[false, false] #[Value.slice (some (Addr.mk k2 0 none)) 0 0, Value.slice
  sP sN sC]) w3 = Result.ok (Next.value (Value.slice p5 k6 k7)) w8 ∧ ∃ (R9 : List Own), ∃ (Φ10 : PW), Stable Φ10 ∧ Ctx W w8 (R9 ++ R4) Φ10 ∧ ∀ (w11 : World) (R12 : List Own), Ctx W w11 (R9 ++
  R12) Φ10 → J (Value.slice p5 k6 k7) w11)

/-- slices.IndexFunc[[]int,int] -/
-- loop at region 2: 8 ; blocks 
def Bslices_IndexFunc_int_int (sP : Option Addr) (sN sC : Nat) (fF : FuncId) (fC : Array Value) (W : World) (R : List Own) (Φ : PW) (J : Value → World → Prop) : Prop :=
  exI fun (I0 : Int → List Own → PW → Nat → Prop) => (∃ (R1 : List Own), ∃ (Φ2 : PW), ∃ (k3 : Nat), Stable Φ2 ∧ (∀ (w4 : World) (R5 : List Own), Ctx W w4 (R ++ R5) Φ → Ctx W w4 (R1 ++ R5) Φ2)
  ∧ I0 0 R1 Φ2 k3) ∧ ∀ (n6 : Int) (R7 : List Own) (I8 : List Nat → World → Prop) (k9 : Nat), Stable I8 → I0 n6 R7 I8 k9 → Br (decide (n6 < (↑sN : Int))) ((0 ≤ n6 ∧ n6 < (↑sN : Int)) ∧ ptrK
  none sP fun (k10 k11 : Nat) => ∀ (w12 : World) (R13 : List Own), Ctx W w12 (R7 ++ R13) I8 → ∃ (n14 : Int), w12.cell? (Addr.mk k10 (k11 + n6.toNat) none) = some (Value.int IntKind.i64 n14) ∧
  ∀ (w15 : World) (R16 : List Own), Ctx W w15 (R7 ++ R16) I8 → okFun Tryd.prog fF = true ∧ Calls Tryd.prog fF (Array.mk (Value.int IntKind.i64 n14 :: fC.toList)) w15 fun (e17 : Ending) (w18 :
  World) => ∃ (c19 : Bool), e17 = Ending.returned (Value.bool c19) ∧ ∃ (R20 : List Own), ∃ (Φ21 : PW), Stable Φ21 ∧ Ctx W w18 (R20 ++ R16) Φ21 ∧ Br c19 (∀ (w22 : World) (R23 : List Own), Ctx
  W w22 (R20 ++ R23) Φ21 → J (Value.int IntKind.i64 n6) w22) (I64 (n6 + 1) ∧ ∃ (R24 : List Own), ∃ (Φ25 : PW), ∃ (k26 : Nat), Stable Φ25 ∧ (∀ (w27 : World) (R28 : List Own), Ctx W w27 (R20 ++
  R28) Φ21 → Ctx W w27 (R24 ++ R28) Φ25) ∧ I0 (n6 + 1) R24 Φ25 k26 ∧ k26 < k9)) (∀ (w29 : World) (R30 : List Own), Ctx W w29 (R7 ++ R30) I8 → J (Value.int IntKind.i64 (-1)) w29)

/-- place.Spread$2 -/
def Bplace_Spread_2 (n : Int) (W : World) (R : List Own) (Φ : PW) (J : Value → World → Prop) : Prop :=
  ∀ (w0 : World) (R1 : List Own), Ctx W w0 (R ++ R1) Φ → J (Value.bool (decide (0 < n))) w0

/-- place.Of -/
-- loop at region 3: 5 out, 10 ; blocks 
def Bplace_Of (pP : Option Addr) (pN pC : Nat) (worker : Int) (W : World) (R : List Own) (Φ : PW) (J : Value → World → Prop) : Prop :=
  exI fun (I0 : Option Addr → Nat → Nat → Int → List Own → PW → Nat → Prop) => (∃ (R1 : List Own), ∃ (Φ2 : PW), ∃ (k3 : Nat), Stable Φ2 ∧ (∀ (w4 : World) (R5 : List Own), Ctx W w4 (R ++ R5) Φ
  → Ctx W w4 (R1 ++ R5) Φ2) ∧ I0 none 0 0 0 R1 Φ2 k3) ∧ ∀ (p6 : Option Addr) (k7 k8 : Nat) (n9 : Int) (R10 : List Own) (I11 : List Nat → World → Prop) (k12 : Nat), Stable I11 → I0 p6 k7 k8 n9
  R10 I11 k12 → Br (decide (n9 < (↑pN : Int))) ((0 ≤ n9 ∧ n9 < (↑pN : Int)) ∧ ptrK none pP fun (k13 k14 : Nat) => ∀ (w15 : World) (R16 : List Own), Ctx W w15 (R10 ++ R16) I11 → ∃ (n17 : Int),
  w15.cell? (Addr.mk k13 (k14 + n9.toNat) none) = some (Value.int IntKind.i64 n17) ∧ Br (decide (n17 = worker)) (∀ (k18 : Nat) (w19 : World) (R20 : List Own), Ctx W w19 (Own.blk k18
  [Value.int IntKind.i64 n9] 3 :: R10 ++ R20) I11 → ∃ (p21 : Option Addr), ∃ (k22 : Nat), ∃ (k23 : Nat), ∃ (w24 : World), Sem.run Tryd.prog (builtin Builtin.append #[22, 22] 22 #[false,
  false] #[Value.slice p6 k7 k8, Value.slice (some (Addr.mk k18 0 none)) 1 1]) w19 = Result.ok (Next.value (Value.slice p21 k22 k23)) w24 ∧ ∃ (R25 : List Own), ∃ (Φ26 : PW), Stable Φ26 ∧ Ctx
  W w24 (R25 ++ R20) Φ26 ∧ I64 (n9 + 1) ∧ ∃ (R27 : List Own), ∃ (Φ28 : PW), ∃ (k29 : Nat), Stable Φ28 ∧ (∀ (w30 : World) (R31 : List Own), Ctx W w30 (R25 ++ R31) Φ26 → Ctx W w30 (R27 ++ R31)
  Φ28) ∧ I0 p21 k22 k23 (n9 + 1) R27 Φ28 k29 ∧ k29 < k12) (I64 (n9 + 1) ∧ ∃ (R32 : List Own), ∃ (Φ33 : PW), ∃ (k34 : Nat), Stable Φ33 ∧ (∀ (w35 : World) (R36 : List Own), Ctx W w35 (R10 ++
  R36) I11 → Ctx W w35 (R32 ++ R36) Φ33) ∧ I0 p6 k7 k8 (n9 + 1) R32 Φ33 k34 ∧ k34 < k12)) (∀ (w37 : World) (R38 : List Own), Ctx W w37 (R10 ++ R38) I11 → J (Value.slice p6 k7 k8) w37)

/-- value.RowBytes -/
-- loop at region 4: 12 ; blocks 
-- known blocks: 5 v
def Bvalue_RowBytes (rP : Option Addr) (rN rC : Nat) (W : World) (R : List Own) (Φ : PW) (J : Value → World → Prop) : Prop :=
  ∀ (k0 : Nat) (w1 : World) (R2 : List Own), Ctx W w1 (Own.blk k0 [Value.pointer none, Value.slice none 0 0] 138 :: R ++ R2) Φ → Calls Tryd.prog F.wire_Num #[Value.int IntKind.i64 (↑rN :
  Int)] w1 fun (e3 : Ending) (w4 : World) => ∃ (s5 : ByteArray), e3 = Ending.returned (Value.string s5) ∧ ∃ (R6 : List Own), ∃ (Φ7 : PW), Stable Φ7 ∧ Ctx W w4 (R6 ++ R2) Φ7 ∧ ∀ (w8 : World)
  (R9 : List Own), Ctx W w8 (R6 ++ R9) Φ7 → Calls Tryd.prog F.strings_Builder_WriteString #[Value.pointer (some (Addr.mk k0 0 none)), Value.string s5] w8 fun (e10 : Ending) (w11 : World) => ∃
  (n12 : Int), ∃ (v13 : Value), e10 = Ending.returned (Value.tuple #[Value.int IntKind.i64 n12, v13]) ∧ ∃ (R14 : List Own), ∃ (Φ15 : PW), Stable Φ15 ∧ Ctx W w11 (R14 ++ R9) Φ15 ∧ exI fun (I16
  : Int → List Own → PW → Nat → Prop) => (∃ (R17 : List Own), ∃ (Φ18 : PW), ∃ (k19 : Nat), Stable Φ18 ∧ (∀ (w20 : World) (R21 : List Own), Ctx W w20 (R14 ++ R21) Φ15 → Ctx W w20 (R17 ++ R21)
  Φ18) ∧ I16 0 R17 Φ18 k19) ∧ ∀ (n22 : Int) (R23 : List Own) (I24 : List Nat → World → Prop) (k25 : Nat), Stable I24 → I16 n22 R23 I24 k25 → Br (decide (n22 < (↑rN : Int))) ((0 ≤ n22 ∧ n22 <
  (↑rN : Int)) ∧ ptrK none rP fun (k26 k27 : Nat) => ∀ (w28 : World) (R29 : List Own), Ctx W w28 (R23 ++ R29) I24 → ∃ (n30 : Int), ∃ (n31 : Int), ∃ (s32 : ByteArray), RowAt w28 k26 (k27 +
  n22.toNat * 3) [Value.int IntKind.i64 n30, Value.int IntKind.i64 n31, Value.string s32] ∧ ∀ (b : Nat) (w33 : World) (R34 : List Own), Ctx W w33 (R23 ++ R34) I24 → Calls Tryd.prog
  F.value_Bytes #[Value.agg #[Value.int IntKind.i64 n30, Value.int IntKind.i64 n31, Value.string s32]] w33 fun (e35 : Ending) (w36 : World) => ∃ (s37 : ByteArray), e35 = Ending.returned
  (Value.string s37) ∧ ∃ (R38 : List Own), ∃ (Φ39 : PW), Stable Φ39 ∧ Ctx W w36 (R38 ++ R34) Φ39 ∧ ∀ (w40 : World) (R41 : List Own), Ctx W w40 (R38 ++ R41) Φ39 → Calls Tryd.prog
  F.strings_Builder_WriteString #[Value.pointer (some (Addr.mk k0 0 none)), Value.string s37] w40 fun (e42 : Ending) (w43 : World) => ∃ (n44 : Int), ∃ (v45 : Value), e42 = Ending.returned
  (Value.tuple #[Value.int IntKind.i64 n44, v45]) ∧ ∃ (R46 : List Own), ∃ (Φ47 : PW), Stable Φ47 ∧ Ctx W w43 (R46 ++ R41) Φ47 ∧ I64 (n22 + 1) ∧ ∃ (R48 : List Own), ∃ (Φ49 : PW), ∃ (k50 :
  Nat), Stable Φ49 ∧ (∀ (w51 : World) (R52 : List Own), Ctx W w51 (R46 ++ R52) Φ47 → Ctx W w51 (R48 ++ R52) Φ49) ∧ I16 (n22 + 1) R48 Φ49 k50 ∧ k50 < k25) (∀ (w53 : World) (R54 : List Own),
  Ctx W w53 (R23 ++ R54) I24 → Calls Tryd.prog F.strings_Builder_String #[Value.pointer (some (Addr.mk k0 0 none))] w53 fun (e55 : Ending) (w56 : World) => ∃ (s57 : ByteArray), e55 =
  Ending.returned (Value.string s57) ∧ ∃ (R58 : List Own), ∃ (Φ59 : PW), Stable Φ59 ∧ Ctx W w56 (R58 ++ R54) Φ59 ∧ ∀ (w60 : World) (R61 : List Own), Ctx W w60 (R58 ++ R61) Φ59 → J
  (Value.string s57) w60)

theorem Bvalue_RowBytes_run (rP : Option Addr) (rN rC : Nat) {W w : World} {R : List Own} {Φ : PW} [Stable Φ] {J : Value → World → Prop} (c : Ctx W w R Φ) (h : Bvalue_RowBytes rP rN rC W R Φ J) : Calls Tryd.prog F.value_RowBytes #[.slice rP rN rC] w fun e w' => ∃ v, e = .returned v ∧ J v w' :=
  vcFS_sound (H := { keep := some [0, 2, 3, 5, 10, 11, 12, 13], track := [5], loops := [(4, [(12, .one (.int .i64))], [])] }) (by rw [show vcFS Tryd.prog W { keep := some [0, 2, 3, 5, 10, 11, 12, 13], track := [5], loops := [(4, [(12, .one (.int .i64))], [])] } F.value_RowBytes #[.slice rP rN rC] R Φ J = Bvalue_RowBytes rP rN rC W R Φ J by kernel_rfl]; exact h) c

/-- slices.Equal[[]api.Value,api.Value] -/
-- loop at region 4: 13 ; blocks 
def Bslices_Equal_api_Value_api_Value (s1P : Option Addr) (s1N s1C : Nat) (s2P : Option Addr) (s2N s2C : Nat) (W : World) (R : List Own) (Φ : PW) (J : Value → World → Prop) : Prop :=
  Br (decide ((↑s1N : Int) ≠ (↑s2N : Int))) (∀ (w0 : World) (R1 : List Own), Ctx W w0 (R ++ R1) Φ → J (Value.bool false) w0) (exI fun (I2 : Int → List Own → PW → Nat → Prop) => (∃ (R3 : List
  Own), ∃ (Φ4 : PW), ∃ (k5 : Nat), Stable Φ4 ∧ (∀ (w6 : World) (R7 : List Own), Ctx W w6 (R ++ R7) Φ → Ctx W w6 (R3 ++ R7) Φ4) ∧ I2 0 R3 Φ4 k5) ∧ ∀ (n8 : Int) (R9 : List Own) (I10 : List Nat
  → World → Prop) (k11 : Nat), Stable I10 → I2 n8 R9 I10 k11 → Br (decide (n8 < (↑s1N : Int))) (∀ (w12 : World) (R13 : List Own), Ctx W w12 (R9 ++ R13) I10 → (0 ≤ n8 ∧ n8 < (↑s1N : Int)) ∧
  ptrK none s1P fun (k14 k15 : Nat) => ∃ (n16 : Int), ∃ (n17 : Int), ∃ (s18 : ByteArray), RowAt w12 k14 (k15 + n8.toNat * 3) [Value.int IntKind.i64 n16, Value.int IntKind.i64 n17,
  Value.string s18] ∧ (0 ≤ n8 ∧ n8 < (↑s2N : Int)) ∧ ptrK none s2P fun (k19 k20 : Nat) => ∃ (n21 : Int), ∃ (n22 : Int), ∃ (s23 : ByteArray), RowAt w12 k19 (k20 + n8.toNat * 3) [Value.int
  IntKind.i64 n21, Value.int IntKind.i64 n22, Value.string s23] ∧ okAgg Tryd.prog 99 = true ∧ Br (!(decide (n16 = n21) && (decide (n17 = n22) && (decide (s18 = s23) && true)))) (∀ (w24 :
  World) (R25 : List Own), Ctx W w24 (R9 ++ R25) I10 → J (Value.bool false) w24) (I64 (n8 + 1) ∧ ∃ (R26 : List Own), ∃ (Φ27 : PW), ∃ (k28 : Nat), Stable Φ27 ∧ (∀ (w29 : World) (R30 : List
  Own), Ctx W w29 (R9 ++ R30) I10 → Ctx W w29 (R26 ++ R30) Φ27) ∧ I2 (n8 + 1) R26 Φ27 k28 ∧ k28 < k11)) (∀ (w31 : World) (R32 : List Own), Ctx W w31 (R9 ++ R32) I10 → J (Value.bool true)
  w31))

/-- (*strings.Builder).WriteString -/
def Bstrings_Builder_WriteString (bB bO : Nat) (s : ByteArray) (W : World) (R : List Own) (Φ : PW) (J : Value → World → Prop) : Prop :=
  ∀ (w0 : World) (R1 : List Own), Ctx W w0 (R ++ R1) Φ → Calls Tryd.prog F.strings_Builder_copyCheck #[Value.pointer (some (Addr.mk bB bO none))] w0 fun (e2 : Ending) (w3 : World) => e2 =
  Ending.returned (Value.tuple #[]) ∧ ∃ (R4 : List Own), ∃ (Φ5 : PW), Stable Φ5 ∧ Ctx W w3 (R4 ++ R1) Φ5 ∧ ∀ (w6 : World) (R7 : List Own), Ctx W w6 (R4 ++ R7) Φ5 → ∃ (p8 : Option Addr), ∃ (k9
  : Nat), ∃ (k10 : Nat), w6.cell? (Addr.mk bB (bO + 1) none) = some (Value.slice p8 k9 k10) ∧ ∀ (w11 : World) (R12 : List Own), Ctx W w11 (R4 ++ R12) Φ5 → ∃ (p13 : Option Addr), ∃ (k14 :
  Nat), ∃ (k15 : Nat), ∃ (w16 : World), Sem.run Tryd.prog (builtin Builtin.append #[109, 9] 109 #[false, false] #[Value.slice p8 k9 k10, Value.string s]) w11 = Result.ok (Next.value
  (Value.slice p13 k14 k15)) w16 ∧ ∃ (R17 : List Own), ∃ (Φ18 : PW), Stable Φ18 ∧ Ctx W w16 (R17 ++ R12) Φ18 ∧ ∀ (w19 : World) (R20 : List Own), Ctx W w19 (R17 ++ R20) Φ18 → CanWrite w19 bB
  (bO + 1) 1 ∧ ∀ (w21 : World), w21 = w19.setCell (Addr.mk bB (bO + 1) none) (Value.slice p13 k14 k15) → ∃ (R22 : List Own), ∃ (Φ23 : PW), Stable Φ23 ∧ Ctx W w21 (R22 ++ R20) Φ23 ∧ ∀ (w24 :
  World) (R25 : List Own), Ctx W w24 (R22 ++ R25) Φ23 → J (Value.tuple #[Value.int IntKind.i64 (↑s.size : Int), Value.nilIface]) w24

theorem Bstrings_Builder_WriteString_run (bB bO : Nat) (s : ByteArray) {W w : World} {R : List Own} {Φ : PW} [Stable Φ] {J : Value → World → Prop} (c : Ctx W w R Φ) (h : Bstrings_Builder_WriteString bB bO s W R Φ J) : Calls Tryd.prog F.strings_Builder_WriteString #[.pointer (some ⟨bB, bO, none⟩), .string s] w fun e w' => ∃ v, e = .returned v ∧ J v w' :=
  vcFS_sound (H := { keep := some [0, 1, 4, 5] }) (by rw [show vcFS Tryd.prog W { keep := some [0, 1, 4, 5] } F.strings_Builder_WriteString #[.pointer (some ⟨bB, bO, none⟩), .string s] R Φ J = Bstrings_Builder_WriteString bB bO s W R Φ J by kernel_rfl]; exact h) c

/-- wire.Num -/
def Bwire_Num (n : Int) (W : World) (R : List Own) (Φ : PW) (J : Value → World → Prop) : Prop :=
  Br (decide (n < 0)) (∀ (w0 : World) (R1 : List Own), Ctx W w0 (R ++ R1) Φ → J (Value.string (ByteArray.mk #[])) w0) (∀ (w2 : World) (R3 : List Own), Ctx W w2 (R ++ R3) Φ → Calls Tryd.prog
  F.wire_Int #[Value.int IntKind.i64 n] w2 fun (e4 : Ending) (w5 : World) => ∃ (s6 : ByteArray), e4 = Ending.returned (Value.string s6) ∧ ∃ (R7 : List Own), ∃ (Φ8 : PW), Stable Φ8 ∧ Ctx W w5
  (R7 ++ R3) Φ8 ∧ ∀ (w9 : World) (R10 : List Own), Ctx W w9 (R7 ++ R10) Φ8 → J (Value.string s6) w9)

theorem Bwire_Num_run (n : Int) {W w : World} {R : List Own} {Φ : PW} [Stable Φ] {J : Value → World → Prop} (c : Ctx W w R Φ) (h : Bwire_Num n W R Φ J) : Calls Tryd.prog F.wire_Num #[.int .i64 n] w fun e w' => ∃ v, e = .returned v ∧ J v w' :=
  vcFS_sound (H := { keep := some [0, 2, 4] }) (by rw [show vcFS Tryd.prog W { keep := some [0, 2, 4] } F.wire_Num #[.int .i64 n] R Φ J = Bwire_Num n W R Φ J by kernel_rfl]; exact h) c

/-- wire.Int -/
def Bwire_Int (n : Int) (W : World) (R : List Own) (Φ : PW) (J : Value → World → Prop) : Prop :=
  ∀ (w0 : World) (R1 : List Own), Ctx W w0 (R ++ R1) Φ → Calls Tryd.prog F.strconv_Itoa #[Value.int IntKind.i64 n] w0 fun (e2 : Ending) (w3 : World) => ∃ (s4 : ByteArray), e2 =
  Ending.returned (Value.string s4) ∧ ∃ (R5 : List Own), ∃ (Φ6 : PW), Stable Φ6 ∧ Ctx W w3 (R5 ++ R1) Φ6 ∧ (s4.size + (ByteArray.mk #[OfNat.ofNat 59]).size).le 9223372036854775807 ∧ ∀ (w7 :
  World) (R8 : List Own), Ctx W w7 (R5 ++ R8) Φ6 → J (Value.string (s4 ++ ByteArray.mk #[OfNat.ofNat 59])) w7

theorem Bwire_Int_run (n : Int) {W w : World} {R : List Own} {Φ : PW} [Stable Φ] {J : Value → World → Prop} (c : Ctx W w R Φ) (h : Bwire_Int n W R Φ J) : Calls Tryd.prog F.wire_Int #[.int .i64 n] w fun e w' => ∃ v, e = .returned v ∧ J v w' :=
  vcFS_sound (H := { keep := some [0, 2] }) (by rw [show vcFS Tryd.prog W { keep := some [0, 2] } F.wire_Int #[.int .i64 n] R Φ J = Bwire_Int n W R Φ J by kernel_rfl]; exact h) c

/-- wire.Text -/
def Bwire_Text (s : ByteArray) (W : World) (R : List Own) (Φ : PW) (J : Value → World → Prop) : Prop :=
  ∀ (w0 : World) (R1 : List Own), Ctx W w0 (R ++ R1) Φ → Calls Tryd.prog F.strconv_Itoa #[Value.int IntKind.i64 (↑s.size : Int)] w0 fun (e2 : Ending) (w3 : World) => ∃ (s4 : ByteArray), e2 =
  Ending.returned (Value.string s4) ∧ ∃ (R5 : List Own), ∃ (Φ6 : PW), Stable Φ6 ∧ Ctx W w3 (R5 ++ R1) Φ6 ∧ (s4.size + (ByteArray.mk #[OfNat.ofNat 58]).size).le 9223372036854775807 ∧ ((s4 ++
  ByteArray.mk #[OfNat.ofNat 58]).size + s.size).le 9223372036854775807 ∧ ((s4 ++ ByteArray.mk #[OfNat.ofNat 58] ++ s).size + (ByteArray.mk #[OfNat.ofNat 44]).size).le 9223372036854775807 ∧ ∀
  (w7 : World) (R8 : List Own), Ctx W w7 (R5 ++ R8) Φ6 → J (Value.string (s4 ++ ByteArray.mk #[OfNat.ofNat 58] ++ s ++ ByteArray.mk #[OfNat.ofNat 44])) w7

theorem Bwire_Text_run (s : ByteArray) {W w : World} {R : List Own} {Φ : PW} [Stable Φ] {J : Value → World → Prop} (c : Ctx W w R Φ) (h : Bwire_Text s W R Φ J) : Calls Tryd.prog F.wire_Text #[.string s] w fun e w' => ∃ v, e = .returned v ∧ J v w' :=
  vcFS_sound (H := { keep := some [0, 2] }) (by rw [show vcFS Tryd.prog W { keep := some [0, 2] } F.wire_Text #[.string s] R Φ J = Bwire_Text s W R Φ J by kernel_rfl]; exact h) c

/-- slices.stableCmpFunc[int] -/
-- loop at region 9: 7 a, 8 b; blocks 
-- loop at region 7: 6 blockSize; blocks 
-- loop at region 2: 7 a, 8 b; blocks 
def Bslices_stableCmpFunc_int (dataP : Option Addr) (dataN dataC : Nat) (n : Int) (cmpF : FuncId) (cmpC : Array Value) (W : World) (R : List Own) (Φ : PW) (J : Value → World → Prop) : Prop :=
  exI fun (I0 : Int → Int → List Own → PW → Nat → Prop) => (∃ (R1 : List Own), ∃ (Φ2 : PW), ∃ (k3 : Nat), Stable Φ2 ∧ (∀ (w4 : World) (R5 : List Own), Ctx W w4 (R ++ R5) Φ → Ctx W w4 (R1 ++
  R5) Φ2) ∧ I0 0 20 R1 Φ2 k3) ∧ ∀ (n6 n7 : Int) (R8 : List Own) (I9 : List Nat → World → Prop) (k10 : Nat), Stable I9 → I0 n6 n7 R8 I9 k10 → Br (decide (n7 ≤ n)) (∀ (w11 : World) (R12 : List
  Own), Ctx W w11 (R8 ++ R12) I9 → Calls Tryd.prog F.slices_insertionSortCmpFunc_int #[Value.slice dataP dataN dataC, Value.int IntKind.i64 n6, Value.int IntKind.i64 n7, Value.func (Fn.func
  cmpF) #[] cmpC] w11 fun (e13 : Ending) (w14 : World) => e13 = Ending.returned (Value.tuple #[]) ∧ ∃ (R15 : List Own), ∃ (Φ16 : PW), Stable Φ16 ∧ Ctx W w14 (R15 ++ R12) Φ16 ∧ I64 (n7 + 20) ∧
  ∃ (R17 : List Own), ∃ (Φ18 : PW), ∃ (k19 : Nat), Stable Φ18 ∧ (∀ (w20 : World) (R21 : List Own), Ctx W w20 (R15 ++ R21) Φ16 → Ctx W w20 (R17 ++ R21) Φ18) ∧ I0 n7 (n7 + 20) R17 Φ18 k19 ∧ k19
  < k10) (∀ (w22 : World) (R23 : List Own), Ctx W w22 (R8 ++ R23) I9 → Calls Tryd.prog F.slices_insertionSortCmpFunc_int #[Value.slice dataP dataN dataC, Value.int IntKind.i64 n6, Value.int
  IntKind.i64 n, Value.func (Fn.func cmpF) #[] cmpC] w22 fun (e24 : Ending) (w25 : World) => e24 = Ending.returned (Value.tuple #[]) ∧ ∃ (R26 : List Own), ∃ (Φ27 : PW), Stable Φ27 ∧ Ctx W w25
  (R26 ++ R23) Φ27 ∧ exI fun (I28 : Int → List Own → PW → Nat → Prop) => (∃ (R29 : List Own), ∃ (Φ30 : PW), ∃ (k31 : Nat), Stable Φ30 ∧ (∀ (w32 : World) (R33 : List Own), Ctx W w32 (R26 ++
  R33) Φ27 → Ctx W w32 (R29 ++ R33) Φ30) ∧ I28 20 R29 Φ30 k31) ∧ ∀ (n34 : Int) (R35 : List Own) (I36 : List Nat → World → Prop) (k37 : Nat), Stable I36 → I28 n34 R35 I36 k37 → Br (decide (n34
  < n)) (I64 (2 * n34) ∧ exI fun (I38 : Int → Int → List Own → PW → Nat → Prop) => (∃ (R39 : List Own), ∃ (Φ40 : PW), ∃ (k41 : Nat), Stable Φ40 ∧ (∀ (w42 : World) (R43 : List Own), Ctx W w42
  (R35 ++ R43) I36 → Ctx W w42 (R39 ++ R43) Φ40) ∧ I38 0 (2 * n34) R39 Φ40 k41) ∧ ∀ (n44 n45 : Int) (R46 : List Own) (I47 : List Nat → World → Prop) (k48 : Nat), Stable I47 → I38 n44 n45 R46
  I47 k48 → Br (decide (n45 ≤ n)) (I64 (n44 + n34) ∧ ∀ (w49 : World) (R50 : List Own), Ctx W w49 (R46 ++ R50) I47 → Calls Tryd.prog F.slices_symMergeCmpFunc_int #[Value.slice dataP dataN
  dataC, Value.int IntKind.i64 n44, Value.int IntKind.i64 (n44 + n34), Value.int IntKind.i64 n45, Value.func (Fn.func cmpF) #[] cmpC] w49 fun (e51 : Ending) (w52 : World) => e51 =
  Ending.returned (Value.tuple #[]) ∧ ∃ (R53 : List Own), ∃ (Φ54 : PW), Stable Φ54 ∧ Ctx W w52 (R53 ++ R50) Φ54 ∧ I64 (2 * n34) ∧ I64 (n45 + 2 * n34) ∧ ∃ (R55 : List Own), ∃ (Φ56 : PW), ∃
  (k57 : Nat), Stable Φ56 ∧ (∀ (w58 : World) (R59 : List Own), Ctx W w58 (R53 ++ R59) Φ54 → Ctx W w58 (R55 ++ R59) Φ56) ∧ I38 n45 (n45 + 2 * n34) R55 Φ56 k57 ∧ k57 < k48) (I64 (n44 + n34) ∧
  Br (decide (n44 + n34 < n)) (∀ (w60 : World) (R61 : List Own), Ctx W w60 (R46 ++ R61) I47 → Calls Tryd.prog F.slices_symMergeCmpFunc_int #[Value.slice dataP dataN dataC, Value.int
  IntKind.i64 n44, Value.int IntKind.i64 (n44 + n34), Value.int IntKind.i64 n, Value.func (Fn.func cmpF) #[] cmpC] w60 fun (e62 : Ending) (w63 : World) => e62 = Ending.returned (Value.tuple
  #[]) ∧ ∃ (R64 : List Own), ∃ (Φ65 : PW), Stable Φ65 ∧ Ctx W w63 (R64 ++ R61) Φ65 ∧ I64 (n34 * 2) ∧ ∃ (R66 : List Own), ∃ (Φ67 : PW), ∃ (k68 : Nat), Stable Φ67 ∧ (∀ (w69 : World) (R70 : List
  Own), Ctx W w69 (R64 ++ R70) Φ65 → Ctx W w69 (R66 ++ R70) Φ67) ∧ I28 (n34 * 2) R66 Φ67 k68 ∧ k68 < k37) (I64 (n34 * 2) ∧ ∃ (R71 : List Own), ∃ (Φ72 : PW), ∃ (k73 : Nat), Stable Φ72 ∧ (∀
  (w74 : World) (R75 : List Own), Ctx W w74 (R46 ++ R75) I47 → Ctx W w74 (R71 ++ R75) Φ72) ∧ I28 (n34 * 2) R71 Φ72 k73 ∧ k73 < k37))) (∀ (w76 : World) (R77 : List Own), Ctx W w76 (R35 ++ R77)
  I36 → J (Value.tuple #[]) w76))

/-- value.Bytes -/
-- known blocks: 1 v
def Bvalue_Bytes (v0 : Int) (v1 : Int) (v2 : ByteArray) (W : World) (R : List Own) (Φ : PW) (J : Value → World → Prop) : Prop :=
  ∀ (b : Nat), ∃ (R0 : List Own), ∃ (Φ1 : PW), Stable Φ1 ∧ (∀ (w2 : World) (R3 : List Own), Ctx W w2 (R ++ R3) Φ → Ctx W w2 (R0 ++ R3) Φ1) ∧ ∀ (w4 : World) (R5 : List Own), Ctx W w4 (R ++ R5)
  Φ → Calls Tryd.prog F.wire_Int #[Value.int IntKind.i64 v0] w4 fun (e6 : Ending) (w7 : World) => ∃ (s8 : ByteArray), e6 = Ending.returned (Value.string s8) ∧ ∃ (R9 : List Own), ∃ (Φ10 : PW),
  Stable Φ10 ∧ Ctx W w7 (R9 ++ R5) Φ10 ∧ (∀ (w11 : World) (R12 : List Own), Ctx W w11 (R9 ++ R12) Φ10 → Ctx W w11 (R0 ++ R12) Φ1) ∧ ∀ (w13 : World) (R14 : List Own), Ctx W w13 (R9 ++ R14) Φ10
  → Calls Tryd.prog F.wire_Int #[Value.int IntKind.i64 v1] w13 fun (e15 : Ending) (w16 : World) => ∃ (s17 : ByteArray), e15 = Ending.returned (Value.string s17) ∧ ∃ (R18 : List Own), ∃ (Φ19 :
  PW), Stable Φ19 ∧ Ctx W w16 (R18 ++ R14) Φ19 ∧ (∀ (w20 : World) (R21 : List Own), Ctx W w20 (R18 ++ R21) Φ19 → Ctx W w20 (R0 ++ R21) Φ1) ∧ (s8.size + s17.size).le 9223372036854775807 ∧ ∀
  (w22 : World) (R23 : List Own), Ctx W w22 (R18 ++ R23) Φ19 → Calls Tryd.prog F.wire_Text #[Value.string v2] w22 fun (e24 : Ending) (w25 : World) => ∃ (s26 : ByteArray), e24 =
  Ending.returned (Value.string s26) ∧ ∃ (R27 : List Own), ∃ (Φ28 : PW), Stable Φ28 ∧ Ctx W w25 (R27 ++ R23) Φ28 ∧ (∀ (w29 : World) (R30 : List Own), Ctx W w29 (R27 ++ R30) Φ28 → Ctx W w29
  (R0 ++ R30) Φ1) ∧ ((s8 ++ s17).size + s26.size).le 9223372036854775807 ∧ ∀ (w31 : World) (R32 : List Own), Ctx W w31 (R27 ++ R32) Φ28 → J (Value.string (s8 ++ s17 ++ s26)) w31

theorem Bvalue_Bytes_run (v0 : Int) (v1 : Int) (v2 : ByteArray) {W w : World} {R : List Own} {Φ : PW} [Stable Φ] {J : Value → World → Prop} (c : Ctx W w R Φ) (h : Bvalue_Bytes v0 v1 v2 W R Φ J) : Calls Tryd.prog F.value_Bytes #[.agg #[.int .i64 v0, .int .i64 v1, .string v2]] w fun e w' => ∃ v, e = .returned v ∧ J v w' :=
  vcFS_sound (H := { keep := some [1, 2], track := [1], stages := [(1, [.held [(0, true), (3, true), (7, true), (1, true), (4, true), (8, true), (2, false), (5, false), (6, true), (9, false)], .stage [10, 11] none])] }) (by rw [show vcFS Tryd.prog W { keep := some [1, 2], track := [1], stages := [(1, [.held [(0, true), (3, true), (7, true), (1, true), (4, true), (8, true), (2, false), (5, false), (6, true), (9, false)], .stage [10, 11] none])] } F.value_Bytes #[.agg #[.int .i64 v0, .int .i64 v1, .string v2]] R Φ J = Bvalue_Bytes v0 v1 v2 W R Φ J by kernel_rfl]; exact h) c

/-- slices.insertionSortCmpFunc[int] -/
-- loop at region 4: 9 j; blocks 
-- loop at region 1: 8 i; blocks 
def Bslices_insertionSortCmpFunc_int (dataP : Option Addr) (dataN dataC : Nat) (a : Int) (b : Int) (cmpF : FuncId) (cmpC : Array Value) (W : World) (R : List Own) (Φ : PW) (J : Value → World → Prop) : Prop :=
  I64 (a + 1) ∧ exI fun (I0 : Int → List Own → PW → Nat → Prop) => (∃ (R1 : List Own), ∃ (Φ2 : PW), ∃ (k3 : Nat), Stable Φ2 ∧ (∀ (w4 : World) (R5 : List Own), Ctx W w4 (R ++ R5) Φ → Ctx W w4
  (R1 ++ R5) Φ2) ∧ I0 (a + 1) R1 Φ2 k3) ∧ ∀ (n6 : Int) (R7 : List Own) (I8 : List Nat → World → Prop) (k9 : Nat), Stable I8 → I0 n6 R7 I8 k9 → Br (decide (n6 < b)) (exI fun (I10 : Int → List
  Own → PW → Nat → Prop) => (∃ (R11 : List Own), ∃ (Φ12 : PW), ∃ (k13 : Nat), Stable Φ12 ∧ (∀ (w14 : World) (R15 : List Own), Ctx W w14 (R7 ++ R15) I8 → Ctx W w14 (R11 ++ R15) Φ12) ∧ I10 n6
  R11 Φ12 k13) ∧ ∀ (n16 : Int) (R17 : List Own) (I18 : List Nat → World → Prop) (k19 : Nat), Stable I18 → I10 n16 R17 I18 k19 → ∃ (R20 : List Own), ∃ (Φ21 : PW), Stable Φ21 ∧ (∀ (w22 : World)
  (R23 : List Own), Ctx W w22 (R17 ++ R23) I18 → Ctx W w22 (R20 ++ R23) Φ21) ∧ Br (decide (a < n16)) ((0 ≤ n16 ∧ n16 < (↑dataN : Int)) ∧ ptrK none dataP fun (k24 k25 : Nat) => I64 (n16 - 1) ∧
  ∃ (n26 : Int), (∀ (w27 : World) (R28 : List Own), Ctx W w27 (R20 ++ R28) Φ21 → ∃ (n29 : Int), w27.cell? (Addr.mk k24 (k25 + n16.toNat) none) = some (Value.int IntKind.i64 n29) ∧ Value.int
  IntKind.i64 n29 = Value.int IntKind.i64 n26) ∧ (0 ≤ n16 - 1 ∧ n16 - 1 < (↑dataN : Int)) ∧ ptrK none dataP fun (k30 k31 : Nat) => ∃ (n32 : Int), (∀ (w33 : World) (R34 : List Own), Ctx W w33
  (R20 ++ R34) Φ21 → ∃ (n35 : Int), w33.cell? (Addr.mk k30 (k31 + (n16 - 1).toNat) none) = some (Value.int IntKind.i64 n35) ∧ Value.int IntKind.i64 n35 = Value.int IntKind.i64 n32) ∧ ∀ (w36 :
  World) (R37 : List Own), Ctx W w36 (R17 ++ R37) I18 → okFun Tryd.prog cmpF = true ∧ Calls Tryd.prog cmpF (Array.mk (Value.int IntKind.i64 n26 :: Value.int IntKind.i64 n32 :: cmpC.toList))
  w36 fun (e38 : Ending) (w39 : World) => ∃ (n40 : Int), e38 = Ending.returned (Value.int IntKind.i64 n40) ∧ ∃ (R41 : List Own), ∃ (Φ42 : PW), Stable Φ42 ∧ Ctx W w39 (R41 ++ R37) Φ42 ∧ Br
  (decide (n40 < 0)) (∃ (R43 : List Own), ∃ (Φ44 : PW), Stable Φ44 ∧ (∀ (w45 : World) (R46 : List Own), Ctx W w45 (R41 ++ R46) Φ42 → Ctx W w45 (R43 ++ R46) Φ44) ∧ I64 (n16 - 1) ∧ I64 (n16 -
  1) ∧ (0 ≤ n16 ∧ n16 < (↑dataN : Int)) ∧ ptrK none dataP fun (k47 k48 : Nat) => (0 ≤ n16 - 1 ∧ n16 - 1 < (↑dataN : Int)) ∧ ptrK none dataP fun (k49 k50 : Nat) => ∀ (w51 : World) (R52 : List
  Own), Ctx W w51 (R41 ++ R52) Φ42 → ∃ (n53 : Int), w51.cell? (Addr.mk k47 (k48 + n16.toNat) none) = some (Value.int IntKind.i64 n53) ∧ ∀ (w54 : World) (R55 : List Own), Ctx W w54 (R41 ++
  R55) Φ42 → ∃ (n56 : Int), w54.cell? (Addr.mk k49 (k50 + (n16 - 1).toNat) none) = some (Value.int IntKind.i64 n56) ∧ (0 ≤ n16 ∧ n16 < (↑dataN : Int)) ∧ ptrK none dataP fun (k57 k58 : Nat) =>
  ∀ (w59 : World) (R60 : List Own), Ctx W w59 (R41 ++ R60) Φ42 → CanWrite w59 k57 (k58 + n16.toNat) 1 ∧ ∀ (w61 : World), w61 = w59.setCell (Addr.mk k57 (k58 + n16.toNat) none) (Value.int
  IntKind.i64 n56) → ∃ (R62 : List Own), ∃ (Φ63 : PW), Stable Φ63 ∧ Ctx W w61 (R62 ++ R60) Φ63 ∧ (∀ (w64 : World) (R65 : List Own), Ctx W w64 (R62 ++ R65) Φ63 → Ctx W w64 (R43 ++ R65) Φ44) ∧
  (0 ≤ n16 - 1 ∧ n16 - 1 < (↑dataN : Int)) ∧ ptrK none dataP fun (k66 k67 : Nat) => ∀ (w68 : World) (R69 : List Own), Ctx W w68 (R62 ++ R69) Φ63 → CanWrite w68 k66 (k67 + (n16 - 1).toNat) 1 ∧
  ∀ (w70 : World), w70 = w68.setCell (Addr.mk k66 (k67 + (n16 - 1).toNat) none) (Value.int IntKind.i64 n53) → ∃ (R71 : List Own), ∃ (Φ72 : PW), Stable Φ72 ∧ Ctx W w70 (R71 ++ R69) Φ72 ∧ (∀
  (w73 : World) (R74 : List Own), Ctx W w73 (R71 ++ R74) Φ72 → Ctx W w73 (R43 ++ R74) Φ44) ∧ I64 (n16 - 1) ∧ ∃ (R75 : List Own), ∃ (Φ76 : PW), ∃ (k77 : Nat), Stable Φ76 ∧ (∀ (w78 : World)
  (R79 : List Own), Ctx W w78 (R71 ++ R79) Φ72 → Ctx W w78 (R75 ++ R79) Φ76) ∧ I10 (n16 - 1) R75 Φ76 k77 ∧ k77 < k19) (I64 (n6 + 1) ∧ ∃ (R80 : List Own), ∃ (Φ81 : PW), ∃ (k82 : Nat), Stable
  Φ81 ∧ (∀ (w83 : World) (R84 : List Own), Ctx W w83 (R41 ++ R84) Φ42 → Ctx W w83 (R80 ++ R84) Φ81) ∧ I0 (n6 + 1) R80 Φ81 k82 ∧ k82 < k9)) (I64 (n6 + 1) ∧ ∃ (R85 : List Own), ∃ (Φ86 : PW), ∃
  (k87 : Nat), Stable Φ86 ∧ (∀ (w88 : World) (R89 : List Own), Ctx W w88 (R17 ++ R89) I18 → Ctx W w88 (R85 ++ R89) Φ86) ∧ I0 (n6 + 1) R85 Φ86 k87 ∧ k87 < k9)) (∀ (w90 : World) (R91 : List
  Own), Ctx W w90 (R7 ++ R91) I8 → J (Value.tuple #[]) w90)

end Go.Proofs.YtbkpfhhhbhaecaaDoor
end

