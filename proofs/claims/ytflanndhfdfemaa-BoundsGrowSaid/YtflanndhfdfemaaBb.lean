/-
  The conditions of the walks of some functions, one formula each; 'B<f>_run' says that they suffice. The formulas are printed by a program; the kernel compares them with the functions' code.
-/
import Derived.Test.YtflanndhfdfemaaBa
namespace Go.Proofs.Ytflanndhfdfemaa
set_option linter.unusedVariables false
set_option linter.unusedSimpArgs false
open Go.Vc

/-- erratalaw20.BoundsGrow -/
-- loop at region 16: 19 i; blocks 
-- known blocks: 5 p, 6 c, 15 d, 20 q
def Berratalaw20_BoundsGrow (p0P : Option Addr) (p0N p0C : Nat) (p1P : Option Addr) (p1N p1C : Nat) (c0 : Int) (c1 : Int) (c2 : Int) (c3 : Int) (c4 : Int) (c5 : Int) (parts : Int) (rate : Int) (span : Int) (W : World) (R : List Own) (Φ : PW) (J : Value → World → Prop) : Prop :=
  ∀ (b b : Nat) (w0 : World) (R1 : List Own), Ctx W w0 (R ++ R1) Φ → Calls Try.prog F.erratalaw20_small #[] w0 fun (e2 : Ending) (w3 : World) => ∃ (c4_1 : Bool), e2 = Ending.returned
  (Value.bool c4_1) ∧ ∃ (R5 : List Own), ∃ (Φ6 : PW), Stable Φ6 ∧ Ctx W w3 (R5 ++ R1) Φ6 ∧ ∀ (w7 : World) (R8 : List Own), Ctx W w7 (R5 ++ R8) Φ6 → Calls Try.prog F.erratalaw20_few
  #[Value.agg #[Value.slice p0P p0N p0C, Value.slice p1P p1N p1C]] w7 fun (e9 : Ending) (w10 : World) => ∃ (c11 : Bool), e9 = Ending.returned (Value.bool c11) ∧ ∃ (R12 : List Own), ∃ (Φ13 :
  PW), Stable Φ13 ∧ Ctx W w10 (R12 ++ R8) Φ13 ∧ Br (!c11) (∀ (w14 : World) (R15 : List Own), Ctx W w14 (R12 ++ R15) Φ13 → J (Value.bool c4_1) w14) (Br (decide (parts < 0)) (∀ (w16 : World)
  (R17 : List Own), Ctx W w16 (R12 ++ R17) Φ13 → J (Value.bool c4_1) w16) (Br (decide (8 < parts)) (∀ (w18 : World) (R19 : List Own), Ctx W w18 (R12 ++ R19) Φ13 → J (Value.bool c4_1) w18) (Br
  (decide (rate < 0)) (∀ (w20 : World) (R21 : List Own), Ctx W w20 (R12 ++ R21) Φ13 → J (Value.bool c4_1) w20) (Br (decide (20 < rate)) (∀ (w22 : World) (R23 : List Own), Ctx W w22 (R12 ++
  R23) Φ13 → J (Value.bool c4_1) w22) (Br (decide (span < 0)) (∀ (w24 : World) (R25 : List Own), Ctx W w24 (R12 ++ R25) Φ13 → J (Value.bool c4_1) w24) (Br (decide (30000 < span)) (∀ (w26 :
  World) (R27 : List Own), Ctx W w26 (R12 ++ R27) Φ13 → J (Value.bool c4_1) w26) (∀ (w28 : World) (R29 : List Own), Ctx W w28 (R12 ++ R29) Φ13 → Calls Try.prog F.bounds_Analyze #[Value.agg
  #[Value.slice p0P p0N p0C, Value.slice p1P p1N p1C], Value.agg #[Value.int IntKind.i64 c0, Value.int IntKind.i64 c1, Value.int IntKind.i64 c2, Value.int IntKind.i64 c3, Value.int
  IntKind.i64 c4, Value.int IntKind.i64 c5]] w28 fun (e30 : Ending) (w31 : World) => ∃ (p32 : Option Addr), ∃ (k33 : Nat), ∃ (k34 : Nat), ∃ (n35 : Int), ∃ (n36 : Int), e30 = Ending.returned
  (Value.tuple #[Value.slice p32 k33 k34, Value.int IntKind.i64 n35, Value.int IntKind.i64 n36]) ∧ ∃ (R37 : List Own), ∃ (Φ38 : PW), Stable Φ38 ∧ Ctx W w31 (R37 ++ R29) Φ38 ∧ Br (decide (n36
  ≠ 0)) (∀ (w39 : World) (R40 : List Own), Ctx W w39 (R37 ++ R40) Φ38 → J (Value.bool c4_1) w39) (∀ (b : Nat), I64 (c0 + parts) ∧ I64 (c4 + rate) ∧ I64 (c5 + span) ∧ ∀ (w41 : World) (R42 :
  List Own), Ctx W w41 (R37 ++ R42) Φ38 → Calls Try.prog F.bounds_Analyze #[Value.agg #[Value.slice p0P p0N p0C, Value.slice p1P p1N p1C], Value.agg #[Value.int IntKind.i64 (c0 + parts),
  Value.int IntKind.i64 c1, Value.int IntKind.i64 c2, Value.int IntKind.i64 c3, Value.int IntKind.i64 (c4 + rate), Value.int IntKind.i64 (c5 + span)]] w41 fun (e43 : Ending) (w44 : World) =>
  ∃ (p45 : Option Addr), ∃ (k46 : Nat), ∃ (k47 : Nat), ∃ (n48 : Int), ∃ (n49 : Int), e43 = Ending.returned (Value.tuple #[Value.slice p45 k46 k47, Value.int IntKind.i64 n48, Value.int
  IntKind.i64 n49]) ∧ ∃ (R50 : List Own), ∃ (Φ51 : PW), Stable Φ51 ∧ Ctx W w44 (R50 ++ R42) Φ51 ∧ Br (decide (n49 = 0)) (Br (decide ((↑k33 : Int) ≠ (↑k46 : Int))) (∀ (w52 : World) (R53 : List
  Own), Ctx W w52 (R50 ++ R53) Φ51 → J (Value.bool false) w52) (exI fun (I54 : Int → List Own → PW → Nat → Prop) => (∃ (R55 : List Own), ∃ (Φ56 : PW), ∃ (k57 : Nat), Stable Φ56 ∧ (∀ (w58 :
  World) (R59 : List Own), Ctx W w58 (R50 ++ R59) Φ51 → Ctx W w58 (R55 ++ R59) Φ56) ∧ I54 0 R55 Φ56 k57) ∧ ∀ (n60 : Int) (R61 : List Own) (I62 : List Nat → World → Prop) (k63 : Nat), Stable
  I62 → I54 n60 R61 I62 k63 → Br (decide (n60 < (↑k33 : Int))) (∀ (w64 : World) (R65 : List Own), Ctx W w64 (R61 ++ R65) I62 → (0 ≤ n60 ∧ n60 < (↑k33 : Int)) ∧ ptrK none p32 fun (k66 k67 :
  Nat) => ∃ (n68 : Int), w64.cell? (Addr.mk k66 (k67 + n60.toNat * 4) none) = some (Value.int IntKind.i64 n68) ∧ (0 ≤ n60 ∧ n60 < (↑k46 : Int)) ∧ ptrK none p45 fun (k69 k70 : Nat) => ∃ (n71 :
  Int), w64.cell? (Addr.mk k69 (k70 + n60.toNat * 4) none) = some (Value.int IntKind.i64 n71) ∧ ((!decide (n68 ≠ n71)) = true → 0 ≤ n60 ∧ n60 < (↑k33 : Int)) ∧ ptrK (some !decide (n68 ≠ n71))
  p32 fun (k72 k73 : Nat) => ∃ (n74 : Int), ((!decide (n68 ≠ n71)) = true → w64.cell? (Addr.mk k72 (k73 + n60.toNat * 4 + 1) none) = some (Value.int IntKind.i64 n74)) ∧ ((!decide (n68 ≠ n71))
  = true → 0 ≤ n60 ∧ n60 < (↑k46 : Int)) ∧ ptrK (some !decide (n68 ≠ n71)) p45 fun (k75 k76 : Nat) => ∃ (n77 : Int), ((!decide (n68 ≠ n71)) = true → w64.cell? (Addr.mk k75 (k76 + n60.toNat *
  4 + 1) none) = some (Value.int IntKind.i64 n77)) ∧ ((!(decide (n68 ≠ n71) || decide (n74 ≠ n77))) = true → 0 ≤ n60 ∧ n60 < (↑k33 : Int)) ∧ ptrK (some !(decide (n68 ≠ n71) || decide (n74 ≠
  n77))) p32 fun (k78 k79 : Nat) => ∃ (n80 : Int), ((!(decide (n68 ≠ n71) || decide (n74 ≠ n77))) = true → w64.cell? (Addr.mk k78 (k79 + n60.toNat * 4 + 2) none) = some (Value.int IntKind.i64
  n80)) ∧ ((!(decide (n68 ≠ n71) || decide (n74 ≠ n77))) = true → 0 ≤ n60 ∧ n60 < (↑k46 : Int)) ∧ ptrK (some !(decide (n68 ≠ n71) || decide (n74 ≠ n77))) p45 fun (k81 k82 : Nat) => ∃ (n83 :
  Int), ((!(decide (n68 ≠ n71) || decide (n74 ≠ n77))) = true → w64.cell? (Addr.mk k81 (k82 + n60.toNat * 4 + 2) none) = some (Value.int IntKind.i64 n83)) ∧ ((!(decide (n68 ≠ n71) || decide
  (n74 ≠ n77) || decide (n83 < n80))) = true → 0 ≤ n60 ∧ n60 < (↑k33 : Int)) ∧ ptrK (some !(decide (n68 ≠ n71) || decide (n74 ≠ n77) || decide (n83 < n80))) p32 fun (k84 k85 : Nat) => ∃ (n86
  : Int), ((!(decide (n68 ≠ n71) || decide (n74 ≠ n77) || decide (n83 < n80))) = true → w64.cell? (Addr.mk k84 (k85 + n60.toNat * 4 + 3) none) = some (Value.int IntKind.i64 n86)) ∧ ((!(decide
  (n68 ≠ n71) || decide (n74 ≠ n77) || decide (n83 < n80))) = true → 0 ≤ n60 ∧ n60 < (↑k46 : Int)) ∧ ptrK (some !(decide (n68 ≠ n71) || decide (n74 ≠ n77) || decide (n83 < n80))) p45 fun (k87
  k88 : Nat) => ∃ (n89 : Int), ((!(decide (n68 ≠ n71) || decide (n74 ≠ n77) || decide (n83 < n80))) = true → w64.cell? (Addr.mk k87 (k88 + n60.toNat * 4 + 3) none) = some (Value.int
  IntKind.i64 n89)) ∧ Br (decide (n68 ≠ n71) || decide (n74 ≠ n77) || decide (n83 < n80) || decide (n89 < n86)) (∀ (w90 : World) (R91 : List Own), Ctx W w90 (R61 ++ R91) I62 → J (Value.bool
  false) w90) (I64 (n60 + 1) ∧ ∃ (R92 : List Own), ∃ (Φ93 : PW), ∃ (k94 : Nat), Stable Φ93 ∧ (∀ (w95 : World) (R96 : List Own), Ctx W w95 (R61 ++ R96) I62 → Ctx W w95 (R92 ++ R96) Φ93) ∧ I54
  (n60 + 1) R92 Φ93 k94 ∧ k94 < k63)) (Br (decide ((↑k33 : Int) < 2)) (∀ (w97 : World) (R98 : List Own), Ctx W w97 (R61 ++ R98) I62 → J (Value.bool c4_1) w97) (I64 ((↑p1N : Int) - 1) ∧ (0 ≤
  (↑p1N : Int) - 1 ∧ (↑p1N : Int) - 1 ≤ (↑p1C : Int)) ∧ ∀ (k99 : Nat), (∀ (R100 : List Nat) (w101 : World), I62 R100 w101 → I62 R100 w101) ∧ ∀ (w102 : World) (R103 : List Own), Ctx W w102
  (Own.blk k99 [Value.slice none 0 0, Value.slice none 0 0] 25 :: R61 ++ R103) I62 → CanWrite w102 k99 0 2 ∧ ∀ (w104 : World), w104 = w102.setCells k99 0 [Value.slice p0P p0N p0C, Value.slice
  (subPtr p1P 16 0 p1C) ((↑p1N : Int) - 1).toNat p1C] → ∃ (R105 : List Own), ∃ (Φ106 : PW), Stable Φ106 ∧ Ctx W w104 (R105 ++ R103) Φ106 ∧ ∀ (w107 : World) (R108 : List Own), Ctx W w107 (R105
  ++ R108) Φ106 → ∃ (p109 : Option Addr), ∃ (k110 : Nat), ∃ (k111 : Nat), ∃ (p112 : Option Addr), ∃ (k113 : Nat), ∃ (k114 : Nat), RowAt w107 k99 0 [Value.slice p109 k110 k111, Value.slice
  p112 k113 k114] ∧ ∀ (w115 : World) (R116 : List Own), Ctx W w115 (R105 ++ R116) Φ106 → Calls Try.prog F.bounds_Analyze #[Value.agg #[Value.slice p109 k110 k111, Value.slice p112 k113 k114],
  Value.agg #[Value.int IntKind.i64 c0, Value.int IntKind.i64 c1, Value.int IntKind.i64 c2, Value.int IntKind.i64 c3, Value.int IntKind.i64 c4, Value.int IntKind.i64 c5]] w115 fun (e117 :
  Ending) (w118 : World) => ∃ (p119 : Option Addr), ∃ (k120 : Nat), ∃ (k121 : Nat), ∃ (n122 : Int), ∃ (n123 : Int), e117 = Ending.returned (Value.tuple #[Value.slice p119 k120 k121, Value.int
  IntKind.i64 n122, Value.int IntKind.i64 n123]) ∧ ∃ (R124 : List Own), ∃ (Φ125 : PW), Stable Φ125 ∧ Ctx W w118 (R124 ++ R116) Φ125 ∧ Br c4_1 (Br (decide (n123 = 0)) (I64 ((↑k33 : Int) - 1) ∧
  (0 ≤ (↑k33 : Int) - 1 ∧ (↑k33 : Int) - 1 ≤ (↑k34 : Int)) ∧ ∀ (w126 : World) (R127 : List Own), Ctx W w126 (R124 ++ R127) Φ125 → Calls Try.prog F.errataref20_Same #[Value.slice p119 k120
  k121, Value.slice (subPtr p32 4 0 k34) ((↑k33 : Int) - 1).toNat k34] w126 fun (e128 : Ending) (w129 : World) => ∃ (c130 : Bool), e128 = Ending.returned (Value.bool c130) ∧ ∃ (R131 : List
  Own), ∃ (Φ132 : PW), Stable Φ132 ∧ Ctx W w129 (R131 ++ R127) Φ132 ∧ ∀ (w133 : World) (R134 : List Own), Ctx W w133 (R131 ++ R134) Φ132 → J (Value.bool c130) w133) (∀ (w135 : World) (R136 :
  List Own), Ctx W w135 (R124 ++ R136) Φ125 → J (Value.bool false) w135)) (∀ (w137 : World) (R138 : List Own), Ctx W w137 (R124 ++ R138) Φ125 → J (Value.bool false) w137))))) (Br (decide
  ((↑k33 : Int) < 2)) (∀ (w139 : World) (R140 : List Own), Ctx W w139 (R50 ++ R140) Φ51 → J (Value.bool c4_1) w139) (I64 ((↑p1N : Int) - 1) ∧ (0 ≤ (↑p1N : Int) - 1 ∧ (↑p1N : Int) - 1 ≤ (↑p1C
  : Int)) ∧ ∀ (k141 : Nat), (∀ (R142 : List Nat) (w143 : World), Φ51 R142 w143 → Φ51 R142 w143) ∧ ∀ (w144 : World) (R145 : List Own), Ctx W w144 (Own.blk k141 [Value.slice none 0 0,
  Value.slice none 0 0] 25 :: R50 ++ R145) Φ51 → CanWrite w144 k141 0 2 ∧ ∀ (w146 : World), w146 = w144.setCells k141 0 [Value.slice p0P p0N p0C, Value.slice (subPtr p1P 16 0 p1C) ((↑p1N :
  Int) - 1).toNat p1C] → ∃ (R147 : List Own), ∃ (Φ148 : PW), Stable Φ148 ∧ Ctx W w146 (R147 ++ R145) Φ148 ∧ ∀ (w149 : World) (R150 : List Own), Ctx W w149 (R147 ++ R150) Φ148 → ∃ (p151 :
  Option Addr), ∃ (k152 : Nat), ∃ (k153 : Nat), ∃ (p154 : Option Addr), ∃ (k155 : Nat), ∃ (k156 : Nat), RowAt w149 k141 0 [Value.slice p151 k152 k153, Value.slice p154 k155 k156] ∧ ∀ (w157 :
  World) (R158 : List Own), Ctx W w157 (R147 ++ R158) Φ148 → Calls Try.prog F.bounds_Analyze #[Value.agg #[Value.slice p151 k152 k153, Value.slice p154 k155 k156], Value.agg #[Value.int
  IntKind.i64 c0, Value.int IntKind.i64 c1, Value.int IntKind.i64 c2, Value.int IntKind.i64 c3, Value.int IntKind.i64 c4, Value.int IntKind.i64 c5]] w157 fun (e159 : Ending) (w160 : World) =>
  ∃ (p161 : Option Addr), ∃ (k162 : Nat), ∃ (k163 : Nat), ∃ (n164 : Int), ∃ (n165 : Int), e159 = Ending.returned (Value.tuple #[Value.slice p161 k162 k163, Value.int IntKind.i64 n164,
  Value.int IntKind.i64 n165]) ∧ ∃ (R166 : List Own), ∃ (Φ167 : PW), Stable Φ167 ∧ Ctx W w160 (R166 ++ R158) Φ167 ∧ Br c4_1 (Br (decide (n165 = 0)) (I64 ((↑k33 : Int) - 1) ∧ (0 ≤ (↑k33 : Int)
  - 1 ∧ (↑k33 : Int) - 1 ≤ (↑k34 : Int)) ∧ ∀ (w168 : World) (R169 : List Own), Ctx W w168 (R166 ++ R169) Φ167 → Calls Try.prog F.errataref20_Same #[Value.slice p161 k162 k163, Value.slice
  (subPtr p32 4 0 k34) ((↑k33 : Int) - 1).toNat k34] w168 fun (e170 : Ending) (w171 : World) => ∃ (c172 : Bool), e170 = Ending.returned (Value.bool c172) ∧ ∃ (R173 : List Own), ∃ (Φ174 : PW),
  Stable Φ174 ∧ Ctx W w171 (R173 ++ R169) Φ174 ∧ ∀ (w175 : World) (R176 : List Own), Ctx W w175 (R173 ++ R176) Φ174 → J (Value.bool c172) w175) (∀ (w177 : World) (R178 : List Own), Ctx W w177
  (R166 ++ R178) Φ167 → J (Value.bool false) w177)) (∀ (w179 : World) (R180 : List Own), Ctx W w179 (R166 ++ R180) Φ167 → J (Value.bool false) w179)))))))))))

theorem Berratalaw20_BoundsGrow_run (p0P : Option Addr) (p0N p0C : Nat) (p1P : Option Addr) (p1N p1C : Nat) (c0 : Int) (c1 : Int) (c2 : Int) (c3 : Int) (c4 : Int) (c5 : Int) (parts : Int) (rate : Int) (span : Int) {W w : World} {R : List Own} {Φ : PW} [Stable Φ] {J : Value → World → Prop} (c : Ctx W w R Φ) (h : Berratalaw20_BoundsGrow p0P p0N p0C p1P p1N p1C c0 c1 c2 c3 c4 c5 parts rate span W R Φ J) : Calls Try.prog F.erratalaw20_BoundsGrow #[.agg #[.slice p0P p0N p0C, .slice p1P p1N p1C], .agg #[.int .i64 c0, .int .i64 c1, .int .i64 c2, .int .i64 c3, .int .i64 c4, .int .i64 c5], .int .i64 parts, .int .i64 rate, .int .i64 span] w fun e w' => ∃ v, e = .returned v ∧ J v w' :=
  vcFS_sound (H := { keep := some [2, 3, 4, 5, 6, 10, 11, 12, 14, 15, 16, 18, 19, 20, 21, 23, 51, 61, 87, 92, 96, 148, 151], track := [5, 6, 15, 20], stages := [(22, [.held [(0, true), (2, true), (4, true), (1, true), (3, true), (5, true), (6, true), (7, true), (8, true), (9, true), (10, false)], .stage [] (some 11)])], split := [2, 24], loops := [(16, [(19, .one (.int .i64))], [])] }) (by rw [show vcFS Try.prog W { keep := some [2, 3, 4, 5, 6, 10, 11, 12, 14, 15, 16, 18, 19, 20, 21, 23, 51, 61, 87, 92, 96, 148, 151], track := [5, 6, 15, 20], stages := [(22, [.held [(0, true), (2, true), (4, true), (1, true), (3, true), (5, true), (6, true), (7, true), (8, true), (9, true), (10, false)], .stage [] (some 11)])], split := [2, 24], loops := [(16, [(19, .one (.int .i64))], [])] } F.erratalaw20_BoundsGrow #[.agg #[.slice p0P p0N p0C, .slice p1P p1N p1C], .agg #[.int .i64 c0, .int .i64 c1, .int .i64 c2, .int .i64 c3, .int .i64 c4, .int .i64 c5], .int .i64 parts, .int .i64 rate, .int .i64 span] R Φ J = Berratalaw20_BoundsGrow p0P p0N p0C p1P p1N p1C c0 c1 c2 c3 c4 c5 parts rate span W R Φ J by kernel_rfl]; exact h) c

end Go.Proofs.Ytflanndhfdfemaa
