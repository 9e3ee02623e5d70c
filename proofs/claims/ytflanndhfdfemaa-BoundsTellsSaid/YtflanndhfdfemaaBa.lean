/-
  The conditions of the walks of some functions, one formula each; 'B<f>_run' says that they suffice. The formulas are printed by a program; the kernel compares them with the functions' code.
-/
import Derived.Test.YtflanndhfdfemaaVcV
import Derived.Test.YtflanndhfdfemaaRows
set_option linter.unusedVariables false
set_option linter.unusedSimpArgs false
namespace Go.Proofs.Ytflanndhfdfemaa
open Go.Vc

abbrev F.erratalaw20_BoundsPaths : Nat := 3
abbrev F.erratalaw20_BoundsGrow : Nat := 4
abbrev F.erratalaw20_BoundsRefuse : Nat := 5
abbrev F.erratalaw20_BoundsTells : Nat := 6
abbrev F.erratalaw20_small : Nat := 7
abbrev F.erratalaw20_few : Nat := 8
abbrev F.bounds_Analyze : Nat := 9
abbrev F.erratalaw20_path : Nat := 10
abbrev F.errataref20_Same : Nat := 11
abbrev F.bounds_Bounded : Nat := 12
abbrev F.bounds_Witness : Nat := 13
abbrev F.errataref20_Analyze : Nat := 14
abbrev F.bounds_Total : Nat := 15
abbrev F.errataref20_Total : Nat := 16
abbrev F.bounds_Own : Nat := 17
abbrev F.errataref20_Own : Nat := 18
abbrev F.bounds_RightConfig : Nat := 19
abbrev F.errataref20_RightConfig : Nat := 20
abbrev F.bounds_Well : Nat := 21
abbrev F.errataref20_Well : Nat := 22
abbrev F.errataref20_Bounded : Nat := 23
abbrev F.errataref20_SameRows : Nat := 24
abbrev F.errataref20_Witness : Nat := 25
abbrev F.bounds_bound : Nat := 26
abbrev F.bounds_of : Nat := 27
abbrev F.bounds_within : Nat := 28
abbrev F.value_Zero : Nat := 29
abbrev F.errataref20_rate : Nat := 30
abbrev F.errataref20_state : Nat := 31
abbrev F.bounds_plus : Nat := 32
abbrev F.errataref20_inputs : Nat := 33
abbrev F.errataref20_within : Nat := 34
abbrev F.bounds_times : Nat := 35
abbrev F.bounds_always : Nat := 36
abbrev F.bounds_none : Nat := 37
abbrev F.bounds_window : Nat := 38
abbrev F.bounds_block : Nat := 39
abbrev F.bounds_of_1 : Nat := 40
abbrev F.bounds_sized : Nat := 41
abbrev F.bounds_of_2 : Nat := 42
abbrev F.bounds_of_3 : Nat := 43
abbrev F.bounds_of_4 : Nat := 44
abbrev F.bounds_of_5 : Nat := 45
abbrev F.bounds_of_6 : Nat := 46
abbrev F.bounds_of_7 : Nat := 47
abbrev F.errataref20_times : Nat := 48
abbrev F.runtime_boundsError_Error : Nat := 49
abbrev F.runtime_boundsError_RuntimeError : Nat := 50
abbrev F.runtime_errorString_Error : Nat := 51
abbrev F.runtime_errorString_RuntimeError : Nat := 52
abbrev F.runtime_plainError_Error : Nat := 53
abbrev F.runtime_plainError_RuntimeError : Nat := 54
abbrev F.runtime_errorAddressString_Error : Nat := 55
abbrev F.runtime_errorAddressString_RuntimeError : Nat := 56
abbrev F.runtime_TypeAssertionError_Error : Nat := 57
abbrev F.runtime_TypeAssertionError_RuntimeError : Nat := 58
abbrev F.runtime_PanicNilError_Error : Nat := 59
abbrev F.runtime_PanicNilError_RuntimeError : Nat := 60
abbrev F.internal_abi_Type_Align : Nat := 61
abbrev F.internal_runtime_maps_unhashableTypeError_Error : Nat := 62
abbrev F.internal_runtime_maps_unhashableTypeError_RuntimeError : Nat := 63
abbrev F.internal_abi_Kind_String : Nat := 64

/-- erratalaw20.BoundsPaths -/
-- loop at region 16: 12 k; blocks 
-- loop at region 10: 9 i; blocks 
-- known blocks: 2 p, 3 c, 13 b
def Berratalaw20_BoundsPaths (p0P : Option Addr) (p0N p0C : Nat) (p1P : Option Addr) (p1N p1C : Nat) (c0 : Int) (c1 : Int) (c2 : Int) (c3 : Int) (c4 : Int) (c5 : Int) (W : World) (R : List Own) (Φ : PW) (J : Value → World → Prop) : Prop :=
  ∀ (b b : Nat) (w0 : World) (R1 : List Own), Ctx W w0 (R ++ R1) Φ → Calls Try.prog F.erratalaw20_small #[] w0 fun (e2 : Ending) (w3 : World) => ∃ (c4_1 : Bool), e2 = Ending.returned
  (Value.bool c4_1) ∧ ∃ (R5 : List Own), ∃ (Φ6 : PW), Stable Φ6 ∧ Ctx W w3 (R5 ++ R1) Φ6 ∧ ∀ (w7 : World) (R8 : List Own), Ctx W w7 (R5 ++ R8) Φ6 → Calls Try.prog F.erratalaw20_few
  #[Value.agg #[Value.slice p0P p0N p0C, Value.slice p1P p1N p1C]] w7 fun (e9 : Ending) (w10 : World) => ∃ (c11 : Bool), e9 = Ending.returned (Value.bool c11) ∧ ∃ (R12 : List Own), ∃ (Φ13 :
  PW), Stable Φ13 ∧ Ctx W w10 (R12 ++ R8) Φ13 ∧ Br (!c11) (∀ (w14 : World) (R15 : List Own), Ctx W w14 (R12 ++ R15) Φ13 → J (Value.bool c4_1) w14) (∀ (w16 : World) (R17 : List Own), Ctx W w16
  (R12 ++ R17) Φ13 → Calls Try.prog F.bounds_Analyze #[Value.agg #[Value.slice p0P p0N p0C, Value.slice p1P p1N p1C], Value.agg #[Value.int IntKind.i64 c0, Value.int IntKind.i64 c1, Value.int
  IntKind.i64 c2, Value.int IntKind.i64 c3, Value.int IntKind.i64 c4, Value.int IntKind.i64 c5]] w16 fun (e18 : Ending) (w19 : World) => ∃ (p20 : Option Addr), ∃ (k21 : Nat), ∃ (k22 : Nat), ∃
  (n23 : Int), ∃ (n24 : Int), e18 = Ending.returned (Value.tuple #[Value.slice p20 k21 k22, Value.int IntKind.i64 n23, Value.int IntKind.i64 n24]) ∧ ∃ (R25 : List Own), ∃ (Φ26 : PW), Stable
  Φ26 ∧ Ctx W w19 (R25 ++ R17) Φ26 ∧ Br (decide (n24 ≠ 0)) (∀ (w27 : World) (R28 : List Own), Ctx W w27 (R25 ++ R28) Φ26 → ∀ (w29 : World) (R30 : List Own), Ctx W w29 (R25 ++ R30) Φ26 → J
  (Value.bool (c4_1 && decide ((↑k21 : Int) = 0))) w29) (Br (decide ((↑k21 : Int) ≠ (↑p1N : Int))) (∀ (w31 : World) (R32 : List Own), Ctx W w31 (R25 ++ R32) Φ26 → J (Value.bool false) w31)
  (exI fun (I33 : Int → List Own → PW → Nat → Prop) => (∃ (R34 : List Own), ∃ (Φ35 : PW), ∃ (k36 : Nat), Stable Φ35 ∧ (∀ (w37 : World) (R38 : List Own), Ctx W w37 (R25 ++ R38) Φ26 → Ctx W w37
  (R34 ++ R38) Φ35) ∧ I33 0 R34 Φ35 k36) ∧ ∀ (n39 : Int) (R40 : List Own) (I41 : List Nat → World → Prop) (k42 : Nat), Stable I41 → I33 n39 R40 I41 k42 → Br (decide (n39 < (↑k21 : Int))) (∀
  (w43 : World) (R44 : List Own), Ctx W w43 (R40 ++ R44) I41 → Calls Try.prog F.erratalaw20_path #[Value.agg #[Value.slice p0P p0N p0C, Value.slice p1P p1N p1C], Value.int IntKind.i64 n39]
  w43 fun (e45 : Ending) (w46 : World) => ∃ (n47 : Int), ∃ (n48 : Int), e45 = Ending.returned (Value.tuple #[Value.int IntKind.i64 n47, Value.int IntKind.i64 n48]) ∧ ∃ (R49 : List Own), ∃
  (Φ50 : PW), Stable Φ50 ∧ Ctx W w46 (R49 ++ R44) Φ50 ∧ ∀ (w51 : World) (R52 : List Own), Ctx W w51 (R49 ++ R52) Φ50 → (0 ≤ n39 ∧ n39 < (↑k21 : Int)) ∧ ptrK none p20 fun (k53 k54 : Nat) => ∃
  (n55 : Int), w51.cell? (Addr.mk k53 (k54 + n39.toNat * 4) none) = some (Value.int IntKind.i64 n55) ∧ ((!decide (n55 ≠ n47)) = true → 0 ≤ n39 ∧ n39 < (↑k21 : Int)) ∧ ptrK (some !decide (n55
  ≠ n47)) p20 fun (k56 k57 : Nat) => ∃ (n58 : Int), ((!decide (n55 ≠ n47)) = true → w51.cell? (Addr.mk k56 (k57 + n39.toNat * 4 + 1) none) = some (Value.int IntKind.i64 n58)) ∧ ((!(decide
  (n55 ≠ n47) || decide (n58 ≠ n48))) = true → 0 ≤ n39 ∧ n39 < (↑k21 : Int)) ∧ ptrK (some !(decide (n55 ≠ n47) || decide (n58 ≠ n48))) p20 fun (k59 k60 : Nat) => ∃ (n61 : Int), ((!(decide
  (n55 ≠ n47) || decide (n58 ≠ n48))) = true → w51.cell? (Addr.mk k59 (k60 + n39.toNat * 4 + 2) none) = some (Value.int IntKind.i64 n61)) ∧ ((!(decide (n55 ≠ n47) || decide (n58 ≠ n48) ||
  decide (n61 < 1))) = true → 0 ≤ n39 ∧ n39 < (↑k21 : Int)) ∧ ptrK (some !(decide (n55 ≠ n47) || decide (n58 ≠ n48) || decide (n61 < 1))) p20 fun (k62 k63 : Nat) => ∃ (n64 : Int), ((!(decide
  (n55 ≠ n47) || decide (n58 ≠ n48) || decide (n61 < 1))) = true → w51.cell? (Addr.mk k62 (k63 + n39.toNat * 4 + 3) none) = some (Value.int IntKind.i64 n64)) ∧ ((!(decide (n55 ≠ n47) ||
  decide (n58 ≠ n48) || decide (n61 < 1))) = true → 0 ≤ n39 ∧ n39 < (↑p1N : Int)) ∧ ptrK (some !(decide (n55 ≠ n47) || decide (n58 ≠ n48) || decide (n61 < 1))) p1P fun (k65 k66 : Nat) => ∃
  (n67 : Int), ((!(decide (n55 ≠ n47) || decide (n58 ≠ n48) || decide (n61 < 1))) = true → w51.cell? (Addr.mk k65 (k66 + n39.toNat * 16) none) = some (Value.int IntKind.i64 n67)) ∧ Br (decide
  (n55 ≠ n47) || decide (n58 ≠ n48) || decide (n61 < 1) || decide (n64 = 0) != decide (n67 ≤ 3)) (∀ (w68 : World) (R69 : List Own), Ctx W w68 (R49 ++ R69) Φ50 → J (Value.bool false) w68) (exI
  fun (I70 : Int → List Own → PW → Nat → Prop) => (∃ (R71 : List Own), ∃ (Φ72 : PW), ∃ (k73 : Nat), Stable Φ72 ∧ (∀ (w74 : World) (R75 : List Own), Ctx W w74 (R49 ++ R75) Φ50 → Ctx W w74 (R71
  ++ R75) Φ72) ∧ I70 0 R71 Φ72 k73) ∧ ∀ (n76 : Int) (R77 : List Own) (I78 : List Nat → World → Prop) (k79 : Nat), Stable I78 → I70 n76 R77 I78 k79 → (0 ≤ n39 ∧ n39 < (↑p1N : Int)) ∧ ptrK none
  p1P fun (k80 k81 : Nat) => ∀ (w82 : World) (R83 : List Own), Ctx W w82 (R77 ++ R83) I78 → ∃ (p84 : Option Addr), ∃ (k85 : Nat), ∃ (k86 : Nat), w82.cell? (Addr.mk k80 (k81 + n39.toNat * 16 +
  1) none) = some (Value.slice p84 k85 k86) ∧ Br (decide (n76 < (↑k85 : Int))) ((0 ≤ n39 ∧ n39 < (↑p1N : Int)) ∧ ptrK none p1P fun (k87 k88 : Nat) => ∀ (w89 : World) (R90 : List Own), Ctx W
  w89 (R77 ++ R90) I78 → ∃ (p91 : Option Addr), ∃ (k92 : Nat), ∃ (k93 : Nat), w89.cell? (Addr.mk k87 (k88 + n39.toNat * 16 + 1) none) = some (Value.slice p91 k92 k93) ∧ (0 ≤ n76 ∧ n76 < (↑k92
  : Int)) ∧ ptrK none p91 fun (k94 k95 : Nat) => ∀ (w96 : World) (R97 : List Own), Ctx W w96 (R77 ++ R97) I78 → ∃ (n98 : Int), w96.cell? (Addr.mk k94 (k95 + n76.toNat) none) = some (Value.int
  IntKind.i64 n98) ∧ (0 ≤ n98 ∧ n98 < (↑k21 : Int)) ∧ ptrK none p20 fun (k99 k100 : Nat) => ∀ (w101 : World) (R102 : List Own), Ctx W w101 (R77 ++ R102) I78 → ∃ (n103 : Int), ∃ (n104 : Int),
  ∃ (n105 : Int), ∃ (n106 : Int), RowAt w101 k99 (k100 + n98.toNat * 4) [Value.int IntKind.i64 n103, Value.int IntKind.i64 n104, Value.int IntKind.i64 n105, Value.int IntKind.i64 n106] ∧ ∀ (b
  : Nat) (w107 : World) (R108 : List Own), Ctx W w107 (R77 ++ R108) I78 → (0 ≤ n39 ∧ n39 < (↑k21 : Int)) ∧ ptrK none p20 fun (k109 k110 : Nat) => ∃ (n111 : Int), w107.cell? (Addr.mk k109
  (k110 + n39.toNat * 4) none) = some (Value.int IntKind.i64 n111) ∧ ((!decide (n111 < n103)) = true → 0 ≤ n39 ∧ n39 < (↑k21 : Int)) ∧ ptrK (some !decide (n111 < n103)) p20 fun (k112 k113 :
  Nat) => ∃ (n114 : Int), ((!decide (n111 < n103)) = true → w107.cell? (Addr.mk k112 (k113 + n39.toNat * 4 + 1) none) = some (Value.int IntKind.i64 n114)) ∧ ((!(decide (n111 < n103) || decide
  (n114 < n104))) = true → 0 ≤ n39 ∧ n39 < (↑k21 : Int)) ∧ ptrK (some !(decide (n111 < n103) || decide (n114 < n104))) p20 fun (k115 k116 : Nat) => ∃ (n117 : Int), ((!(decide (n111 < n103) ||
  decide (n114 < n104))) = true → w107.cell? (Addr.mk k115 (k116 + n39.toNat * 4 + 2) none) = some (Value.int IntKind.i64 n117)) ∧ ((!(decide (n111 < n103) || decide (n114 < n104)) && decide
  (n117 < n105)) = true → 0 ≤ n39 ∧ n39 < (↑p1N : Int)) ∧ ptrK (some (!(decide (n111 < n103) || decide (n114 < n104)) && decide (n117 < n105))) p1P fun (k118 k119 : Nat) => ∃ (n120 : Int),
  ((!(decide (n111 < n103) || decide (n114 < n104)) && decide (n117 < n105)) = true → w107.cell? (Addr.mk k118 (k119 + n39.toNat * 16) none) = some (Value.int IntKind.i64 n120)) ∧ Br (decide
  (n111 < n103) || decide (n114 < n104) || decide (n117 < n105) && (decide (n120 ≠ 7) || decide (n76 = 0))) (∀ (w121 : World) (R122 : List Own), Ctx W w121 (R77 ++ R122) I78 → J (Value.bool
  false) w121) (I64 (n76 + 1) ∧ ∃ (R123 : List Own), ∃ (Φ124 : PW), ∃ (k125 : Nat), Stable Φ124 ∧ (∀ (w126 : World) (R127 : List Own), Ctx W w126 (R77 ++ R127) I78 → Ctx W w126 (R123 ++ R127)
  Φ124) ∧ I70 (n76 + 1) R123 Φ124 k125 ∧ k125 < k79)) (I64 (n39 + 1) ∧ ∃ (R128 : List Own), ∃ (Φ129 : PW), ∃ (k130 : Nat), Stable Φ129 ∧ (∀ (w131 : World) (R132 : List Own), Ctx W w131 (R77
  ++ R132) I78 → Ctx W w131 (R128 ++ R132) Φ129) ∧ I33 (n39 + 1) R128 Φ129 k130 ∧ k130 < k42))) (∀ (w133 : World) (R134 : List Own), Ctx W w133 (R40 ++ R134) I41 → J (Value.bool c4_1)
  w133))))

theorem Berratalaw20_BoundsPaths_run (p0P : Option Addr) (p0N p0C : Nat) (p1P : Option Addr) (p1N p1C : Nat) (c0 : Int) (c1 : Int) (c2 : Int) (c3 : Int) (c4 : Int) (c5 : Int) {W w : World} {R : List Own} {Φ : PW} [Stable Φ] {J : Value → World → Prop} (c : Ctx W w R Φ) (h : Berratalaw20_BoundsPaths p0P p0N p0C p1P p1N p1C c0 c1 c2 c3 c4 c5 W R Φ J) : Calls Try.prog F.erratalaw20_BoundsPaths #[.agg #[.slice p0P p0N p0C, .slice p1P p1N p1C], .agg #[.int .i64 c0, .int .i64 c1, .int .i64 c2, .int .i64 c3, .int .i64 c4, .int .i64 c5]] w fun e w' => ∃ v, e = .returned v ∧ J v w' :=
  vcFS_sound (H := { keep := some [2, 3, 4, 5, 6, 8, 9, 10, 11, 12, 13, 17, 27, 39, 43, 91, 100, 155], track := [2, 3, 13], loops := [(16, [(12, .one (.int .i64))], []), (10, [(9, .one (.int .i64))], [])] }) (by rw [show vcFS Try.prog W { keep := some [2, 3, 4, 5, 6, 8, 9, 10, 11, 12, 13, 17, 27, 39, 43, 91, 100, 155], track := [2, 3, 13], loops := [(16, [(12, .one (.int .i64))], []), (10, [(9, .one (.int .i64))], [])] } F.erratalaw20_BoundsPaths #[.agg #[.slice p0P p0N p0C, .slice p1P p1N p1C], .agg #[.int .i64 c0, .int .i64 c1, .int .i64 c2, .int .i64 c3, .int .i64 c4, .int .i64 c5]] R Φ J = Berratalaw20_BoundsPaths p0P p0N p0C p1P p1N p1C c0 c1 c2 c3 c4 c5 W R Φ J by kernel_rfl]; exact h) c

/-- erratalaw20.small -/
-- known blocks: 1 c, 2 p
def Berratalaw20_small  (W : World) (R : List Own) (Φ : PW) (J : Value → World → Prop) : Prop :=
  ∀ (b k0 k1 b : Nat) (w2 : World) (R3 : List Own), Ctx W w2 (Own.blk k1 [Value.int IntKind.i64 0, Value.slice none 0 0, Value.string (ByteArray.mk #[]), Value.int IntKind.i64 0, Value.slice
  none 0 0, Value.int IntKind.i64 0, Value.int IntKind.i64 0, Value.int IntKind.i64 0, Value.slice none 0 0, Value.slice none 0 0, Value.int IntKind.i64 0, Value.int IntKind.i64 0, Value.int
  IntKind.i64 0, Value.slice none 0 0, Value.slice none 0 0, Value.slice none 0 0, Value.int IntKind.i64 4, Value.slice (some (Addr.mk k0 0 none)) 1 1, Value.string (ByteArray.mk #[]),
  Value.int IntKind.i64 0, Value.slice none 0 0, Value.int IntKind.i64 0, Value.int IntKind.i64 60, Value.int IntKind.i64 0, Value.slice none 0 0, Value.slice none 0 0, Value.int IntKind.i64
  0, Value.int IntKind.i64 0, Value.int IntKind.i64 0, Value.slice none 0 0, Value.slice none 0 0, Value.slice none 0 0] 44 :: Own.blk k0 [Value.int IntKind.i64 0] 3 :: R ++ R3) Φ → Calls
  Try.prog F.bounds_Analyze #[Value.agg #[Value.slice none 0 0, Value.slice (some (Addr.mk k1 0 none)) 2 2], Value.agg #[Value.int IntKind.i64 2, Value.int IntKind.i64 0, Value.int
  IntKind.i64 10, Value.int IntKind.i64 5, Value.int IntKind.i64 3, Value.int IntKind.i64 20]] w2 fun (e4 : Ending) (w5 : World) => ∃ (p6 : Option Addr), ∃ (k7 : Nat), ∃ (k8 : Nat), ∃ (n9 :
  Int), ∃ (n10 : Int), e4 = Ending.returned (Value.tuple #[Value.slice p6 k7 k8, Value.int IntKind.i64 n9, Value.int IntKind.i64 n10]) ∧ ∃ (R11 : List Own), ∃ (Φ12 : PW), Stable Φ12 ∧ Ctx W
  w5 (R11 ++ R3) Φ12 ∧ ((0 : Int) ≤ 1 ∧ (1 : Int) < 2) ∧ ∀ (w13 : World) (R14 : List Own), Ctx W w13 (R11 ++ R14) Φ12 → CanWrite w13 k1 22 1 ∧ ∀ (w15 : World), w15 = w13.setCell (Addr.mk k1
  22 none) (Value.int IntKind.i64 (-1)) → ∃ (R16 : List Own), ∃ (Φ17 : PW), Stable Φ17 ∧ Ctx W w15 (R16 ++ R14) Φ17 ∧ ∀ (w18 : World) (R19 : List Own), Ctx W w18 (R16 ++ R19) Φ17 → Calls
  Try.prog F.bounds_Analyze #[Value.agg #[Value.slice none 0 0, Value.slice (some (Addr.mk k1 0 none)) 2 2], Value.agg #[Value.int IntKind.i64 2, Value.int IntKind.i64 0, Value.int
  IntKind.i64 10, Value.int IntKind.i64 5, Value.int IntKind.i64 3, Value.int IntKind.i64 20]] w18 fun (e20 : Ending) (w21 : World) => ∃ (p22 : Option Addr), ∃ (k23 : Nat), ∃ (k24 : Nat), ∃
  (n25 : Int), ∃ (n26 : Int), e20 = Ending.returned (Value.tuple #[Value.slice p22 k23 k24, Value.int IntKind.i64 n25, Value.int IntKind.i64 n26]) ∧ ∃ (R27 : List Own), ∃ (Φ28 : PW), Stable
  Φ28 ∧ Ctx W w21 (R27 ++ R19) Φ28 ∧ Br (decide (n10 = 0)) (Br (decide (n9 = -1)) (∀ (k29 : Nat) (w30 : World) (R31 : List Own), Ctx W w30 (Own.blk k29 [Value.int IntKind.i64 0, Value.int
  IntKind.i64 0, Value.int IntKind.i64 6, Value.int IntKind.i64 0, Value.int IntKind.i64 59, Value.int IntKind.i64 59, Value.int IntKind.i64 360, Value.int IntKind.i64 474] 37 :: R27 ++ R31)
  Φ28 → Calls Try.prog F.errataref20_Same #[Value.slice p6 k7 k8, Value.slice (some (Addr.mk k29 0 none)) 2 2] w30 fun (e32 : Ending) (w33 : World) => ∃ (c34 : Bool), e32 = Ending.returned
  (Value.bool c34) ∧ ∃ (R35 : List Own), ∃ (Φ36 : PW), Stable Φ36 ∧ Ctx W w33 (R35 ++ R31) Φ36 ∧ Br c34 (Br (decide (n26 = 14)) (∀ (w37 : World) (R38 : List Own), Ctx W w37 (R35 ++ R38) Φ36 →
  J (Value.bool (decide (n25 = 1))) w37) (∀ (w39 : World) (R40 : List Own), Ctx W w39 (R35 ++ R40) Φ36 → J (Value.bool false) w39)) (∀ (w41 : World) (R42 : List Own), Ctx W w41 (R35 ++ R42)
  Φ36 → J (Value.bool false) w41)) (∀ (w43 : World) (R44 : List Own), Ctx W w43 (R27 ++ R44) Φ28 → J (Value.bool false) w43)) (∀ (w45 : World) (R46 : List Own), Ctx W w45 (R27 ++ R46) Φ28 → J
  (Value.bool false) w45)

theorem Berratalaw20_small_run  {W w : World} {R : List Own} {Φ : PW} [Stable Φ] {J : Value → World → Prop} (c : Ctx W w R Φ) (h : Berratalaw20_small  W R Φ J) : Calls Try.prog F.erratalaw20_small #[] w fun e w' => ∃ v, e = .returned v ∧ J v w' :=
  vcFS_sound (H := { keep := some [0, 1, 2, 3, 4, 5, 7, 8], track := [1, 2], split := [6] }) (by rw [show vcFS Try.prog W { keep := some [0, 1, 2, 3, 4, 5, 7, 8], track := [1, 2], split := [6] } F.erratalaw20_small #[] R Φ J = Berratalaw20_small  W R Φ J by kernel_rfl]; exact h) c

/-- erratalaw20.few -/
-- loop at region 2: 3 i; blocks 
-- known blocks: 1 p, 4 n
def Berratalaw20_few (p0P : Option Addr) (p0N p0C : Nat) (p1P : Option Addr) (p1N p1C : Nat) (W : World) (R : List Own) (Φ : PW) (J : Value → World → Prop) : Prop :=
  ∀ (b : Nat), exI fun (I0 : Int → List Own → PW → Nat → Prop) => (∃ (R1 : List Own), ∃ (Φ2 : PW), ∃ (k3 : Nat), Stable Φ2 ∧ (∀ (w4 : World) (R5 : List Own), Ctx W w4 (R ++ R5) Φ → Ctx W w4
  (R1 ++ R5) Φ2) ∧ I0 0 R1 Φ2 k3) ∧ ∀ (n6 : Int) (R7 : List Own) (I8 : List Nat → World → Prop) (k9 : Nat), Stable I8 → I0 n6 R7 I8 k9 → Br (decide (n6 < (↑p1N : Int))) ((0 ≤ n6 ∧ n6 < (↑p1N
  : Int)) ∧ ptrK none p1P fun (k10 k11 : Nat) => ∀ (w12 : World) (R13 : List Own), Ctx W w12 (R7 ++ R13) I8 → ∃ (n14 : Int), ∃ (p15 : Option Addr), ∃ (k16 : Nat), ∃ (k17 : Nat), ∃ (s18 :
  ByteArray), ∃ (n19 : Int), ∃ (p20 : Option Addr), ∃ (k21 : Nat), ∃ (k22 : Nat), ∃ (n23 : Int), ∃ (n24 : Int), ∃ (n25 : Int), ∃ (p26 : Option Addr), ∃ (k27 : Nat), ∃ (k28 : Nat), ∃ (p29 :
  Option Addr), ∃ (k30 : Nat), ∃ (k31 : Nat), ∃ (n32 : Int), ∃ (n33 : Int), ∃ (n34 : Int), ∃ (p35 : Option Addr), ∃ (k36 : Nat), ∃ (k37 : Nat), ∃ (p38 : Option Addr), ∃ (k39 : Nat), ∃ (k40 :
  Nat), ∃ (p41 : Option Addr), ∃ (k42 : Nat), ∃ (k43 : Nat), RowAt w12 k10 (k11 + n6.toNat * 16) [Value.int IntKind.i64 n14, Value.slice p15 k16 k17, Value.string s18, Value.int IntKind.i64
  n19, Value.slice p20 k21 k22, Value.int IntKind.i64 n23, Value.int IntKind.i64 n24, Value.int IntKind.i64 n25, Value.slice p26 k27 k28, Value.slice p29 k30 k31, Value.int IntKind.i64 n32,
  Value.int IntKind.i64 n33, Value.int IntKind.i64 n34, Value.slice p35 k36 k37, Value.slice p38 k39 k40, Value.slice p41 k42 k43] ∧ ∀ (b : Nat) (w44 : World) (R45 : List Own), Ctx W w44 (R7
  ++ R45) I8 → Br (decide (5 < (↑k16 : Int)) || decide (20 < (↑k42 : Int)) || decide (20 < (↑k39 : Int))) (∀ (w46 : World) (R47 : List Own), Ctx W w46 (R7 ++ R47) I8 → J (Value.bool false)
  w46) (I64 (n6 + 1) ∧ ∃ (R48 : List Own), ∃ (Φ49 : PW), ∃ (k50 : Nat), Stable Φ49 ∧ (∀ (w51 : World) (R52 : List Own), Ctx W w51 (R7 ++ R52) I8 → Ctx W w51 (R48 ++ R52) Φ49) ∧ I0 (n6 + 1)
  R48 Φ49 k50 ∧ k50 < k9)) (∀ (w53 : World) (R54 : List Own), Ctx W w53 (R7 ++ R54) I8 → J (Value.bool (decide ((↑p1N : Int) ≤ 50))) w53)

theorem Berratalaw20_few_run (p0P : Option Addr) (p0N p0C : Nat) (p1P : Option Addr) (p1N p1C : Nat) {W w : World} {R : List Own} {Φ : PW} [Stable Φ] {J : Value → World → Prop} (c : Ctx W w R Φ) (h : Berratalaw20_few p0P p0N p0C p1P p1N p1C W R Φ J) : Calls Try.prog F.erratalaw20_few #[.agg #[.slice p0P p0N p0C, .slice p1P p1N p1C]] w fun e w' => ∃ v, e = .returned v ∧ J v w' :=
  vcFS_sound (H := { keep := some [1, 2, 3, 4, 9, 32], track := [1, 4], loops := [(2, [(3, .one (.int .i64))], [])] }) (by rw [show vcFS Try.prog W { keep := some [1, 2, 3, 4, 9, 32], track := [1, 4], loops := [(2, [(3, .one (.int .i64))], [])] } F.erratalaw20_few #[.agg #[.slice p0P p0N p0C, .slice p1P p1N p1C]] R Φ J = Berratalaw20_few p0P p0N p0C p1P p1N p1C W R Φ J by kernel_rfl]; exact h) c

/-- bounds.Analyze -/
-- loop at region 5: 7 l, 22 ; blocks 
-- known blocks: 2 p, 3 c, 9 n, 10 b
def Bbounds_Analyze (p0P : Option Addr) (p0N p0C : Nat) (p1P : Option Addr) (p1N p1C : Nat) (c0 : Int) (c1 : Int) (c2 : Int) (c3 : Int) (c4 : Int) (c5 : Int) (W : World) (R : List Own) (Φ : PW) (J : Value → World → Prop) : Prop :=
  ∀ (b b : Nat) (w0 : World) (R1 : List Own), Ctx W w0 (R ++ R1) Φ → Calls Try.prog F.bounds_RightConfig #[Value.agg #[Value.int IntKind.i64 c0, Value.int IntKind.i64 c1, Value.int
  IntKind.i64 c2, Value.int IntKind.i64 c3, Value.int IntKind.i64 c4, Value.int IntKind.i64 c5]] w0 fun (e2 : Ending) (w3 : World) => ∃ (c4_1 : Bool), e2 = Ending.returned (Value.bool c4_1) ∧
  ∃ (R5 : List Own), ∃ (Φ6 : PW), Stable Φ6 ∧ Ctx W w3 (R5 ++ R1) Φ6 ∧ Br (!c4_1) (∀ (w7 : World) (R8 : List Own), Ctx W w7 (R5 ++ R8) Φ6 → J (Value.tuple #[Value.slice none 0 0, Value.int
  IntKind.i64 (-1), Value.int IntKind.i64 2]) w7) (∀ (w9 : World) (R10 : List Own), Ctx W w9 (R5 ++ R10) Φ6 → Calls Try.prog F.bounds_Well #[Value.agg #[Value.slice p0P p0N p0C, Value.slice
  p1P p1N p1C]] w9 fun (e11 : Ending) (w12 : World) => ∃ (c13 : Bool), e11 = Ending.returned (Value.bool c13) ∧ ∃ (R14 : List Own), ∃ (Φ15 : PW), Stable Φ15 ∧ Ctx W w12 (R14 ++ R10) Φ15 ∧ Br
  (!c13) (∀ (w16 : World) (R17 : List Own), Ctx W w16 (R14 ++ R17) Φ15 → J (Value.tuple #[Value.slice none 0 0, Value.int IntKind.i64 (-1), Value.int IntKind.i64 2]) w16) (exI fun (I18 :
  Option Addr → Nat → Nat → Int → List Own → PW → Nat → Prop) => (∃ (R19 : List Own), ∃ (Φ20 : PW), ∃ (k21 : Nat), Stable Φ20 ∧ (∀ (w22 : World) (R23 : List Own), Ctx W w22 (R14 ++ R23) Φ15 →
  Ctx W w22 (R19 ++ R23) Φ20) ∧ I18 none 0 0 0 R19 Φ20 k21) ∧ ∀ (p24 : Option Addr) (k25 k26 : Nat) (n27 : Int) (R28 : List Own) (I29 : List Nat → World → Prop) (k30 : Nat), Stable I29 → I18
  p24 k25 k26 n27 R28 I29 k30 → Br (decide (n27 < (↑p1N : Int))) ((0 ≤ n27 ∧ n27 < (↑p1N : Int)) ∧ ptrK none p1P fun (k31 k32 : Nat) => ∀ (w33 : World) (R34 : List Own), Ctx W w33 (R28 ++
  R34) I29 → ∃ (n35 : Int), ∃ (p36 : Option Addr), ∃ (k37 : Nat), ∃ (k38 : Nat), ∃ (s39 : ByteArray), ∃ (n40 : Int), ∃ (p41 : Option Addr), ∃ (k42 : Nat), ∃ (k43 : Nat), ∃ (n44 : Int), ∃ (n45
  : Int), ∃ (n46 : Int), ∃ (p47 : Option Addr), ∃ (k48 : Nat), ∃ (k49 : Nat), ∃ (p50 : Option Addr), ∃ (k51 : Nat), ∃ (k52 : Nat), ∃ (n53 : Int), ∃ (n54 : Int), ∃ (n55 : Int), ∃ (p56 : Option
  Addr), ∃ (k57 : Nat), ∃ (k58 : Nat), ∃ (p59 : Option Addr), ∃ (k60 : Nat), ∃ (k61 : Nat), ∃ (p62 : Option Addr), ∃ (k63 : Nat), ∃ (k64 : Nat), RowAt w33 k31 (k32 + n27.toNat * 16)
  [Value.int IntKind.i64 n35, Value.slice p36 k37 k38, Value.string s39, Value.int IntKind.i64 n40, Value.slice p41 k42 k43, Value.int IntKind.i64 n44, Value.int IntKind.i64 n45, Value.int
  IntKind.i64 n46, Value.slice p47 k48 k49, Value.slice p50 k51 k52, Value.int IntKind.i64 n53, Value.int IntKind.i64 n54, Value.int IntKind.i64 n55, Value.slice p56 k57 k58, Value.slice p59
  k60 k61, Value.slice p62 k63 k64] ∧ ∀ (b : Nat) (w65 : World) (R66 : List Own), Ctx W w65 (R28 ++ R66) I29 → Calls Try.prog F.bounds_Bounded #[Value.agg #[Value.int IntKind.i64 n35,
  Value.slice p36 k37 k38, Value.string s39, Value.int IntKind.i64 n40, Value.slice p41 k42 k43, Value.int IntKind.i64 n44, Value.int IntKind.i64 n45, Value.int IntKind.i64 n46, Value.slice
  p47 k48 k49, Value.slice p50 k51 k52, Value.int IntKind.i64 n53, Value.int IntKind.i64 n54, Value.int IntKind.i64 n55, Value.slice p56 k57 k58, Value.slice p59 k60 k61, Value.slice p62 k63
  k64]] w65 fun (e67 : Ending) (w68 : World) => ∃ (c69 : Bool), e67 = Ending.returned (Value.bool c69) ∧ ∃ (R70 : List Own), ∃ (Φ71 : PW), Stable Φ71 ∧ Ctx W w68 (R70 ++ R66) Φ71 ∧ Br (!c69)
  (∀ (w72 : World) (R73 : List Own), Ctx W w72 (R70 ++ R73) Φ71 → J (Value.tuple #[Value.slice none 0 0, Value.int IntKind.i64 n27, Value.int IntKind.i64 14]) w72) (∀ (w74 : World) (R75 :
  List Own), Ctx W w74 (R70 ++ R75) Φ71 → Calls Try.prog F.bounds_bound #[Value.agg #[Value.int IntKind.i64 n35, Value.slice p36 k37 k38, Value.string s39, Value.int IntKind.i64 n40,
  Value.slice p41 k42 k43, Value.int IntKind.i64 n44, Value.int IntKind.i64 n45, Value.int IntKind.i64 n46, Value.slice p47 k48 k49, Value.slice p50 k51 k52, Value.int IntKind.i64 n53,
  Value.int IntKind.i64 n54, Value.int IntKind.i64 n55, Value.slice p56 k57 k58, Value.slice p59 k60 k61, Value.slice p62 k63 k64], Value.slice p24 k25 k26, Value.agg #[Value.int IntKind.i64
  c0, Value.int IntKind.i64 c1, Value.int IntKind.i64 c2, Value.int IntKind.i64 c3, Value.int IntKind.i64 c4, Value.int IntKind.i64 c5]] w74 fun (e76 : Ending) (w77 : World) => ∃ (n78 : Int),
  ∃ (n79 : Int), ∃ (n80 : Int), ∃ (n81 : Int), e76 = Ending.returned (Value.agg #[Value.int IntKind.i64 n78, Value.int IntKind.i64 n79, Value.int IntKind.i64 n80, Value.int IntKind.i64 n81])
  ∧ ∃ (R82 : List Own), ∃ (Φ83 : PW), Stable Φ83 ∧ Ctx W w77 (R82 ++ R75) Φ83 ∧ ∀ (b : Nat) (w84 : World) (R85 : List Own), Ctx W w84 (R82 ++ R85) Φ83 → Br (decide (1099511627776 ≤ n80) ||
  decide (1099511627776 ≤ n81)) (∀ (w86 : World) (R87 : List Own), Ctx W w86 (R82 ++ R87) Φ83 → J (Value.tuple #[Value.slice none 0 0, Value.int IntKind.i64 n27, Value.int IntKind.i64 14])
  w86) (∀ (k88 : Nat) (w89 : World) (R90 : List Own), Ctx W w89 (Own.blk k88 [Value.int IntKind.i64 n78, Value.int IntKind.i64 n79, Value.int IntKind.i64 n80, Value.int IntKind.i64 n81] 37 ::
  R82 ++ R90) Φ83 → ∃ (p91 : Option Addr), ∃ (k92 : Nat), ∃ (k93 : Nat), ∃ (w94 : World), Sem.run Try.prog (builtin Builtin.append #[30, 30] 30 #[false, false] #[Value.slice p24 k25 k26,
  Value.slice (some (Addr.mk k88 0 none)) 1 1]) w89 = Result.ok (Next.value (Value.slice p91 k92 k93)) w94 ∧ ∃ (R95 : List Own), ∃ (Φ96 : PW), Stable Φ96 ∧ Ctx W w94 (R95 ++ R90) Φ96 ∧ I64
  (n27 + 1) ∧ ∃ (R97 : List Own), ∃ (Φ98 : PW), ∃ (k99 : Nat), Stable Φ98 ∧ (∀ (w100 : World) (R101 : List Own), Ctx W w100 (R95 ++ R101) Φ96 → Ctx W w100 (R97 ++ R101) Φ98) ∧ I18 p91 k92 k93
  (n27 + 1) R97 Φ98 k99 ∧ k99 < k30))) (∀ (w102 : World) (R103 : List Own), Ctx W w102 (R28 ++ R103) I29 → J (Value.tuple #[Value.slice p24 k25 k26, Value.int IntKind.i64 (-1), Value.int
  IntKind.i64 0]) w102)))

theorem Bbounds_Analyze_run (p0P : Option Addr) (p0N p0C : Nat) (p1P : Option Addr) (p1N p1C : Nat) (c0 : Int) (c1 : Int) (c2 : Int) (c3 : Int) (c4 : Int) (c5 : Int) {W w : World} {R : List Own} {Φ : PW} [Stable Φ] {J : Value → World → Prop} (c : Ctx W w R Φ) (h : Bbounds_Analyze p0P p0N p0C p1P p1N p1C c0 c1 c2 c3 c4 c5 W R Φ J) : Calls Try.prog F.bounds_Analyze #[.agg #[.slice p0P p0N p0C, .slice p1P p1N p1C], .agg #[.int .i64 c0, .int .i64 c1, .int .i64 c2, .int .i64 c3, .int .i64 c4, .int .i64 c5]] w fun e w' => ∃ v, e = .returned v ∧ J v w' :=
  vcFS_sound (H := { keep := some [2, 3, 4, 5, 6, 7, 8, 9, 10, 18, 20, 21, 22, 23, 29, 42], track := [2, 3, 9, 10], split := [1], loops := [(5, [(7, .one (.slice)), (22, .one (.int .i64))], [])] }) (by rw [show vcFS Try.prog W { keep := some [2, 3, 4, 5, 6, 7, 8, 9, 10, 18, 20, 21, 22, 23, 29, 42], track := [2, 3, 9, 10], split := [1], loops := [(5, [(7, .one (.slice)), (22, .one (.int .i64))], [])] } F.bounds_Analyze #[.agg #[.slice p0P p0N p0C, .slice p1P p1N p1C], .agg #[.int .i64 c0, .int .i64 c1, .int .i64 c2, .int .i64 c3, .int .i64 c4, .int .i64 c5]] R Φ J = Bbounds_Analyze p0P p0N p0C p1P p1N p1C c0 c1 c2 c3 c4 c5 W R Φ J by kernel_rfl]; exact h) c

/-- erratalaw20.path -/
-- loop at region 9: 12 k; blocks 
-- loop at region 4: 8 i; blocks 
-- known blocks: 2 p
def Berratalaw20_path (p0P : Option Addr) (p0N p0C : Nat) (p1P : Option Addr) (p1N p1C : Nat) (node : Int) (W : World) (R : List Own) (Φ : PW) (J : Value → World → Prop) : Prop :=
  ∀ (b : Nat), (0 ≤ (↑p1N : Int) ∧ (↑p1N : Int) ≤ (↑p1N : Int) ∧ 8 * (↑p1N : Int) ≤ 281474976710656 ∧ (↑p1N : Int) ≤ 9223372036854775807) ∧ ∀ (k0 : Nat), (0 ≤ (↑p1N : Int) ∧ (↑p1N : Int) ≤
  (↑p1N : Int) ∧ 8 * (↑p1N : Int) ≤ 281474976710656 ∧ (↑p1N : Int) ≤ 9223372036854775807) ∧ ∀ (k1 : Nat), exI fun (I2 : Int → List Own → PW → Nat → Prop) => (∃ (R3 : List Own), ∃ (Φ4 : PW), ∃
  (k5 : Nat), Stable Φ4 ∧ (∀ (w6 : World) (R7 : List Own), Ctx W w6 (Own.blk k1 (List.replicate (↑p1N : Int).toNat (Value.int IntKind.i64 0)) 3 :: Own.blk k0 (List.replicate (↑p1N :
  Int).toNat (Value.int IntKind.i64 0)) 3 :: R ++ R7) Φ → Ctx W w6 (R3 ++ R7) Φ4) ∧ I2 0 R3 Φ4 k5) ∧ ∀ (n8 : Int) (R9 : List Own) (I10 : List Nat → World → Prop) (k11 : Nat), Stable I10 → I2
  n8 R9 I10 k11 → Br (decide (n8 < (↑p1N : Int))) ((0 ≤ n8 ∧ n8 < (↑p1N : Int)) ∧ ptrK none p1P fun (k12 k13 : Nat) => ∀ (w14 : World) (R15 : List Own), Ctx W w14 (R9 ++ R15) I10 → ∃ (n16 :
  Int), ∃ (p17 : Option Addr), ∃ (k18 : Nat), ∃ (k19 : Nat), ∃ (s20 : ByteArray), ∃ (n21 : Int), ∃ (p22 : Option Addr), ∃ (k23 : Nat), ∃ (k24 : Nat), ∃ (n25 : Int), ∃ (n26 : Int), ∃ (n27 :
  Int), ∃ (p28 : Option Addr), ∃ (k29 : Nat), ∃ (k30 : Nat), ∃ (p31 : Option Addr), ∃ (k32 : Nat), ∃ (k33 : Nat), ∃ (n34 : Int), ∃ (n35 : Int), ∃ (n36 : Int), ∃ (p37 : Option Addr), ∃ (k38 :
  Nat), ∃ (k39 : Nat), ∃ (p40 : Option Addr), ∃ (k41 : Nat), ∃ (k42 : Nat), ∃ (p43 : Option Addr), ∃ (k44 : Nat), ∃ (k45 : Nat), RowAt w14 k12 (k13 + n8.toNat * 16) [Value.int IntKind.i64
  n16, Value.slice p17 k18 k19, Value.string s20, Value.int IntKind.i64 n21, Value.slice p22 k23 k24, Value.int IntKind.i64 n25, Value.int IntKind.i64 n26, Value.int IntKind.i64 n27,
  Value.slice p28 k29 k30, Value.slice p31 k32 k33, Value.int IntKind.i64 n34, Value.int IntKind.i64 n35, Value.int IntKind.i64 n36, Value.slice p37 k38 k39, Value.slice p40 k41 k42,
  Value.slice p43 k44 k45] ∧ ∀ (w46 : World) (R47 : List Own), Ctx W w46 (R9 ++ R47) I10 → Calls Try.prog F.bounds_Own #[Value.agg #[Value.int IntKind.i64 n16, Value.slice p17 k18 k19,
  Value.string s20, Value.int IntKind.i64 n21, Value.slice p22 k23 k24, Value.int IntKind.i64 n25, Value.int IntKind.i64 n26, Value.int IntKind.i64 n27, Value.slice p28 k29 k30, Value.slice
  p31 k32 k33, Value.int IntKind.i64 n34, Value.int IntKind.i64 n35, Value.int IntKind.i64 n36, Value.slice p37 k38 k39, Value.slice p40 k41 k42, Value.slice p43 k44 k45]] w46 fun (e48 :
  Ending) (w49 : World) => ∃ (n50 : Int), ∃ (n51 : Int), e48 = Ending.returned (Value.tuple #[Value.int IntKind.i64 n50, Value.int IntKind.i64 n51]) ∧ ∃ (R52 : List Own), ∃ (Φ53 : PW), Stable
  Φ53 ∧ Ctx W w49 (R52 ++ R47) Φ53 ∧ (0 ≤ n8 ∧ n8 < (↑p1N : Int)) ∧ ptrK none p1P fun (k54 k55 : Nat) => ∀ (w56 : World) (R57 : List Own), Ctx W w56 (R52 ++ R57) Φ53 → ∃ (p58 : Option Addr),
  ∃ (k59 : Nat), ∃ (k60 : Nat), w56.cell? (Addr.mk k54 (k55 + n8.toNat * 16 + 1) none) = some (Value.slice p58 k59 k60) ∧ exI fun (I61 : Int → List Own → PW → Nat → Prop) => (∃ (R62 : List
  Own), ∃ (Φ63 : PW), ∃ (k64 : Nat), Stable Φ63 ∧ (∀ (w65 : World) (R66 : List Own), Ctx W w65 (R52 ++ R66) Φ53 → Ctx W w65 (R62 ++ R66) Φ63) ∧ I61 0 R62 Φ63 k64) ∧ ∀ (n67 : Int) (R68 : List
  Own) (I69 : List Nat → World → Prop) (k70 : Nat), Stable I69 → I61 n67 R68 I69 k70 → Br (decide (n67 < (↑k59 : Int))) ((0 ≤ n8 ∧ n8 < (↑(↑p1N : Int).toNat : Int)) ∧ (0 ≤ n67 ∧ n67 < (↑k59 :
  Int)) ∧ ptrK none p58 fun (k71 k72 : Nat) => ∀ (w73 : World) (R74 : List Own), Ctx W w73 (R68 ++ R74) I69 → ∃ (n75 : Int), w73.cell? (Addr.mk k0 (0 + n8.toNat) none) = some (Value.int
  IntKind.i64 n75) ∧ ∀ (w76 : World) (R77 : List Own), Ctx W w76 (R68 ++ R77) I69 → ∃ (n78 : Int), w76.cell? (Addr.mk k71 (k72 + n67.toNat) none) = some (Value.int IntKind.i64 n78) ∧ (0 ≤ n78
  ∧ n78 < (↑(↑p1N : Int).toNat : Int)) ∧ ∀ (w79 : World) (R80 : List Own), Ctx W w79 (R68 ++ R80) I69 → ∃ (n81 : Int), w79.cell? (Addr.mk k0 (0 + n78.toNat) none) = some (Value.int
  IntKind.i64 n81) ∧ I64 (n81 + n50) ∧ (0 ≤ n8 ∧ n8 < (↑(↑p1N : Int).toNat : Int)) ∧ ∀ (w82 : World) (R83 : List Own), Ctx W w82 (R68 ++ R83) I69 → CanWrite w82 k0 (0 + n8.toNat) 1 ∧ ∀ (w84 :
  World), w84 = w82.setCell (Addr.mk k0 (0 + n8.toNat) none) (Value.int IntKind.i64 (max n75 (n81 + n50))) → ∃ (R85 : List Own), ∃ (Φ86 : PW), Stable Φ86 ∧ Ctx W w84 (R85 ++ R83) Φ86 ∧ (0 ≤
  n8 ∧ n8 < (↑(↑p1N : Int).toNat : Int)) ∧ (0 ≤ n67 ∧ n67 < (↑k59 : Int)) ∧ ptrK none p58 fun (k87 k88 : Nat) => ∀ (w89 : World) (R90 : List Own), Ctx W w89 (R85 ++ R90) Φ86 → ∃ (n91 : Int),
  w89.cell? (Addr.mk k1 (0 + n8.toNat) none) = some (Value.int IntKind.i64 n91) ∧ ∀ (w92 : World) (R93 : List Own), Ctx W w92 (R85 ++ R93) Φ86 → ∃ (n94 : Int), w92.cell? (Addr.mk k87 (k88 +
  n67.toNat) none) = some (Value.int IntKind.i64 n94) ∧ (0 ≤ n94 ∧ n94 < (↑(↑p1N : Int).toNat : Int)) ∧ ∀ (w95 : World) (R96 : List Own), Ctx W w95 (R85 ++ R96) Φ86 → ∃ (n97 : Int), w95.cell?
  (Addr.mk k1 (0 + n94.toNat) none) = some (Value.int IntKind.i64 n97) ∧ I64 (n97 + n51) ∧ (0 ≤ n8 ∧ n8 < (↑(↑p1N : Int).toNat : Int)) ∧ ∀ (w98 : World) (R99 : List Own), Ctx W w98 (R85 ++
  R99) Φ86 → CanWrite w98 k1 (0 + n8.toNat) 1 ∧ ∀ (w100 : World), w100 = w98.setCell (Addr.mk k1 (0 + n8.toNat) none) (Value.int IntKind.i64 (max n91 (n97 + n51))) → ∃ (R101 : List Own), ∃
  (Φ102 : PW), Stable Φ102 ∧ Ctx W w100 (R101 ++ R99) Φ102 ∧ I64 (n67 + 1) ∧ ∃ (R103 : List Own), ∃ (Φ104 : PW), ∃ (k105 : Nat), Stable Φ104 ∧ (∀ (w106 : World) (R107 : List Own), Ctx W w106
  (R101 ++ R107) Φ102 → Ctx W w106 (R103 ++ R107) Φ104) ∧ I61 (n67 + 1) R103 Φ104 k105 ∧ k105 < k70) (Br (decide ((↑k59 : Int) = 0)) ((0 ≤ n8 ∧ n8 < (↑(↑p1N : Int).toNat : Int)) ∧ ∀ (w108 :
  World) (R109 : List Own), Ctx W w108 (R68 ++ R109) I69 → CanWrite w108 k0 (0 + n8.toNat) 1 ∧ ∀ (w110 : World), w110 = w108.setCell (Addr.mk k0 (0 + n8.toNat) none) (Value.int IntKind.i64
  n50) → ∃ (R111 : List Own), ∃ (Φ112 : PW), Stable Φ112 ∧ Ctx W w110 (R111 ++ R109) Φ112 ∧ (0 ≤ n8 ∧ n8 < (↑(↑p1N : Int).toNat : Int)) ∧ ∀ (w113 : World) (R114 : List Own), Ctx W w113 (R111
  ++ R114) Φ112 → CanWrite w113 k1 (0 + n8.toNat) 1 ∧ ∀ (w115 : World), w115 = w113.setCell (Addr.mk k1 (0 + n8.toNat) none) (Value.int IntKind.i64 n51) → ∃ (R116 : List Own), ∃ (Φ117 : PW),
  Stable Φ117 ∧ Ctx W w115 (R116 ++ R114) Φ117 ∧ I64 (n8 + 1) ∧ ∃ (R118 : List Own), ∃ (Φ119 : PW), ∃ (k120 : Nat), Stable Φ119 ∧ (∀ (w121 : World) (R122 : List Own), Ctx W w121 (R116 ++
  R122) Φ117 → Ctx W w121 (R118 ++ R122) Φ119) ∧ I2 (n8 + 1) R118 Φ119 k120 ∧ k120 < k11) (I64 (n8 + 1) ∧ ∃ (R123 : List Own), ∃ (Φ124 : PW), ∃ (k125 : Nat), Stable Φ124 ∧ (∀ (w126 : World)
  (R127 : List Own), Ctx W w126 (R68 ++ R127) I69 → Ctx W w126 (R123 ++ R127) Φ124) ∧ I2 (n8 + 1) R123 Φ124 k125 ∧ k125 < k11))) (∀ (w128 : World) (R129 : List Own), Ctx W w128 (R9 ++ R129)
  I10 → (0 ≤ node ∧ node < (↑(↑p1N : Int).toNat : Int)) ∧ ∃ (n130 : Int), w128.cell? (Addr.mk k0 (0 + node.toNat) none) = some (Value.int IntKind.i64 n130) ∧ (0 ≤ node ∧ node < (↑(↑p1N :
  Int).toNat : Int)) ∧ ∃ (n131 : Int), w128.cell? (Addr.mk k1 (0 + node.toNat) none) = some (Value.int IntKind.i64 n131) ∧ ∀ (w132 : World) (R133 : List Own), Ctx W w132 (R9 ++ R133) I10 → J
  (Value.tuple #[Value.int IntKind.i64 n130, Value.int IntKind.i64 n131]) w132)

theorem Berratalaw20_path_run (p0P : Option Addr) (p0N p0C : Nat) (p1P : Option Addr) (p1N p1C : Nat) (node : Int) {W w : World} {R : List Own} {Φ : PW} [Stable Φ] {J : Value → World → Prop} (c : Ctx W w R Φ) (h : Berratalaw20_path p0P p0N p0C p1P p1N p1C node W R Φ J) : Calls Try.prog F.erratalaw20_path #[.agg #[.slice p0P p0N p0C, .slice p1P p1N p1C], .int .i64 node] w fun e w' => ∃ v, e = .returned v ∧ J v w' :=
  vcFS_sound (H := { keep := some [1, 2, 4, 5, 6, 7, 8, 9, 10, 11, 12, 25, 46, 85], track := [2], stages := [(11, [.stage [0, 1, 2, 3, 6, 7, 8, 13, 4, 9, 5, 10, 11, 12, 14, 15, 16] (some 17)]), (12, [.stage [0, 1, 2, 3, 6, 7, 8, 13, 4, 9, 5, 10, 11, 12, 14, 15, 16] (some 17)])], loops := [(9, [(12, .one (.int .i64))], []), (4, [(8, .one (.int .i64))], [])] }) (by rw [show vcFS Try.prog W { keep := some [1, 2, 4, 5, 6, 7, 8, 9, 10, 11, 12, 25, 46, 85], track := [2], stages := [(11, [.stage [0, 1, 2, 3, 6, 7, 8, 13, 4, 9, 5, 10, 11, 12, 14, 15, 16] (some 17)]), (12, [.stage [0, 1, 2, 3, 6, 7, 8, 13, 4, 9, 5, 10, 11, 12, 14, 15, 16] (some 17)])], loops := [(9, [(12, .one (.int .i64))], []), (4, [(8, .one (.int .i64))], [])] } F.erratalaw20_path #[.agg #[.slice p0P p0N p0C, .slice p1P p1N p1C], .int .i64 node] R Φ J = Berratalaw20_path p0P p0N p0C p1P p1N p1C node W R Φ J by kernel_rfl]; exact h) c

/-- errataref20.Same -/
-- loop at region 4: 5 i; blocks 
def Berrataref20_Same (aP : Option Addr) (aN aC : Nat) (bP : Option Addr) (bN bC : Nat) (W : World) (R : List Own) (Φ : PW) (J : Value → World → Prop) : Prop :=
  Br (decide ((↑aN : Int) ≠ (↑bN : Int))) (∀ (w0 : World) (R1 : List Own), Ctx W w0 (R ++ R1) Φ → J (Value.bool false) w0) (exI fun (I2 : Int → List Own → PW → Nat → Prop) => (∃ (R3 : List
  Own), ∃ (Φ4 : PW), ∃ (k5 : Nat), Stable Φ4 ∧ (∀ (w6 : World) (R7 : List Own), Ctx W w6 (R ++ R7) Φ → Ctx W w6 (R3 ++ R7) Φ4) ∧ I2 0 R3 Φ4 k5) ∧ ∀ (n8 : Int) (R9 : List Own) (I10 : List Nat
  → World → Prop) (k11 : Nat), Stable I10 → I2 n8 R9 I10 k11 → Br (decide (n8 < (↑aN : Int))) (∀ (w12 : World) (R13 : List Own), Ctx W w12 (R9 ++ R13) I10 → (0 ≤ n8 ∧ n8 < (↑aN : Int)) ∧ ptrK
  none aP fun (k14 k15 : Nat) => ∃ (n16 : Int), ∃ (n17 : Int), ∃ (n18 : Int), ∃ (n19 : Int), RowAt w12 k14 (k15 + n8.toNat * 4) [Value.int IntKind.i64 n16, Value.int IntKind.i64 n17,
  Value.int IntKind.i64 n18, Value.int IntKind.i64 n19] ∧ (0 ≤ n8 ∧ n8 < (↑bN : Int)) ∧ ptrK none bP fun (k20 k21 : Nat) => ∃ (n22 : Int), ∃ (n23 : Int), ∃ (n24 : Int), ∃ (n25 : Int), RowAt
  w12 k20 (k21 + n8.toNat * 4) [Value.int IntKind.i64 n22, Value.int IntKind.i64 n23, Value.int IntKind.i64 n24, Value.int IntKind.i64 n25] ∧ okAgg Try.prog 37 = true ∧ Br (!(decide (n16 =
  n22) && (decide (n17 = n23) && (decide (n18 = n24) && (decide (n19 = n25) && true))))) (∀ (w26 : World) (R27 : List Own), Ctx W w26 (R9 ++ R27) I10 → J (Value.bool false) w26) (I64 (n8 + 1)
  ∧ ∃ (R28 : List Own), ∃ (Φ29 : PW), ∃ (k30 : Nat), Stable Φ29 ∧ (∀ (w31 : World) (R32 : List Own), Ctx W w31 (R9 ++ R32) I10 → Ctx W w31 (R28 ++ R32) Φ29) ∧ I2 (n8 + 1) R28 Φ29 k30 ∧ k30 <
  k11)) (∀ (w33 : World) (R34 : List Own), Ctx W w33 (R9 ++ R34) I10 → J (Value.bool true) w33))

theorem Berrataref20_Same_run (aP : Option Addr) (aN aC : Nat) (bP : Option Addr) (bN bC : Nat) {W w : World} {R : List Own} {Φ : PW} [Stable Φ] {J : Value → World → Prop} (c : Ctx W w R Φ) (h : Berrataref20_Same aP aN aC bP bN bC W R Φ J) : Calls Try.prog F.errataref20_Same #[.slice aP aN aC, .slice bP bN bC] w fun e w' => ∃ v, e = .returned v ∧ J v w' :=
  vcFS_sound (H := { keep := some [0, 1, 4, 5, 10, 14, 25], loops := [(4, [(5, .one (.int .i64))], [])] }) (by rw [show vcFS Try.prog W { keep := some [0, 1, 4, 5, 10, 14, 25], loops := [(4, [(5, .one (.int .i64))], [])] } F.errataref20_Same #[.slice aP aN aC, .slice bP bN bC] R Φ J = Berrataref20_Same aP aN aC bP bN bC W R Φ J by kernel_rfl]; exact h) c

/-- bounds.Bounded -/
-- known blocks: 1 n, 3 k
def Bbounds_Bounded (n0 : Int) (n1P : Option Addr) (n1N n1C : Nat) (n2 : ByteArray) (n3 : Int) (n4P : Option Addr) (n4N n4C : Nat) (n5 : Int) (n6 : Int) (n7 : Int) (n8P : Option Addr) (n8N n8C : Nat) (n9P : Option Addr) (n9N n9C : Nat) (n10 : Int) (n11 : Int) (n12 : Int) (n13P : Option Addr) (n13N n13C : Nat) (n14P : Option Addr) (n14N n14C : Nat) (n15P : Option Addr) (n15N n15C : Nat) (W : World) (R : List Own) (Φ : PW) (J : Value → World → Prop) : Prop :=
  ∀ (b : Nat) (w0 : World) (R1 : List Own), Ctx W w0 (R ++ R1) Φ → Calls Try.prog F.bounds_of #[Value.int IntKind.i64 n0] w0 fun (e2 : Ending) (w3 : World) => ∃ (n4 : Int), ∃ (v5 : Value), ∃
  (v6 : Value), ∃ (c7 : Bool), ∃ (c8 : Bool), e2 = Ending.returned (Value.tuple #[Value.agg #[Value.int IntKind.i64 n4, v5, v6, Value.bool c7], Value.bool c8]) ∧ ∃ (R9 : List Own), ∃ (Φ10 :
  PW), Stable Φ10 ∧ Ctx W w3 (R9 ++ R1) Φ10 ∧ ∀ (b : Nat), OneAll [Value.int IntKind.i64 n4, v5, v6, Value.bool c7] ∧ Br c8 (∃ (u11 : FuncId), ∃ (u12 : Array Value), ∃ (u13 : Array Value), v5
  = Value.func (Fn.func u11) u12 u13 ∧ ∀ (w14 : World) (R15 : List Own), Ctx W w14 (R9 ++ R15) Φ10 → okFun Try.prog u11 = true ∧ Calls Try.prog u11 (Array.mk ((u12.toList.append [Value.agg
  #[Value.int IntKind.i64 n0, Value.slice n1P n1N n1C, Value.string n2, Value.int IntKind.i64 n3, Value.slice n4P n4N n4C, Value.int IntKind.i64 n5, Value.int IntKind.i64 n6, Value.int
  IntKind.i64 n7, Value.slice n8P n8N n8C, Value.slice n9P n9N n9C, Value.int IntKind.i64 n10, Value.int IntKind.i64 n11, Value.int IntKind.i64 n12, Value.slice n13P n13N n13C, Value.slice
  n14P n14N n14C, Value.slice n15P n15N n15C]]).append u13.toList)) w14 fun (e16 : Ending) (w17 : World) => ∃ (c18 : Bool), e16 = Ending.returned (Value.bool c18) ∧ ∃ (R19 : List Own), ∃ (Φ20
  : PW), Stable Φ20 ∧ Ctx W w17 (R19 ++ R15) Φ20 ∧ ∀ (w21 : World) (R22 : List Own), Ctx W w21 (R19 ++ R22) Φ20 → J (Value.bool c18) w21) (∀ (w23 : World) (R24 : List Own), Ctx W w23 (R9 ++
  R24) Φ10 → J (Value.bool false) w23)

theorem Bbounds_Bounded_run (n0 : Int) (n1P : Option Addr) (n1N n1C : Nat) (n2 : ByteArray) (n3 : Int) (n4P : Option Addr) (n4N n4C : Nat) (n5 : Int) (n6 : Int) (n7 : Int) (n8P : Option Addr) (n8N n8C : Nat) (n9P : Option Addr) (n9N n9C : Nat) (n10 : Int) (n11 : Int) (n12 : Int) (n13P : Option Addr) (n13N n13C : Nat) (n14P : Option Addr) (n14N n14C : Nat) (n15P : Option Addr) (n15N n15C : Nat) {W w : World} {R : List Own} {Φ : PW} [Stable Φ] {J : Value → World → Prop} (c : Ctx W w R Φ) (h : Bbounds_Bounded n0 n1P n1N n1C n2 n3 n4P n4N n4C n5 n6 n7 n8P n8N n8C n9P n9N n9C n10 n11 n12 n13P n13N n13C n14P n14N n14C n15P n15N n15C W R Φ J) : Calls Try.prog F.bounds_Bounded #[.agg #[.int .i64 n0, .slice n1P n1N n1C, .string n2, .int .i64 n3, .slice n4P n4N n4C, .int .i64 n5, .int .i64 n6, .int .i64 n7, .slice n8P n8N n8C, .slice n9P n9N n9C, .int .i64 n10, .int .i64 n11, .int .i64 n12, .slice n13P n13N n13C, .slice n14P n14N n14C, .slice n15P n15N n15C]] w fun e w' => ∃ v, e = .returned v ∧ J v w' :=
  vcFS_sound (H := { keep := some [1, 2, 3, 4], wrap := [0, 16], track := [1, 3], split := [2] }) (by rw [show vcFS Try.prog W { keep := some [1, 2, 3, 4], wrap := [0, 16], track := [1, 3], split := [2] } F.bounds_Bounded #[.agg #[.int .i64 n0, .slice n1P n1N n1C, .string n2, .int .i64 n3, .slice n4P n4N n4C, .int .i64 n5, .int .i64 n6, .int .i64 n7, .slice n8P n8N n8C, .slice n9P n9N n9C, .int .i64 n10, .int .i64 n11, .int .i64 n12, .slice n13P n13N n13C, .slice n14P n14N n14C, .slice n15P n15N n15C]] R Φ J = Bbounds_Bounded n0 n1P n1N n1C n2 n3 n4P n4N n4C n5 n6 n7 n8P n8N n8C n9P n9N n9C n10 n11 n12 n13P n13N n13C n14P n14N n14C n15P n15N n15C W R Φ J by kernel_rfl]; exact h) c

/-- bounds.Own -/
-- known blocks: 1 n, 4 k
def Bbounds_Own (n0 : Int) (n1P : Option Addr) (n1N n1C : Nat) (n2 : ByteArray) (n3 : Int) (n4P : Option Addr) (n4N n4C : Nat) (n5 : Int) (n6 : Int) (n7 : Int) (n8P : Option Addr) (n8N n8C : Nat) (n9P : Option Addr) (n9N n9C : Nat) (n10 : Int) (n11 : Int) (n12 : Int) (n13P : Option Addr) (n13N n13C : Nat) (n14P : Option Addr) (n14N n14C : Nat) (n15P : Option Addr) (n15N n15C : Nat) (W : World) (R : List Own) (Φ : PW) (J : Value → World → Prop) : Prop :=
  ∀ (b : Nat) (w0 : World) (R1 : List Own), Ctx W w0 (R ++ R1) Φ → Calls Try.prog F.bounds_Bounded #[Value.agg #[Value.int IntKind.i64 n0, Value.slice n1P n1N n1C, Value.string n2, Value.int
  IntKind.i64 n3, Value.slice n4P n4N n4C, Value.int IntKind.i64 n5, Value.int IntKind.i64 n6, Value.int IntKind.i64 n7, Value.slice n8P n8N n8C, Value.slice n9P n9N n9C, Value.int
  IntKind.i64 n10, Value.int IntKind.i64 n11, Value.int IntKind.i64 n12, Value.slice n13P n13N n13C, Value.slice n14P n14N n14C, Value.slice n15P n15N n15C]] w0 fun (e2 : Ending) (w3 : World)
  => ∃ (c4 : Bool), e2 = Ending.returned (Value.bool c4) ∧ ∃ (R5 : List Own), ∃ (Φ6 : PW), Stable Φ6 ∧ Ctx W w3 (R5 ++ R1) Φ6 ∧ Br (!c4) (∀ (w7 : World) (R8 : List Own), Ctx W w7 (R5 ++ R8)
  Φ6 → J (Value.tuple #[Value.int IntKind.i64 0, Value.int IntKind.i64 0]) w7) (∀ (w9 : World) (R10 : List Own), Ctx W w9 (R5 ++ R10) Φ6 → Calls Try.prog F.bounds_of #[Value.int IntKind.i64
  n0] w9 fun (e11 : Ending) (w12 : World) => ∃ (n13 : Int), ∃ (v14 : Value), ∃ (v15 : Value), ∃ (c16 : Bool), ∃ (c17 : Bool), e11 = Ending.returned (Value.tuple #[Value.agg #[Value.int
  IntKind.i64 n13, v14, v15, Value.bool c16], Value.bool c17]) ∧ ∃ (R18 : List Own), ∃ (Φ19 : PW), Stable Φ19 ∧ Ctx W w12 (R18 ++ R10) Φ19 ∧ ∀ (b : Nat), OneAll [Value.int IntKind.i64 n13,
  v14, v15, Value.bool c16] ∧ ∃ (u20 : FuncId), ∃ (u21 : Array Value), ∃ (u22 : Array Value), v15 = Value.func (Fn.func u20) u21 u22 ∧ ∀ (w23 : World) (R24 : List Own), Ctx W w23 (R18 ++ R24)
  Φ19 → okFun Try.prog u20 = true ∧ Calls Try.prog u20 (Array.mk ((u21.toList.append [Value.agg #[Value.int IntKind.i64 n0, Value.slice n1P n1N n1C, Value.string n2, Value.int IntKind.i64 n3,
  Value.slice n4P n4N n4C, Value.int IntKind.i64 n5, Value.int IntKind.i64 n6, Value.int IntKind.i64 n7, Value.slice n8P n8N n8C, Value.slice n9P n9N n9C, Value.int IntKind.i64 n10, Value.int
  IntKind.i64 n11, Value.int IntKind.i64 n12, Value.slice n13P n13N n13C, Value.slice n14P n14N n14C, Value.slice n15P n15N n15C]]).append u22.toList)) w23 fun (e25 : Ending) (w26 : World) =>
  ∃ (n27 : Int), ∃ (n28 : Int), e25 = Ending.returned (Value.tuple #[Value.int IntKind.i64 n27, Value.int IntKind.i64 n28]) ∧ ∃ (R29 : List Own), ∃ (Φ30 : PW), Stable Φ30 ∧ Ctx W w26 (R29 ++
  R24) Φ30 ∧ ∀ (w31 : World) (R32 : List Own), Ctx W w31 (R29 ++ R32) Φ30 → J (Value.tuple #[Value.int IntKind.i64 n27, Value.int IntKind.i64 n28]) w31)

theorem Bbounds_Own_run (n0 : Int) (n1P : Option Addr) (n1N n1C : Nat) (n2 : ByteArray) (n3 : Int) (n4P : Option Addr) (n4N n4C : Nat) (n5 : Int) (n6 : Int) (n7 : Int) (n8P : Option Addr) (n8N n8C : Nat) (n9P : Option Addr) (n9N n9C : Nat) (n10 : Int) (n11 : Int) (n12 : Int) (n13P : Option Addr) (n13N n13C : Nat) (n14P : Option Addr) (n14N n14C : Nat) (n15P : Option Addr) (n15N n15C : Nat) {W w : World} {R : List Own} {Φ : PW} [Stable Φ] {J : Value → World → Prop} (c : Ctx W w R Φ) (h : Bbounds_Own n0 n1P n1N n1C n2 n3 n4P n4N n4C n5 n6 n7 n8P n8N n8C n9P n9N n9C n10 n11 n12 n13P n13N n13C n14P n14N n14C n15P n15N n15C W R Φ J) : Calls Try.prog F.bounds_Own #[.agg #[.int .i64 n0, .slice n1P n1N n1C, .string n2, .int .i64 n3, .slice n4P n4N n4C, .int .i64 n5, .int .i64 n6, .int .i64 n7, .slice n8P n8N n8C, .slice n9P n9N n9C, .int .i64 n10, .int .i64 n11, .int .i64 n12, .slice n13P n13N n13C, .slice n14P n14N n14C, .slice n15P n15N n15C]] w fun e w' => ∃ v, e = .returned v ∧ J v w' :=
  vcFS_sound (H := { keep := some [1, 2, 3, 4, 8], wrap := [0, 18], track := [1, 4] }) (by rw [show vcFS Try.prog W { keep := some [1, 2, 3, 4, 8], wrap := [0, 18], track := [1, 4] } F.bounds_Own #[.agg #[.int .i64 n0, .slice n1P n1N n1C, .string n2, .int .i64 n3, .slice n4P n4N n4C, .int .i64 n5, .int .i64 n6, .int .i64 n7, .slice n8P n8N n8C, .slice n9P n9N n9C, .int .i64 n10, .int .i64 n11, .int .i64 n12, .slice n13P n13N n13C, .slice n14P n14N n14C, .slice n15P n15N n15C]] R Φ J = Bbounds_Own n0 n1P n1N n1C n2 n3 n4P n4N n4C n5 n6 n7 n8P n8N n8C n9P n9N n9C n10 n11 n12 n13P n13N n13C n14P n14N n14C n15P n15N n15C W R Φ J by kernel_rfl]; exact h) c

/-- bounds.RightConfig -/
-- known blocks: 1 c
def Bbounds_RightConfig (c0 : Int) (c1 : Int) (c2 : Int) (c3 : Int) (c4 : Int) (c5 : Int) (W : World) (R : List Own) (Φ : PW) (J : Value → World → Prop) : Prop :=
  ∀ (b : Nat) (w0 : World) (R1 : List Own), Ctx W w0 (R ++ R1) Φ → ∃ (c2_1 : Bool), (∀ (w3 : World), w3 = w0 → Calls Try.prog F.bounds_within #[Value.int IntKind.i64 c0, Value.int IntKind.i64
  1, Value.int IntKind.i64 8] w3 fun (e4 : Ending) (w5 : World) => e4 = Ending.returned (Value.bool c2_1) ∧ w5 = w0) ∧ ∃ (c6 : Bool), (c2_1 = true → ∀ (w7 : World), w7 = w0 → Calls Try.prog
  F.bounds_within #[Value.int IntKind.i64 c1, Value.int IntKind.i64 0, Value.int IntKind.i64 c2] w7 fun (e8 : Ending) (w9 : World) => e8 = Ending.returned (Value.bool c6) ∧ w9 = w0) ∧ ∃ (c10
  : Bool), ((c2_1 && c6 && decide (c2 ≤ 10000)) = true → ∀ (w11 : World), w11 = w0 → Calls Try.prog F.bounds_within #[Value.int IntKind.i64 c3, Value.int IntKind.i64 0, Value.int IntKind.i64
  10000] w11 fun (e12 : Ending) (w13 : World) => e12 = Ending.returned (Value.bool c10) ∧ w13 = w0) ∧ ∃ (c14 : Bool), ((c2_1 && c6 && decide (c2 ≤ 10000) && c10) = true → ∀ (w15 : World), w15
  = w0 → Calls Try.prog F.bounds_within #[Value.int IntKind.i64 c4, Value.int IntKind.i64 1, Value.int IntKind.i64 20] w15 fun (e16 : Ending) (w17 : World) => e16 = Ending.returned
  (Value.bool c14) ∧ w17 = w0) ∧ ((c2_1 && c6 && decide (c2 ≤ 10000) && c10 && c14) = true → I64 (c2 + 1)) ∧ ∃ (c18 : Bool), ((c2_1 && c6 && decide (c2 ≤ 10000) && c10 && c14) = true → ∀ (w19
  : World), w19 = w0 → Calls Try.prog F.bounds_within #[Value.int IntKind.i64 c5, Value.int IntKind.i64 (c2 + 1), Value.int IntKind.i64 30000] w19 fun (e20 : Ending) (w21 : World) => e20 =
  Ending.returned (Value.bool c18) ∧ w21 = w0) ∧ ∀ (w22 : World) (R23 : List Own), Ctx W w22 (R ++ R23) Φ → J (Value.bool (c2_1 && c6 && decide (c2 ≤ 10000) && c10 && c14 && c18)) w22

theorem Bbounds_RightConfig_run (c0 : Int) (c1 : Int) (c2 : Int) (c3 : Int) (c4 : Int) (c5 : Int) {W w : World} {R : List Own} {Φ : PW} [Stable Φ] {J : Value → World → Prop} (c : Ctx W w R Φ) (h : Bbounds_RightConfig c0 c1 c2 c3 c4 c5 W R Φ J) : Calls Try.prog F.bounds_RightConfig #[.agg #[.int .i64 c0, .int .i64 c1, .int .i64 c2, .int .i64 c3, .int .i64 c4, .int .i64 c5]] w fun e w' => ∃ v, e = .returned v ∧ J v w' :=
  vcFS_sound (H := { keep := some [1, 2], track := [1] }) (by rw [show vcFS Try.prog W { keep := some [1, 2], track := [1] } F.bounds_RightConfig #[.agg #[.int .i64 c0, .int .i64 c1, .int .i64 c2, .int .i64 c3, .int .i64 c4, .int .i64 c5]] R Φ J = Bbounds_RightConfig c0 c1 c2 c3 c4 c5 W R Φ J by kernel_rfl]; exact h) c

/-- bounds.Well -/
-- loop at region 8: 36 ; blocks 
-- loop at region 2: 12 ; blocks 
-- known blocks: 1 p, 4 n, 5 k
def Bbounds_Well (p0P : Option Addr) (p0N p0C : Nat) (p1P : Option Addr) (p1N p1C : Nat) (W : World) (R : List Own) (Φ : PW) (J : Value → World → Prop) : Prop :=
  ∀ (b : Nat), exI fun (I0 : Int → List Own → PW → Nat → Prop) => (∃ (R1 : List Own), ∃ (Φ2 : PW), ∃ (k3 : Nat), Stable Φ2 ∧ (∀ (w4 : World) (R5 : List Own), Ctx W w4 (R ++ R5) Φ → Ctx W w4
  (R1 ++ R5) Φ2) ∧ I0 0 R1 Φ2 k3) ∧ ∀ (n6 : Int) (R7 : List Own) (I8 : List Nat → World → Prop) (k9 : Nat), Stable I8 → I0 n6 R7 I8 k9 → Br (decide (n6 < (↑p1N : Int))) ((0 ≤ n6 ∧ n6 < (↑p1N
  : Int)) ∧ ptrK none p1P fun (k10 k11 : Nat) => ∀ (w12 : World) (R13 : List Own), Ctx W w12 (R7 ++ R13) I8 → ∃ (n14 : Int), ∃ (p15 : Option Addr), ∃ (k16 : Nat), ∃ (k17 : Nat), ∃ (s18 :
  ByteArray), ∃ (n19 : Int), ∃ (p20 : Option Addr), ∃ (k21 : Nat), ∃ (k22 : Nat), ∃ (n23 : Int), ∃ (n24 : Int), ∃ (n25 : Int), ∃ (p26 : Option Addr), ∃ (k27 : Nat), ∃ (k28 : Nat), ∃ (p29 :
  Option Addr), ∃ (k30 : Nat), ∃ (k31 : Nat), ∃ (n32 : Int), ∃ (n33 : Int), ∃ (n34 : Int), ∃ (p35 : Option Addr), ∃ (k36 : Nat), ∃ (k37 : Nat), ∃ (p38 : Option Addr), ∃ (k39 : Nat), ∃ (k40 :
  Nat), ∃ (p41 : Option Addr), ∃ (k42 : Nat), ∃ (k43 : Nat), RowAt w12 k10 (k11 + n6.toNat * 16) [Value.int IntKind.i64 n14, Value.slice p15 k16 k17, Value.string s18, Value.int IntKind.i64
  n19, Value.slice p20 k21 k22, Value.int IntKind.i64 n23, Value.int IntKind.i64 n24, Value.int IntKind.i64 n25, Value.slice p26 k27 k28, Value.slice p29 k30 k31, Value.int IntKind.i64 n32,
  Value.int IntKind.i64 n33, Value.int IntKind.i64 n34, Value.slice p35 k36 k37, Value.slice p38 k39 k40, Value.slice p41 k42 k43] ∧ ∀ (b : Nat), OneAll [Value.int IntKind.i64 n14,
  Value.slice p15 k16 k17, Value.string s18, Value.int IntKind.i64 n19, Value.slice p20 k21 k22, Value.int IntKind.i64 n23, Value.int IntKind.i64 n24, Value.int IntKind.i64 n25, Value.slice
  p26 k27 k28, Value.slice p29 k30 k31, Value.int IntKind.i64 n32, Value.int IntKind.i64 n33, Value.int IntKind.i64 n34, Value.slice p35 k36 k37, Value.slice p38 k39 k40, Value.slice p41 k42
  k43] ∧ ∀ (w44 : World) (R45 : List Own), Ctx W w44 (R7 ++ R45) I8 → Calls Try.prog F.bounds_of #[Value.int IntKind.i64 n14] w44 fun (e46 : Ending) (w47 : World) => ∃ (n48 : Int), ∃ (v49 :
  Value), ∃ (v50 : Value), ∃ (c51 : Bool), ∃ (c52 : Bool), e46 = Ending.returned (Value.tuple #[Value.agg #[Value.int IntKind.i64 n48, v49, v50, Value.bool c51], Value.bool c52]) ∧ ∃ (R53 :
  List Own), ∃ (Φ54 : PW), Stable Φ54 ∧ Ctx W w47 (R53 ++ R45) Φ54 ∧ ∀ (b : Nat), OneAll [Value.int IntKind.i64 n48, v49, v50, Value.bool c51] ∧ ∀ (w55 : World) (R56 : List Own), Ctx W w55
  (R53 ++ R56) Φ54 → Br (!c52 || decide ((↑k16 : Int) ≠ n48)) (∀ (w57 : World) (R58 : List Own), Ctx W w57 (R53 ++ R58) Φ54 → J (Value.bool false) w57) (exI fun (I59 : Int → List Own → PW →
  Nat → Prop) => (∃ (R60 : List Own), ∃ (Φ61 : PW), ∃ (k62 : Nat), Stable Φ61 ∧ (∀ (w63 : World) (R64 : List Own), Ctx W w63 (R53 ++ R64) Φ54 → Ctx W w63 (R60 ++ R64) Φ61) ∧ I59 0 R60 Φ61
  k62) ∧ ∀ (n65 : Int) (R66 : List Own) (I67 : List Nat → World → Prop) (k68 : Nat), Stable I67 → I59 n65 R66 I67 k68 → Br (decide (n65 < (↑k16 : Int))) ((0 ≤ n65 ∧ n65 < (↑k16 : Int)) ∧ ptrK
  none p15 fun (k69 k70 : Nat) => ∀ (w71 : World) (R72 : List Own), Ctx W w71 (R66 ++ R72) I67 → ∃ (n73 : Int), w71.cell? (Addr.mk k69 (k70 + n65.toNat) none) = some (Value.int IntKind.i64
  n73) ∧ I64 (n6 - 1) ∧ ∀ (w74 : World) (R75 : List Own), Ctx W w74 (R66 ++ R75) I67 → Calls Try.prog F.bounds_within #[Value.int IntKind.i64 n73, Value.int IntKind.i64 0, Value.int
  IntKind.i64 (n6 - 1)] w74 fun (e76 : Ending) (w77 : World) => ∃ (c78 : Bool), e76 = Ending.returned (Value.bool c78) ∧ ∃ (R79 : List Own), ∃ (Φ80 : PW), Stable Φ80 ∧ Ctx W w77 (R79 ++ R75)
  Φ80 ∧ Br (!c78) (∀ (w81 : World) (R82 : List Own), Ctx W w81 (R79 ++ R82) Φ80 → J (Value.bool false) w81) (I64 (n65 + 1) ∧ ∃ (R83 : List Own), ∃ (Φ84 : PW), ∃ (k85 : Nat), Stable Φ84 ∧ (∀
  (w86 : World) (R87 : List Own), Ctx W w86 (R79 ++ R87) Φ80 → Ctx W w86 (R83 ++ R87) Φ84) ∧ I59 (n65 + 1) R83 Φ84 k85 ∧ k85 < k68)) (I64 (n6 + 1) ∧ ∃ (R88 : List Own), ∃ (Φ89 : PW), ∃ (k90 :
  Nat), Stable Φ89 ∧ (∀ (w91 : World) (R92 : List Own), Ctx W w91 (R66 ++ R92) I67 → Ctx W w91 (R88 ++ R92) Φ89) ∧ I0 (n6 + 1) R88 Φ89 k90 ∧ k90 < k9))) (∀ (w93 : World) (R94 : List Own), Ctx
  W w93 (R7 ++ R94) I8 → Calls Try.prog F.bounds_within #[Value.int IntKind.i64 (↑p1N : Int), Value.int IntKind.i64 1, Value.int IntKind.i64 40] w93 fun (e95 : Ending) (w96 : World) => ∃ (c97
  : Bool), e95 = Ending.returned (Value.bool c97) ∧ ∃ (R98 : List Own), ∃ (Φ99 : PW), Stable Φ99 ∧ Ctx W w96 (R98 ++ R94) Φ99 ∧ ∀ (w100 : World) (R101 : List Own), Ctx W w100 (R98 ++ R101)
  Φ99 → J (Value.bool c97) w100)

theorem Bbounds_Well_run (p0P : Option Addr) (p0N p0C : Nat) (p1P : Option Addr) (p1N p1C : Nat) {W w : World} {R : List Own} {Φ : PW} [Stable Φ] {J : Value → World → Prop} (c : Ctx W w R Φ) (h : Bbounds_Well p0P p0N p0C p1P p1N p1C W R Φ J) : Calls Try.prog F.bounds_Well #[.agg #[.slice p0P p0N p0C, .slice p1P p1N p1C]] w fun e w' => ∃ v, e = .returned v ∧ J v w' :=
  vcFS_sound (H := { keep := some [1, 2, 3, 4, 5, 6, 8, 10, 11, 12, 13, 32, 34, 35, 36, 37, 44], wrap := [0], track := [1, 4, 5], loops := [(8, [(36, .one (.int .i64))], []), (2, [(12, .one (.int .i64))], [])] }) (by rw [show vcFS Try.prog W { keep := some [1, 2, 3, 4, 5, 6, 8, 10, 11, 12, 13, 32, 34, 35, 36, 37, 44], wrap := [0], track := [1, 4, 5], loops := [(8, [(36, .one (.int .i64))], []), (2, [(12, .one (.int .i64))], [])] } F.bounds_Well #[.agg #[.slice p0P p0N p0C, .slice p1P p1N p1C]] R Φ J = Bbounds_Well p0P p0N p0C p1P p1N p1C W R Φ J by kernel_rfl]; exact h) c

/-- bounds.bound -/
-- loop at region 6: 10 rates, 29 ; blocks 9 b
-- known blocks: 3 n, 5 c, 6 , 9 b, 11 k
def Bbounds_bound (n0 : Int) (n1P : Option Addr) (n1N n1C : Nat) (n2 : ByteArray) (n3 : Int) (n4P : Option Addr) (n4N n4C : Nat) (n5 : Int) (n6 : Int) (n7 : Int) (n8P : Option Addr) (n8N n8C : Nat) (n9P : Option Addr) (n9N n9C : Nat) (n10 : Int) (n11 : Int) (n12 : Int) (n13P : Option Addr) (n13N n13C : Nat) (n14P : Option Addr) (n14N n14C : Nat) (n15P : Option Addr) (n15N n15C : Nat) (lP : Option Addr) (lN lC : Nat) (c0 : Int) (c1 : Int) (c2 : Int) (c3 : Int) (c4 : Int) (c5 : Int) (W : World) (R : List Own) (Φ : PW) (J : Value → World → Prop) : Prop :=
  ∀ (b b b : Nat) (w0 : World) (R1 : List Own), Ctx W w0 (R ++ R1) Φ → Calls Try.prog F.bounds_Own #[Value.agg #[Value.int IntKind.i64 n0, Value.slice n1P n1N n1C, Value.string n2, Value.int
  IntKind.i64 n3, Value.slice n4P n4N n4C, Value.int IntKind.i64 n5, Value.int IntKind.i64 n6, Value.int IntKind.i64 n7, Value.slice n8P n8N n8C, Value.slice n9P n9N n9C, Value.int
  IntKind.i64 n10, Value.int IntKind.i64 n11, Value.int IntKind.i64 n12, Value.slice n13P n13N n13C, Value.slice n14P n14N n14C, Value.slice n15P n15N n15C]] w0 fun (e2 : Ending) (w3 : World)
  => ∃ (n4 : Int), ∃ (n5 : Int), e2 = Ending.returned (Value.tuple #[Value.int IntKind.i64 n4, Value.int IntKind.i64 n5]) ∧ ∃ (R6 : List Own), ∃ (Φ7 : PW), Stable Φ7 ∧ Ctx W w3 (R6 ++ R1) Φ7
  ∧ ∀ (b : Nat) (w8 : World) (R9 : List Own), Ctx W w8 (R6 ++ R9) Φ7 → Calls Try.prog F.bounds_of #[Value.int IntKind.i64 n0] w8 fun (e10 : Ending) (w11 : World) => ∃ (n12 : Int), ∃ (v13 :
  Value), ∃ (v14 : Value), ∃ (c15 : Bool), ∃ (c16 : Bool), e10 = Ending.returned (Value.tuple #[Value.agg #[Value.int IntKind.i64 n12, v13, v14, Value.bool c15], Value.bool c16]) ∧ ∃ (R17 :
  List Own), ∃ (Φ18 : PW), Stable Φ18 ∧ Ctx W w11 (R17 ++ R9) Φ18 ∧ ∀ (b : Nat), OneAll [Value.int IntKind.i64 n12, v13, v14, Value.bool c15] ∧ exI fun (I19 : Option Addr → Nat → Nat → Int →
  Int → Int → Int → Int → List Own → PW → Nat → Prop) => (∃ (R20 : List Own), ∃ (Φ21 : PW), ∃ (k22 : Nat), Stable Φ21 ∧ (∀ (w23 : World) (R24 : List Own), Ctx W w23 (R17 ++ R24) Φ18 → Ctx W
  w23 (R20 ++ R24) Φ21) ∧ I19 none 0 0 0 0 0 0 0 R20 Φ21 k22) ∧ ∀ (p25 : Option Addr) (k26 k27 : Nat) (n28 n29 n30 n31 n32 : Int) (R33 : List Own) (I34 : List Nat → World → Prop) (k35 : Nat),
  Stable I34 → I19 p25 k26 k27 n28 n29 n30 n31 n32 R33 I34 k35 → Br (decide (n28 < (↑n1N : Int))) ((0 ≤ n28 ∧ n28 < (↑n1N : Int)) ∧ ptrK none n1P fun (k36 k37 : Nat) => ∀ (w38 : World) (R39 :
  List Own), Ctx W w38 (R33 ++ R39) I34 → ∃ (n40 : Int), w38.cell? (Addr.mk k36 (k37 + n28.toNat) none) = some (Value.int IntKind.i64 n40) ∧ (0 ≤ n40 ∧ n40 < (↑lN : Int)) ∧ ptrK none lP fun
  (k41 k42 : Nat) => (0 ≤ n40 ∧ n40 < (↑lN : Int)) ∧ ptrK none lP fun (k43 k44 : Nat) => ∀ (w45 : World) (R46 : List Own), Ctx W w45 (R33 ++ R46) I34 → ∃ (n47 : Int), w45.cell? (Addr.mk k41
  (k42 + n40.toNat * 4) none) = some (Value.int IntKind.i64 n47) ∧ ∃ (n48 : Int), (∀ (w49 : World) (R50 : List Own), Ctx W w49 R50 I34 → ∃ (n51 : Int), w49.cell? (Addr.mk k43 (k44 + n40.toNat
  * 4 + 1) none) = some (Value.int IntKind.i64 n51) ∧ Value.int IntKind.i64 n51 = Value.int IntKind.i64 n48) ∧ OneAll [Value.int IntKind.i64 (max n29 n47)] ∧ (∀ (R52 : List Nat) (w53 :
  World), I34 R52 w53 → I34 R52 w53) ∧ OneAll [Value.int IntKind.i64 (max n30 n48)] ∧ (∀ (R54 : List Nat) (w55 : World), I34 R54 w55 → I34 R54 w55) ∧ (0 ≤ n40 ∧ n40 < (↑lN : Int)) ∧ ptrK none
  lP fun (k56 k57 : Nat) => ∀ (w58 : World) (R59 : List Own), Ctx W w58 (R33 ++ R59) I34 → ∃ (n60 : Int), w58.cell? (Addr.mk k56 (k57 + n40.toNat * 4 + 2) none) = some (Value.int IntKind.i64
  n60) ∧ ∀ (k61 : Nat) (w62 : World) (R63 : List Own), Ctx W w62 (Own.blk k61 [Value.int IntKind.i64 n60] 3 :: R33 ++ R63) I34 → ∃ (p64 : Option Addr), ∃ (k65 : Nat), ∃ (k66 : Nat), ∃ (w67 :
  World), Sem.run Try.prog (builtin Builtin.append #[38, 38] 38 #[false, false] #[Value.slice p25 k26 k27, Value.slice (some (Addr.mk k61 0 none)) 1 1]) w62 = Result.ok (Next.value
  (Value.slice p64 k65 k66)) w67 ∧ ∃ (R68 : List Own), ∃ (Φ69 : PW), Stable Φ69 ∧ Ctx W w67 (R68 ++ R63) Φ69 ∧ Br c15 ((0 ≤ n40 ∧ n40 < (↑lN : Int)) ∧ ptrK none lP fun (k70 k71 : Nat) => (0 ≤
  n40 ∧ n40 < (↑lN : Int)) ∧ ptrK none lP fun (k72 k73 : Nat) => ∃ (n74 : Int), (∀ (w75 : World) (R76 : List Own), Ctx W w75 R76 Φ69 → ∃ (n77 : Int), w75.cell? (Addr.mk k70 (k71 + n40.toNat *
  4 + 2) none) = some (Value.int IntKind.i64 n77) ∧ Value.int IntKind.i64 n77 = Value.int IntKind.i64 n74) ∧ ∃ (n78 : Int), (∀ (w79 : World) (R80 : List Own), Ctx W w79 R80 Φ69 → ∃ (n81 :
  Int), w79.cell? (Addr.mk k72 (k73 + n40.toNat * 4 + 1) none) = some (Value.int IntKind.i64 n81) ∧ Value.int IntKind.i64 n81 = Value.int IntKind.i64 n78) ∧ I64 (c5 + n78) ∧ I64 (c5 + n78 +
  n4) ∧ ∀ (w82 : World) (R83 : List Own), Ctx W w82 (R68 ++ R83) Φ69 → Calls Try.prog F.bounds_times #[Value.int IntKind.i64 n74, Value.int IntKind.i64 (c5 + n78 + n4)] w82 fun (e84 : Ending)
  (w85 : World) => ∃ (n86 : Int), e84 = Ending.returned (Value.int IntKind.i64 n86) ∧ ∃ (R87 : List Own), ∃ (Φ88 : PW), Stable Φ88 ∧ Ctx W w85 (R87 ++ R83) Φ88 ∧ (∀ (R89 : List Nat) (w90 :
  World), Φ88 R89 w90 → Φ69 R89 w90) ∧ ∀ (w91 : World) (R92 : List Own), Ctx W w91 (R87 ++ R92) Φ88 → Calls Try.prog F.bounds_plus #[Value.int IntKind.i64 n32, Value.int IntKind.i64 n86] w91
  fun (e93 : Ending) (w94 : World) => ∃ (n95 : Int), e93 = Ending.returned (Value.int IntKind.i64 n95) ∧ ∃ (R96 : List Own), ∃ (Φ97 : PW), Stable Φ97 ∧ Ctx W w94 (R96 ++ R92) Φ97 ∧ (∀ (R98 :
  List Nat) (w99 : World), Φ97 R98 w99 → Φ69 R98 w99) ∧ OneAll [Value.int IntKind.i64 n95] ∧ I64 (n28 + 1) ∧ ∃ (R100 : List Own), ∃ (Φ101 : PW), ∃ (k102 : Nat), Stable Φ101 ∧ (∀ (w103 :
  World) (R104 : List Own), Ctx W w103 (R96 ++ R104) Φ97 → Ctx W w103 (R100 ++ R104) Φ101) ∧ I19 p64 k65 k66 (n28 + 1) (max n29 n47) (max n30 n48) n31 n95 R100 Φ101 k102 ∧ k102 < k35) (I64
  (n28 + 1) ∧ ∃ (R105 : List Own), ∃ (Φ106 : PW), ∃ (k107 : Nat), Stable Φ106 ∧ (∀ (w108 : World) (R109 : List Own), Ctx W w108 (R68 ++ R109) Φ69 → Ctx W w108 (R105 ++ R109) Φ106) ∧ I19 p64
  k65 k66 (n28 + 1) (max n29 n47) (max n30 n48) n31 n32 R105 Φ106 k107 ∧ k107 < k35)) (I64 (n29 + n4) ∧ OneAll [Value.int IntKind.i64 (n29 + n4)] ∧ I64 (n30 + n5) ∧ OneAll [Value.int
  IntKind.i64 (n30 + n5)] ∧ Br (decide (n0 = 0)) (I64 (c0 * c4) ∧ OneAll [Value.int IntKind.i64 (c0 * c4)] ∧ OneAll [Value.int IntKind.i64 (n29 + n4), Value.int IntKind.i64 (n30 + n5),
  Value.int IntKind.i64 (c0 * c4), Value.int IntKind.i64 n32] ∧ ∀ (w110 : World) (R111 : List Own), Ctx W w110 (R33 ++ R111) I34 → J (Value.agg #[Value.int IntKind.i64 (n29 + n4), Value.int
  IntKind.i64 (n30 + n5), Value.int IntKind.i64 (c0 * c4), Value.int IntKind.i64 n32]) w110) (Br (decide (n0 = 3)) (((0 : Int) ≤ 0 ∧ 0 < (↑k26 : Int)) ∧ ptrK none p25 fun (k112 k113 : Nat) =>
  ((0 : Int) ≤ 1 ∧ 1 < (↑k26 : Int)) ∧ ptrK none p25 fun (k114 k115 : Nat) => ∀ (w116 : World) (R117 : List Own), Ctx W w116 (R33 ++ R117) I34 → ∃ (n118 : Int), w116.cell? (Addr.mk k112 k113
  none) = some (Value.int IntKind.i64 n118) ∧ ∀ (w119 : World) (R120 : List Own), Ctx W w119 (R33 ++ R120) I34 → ∃ (n121 : Int), w119.cell? (Addr.mk k114 k115.succ none) = some (Value.int
  IntKind.i64 n121) ∧ ∀ (w122 : World) (R123 : List Own), Ctx W w122 (R33 ++ R123) I34 → Calls Try.prog F.bounds_plus #[Value.int IntKind.i64 n118, Value.int IntKind.i64 n121] w122 fun (e124
  : Ending) (w125 : World) => ∃ (n126 : Int), e124 = Ending.returned (Value.int IntKind.i64 n126) ∧ ∃ (R127 : List Own), ∃ (Φ128 : PW), Stable Φ128 ∧ Ctx W w125 (R127 ++ R123) Φ128 ∧ (∀ (R129
  : List Nat) (w130 : World), Φ128 R129 w130 → I34 R129 w130) ∧ OneAll [Value.int IntKind.i64 n126] ∧ (∀ (R131 : List Nat) (w132 : World), Φ128 R131 w132 → I34 R131 w132) ∧ OneAll [Value.int
  IntKind.i64 (n29 + n4), Value.int IntKind.i64 (n30 + n5), Value.int IntKind.i64 n126, Value.int IntKind.i64 n32] ∧ ∀ (w133 : World) (R134 : List Own), Ctx W w133 (R127 ++ R134) Φ128 → J
  (Value.agg #[Value.int IntKind.i64 (n29 + n4), Value.int IntKind.i64 (n30 + n5), Value.int IntKind.i64 n126, Value.int IntKind.i64 n32]) w133) (Br (decide (n0 = 4)) (Br (decide (n0 = 4))
  (((0 : Int) ≤ 0 ∧ 0 < (↑k26 : Int)) ∧ ptrK none p25 fun (k135 k136 : Nat) => ∀ (w137 : World) (R138 : List Own), Ctx W w137 (R33 ++ R138) I34 → ∃ (n139 : Int), w137.cell? (Addr.mk k135 k136
  none) = some (Value.int IntKind.i64 n139) ∧ ∀ (w140 : World) (R141 : List Own), Ctx W w140 (R33 ++ R141) I34 → Calls Try.prog F.bounds_times #[Value.int IntKind.i64 n139, Value.int
  IntKind.i64 n6] w140 fun (e142 : Ending) (w143 : World) => ∃ (n144 : Int), e142 = Ending.returned (Value.int IntKind.i64 n144) ∧ ∃ (R145 : List Own), ∃ (Φ146 : PW), Stable Φ146 ∧ Ctx W w143
  (R145 ++ R141) Φ146 ∧ (∀ (R147 : List Nat) (w148 : World), Φ146 R147 w148 → I34 R147 w148) ∧ OneAll [Value.int IntKind.i64 n144] ∧ (∀ (R149 : List Nat) (w150 : World), Φ146 R149 w150 → I34
  R149 w150) ∧ OneAll [Value.int IntKind.i64 (n29 + n4), Value.int IntKind.i64 (n30 + n5), Value.int IntKind.i64 n144, Value.int IntKind.i64 n32] ∧ ∀ (w151 : World) (R152 : List Own), Ctx W
  w151 (R145 ++ R152) Φ146 → J (Value.agg #[Value.int IntKind.i64 (n29 + n4), Value.int IntKind.i64 (n30 + n5), Value.int IntKind.i64 n144, Value.int IntKind.i64 n32]) w151) (Br (decide (n0 =
  6)) (((0 : Int) ≤ 0 ∧ 0 < (↑k26 : Int)) ∧ ptrK none p25 fun (k153 k154 : Nat) => ((0 : Int) ≤ 1 ∧ 1 < (↑k26 : Int)) ∧ ptrK none p25 fun (k155 k156 : Nat) => ∃ (n157 : Int), (∀ (w158 :
  World) (R159 : List Own), Ctx W w158 R159 I34 → ∃ (n160 : Int), w158.cell? (Addr.mk k153 k154 none) = some (Value.int IntKind.i64 n160) ∧ Value.int IntKind.i64 n160 = Value.int IntKind.i64
  n157) ∧ ∃ (n161 : Int), (∀ (w162 : World) (R163 : List Own), Ctx W w162 R163 I34 → ∃ (n164 : Int), w162.cell? (Addr.mk k155 k156.succ none) = some (Value.int IntKind.i64 n164) ∧ Value.int
  IntKind.i64 n164 = Value.int IntKind.i64 n161) ∧ I64 (n10 + n11) ∧ I64 (n10 + n11 + 2) ∧ ∀ (w165 : World) (R166 : List Own), Ctx W w165 (R33 ++ R166) I34 → Calls Try.prog F.bounds_times
  #[Value.int IntKind.i64 n157, Value.int IntKind.i64 n161] w165 fun (e167 : Ending) (w168 : World) => ∃ (n169 : Int), e167 = Ending.returned (Value.int IntKind.i64 n169) ∧ ∃ (R170 : List
  Own), ∃ (Φ171 : PW), Stable Φ171 ∧ Ctx W w168 (R170 ++ R166) Φ171 ∧ (∀ (R172 : List Nat) (w173 : World), Φ171 R172 w173 → I34 R172 w173) ∧ ∀ (w174 : World) (R175 : List Own), Ctx W w174
  (R170 ++ R175) Φ171 → Calls Try.prog F.bounds_times #[Value.int IntKind.i64 n169, Value.int IntKind.i64 (n10 + n11 + 2)] w174 fun (e176 : Ending) (w177 : World) => ∃ (n178 : Int), e176 =
  Ending.returned (Value.int IntKind.i64 n178) ∧ ∃ (R179 : List Own), ∃ (Φ180 : PW), Stable Φ180 ∧ Ctx W w177 (R179 ++ R175) Φ180 ∧ (∀ (R181 : List Nat) (w182 : World), Φ180 R181 w182 → I34
  R181 w182) ∧ OneAll [Value.int IntKind.i64 n178] ∧ OneAll [Value.int IntKind.i64 (n29 + n4), Value.int IntKind.i64 (n30 + n5), Value.int IntKind.i64 n178, Value.int IntKind.i64 n32] ∧ ∀
  (w183 : World) (R184 : List Own), Ctx W w183 (R179 ++ R184) Φ180 → J (Value.agg #[Value.int IntKind.i64 (n29 + n4), Value.int IntKind.i64 (n30 + n5), Value.int IntKind.i64 n178, Value.int
  IntKind.i64 n32]) w183) (((0 : Int) ≤ 0 ∧ 0 < (↑k26 : Int)) ∧ ptrK none p25 fun (k185 k186 : Nat) => ∀ (w187 : World) (R188 : List Own), Ctx W w187 (R33 ++ R188) I34 → ∃ (n189 : Int),
  w187.cell? (Addr.mk k185 k186 none) = some (Value.int IntKind.i64 n189) ∧ OneAll [Value.int IntKind.i64 n189] ∧ OneAll [Value.int IntKind.i64 (n29 + n4), Value.int IntKind.i64 (n30 + n5),
  Value.int IntKind.i64 n189, Value.int IntKind.i64 n32] ∧ ∀ (w190 : World) (R191 : List Own), Ctx W w190 (R33 ++ R191) I34 → J (Value.agg #[Value.int IntKind.i64 (n29 + n4), Value.int
  IntKind.i64 (n30 + n5), Value.int IntKind.i64 n189, Value.int IntKind.i64 n32]) w190))) (Br (decide (n0 = 5)) (((0 : Int) ≤ 0 ∧ 0 < (↑k26 : Int)) ∧ ptrK none p25 fun (k192 k193 : Nat) => ∀
  (w194 : World) (R195 : List Own), Ctx W w194 (R33 ++ R195) I34 → ∃ (n196 : Int), w194.cell? (Addr.mk k192 k193 none) = some (Value.int IntKind.i64 n196) ∧ ∀ (w197 : World) (R198 : List
  Own), Ctx W w197 (R33 ++ R198) I34 → Calls Try.prog F.bounds_times #[Value.int IntKind.i64 n196, Value.int IntKind.i64 n6] w197 fun (e199 : Ending) (w200 : World) => ∃ (n201 : Int), e199 =
  Ending.returned (Value.int IntKind.i64 n201) ∧ ∃ (R202 : List Own), ∃ (Φ203 : PW), Stable Φ203 ∧ Ctx W w200 (R202 ++ R198) Φ203 ∧ (∀ (R204 : List Nat) (w205 : World), Φ203 R204 w205 → I34
  R204 w205) ∧ OneAll [Value.int IntKind.i64 n201] ∧ (∀ (R206 : List Nat) (w207 : World), Φ203 R206 w207 → I34 R206 w207) ∧ OneAll [Value.int IntKind.i64 (n29 + n4), Value.int IntKind.i64
  (n30 + n5), Value.int IntKind.i64 n201, Value.int IntKind.i64 n32] ∧ ∀ (w208 : World) (R209 : List Own), Ctx W w208 (R202 ++ R209) Φ203 → J (Value.agg #[Value.int IntKind.i64 (n29 + n4),
  Value.int IntKind.i64 (n30 + n5), Value.int IntKind.i64 n201, Value.int IntKind.i64 n32]) w208) (Br (decide (n0 = 6)) (((0 : Int) ≤ 0 ∧ 0 < (↑k26 : Int)) ∧ ptrK none p25 fun (k210 k211 :
  Nat) => ((0 : Int) ≤ 1 ∧ 1 < (↑k26 : Int)) ∧ ptrK none p25 fun (k212 k213 : Nat) => ∃ (n214 : Int), (∀ (w215 : World) (R216 : List Own), Ctx W w215 R216 I34 → ∃ (n217 : Int), w215.cell?
  (Addr.mk k210 k211 none) = some (Value.int IntKind.i64 n217) ∧ Value.int IntKind.i64 n217 = Value.int IntKind.i64 n214) ∧ ∃ (n218 : Int), (∀ (w219 : World) (R220 : List Own), Ctx W w219
  R220 I34 → ∃ (n221 : Int), w219.cell? (Addr.mk k212 k213.succ none) = some (Value.int IntKind.i64 n221) ∧ Value.int IntKind.i64 n221 = Value.int IntKind.i64 n218) ∧ I64 (n10 + n11) ∧ I64
  (n10 + n11 + 2) ∧ ∀ (w222 : World) (R223 : List Own), Ctx W w222 (R33 ++ R223) I34 → Calls Try.prog F.bounds_times #[Value.int IntKind.i64 n214, Value.int IntKind.i64 n218] w222 fun (e224 :
  Ending) (w225 : World) => ∃ (n226 : Int), e224 = Ending.returned (Value.int IntKind.i64 n226) ∧ ∃ (R227 : List Own), ∃ (Φ228 : PW), Stable Φ228 ∧ Ctx W w225 (R227 ++ R223) Φ228 ∧ (∀ (R229 :
  List Nat) (w230 : World), Φ228 R229 w230 → I34 R229 w230) ∧ ∀ (w231 : World) (R232 : List Own), Ctx W w231 (R227 ++ R232) Φ228 → Calls Try.prog F.bounds_times #[Value.int IntKind.i64 n226,
  Value.int IntKind.i64 (n10 + n11 + 2)] w231 fun (e233 : Ending) (w234 : World) => ∃ (n235 : Int), e233 = Ending.returned (Value.int IntKind.i64 n235) ∧ ∃ (R236 : List Own), ∃ (Φ237 : PW),
  Stable Φ237 ∧ Ctx W w234 (R236 ++ R232) Φ237 ∧ (∀ (R238 : List Nat) (w239 : World), Φ237 R238 w239 → I34 R238 w239) ∧ OneAll [Value.int IntKind.i64 n235] ∧ OneAll [Value.int IntKind.i64
  (n29 + n4), Value.int IntKind.i64 (n30 + n5), Value.int IntKind.i64 n235, Value.int IntKind.i64 n32] ∧ ∀ (w240 : World) (R241 : List Own), Ctx W w240 (R236 ++ R241) Φ237 → J (Value.agg
  #[Value.int IntKind.i64 (n29 + n4), Value.int IntKind.i64 (n30 + n5), Value.int IntKind.i64 n235, Value.int IntKind.i64 n32]) w240) (((0 : Int) ≤ 0 ∧ 0 < (↑k26 : Int)) ∧ ptrK none p25 fun
  (k242 k243 : Nat) => ∀ (w244 : World) (R245 : List Own), Ctx W w244 (R33 ++ R245) I34 → ∃ (n246 : Int), w244.cell? (Addr.mk k242 k243 none) = some (Value.int IntKind.i64 n246) ∧ OneAll
  [Value.int IntKind.i64 n246] ∧ OneAll [Value.int IntKind.i64 (n29 + n4), Value.int IntKind.i64 (n30 + n5), Value.int IntKind.i64 n246, Value.int IntKind.i64 n32] ∧ ∀ (w247 : World) (R248 :
  List Own), Ctx W w247 (R33 ++ R248) I34 → J (Value.agg #[Value.int IntKind.i64 (n29 + n4), Value.int IntKind.i64 (n30 + n5), Value.int IntKind.i64 n246, Value.int IntKind.i64 n32])
  w247))))))

theorem Bbounds_bound_run (n0 : Int) (n1P : Option Addr) (n1N n1C : Nat) (n2 : ByteArray) (n3 : Int) (n4P : Option Addr) (n4N n4C : Nat) (n5 : Int) (n6 : Int) (n7 : Int) (n8P : Option Addr) (n8N n8C : Nat) (n9P : Option Addr) (n9N n9C : Nat) (n10 : Int) (n11 : Int) (n12 : Int) (n13P : Option Addr) (n13N n13C : Nat) (n14P : Option Addr) (n14N n14C : Nat) (n15P : Option Addr) (n15N n15C : Nat) (lP : Option Addr) (lN lC : Nat) (c0 : Int) (c1 : Int) (c2 : Int) (c3 : Int) (c4 : Int) (c5 : Int) {W w : World} {R : List Own} {Φ : PW} [Stable Φ] {J : Value → World → Prop} (c : Ctx W w R Φ) (h : Bbounds_bound n0 n1P n1N n1C n2 n3 n4P n4N n4C n5 n6 n7 n8P n8N n8C n9P n9N n9C n10 n11 n12 n13P n13N n13C n14P n14N n14C n15P n15N n15C lP lN lC c0 c1 c2 c3 c4 c5 W R Φ J) : Calls Try.prog F.bounds_bound #[.agg #[.int .i64 n0, .slice n1P n1N n1C, .string n2, .int .i64 n3, .slice n4P n4N n4C, .int .i64 n5, .int .i64 n6, .int .i64 n7, .slice n8P n8N n8C, .slice n9P n9N n9C, .int .i64 n10, .int .i64 n11, .int .i64 n12, .slice n13P n13N n13C, .slice n14P n14N n14C, .slice n15P n15N n15C], .slice lP lN lC, .agg #[.int .i64 c0, .int .i64 c1, .int .i64 c2, .int .i64 c3, .int .i64 c4, .int .i64 c5]] w fun e w' => ∃ v, e = .returned v ∧ J v w' :=
  vcFS_sound (H := { keep := some [1, 3, 5, 6, 7, 8, 9, 10, 11, 14, 27, 28, 29, 30, 60, 93, 98, 106, 116, 126], wrap := [0], track := [3, 5, 6, 9, 11], stages := [(8, [.late [0, 2, 3, 8, 1, 4, 9, 5, 6, 7, 16] [0, 2, 3, 8, 10, 11, 1, 4, 9, 12, 5, 13, 6, 14, 7, 15, 16] [(17, [18]), (19, [])]]), (11, [.held [(0, true), (2, true), (3, true), (7, true), (9, true), (10, true), (15, true), (1, true), (4, true), (8, true), (11, true), (5, true), (12, true), (6, true), (13, true), (14, true), (16, true), (17, false), (18, false), (19, true)], .stage [] (some 20)]), (20, [.late [2, 5] [0, 3, 1, 4, 2, 5] [(6, [7]), (8, [])]]), (23, [.late [4, 2] [0, 3, 1, 4, 2] [(5, [6]), (7, [])]]), (25, [.held [(0, true), (3, true), (7, true), (9, true), (1, true), (4, true), (8, true), (10, true), (2, true), (5, true), (11, true), (12, true), (6, false), (13, false), (14, true)], .stage [] (some 15)])], loops := [(6, [(10, .one (.slice)), (29, .one (.int .i64))], [(9, .agg [.int .i64, .int .i64, .int .i64, .int .i64])])] }) (by rw [show vcFS Try.prog W { keep := some [1, 3, 5, 6, 7, 8, 9, 10, 11, 14, 27, 28, 29, 30, 60, 93, 98, 106, 116, 126], wrap := [0], track := [3, 5, 6, 9, 11], stages := [(8, [.late [0, 2, 3, 8, 1, 4, 9, 5, 6, 7, 16] [0, 2, 3, 8, 10, 11, 1, 4, 9, 12, 5, 13, 6, 14, 7, 15, 16] [(17, [18]), (19, [])]]), (11, [.held [(0, true), (2, true), (3, true), (7, true), (9, true), (10, true), (15, true), (1, true), (4, true), (8, true), (11, true), (5, true), (12, true), (6, true), (13, true), (14, true), (16, true), (17, false), (18, false), (19, true)], .stage [] (some 20)]), (20, [.late [2, 5] [0, 3, 1, 4, 2, 5] [(6, [7]), (8, [])]]), (23, [.late [4, 2] [0, 3, 1, 4, 2] [(5, [6]), (7, [])]]), (25, [.held [(0, true), (3, true), (7, true), (9, true), (1, true), (4, true), (8, true), (10, true), (2, true), (5, true), (11, true), (12, true), (6, false), (13, false), (14, true)], .stage [] (some 15)])], loops := [(6, [(10, .one (.slice)), (29, .one (.int .i64))], [(9, .agg [.int .i64, .int .i64, .int .i64, .int .i64])])] } F.bounds_bound #[.agg #[.int .i64 n0, .slice n1P n1N n1C, .string n2, .int .i64 n3, .slice n4P n4N n4C, .int .i64 n5, .int .i64 n6, .int .i64 n7, .slice n8P n8N n8C, .slice n9P n9N n9C, .int .i64 n10, .int .i64 n11, .int .i64 n12, .slice n13P n13N n13C, .slice n14P n14N n14C, .slice n15P n15N n15C], .slice lP lN lC, .agg #[.int .i64 c0, .int .i64 c1, .int .i64 c2, .int .i64 c3, .int .i64 c4, .int .i64 c5]] R Φ J = Bbounds_bound n0 n1P n1N n1C n2 n3 n4P n4N n4C n5 n6 n7 n8P n8N n8C n9P n9N n9C n10 n11 n12 n13P n13N n13C n14P n14N n14C n15P n15N n15C lP lN lC c0 c1 c2 c3 c4 c5 W R Φ J by kernel_rfl]; exact h) c

/-- bounds.of -/
-- known blocks: 2 
def Bbounds_of (op : Int) (W : World) (R : List Own) (Φ : PW) (J : Value → World → Prop) : Prop :=
  ∀ (b k0 : Nat) (w1 : World) (R2 : List Own), Ctx W w1 (Own.blk k0 [Value.int IntKind.i64 0, Value.nilFunc, Value.nilFunc, Value.bool false, Value.int IntKind.i64 0, Value.nilFunc,
  Value.nilFunc, Value.bool false, Value.int IntKind.i64 0, Value.nilFunc, Value.nilFunc, Value.bool false, Value.int IntKind.i64 0, Value.nilFunc, Value.nilFunc, Value.bool false, Value.int
  IntKind.i64 0, Value.nilFunc, Value.nilFunc, Value.bool false, Value.int IntKind.i64 0, Value.nilFunc, Value.nilFunc, Value.bool false, Value.int IntKind.i64 0, Value.nilFunc,
  Value.nilFunc, Value.bool false, Value.int IntKind.i64 0, Value.nilFunc, Value.nilFunc, Value.bool false, Value.int IntKind.i64 0, Value.nilFunc, Value.nilFunc, Value.bool false] 75 :: R ++
  R2) Φ → OneAll [Value.int IntKind.i64 0, Value.func (Fn.func 36) #[] #[], Value.func (Fn.func 37) #[] #[], Value.bool false, Value.int IntKind.i64 1, Value.func (Fn.func 36) #[] #[],
  Value.func (Fn.func 37) #[] #[], Value.bool false, Value.int IntKind.i64 1, Value.func (Fn.func 36) #[] #[], Value.func (Fn.func 37) #[] #[], Value.bool false, Value.int IntKind.i64 2,
  Value.func (Fn.func 36) #[] #[], Value.func (Fn.func 37) #[] #[], Value.bool false, Value.int IntKind.i64 1, Value.func (Fn.func 38) #[] #[], Value.func (Fn.func 39) #[] #[], Value.bool
  true, Value.int IntKind.i64 1, Value.func (Fn.func 40) #[] #[], Value.func (Fn.func 39) #[] #[], Value.bool true, Value.int IntKind.i64 2, Value.func (Fn.func 42) #[] #[], Value.func
  (Fn.func 43) #[] #[], Value.bool true, Value.int IntKind.i64 2, Value.func (Fn.func 44) #[] #[], Value.func (Fn.func 45) #[] #[], Value.bool true, Value.int IntKind.i64 1, Value.func
  (Fn.func 46) #[] #[], Value.func (Fn.func 47) #[] #[], Value.bool true] ∧ CanWrite w1 k0 0 36 ∧ ∀ (w3 : World), w3 = w1.setCells k0 0 [Value.int IntKind.i64 0, Value.func (Fn.func 36) #[]
  #[], Value.func (Fn.func 37) #[] #[], Value.bool false, Value.int IntKind.i64 1, Value.func (Fn.func 36) #[] #[], Value.func (Fn.func 37) #[] #[], Value.bool false, Value.int IntKind.i64 1,
  Value.func (Fn.func 36) #[] #[], Value.func (Fn.func 37) #[] #[], Value.bool false, Value.int IntKind.i64 2, Value.func (Fn.func 36) #[] #[], Value.func (Fn.func 37) #[] #[], Value.bool
  false, Value.int IntKind.i64 1, Value.func (Fn.func 38) #[] #[], Value.func (Fn.func 39) #[] #[], Value.bool true, Value.int IntKind.i64 1, Value.func (Fn.func 40) #[] #[], Value.func
  (Fn.func 39) #[] #[], Value.bool true, Value.int IntKind.i64 2, Value.func (Fn.func 42) #[] #[], Value.func (Fn.func 43) #[] #[], Value.bool true, Value.int IntKind.i64 2, Value.func
  (Fn.func 44) #[] #[], Value.func (Fn.func 45) #[] #[], Value.bool true, Value.int IntKind.i64 1, Value.func (Fn.func 46) #[] #[], Value.func (Fn.func 47) #[] #[], Value.bool true] → ∃ (R4 :
  List Own), ∃ (Φ5 : PW), Stable Φ5 ∧ Ctx W w3 (R4 ++ R2) Φ5 ∧ ∀ (w6 : World) (R7 : List Own), Ctx W w6 (R4 ++ R7) Φ5 → Calls Try.prog F.bounds_within #[Value.int IntKind.i64 op, Value.int
  IntKind.i64 0, Value.int IntKind.i64 8] w6 fun (e8 : Ending) (w9 : World) => ∃ (c10 : Bool), e8 = Ending.returned (Value.bool c10) ∧ ∃ (R11 : List Own), ∃ (Φ12 : PW), Stable Φ12 ∧ Ctx W w9
  (R11 ++ R7) Φ12 ∧ Br (!c10) (OneAll [Value.int IntKind.i64 0, Value.nilFunc, Value.nilFunc, Value.bool false] ∧ ∀ (w13 : World) (R14 : List Own), Ctx W w13 (R11 ++ R14) Φ12 → J (Value.tuple
  #[Value.agg #[Value.int IntKind.i64 0, Value.nilFunc, Value.nilFunc, Value.bool false], Value.bool false]) w13) ((0 ≤ op ∧ op < 9) ∧ ∀ (w15 : World) (R16 : List Own), Ctx W w15 (R11 ++ R16)
  Φ12 → ∃ (n17 : Int), ∃ (v18 : Value), ∃ (v19 : Value), ∃ (c20 : Bool), RowAt w15 k0 (0 + op.toNat * 4) [Value.int IntKind.i64 n17, v18, v19, Value.bool c20] ∧ OneAll [Value.int IntKind.i64
  n17, v18, v19, Value.bool c20] ∧ ∀ (w21 : World) (R22 : List Own), Ctx W w21 (R11 ++ R22) Φ12 → J (Value.tuple #[Value.agg #[Value.int IntKind.i64 n17, v18, v19, Value.bool c20], Value.bool
  true]) w21)

theorem Bbounds_of_run (op : Int) {W w : World} {R : List Own} {Φ : PW} [Stable Φ] {J : Value → World → Prop} (c : Ctx W w R Φ) (h : Bbounds_of op W R Φ J) : Calls Try.prog F.bounds_of #[.int .i64 op] w fun e w' => ∃ v, e = .returned v ∧ J v w' :=
  vcFS_sound (H := { keep := some [0, 2, 3, 4, 17], wrap := [0], track := [2] }) (by rw [show vcFS Try.prog W { keep := some [0, 2, 3, 4, 17], wrap := [0], track := [2] } F.bounds_of #[.int .i64 op] R Φ J = Bbounds_of op W R Φ J by kernel_rfl]; exact h) c

/-- bounds.within -/
def Bbounds_within (n : Int) (fromx : Int) (to : Int) (W : World) (R : List Own) (Φ : PW) (J : Value → World → Prop) : Prop :=
  ∀ (w0 : World) (R1 : List Own), Ctx W w0 (R ++ R1) Φ → ∀ (w2 : World) (R3 : List Own), Ctx W w2 (R ++ R3) Φ → J (Value.bool (decide (fromx ≤ n) && decide (n ≤ to))) w2

theorem Bbounds_within_run (n : Int) (fromx : Int) (to : Int) {W w : World} {R : List Own} {Φ : PW} [Stable Φ] {J : Value → World → Prop} (c : Ctx W w R Φ) (h : Bbounds_within n fromx to W R Φ J) : Calls Try.prog F.bounds_within #[.int .i64 n, .int .i64 fromx, .int .i64 to] w fun e w' => ∃ v, e = .returned v ∧ J v w' :=
  vcFS_sound (H := { keep := some [0, 1, 2, 6] }) (by rw [show vcFS Try.prog W { keep := some [0, 1, 2, 6] } F.bounds_within #[.int .i64 n, .int .i64 fromx, .int .i64 to] R Φ J = Bbounds_within n fromx to W R Φ J by kernel_rfl]; exact h) c

/-- bounds.plus -/
def Bbounds_plus (a : Int) (b : Int) (W : World) (R : List Own) (Φ : PW) (J : Value → World → Prop) : Prop :=
  I64 (a + b) ∧ ∀ (w0 : World) (R1 : List Own), Ctx W w0 (R ++ R1) Φ → J (Value.int IntKind.i64 (min (a + b) 1099511627776)) w0

theorem Bbounds_plus_run (a : Int) (b : Int) {W w : World} {R : List Own} {Φ : PW} [Stable Φ] {J : Value → World → Prop} (c : Ctx W w R Φ) (h : Bbounds_plus a b W R Φ J) : Calls Try.prog F.bounds_plus #[.int .i64 a, .int .i64 b] w fun e w' => ∃ v, e = .returned v ∧ J v w' :=
  vcFS_sound (H := { keep := some [0, 1, 4] }) (by rw [show vcFS Try.prog W { keep := some [0, 1, 4] } F.bounds_plus #[.int .i64 a, .int .i64 b] R Φ J = Bbounds_plus a b W R Φ J by kernel_rfl]; exact h) c

/-- bounds.times -/
def Bbounds_times (a : Int) (b : Int) (W : World) (R : List Own) (Φ : PW) (J : Value → World → Prop) : Prop :=
  ∀ (w0 : World) (R1 : List Own), Ctx W w0 (R ++ R1) Φ → (decide (a ≠ 0) = true → a ≠ 0) ∧ (decide (a ≠ 0) = true → I64 (Int.tdiv 1099511627776 a)) ∧ Br (decide (a ≠ 0) && decide (Int.tdiv
  1099511627776 a < b)) (∀ (w2 : World) (R3 : List Own), Ctx W w2 (R ++ R3) Φ → J (Value.int IntKind.i64 1099511627776) w2) (I64 (a * b) ∧ ∀ (w4 : World) (R5 : List Own), Ctx W w4 (R ++ R5) Φ
  → J (Value.int IntKind.i64 (a * b)) w4)

theorem Bbounds_times_run (a : Int) (b : Int) {W w : World} {R : List Own} {Φ : PW} [Stable Φ] {J : Value → World → Prop} (c : Ctx W w R Φ) (h : Bbounds_times a b W R Φ J) : Calls Try.prog F.bounds_times #[.int .i64 a, .int .i64 b] w fun e w' => ∃ v, e = .returned v ∧ J v w' :=
  vcFS_sound (H := { keep := some [0, 1, 4, 12] }) (by rw [show vcFS Try.prog W { keep := some [0, 1, 4, 12] } F.bounds_times #[.int .i64 a, .int .i64 b] R Φ J = Bbounds_times a b W R Φ J by kernel_rfl]; exact h) c

/-- bounds.always -/
-- known blocks: 1 
def Bbounds_always (x00 : Int) (x01P : Option Addr) (x01N x01C : Nat) (x02 : ByteArray) (x03 : Int) (x04P : Option Addr) (x04N x04C : Nat) (x05 : Int) (x06 : Int) (x07 : Int) (x08P : Option Addr) (x08N x08C : Nat) (x09P : Option Addr) (x09N x09C : Nat) (x010 : Int) (x011 : Int) (x012 : Int) (x013P : Option Addr) (x013N x013C : Nat) (x014P : Option Addr) (x014N x014C : Nat) (x015P : Option Addr) (x015N x015C : Nat) (W : World) (R : List Own) (Φ : PW) (J : Value → World → Prop) : Prop :=
  ∀ (b : Nat) (w0 : World) (R1 : List Own), Ctx W w0 (R ++ R1) Φ → J (Value.bool true) w0

theorem Bbounds_always_run (x00 : Int) (x01P : Option Addr) (x01N x01C : Nat) (x02 : ByteArray) (x03 : Int) (x04P : Option Addr) (x04N x04C : Nat) (x05 : Int) (x06 : Int) (x07 : Int) (x08P : Option Addr) (x08N x08C : Nat) (x09P : Option Addr) (x09N x09C : Nat) (x010 : Int) (x011 : Int) (x012 : Int) (x013P : Option Addr) (x013N x013C : Nat) (x014P : Option Addr) (x014N x014C : Nat) (x015P : Option Addr) (x015N x015C : Nat) {W w : World} {R : List Own} {Φ : PW} [Stable Φ] {J : Value → World → Prop} (c : Ctx W w R Φ) (h : Bbounds_always x00 x01P x01N x01C x02 x03 x04P x04N x04C x05 x06 x07 x08P x08N x08C x09P x09N x09C x010 x011 x012 x013P x013N x013C x014P x014N x014C x015P x015N x015C W R Φ J) : Calls Try.prog F.bounds_always #[.agg #[.int .i64 x00, .slice x01P x01N x01C, .string x02, .int .i64 x03, .slice x04P x04N x04C, .int .i64 x05, .int .i64 x06, .int .i64 x07, .slice x08P x08N x08C, .slice x09P x09N x09C, .int .i64 x010, .int .i64 x011, .int .i64 x012, .slice x013P x013N x013C, .slice x014P x014N x014C, .slice x015P x015N x015C]] w fun e w' => ∃ v, e = .returned v ∧ J v w' :=
  vcFS_sound (H := { keep := some [2], track := [1] }) (by rw [show vcFS Try.prog W { keep := some [2], track := [1] } F.bounds_always #[.agg #[.int .i64 x00, .slice x01P x01N x01C, .string x02, .int .i64 x03, .slice x04P x04N x04C, .int .i64 x05, .int .i64 x06, .int .i64 x07, .slice x08P x08N x08C, .slice x09P x09N x09C, .int .i64 x010, .int .i64 x011, .int .i64 x012, .slice x013P x013N x013C, .slice x014P x014N x014C, .slice x015P x015N x015C]] R Φ J = Bbounds_always x00 x01P x01N x01C x02 x03 x04P x04N x04C x05 x06 x07 x08P x08N x08C x09P x09N x09C x010 x011 x012 x013P x013N x013C x014P x014N x014C x015P x015N x015C W R Φ J by kernel_rfl]; exact h) c

/-- bounds.none -/
-- known blocks: 1 
def Bbounds_none (x00 : Int) (x01P : Option Addr) (x01N x01C : Nat) (x02 : ByteArray) (x03 : Int) (x04P : Option Addr) (x04N x04C : Nat) (x05 : Int) (x06 : Int) (x07 : Int) (x08P : Option Addr) (x08N x08C : Nat) (x09P : Option Addr) (x09N x09C : Nat) (x010 : Int) (x011 : Int) (x012 : Int) (x013P : Option Addr) (x013N x013C : Nat) (x014P : Option Addr) (x014N x014C : Nat) (x015P : Option Addr) (x015N x015C : Nat) (W : World) (R : List Own) (Φ : PW) (J : Value → World → Prop) : Prop :=
  ∀ (b : Nat) (w0 : World) (R1 : List Own), Ctx W w0 (R ++ R1) Φ → J (Value.tuple #[Value.int IntKind.i64 0, Value.int IntKind.i64 0]) w0

theorem Bbounds_none_run (x00 : Int) (x01P : Option Addr) (x01N x01C : Nat) (x02 : ByteArray) (x03 : Int) (x04P : Option Addr) (x04N x04C : Nat) (x05 : Int) (x06 : Int) (x07 : Int) (x08P : Option Addr) (x08N x08C : Nat) (x09P : Option Addr) (x09N x09C : Nat) (x010 : Int) (x011 : Int) (x012 : Int) (x013P : Option Addr) (x013N x013C : Nat) (x014P : Option Addr) (x014N x014C : Nat) (x015P : Option Addr) (x015N x015C : Nat) {W w : World} {R : List Own} {Φ : PW} [Stable Φ] {J : Value → World → Prop} (c : Ctx W w R Φ) (h : Bbounds_none x00 x01P x01N x01C x02 x03 x04P x04N x04C x05 x06 x07 x08P x08N x08C x09P x09N x09C x010 x011 x012 x013P x013N x013C x014P x014N x014C x015P x015N x015C W R Φ J) : Calls Try.prog F.bounds_none #[.agg #[.int .i64 x00, .slice x01P x01N x01C, .string x02, .int .i64 x03, .slice x04P x04N x04C, .int .i64 x05, .int .i64 x06, .int .i64 x07, .slice x08P x08N x08C, .slice x09P x09N x09C, .int .i64 x010, .int .i64 x011, .int .i64 x012, .slice x013P x013N x013C, .slice x014P x014N x014C, .slice x015P x015N x015C]] w fun e w' => ∃ v, e = .returned v ∧ J v w' :=
  vcFS_sound (H := { keep := some [2, 3], track := [1] }) (by rw [show vcFS Try.prog W { keep := some [2, 3], track := [1] } F.bounds_none #[.agg #[.int .i64 x00, .slice x01P x01N x01C, .string x02, .int .i64 x03, .slice x04P x04N x04C, .int .i64 x05, .int .i64 x06, .int .i64 x07, .slice x08P x08N x08C, .slice x09P x09N x09C, .int .i64 x010, .int .i64 x011, .int .i64 x012, .slice x013P x013N x013C, .slice x014P x014N x014C, .slice x015P x015N x015C]] R Φ J = Bbounds_none x00 x01P x01N x01C x02 x03 x04P x04N x04C x05 x06 x07 x08P x08N x08C x09P x09N x09C x010 x011 x012 x013P x013N x013C x014P x014N x014C x015P x015N x015C W R Φ J by kernel_rfl]; exact h) c

/-- bounds.window -/
-- known blocks: 1 n
def Bbounds_window (n0 : Int) (n1P : Option Addr) (n1N n1C : Nat) (n2 : ByteArray) (n3 : Int) (n4P : Option Addr) (n4N n4C : Nat) (n5 : Int) (n6 : Int) (n7 : Int) (n8P : Option Addr) (n8N n8C : Nat) (n9P : Option Addr) (n9N n9C : Nat) (n10 : Int) (n11 : Int) (n12 : Int) (n13P : Option Addr) (n13N n13C : Nat) (n14P : Option Addr) (n14N n14C : Nat) (n15P : Option Addr) (n15N n15C : Nat) (W : World) (R : List Own) (Φ : PW) (J : Value → World → Prop) : Prop :=
  ∀ (b : Nat), Br (decide (n5 = 0)) (∀ (w0 : World) (R1 : List Own), Ctx W w0 (R ++ R1) Φ → Calls Try.prog F.bounds_sized #[Value.agg #[Value.int IntKind.i64 n0, Value.slice n1P n1N n1C,
  Value.string n2, Value.int IntKind.i64 n3, Value.slice n4P n4N n4C, Value.int IntKind.i64 n5, Value.int IntKind.i64 n6, Value.int IntKind.i64 n7, Value.slice n8P n8N n8C, Value.slice n9P
  n9N n9C, Value.int IntKind.i64 n10, Value.int IntKind.i64 n11, Value.int IntKind.i64 n12, Value.slice n13P n13N n13C, Value.slice n14P n14N n14C, Value.slice n15P n15N n15C]] w0 fun (e2 :
  Ending) (w3 : World) => ∃ (c4 : Bool), e2 = Ending.returned (Value.bool c4) ∧ ∃ (R5 : List Own), ∃ (Φ6 : PW), Stable Φ6 ∧ Ctx W w3 (R5 ++ R1) Φ6 ∧ ∀ (w7 : World) (R8 : List Own), Ctx W w7
  (R5 ++ R8) Φ6 → J (Value.bool c4) w7) (Br (decide (n5 = 1)) (∀ (w9 : World) (R10 : List Own), Ctx W w9 (R ++ R10) Φ → Calls Try.prog F.bounds_sized #[Value.agg #[Value.int IntKind.i64 n0,
  Value.slice n1P n1N n1C, Value.string n2, Value.int IntKind.i64 n3, Value.slice n4P n4N n4C, Value.int IntKind.i64 n5, Value.int IntKind.i64 n6, Value.int IntKind.i64 n7, Value.slice n8P
  n8N n8C, Value.slice n9P n9N n9C, Value.int IntKind.i64 n10, Value.int IntKind.i64 n11, Value.int IntKind.i64 n12, Value.slice n13P n13N n13C, Value.slice n14P n14N n14C, Value.slice n15P
  n15N n15C]] w9 fun (e11 : Ending) (w12 : World) => ∃ (c13 : Bool), e11 = Ending.returned (Value.bool c13) ∧ ∃ (R14 : List Own), ∃ (Φ15 : PW), Stable Φ15 ∧ Ctx W w12 (R14 ++ R10) Φ15 ∧ Br
  c13 (Br (decide (0 < n7)) ((n7 = 0 → False) ∧ ∀ (w16 : World) (R17 : List Own), Ctx W w16 (R14 ++ R17) Φ15 → J (Value.bool (decide (n6.tmod n7 = 0))) w16) (∀ (w18 : World) (R19 : List Own),
  Ctx W w18 (R14 ++ R19) Φ15 → J (Value.bool false) w18)) (∀ (w20 : World) (R21 : List Own), Ctx W w20 (R14 ++ R21) Φ15 → J (Value.bool false) w20)) (Br (decide (n5 = 2)) (∀ (w22 : World)
  (R23 : List Own), Ctx W w22 (R ++ R23) Φ → Calls Try.prog F.bounds_sized #[Value.agg #[Value.int IntKind.i64 n0, Value.slice n1P n1N n1C, Value.string n2, Value.int IntKind.i64 n3,
  Value.slice n4P n4N n4C, Value.int IntKind.i64 n5, Value.int IntKind.i64 n6, Value.int IntKind.i64 n7, Value.slice n8P n8N n8C, Value.slice n9P n9N n9C, Value.int IntKind.i64 n10, Value.int
  IntKind.i64 n11, Value.int IntKind.i64 n12, Value.slice n13P n13N n13C, Value.slice n14P n14N n14C, Value.slice n15P n15N n15C]] w22 fun (e24 : Ending) (w25 : World) => ∃ (c26 : Bool), e24
  = Ending.returned (Value.bool c26) ∧ ∃ (R27 : List Own), ∃ (Φ28 : PW), Stable Φ28 ∧ Ctx W w25 (R27 ++ R23) Φ28 ∧ Br c26 (∀ (w29 : World) (R30 : List Own), Ctx W w29 (R27 ++ R30) Φ28 → Calls
  Try.prog F.bounds_within #[Value.int IntKind.i64 n7, Value.int IntKind.i64 1, Value.int IntKind.i64 n6] w29 fun (e31 : Ending) (w32 : World) => ∃ (c33 : Bool), e31 = Ending.returned
  (Value.bool c33) ∧ ∃ (R34 : List Own), ∃ (Φ35 : PW), Stable Φ35 ∧ Ctx W w32 (R34 ++ R30) Φ35 ∧ ∀ (w36 : World) (R37 : List Own), Ctx W w36 (R34 ++ R37) Φ35 → J (Value.bool c33) w36) (∀ (w38
  : World) (R39 : List Own), Ctx W w38 (R27 ++ R39) Φ28 → J (Value.bool false) w38)) (∀ (w40 : World) (R41 : List Own), Ctx W w40 (R ++ R41) Φ → J (Value.bool false) w40)))

theorem Bbounds_window_run (n0 : Int) (n1P : Option Addr) (n1N n1C : Nat) (n2 : ByteArray) (n3 : Int) (n4P : Option Addr) (n4N n4C : Nat) (n5 : Int) (n6 : Int) (n7 : Int) (n8P : Option Addr) (n8N n8C : Nat) (n9P : Option Addr) (n9N n9C : Nat) (n10 : Int) (n11 : Int) (n12 : Int) (n13P : Option Addr) (n13N n13C : Nat) (n14P : Option Addr) (n14N n14C : Nat) (n15P : Option Addr) (n15N n15C : Nat) {W w : World} {R : List Own} {Φ : PW} [Stable Φ] {J : Value → World → Prop} (c : Ctx W w R Φ) (h : Bbounds_window n0 n1P n1N n1C n2 n3 n4P n4N n4C n5 n6 n7 n8P n8N n8C n9P n9N n9C n10 n11 n12 n13P n13N n13C n14P n14N n14C n15P n15N n15C W R Φ J) : Calls Try.prog F.bounds_window #[.agg #[.int .i64 n0, .slice n1P n1N n1C, .string n2, .int .i64 n3, .slice n4P n4N n4C, .int .i64 n5, .int .i64 n6, .int .i64 n7, .slice n8P n8N n8C, .slice n9P n9N n9C, .int .i64 n10, .int .i64 n11, .int .i64 n12, .slice n13P n13N n13C, .slice n14P n14N n14C, .slice n15P n15N n15C]] w fun e w' => ∃ v, e = .returned v ∧ J v w' :=
  vcFS_sound (H := { keep := some [1, 2, 4, 5, 9, 26], track := [1], split := [5, 7] }) (by rw [show vcFS Try.prog W { keep := some [1, 2, 4, 5, 9, 26], track := [1], split := [5, 7] } F.bounds_window #[.agg #[.int .i64 n0, .slice n1P n1N n1C, .string n2, .int .i64 n3, .slice n4P n4N n4C, .int .i64 n5, .int .i64 n6, .int .i64 n7, .slice n8P n8N n8C, .slice n9P n9N n9C, .int .i64 n10, .int .i64 n11, .int .i64 n12, .slice n13P n13N n13C, .slice n14P n14N n14C, .slice n15P n15N n15C]] R Φ J = Bbounds_window n0 n1P n1N n1C n2 n3 n4P n4N n4C n5 n6 n7 n8P n8N n8C n9P n9N n9C n10 n11 n12 n13P n13N n13C n14P n14N n14C n15P n15N n15C W R Φ J by kernel_rfl]; exact h) c

/-- bounds.block -/
-- known blocks: 1 n
def Bbounds_block (n0 : Int) (n1P : Option Addr) (n1N n1C : Nat) (n2 : ByteArray) (n3 : Int) (n4P : Option Addr) (n4N n4C : Nat) (n5 : Int) (n6 : Int) (n7 : Int) (n8P : Option Addr) (n8N n8C : Nat) (n9P : Option Addr) (n9N n9C : Nat) (n10 : Int) (n11 : Int) (n12 : Int) (n13P : Option Addr) (n13N n13C : Nat) (n14P : Option Addr) (n14N n14C : Nat) (n15P : Option Addr) (n15N n15C : Nat) (W : World) (R : List Own) (Φ : PW) (J : Value → World → Prop) : Prop :=
  ∀ (b : Nat) (w0 : World) (R1 : List Own), Ctx W w0 (R ++ R1) Φ → Br (decide (n0 = 4) && decide (n5 = 2)) (∀ (w2 : World) (R3 : List Own), Ctx W w2 (R ++ R3) Φ → I64 (n6 - 1) ∧ I64 (n7 - 1)
  ∧ ∀ (w4 : World) (R5 : List Own), Ctx W w4 (R ++ R5) Φ → J (Value.tuple #[Value.int IntKind.i64 (n6 - 1), Value.int IntKind.i64 (n7 - 1)]) w4) (∀ (w6 : World) (R7 : List Own), Ctx W w6 (R
  ++ R7) Φ → I64 (n6 - 1) ∧ I64 (n6 - 1) ∧ ∀ (w8 : World) (R9 : List Own), Ctx W w8 (R ++ R9) Φ → J (Value.tuple #[Value.int IntKind.i64 (n6 - 1), Value.int IntKind.i64 (n6 - 1)]) w8)

theorem Bbounds_block_run (n0 : Int) (n1P : Option Addr) (n1N n1C : Nat) (n2 : ByteArray) (n3 : Int) (n4P : Option Addr) (n4N n4C : Nat) (n5 : Int) (n6 : Int) (n7 : Int) (n8P : Option Addr) (n8N n8C : Nat) (n9P : Option Addr) (n9N n9C : Nat) (n10 : Int) (n11 : Int) (n12 : Int) (n13P : Option Addr) (n13N n13C : Nat) (n14P : Option Addr) (n14N n14C : Nat) (n15P : Option Addr) (n15N n15C : Nat) {W w : World} {R : List Own} {Φ : PW} [Stable Φ] {J : Value → World → Prop} (c : Ctx W w R Φ) (h : Bbounds_block n0 n1P n1N n1C n2 n3 n4P n4N n4C n5 n6 n7 n8P n8N n8C n9P n9N n9C n10 n11 n12 n13P n13N n13C n14P n14N n14C n15P n15N n15C W R Φ J) : Calls Try.prog F.bounds_block #[.agg #[.int .i64 n0, .slice n1P n1N n1C, .string n2, .int .i64 n3, .slice n4P n4N n4C, .int .i64 n5, .int .i64 n6, .int .i64 n7, .slice n8P n8N n8C, .slice n9P n9N n9C, .int .i64 n10, .int .i64 n11, .int .i64 n12, .slice n13P n13N n13C, .slice n14P n14N n14C, .slice n15P n15N n15C]] w fun e w' => ∃ v, e = .returned v ∧ J v w' :=
  vcFS_sound (H := { keep := some [1, 2, 3, 11], track := [1] }) (by rw [show vcFS Try.prog W { keep := some [1, 2, 3, 11], track := [1] } F.bounds_block #[.agg #[.int .i64 n0, .slice n1P n1N n1C, .string n2, .int .i64 n3, .slice n4P n4N n4C, .int .i64 n5, .int .i64 n6, .int .i64 n7, .slice n8P n8N n8C, .slice n9P n9N n9C, .int .i64 n10, .int .i64 n11, .int .i64 n12, .slice n13P n13N n13C, .slice n14P n14N n14C, .slice n15P n15N n15C]] R Φ J = Bbounds_block n0 n1P n1N n1C n2 n3 n4P n4N n4C n5 n6 n7 n8P n8N n8C n9P n9N n9C n10 n11 n12 n13P n13N n13C n14P n14N n14C n15P n15N n15C W R Φ J by kernel_rfl]; exact h) c

/-- bounds.of$1 -/
-- known blocks: 1 n
def Bbounds_of_1 (n0 : Int) (n1P : Option Addr) (n1N n1C : Nat) (n2 : ByteArray) (n3 : Int) (n4P : Option Addr) (n4N n4C : Nat) (n5 : Int) (n6 : Int) (n7 : Int) (n8P : Option Addr) (n8N n8C : Nat) (n9P : Option Addr) (n9N n9C : Nat) (n10 : Int) (n11 : Int) (n12 : Int) (n13P : Option Addr) (n13N n13C : Nat) (n14P : Option Addr) (n14N n14C : Nat) (n15P : Option Addr) (n15N n15C : Nat) (W : World) (R : List Own) (Φ : PW) (J : Value → World → Prop) : Prop :=
  ∀ (b : Nat) (w0 : World) (R1 : List Own), Ctx W w0 (R ++ R1) Φ → Calls Try.prog F.bounds_sized #[Value.agg #[Value.int IntKind.i64 n0, Value.slice n1P n1N n1C, Value.string n2, Value.int
  IntKind.i64 n3, Value.slice n4P n4N n4C, Value.int IntKind.i64 n5, Value.int IntKind.i64 n6, Value.int IntKind.i64 n7, Value.slice n8P n8N n8C, Value.slice n9P n9N n9C, Value.int
  IntKind.i64 n10, Value.int IntKind.i64 n11, Value.int IntKind.i64 n12, Value.slice n13P n13N n13C, Value.slice n14P n14N n14C, Value.slice n15P n15N n15C]] w0 fun (e2 : Ending) (w3 : World)
  => ∃ (c4 : Bool), e2 = Ending.returned (Value.bool c4) ∧ ∃ (R5 : List Own), ∃ (Φ6 : PW), Stable Φ6 ∧ Ctx W w3 (R5 ++ R1) Φ6 ∧ Br c4 (∀ (w7 : World) (R8 : List Own), Ctx W w7 (R5 ++ R8) Φ6 →
  Calls Try.prog F.bounds_within #[Value.int IntKind.i64 n12, Value.int IntKind.i64 1, Value.int IntKind.i64 100] w7 fun (e9 : Ending) (w10 : World) => ∃ (c11 : Bool), e9 = Ending.returned
  (Value.bool c11) ∧ ∃ (R12 : List Own), ∃ (Φ13 : PW), Stable Φ13 ∧ Ctx W w10 (R12 ++ R8) Φ13 ∧ ∀ (w14 : World) (R15 : List Own), Ctx W w14 (R12 ++ R15) Φ13 → J (Value.bool c11) w14) (∀ (w16
  : World) (R17 : List Own), Ctx W w16 (R5 ++ R17) Φ6 → J (Value.bool false) w16)

theorem Bbounds_of_1_run (n0 : Int) (n1P : Option Addr) (n1N n1C : Nat) (n2 : ByteArray) (n3 : Int) (n4P : Option Addr) (n4N n4C : Nat) (n5 : Int) (n6 : Int) (n7 : Int) (n8P : Option Addr) (n8N n8C : Nat) (n9P : Option Addr) (n9N n9C : Nat) (n10 : Int) (n11 : Int) (n12 : Int) (n13P : Option Addr) (n13N n13C : Nat) (n14P : Option Addr) (n14N n14C : Nat) (n15P : Option Addr) (n15N n15C : Nat) {W w : World} {R : List Own} {Φ : PW} [Stable Φ] {J : Value → World → Prop} (c : Ctx W w R Φ) (h : Bbounds_of_1 n0 n1P n1N n1C n2 n3 n4P n4N n4C n5 n6 n7 n8P n8N n8C n9P n9N n9C n10 n11 n12 n13P n13N n13C n14P n14N n14C n15P n15N n15C W R Φ J) : Calls Try.prog F.bounds_of_1 #[.agg #[.int .i64 n0, .slice n1P n1N n1C, .string n2, .int .i64 n3, .slice n4P n4N n4C, .int .i64 n5, .int .i64 n6, .int .i64 n7, .slice n8P n8N n8C, .slice n9P n9N n9C, .int .i64 n10, .int .i64 n11, .int .i64 n12, .slice n13P n13N n13C, .slice n14P n14N n14C, .slice n15P n15N n15C]] w fun e w' => ∃ v, e = .returned v ∧ J v w' :=
  vcFS_sound (H := { keep := some [1, 2], track := [1], split := [1] }) (by rw [show vcFS Try.prog W { keep := some [1, 2], track := [1], split := [1] } F.bounds_of_1 #[.agg #[.int .i64 n0, .slice n1P n1N n1C, .string n2, .int .i64 n3, .slice n4P n4N n4C, .int .i64 n5, .int .i64 n6, .int .i64 n7, .slice n8P n8N n8C, .slice n9P n9N n9C, .int .i64 n10, .int .i64 n11, .int .i64 n12, .slice n13P n13N n13C, .slice n14P n14N n14C, .slice n15P n15N n15C]] R Φ J = Bbounds_of_1 n0 n1P n1N n1C n2 n3 n4P n4N n4C n5 n6 n7 n8P n8N n8C n9P n9N n9C n10 n11 n12 n13P n13N n13C n14P n14N n14C n15P n15N n15C W R Φ J by kernel_rfl]; exact h) c

/-- bounds.sized -/
-- known blocks: 1 n
def Bbounds_sized (n0 : Int) (n1P : Option Addr) (n1N n1C : Nat) (n2 : ByteArray) (n3 : Int) (n4P : Option Addr) (n4N n4C : Nat) (n5 : Int) (n6 : Int) (n7 : Int) (n8P : Option Addr) (n8N n8C : Nat) (n9P : Option Addr) (n9N n9C : Nat) (n10 : Int) (n11 : Int) (n12 : Int) (n13P : Option Addr) (n13N n13C : Nat) (n14P : Option Addr) (n14N n14C : Nat) (n15P : Option Addr) (n15N n15C : Nat) (W : World) (R : List Own) (Φ : PW) (J : Value → World → Prop) : Prop :=
  ∀ (b : Nat) (w0 : World) (R1 : List Own), Ctx W w0 (R ++ R1) Φ → Calls Try.prog F.bounds_within #[Value.int IntKind.i64 n6, Value.int IntKind.i64 1, Value.int IntKind.i64 10000] w0 fun (e2
  : Ending) (w3 : World) => ∃ (c4 : Bool), e2 = Ending.returned (Value.bool c4) ∧ ∃ (R5 : List Own), ∃ (Φ6 : PW), Stable Φ6 ∧ Ctx W w3 (R5 ++ R1) Φ6 ∧ ∀ (w7 : World) (R8 : List Own), Ctx W w7
  (R5 ++ R8) Φ6 → J (Value.bool c4) w7

theorem Bbounds_sized_run (n0 : Int) (n1P : Option Addr) (n1N n1C : Nat) (n2 : ByteArray) (n3 : Int) (n4P : Option Addr) (n4N n4C : Nat) (n5 : Int) (n6 : Int) (n7 : Int) (n8P : Option Addr) (n8N n8C : Nat) (n9P : Option Addr) (n9N n9C : Nat) (n10 : Int) (n11 : Int) (n12 : Int) (n13P : Option Addr) (n13N n13C : Nat) (n14P : Option Addr) (n14N n14C : Nat) (n15P : Option Addr) (n15N n15C : Nat) {W w : World} {R : List Own} {Φ : PW} [Stable Φ] {J : Value → World → Prop} (c : Ctx W w R Φ) (h : Bbounds_sized n0 n1P n1N n1C n2 n3 n4P n4N n4C n5 n6 n7 n8P n8N n8C n9P n9N n9C n10 n11 n12 n13P n13N n13C n14P n14N n14C n15P n15N n15C W R Φ J) : Calls Try.prog F.bounds_sized #[.agg #[.int .i64 n0, .slice n1P n1N n1C, .string n2, .int .i64 n3, .slice n4P n4N n4C, .int .i64 n5, .int .i64 n6, .int .i64 n7, .slice n8P n8N n8C, .slice n9P n9N n9C, .int .i64 n10, .int .i64 n11, .int .i64 n12, .slice n13P n13N n13C, .slice n14P n14N n14C, .slice n15P n15N n15C]] w fun e w' => ∃ v, e = .returned v ∧ J v w' :=
  vcFS_sound (H := { keep := some [1, 2], track := [1] }) (by rw [show vcFS Try.prog W { keep := some [1, 2], track := [1] } F.bounds_sized #[.agg #[.int .i64 n0, .slice n1P n1N n1C, .string n2, .int .i64 n3, .slice n4P n4N n4C, .int .i64 n5, .int .i64 n6, .int .i64 n7, .slice n8P n8N n8C, .slice n9P n9N n9C, .int .i64 n10, .int .i64 n11, .int .i64 n12, .slice n13P n13N n13C, .slice n14P n14N n14C, .slice n15P n15N n15C]] R Φ J = Bbounds_sized n0 n1P n1N n1C n2 n3 n4P n4N n4C n5 n6 n7 n8P n8N n8C n9P n9N n9C n10 n11 n12 n13P n13N n13C n14P n14N n14C n15P n15N n15C W R Φ J by kernel_rfl]; exact h) c

/-- bounds.of$2 -/
-- known blocks: 1 n
def Bbounds_of_2 (n0 : Int) (n1P : Option Addr) (n1N n1C : Nat) (n2 : ByteArray) (n3 : Int) (n4P : Option Addr) (n4N n4C : Nat) (n5 : Int) (n6 : Int) (n7 : Int) (n8P : Option Addr) (n8N n8C : Nat) (n9P : Option Addr) (n9N n9C : Nat) (n10 : Int) (n11 : Int) (n12 : Int) (n13P : Option Addr) (n13N n13C : Nat) (n14P : Option Addr) (n14N n14C : Nat) (n15P : Option Addr) (n15N n15C : Nat) (W : World) (R : List Own) (Φ : PW) (J : Value → World → Prop) : Prop :=
  ∀ (b : Nat) (w0 : World) (R1 : List Own), Ctx W w0 (R ++ R1) Φ → ∃ (c2 : Bool), (∀ (w3 : World), w3 = w0 → Calls Try.prog F.bounds_within #[Value.int IntKind.i64 n10, Value.int IntKind.i64
  0, Value.int IntKind.i64 10000] w3 fun (e4 : Ending) (w5 : World) => e4 = Ending.returned (Value.bool c2) ∧ w5 = w0) ∧ ∃ (c6 : Bool), (c2 = true → ∀ (w7 : World), w7 = w0 → Calls Try.prog
  F.bounds_within #[Value.int IntKind.i64 n11, Value.int IntKind.i64 0, Value.int IntKind.i64 10000] w7 fun (e8 : Ending) (w9 : World) => e8 = Ending.returned (Value.bool c6) ∧ w9 = w0) ∧ ∀
  (w10 : World) (R11 : List Own), Ctx W w10 (R ++ R11) Φ → J (Value.bool (c2 && c6)) w10

theorem Bbounds_of_2_run (n0 : Int) (n1P : Option Addr) (n1N n1C : Nat) (n2 : ByteArray) (n3 : Int) (n4P : Option Addr) (n4N n4C : Nat) (n5 : Int) (n6 : Int) (n7 : Int) (n8P : Option Addr) (n8N n8C : Nat) (n9P : Option Addr) (n9N n9C : Nat) (n10 : Int) (n11 : Int) (n12 : Int) (n13P : Option Addr) (n13N n13C : Nat) (n14P : Option Addr) (n14N n14C : Nat) (n15P : Option Addr) (n15N n15C : Nat) {W w : World} {R : List Own} {Φ : PW} [Stable Φ] {J : Value → World → Prop} (c : Ctx W w R Φ) (h : Bbounds_of_2 n0 n1P n1N n1C n2 n3 n4P n4N n4C n5 n6 n7 n8P n8N n8C n9P n9N n9C n10 n11 n12 n13P n13N n13C n14P n14N n14C n15P n15N n15C W R Φ J) : Calls Try.prog F.bounds_of_2 #[.agg #[.int .i64 n0, .slice n1P n1N n1C, .string n2, .int .i64 n3, .slice n4P n4N n4C, .int .i64 n5, .int .i64 n6, .int .i64 n7, .slice n8P n8N n8C, .slice n9P n9N n9C, .int .i64 n10, .int .i64 n11, .int .i64 n12, .slice n13P n13N n13C, .slice n14P n14N n14C, .slice n15P n15N n15C]] w fun e w' => ∃ v, e = .returned v ∧ J v w' :=
  vcFS_sound (H := { keep := some [1, 2], track := [1] }) (by rw [show vcFS Try.prog W { keep := some [1, 2], track := [1] } F.bounds_of_2 #[.agg #[.int .i64 n0, .slice n1P n1N n1C, .string n2, .int .i64 n3, .slice n4P n4N n4C, .int .i64 n5, .int .i64 n6, .int .i64 n7, .slice n8P n8N n8C, .slice n9P n9N n9C, .int .i64 n10, .int .i64 n11, .int .i64 n12, .slice n13P n13N n13C, .slice n14P n14N n14C, .slice n15P n15N n15C]] R Φ J = Bbounds_of_2 n0 n1P n1N n1C n2 n3 n4P n4N n4C n5 n6 n7 n8P n8N n8C n9P n9N n9C n10 n11 n12 n13P n13N n13C n14P n14N n14C n15P n15N n15C W R Φ J by kernel_rfl]; exact h) c

/-- bounds.of$3 -/
-- known blocks: 1 n
def Bbounds_of_3 (n0 : Int) (n1P : Option Addr) (n1N n1C : Nat) (n2 : ByteArray) (n3 : Int) (n4P : Option Addr) (n4N n4C : Nat) (n5 : Int) (n6 : Int) (n7 : Int) (n8P : Option Addr) (n8N n8C : Nat) (n9P : Option Addr) (n9N n9C : Nat) (n10 : Int) (n11 : Int) (n12 : Int) (n13P : Option Addr) (n13N n13C : Nat) (n14P : Option Addr) (n14N n14C : Nat) (n15P : Option Addr) (n15N n15C : Nat) (W : World) (R : List Own) (Φ : PW) (J : Value → World → Prop) : Prop :=
  ∀ (b : Nat) (w0 : World) (R1 : List Own), Ctx W w0 (R ++ R1) Φ → J (Value.tuple #[Value.int IntKind.i64 (max n10 n11), Value.int IntKind.i64 0]) w0

theorem Bbounds_of_3_run (n0 : Int) (n1P : Option Addr) (n1N n1C : Nat) (n2 : ByteArray) (n3 : Int) (n4P : Option Addr) (n4N n4C : Nat) (n5 : Int) (n6 : Int) (n7 : Int) (n8P : Option Addr) (n8N n8C : Nat) (n9P : Option Addr) (n9N n9C : Nat) (n10 : Int) (n11 : Int) (n12 : Int) (n13P : Option Addr) (n13N n13C : Nat) (n14P : Option Addr) (n14N n14C : Nat) (n15P : Option Addr) (n15N n15C : Nat) {W w : World} {R : List Own} {Φ : PW} [Stable Φ] {J : Value → World → Prop} (c : Ctx W w R Φ) (h : Bbounds_of_3 n0 n1P n1N n1C n2 n3 n4P n4N n4C n5 n6 n7 n8P n8N n8C n9P n9N n9C n10 n11 n12 n13P n13N n13C n14P n14N n14C n15P n15N n15C W R Φ J) : Calls Try.prog F.bounds_of_3 #[.agg #[.int .i64 n0, .slice n1P n1N n1C, .string n2, .int .i64 n3, .slice n4P n4N n4C, .int .i64 n5, .int .i64 n6, .int .i64 n7, .slice n8P n8N n8C, .slice n9P n9N n9C, .int .i64 n10, .int .i64 n11, .int .i64 n12, .slice n13P n13N n13C, .slice n14P n14N n14C, .slice n15P n15N n15C]] w fun e w' => ∃ v, e = .returned v ∧ J v w' :=
  vcFS_sound (H := { keep := some [1, 2, 3], track := [1] }) (by rw [show vcFS Try.prog W { keep := some [1, 2, 3], track := [1] } F.bounds_of_3 #[.agg #[.int .i64 n0, .slice n1P n1N n1C, .string n2, .int .i64 n3, .slice n4P n4N n4C, .int .i64 n5, .int .i64 n6, .int .i64 n7, .slice n8P n8N n8C, .slice n9P n9N n9C, .int .i64 n10, .int .i64 n11, .int .i64 n12, .slice n13P n13N n13C, .slice n14P n14N n14C, .slice n15P n15N n15C]] R Φ J = Bbounds_of_3 n0 n1P n1N n1C n2 n3 n4P n4N n4C n5 n6 n7 n8P n8N n8C n9P n9N n9C n10 n11 n12 n13P n13N n13C n14P n14N n14C n15P n15N n15C W R Φ J by kernel_rfl]; exact h) c

/-- bounds.of$4 -/
-- known blocks: 1 n
def Bbounds_of_4 (n0 : Int) (n1P : Option Addr) (n1N n1C : Nat) (n2 : ByteArray) (n3 : Int) (n4P : Option Addr) (n4N n4C : Nat) (n5 : Int) (n6 : Int) (n7 : Int) (n8P : Option Addr) (n8N n8C : Nat) (n9P : Option Addr) (n9N n9C : Nat) (n10 : Int) (n11 : Int) (n12 : Int) (n13P : Option Addr) (n13N n13C : Nat) (n14P : Option Addr) (n14N n14C : Nat) (n15P : Option Addr) (n15N n15C : Nat) (W : World) (R : List Own) (Φ : PW) (J : Value → World → Prop) : Prop :=
  ∀ (b : Nat) (w0 : World) (R1 : List Own), Ctx W w0 (R ++ R1) Φ → Calls Try.prog F.bounds_within #[Value.int IntKind.i64 n12, Value.int IntKind.i64 1, Value.int IntKind.i64 10000] w0 fun (e2
  : Ending) (w3 : World) => ∃ (c4 : Bool), e2 = Ending.returned (Value.bool c4) ∧ ∃ (R5 : List Own), ∃ (Φ6 : PW), Stable Φ6 ∧ Ctx W w3 (R5 ++ R1) Φ6 ∧ ∀ (w7 : World) (R8 : List Own), Ctx W w7
  (R5 ++ R8) Φ6 → J (Value.bool c4) w7

theorem Bbounds_of_4_run (n0 : Int) (n1P : Option Addr) (n1N n1C : Nat) (n2 : ByteArray) (n3 : Int) (n4P : Option Addr) (n4N n4C : Nat) (n5 : Int) (n6 : Int) (n7 : Int) (n8P : Option Addr) (n8N n8C : Nat) (n9P : Option Addr) (n9N n9C : Nat) (n10 : Int) (n11 : Int) (n12 : Int) (n13P : Option Addr) (n13N n13C : Nat) (n14P : Option Addr) (n14N n14C : Nat) (n15P : Option Addr) (n15N n15C : Nat) {W w : World} {R : List Own} {Φ : PW} [Stable Φ] {J : Value → World → Prop} (c : Ctx W w R Φ) (h : Bbounds_of_4 n0 n1P n1N n1C n2 n3 n4P n4N n4C n5 n6 n7 n8P n8N n8C n9P n9N n9C n10 n11 n12 n13P n13N n13C n14P n14N n14C n15P n15N n15C W R Φ J) : Calls Try.prog F.bounds_of_4 #[.agg #[.int .i64 n0, .slice n1P n1N n1C, .string n2, .int .i64 n3, .slice n4P n4N n4C, .int .i64 n5, .int .i64 n6, .int .i64 n7, .slice n8P n8N n8C, .slice n9P n9N n9C, .int .i64 n10, .int .i64 n11, .int .i64 n12, .slice n13P n13N n13C, .slice n14P n14N n14C, .slice n15P n15N n15C]] w fun e w' => ∃ v, e = .returned v ∧ J v w' :=
  vcFS_sound (H := { keep := some [1, 2], track := [1] }) (by rw [show vcFS Try.prog W { keep := some [1, 2], track := [1] } F.bounds_of_4 #[.agg #[.int .i64 n0, .slice n1P n1N n1C, .string n2, .int .i64 n3, .slice n4P n4N n4C, .int .i64 n5, .int .i64 n6, .int .i64 n7, .slice n8P n8N n8C, .slice n9P n9N n9C, .int .i64 n10, .int .i64 n11, .int .i64 n12, .slice n13P n13N n13C, .slice n14P n14N n14C, .slice n15P n15N n15C]] R Φ J = Bbounds_of_4 n0 n1P n1N n1C n2 n3 n4P n4N n4C n5 n6 n7 n8P n8N n8C n9P n9N n9C n10 n11 n12 n13P n13N n13C n14P n14N n14C n15P n15N n15C W R Φ J by kernel_rfl]; exact h) c

/-- bounds.of$5 -/
-- known blocks: 1 n
def Bbounds_of_5 (n0 : Int) (n1P : Option Addr) (n1N n1C : Nat) (n2 : ByteArray) (n3 : Int) (n4P : Option Addr) (n4N n4C : Nat) (n5 : Int) (n6 : Int) (n7 : Int) (n8P : Option Addr) (n8N n8C : Nat) (n9P : Option Addr) (n9N n9C : Nat) (n10 : Int) (n11 : Int) (n12 : Int) (n13P : Option Addr) (n13N n13C : Nat) (n14P : Option Addr) (n14N n14C : Nat) (n15P : Option Addr) (n15N n15C : Nat) (W : World) (R : List Own) (Φ : PW) (J : Value → World → Prop) : Prop :=
  ∀ (b : Nat), I64 (n12 - 1) ∧ ∀ (w0 : World) (R1 : List Own), Ctx W w0 (R ++ R1) Φ → J (Value.tuple #[Value.int IntKind.i64 (n12 - 1), Value.int IntKind.i64 0]) w0

theorem Bbounds_of_5_run (n0 : Int) (n1P : Option Addr) (n1N n1C : Nat) (n2 : ByteArray) (n3 : Int) (n4P : Option Addr) (n4N n4C : Nat) (n5 : Int) (n6 : Int) (n7 : Int) (n8P : Option Addr) (n8N n8C : Nat) (n9P : Option Addr) (n9N n9C : Nat) (n10 : Int) (n11 : Int) (n12 : Int) (n13P : Option Addr) (n13N n13C : Nat) (n14P : Option Addr) (n14N n14C : Nat) (n15P : Option Addr) (n15N n15C : Nat) {W w : World} {R : List Own} {Φ : PW} [Stable Φ] {J : Value → World → Prop} (c : Ctx W w R Φ) (h : Bbounds_of_5 n0 n1P n1N n1C n2 n3 n4P n4N n4C n5 n6 n7 n8P n8N n8C n9P n9N n9C n10 n11 n12 n13P n13N n13C n14P n14N n14C n15P n15N n15C W R Φ J) : Calls Try.prog F.bounds_of_5 #[.agg #[.int .i64 n0, .slice n1P n1N n1C, .string n2, .int .i64 n3, .slice n4P n4N n4C, .int .i64 n5, .int .i64 n6, .int .i64 n7, .slice n8P n8N n8C, .slice n9P n9N n9C, .int .i64 n10, .int .i64 n11, .int .i64 n12, .slice n13P n13N n13C, .slice n14P n14N n14C, .slice n15P n15N n15C]] w fun e w' => ∃ v, e = .returned v ∧ J v w' :=
  vcFS_sound (H := { keep := some [1, 2, 3], track := [1] }) (by rw [show vcFS Try.prog W { keep := some [1, 2, 3], track := [1] } F.bounds_of_5 #[.agg #[.int .i64 n0, .slice n1P n1N n1C, .string n2, .int .i64 n3, .slice n4P n4N n4C, .int .i64 n5, .int .i64 n6, .int .i64 n7, .slice n8P n8N n8C, .slice n9P n9N n9C, .int .i64 n10, .int .i64 n11, .int .i64 n12, .slice n13P n13N n13C, .slice n14P n14N n14C, .slice n15P n15N n15C]] R Φ J = Bbounds_of_5 n0 n1P n1N n1C n2 n3 n4P n4N n4C n5 n6 n7 n8P n8N n8C n9P n9N n9C n10 n11 n12 n13P n13N n13C n14P n14N n14C n15P n15N n15C W R Φ J by kernel_rfl]; exact h) c

/-- bounds.of$6 -/
-- known blocks: 1 n
def Bbounds_of_6 (n0 : Int) (n1P : Option Addr) (n1N n1C : Nat) (n2 : ByteArray) (n3 : Int) (n4P : Option Addr) (n4N n4C : Nat) (n5 : Int) (n6 : Int) (n7 : Int) (n8P : Option Addr) (n8N n8C : Nat) (n9P : Option Addr) (n9N n9C : Nat) (n10 : Int) (n11 : Int) (n12 : Int) (n13P : Option Addr) (n13N n13C : Nat) (n14P : Option Addr) (n14N n14C : Nat) (n15P : Option Addr) (n15N n15C : Nat) (W : World) (R : List Own) (Φ : PW) (J : Value → World → Prop) : Prop :=
  ∀ (b : Nat) (w0 : World) (R1 : List Own), Ctx W w0 (R ++ R1) Φ → Calls Try.prog F.bounds_sized #[Value.agg #[Value.int IntKind.i64 n0, Value.slice n1P n1N n1C, Value.string n2, Value.int
  IntKind.i64 n3, Value.slice n4P n4N n4C, Value.int IntKind.i64 n5, Value.int IntKind.i64 n6, Value.int IntKind.i64 n7, Value.slice n8P n8N n8C, Value.slice n9P n9N n9C, Value.int
  IntKind.i64 n10, Value.int IntKind.i64 n11, Value.int IntKind.i64 n12, Value.slice n13P n13N n13C, Value.slice n14P n14N n14C, Value.slice n15P n15N n15C]] w0 fun (e2 : Ending) (w3 : World)
  => ∃ (c4 : Bool), e2 = Ending.returned (Value.bool c4) ∧ ∃ (R5 : List Own), ∃ (Φ6 : PW), Stable Φ6 ∧ Ctx W w3 (R5 ++ R1) Φ6 ∧ Br c4 (∀ (w7 : World) (R8 : List Own), Ctx W w7 (R5 ++ R8) Φ6 →
  Calls Try.prog F.bounds_within #[Value.int IntKind.i64 (↑n14N : Int), Value.int IntKind.i64 1, Value.int IntKind.i64 8] w7 fun (e9 : Ending) (w10 : World) => ∃ (c11 : Bool), e9 =
  Ending.returned (Value.bool c11) ∧ ∃ (R12 : List Own), ∃ (Φ13 : PW), Stable Φ13 ∧ Ctx W w10 (R12 ++ R8) Φ13 ∧ ∀ (w14 : World) (R15 : List Own), Ctx W w14 (R12 ++ R15) Φ13 → J (Value.bool
  c11) w14) (∀ (w16 : World) (R17 : List Own), Ctx W w16 (R5 ++ R17) Φ6 → J (Value.bool false) w16)

theorem Bbounds_of_6_run (n0 : Int) (n1P : Option Addr) (n1N n1C : Nat) (n2 : ByteArray) (n3 : Int) (n4P : Option Addr) (n4N n4C : Nat) (n5 : Int) (n6 : Int) (n7 : Int) (n8P : Option Addr) (n8N n8C : Nat) (n9P : Option Addr) (n9N n9C : Nat) (n10 : Int) (n11 : Int) (n12 : Int) (n13P : Option Addr) (n13N n13C : Nat) (n14P : Option Addr) (n14N n14C : Nat) (n15P : Option Addr) (n15N n15C : Nat) {W w : World} {R : List Own} {Φ : PW} [Stable Φ] {J : Value → World → Prop} (c : Ctx W w R Φ) (h : Bbounds_of_6 n0 n1P n1N n1C n2 n3 n4P n4N n4C n5 n6 n7 n8P n8N n8C n9P n9N n9C n10 n11 n12 n13P n13N n13C n14P n14N n14C n15P n15N n15C W R Φ J) : Calls Try.prog F.bounds_of_6 #[.agg #[.int .i64 n0, .slice n1P n1N n1C, .string n2, .int .i64 n3, .slice n4P n4N n4C, .int .i64 n5, .int .i64 n6, .int .i64 n7, .slice n8P n8N n8C, .slice n9P n9N n9C, .int .i64 n10, .int .i64 n11, .int .i64 n12, .slice n13P n13N n13C, .slice n14P n14N n14C, .slice n15P n15N n15C]] w fun e w' => ∃ v, e = .returned v ∧ J v w' :=
  vcFS_sound (H := { keep := some [1, 2], track := [1], split := [1] }) (by rw [show vcFS Try.prog W { keep := some [1, 2], track := [1], split := [1] } F.bounds_of_6 #[.agg #[.int .i64 n0, .slice n1P n1N n1C, .string n2, .int .i64 n3, .slice n4P n4N n4C, .int .i64 n5, .int .i64 n6, .int .i64 n7, .slice n8P n8N n8C, .slice n9P n9N n9C, .int .i64 n10, .int .i64 n11, .int .i64 n12, .slice n13P n13N n13C, .slice n14P n14N n14C, .slice n15P n15N n15C]] R Φ J = Bbounds_of_6 n0 n1P n1N n1C n2 n3 n4P n4N n4C n5 n6 n7 n8P n8N n8C n9P n9N n9C n10 n11 n12 n13P n13N n13C n14P n14N n14C n15P n15N n15C W R Φ J by kernel_rfl]; exact h) c

/-- bounds.of$7 -/
-- known blocks: 1 n
def Bbounds_of_7 (n0 : Int) (n1P : Option Addr) (n1N n1C : Nat) (n2 : ByteArray) (n3 : Int) (n4P : Option Addr) (n4N n4C : Nat) (n5 : Int) (n6 : Int) (n7 : Int) (n8P : Option Addr) (n8N n8C : Nat) (n9P : Option Addr) (n9N n9C : Nat) (n10 : Int) (n11 : Int) (n12 : Int) (n13P : Option Addr) (n13N n13C : Nat) (n14P : Option Addr) (n14N n14C : Nat) (n15P : Option Addr) (n15N n15C : Nat) (W : World) (R : List Own) (Φ : PW) (J : Value → World → Prop) : Prop :=
  ∀ (b : Nat), I64 (n6 - 1) ∧ ∀ (w0 : World) (R1 : List Own), Ctx W w0 (R ++ R1) Φ → J (Value.tuple #[Value.int IntKind.i64 (n6 - 1), Value.int IntKind.i64 0]) w0

theorem Bbounds_of_7_run (n0 : Int) (n1P : Option Addr) (n1N n1C : Nat) (n2 : ByteArray) (n3 : Int) (n4P : Option Addr) (n4N n4C : Nat) (n5 : Int) (n6 : Int) (n7 : Int) (n8P : Option Addr) (n8N n8C : Nat) (n9P : Option Addr) (n9N n9C : Nat) (n10 : Int) (n11 : Int) (n12 : Int) (n13P : Option Addr) (n13N n13C : Nat) (n14P : Option Addr) (n14N n14C : Nat) (n15P : Option Addr) (n15N n15C : Nat) {W w : World} {R : List Own} {Φ : PW} [Stable Φ] {J : Value → World → Prop} (c : Ctx W w R Φ) (h : Bbounds_of_7 n0 n1P n1N n1C n2 n3 n4P n4N n4C n5 n6 n7 n8P n8N n8C n9P n9N n9C n10 n11 n12 n13P n13N n13C n14P n14N n14C n15P n15N n15C W R Φ J) : Calls Try.prog F.bounds_of_7 #[.agg #[.int .i64 n0, .slice n1P n1N n1C, .string n2, .int .i64 n3, .slice n4P n4N n4C, .int .i64 n5, .int .i64 n6, .int .i64 n7, .slice n8P n8N n8C, .slice n9P n9N n9C, .int .i64 n10, .int .i64 n11, .int .i64 n12, .slice n13P n13N n13C, .slice n14P n14N n14C, .slice n15P n15N n15C]] w fun e w' => ∃ v, e = .returned v ∧ J v w' :=
  vcFS_sound (H := { keep := some [1, 2, 3], track := [1] }) (by rw [show vcFS Try.prog W { keep := some [1, 2, 3], track := [1] } F.bounds_of_7 #[.agg #[.int .i64 n0, .slice n1P n1N n1C, .string n2, .int .i64 n3, .slice n4P n4N n4C, .int .i64 n5, .int .i64 n6, .int .i64 n7, .slice n8P n8N n8C, .slice n9P n9N n9C, .int .i64 n10, .int .i64 n11, .int .i64 n12, .slice n13P n13N n13C, .slice n14P n14N n14C, .slice n15P n15N n15C]] R Φ J = Bbounds_of_7 n0 n1P n1N n1C n2 n3 n4P n4N n4C n5 n6 n7 n8P n8N n8C n9P n9N n9C n10 n11 n12 n13P n13N n13C n14P n14N n14C n15P n15N n15C W R Φ J by kernel_rfl]; exact h) c

end Go.Proofs.Ytflanndhfdfemaa
