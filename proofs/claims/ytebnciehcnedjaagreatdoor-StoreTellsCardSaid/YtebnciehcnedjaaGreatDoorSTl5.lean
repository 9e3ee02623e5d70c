/-
  The conditions of the walks of some functions, one formula each; 'B<f>_run' says that they suffice. The formulas are printed by a program; the kernel compares them with the functions' code.
-/
import Derived.Test.YtebnciehcnedjaaGreatDoorSTl4
import Derived.Test.YtebnciehcnedjaaGreatDoorRows

set_option linter.unusedVariables false
set_option linter.unusedSimpArgs false
section
namespace Go.Proofs.YtebnciehcnedjaaGreatDoor
set_option maxRecDepth 100000
open Go.Vc
abbrev F.erratalaw29_StoreTells : Nat := 6
abbrev F.erratalaw29_small : Nat := 8
abbrev F.erratalaw29_few : Nat := 9
abbrev F.store_Restore : Nat := 10
abbrev F.errataref29_Restore : Nat := 11
abbrev F.store_Store_Since : Nat := 12
abbrev F.store_Store_Seq : Nat := 13
abbrev F.store_Store_Copy : Nat := 14
abbrev F.store_Store_Snapshot : Nat := 15
abbrev F.store_Store_Put : Nat := 16
abbrev F.store_New : Nat := 17
abbrev F.erratalaw29_do : Nat := 18
abbrev F.store_Store_Apply : Nat := 19
abbrev F.errataref29_SamePairs : Nat := 20
abbrev F.store_Store_Scan : Nat := 21
abbrev F.store_Store_Runs : Nat := 22
abbrev F.store_Store_Versions : Nat := 23
abbrev F.store_Store_Len : Nat := 24
abbrev F.errataref29_New : Nat := 25
abbrev F.erratalaw29_model : Nat := 26
abbrev F.errataref29_Store_Versions : Nat := 27
abbrev F.errataref29_SameRuns : Nat := 28
abbrev F.errataref29_Store_Runs : Nat := 29
abbrev F.store_Store_Get : Nat := 30
abbrev F.errataref29_Store_Get : Nat := 31
abbrev F.errataref29_Store_Since : Nat := 32
abbrev F.errataref29_SameChanges : Nat := 33
abbrev F.errataref29_Store_Scan : Nat := 34
abbrev F.errataref29_Store_All : Nat := 35
abbrev F.errataref29_Store_Snapshot : Nat := 36
abbrev F.erratalaw29_digits : Nat := 38
abbrev F.wire_Open : Nat := 39
abbrev F.wire_Reader_Int : Nat := 40
abbrev F.wire_Reader_Num : Nat := 41
abbrev F.wire_Reader_Text : Nat := 42
abbrev F.wire_Reader_Done : Nat := 43
abbrev F.store_Store_add : Nat := 44
abbrev F.errataref01_Open : Nat := 45
abbrev F.errataref01_Reader_Int : Nat := 46
abbrev F.errataref01_Reader_Num : Nat := 47
abbrev F.errataref01_Reader_Left : Nat := 48
abbrev F.errataref01_Reader_Text : Nat := 49
abbrev F.errataref01_Reader_Done : Nat := 50
abbrev F.errataref29_Store_add : Nat := 51
abbrev F.slices_Clone_api_Change_api_Change : Nat := 52
abbrev F.slices_Clone_store_run_api_Pair : Nat := 53
abbrev F.slices_Clone_store_run_store_run : Nat := 54
abbrev F.strings_Builder_WriteString : Nat := 55
abbrev F.wire_Int : Nat := 56
abbrev F.wire_Num : Nat := 57
abbrev F.wire_Text : Nat := 58
abbrev F.strings_Builder_String : Nat := 59
abbrev F.store_run_find : Nat := 60
abbrev F.slices_Insert_store_run_api_Pair : Nat := 61
abbrev F.store_Store_settle : Nat := 62
abbrev F.store_Store_Trim : Nat := 63
abbrev F.slices_DeleteFunc_store_run_api_Pair : Nat := 64
abbrev F.store_there : Nat := 65
abbrev F.store_merge : Nat := 66
abbrev F.store_Store_runs : Nat := 67
abbrev F.store_Store_Scan_1 : Nat := 68
abbrev F.strings_HasPrefix : Nat := 69
abbrev F.errataref29_Store_Trim : Nat := 70
abbrev F.errataref29_Store_Apply : Nat := 71
abbrev F.errataref29_Store_Put : Nat := 72
abbrev F.errataref29_merge : Nat := 73
abbrev F.errataref29_there : Nat := 74
abbrev F.errataref01_Int : Nat := 75
abbrev F.errataref01_Num : Nat := 76
abbrev F.errataref01_Text : Nat := 77
abbrev F.wire_Reader_number : Nat := 78
abbrev F.wire_Reader_fail : Nat := 79
abbrev F.wire_Reader_close : Nat := 80
abbrev F.slices_Insert_store_run_store_run : Nat := 81
abbrev F.errataref01_Reader_ahead : Nat := 82
abbrev F.errataref01_Reader_number : Nat := 83
abbrev F.errataref01_Reader_fail : Nat := 84
abbrev F.errataref01_Reader_close : Nat := 85
abbrev F.strings_Builder_copyCheck : Nat := 86
abbrev F.strconv_Itoa : Nat := 87
abbrev F.slices_BinarySearchFunc_store_run_api_Pair_string : Nat := 88
abbrev F.store_run_find_1 : Nat := 89
abbrev F.cmp_Compare_string : Nat := 90
abbrev F.slices_rotateRight_api_Pair : Nat := 92
abbrev F.slices_ContainsFunc__store_run__store_run : Nat := 93
abbrev F.store_Store_settle_1 : Nat := 94
abbrev F.slices_IndexFunc_store_run_api_Pair : Nat := 95
abbrev F.store_there_1 : Nat := 96
abbrev F.slices_SortStableFunc_api_Pair_api_Pair : Nat := 97
abbrev F.store_merge_1 : Nat := 98
abbrev F.slices_CompactFunc_api_Pair_api_Pair : Nat := 99
abbrev F.store_merge_2 : Nat := 100
abbrev F.slices_Concat_store_run_store_run : Nat := 101
abbrev F.internal_stringslite_HasPrefix : Nat := 102
abbrev F.errataref29_put : Nat := 103
abbrev F.errataref29_Store_settle : Nat := 104
abbrev F.errataref01_digits : Nat := 105
abbrev F.strings_IndexByte : Nat := 106
abbrev F.strconv_Atoi : Nat := 107
abbrev F.strings_CutPrefix : Nat := 108
abbrev F.slices_rotateRight_store_run : Nat := 110
abbrev F.errataref01_Back : Nat := 111
abbrev F.cmp_isNaN_string : Nat := 114
abbrev F.slices_IndexFunc__store_run__store_run : Nat := 116
abbrev F.slices_stableCmpFunc_api_Pair : Nat := 117
abbrev F.slices_Grow_store_run_store_run : Nat := 118
abbrev F.slices_insertionSortCmpFunc_api_Pair : Nat := 126
abbrev F.slices_symMergeCmpFunc_api_Pair : Nat := 127
abbrev F.slices_rotateCmpFunc_api_Pair : Nat := 139
abbrev F.slices_swapRangeCmpFunc_api_Pair : Nat := 148
def Bcmp_Compare_string (x : ByteArray) (y : ByteArray) (W : World) (R : List Own) (Φ : PW) (J : Value → World → Prop) : Prop :=
  ∀ w0 R1, Ctx W w0 (R ++ R1) Φ → Calls Tryz.prog F.cmp_isNaN_string #[.string x] w0 fun e2 w3 => ∃ c4, e2 = .returned (.bool c4) ∧ ∃ R5 Φ6, Stable Φ6 ∧ Ctx W w3 (R5 ++ R1) Φ6 ∧ ∀ w7 R8, Ctx W w7 (R5 ++ R8) Φ6 → Calls Tryz.prog F.cmp_isNaN_string #[.string y] w7 fun e9 w10 => ∃ c11, e9 = .returned (.bool c11) ∧ ∃ R12 Φ13, Stable Φ13 ∧ Ctx W w10 (R12 ++ R8) Φ13 ∧ Br c4 (Br c11 (∀ w14 R15, Ctx W w14 (R12 ++ R15) Φ13 → J (.int .i64 0) w14) (∀ w16 R17, Ctx W w16 (R12 ++ R17) Φ13 → J (.int .i64 (-1)) w16)) (Br c11 (∀ w18 R19, Ctx W w18 (R12 ++ R19) Φ13 → J (.int .i64 1) w18) (Br (Op.bytesLess (ByteArray.toList.loop x 0 []) (ByteArray.toList.loop y 0 [])) (∀ w20 R21, Ctx W w20 (R12 ++ R21) Φ13 → J (.int .i64 (-1)) w20) (∃ (c22 : Bool), (∀ (w23 : World), Sem.run Tryz.prog (binOp BinOp.gtr 9 (Value.string x) (Value.string y)) w23 = Result.ok (Value.bool c22) w23) ∧ Br c22 (∀ w24 R25, Ctx W w24
  (R12 ++ R25) Φ13 → J (.int .i64 1) w24) (∀ w26 R27, Ctx W w26 (R12 ++ R27) Φ13 → J (.int .i64 0) w26))))
theorem Bcmp_Compare_string_run (x : ByteArray) (y : ByteArray) {W w : World} {R : List Own} {Φ : PW} [Stable Φ] {J : Value → World → Prop} (c : Ctx W w R Φ) (h : Bcmp_Compare_string x y W R Φ J) : Calls Tryz.prog F.cmp_Compare_string #[.string x, .string y] w fun e w' => ∃ v, e = .returned v ∧ J v w' :=
  vcFS_sound (H := { keep := some [0, 1, 4, 5, 6, 11, 12, 13, 16, 19] }) (by rw [show vcFS Tryz.prog W { keep := some [0, 1, 4, 5, 6, 11, 12, 13, 16, 19] } F.cmp_Compare_string #[.string x, .string y] R Φ J = Bcmp_Compare_string x y W R Φ J by kernel_rfl]; exact h) c
def Bslices_SortStableFunc_api_Pair_api_Pair (xP : Option Addr) (xN xC : Nat) (cmpF : FuncId) (cmpC : Array Value) (W : World) (R : List Own) (Φ : PW) (J : Value → World → Prop) : Prop :=
  ∀ w0 R1, Ctx W w0 (R ++ R1) Φ → Calls Tryz.prog F.slices_stableCmpFunc_api_Pair #[.slice xP xN xC, Value.int IntKind.i64 (↑xN : Int), Value.func (Fn.func cmpF) #[] cmpC] w0 fun e2 w3 => e2 = .returned (Value.tuple #[]) ∧ ∃ R4 Φ5, Stable Φ5 ∧ Ctx W w3 (R4 ++ R1) Φ5 ∧ ∀ w6 R7, Ctx W w6 (R4 ++ R7) Φ5 → J (Value.tuple #[]) w6
theorem Bslices_SortStableFunc_api_Pair_api_Pair_run (xP : Option Addr) (xN xC : Nat) (cmpF : FuncId) (cmpC : Array Value) {W w : World} {R : List Own} {Φ : PW} [Stable Φ] {J : Value → World → Prop} (c : Ctx W w R Φ) (h : Bslices_SortStableFunc_api_Pair_api_Pair xP xN xC cmpF cmpC W R Φ J) : Calls Tryz.prog F.slices_SortStableFunc_api_Pair_api_Pair #[.slice xP xN xC, .func (.func cmpF) #[] cmpC] w fun e w' => ∃ v, e = .returned v ∧ J v w' :=
  vcFS_sound (H := { keep := some [] }) (by rw [show vcFS Tryz.prog W { keep := some [] } F.slices_SortStableFunc_api_Pair_api_Pair #[.slice xP xN xC, .func (.func cmpF) #[] cmpC] R Φ J = Bslices_SortStableFunc_api_Pair_api_Pair xP xN xC cmpF cmpC W R Φ J by kernel_rfl]; exact h) c
def Bcmp_isNaN_string (x : ByteArray) (W : World) (R : List Own) (Φ : PW) (J : Value → World → Prop) : Prop :=
  ∀ w0 R1, Ctx W w0 (R ++ R1) Φ → J (.bool (decide (x ≠ x))) w0
theorem Bcmp_isNaN_string_run (x : ByteArray) {W w : World} {R : List Own} {Φ : PW} [Stable Φ] {J : Value → World → Prop} (c : Ctx W w R Φ) (h : Bcmp_isNaN_string x W R Φ J) : Calls Tryz.prog F.cmp_isNaN_string #[.string x] w fun e w' => ∃ v, e = .returned v ∧ J v w' :=
  vcFS_sound (H := { keep := some [0, 2] }) (by rw [show vcFS Tryz.prog W { keep := some [0, 2] } F.cmp_isNaN_string #[.string x] R Φ J = Bcmp_isNaN_string x W R Φ J by kernel_rfl]; exact h) c
def Bslices_stableCmpFunc_api_Pair (dataP : Option Addr) (dataN dataC : Nat) (n : Int) (cmpF : FuncId) (cmpC : Array Value) (W : World) (R : List Own) (Φ : PW) (J : Value → World → Prop) : Prop :=
  exI fun (I0 : Int → Int → List Own → PW → Nat → Prop) => (∃ R1 Φ2 k3, Stable Φ2 ∧ Wk W R Φ R1 Φ2 ∧ I0 0 20 R1 Φ2 k3) ∧ ∀ n6 n7 R8 I9 k10, Stable I9 → I0 n6 n7 R8 I9 k10 → Br (decide (n7 ≤ n)) (∀ w11 R12, Ctx W w11 (R8 ++ R12) I9 → Calls Tryz.prog F.slices_insertionSortCmpFunc_api_Pair #[.slice dataP dataN dataC, Value.int IntKind.i64 n6, Value.int IntKind.i64 n7, Value.func (Fn.func cmpF) #[] cmpC] w11 fun e13 w14 => e13 = .returned (Value.tuple #[]) ∧ ∃ R15 Φ16, Stable Φ16 ∧ Ctx W w14 (R15 ++ R12) Φ16 ∧ I64 (n7 + 20) ∧ ∃ R17 Φ18 k19, Stable Φ18 ∧ Wk W R15 Φ16 R17 Φ18 ∧ I0 n7 (n7 + 20) R17 Φ18 k19 ∧ k19 < k10) (∀ w22 R23, Ctx W w22 (R8 ++ R23) I9 → Calls Tryz.prog F.slices_insertionSortCmpFunc_api_Pair #[.slice dataP dataN dataC, Value.int IntKind.i64 n6, Value.int IntKind.i64 n, Value.func (Fn.func cmpF) #[] cmpC] w22 fun e24 w25 => e24 = .returned (Value.tuple #[]) ∧ ∃ R26 Φ27, Stable
  Φ27 ∧ Ctx W w25 (R26 ++ R23) Φ27 ∧ exI fun (I28 : Int → List Own → PW → Nat → Prop) => (∃ R29 Φ30 k31, Stable Φ30 ∧ Wk W R26 Φ27 R29 Φ30 ∧ I28 20 R29 Φ30 k31) ∧ ∀ n34 R35 I36 k37, Stable I36 → I28 n34 R35 I36 k37 → Br (decide (n34 < n)) (I64 (2 * n34) ∧ exI fun (I38 : Int → Int → List Own → PW → Nat → Prop) => (∃ R39 Φ40 k41, Stable Φ40 ∧ Wk W R35 I36 R39 Φ40 ∧ I38 0 (2 * n34) R39 Φ40 k41) ∧ ∀ n44 n45 R46 I47 k48, Stable I47 → I38 n44 n45 R46 I47 k48 → Br (decide (n45 ≤ n)) (I64 (n44 + n34) ∧ ∀ w49 R50, Ctx W w49 (R46 ++ R50) I47 → Calls Tryz.prog F.slices_symMergeCmpFunc_api_Pair #[.slice dataP dataN dataC, Value.int IntKind.i64 n44, Value.int IntKind.i64 (n44 + n34), Value.int IntKind.i64 n45, Value.func (Fn.func cmpF) #[] cmpC] w49 fun e51 w52 => e51 = .returned (Value.tuple #[]) ∧ ∃ R53 Φ54, Stable Φ54 ∧ Ctx W w52 (R53 ++ R50) Φ54 ∧ I64 (2 * n34) ∧ I64 (n45 + 2 * n34) ∧ ∃ R55 Φ56
  k57, Stable Φ56 ∧ Wk W R53 Φ54 R55 Φ56 ∧ I38 n45 (n45 + 2 * n34) R55 Φ56 k57 ∧ k57 < k48) (I64 (n44 + n34) ∧ Br (decide (n44 + n34 < n)) (∀ w60 R61, Ctx W w60 (R46 ++ R61) I47 → Calls Tryz.prog F.slices_symMergeCmpFunc_api_Pair #[.slice dataP dataN dataC, Value.int IntKind.i64 n44, Value.int IntKind.i64 (n44 + n34), Value.int IntKind.i64 n, Value.func (Fn.func cmpF) #[] cmpC] w60 fun e62 w63 => e62 = .returned (Value.tuple #[]) ∧ ∃ R64 Φ65, Stable Φ65 ∧ Ctx W w63 (R64 ++ R61) Φ65 ∧ I64 (n34 * 2) ∧ ∃ R66 Φ67 k68, Stable Φ67 ∧ Wk W R64 Φ65 R66 Φ67 ∧ I28 (n34 * 2) R66 Φ67 k68 ∧ k68 < k37) (I64 (n34 * 2) ∧ ∃ R71 Φ72 k73, Stable Φ72 ∧ Wk W R46 I47 R71 Φ72 ∧ I28 (n34 * 2) R71 Φ72 k73 ∧ k73 < k37))) (∀ w76 R77, Ctx W w76 (R35 ++ R77) I36 → J (Value.tuple #[]) w76))
theorem Bslices_stableCmpFunc_api_Pair_run (dataP : Option Addr) (dataN dataC : Nat) (n : Int) (cmpF : FuncId) (cmpC : Array Value) {W w : World} {R : List Own} {Φ : PW} [Stable Φ] {J : Value → World → Prop} (c : Ctx W w R Φ) (h : Bslices_stableCmpFunc_api_Pair dataP dataN dataC n cmpF cmpC W R Φ J) : Calls Tryz.prog F.slices_stableCmpFunc_api_Pair #[.slice dataP dataN dataC, .int .i64 n, .func (.func cmpF) #[] cmpC] w fun e w' => ∃ v, e = .returned v ∧ J v w' :=
  vcFS_sound (H := { keep := some [0, 1, 2, 6, 7, 8, 9, 13, 30, 35, 54], loops := [(9, [(7, .one (.int .i64)), (8, .one (.int .i64))], []), (7, [(6, .one (.int .i64))], []), (2, [(7, .one (.int .i64)), (8, .one (.int .i64))], [])] }) (by rw [show vcFS Tryz.prog W { keep := some [0, 1, 2, 6, 7, 8, 9, 13, 30, 35, 54], loops := [(9, [(7, .one (.int .i64)), (8, .one (.int .i64))], []), (7, [(6, .one (.int .i64))], []), (2, [(7, .one (.int .i64)), (8, .one (.int .i64))], [])] } F.slices_stableCmpFunc_api_Pair #[.slice dataP dataN dataC, .int .i64 n, .func (.func cmpF) #[] cmpC] R Φ J = Bslices_stableCmpFunc_api_Pair dataP dataN dataC n cmpF cmpC W R Φ J by kernel_rfl]; exact h) c
def Bslices_insertionSortCmpFunc_api_Pair (dataP : Option Addr) (dataN dataC : Nat) (a : Int) (b : Int) (cmpF : FuncId) (cmpC : Array Value) (W : World) (R : List Own) (Φ : PW) (J : Value → World → Prop) : Prop :=
  I64 (a + 1) ∧ exI fun (I0 : Int → List Own → PW → Nat → Prop) => (∃ R1 Φ2 k3, Stable Φ2 ∧ Wk W R Φ R1 Φ2 ∧ I0 (a + 1) R1 Φ2 k3) ∧ ∀ n6 R7 I8 k9, Stable I8 → I0 n6 R7 I8 k9 → Br (decide (n6 < b)) (exI fun (I10 : Int → List Own → PW → Nat → Prop) => (∃ R11 Φ12 k13, Stable Φ12 ∧ Wk W R7 I8 R11 Φ12 ∧ I10 n6 R11 Φ12 k13) ∧ ∀ n16 R17 I18 k19, Stable I18 → I10 n16 R17 I18 k19 → ∃ R20 Φ21, Stable Φ21 ∧ Wk W R17 I18 R20 Φ21 ∧ Br (decide (a < n16)) ((0 ≤ n16 ∧ n16 < (↑dataN : Int)) ∧ ptrK none dataP fun k24 k25 => I64 (n16 - 1) ∧ ∃ (s26 s27 : ByteArray), (∀ w28 R29, Ctx W w28 (R20 ++ R29) Φ21 → ∃ s30 s31, RowAt w28 k24 (k25 + n16.toNat * 2) [.string s30, .string s31] ∧ Value.agg #[.string s30, .string s31] = Value.agg #[.string s26, .string s27]) ∧ (0 ≤ n16 - 1 ∧ n16 - 1 < (↑dataN : Int)) ∧ ptrK none dataP fun k32 k33 => ∃ (s34 s35 : ByteArray), (∀ w36 R37, Ctx W w36 (R20 ++ R37) Φ21 → ∃ s38 s39,
  RowAt w36 k32 (k33 + (n16 - 1).toNat * 2) [.string s38, .string s39] ∧ Value.agg #[.string s38, .string s39] = Value.agg #[.string s34, .string s35]) ∧ ∀ w40 R41, Ctx W w40 (R17 ++ R41) I18 → okFun Tryz.prog cmpF = true ∧ Calls Tryz.prog cmpF (Array.mk (Value.agg #[.string s26, .string s27] :: Value.agg #[.string s34, .string s35] :: cmpC.toList)) w40 fun e42 w43 => ∃ n44, e42 = .returned (.int .i64 n44) ∧ ∃ R45 Φ46, Stable Φ46 ∧ Ctx W w43 (R45 ++ R41) Φ46 ∧ Br (decide (n44 < 0)) (∃ R47 Φ48, Stable Φ48 ∧ Wk W R45 Φ46 R47 Φ48 ∧ I64 (n16 - 1) ∧ I64 (n16 - 1) ∧ (0 ≤ n16 ∧ n16 < (↑dataN : Int)) ∧ ptrK none dataP fun k51 k52 => (0 ≤ n16 - 1 ∧ n16 - 1 < (↑dataN : Int)) ∧ ptrK none dataP fun k53 k54 => ∀ w55 R56, Ctx W w55 (R45 ++ R56) Φ46 → ∃ s57 s58, RowAt w55 k51 (k52 + n16.toNat * 2) [.string s57, .string s58] ∧ ∀ w59 R60, Ctx W w59 (R45 ++ R60) Φ46 → ∃ s61 s62, RowAt w59 k53 (k54 + (n16 -
  1).toNat * 2) [.string s61, .string s62] ∧ (0 ≤ n16 ∧ n16 < (↑dataN : Int)) ∧ ptrK none dataP fun k63 k64 => ∀ w65 R66, Ctx W w65 (R45 ++ R66) Φ46 → CanWrite w65 k63 (k64 + n16.toNat * 2) 2 ∧ ∀ (w67 : World), w67 = w65.setCells k63 (k64 + n16.toNat * 2) [.string s61, .string s62] → ∃ R68 Φ69, Stable Φ69 ∧ Ctx W w67 (R68 ++ R66) Φ69 ∧ Wk W R68 Φ69 R47 Φ48 ∧ (0 ≤ n16 - 1 ∧ n16 - 1 < (↑dataN : Int)) ∧ ptrK none dataP fun k72 k73 => ∀ w74 R75, Ctx W w74 (R68 ++ R75) Φ69 → CanWrite w74 k72 (k73 + (n16 - 1).toNat * 2) 2 ∧ ∀ (w76 : World), w76 = w74.setCells k72 (k73 + (n16 - 1).toNat * 2) [.string s57, .string s58] → ∃ R77 Φ78, Stable Φ78 ∧ Ctx W w76 (R77 ++ R75) Φ78 ∧ Wk W R77 Φ78 R47 Φ48 ∧ I64 (n16 - 1) ∧ ∃ R81 Φ82 k83, Stable Φ82 ∧ Wk W R77 Φ78 R81 Φ82 ∧ I10 (n16 - 1) R81 Φ82 k83 ∧ k83 < k19) (I64 (n6 + 1) ∧ ∃ R86 Φ87 k88, Stable Φ87 ∧ Wk W R45 Φ46 R86 Φ87 ∧ I0 (n6 + 1) R86 Φ87 k88 ∧ k88 <
  k9)) (I64 (n6 + 1) ∧ ∃ R91 Φ92 k93, Stable Φ92 ∧ Wk W R17 I18 R91 Φ92 ∧ I0 (n6 + 1) R91 Φ92 k93 ∧ k93 < k9)) (∀ w96 R97, Ctx W w96 (R7 ++ R97) I8 → J (Value.tuple #[]) w96)
theorem Bslices_insertionSortCmpFunc_api_Pair_run (dataP : Option Addr) (dataN dataC : Nat) (a : Int) (b : Int) (cmpF : FuncId) (cmpC : Array Value) {W w : World} {R : List Own} {Φ : PW} [Stable Φ] {J : Value → World → Prop} (c : Ctx W w R Φ) (h : Bslices_insertionSortCmpFunc_api_Pair dataP dataN dataC a b cmpF cmpC W R Φ J) : Calls Tryz.prog F.slices_insertionSortCmpFunc_api_Pair #[.slice dataP dataN dataC, .int .i64 a, .int .i64 b, .func (.func cmpF) #[] cmpC] w fun e w' => ∃ v, e = .returned v ∧ J v w' :=
  vcFS_sound (H := { keep := some [0, 1, 2, 3, 8, 9, 14, 34], wrap := [32], stages := [(4, [.held [(0, true), (1, true), (2, true), (3, true), (4, true), (5, true), (6, true), (9, true), (10, true), (7, true), (11, true), (8, true), (12, true), (13, true)], .stage [] (some 14), .stage [15, 16] none]), (6, [.late [0, 1, 5, 6, 7, 8, 13, 9, 14] [0, 1, 2, 3, 5, 6, 10, 11, 4, 7, 12, 8, 13, 9, 14] [(15, [16]), (17, [])]])], loops := [(4, [(9, .one (.int .i64))], []), (1, [(8, .one (.int .i64))], [])] }) (by rw [show vcFS Tryz.prog W { keep := some [0, 1, 2, 3, 8, 9, 14, 34], wrap := [32], stages := [(4, [.held [(0, true), (1, true), (2, true), (3, true), (4, true), (5, true), (6, true), (9, true), (10, true), (7, true), (11, true), (8, true), (12, true), (13, true)], .stage [] (some 14), .stage [15, 16] none]), (6, [.late [0, 1, 5, 6, 7, 8, 13, 9, 14] [0, 1, 2, 3, 5, 6, 10, 11, 4, 7, 12, 8, 13, 9, 14] [(15, [16]), (17, [])]])], loops := [(4, [(9, .one (.int .i64))], []), (1, [(8, .one (.int .i64))], [])] } F.slices_insertionSortCmpFunc_api_Pair #[.slice dataP dataN dataC, .int .i64 a, .int .i64 b, .func (.func cmpF) #[] cmpC] R Φ J = Bslices_insertionSortCmpFunc_api_Pair dataP dataN dataC a b cmpF cmpC W R Φ J by kernel_rfl]; exact h) c
def Bslices_symMergeCmpFunc_api_Pair (dataP : Option Addr) (dataN dataC : Nat) (a : Int) (m : Int) (b : Int) (cmpF : FuncId) (cmpC : Array Value) (W : World) (R : List Own) (Φ : PW) (J : Value → World → Prop) : Prop :=
  I64 (m - a) ∧ Br (decide (m - a = 1)) (exI fun (I0 : Int → Int → List Own → PW → Nat → Prop) => (∃ R1 Φ2 k3, Stable Φ2 ∧ Wk W R Φ R1 Φ2 ∧ I0 m b R1 Φ2 k3) ∧ ∀ n6 n7 R8 I9 k10, Stable I9 → I0 n6 n7 R8 I9 k10 → Br (decide (n6 < n7)) (I64 (n6 + n7) ∧ ∃ (n11 : Int), (∀ (w12 : World), Sem.run Tryz.prog (binOp BinOp.shr 136 (Value.int IntKind.u64 (IntKind.u64.wrap (n6 + n7))) (Value.int IntKind.u64 1)) w12 = Result.ok (Value.int IntKind.u64 n11) w12) ∧ ∃ R13 Φ14, Stable Φ14 ∧ Wk W R8 I9 R13 Φ14 ∧ (0 ≤ IntKind.i64.wrap n11 ∧ IntKind.i64.wrap n11 < (↑dataN : Int)) ∧ ptrK none dataP fun k17 k18 => (0 ≤ a ∧ a < (↑dataN : Int)) ∧ ptrK none dataP fun k19 k20 => ∃ (s21 s22 : ByteArray), (∀ w23 R24, Ctx W w23 (R13 ++ R24) Φ14 → ∃ s25 s26, RowAt w23 k17 (k18 + (IntKind.i64.wrap n11).toNat * 2) [.string s25, .string s26] ∧ Value.agg #[.string s25, .string s26] = Value.agg #[.string s21, .string s22]) ∧
  ∃ (s27 s28 : ByteArray), (∀ w29 R30, Ctx W w29 (R13 ++ R30) Φ14 → ∃ s31 s32, RowAt w29 k19 (k20 + a.toNat * 2) [.string s31, .string s32] ∧ Value.agg #[.string s31, .string s32] = Value.agg #[.string s27, .string s28]) ∧ ∀ w33 R34, Ctx W w33 (R8 ++ R34) I9 → okFun Tryz.prog cmpF = true ∧ Calls Tryz.prog cmpF (Array.mk (Value.agg #[.string s21, .string s22] :: Value.agg #[.string s27, .string s28] :: cmpC.toList)) w33 fun e35 w36 => ∃ n37, e35 = .returned (.int .i64 n37) ∧ ∃ R38 Φ39, Stable Φ39 ∧ Ctx W w36 (R38 ++ R34) Φ39 ∧ Br (decide (n37 < 0)) (I64 (IntKind.i64.wrap n11 + 1) ∧ ∃ R40 Φ41 k42, Stable Φ41 ∧ Wk W R38 Φ39 R40 Φ41 ∧ I0 (IntKind.i64.wrap n11 + 1) n7 R40 Φ41 k42 ∧ k42 < k10) (∃ R45 Φ46 k47, Stable Φ46 ∧ Wk W R38 Φ39 R45 Φ46 ∧ I0 n6 (IntKind.i64.wrap n11) R45 Φ46 k47 ∧ k47 < k10)) (exI fun (I50 : Int → List Own → PW → Nat → Prop) => (∃ R51 Φ52 k53, Stable Φ52 ∧ Wk W R8 I9 R51
  Φ52 ∧ I50 a R51 Φ52 k53) ∧ ∀ n56 R57 I58 k59, Stable I58 → I50 n56 R57 I58 k59 → I64 (n6 - 1) ∧ Br (decide (n56 < n6 - 1)) (∃ R60 Φ61, Stable Φ61 ∧ Wk W R57 I58 R60 Φ61 ∧ I64 (n56 + 1) ∧ I64 (n56 + 1) ∧ (0 ≤ n56 ∧ n56 < (↑dataN : Int)) ∧ ptrK none dataP fun k64 k65 => (0 ≤ n56 + 1 ∧ n56 + 1 < (↑dataN : Int)) ∧ ptrK none dataP fun k66 k67 => ∀ w68 R69, Ctx W w68 (R57 ++ R69) I58 → ∃ s70 s71, RowAt w68 k64 (k65 + n56.toNat * 2) [.string s70, .string s71] ∧ ∀ w72 R73, Ctx W w72 (R57 ++ R73) I58 → ∃ s74 s75, RowAt w72 k66 (k67 + (n56 + 1).toNat * 2) [.string s74, .string s75] ∧ (0 ≤ n56 ∧ n56 < (↑dataN : Int)) ∧ ptrK none dataP fun k76 k77 => ∀ w78 R79, Ctx W w78 (R57 ++ R79) I58 → CanWrite w78 k76 (k77 + n56.toNat * 2) 2 ∧ ∀ (w80 : World), w80 = w78.setCells k76 (k77 + n56.toNat * 2) [.string s74, .string s75] → ∃ R81 Φ82, Stable Φ82 ∧ Ctx W w80 (R81 ++ R79) Φ82 ∧ Wk W R81 Φ82 R60 Φ61 ∧ (0
  ≤ n56 + 1 ∧ n56 + 1 < (↑dataN : Int)) ∧ ptrK none dataP fun k85 k86 => ∀ w87 R88, Ctx W w87 (R81 ++ R88) Φ82 → CanWrite w87 k85 (k86 + (n56 + 1).toNat * 2) 2 ∧ ∀ (w89 : World), w89 = w87.setCells k85 (k86 + (n56 + 1).toNat * 2) [.string s70, .string s71] → ∃ R90 Φ91, Stable Φ91 ∧ Ctx W w89 (R90 ++ R88) Φ91 ∧ Wk W R90 Φ91 R60 Φ61 ∧ I64 (n56 + 1) ∧ ∃ R94 Φ95 k96, Stable Φ95 ∧ Wk W R90 Φ91 R94 Φ95 ∧ I50 (n56 + 1) R94 Φ95 k96 ∧ k96 < k59) (∀ w99 R100, Ctx W w99 (R57 ++ R100) I58 → J (Value.tuple #[]) w99))) (I64 (b - m) ∧ Br (decide (b - m = 1)) (exI fun (I101 : Int → Int → List Own → PW → Nat → Prop) => (∃ R102 Φ103 k104, Stable Φ103 ∧ Wk W R Φ R102 Φ103 ∧ I101 a m R102 Φ103 k104) ∧ ∀ n107 n108 R109 I110 k111, Stable I110 → I101 n107 n108 R109 I110 k111 → Br (decide (n107 < n108)) (I64 (n107 + n108) ∧ ∃ (n112 : Int), (∀ (w113 : World), Sem.run Tryz.prog (binOp BinOp.shr 136 (Value.int
  IntKind.u64 (IntKind.u64.wrap (n107 + n108))) (Value.int IntKind.u64 1)) w113 = Result.ok (Value.int IntKind.u64 n112) w113) ∧ ∃ R114 Φ115, Stable Φ115 ∧ Wk W R109 I110 R114 Φ115 ∧ (0 ≤ m ∧ m < (↑dataN : Int)) ∧ ptrK none dataP fun k118 k119 => (0 ≤ IntKind.i64.wrap n112 ∧ IntKind.i64.wrap n112 < (↑dataN : Int)) ∧ ptrK none dataP fun k120 k121 => ∃ (s122 s123 : ByteArray), (∀ w124 R125, Ctx W w124 (R114 ++ R125) Φ115 → ∃ s126 s127, RowAt w124 k118 (k119 + m.toNat * 2) [.string s126, .string s127] ∧ Value.agg #[.string s126, .string s127] = Value.agg #[.string s122, .string s123]) ∧ ∃ (s128 s129 : ByteArray), (∀ w130 R131, Ctx W w130 (R114 ++ R131) Φ115 → ∃ s132 s133, RowAt w130 k120 (k121 + (IntKind.i64.wrap n112).toNat * 2) [.string s132, .string s133] ∧ Value.agg #[.string s132, .string s133] = Value.agg #[.string s128, .string s129]) ∧ ∀ w134 R135, Ctx W w134 (R109 ++ R135) I110 →
  okFun Tryz.prog cmpF = true ∧ Calls Tryz.prog cmpF (Array.mk (Value.agg #[.string s122, .string s123] :: Value.agg #[.string s128, .string s129] :: cmpC.toList)) w134 fun e136 w137 => ∃ n138, e136 = .returned (.int .i64 n138) ∧ ∃ R139 Φ140, Stable Φ140 ∧ Ctx W w137 (R139 ++ R135) Φ140 ∧ Br (!decide (n138 < 0)) (I64 (IntKind.i64.wrap n112 + 1) ∧ ∃ R141 Φ142 k143, Stable Φ142 ∧ Wk W R139 Φ140 R141 Φ142 ∧ I101 (IntKind.i64.wrap n112 + 1) n108 R141 Φ142 k143 ∧ k143 < k111) (∃ R146 Φ147 k148, Stable Φ147 ∧ Wk W R139 Φ140 R146 Φ147 ∧ I101 n107 (IntKind.i64.wrap n112) R146 Φ147 k148 ∧ k148 < k111)) (exI fun (I151 : Int → List Own → PW → Nat → Prop) => (∃ R152 Φ153 k154, Stable Φ153 ∧ Wk W R109 I110 R152 Φ153 ∧ I151 m R152 Φ153 k154) ∧ ∀ n157 R158 I159 k160, Stable I159 → I151 n157 R158 I159 k160 → Br (decide (n107 < n157)) (∃ R161 Φ162, Stable Φ162 ∧ Wk W R158 I159 R161 Φ162 ∧ I64 (n157 - 1) ∧
  I64 (n157 - 1) ∧ (0 ≤ n157 ∧ n157 < (↑dataN : Int)) ∧ ptrK none dataP fun k165 k166 => (0 ≤ n157 - 1 ∧ n157 - 1 < (↑dataN : Int)) ∧ ptrK none dataP fun k167 k168 => ∀ w169 R170, Ctx W w169 (R158 ++ R170) I159 → ∃ s171 s172, RowAt w169 k165 (k166 + n157.toNat * 2) [.string s171, .string s172] ∧ ∀ w173 R174, Ctx W w173 (R158 ++ R174) I159 → ∃ s175 s176, RowAt w173 k167 (k168 + (n157 - 1).toNat * 2) [.string s175, .string s176] ∧ (0 ≤ n157 ∧ n157 < (↑dataN : Int)) ∧ ptrK none dataP fun k177 k178 => ∀ w179 R180, Ctx W w179 (R158 ++ R180) I159 → CanWrite w179 k177 (k178 + n157.toNat * 2) 2 ∧ ∀ (w181 : World), w181 = w179.setCells k177 (k178 + n157.toNat * 2) [.string s175, .string s176] → ∃ R182 Φ183, Stable Φ183 ∧ Ctx W w181 (R182 ++ R180) Φ183 ∧ Wk W R182 Φ183 R161 Φ162 ∧ (0 ≤ n157 - 1 ∧ n157 - 1 < (↑dataN : Int)) ∧ ptrK none dataP fun k186 k187 => ∀ w188 R189, Ctx W w188 (R182 ++ R189)
  Φ183 → CanWrite w188 k186 (k187 + (n157 - 1).toNat * 2) 2 ∧ ∀ (w190 : World), w190 = w188.setCells k186 (k187 + (n157 - 1).toNat * 2) [.string s171, .string s172] → ∃ R191 Φ192, Stable Φ192 ∧ Ctx W w190 (R191 ++ R189) Φ192 ∧ Wk W R191 Φ192 R161 Φ162 ∧ I64 (n157 - 1) ∧ ∃ R195 Φ196 k197, Stable Φ196 ∧ Wk W R191 Φ192 R195 Φ196 ∧ I151 (n157 - 1) R195 Φ196 k197 ∧ k197 < k160) (∀ w200 R201, Ctx W w200 (R158 ++ R201) I159 → J (Value.tuple #[]) w200))) (I64 (a + b) ∧ ∃ (n202 : Int), (∀ (w203 : World), Sem.run Tryz.prog (binOp BinOp.shr 136 (Value.int IntKind.u64 (IntKind.u64.wrap (a + b))) (Value.int IntKind.u64 1)) w203 = Result.ok (Value.int IntKind.u64 n202) w203) ∧ I64 (IntKind.i64.wrap n202 + m) ∧ Br (decide (IntKind.i64.wrap n202 < m)) (I64 (IntKind.i64.wrap n202 + m - b) ∧ I64 (IntKind.i64.wrap n202 + m - 1) ∧ exI fun (I204 : Int → Int → List Own → PW → Nat → Prop) => (∃ R205 Φ206 k207,
  Stable Φ206 ∧ Wk W R Φ R205 Φ206 ∧ I204 (IntKind.i64.wrap n202 + m - b) (IntKind.i64.wrap n202) R205 Φ206 k207) ∧ ∀ n210 n211 R212 I213 k214, Stable I213 → I204 n210 n211 R212 I213 k214 → Br (decide (n210 < n211)) (I64 (n210 + n211) ∧ ∃ (n215 : Int), (∀ (w216 : World), Sem.run Tryz.prog (binOp BinOp.shr 136 (Value.int IntKind.u64 (IntKind.u64.wrap (n210 + n211))) (Value.int IntKind.u64 1)) w216 = Result.ok (Value.int IntKind.u64 n215) w216) ∧ ∃ R217 Φ218, Stable Φ218 ∧ Wk W R212 I213 R217 Φ218 ∧ I64 (IntKind.i64.wrap n202 + m - 1 - IntKind.i64.wrap n215) ∧ (0 ≤ IntKind.i64.wrap n215 ∧ IntKind.i64.wrap n215 < (↑dataN : Int)) ∧ ptrK none dataP fun k221 k222 => (0 ≤ IntKind.i64.wrap n202 + m - 1 - IntKind.i64.wrap n215 ∧ IntKind.i64.wrap n202 + m - 1 - IntKind.i64.wrap n215 < (↑dataN : Int)) ∧ ptrK none dataP fun k223 k224 => ∃ (s225 s226 : ByteArray), (∀ w227 R228, Ctx W w227 (R217 ++
  R228) Φ218 → ∃ s229 s230, RowAt w227 k221 (k222 + (IntKind.i64.wrap n215).toNat * 2) [.string s229, .string s230] ∧ Value.agg #[.string s229, .string s230] = Value.agg #[.string s225, .string s226]) ∧ ∃ (s231 s232 : ByteArray), (∀ w233 R234, Ctx W w233 (R217 ++ R234) Φ218 → ∃ s235 s236, RowAt w233 k223 (k224 + (IntKind.i64.wrap n202 + m - 1 - IntKind.i64.wrap n215).toNat * 2) [.string s235, .string s236] ∧ Value.agg #[.string s235, .string s236] = Value.agg #[.string s231, .string s232]) ∧ ∀ w237 R238, Ctx W w237 (R212 ++ R238) I213 → okFun Tryz.prog cmpF = true ∧ Calls Tryz.prog cmpF (Array.mk (Value.agg #[.string s231, .string s232] :: Value.agg #[.string s225, .string s226] :: cmpC.toList)) w237 fun e239 w240 => ∃ n241, e239 = .returned (.int .i64 n241) ∧ ∃ R242 Φ243, Stable Φ243 ∧ Ctx W w240 (R242 ++ R238) Φ243 ∧ Br (!decide (n241 < 0)) (I64 (IntKind.i64.wrap n215 + 1) ∧ ∃ R244 Φ245
  k246, Stable Φ245 ∧ Wk W R242 Φ243 R244 Φ245 ∧ I204 (IntKind.i64.wrap n215 + 1) n211 R244 Φ245 k246 ∧ k246 < k214) (∃ R249 Φ250 k251, Stable Φ250 ∧ Wk W R242 Φ243 R249 Φ250 ∧ I204 n210 (IntKind.i64.wrap n215) R249 Φ250 k251 ∧ k251 < k214)) (I64 (IntKind.i64.wrap n202 + m - n210) ∧ ∀ w254 R255, Ctx W w254 (R212 ++ R255) I213 → Br (decide (n210 < m) && decide (m < IntKind.i64.wrap n202 + m - n210)) (∀ w256 R257, Ctx W w256 (R212 ++ R257) I213 → Calls Tryz.prog F.slices_rotateCmpFunc_api_Pair #[.slice dataP dataN dataC, Value.int IntKind.i64 n210, Value.int IntKind.i64 m, Value.int IntKind.i64 (IntKind.i64.wrap n202 + m - n210), Value.func (Fn.func cmpF) #[] cmpC] w256 fun e258 w259 => e258 = .returned (Value.tuple #[]) ∧ ∃ R260 Φ261, Stable Φ261 ∧ Ctx W w259 (R260 ++ R257) Φ261 ∧ ∀ w262 R263, Ctx W w262 (R260 ++ R263) Φ261 → Br (decide (a < n210) && decide (n210 < IntKind.i64.wrap n202))
  (∀ w264 R265, Ctx W w264 (R260 ++ R265) Φ261 → Calls Tryz.prog F.slices_symMergeCmpFunc_api_Pair #[.slice dataP dataN dataC, Value.int IntKind.i64 a, Value.int IntKind.i64 n210, Value.int IntKind.i64 (IntKind.i64.wrap n202), Value.func (Fn.func cmpF) #[] cmpC] w264 fun e266 w267 => e266 = .returned (Value.tuple #[]) ∧ ∃ R268 Φ269, Stable Φ269 ∧ Ctx W w267 (R268 ++ R265) Φ269 ∧ ∀ w270 R271, Ctx W w270 (R268 ++ R271) Φ269 → Br (decide (IntKind.i64.wrap n202 < IntKind.i64.wrap n202 + m - n210) && decide (IntKind.i64.wrap n202 + m - n210 < b)) (∀ w272 R273, Ctx W w272 (R268 ++ R273) Φ269 → Calls Tryz.prog F.slices_symMergeCmpFunc_api_Pair #[.slice dataP dataN dataC, Value.int IntKind.i64 (IntKind.i64.wrap n202), Value.int IntKind.i64 (IntKind.i64.wrap n202 + m - n210), Value.int IntKind.i64 b, Value.func (Fn.func cmpF) #[] cmpC] w272 fun e274 w275 => e274 = .returned (Value.tuple #[]) ∧ ∃
  R276 Φ277, Stable Φ277 ∧ Ctx W w275 (R276 ++ R273) Φ277 ∧ ∀ w278 R279, Ctx W w278 (R276 ++ R279) Φ277 → J (Value.tuple #[]) w278) (∀ w280 R281, Ctx W w280 (R268 ++ R281) Φ269 → J (Value.tuple #[]) w280)) (∀ w282 R283, Ctx W w282 (R260 ++ R283) Φ261 → Br (decide (IntKind.i64.wrap n202 < IntKind.i64.wrap n202 + m - n210) && decide (IntKind.i64.wrap n202 + m - n210 < b)) (∀ w284 R285, Ctx W w284 (R260 ++ R285) Φ261 → Calls Tryz.prog F.slices_symMergeCmpFunc_api_Pair #[.slice dataP dataN dataC, Value.int IntKind.i64 (IntKind.i64.wrap n202), Value.int IntKind.i64 (IntKind.i64.wrap n202 + m - n210), Value.int IntKind.i64 b, Value.func (Fn.func cmpF) #[] cmpC] w284 fun e286 w287 => e286 = .returned (Value.tuple #[]) ∧ ∃ R288 Φ289, Stable Φ289 ∧ Ctx W w287 (R288 ++ R285) Φ289 ∧ ∀ w290 R291, Ctx W w290 (R288 ++ R291) Φ289 → J (Value.tuple #[]) w290) (∀ w292 R293, Ctx W w292 (R260 ++ R293) Φ261 →
  J (Value.tuple #[]) w292))) (∀ w294 R295, Ctx W w294 (R212 ++ R295) I213 → Br (decide (a < n210) && decide (n210 < IntKind.i64.wrap n202)) (∀ w296 R297, Ctx W w296 (R212 ++ R297) I213 → Calls Tryz.prog F.slices_symMergeCmpFunc_api_Pair #[.slice dataP dataN dataC, Value.int IntKind.i64 a, Value.int IntKind.i64 n210, Value.int IntKind.i64 (IntKind.i64.wrap n202), Value.func (Fn.func cmpF) #[] cmpC] w296 fun e298 w299 => e298 = .returned (Value.tuple #[]) ∧ ∃ R300 Φ301, Stable Φ301 ∧ Ctx W w299 (R300 ++ R297) Φ301 ∧ ∀ w302 R303, Ctx W w302 (R300 ++ R303) Φ301 → Br (decide (IntKind.i64.wrap n202 < IntKind.i64.wrap n202 + m - n210) && decide (IntKind.i64.wrap n202 + m - n210 < b)) (∀ w304 R305, Ctx W w304 (R300 ++ R305) Φ301 → Calls Tryz.prog F.slices_symMergeCmpFunc_api_Pair #[.slice dataP dataN dataC, Value.int IntKind.i64 (IntKind.i64.wrap n202), Value.int IntKind.i64 (IntKind.i64.wrap
  n202 + m - n210), Value.int IntKind.i64 b, Value.func (Fn.func cmpF) #[] cmpC] w304 fun e306 w307 => e306 = .returned (Value.tuple #[]) ∧ ∃ R308 Φ309, Stable Φ309 ∧ Ctx W w307 (R308 ++ R305) Φ309 ∧ ∀ w310 R311, Ctx W w310 (R308 ++ R311) Φ309 → J (Value.tuple #[]) w310) (∀ w312 R313, Ctx W w312 (R300 ++ R313) Φ301 → J (Value.tuple #[]) w312)) (∀ w314 R315, Ctx W w314 (R212 ++ R315) I213 → Br (decide (IntKind.i64.wrap n202 < IntKind.i64.wrap n202 + m - n210) && decide (IntKind.i64.wrap n202 + m - n210 < b)) (∀ w316 R317, Ctx W w316 (R212 ++ R317) I213 → Calls Tryz.prog F.slices_symMergeCmpFunc_api_Pair #[.slice dataP dataN dataC, Value.int IntKind.i64 (IntKind.i64.wrap n202), Value.int IntKind.i64 (IntKind.i64.wrap n202 + m - n210), Value.int IntKind.i64 b, Value.func (Fn.func cmpF) #[] cmpC] w316 fun e318 w319 => e318 = .returned (Value.tuple #[]) ∧ ∃ R320 Φ321, Stable Φ321 ∧ Ctx W w319
  (R320 ++ R317) Φ321 ∧ ∀ w322 R323, Ctx W w322 (R320 ++ R323) Φ321 → J (Value.tuple #[]) w322) (∀ w324 R325, Ctx W w324 (R212 ++ R325) I213 → J (Value.tuple #[]) w324))))) (I64 (IntKind.i64.wrap n202 + m - 1) ∧ exI fun (I326 : Int → Int → List Own → PW → Nat → Prop) => (∃ R327 Φ328 k329, Stable Φ328 ∧ Wk W R Φ R327 Φ328 ∧ I326 a m R327 Φ328 k329) ∧ ∀ n332 n333 R334 I335 k336, Stable I335 → I326 n332 n333 R334 I335 k336 → Br (decide (n332 < n333)) (I64 (n332 + n333) ∧ ∃ (n337 : Int), (∀ (w338 : World), Sem.run Tryz.prog (binOp BinOp.shr 136 (Value.int IntKind.u64 (IntKind.u64.wrap (n332 + n333))) (Value.int IntKind.u64 1)) w338 = Result.ok (Value.int IntKind.u64 n337) w338) ∧ ∃ R339 Φ340, Stable Φ340 ∧ Wk W R334 I335 R339 Φ340 ∧ I64 (IntKind.i64.wrap n202 + m - 1 - IntKind.i64.wrap n337) ∧ (0 ≤ IntKind.i64.wrap n337 ∧ IntKind.i64.wrap n337 < (↑dataN : Int)) ∧ ptrK none dataP fun k343 k344
  => (0 ≤ IntKind.i64.wrap n202 + m - 1 - IntKind.i64.wrap n337 ∧ IntKind.i64.wrap n202 + m - 1 - IntKind.i64.wrap n337 < (↑dataN : Int)) ∧ ptrK none dataP fun k345 k346 => ∃ (s347 s348 : ByteArray), (∀ w349 R350, Ctx W w349 (R339 ++ R350) Φ340 → ∃ s351 s352, RowAt w349 k343 (k344 + (IntKind.i64.wrap n337).toNat * 2) [.string s351, .string s352] ∧ Value.agg #[.string s351, .string s352] = Value.agg #[.string s347, .string s348]) ∧ ∃ (s353 s354 : ByteArray), (∀ w355 R356, Ctx W w355 (R339 ++ R356) Φ340 → ∃ s357 s358, RowAt w355 k345 (k346 + (IntKind.i64.wrap n202 + m - 1 - IntKind.i64.wrap n337).toNat * 2) [.string s357, .string s358] ∧ Value.agg #[.string s357, .string s358] = Value.agg #[.string s353, .string s354]) ∧ ∀ w359 R360, Ctx W w359 (R334 ++ R360) I335 → okFun Tryz.prog cmpF = true ∧ Calls Tryz.prog cmpF (Array.mk (Value.agg #[.string s353, .string s354] :: Value.agg #[.string
  s347, .string s348] :: cmpC.toList)) w359 fun e361 w362 => ∃ n363, e361 = .returned (.int .i64 n363) ∧ ∃ R364 Φ365, Stable Φ365 ∧ Ctx W w362 (R364 ++ R360) Φ365 ∧ Br (!decide (n363 < 0)) (I64 (IntKind.i64.wrap n337 + 1) ∧ ∃ R366 Φ367 k368, Stable Φ367 ∧ Wk W R364 Φ365 R366 Φ367 ∧ I326 (IntKind.i64.wrap n337 + 1) n333 R366 Φ367 k368 ∧ k368 < k336) (∃ R371 Φ372 k373, Stable Φ372 ∧ Wk W R364 Φ365 R371 Φ372 ∧ I326 n332 (IntKind.i64.wrap n337) R371 Φ372 k373 ∧ k373 < k336)) (I64 (IntKind.i64.wrap n202 + m - n332) ∧ ∀ w376 R377, Ctx W w376 (R334 ++ R377) I335 → Br (decide (n332 < m) && decide (m < IntKind.i64.wrap n202 + m - n332)) (∀ w378 R379, Ctx W w378 (R334 ++ R379) I335 → Calls Tryz.prog F.slices_rotateCmpFunc_api_Pair #[.slice dataP dataN dataC, Value.int IntKind.i64 n332, Value.int IntKind.i64 m, Value.int IntKind.i64 (IntKind.i64.wrap n202 + m - n332), Value.func (Fn.func cmpF) #[]
  cmpC] w378 fun e380 w381 => e380 = .returned (Value.tuple #[]) ∧ ∃ R382 Φ383, Stable Φ383 ∧ Ctx W w381 (R382 ++ R379) Φ383 ∧ ∀ w384 R385, Ctx W w384 (R382 ++ R385) Φ383 → Br (decide (a < n332) && decide (n332 < IntKind.i64.wrap n202)) (∀ w386 R387, Ctx W w386 (R382 ++ R387) Φ383 → Calls Tryz.prog F.slices_symMergeCmpFunc_api_Pair #[.slice dataP dataN dataC, Value.int IntKind.i64 a, Value.int IntKind.i64 n332, Value.int IntKind.i64 (IntKind.i64.wrap n202), Value.func (Fn.func cmpF) #[] cmpC] w386 fun e388 w389 => e388 = .returned (Value.tuple #[]) ∧ ∃ R390 Φ391, Stable Φ391 ∧ Ctx W w389 (R390 ++ R387) Φ391 ∧ ∀ w392 R393, Ctx W w392 (R390 ++ R393) Φ391 → Br (decide (IntKind.i64.wrap n202 < IntKind.i64.wrap n202 + m - n332) && decide (IntKind.i64.wrap n202 + m - n332 < b)) (∀ w394 R395, Ctx W w394 (R390 ++ R395) Φ391 → Calls Tryz.prog F.slices_symMergeCmpFunc_api_Pair #[.slice dataP dataN
  dataC, Value.int IntKind.i64 (IntKind.i64.wrap n202), Value.int IntKind.i64 (IntKind.i64.wrap n202 + m - n332), Value.int IntKind.i64 b, Value.func (Fn.func cmpF) #[] cmpC] w394 fun e396 w397 => e396 = .returned (Value.tuple #[]) ∧ ∃ R398 Φ399, Stable Φ399 ∧ Ctx W w397 (R398 ++ R395) Φ399 ∧ ∀ w400 R401, Ctx W w400 (R398 ++ R401) Φ399 → J (Value.tuple #[]) w400) (∀ w402 R403, Ctx W w402 (R390 ++ R403) Φ391 → J (Value.tuple #[]) w402)) (∀ w404 R405, Ctx W w404 (R382 ++ R405) Φ383 → Br (decide (IntKind.i64.wrap n202 < IntKind.i64.wrap n202 + m - n332) && decide (IntKind.i64.wrap n202 + m - n332 < b)) (∀ w406 R407, Ctx W w406 (R382 ++ R407) Φ383 → Calls Tryz.prog F.slices_symMergeCmpFunc_api_Pair #[.slice dataP dataN dataC, Value.int IntKind.i64 (IntKind.i64.wrap n202), Value.int IntKind.i64 (IntKind.i64.wrap n202 + m - n332), Value.int IntKind.i64 b, Value.func (Fn.func cmpF) #[] cmpC]
  w406 fun e408 w409 => e408 = .returned (Value.tuple #[]) ∧ ∃ R410 Φ411, Stable Φ411 ∧ Ctx W w409 (R410 ++ R407) Φ411 ∧ ∀ w412 R413, Ctx W w412 (R410 ++ R413) Φ411 → J (Value.tuple #[]) w412) (∀ w414 R415, Ctx W w414 (R382 ++ R415) Φ383 → J (Value.tuple #[]) w414))) (∀ w416 R417, Ctx W w416 (R334 ++ R417) I335 → Br (decide (a < n332) && decide (n332 < IntKind.i64.wrap n202)) (∀ w418 R419, Ctx W w418 (R334 ++ R419) I335 → Calls Tryz.prog F.slices_symMergeCmpFunc_api_Pair #[.slice dataP dataN dataC, Value.int IntKind.i64 a, Value.int IntKind.i64 n332, Value.int IntKind.i64 (IntKind.i64.wrap n202), Value.func (Fn.func cmpF) #[] cmpC] w418 fun e420 w421 => e420 = .returned (Value.tuple #[]) ∧ ∃ R422 Φ423, Stable Φ423 ∧ Ctx W w421 (R422 ++ R419) Φ423 ∧ ∀ w424 R425, Ctx W w424 (R422 ++ R425) Φ423 → Br (decide (IntKind.i64.wrap n202 < IntKind.i64.wrap n202 + m - n332) && decide
  (IntKind.i64.wrap n202 + m - n332 < b)) (∀ w426 R427, Ctx W w426 (R422 ++ R427) Φ423 → Calls Tryz.prog F.slices_symMergeCmpFunc_api_Pair #[.slice dataP dataN dataC, Value.int IntKind.i64 (IntKind.i64.wrap n202), Value.int IntKind.i64 (IntKind.i64.wrap n202 + m - n332), Value.int IntKind.i64 b, Value.func (Fn.func cmpF) #[] cmpC] w426 fun e428 w429 => e428 = .returned (Value.tuple #[]) ∧ ∃ R430 Φ431, Stable Φ431 ∧ Ctx W w429 (R430 ++ R427) Φ431 ∧ ∀ w432 R433, Ctx W w432 (R430 ++ R433) Φ431 → J (Value.tuple #[]) w432) (∀ w434 R435, Ctx W w434 (R422 ++ R435) Φ423 → J (Value.tuple #[]) w434)) (∀ w436 R437, Ctx W w436 (R334 ++ R437) I335 → Br (decide (IntKind.i64.wrap n202 < IntKind.i64.wrap n202 + m - n332) && decide (IntKind.i64.wrap n202 + m - n332 < b)) (∀ w438 R439, Ctx W w438 (R334 ++ R439) I335 → Calls Tryz.prog F.slices_symMergeCmpFunc_api_Pair #[.slice dataP dataN dataC, Value.int
  IntKind.i64 (IntKind.i64.wrap n202), Value.int IntKind.i64 (IntKind.i64.wrap n202 + m - n332), Value.int IntKind.i64 b, Value.func (Fn.func cmpF) #[] cmpC] w438 fun e440 w441 => e440 = .returned (Value.tuple #[]) ∧ ∃ R442 Φ443, Stable Φ443 ∧ Ctx W w441 (R442 ++ R439) Φ443 ∧ ∀ w444 R445, Ctx W w444 (R442 ++ R445) Φ443 → J (Value.tuple #[]) w444) (∀ w446 R447, Ctx W w446 (R334 ++ R447) I335 → J (Value.tuple #[]) w446)))))))
theorem Bslices_symMergeCmpFunc_api_Pair_run (dataP : Option Addr) (dataN dataC : Nat) (a : Int) (m : Int) (b : Int) (cmpF : FuncId) (cmpC : Array Value) {W w : World} {R : List Own} {Φ : PW} [Stable Φ] {J : Value → World → Prop} (c : Ctx W w R Φ) (h : Bslices_symMergeCmpFunc_api_Pair dataP dataN dataC a m b cmpF cmpC W R Φ J) : Calls Tryz.prog F.slices_symMergeCmpFunc_api_Pair #[.slice dataP dataN dataC, .int .i64 a, .int .i64 m, .int .i64 b, .func (.func cmpF) #[] cmpC] w fun e w' => ∃ v, e = .returned v ∧ J v w' :=
  vcFS_sound (H := { keep := some [0, 1, 2, 3, 4, 10, 11, 12, 13, 14, 15, 16, 17, 18, 19, 20, 21, 22, 23, 24, 28, 33, 50, 58, 80, 85, 103, 110, 140, 151, 171, 185, 199, 213], wrap := [49, 101, 169], stages := [(5, [.held [(0, true), (1, true), (2, true), (5, true), (6, true), (3, true), (7, true), (4, true), (8, true)], .stage [] (some 9), .stage [10] none]), (11, [.late [0, 1, 5, 6, 7, 8, 13, 9, 14] [0, 1, 2, 3, 5, 6, 10, 11, 4, 7, 12, 8, 13, 9, 14] [(15, [16]), (17, [])]]), (17, [.held [(0, true), (1, true), (2, true), (5, true), (6, true), (3, true), (7, true), (4, true), (8, true)], .stage [] (some 9), .stage [10, 11] none]), (23, [.late [0, 1, 5, 6, 7, 8, 13, 9, 14] [0, 1, 2, 3, 5, 6, 10, 11, 4, 7, 12, 8, 13, 9, 14] [(15, [16]), (17, [])]]), (35, [.held [(0, true), (1, true), (2, true), (3, true), (7, true), (8, true), (4, true), (9, true), (5, true), (10, true), (6, true)], .stage [] (some 11), .stage [12, 13] none])], loops := [(33, [(20, .one (.int .i64)), (21, .one (.int .i64))], []), (21, [(17, .one (.int .i64))], []), (15, [(14, .one (.int .i64)), (15, .one (.int .i64))], []), (9, [(13, .one (.int .i64))], []), (3, [(10, .one (.int .i64)), (11, .one (.int .i64))], [])] }) (by rw [show vcFS Tryz.prog W { keep := some [0, 1, 2, 3, 4, 10, 11, 12, 13, 14, 15, 16, 17, 18, 19, 20, 21, 22, 23, 24, 28, 33, 50, 58, 80, 85, 103, 110, 140, 151, 171, 185, 199, 213], wrap := [49, 101, 169], stages := [(5, [.held [(0, true), (1, true), (2, true), (5, true), (6, true), (3, true), (7, true), (4, true), (8, true)], .stage [] (some 9), .stage [10] none]), (11, [.late [0, 1, 5, 6, 7, 8, 13, 9, 14] [0, 1, 2, 3, 5, 6, 10, 11, 4, 7, 12, 8, 13, 9, 14] [(15, [16]), (17, [])]]), (17, [.held [(0, true), (1, true), (2, true), (5, true), (6, true), (3, true), (7, true), (4, true), (8, true)], .stage [] (some 9), .stage [10, 11] none]), (23, [.late [0, 1, 5, 6, 7, 8, 13, 9, 14] [0, 1, 2, 3, 5, 6, 10, 11, 4, 7, 12, 8, 13, 9, 14] [(15, [16]), (17, [])]]), (35, [.held [(0, true), (1, true), (2, true), (3, true), (7, true), (8, true), (4, true), (9, true), (5, true), (10, true), (6, true)], .stage [] (some 11), .stage [12, 13] none])], loops := [(33, [(20, .one (.int .i64)), (21, .one (.int .i64))], []), (21, [(17, .one (.int .i64))], []), (15, [(14, .one (.int .i64)), (15, .one (.int .i64))], []), (9, [(13, .one (.int .i64))], []), (3, [(10, .one (.int .i64)), (11, .one (.int .i64))], [])] } F.slices_symMergeCmpFunc_api_Pair #[.slice dataP dataN dataC, .int .i64 a, .int .i64 m, .int .i64 b, .func (.func cmpF) #[] cmpC] R Φ J = Bslices_symMergeCmpFunc_api_Pair dataP dataN dataC a m b cmpF cmpC W R Φ J by kernel_rfl]; exact h) c
def Bslices_rotateCmpFunc_api_Pair (dataP : Option Addr) (dataN dataC : Nat) (a : Int) (m : Int) (b : Int) (cmpF : FuncId) (cmpC : Array Value) (W : World) (R : List Own) (Φ : PW) (J : Value → World → Prop) : Prop :=
  I64 (m - a) ∧ I64 (b - m) ∧ exI fun (I0 : Int → Int → List Own → PW → Nat → Prop) => (∃ R1 Φ2 k3, Stable Φ2 ∧ Wk W R Φ R1 Φ2 ∧ I0 (m - a) (b - m) R1 Φ2 k3) ∧ ∀ n6 n7 R8 I9 k10, Stable I9 → I0 n6 n7 R8 I9 k10 → Br (decide (n6 ≠ n7)) (Br (decide (n7 < n6)) (I64 (m - n6) ∧ ∀ w11 R12, Ctx W w11 (R8 ++ R12) I9 → Calls Tryz.prog F.slices_swapRangeCmpFunc_api_Pair #[.slice dataP dataN dataC, Value.int IntKind.i64 (m - n6), Value.int IntKind.i64 m, Value.int IntKind.i64 n7, Value.func (Fn.func cmpF) #[] cmpC] w11 fun e13 w14 => e13 = .returned (Value.tuple #[]) ∧ ∃ R15 Φ16, Stable Φ16 ∧ Ctx W w14 (R15 ++ R12) Φ16 ∧ I64 (n6 - n7) ∧ ∃ R17 Φ18 k19, Stable Φ18 ∧ Wk W R15 Φ16 R17 Φ18 ∧ I0 (n6 - n7) n7 R17 Φ18 k19 ∧ k19 < k10) (I64 (m - n6) ∧ I64 (m + n7) ∧ I64 (m + n7 - n6) ∧ ∀ w22 R23, Ctx W w22 (R8 ++ R23) I9 → Calls Tryz.prog F.slices_swapRangeCmpFunc_api_Pair #[.slice dataP dataN dataC,
  Value.int IntKind.i64 (m - n6), Value.int IntKind.i64 (m + n7 - n6), Value.int IntKind.i64 n6, Value.func (Fn.func cmpF) #[] cmpC] w22 fun e24 w25 => e24 = .returned (Value.tuple #[]) ∧ ∃ R26 Φ27, Stable Φ27 ∧ Ctx W w25 (R26 ++ R23) Φ27 ∧ I64 (n7 - n6) ∧ ∃ R28 Φ29 k30, Stable Φ29 ∧ Wk W R26 Φ27 R28 Φ29 ∧ I0 n6 (n7 - n6) R28 Φ29 k30 ∧ k30 < k10)) (I64 (m - n6) ∧ ∀ w33 R34, Ctx W w33 (R8 ++ R34) I9 → Calls Tryz.prog F.slices_swapRangeCmpFunc_api_Pair #[.slice dataP dataN dataC, Value.int IntKind.i64 (m - n6), Value.int IntKind.i64 m, Value.int IntKind.i64 n6, Value.func (Fn.func cmpF) #[] cmpC] w33 fun e35 w36 => e35 = .returned (Value.tuple #[]) ∧ ∃ R37 Φ38, Stable Φ38 ∧ Ctx W w36 (R37 ++ R34) Φ38 ∧ ∀ w39 R40, Ctx W w39 (R37 ++ R40) Φ38 → J (Value.tuple #[]) w39)
theorem Bslices_rotateCmpFunc_api_Pair_run (dataP : Option Addr) (dataN dataC : Nat) (a : Int) (m : Int) (b : Int) (cmpF : FuncId) (cmpC : Array Value) {W w : World} {R : List Own} {Φ : PW} [Stable Φ] {J : Value → World → Prop} (c : Ctx W w R Φ) (h : Bslices_rotateCmpFunc_api_Pair dataP dataN dataC a m b cmpF cmpC W R Φ J) : Calls Tryz.prog F.slices_rotateCmpFunc_api_Pair #[.slice dataP dataN dataC, .int .i64 a, .int .i64 m, .int .i64 b, .func (.func cmpF) #[] cmpC] w fun e w' => ∃ v, e = .returned v ∧ J v w' :=
  vcFS_sound (H := { keep := some [0, 2, 3, 4, 10, 11, 20, 23], loops := [(2, [(10, .one (.int .i64)), (11, .one (.int .i64))], [])] }) (by rw [show vcFS Tryz.prog W { keep := some [0, 2, 3, 4, 10, 11, 20, 23], loops := [(2, [(10, .one (.int .i64)), (11, .one (.int .i64))], [])] } F.slices_rotateCmpFunc_api_Pair #[.slice dataP dataN dataC, .int .i64 a, .int .i64 m, .int .i64 b, .func (.func cmpF) #[] cmpC] R Φ J = Bslices_rotateCmpFunc_api_Pair dataP dataN dataC a m b cmpF cmpC W R Φ J by kernel_rfl]; exact h) c
def Bslices_swapRangeCmpFunc_api_Pair (dataP : Option Addr) (dataN dataC : Nat) (a : Int) (b : Int) (n : Int) (cmpF : FuncId) (cmpC : Array Value) (W : World) (R : List Own) (Φ : PW) (J : Value → World → Prop) : Prop :=
  exI fun (I0 : Int → List Own → PW → Nat → Prop) => (∃ R1 Φ2 k3, Stable Φ2 ∧ Wk W R Φ R1 Φ2 ∧ I0 0 R1 Φ2 k3) ∧ ∀ n6 R7 I8 k9, Stable I8 → I0 n6 R7 I8 k9 → Br (decide (n6 < n)) (∃ R10 Φ11, Stable Φ11 ∧ Wk W R7 I8 R10 Φ11 ∧ I64 (a + n6) ∧ I64 (b + n6) ∧ I64 (b + n6) ∧ I64 (a + n6) ∧ (0 ≤ b + n6 ∧ b + n6 < (↑dataN : Int)) ∧ ptrK none dataP fun k14 k15 => (0 ≤ a + n6 ∧ a + n6 < (↑dataN : Int)) ∧ ptrK none dataP fun k16 k17 => ∀ w18 R19, Ctx W w18 (R7 ++ R19) I8 → ∃ s20 s21, RowAt w18 k14 (k15 + (b + n6).toNat * 2) [.string s20, .string s21] ∧ ∀ w22 R23, Ctx W w22 (R7 ++ R23) I8 → ∃ s24 s25, RowAt w22 k16 (k17 + (a + n6).toNat * 2) [.string s24, .string s25] ∧ (0 ≤ a + n6 ∧ a + n6 < (↑dataN : Int)) ∧ ptrK none dataP fun k26 k27 => ∀ w28 R29, Ctx W w28 (R7 ++ R29) I8 → CanWrite w28 k26 (k27 + (a + n6).toNat * 2) 2 ∧ ∀ (w30 : World), w30 = w28.setCells k26 (k27 + (a + n6).toNat * 2) [.string
  s20, .string s21] → ∃ R31 Φ32, Stable Φ32 ∧ Ctx W w30 (R31 ++ R29) Φ32 ∧ Wk W R31 Φ32 R10 Φ11 ∧ (0 ≤ b + n6 ∧ b + n6 < (↑dataN : Int)) ∧ ptrK none dataP fun k35 k36 => ∀ w37 R38, Ctx W w37 (R31 ++ R38) Φ32 → CanWrite w37 k35 (k36 + (b + n6).toNat * 2) 2 ∧ ∀ (w39 : World), w39 = w37.setCells k35 (k36 + (b + n6).toNat * 2) [.string s24, .string s25] → ∃ R40 Φ41, Stable Φ41 ∧ Ctx W w39 (R40 ++ R38) Φ41 ∧ Wk W R40 Φ41 R10 Φ11 ∧ I64 (n6 + 1) ∧ ∃ R44 Φ45 k46, Stable Φ45 ∧ Wk W R40 Φ41 R44 Φ45 ∧ I0 (n6 + 1) R44 Φ45 k46 ∧ k46 < k9) (∀ w49 R50, Ctx W w49 (R7 ++ R50) I8 → J (Value.tuple #[]) w49)
theorem Bslices_swapRangeCmpFunc_api_Pair_run (dataP : Option Addr) (dataN dataC : Nat) (a : Int) (b : Int) (n : Int) (cmpF : FuncId) (cmpC : Array Value) {W w : World} {R : List Own} {Φ : PW} [Stable Φ] {J : Value → World → Prop} (c : Ctx W w R Φ) (h : Bslices_swapRangeCmpFunc_api_Pair dataP dataN dataC a b n cmpF cmpC W R Φ J) : Calls Tryz.prog F.slices_swapRangeCmpFunc_api_Pair #[.slice dataP dataN dataC, .int .i64 a, .int .i64 b, .int .i64 n, .func (.func cmpF) #[] cmpC] w fun e w' => ∃ v, e = .returned v ∧ J v w' :=
  vcFS_sound (H := { keep := some [0, 1, 2, 3, 10, 13], stages := [(3, [.late [0, 1, 2, 8, 9, 10, 3, 11, 12, 13, 19, 20] [0, 1, 2, 4, 5, 6, 8, 9, 10, 14, 15, 16, 3, 7, 11, 17, 12, 18, 13, 19, 20] [(21, [22]), (23, [])]])], loops := [(1, [(10, .one (.int .i64))], [])] }) (by rw [show vcFS Tryz.prog W { keep := some [0, 1, 2, 3, 10, 13], stages := [(3, [.late [0, 1, 2, 8, 9, 10, 3, 11, 12, 13, 19, 20] [0, 1, 2, 4, 5, 6, 8, 9, 10, 14, 15, 16, 3, 7, 11, 17, 12, 18, 13, 19, 20] [(21, [22]), (23, [])]])], loops := [(1, [(10, .one (.int .i64))], [])] } F.slices_swapRangeCmpFunc_api_Pair #[.slice dataP dataN dataC, .int .i64 a, .int .i64 b, .int .i64 n, .func (.func cmpF) #[] cmpC] R Φ J = Bslices_swapRangeCmpFunc_api_Pair dataP dataN dataC a b n cmpF cmpC W R Φ J by kernel_rfl]; exact h) c
end Go.Proofs.YtebnciehcnedjaaGreatDoor
end

section
namespace Go.Proofs.YtebnciehcnedjaaGreatDoor
open Go.Vc
abbrev bufE (p : Option Addr) (cap : Nat) (es : List PE) : Own := .buf p es.length cap (cellsE es) 69 2
theorem e_ptr {W w : World} {S : List Own} {Φ : PW} {p : Option Addr} {cap : Nat} {es : List PE} (cx : Ctx W w (bufE p cap es :: S) Φ) (h : 0 < es.length) : ∃ g, p = some ⟨g, 0, none⟩ := by
  obtain ⟨g, hg, _⟩ := cx.bufCell 0 rfl (by rw [cellsE_len]; omega)
  exact ⟨g, hg⟩
theorem e_row {W w : World} {S : List Own} {Φ : PW} {g cap : Nat} {es : List PE} (cx : Ctx W w (bufE (some ⟨g, 0, none⟩) cap es :: S) Φ) {i : Nat} {X : PE} (hX : es[i]? = some X) : RowAt w g (i * 2) X.cells := by
  obtain ⟨hi, rfl⟩ := List.getElem?_eq_some_iff.1 hX
  exact cx.bufRow 0 rfl rfl (rows_of (cellsE_at hi))
theorem e_can {W w : World} {S : List Own} {Φ : PW} {g cap : Nat} {es : List PE} (cx : Ctx W w (bufE (some ⟨g, 0, none⟩) cap es :: S) Φ) {i : Nat} (hi : i < es.length) : CanWrite w g (i * 2) 2 :=
  cx.bufCan 0 rfl rfl (by rw [cellsE_len]; omega)
theorem e_put {W w w' : World} {S : List Own} {Φ : PW} [Stable Φ] {g cap : Nat} {es : List PE} (cx : Ctx W w (bufE (some ⟨g, 0, none⟩) cap es :: S) Φ) {i : Nat} (hi : i < es.length) (x : PE) (e : w' = w.setCells g (i * 2) x.cells) :
    Ctx W w' (bufE (some ⟨g, 0, none⟩) cap (es.set i x) :: S) Φ := by
  have h := cx.bufPuts 0 rfl rfl (by rw [cellsE_len]; omega) (by rw [cellsE_len]; simp only [List.length_cons, List.length_nil]; omega) e
  rw [cellsE_set hi] at h
  have hl : (es.set i x).length = es.length := by simp
  unfold bufE
  rw [hl]
  exact h
theorem swap_mid (u x v y z : List PE) (i : Nat) (hx : i < x.length) (hy : i < y.length) (hxy : x.length = y.length) :
    swp (u ++ (y.take i ++ x.drop i) ++ v ++ (x.take i ++ y.drop i) ++ z) (u.length + i) (u.length + x.length + v.length + i) = u ++ (y.take (i + 1) ++ x.drop (i + 1)) ++ v ++ (x.take (i + 1) ++ y.drop (i + 1)) ++ z := by
  have h := swp_far (u ++ y.take i) x[i] (x.drop (i + 1) ++ v ++ x.take i) y[i] (y.drop (i + 1) ++ z)
  have e1 : u ++ (y.take i ++ x.drop i) ++ v ++ (x.take i ++ y.drop i) ++ z = (u ++ y.take i) ++ x[i] :: ((x.drop (i + 1) ++ v ++ x.take i) ++ y[i] :: (y.drop (i + 1) ++ z)) := by
    rw [List.drop_eq_getElem_cons hx, List.drop_eq_getElem_cons hy]
    simp only [List.append_assoc, List.cons_append]
  have e2 : u ++ (y.take (i + 1) ++ x.drop (i + 1)) ++ v ++ (x.take (i + 1) ++ y.drop (i + 1)) ++ z = (u ++ y.take i) ++ y[i] :: ((x.drop (i + 1) ++ v ++ x.take i) ++ x[i] :: (y.drop (i + 1) ++ z)) := by
    rw [List.take_succ_eq_append_getElem hx, List.take_succ_eq_append_getElem hy]
    simp only [List.append_assoc, List.cons_append, List.nil_append]
  have e3 : (u ++ y.take i).length = u.length + i := by simp; omega
  have e4 : (u ++ y.take i).length + 1 + (x.drop (i + 1) ++ v ++ x.take i).length = u.length + x.length + v.length + i := by simp; omega
  rw [e4, e3] at h
  rw [e1, e2]
  exact h
theorem e_swap {W w : World} {S : List Own} {Φ : PW} [Stable Φ] {g cap : Nat} {es : List PE} {i j : Nat} {X Y : PE} (hX : es[i]? = some X) (hY : es[j]? = some Y) {w1 : World} (cx : Ctx W w (bufE (some ⟨g, 0, none⟩) cap es :: S) Φ) (e : w1 = w.setCells g (i * 2) Y.cells) :
    Ctx W w1 (bufE (some ⟨g, 0, none⟩) cap (es.set i Y) :: S) Φ := by
  obtain ⟨hi, rfl⟩ := List.getElem?_eq_some_iff.1 hX
  exact e_put cx hi _ e
theorem e_swap2 {W w2 w3 : World} {S : List Own} {Φ : PW} [Stable Φ] {g cap : Nat} {es : List PE} {i j : Nat} {X Y : PE} (hX : es[i]? = some X) (hY : es[j]? = some Y) (cx : Ctx W w2 (bufE (some ⟨g, 0, none⟩) cap (es.set i Y) :: S) Φ) (e : w3 = w2.setCells g (j * 2) X.cells) :
    Ctx W w3 (bufE (some ⟨g, 0, none⟩) cap (swp es i j) :: S) Φ := by
  obtain ⟨hi, rfl⟩ := List.getElem?_eq_some_iff.1 hX
  obtain ⟨hj, rfl⟩ := List.getElem?_eq_some_iff.1 hY
  rw [swp_eq hi hj]
  exact e_put cx (by simpa using hj) _ e
set_option maxHeartbeats 1000000 in
theorem swapRange_use {W w : World} {S : List Own} {Φ : PW} [Stable Φ] {p : Option Addr} {cap N : Nat} {f : FuncId} {cp : Array Value} (u x v y z : List PE) (hxy : x.length = y.length) (cx : Ctx W w (bufE p cap (u ++ x ++ v ++ y ++ z) :: S) Φ) (hN : N = (u ++ x ++ v ++ y ++ z).length)
    (hlen : (u ++ x ++ v ++ y ++ z).length ≤ 100000000) {a b n : Int} (ha : a = u.length) (hb : b = u.length + x.length + v.length) (hn : n = x.length) {K : Ending → World → Prop}
    (hK : ∀ w', Ctx W w' (bufE p cap (u ++ y ++ v ++ x ++ z) :: S) Φ → K (.returned (.tuple #[])) w') : Calls Tryz.prog F.slices_swapRangeCmpFunc_api_Pair #[.slice p N cap, .int .i64 a, .int .i64 b, .int .i64 n, .func (.func f) #[] cp] w K := by
  subst hN ha hb hn
  have hl : (u ++ x ++ v ++ y ++ z).length = u.length + x.length + v.length + x.length + z.length := by simp; omega
  refine (Bslices_swapRangeCmpFunc_api_Pair_run p (u ++ x ++ v ++ y ++ z).length cap u.length ((u.length : Int) + x.length + v.length) x.length f cp (J := fun u w' => K (.returned u) w') cx ?_).mono fun e w' ⟨v, he, hj⟩ => by rw [he]; exact hj
  obtain ⟨E, hE⟩ : ∃ E : Nat → List PE, ∀ i, E i = u ++ (y.take i ++ x.drop i) ++ v ++ (x.take i ++ y.drop i) ++ z := ⟨_, fun _ => rfl⟩
  have hEl : ∀ i, i ≤ x.length → (E i).length = u.length + x.length + v.length + x.length + z.length := fun i hi => by rw [hE]; simp; omega
  have h0 : E 0 = u ++ x ++ v ++ y ++ z := by rw [hE]; simp
  have hfin : E x.length = u ++ y ++ v ++ x ++ z := by rw [hE]; simp [hxy, List.take_of_length_le, List.drop_of_length_le]
  refine exI_mk (fun iI R' Φ' k => ∃ i : Nat, iI = i ∧ i ≤ x.length ∧ R' = bufE p cap (E i) :: S ∧ Φ' = Φ ∧ k = x.length - i) ⟨⟨_, Φ, _, inferInstance, fun w G cx => by rw [h0]; exact cx, 0, rfl, Nat.zero_le _, rfl, rfl, rfl⟩, ?_⟩
  have hp : 0 < x.length → ∃ g, p = some ⟨g, 0, none⟩ := fun h => e_ptr cx (by omega)
  clear cx
  rintro iI R1 Φ1 k _ ⟨i, rfl, hi, rfl, rfl, rfl⟩
  refine Br.intro (fun hlt => ?_) (fun hge => fun w G cx => ?_)
  · have hlt : i < x.length := by have := of_decide_eq_true hlt; omega
    have hEi := hEl i (by omega)
    have hE1 : swp (E i) (u.length + i) (u.length + x.length + v.length + i) = E (i + 1) := by rw [hE, hE]; exact swap_mid u x v y z i hlt (by omega) hxy
    generalize E i = es at hEi hE1
    obtain ⟨X, hX⟩ : ∃ X, es[u.length + i]? = some X := ⟨_, List.getElem?_eq_getElem (by omega)⟩
    obtain ⟨Y, hY⟩ : ∃ Y, es[u.length + x.length + v.length + i]? = some Y := ⟨_, List.getElem?_eq_getElem (by omega)⟩
    have na : ((u.length : Int) + i).toNat = u.length + i := by omega
    have nb : ((u.length : Int) + x.length + v.length + i).toNat = u.length + x.length + v.length + i := by omega
    obtain ⟨g, rfl⟩ := hp (by omega)
    refine ⟨[], fun _ _ => True, inferInstance, fun w G cx => (cx.weak fun _ _ _ => trivial).right, by unfold I64; omega, by unfold I64; omega, by unfold I64; omega, by unfold I64; omega, by omega, ptrK_intro g 0 rfl ⟨by omega, ptrK_intro g 0 rfl fun w G cx => ⟨Y.d.key, Y.d.val, by rw [Nat.zero_add, nb]; exact e_row cx hY, fun w G cx => ⟨X.d.key, X.d.val, by rw [Nat.zero_add, na]; exact e_row cx hX, by omega, ptrK_intro g 0 rfl fun w G cx => ⟨by rw [Nat.zero_add, na]; exact e_can cx (by omega), fun w' hw' => ?_⟩⟩⟩⟩⟩
    rw [Nat.zero_add, na] at hw'
    refine ⟨bufE (some ⟨g, 0, none⟩) cap (es.set (u.length + i) Y) :: S, Φ1, inferInstance, e_swap hX hY cx hw', fun w G cx => (cx.weak fun _ _ _ => trivial).right, by omega, ptrK_intro g 0 rfl fun w G cx => ⟨by rw [Nat.zero_add, nb]; exact e_can cx (by rw [List.length_set]; omega), fun w' hw' => ?_⟩⟩
    rw [Nat.zero_add, nb] at hw'
    have cx2 := e_swap2 hX hY cx hw'
    rw [hE1] at cx2
    exact ⟨bufE (some ⟨g, 0, none⟩) cap (E (i + 1)) :: S, Φ1, inferInstance, cx2, fun w G cx => (cx.weak fun _ _ _ => trivial).right, by unfold I64; omega, _, Φ1, x.length - (i + 1), inferInstance, fun w G cx => cx, ⟨i + 1, by omega, by omega, rfl, rfl, rfl⟩, by omega⟩
  · have hge : i = x.length := by have := of_decide_eq_false hge; omega
    subst hge
    rw [hfin] at cx
    exact hK w cx.left
end Go.Proofs.YtebnciehcnedjaaGreatDoor
end

section
namespace Go.Proofs.YtebnciehcnedjaaGreatDoor
open Go.Vc
set_option maxHeartbeats 1000000 in
theorem rotate_use {W w : World} {S : List Own} {Φ : PW} [Stable Φ] {p : Option Addr} {cap N : Nat} {f : FuncId} {cp : Array Value} (u x y z : List PE) (hx : 0 < x.length) (hy : 0 < y.length) (cx : Ctx W w (bufE p cap (u ++ x ++ y ++ z) :: S) Φ) (hN : N = (u ++ x ++ y ++ z).length)
    (hlen : (u ++ x ++ y ++ z).length ≤ 100000000) {a m b : Int} (ha : a = u.length) (hm : m = u.length + x.length) (hb : b = u.length + x.length + y.length) {K : Ending → World → Prop}
    (hK : ∀ w', Ctx W w' (bufE p cap (u ++ y ++ x ++ z) :: S) Φ → K (.returned (.tuple #[])) w') : Calls Tryz.prog F.slices_rotateCmpFunc_api_Pair #[.slice p N cap, .int .i64 a, .int .i64 m, .int .i64 b, .func (.func f) #[] cp] w K := by
  subst hN ha hm hb
  have hl : (u ++ x ++ y ++ z).length = u.length + x.length + y.length + z.length := by simp; omega
  refine (Bslices_rotateCmpFunc_api_Pair_run p (u ++ x ++ y ++ z).length cap u.length ((u.length : Int) + x.length) ((u.length : Int) + x.length + y.length) f cp (J := fun u w' => K (.returned u) w') cx ?_).mono fun e w' ⟨v, he, hj⟩ => by rw [he]; exact hj
  refine ⟨by unfold I64; omega, by unfold I64; omega, ?_⟩
  refine exI_mk (fun i j R' Φ' k => ∃ u' X Y z' : List PE, i = X.length ∧ j = Y.length ∧ 0 < X.length ∧ 0 < Y.length ∧ u'.length + X.length = u.length + x.length ∧ u' ++ Y ++ X ++ z' = u ++ y ++ x ++ z ∧ R' = bufE p cap (u' ++ X ++ Y ++ z') :: S ∧ Φ' = Φ ∧ k = X.length + Y.length)
    ⟨⟨_, Φ, _, inferInstance, fun w G cx => cx, u, x, y, z, by omega, by omega, hx, hy, rfl, rfl, rfl, rfl, rfl⟩, ?_⟩
  clear cx
  rintro _ _ R1 Φ1 k _ ⟨u', X, Y, z', rfl, rfl, h1, h2, h3, h4, rfl, rfl, rfl⟩
  have hl2 : u'.length + Y.length + X.length + z'.length = u.length + x.length + y.length + z.length := by
    have := congrArg List.length h4
    simp only [List.length_append] at this
    omega
  have hN : (u ++ x ++ y ++ z).length = (u' ++ X ++ Y ++ z').length := by simp only [List.length_append]; omega
  have hlen' : (u' ++ X ++ Y ++ z').length ≤ 100000000 := by rw [← hN]; exact hlen
  refine Br.intro (fun hne => Br.intro (fun hgt => ?_) (fun hle => ?_)) (fun heq => ?_)
  · have hgt := of_decide_eq_true hgt
    have hgt : Y.length < X.length := by omega
    have e1 : X = X.take Y.length ++ X.drop Y.length := (List.take_append_drop _ _).symm
    obtain ⟨A, hA⟩ : ∃ A, X.take Y.length = A := ⟨_, rfl⟩
    obtain ⟨B, hB⟩ : ∃ B, X.drop Y.length = B := ⟨_, rfl⟩
    have hAl : A.length = Y.length := by rw [← hA, List.length_take]; omega
    have hBl : B.length = X.length - Y.length := by rw [← hB, List.length_drop]
    rw [hA, hB] at e1
    refine ⟨by unfold I64; omega, fun w G cx => ?_⟩
    refine swapRange_use (S := S ++ G) u' A B Y z' hAl (by rw [e1] at cx; exact cx.re (by simp)) (by rw [hN, e1]; simp) (by rw [e1] at hlen'; simpa using hlen') (by omega) (by omega) (by omega) fun w cx => ⟨rfl, bufE p cap ((u' ++ Y) ++ B ++ A ++ z') :: S, Φ1, inferInstance, cx.re (by simp), by unfold I64; omega, _, Φ1, B.length + A.length, inferInstance, fun w G cx => cx, ⟨u' ++ Y, B, A, z', by omega, by omega, by omega, by omega, by simp only [List.length_append]; omega, by rw [← h4, e1]; simp, rfl, rfl, rfl⟩, by omega⟩
  · have hle := of_decide_eq_false hle
    have hne := of_decide_eq_true hne
    have hgt : X.length < Y.length := by omega
    have e1 : Y = Y.take (Y.length - X.length) ++ Y.drop (Y.length - X.length) := (List.take_append_drop _ _).symm
    obtain ⟨A, hA⟩ : ∃ A, Y.take (Y.length - X.length) = A := ⟨_, rfl⟩
    obtain ⟨B, hB⟩ : ∃ B, Y.drop (Y.length - X.length) = B := ⟨_, rfl⟩
    have hAl : A.length = Y.length - X.length := by rw [← hA, List.length_take]; omega
    have hBl : B.length = X.length := by rw [← hB, List.length_drop]; omega
    rw [hA, hB] at e1
    refine ⟨by unfold I64; omega, by unfold I64; omega, by unfold I64; omega, fun w G cx => ?_⟩
    refine swapRange_use (S := S ++ G) u' X A B z' hBl.symm (by rw [e1] at cx; exact cx.re (by simp)) (by rw [hN, e1]; simp) (by rw [e1] at hlen'; simpa using hlen') (by omega) (by omega) (by omega) fun w cx => ⟨rfl, bufE p cap (u' ++ B ++ A ++ (X ++ z')) :: S, Φ1, inferInstance, cx.re (by simp), by unfold I64; omega, _, Φ1, B.length + A.length, inferInstance, fun w G cx => cx, ⟨u', B, A, X ++ z', by omega, by omega, by omega, by omega, by omega, by rw [← h4, e1]; simp, rfl, rfl, rfl⟩, by omega⟩
  · have heq := of_decide_eq_false heq
    refine ⟨by unfold I64; omega, fun w G cx => ?_⟩
    refine swapRange_use (S := S ++ G) u' X [] Y z' (by omega) (cx.re (by simp)) (by rw [hN]; simp) (by simpa using hlen') (by omega) (by simp only [List.length_nil]; omega) (by omega) fun w cx => ⟨rfl, bufE p cap (u' ++ Y ++ X ++ z') :: S, Φ1, inferInstance, cx.re (by simp), fun w G cx => hK w ?_⟩
    rw [h4] at cx
    exact cx.left
abbrev cmpE (x y : PE) : Int := cmpT x.d.key y.d.key
abbrev leE (x y : PE) : Prop := cmpT x.d.key y.d.key < 0 ∨ x.d.key = y.d.key ∧ x.idx ≤ y.idx
theorem ordE : Ord leE := by
  refine ⟨fun x y => ?_, fun x y z h1 h2 => ?_⟩
  · rcases cmpT_cmp.tri x.d.key y.d.key with h | h | h
    · exact .inl (.inl h)
    · rcases Nat.le_total x.idx y.idx with hi | hi
      · exact .inl (.inr ⟨h, hi⟩)
      · exact .inr (.inr ⟨h.symm, hi⟩)
    · exact .inr (.inl h)
  · rcases h1 with a | ⟨a, a2⟩
    · rcases h2 with b | ⟨b, b2⟩
      · exact .inl (cmpT_cmp.trans _ _ _ a b)
      · exact .inl (by rw [← b]; exact a)
    · rcases h2 with b | ⟨b, b2⟩
      · exact .inl (by rw [a]; exact b)
      · exact .inr ⟨a.trans b, Nat.le_trans a2 b2⟩
theorem leE_of_lt {x y : PE} (h : cmpT x.d.key y.d.key < 0) : leE x y := .inl h
theorem leE_not {x y : PE} (h : ¬ cmpT x.d.key y.d.key < 0) (hi : y.idx ≤ x.idx) : leE y x := by
  rcases cmpT_cmp.tri x.d.key y.d.key with h1 | h1 | h1
  · exact absurd h1 h
  · exact .inr ⟨h1.symm, hi⟩
  · exact .inl h1
def Early (x y : List PE) : Prop := ∀ a ∈ x, ∀ b ∈ y, a.idx ≤ b.idx
abbrev Idx (x : List PE) : Prop := x.Pairwise fun a b => a.idx ≤ b.idx
theorem Early.perm {x x' y y' : List PE} (h : Early x y) (hx : x'.Perm x) (hy : y'.Perm y) : Early x' y' := fun a ha b hb => h a (hx.mem_iff.1 ha) b (hy.mem_iff.1 hb)
def CmpFn (Φ : PW) (f : FuncId) (cp : Array Value) (G : PE → Prop) : Prop := okFun Tryz.prog f = true ∧ ∀ x y : PE, G x → G y → GivesIn Φ Tryz.prog f (Array.mk (x.v :: y.v :: cp.toList)) (.int .i64 (cmpE x y))
set_option maxHeartbeats 2000000 in
theorem insertionSort_use {W w : World} {S : List Own} {Φ : PW} [Stable Φ] {p : Option Addr} {cap N : Nat} {f : FuncId} {cp : Array Value} {P : PE → Prop} (hf : CmpFn Φ f cp P) (u x z : List PE) (hP : ∀ e ∈ x, P e) (hI : Idx x) (cx : Ctx W w (bufE p cap (u ++ x ++ z) :: S) Φ) (hN : N = (u ++ x ++ z).length)
    (hlen : (u ++ x ++ z).length ≤ 100000000) {a b : Int} (ha : a = u.length) (hb : b = u.length + x.length) {K : Ending → World → Prop}
    (hK : ∀ x' w', x'.Perm x → Asc leE x' → Ctx W w' (bufE p cap (u ++ x' ++ z) :: S) Φ → K (.returned (.tuple #[])) w') : Calls Tryz.prog F.slices_insertionSortCmpFunc_api_Pair #[.slice p N cap, .int .i64 a, .int .i64 b, .func (.func f) #[] cp] w K := by
  subst hN ha hb
  have hl : (u ++ x ++ z).length = u.length + x.length + z.length := by simp; omega
  refine (Bslices_insertionSortCmpFunc_api_Pair_run p (u ++ x ++ z).length cap u.length ((u.length : Int) + x.length) f cp (J := fun u w' => K (.returned u) w') cx ?_).mono fun e w' ⟨v, he, hj⟩ => by rw [he]; exact hj
  have hp : 0 < x.length → ∃ g, p = some ⟨g, 0, none⟩ := fun h => e_ptr cx (by omega)
  refine ⟨by unfold I64; omega, ?_⟩
  refine exI_mk (fun i R' Φ' k => ∃ (s r : List PE), i = (u.length : Int) + max s.length 1 ∧ (s ++ r).Perm x ∧ Asc leE s ∧ Early s r ∧ Idx r ∧ (s.length = 0 → r = []) ∧ R' = bufE p cap (u ++ s ++ r ++ z) :: S ∧ Φ' = Φ ∧ k = r.length)
    ⟨⟨bufE p cap (u ++ x.take 1 ++ x.drop 1 ++ z) :: S, Φ, (x.drop 1).length, inferInstance, fun w G cx => cx.re (by rw [List.append_assoc u (x.take 1), List.take_append_drop]), x.take 1, x.drop 1, by rw [List.length_take]; omega, by rw [List.take_append_drop], ?_, fun a ha b hb => ?_, hI.sublist (List.drop_sublist 1 x), fun h => ?_, rfl, rfl, rfl⟩, ?_⟩
  · cases x with
    | nil => simp
    | cons e x => simp
  · have h2 := hI
    rw [← List.take_append_drop 1 x] at h2
    exact (List.pairwise_append.1 h2).2.2 a ha b hb
  · have : x = [] := by
      cases x with
      | nil => rfl
      | cons e x => simp at h
    rw [this]; rfl
  clear cx
  rintro _ R1 Φ1 k _ ⟨s, r, rfl, hperm, hasc, hear, hidx, hnil, rfl, rfl, rfl⟩
  have hlp := hperm.length_eq
  rw [List.length_append] at hlp
  refine Br.intro (fun hlt => ?_) (fun hge => fun w G cx => ?_)
  · have hlt := of_decide_eq_true hlt
    have hs0 : 0 < s.length := by
      rcases Nat.eq_zero_or_pos s.length with h | h
      · have := hnil h; rw [this] at hlp; simp at hlp; omega
      · exact h
    obtain ⟨e, r, rfl⟩ : ∃ e r', r = e :: r' := by
      cases r with
      | nil => simp at hlp; omega
      | cons e r' => exact ⟨e, r', rfl⟩
    simp only [List.length_cons] at hlp
    obtain ⟨g, rfl⟩ := hp (by omega)
    have hPe : P e := hP e (hperm.mem_iff.1 (by simp))
    have hPs : ∀ y ∈ s, P y := fun y hy => hP y (hperm.mem_iff.1 (by simp [hy]))
    have hIe : ∀ y ∈ s, y.idx ≤ e.idx := fun y hy => hear y hy e (by simp)
    have hse : ∀ s' : List PE, s'.Perm (e :: s) → Early s' r := fun s' hs' a ha b hb => by
      rcases List.mem_cons.1 (hs'.mem_iff.1 ha) with rfl | ha
      · exact (List.pairwise_cons.1 hidx).1 b hb
      · exact hear a ha b (by simp [hb])
    have hidr := (List.pairwise_cons.1 hidx).2
    -- the element goes down
    refine exI_mk (fun j R' Φ' k => ∃ s1 s2 : List PE, j = (u.length : Int) + s1.length ∧ s = s1 ++ s2 ∧ (∀ y ∈ s2, leE e y) ∧ R' = bufE (some ⟨g, 0, none⟩) cap (u ++ s1 ++ e :: s2 ++ r ++ z) :: S ∧ Φ' = Φ1 ∧ k = s1.length)
      ⟨⟨_, Φ1, _, inferInstance, fun w G cx => cx.re (by simp), s, [], by omega, by simp, by simp, rfl, rfl, rfl⟩, ?_⟩
    rintro _ R2 Φ2 k _ ⟨s1, s2, rfl, rfl, hle, rfl, rfl, rfl⟩
    simp only [List.length_append] at hlp hlt hs0
    have hEl : (u ++ s1 ++ e :: s2 ++ r ++ z).length = u.length + s1.length + 1 + s2.length + r.length + z.length := by simp; omega
    have next : Asc leE (s1 ++ e :: s2) → ((u.length : Int) + max (s1 ++ s2).length 1 + 1 = (u.length : Int) + max (s1 ++ e :: s2).length 1) ∧ ((s1 ++ e :: s2) ++ r).Perm x := fun _ => by
      refine ⟨by simp only [List.length_append, List.length_cons]; omega, ?_⟩
      refine List.Perm.trans ?_ hperm
      simp only [List.append_assoc, List.cons_append]
      refine List.Perm.append_left _ ?_
      exact (List.perm_middle (l₁ := s2)).symm
    refine ⟨bufE (some ⟨g, 0, none⟩) cap (u ++ s1 ++ e :: s2 ++ r ++ z) :: S, Φ2, inferInstance, fun w G cx => cx, Br.intro (fun hj => ?_) (fun hj => ?_)⟩
    · have hj := of_decide_eq_true hj
      have hs1 : s1 ≠ [] := fun h => by rw [h] at hj; simp at hj
      obtain ⟨t, y, rfl⟩ : ∃ t y, s1 = t ++ [y] := ⟨s1.dropLast, s1.getLast hs1, (List.dropLast_concat_getLast hs1).symm⟩
      simp only [List.length_append, List.length_cons, List.length_nil] at hlp hlt
      clear hEl
      obtain ⟨E, hE⟩ : ∃ E, u ++ (t ++ [y]) ++ e :: s2 ++ r ++ z = E := ⟨_, rfl⟩
      have hE' : E = (u ++ t) ++ y :: e :: (s2 ++ r ++ z) := by rw [← hE]; simp
      have hX : E[u.length + t.length + 1]? = some e := by
        rw [hE', List.getElem?_append_right (by simp)]
        simp
      have hY : E[u.length + t.length]? = some y := by
        rw [hE', List.getElem?_append_right (by simp)]
        simp
      have hsw : swp E (u.length + t.length + 1) (u.length + t.length) = (u ++ t) ++ e :: y :: (s2 ++ r ++ z) := by
        have h1 := swp_next (u ++ t) y e (s2 ++ r ++ z)
        rw [← h1, hE', List.length_append]
        have hi : u.length + t.length < ((u ++ t) ++ y :: e :: (s2 ++ r ++ z)).length := by simp
        have hj' : u.length + t.length + 1 < ((u ++ t) ++ y :: e :: (s2 ++ r ++ z)).length := by simp; omega
        rw [swp_eq hj' hi, swp_eq hi hj', List.set_comm _ _ (by omega)]
      have hEl : E.length = u.length + t.length + 2 + s2.length + r.length + z.length := by rw [hE']; simp; omega
      rw [hE]
      have n1 : ((u.length : Int) + ((t ++ [y]).length : Nat)).toNat = u.length + t.length + 1 := by simp; omega
      have n2 : ((u.length : Int) + ((t ++ [y]).length : Nat) - 1).toNat = u.length + t.length := by simp; omega
      have nl : ((t ++ [y]).length : Int) = t.length + 1 := by simp
      have hcall := hf.2 e y hPe (hPs y (by simp))
      refine ⟨by omega, ptrK_intro g 0 rfl ⟨by unfold I64; omega, e.d.key, e.d.val, fun w G cx => ⟨_, _, by rw [Nat.zero_add, n1]; exact e_row cx hX, rfl⟩, by omega, ptrK_intro g 0 rfl ⟨y.d.key, y.d.val, fun w G cx => ⟨_, _, by rw [Nat.zero_add, n2]; exact e_row cx hY, rfl⟩, fun w G cx => ⟨hf.1, hcall.use cx fun w cx => ⟨_, rfl, bufE (some ⟨g, 0, none⟩) cap E :: S, Φ2, inferInstance, cx, Br.intro (fun hc => ?_) (fun hc => ?_)⟩⟩⟩⟩⟩
      · have hc := of_decide_eq_true hc
        refine ⟨[], fun _ _ => True, inferInstance, fun w G cx => (cx.weak fun _ _ _ => trivial).right, by unfold I64; omega, by unfold I64; omega, by omega, ptrK_intro g 0 rfl ⟨by omega, ptrK_intro g 0 rfl fun w G cx => ⟨e.d.key, e.d.val, by rw [Nat.zero_add, n1]; exact e_row cx hX, fun w G cx => ⟨y.d.key, y.d.val, by rw [Nat.zero_add, n2]; exact e_row cx hY, by omega, ptrK_intro g 0 rfl fun w G cx => ⟨by rw [Nat.zero_add, n1]; exact e_can cx (by omega), fun w' hw' => ?_⟩⟩⟩⟩⟩
        rw [Nat.zero_add, n1] at hw'
        refine ⟨bufE (some ⟨g, 0, none⟩) cap (E.set (u.length + t.length + 1) y) :: S, Φ2, inferInstance, e_swap hX hY cx hw', fun w G cx => (cx.weak fun _ _ _ => trivial).right, by omega, ptrK_intro g 0 rfl fun w G cx => ⟨by rw [Nat.zero_add, n2]; exact e_can cx (by rw [List.length_set]; omega), fun w' hw' => ?_⟩⟩
        rw [Nat.zero_add, n2] at hw'
        have cx2 := e_swap2 hX hY cx hw'
        rw [hsw] at cx2
        refine ⟨bufE (some ⟨g, 0, none⟩) cap ((u ++ t) ++ e :: y :: (s2 ++ r ++ z)) :: S, Φ2, inferInstance, cx2, fun w G cx => (cx.weak fun _ _ _ => trivial).right, by unfold I64; omega, bufE (some ⟨g, 0, none⟩) cap (u ++ t ++ e :: (y :: s2) ++ r ++ z) :: S, Φ2, t.length, inferInstance, fun w G cx => cx.re (by simp), ⟨t, y :: s2, by omega, by simp, fun q hq => ?_, rfl, rfl, rfl⟩, by omega⟩
        rcases List.mem_cons.1 hq with rfl | hq
        · exact leE_of_lt hc
        · exact hle q hq
      · have hc := of_decide_eq_false hc
        have hye := leE_not hc (hIe y (by simp))
        have has : Asc leE ((t ++ [y]) ++ e :: s2) := by
          refine asc_put hasc (fun q hq => ?_) hle
          have h1 := (List.pairwise_append.1 hasc).1
          rcases List.mem_append.1 hq with hq | hq
          · exact ordE.trans _ _ _ ((List.pairwise_append.1 h1).2.2 q hq y (by simp)) hye
          · rw [List.mem_singleton.1 hq]; exact hye
        obtain ⟨q1, q2⟩ := next has
        refine ⟨by unfold I64; simp only [List.length_append, List.length_cons, List.length_nil]; omega, bufE (some ⟨g, 0, none⟩) cap (u ++ (t ++ [y] ++ e :: s2) ++ r ++ z) :: S, Φ2, r.length, inferInstance, fun w G cx => cx.re (by rw [← hE]; simp), ⟨t ++ [y] ++ e :: s2, r, q1, q2, has, hse _ (by first | exact List.perm_middle | (have h := List.perm_middle (a := e) (l₁ := t ++ [y]) (l₂ := s2); rw [List.append_assoc t [y] s2] at h; exact h)), hidr, fun h => by simp at h, rfl, rfl, rfl⟩, by simp⟩
    · have hj := of_decide_eq_false hj
      have hs1 : s1 = [] := List.eq_nil_of_length_eq_zero (by omega)
      subst hs1
      have has : Asc leE ([] ++ e :: s2) := asc_put hasc (by simp) hle
      obtain ⟨q1, q2⟩ := next has
      exact ⟨by unfold I64; simp only [List.length_append]; omega, bufE (some ⟨g, 0, none⟩) cap (u ++ ([] ++ e :: s2) ++ r ++ z) :: S, Φ2, r.length, inferInstance, fun w G cx => cx.re (by simp), ⟨[] ++ e :: s2, r, q1, q2, has, hse _ (by simp), hidr, fun h => by simp at h, rfl, rfl, rfl⟩, by simp⟩
  · have hge := of_decide_eq_false hge
    have hr : r = [] := by
      rcases Nat.eq_zero_or_pos s.length with h | h
      · exact hnil h
      · exact List.eq_nil_of_length_eq_zero (by omega)
    subst hr
    rw [List.append_nil] at hperm
    exact hK s w hperm hasc (cx.left.re (by simp))
end Go.Proofs.YtebnciehcnedjaaGreatDoor
end

section
namespace Go.Proofs.YtebnciehcnedjaaGreatDoor
open Go.Vc
theorem shr_run (k : Nat) (h : k < 9223372036854775808) (w : World) : Sem.run Tryz.prog (binOp BinOp.shr 65 (.int .u64 (IntKind.u64.wrap (k : Int))) (.int .u64 1)) w = .ok (.int .u64 ((k / 2 : Nat) : Int)) w := by
  have e : IntKind.u64.wrap (k : Int) = k := by simp [IntKind.wrap, IntKind.signed, IntKind.bits]; omega
  rw [e]
  show Sem.run Tryz.prog (Op.shift .shr .u64 (k : Int) .u64 1) w = _
  unfold Op.shift
  simp [Sem.run_pure]
  show (k : Int).fdiv 2 = _
  rw [Int.fdiv_eq_ediv_of_nonneg _ (by decide)]
theorem wrap_nat {k : Nat} (h : k ≤ 1000000000) : IntKind.i64.wrap (k : Int) = k := i64_wrap (by unfold I64; omega)
theorem get_at (a : List PE) (e : PE) (b : List PE) : (a ++ e :: b)[a.length]? = some e := by
  rw [List.getElem?_append_right (Nat.le_refl _)]; simp
theorem get_at2 (a : List PE) (e q : PE) (b : List PE) : (a ++ e :: q :: b)[a.length + 1]? = some q := by
  rw [List.getElem?_append_right (by omega)]; simp
theorem get_mid {u x y z : List PE} {i : Nat} (h : i < y.length) : (u ++ x ++ y ++ z)[u.length + x.length + i]? = some y[i] := by
  rw [List.getElem?_append_left (by simp; omega), List.getElem?_append_right (by simp), List.length_append, show u.length + x.length + i - (u.length + x.length) = i by omega, List.getElem?_eq_getElem h]
theorem get_fst {u x y z : List PE} {i : Nat} (h : i < x.length) : (u ++ x ++ y ++ z)[u.length + i]? = some x[i] := by
  rw [List.getElem?_append_left (by simp; omega), List.getElem?_append_left (by simp; omega), List.getElem?_append_right (by simp), show u.length + i - u.length = i by omega, List.getElem?_eq_getElem h]
theorem nb_swap (a : List PE) (x y : PE) (b : List PE) {i j : Nat} (hi : i = a.length) (hj : j = a.length + 1) : swp (a ++ x :: y :: b) i j = a ++ y :: x :: b ∧ swp (a ++ x :: y :: b) j i = a ++ y :: x :: b := by
  subst hi hj
  refine ⟨swp_next a x y b, ?_⟩
  have hi : a.length < (a ++ x :: y :: b).length := by simp
  have hj : a.length + 1 < (a ++ x :: y :: b).length := by simp
  rw [← swp_next a x y b, swp_eq hj hi, swp_eq hi hj, List.set_comm _ _ (by omega)]
set_option maxHeartbeats 2000000 in
theorem sym_one {W : World} {S : List Own} {Φ : PW} [Stable Φ] {p : Option Addr} {cap N : Nat} {f : FuncId} {cp : Array Value} {P : PE → Prop} (hf : CmpFn Φ f cp P) (u : List PE) (e : PE) (y z : List PE) (hy : 0 < y.length) (hPe : P e) (hPy : ∀ q ∈ y, P q) (hI : ∀ q ∈ y, e.idx ≤ q.idx) (hay : Asc leE y)
    (hN : N = (u ++ [e] ++ y ++ z).length) (hlen : (u ++ [e] ++ y ++ z).length ≤ 100000000) {a m b : Int} (ha : a = u.length) (hm : m = (u.length : Int) + 1) (hb : b = (u.length : Int) + 1 + y.length) {K : Ending → World → Prop}
    (hK : ∀ r w', r.Perm (e :: y) → Asc leE r → Ctx W w' (bufE p cap (u ++ r ++ z) :: S) Φ → K (.returned (.tuple #[])) w') {w : World} (cx : Ctx W w (bufE p cap (u ++ [e] ++ y ++ z) :: S) Φ) :
    Calls Tryz.prog F.slices_symMergeCmpFunc_api_Pair #[.slice p N cap, .int .i64 a, .int .i64 m, .int .i64 b, .func (.func f) #[] cp] w K := by
  subst hN ha hm hb
  have hl : (u ++ [e] ++ y ++ z).length = u.length + 1 + y.length + z.length := by simp; omega
  refine (Bslices_symMergeCmpFunc_api_Pair_run p (u ++ [e] ++ y ++ z).length cap u.length ((u.length : Int) + 1) ((u.length : Int) + 1 + y.length) f cp (J := fun u w' => K (.returned u) w') cx ?_).mono fun e w' ⟨v, he, hj⟩ => by rw [he]; exact hj
  obtain ⟨g, rfl⟩ := e_ptr cx (by omega)
  refine ⟨by unfold I64; omega, Br.intro (fun _ => ?_) (fun h => by have := of_decide_eq_false h; omega)⟩
  refine exI_mk (fun i j R' Φ' k => ∃ α β : Nat, i = (u.length : Int) + 1 + α ∧ j = (u.length : Int) + 1 + β ∧ α ≤ β ∧ β ≤ y.length ∧ (∀ q ∈ y.take α, leE q e) ∧ (∀ q ∈ y.drop β, leE e q) ∧ R' = bufE (some ⟨g, 0, none⟩) cap (u ++ [e] ++ y ++ z) :: S ∧ Φ' = Φ ∧ k = β - α)
    ⟨⟨_, Φ, _, inferInstance, fun w G cx => cx, 0, y.length, by omega, by omega, by omega, by omega, by simp, by simp, rfl, rfl, rfl⟩, ?_⟩
  clear cx
  rintro _ _ R1 Φ1 k _ ⟨α, β, rfl, rfl, h1, h2, h3, h4, rfl, rfl, rfl⟩
  refine Br.intro (fun hlt => ?_) (fun hge => ?_)
  · have hlt := of_decide_eq_true hlt
    have hαβ : α < β := by omega
    obtain ⟨γ, hγ⟩ : ∃ γ, (α + β) / 2 = γ := ⟨_, rfl⟩
    have hγ1 : α ≤ γ := by omega
    have hγ2 : γ < β := by omega
    have hsum : ((u.length : Int) + 1 + α + ((u.length : Int) + 1 + β)) = ((2 * (u.length + 1) + (α + β) : Nat) : Int) := by omega
    have hhalf : (2 * (u.length + 1) + (α + β)) / 2 = u.length + 1 + γ := by omega
    have hX : (u ++ [e] ++ y ++ z)[u.length + 1 + γ]? = some y[γ] := get_mid (x := [e]) (by omega)
    have hE : (u ++ [e] ++ y ++ z)[u.length]? = some e := by simp
    refine ⟨by unfold I64; omega, ((u.length + 1 + γ : Nat) : Int), fun w => by rw [hsum, ← hhalf]; exact shr_run _ (by omega) w, ?_⟩
    rw [wrap_nat (by omega)]
    refine ⟨bufE (some ⟨g, 0, none⟩) cap (u ++ [e] ++ y ++ z) :: S, Φ1, inferInstance, fun w G cx => cx, by omega, ptrK_intro g 0 rfl ⟨by omega, ptrK_intro g 0 rfl ⟨y[γ].d.key, y[γ].d.val, fun w G cx => ⟨_, _, by rw [Nat.zero_add, Int.toNat_natCast]; exact e_row cx hX, rfl⟩, e.d.key, e.d.val, fun w G cx => ⟨_, _, by rw [Nat.zero_add, Int.toNat_natCast]; exact e_row cx hE, rfl⟩, fun w G cx => ⟨hf.1, (hf.2 y[γ] e (hPy _ (List.getElem_mem _)) hPe).use cx fun w cx => ⟨_, rfl, bufE (some ⟨g, 0, none⟩) cap (u ++ [e] ++ y ++ z) :: S, Φ1, inferInstance, cx, Br.intro (fun hc => ?_) (fun hc => ?_)⟩⟩⟩⟩⟩
    · have hc := leE_of_lt (of_decide_eq_true hc)
      refine ⟨by unfold I64; omega, _, Φ1, β - (γ + 1), inferInstance, fun w G cx => cx, ⟨γ + 1, β, by omega, by omega, by omega, h2, fun q hq => ?_, h4, rfl, rfl, rfl⟩, by omega⟩
      obtain ⟨i, hi, rfl⟩ := List.getElem_of_mem hq
      rw [List.length_take] at hi
      rw [List.getElem_take]
      exact ordE.trans _ _ _ (asc_le ordE hay (i := i) (j := γ) (by omega) (by omega)) hc
    · have hc := leE_not (of_decide_eq_false hc) (hI _ (List.getElem_mem _))
      refine ⟨_, Φ1, γ - α, inferInstance, fun w G cx => cx, ⟨α, γ, by omega, by omega, by omega, by omega, h3, fun q hq => ?_, rfl, rfl, rfl⟩, by omega⟩
      obtain ⟨i, hi, rfl⟩ := List.getElem_of_mem hq
      rw [List.length_drop] at hi
      rw [List.getElem_drop]
      exact ordE.trans _ _ _ hc (asc_le ordE hay (i := γ) (j := γ + i) (by omega) (by omega))
  · have hge := of_decide_eq_false hge
    have hαβ : α = β := by omega
    subst hαβ
    refine exI_mk (fun k R' Φ' kk => ∃ κ : Nat, k = (u.length : Int) + κ ∧ κ ≤ α ∧ R' = bufE (some ⟨g, 0, none⟩) cap (u ++ y.take κ ++ e :: y.drop κ ++ z) :: S ∧ Φ' = Φ1 ∧ kk = α - κ) ⟨⟨_, Φ1, _, inferInstance, fun w G cx => cx, 0, by omega, by omega, by simp, rfl, rfl⟩, ?_⟩
    rintro _ R2 Φ2 kk _ ⟨κ, rfl, hκ, rfl, rfl, rfl⟩
    refine ⟨by unfold I64; omega, Br.intro (fun hlt => ?_) (fun hge => fun w G cx => ?_)⟩
    · have hlt := of_decide_eq_true hlt
      have hκ2 : κ < α := by omega
      have hκy : κ < y.length := by omega
      obtain ⟨E, hE⟩ : ∃ E, u ++ y.take κ ++ e :: y.drop κ ++ z = E := ⟨_, rfl⟩
      have hE' : E = (u ++ y.take κ) ++ e :: y[κ] :: (y.drop (κ + 1) ++ z) := by rw [← hE, List.drop_eq_getElem_cons hκy]; simp only [List.append_assoc, List.cons_append]
      have hEn : u ++ y.take (κ + 1) ++ e :: y.drop (κ + 1) ++ z = (u ++ y.take κ) ++ y[κ] :: e :: (y.drop (κ + 1) ++ z) := by rw [List.take_succ_eq_append_getElem hκy]; simp only [List.append_assoc, List.cons_append, List.nil_append]
      have hal : (u ++ y.take κ).length = u.length + κ := by simp; omega
      have hEl : E.length = u.length + 1 + y.length + z.length := by rw [hE']; simp; omega
      have hX : E[u.length + κ]? = some e := by rw [hE', ← hal]; exact get_at _ _ _
      have hY : E[u.length + κ + 1]? = some y[κ] := by
        have := get_at2 (u ++ y.take κ) e y[κ] (y.drop (κ + 1) ++ z)
        rw [hal] at this
        rw [hE']
        exact this
      have hsw := (nb_swap (u ++ y.take κ) e y[κ] (y.drop (κ + 1) ++ z) (i := u.length + κ) (j := u.length + κ + 1) hal.symm (by omega)).1
      rw [← hE', ← hEn] at hsw
      rw [hE]
      have n1 : ((u.length : Int) + κ).toNat = u.length + κ := by omega
      have n2 : ((u.length : Int) + κ + 1).toNat = u.length + κ + 1 := by omega
      generalize y[κ] = q at hX hY hE' hEn
      refine ⟨[], fun _ _ => True, inferInstance, fun w G cx => (cx.weak fun _ _ _ => trivial).right, by unfold I64; omega, by unfold I64; omega, by omega, ptrK_intro g 0 rfl ⟨by omega, ptrK_intro g 0 rfl fun w G cx => ⟨e.d.key, e.d.val, by rw [Nat.zero_add, n1]; exact e_row cx hX, fun w G cx => ⟨q.d.key, q.d.val, by rw [Nat.zero_add, n2]; exact e_row cx hY, by omega, ptrK_intro g 0 rfl fun w G cx => ⟨by rw [Nat.zero_add, n1]; exact e_can cx (by omega), fun w' hw' => ?_⟩⟩⟩⟩⟩
      rw [Nat.zero_add, n1] at hw'
      refine ⟨bufE (some ⟨g, 0, none⟩) cap (E.set (u.length + κ) q) :: S, Φ2, inferInstance, e_swap hX hY cx hw', fun w G cx => (cx.weak fun _ _ _ => trivial).right, by omega, ptrK_intro g 0 rfl fun w G cx => ⟨by rw [Nat.zero_add, n2]; exact e_can cx (by rw [List.length_set]; omega), fun w' hw' => ?_⟩⟩
      rw [Nat.zero_add, n2] at hw'
      have cx2 := e_swap2 hX hY cx hw'
      rw [hsw] at cx2
      exact ⟨bufE (some ⟨g, 0, none⟩) cap (u ++ y.take (κ + 1) ++ e :: y.drop (κ + 1) ++ z) :: S, Φ2, inferInstance, cx2, fun w G cx => (cx.weak fun _ _ _ => trivial).right, by unfold I64; omega, _, Φ2, α - (κ + 1), inferInstance, fun w G cx => cx, ⟨κ + 1, by omega, by omega, rfl, rfl, rfl⟩, by omega⟩
    · have hge := of_decide_eq_false hge
      have hκα : κ = α := by omega
      subst hκα
      refine hK (y.take κ ++ e :: y.drop κ) w ?_ (asc_put (by rw [List.take_append_drop]; exact hay) h3 h4) (cx.left.re (by simp))
      have h := List.perm_middle (a := e) (l₁ := y.take κ) (l₂ := y.drop κ)
      rw [List.take_append_drop] at h
      exact h
set_option maxHeartbeats 2000000 in
theorem sym_last {W : World} {S : List Own} {Φ : PW} [Stable Φ] {p : Option Addr} {cap N : Nat} {f : FuncId} {cp : Array Value} {P : PE → Prop} (hf : CmpFn Φ f cp P) (u x : List PE) (e : PE) (z : List PE) (hx : 2 ≤ x.length) (hPe : P e) (hPx : ∀ q ∈ x, P q) (hI : ∀ q ∈ x, q.idx ≤ e.idx) (hax : Asc leE x)
    (hN : N = (u ++ x ++ [e] ++ z).length) (hlen : (u ++ x ++ [e] ++ z).length ≤ 100000000) {a m b : Int} (ha : a = u.length) (hm : m = (u.length : Int) + x.length) (hb : b = (u.length : Int) + x.length + 1) {K : Ending → World → Prop}
    (hK : ∀ r w', r.Perm (x ++ [e]) → Asc leE r → Ctx W w' (bufE p cap (u ++ r ++ z) :: S) Φ → K (.returned (.tuple #[])) w') {w : World} (cx : Ctx W w (bufE p cap (u ++ x ++ [e] ++ z) :: S) Φ) :
    Calls Tryz.prog F.slices_symMergeCmpFunc_api_Pair #[.slice p N cap, .int .i64 a, .int .i64 m, .int .i64 b, .func (.func f) #[] cp] w K := by
  subst hN ha hm hb
  have hl : (u ++ x ++ [e] ++ z).length = u.length + x.length + 1 + z.length := by simp; omega
  refine (Bslices_symMergeCmpFunc_api_Pair_run p (u ++ x ++ [e] ++ z).length cap u.length ((u.length : Int) + x.length) ((u.length : Int) + x.length + 1) f cp (J := fun u w' => K (.returned u) w') cx ?_).mono fun e w' ⟨v, he, hj⟩ => by rw [he]; exact hj
  obtain ⟨g, rfl⟩ := e_ptr cx (by omega)
  refine ⟨by unfold I64; omega, Br.intro (fun h => by have := of_decide_eq_true h; omega) (fun _ => ⟨by unfold I64; omega, Br.intro (fun _ => ?_) (fun h => by have := of_decide_eq_false h; omega)⟩)⟩
  refine exI_mk (fun i j R' Φ' k => ∃ α β : Nat, i = (u.length : Int) + α ∧ j = (u.length : Int) + β ∧ α ≤ β ∧ β ≤ x.length ∧ (∀ q ∈ x.take α, leE q e) ∧ (∀ q ∈ x.drop β, leE e q) ∧ R' = bufE (some ⟨g, 0, none⟩) cap (u ++ x ++ [e] ++ z) :: S ∧ Φ' = Φ ∧ k = β - α)
    ⟨⟨_, Φ, _, inferInstance, fun w G cx => cx, 0, x.length, by omega, by omega, by omega, by omega, by simp, by simp, rfl, rfl, rfl⟩, ?_⟩
  clear cx
  rintro _ _ R1 Φ1 k _ ⟨α, β, rfl, rfl, h1, h2, h3, h4, rfl, rfl, rfl⟩
  refine Br.intro (fun hlt => ?_) (fun hge => ?_)
  · have hlt := of_decide_eq_true hlt
    have hαβ : α < β := by omega
    obtain ⟨γ, hγ⟩ : ∃ γ, (α + β) / 2 = γ := ⟨_, rfl⟩
    have hγ1 : α ≤ γ := by omega
    have hγ2 : γ < β := by omega
    have hsum : ((u.length : Int) + α + ((u.length : Int) + β)) = ((2 * u.length + (α + β) : Nat) : Int) := by omega
    have hhalf : (2 * u.length + (α + β)) / 2 = u.length + γ := by omega
    have hX : (u ++ x ++ [e] ++ z)[u.length + γ]? = some x[γ] := get_fst (by omega)
    have hE : (u ++ x ++ [e] ++ z)[u.length + x.length]? = some e := by simp
    have nm : ((u.length : Int) + x.length).toNat = u.length + x.length := by omega
    refine ⟨by unfold I64; omega, ((u.length + γ : Nat) : Int), fun w => by rw [hsum, ← hhalf]; exact shr_run _ (by omega) w, ?_⟩
    rw [wrap_nat (by omega)]
    refine ⟨bufE (some ⟨g, 0, none⟩) cap (u ++ x ++ [e] ++ z) :: S, Φ1, inferInstance, fun w G cx => cx, by omega, ptrK_intro g 0 rfl ⟨by omega, ptrK_intro g 0 rfl ⟨e.d.key, e.d.val, fun w G cx => ⟨_, _, by rw [Nat.zero_add, nm]; exact e_row cx hE, rfl⟩, x[γ].d.key, x[γ].d.val, fun w G cx => ⟨_, _, by rw [Nat.zero_add, Int.toNat_natCast]; exact e_row cx hX, rfl⟩, fun w G cx => ⟨hf.1, (hf.2 e x[γ] hPe (hPx _ (List.getElem_mem _))).use cx fun w cx => ⟨_, rfl, bufE (some ⟨g, 0, none⟩) cap (u ++ x ++ [e] ++ z) :: S, Φ1, inferInstance, cx, Br.intro (fun hc => ?_) (fun hc => ?_)⟩⟩⟩⟩⟩
    · have hc := leE_not (x := e) (y := x[γ]) (fun h => by rw [decide_eq_true h] at hc; cases hc) (hI _ (List.getElem_mem _))
      refine ⟨by unfold I64; omega, _, Φ1, β - (γ + 1), inferInstance, fun w G cx => cx, ⟨γ + 1, β, by omega, by omega, by omega, h2, fun q hq => ?_, h4, rfl, rfl, rfl⟩, by omega⟩
      obtain ⟨i, hi, rfl⟩ := List.getElem_of_mem hq
      rw [List.length_take] at hi
      rw [List.getElem_take]
      exact ordE.trans _ _ _ (asc_le ordE hax (i := i) (j := γ) (by omega) (by omega)) hc
    · have hc := leE_of_lt (show cmpT e.d.key x[γ].d.key < 0 by simpa using hc)
      refine ⟨_, Φ1, γ - α, inferInstance, fun w G cx => cx, ⟨α, γ, by omega, by omega, by omega, by omega, h3, fun q hq => ?_, rfl, rfl, rfl⟩, by omega⟩
      obtain ⟨i, hi, rfl⟩ := List.getElem_of_mem hq
      rw [List.length_drop] at hi
      rw [List.getElem_drop]
      exact ordE.trans _ _ _ hc (asc_le ordE hax (i := γ) (j := γ + i) (by omega) (by omega))
  · have hge := of_decide_eq_false hge
    have hαβ : α = β := by omega
    subst hαβ
    refine exI_mk (fun k R' Φ' kk => ∃ κ : Nat, k = (u.length : Int) + κ ∧ α ≤ κ ∧ κ ≤ x.length ∧ R' = bufE (some ⟨g, 0, none⟩) cap (u ++ x.take κ ++ e :: x.drop κ ++ z) :: S ∧ Φ' = Φ1 ∧ κ = kk) ⟨⟨bufE (some ⟨g, 0, none⟩) cap (u ++ x.take x.length ++ e :: x.drop x.length ++ z) :: S, Φ1, _, inferInstance, fun w G cx => cx.re (by simp), x.length, by omega, by omega, by omega, rfl, rfl, rfl⟩, ?_⟩
    rintro _ R2 Φ2 kk _ ⟨κ, rfl, hκ, hκx, rfl, rfl, rfl⟩
    refine Br.intro (fun hlt => ?_) (fun hge => fun w G cx => ?_)
    · have hlt := of_decide_eq_true hlt
      obtain ⟨κ, rfl⟩ : ∃ j, κ = j + 1 := ⟨κ - 1, by omega⟩
      have hκy : κ < x.length := by omega
      obtain ⟨E, hE⟩ : ∃ E, u ++ x.take (κ + 1) ++ e :: x.drop (κ + 1) ++ z = E := ⟨_, rfl⟩
      have hE' : E = (u ++ x.take κ) ++ x[κ] :: e :: (x.drop (κ + 1) ++ z) := by rw [← hE, List.take_succ_eq_append_getElem hκy]; simp only [List.append_assoc, List.cons_append, List.nil_append]
      have hEn : u ++ x.take κ ++ e :: x.drop κ ++ z = (u ++ x.take κ) ++ e :: x[κ] :: (x.drop (κ + 1) ++ z) := by rw [List.drop_eq_getElem_cons hκy]; simp only [List.append_assoc, List.cons_append]
      have hal : (u ++ x.take κ).length = u.length + κ := by simp; omega
      have hEl : E.length = u.length + 1 + x.length + z.length := by rw [hE']; simp; omega
      have hX : E[u.length + κ]? = some x[κ] := by rw [hE', ← hal]; exact get_at _ _ _
      have hY : E[u.length + κ + 1]? = some e := by
        have := get_at2 (u ++ x.take κ) x[κ] e (x.drop (κ + 1) ++ z)
        rw [hal] at this
        rw [hE']
        exact this
      have hsw := (nb_swap (u ++ x.take κ) x[κ] e (x.drop (κ + 1) ++ z) (i := u.length + κ) (j := u.length + κ + 1) hal.symm (by omega)).2
      rw [← hE', ← hEn] at hsw
      rw [hE]
      have n1 : ((u.length : Int) + ((κ + 1 : Nat) : Int)).toNat = u.length + κ + 1 := by omega
      have n2 : ((u.length : Int) + ((κ + 1 : Nat) : Int) - 1).toNat = u.length + κ := by omega
      generalize x[κ] = q at hX hY hE' hEn
      refine ⟨[], fun _ _ => True, inferInstance, fun w G cx => (cx.weak fun _ _ _ => trivial).right, by unfold I64; omega, by unfold I64; omega, by omega, ptrK_intro g 0 rfl ⟨by omega, ptrK_intro g 0 rfl fun w G cx => ⟨e.d.key, e.d.val, by rw [Nat.zero_add, n1]; exact e_row cx hY, fun w G cx => ⟨q.d.key, q.d.val, by rw [Nat.zero_add, n2]; exact e_row cx hX, by omega, ptrK_intro g 0 rfl fun w G cx => ⟨by rw [Nat.zero_add, n1]; exact e_can cx (by omega), fun w' hw' => ?_⟩⟩⟩⟩⟩
      rw [Nat.zero_add, n1] at hw'
      refine ⟨bufE (some ⟨g, 0, none⟩) cap (E.set (u.length + κ + 1) q) :: S, Φ2, inferInstance, e_swap hY hX cx hw', fun w G cx => (cx.weak fun _ _ _ => trivial).right, by omega, ptrK_intro g 0 rfl fun w G cx => ⟨by rw [Nat.zero_add, n2]; exact e_can cx (by rw [List.length_set]; omega), fun w' hw' => ?_⟩⟩
      rw [Nat.zero_add, n2] at hw'
      have cx2 := e_swap2 hY hX cx hw'
      rw [hsw] at cx2
      exact ⟨bufE (some ⟨g, 0, none⟩) cap (u ++ x.take κ ++ e :: x.drop κ ++ z) :: S, Φ2, inferInstance, cx2, fun w G cx => (cx.weak fun _ _ _ => trivial).right, by unfold I64; omega, _, Φ2, κ, inferInstance, fun w G cx => cx, ⟨κ, by omega, by omega, by omega, rfl, rfl, rfl⟩, by omega⟩
    · have hge := of_decide_eq_false hge
      have hκα : κ = α := by omega
      subst hκα
      refine hK (x.take κ ++ e :: x.drop κ) w ?_ (asc_put (by rw [List.take_append_drop]; exact hax) h3 h4) (cx.left.re (by simp))
      have h := List.perm_middle (a := e) (l₁ := x.take κ) (l₂ := x.drop κ)
      rw [List.take_append_drop] at h
      exact h.trans (List.perm_append_comm (l₁ := [e]))
end Go.Proofs.YtebnciehcnedjaaGreatDoor
end

section
namespace Go.Proofs.YtebnciehcnedjaaGreatDoor
open Go.Vc
theorem one_of {x : List PE} (h : x.length = 1) : ∃ e, x = [e] := by
  match x, h with
  | [e], _ => exact ⟨e, rfl⟩
set_option maxHeartbeats 8000000 in
theorem symMerge_use {W : World} {Φ : PW} [Stable Φ] {p : Option Addr} {cap N : Nat} {f : FuncId} {cp : Array Value} {P : PE → Prop} (hf : CmpFn Φ f cp P) : ∀ (k : Nat) {S : List Own} (u x y z : List PE), x.length + y.length ≤ k → 0 < x.length → 0 < y.length → Asc leE x → Asc leE y → (∀ q ∈ x, P q) → (∀ q ∈ y, P q) → Early x y →
    N = (u ++ x ++ y ++ z).length → (u ++ x ++ y ++ z).length ≤ 100000000 → ∀ {a m b : Int}, a = u.length → m = (u.length : Int) + x.length → b = (u.length : Int) + x.length + y.length → ∀ {K : Ending → World → Prop},
    (∀ r w', r.Perm (x ++ y) → Asc leE r → Ctx W w' (bufE p cap (u ++ r ++ z) :: S) Φ → K (.returned (.tuple #[])) w') → ∀ {w : World}, Ctx W w (bufE p cap (u ++ x ++ y ++ z) :: S) Φ →
    Calls Tryz.prog F.slices_symMergeCmpFunc_api_Pair #[.slice p N cap, .int .i64 a, .int .i64 m, .int .i64 b, .func (.func f) #[] cp] w K := by
  intro k
  induction k with
  | zero => intro S u x y z h hx; omega
  | succ k ih =>
  intro S u x y z hk hx0 hy0 hxa hya hPx hPy hear hN hlen a m b ha hm hb K hK w cx
  by_cases hx1 : x.length = 1
  · obtain ⟨e, rfl⟩ := one_of hx1
    exact sym_one hf u e y z hy0 (hPx e (by simp)) hPy (hear e (by simp)) hya hN hlen ha (by simpa using hm) (by simpa using hb) hK cx
  by_cases hy1 : y.length = 1
  · obtain ⟨e, rfl⟩ := one_of hy1
    exact sym_last hf u x e z (by omega) (hPy e (by simp)) hPx (fun q hq => hear q hq e (by simp)) hxa hN hlen ha hm (by simpa using hb) hK cx
  subst ha hm hb
  have hl : (u ++ x ++ y ++ z).length = u.length + x.length + y.length + z.length := by simp; omega
  obtain ⟨H, hH⟩ : ∃ H, (x.length + y.length) / 2 = H := ⟨_, rfl⟩
  have hH1 : 2 * H ≤ x.length + y.length := by omega
  have hH2 : x.length + y.length ≤ 2 * H + 1 := by omega
  have hsum : ((u.length : Int) + ((u.length : Int) + x.length + y.length)) = ((2 * u.length + (x.length + y.length) : Nat) : Int) := by omega
  have hhalf : (2 * u.length + (x.length + y.length)) / 2 = u.length + H := by omega
  refine (Bslices_symMergeCmpFunc_api_Pair_run p N cap u.length ((u.length : Int) + x.length) ((u.length : Int) + x.length + y.length) f cp (J := fun u w' => K (.returned u) w') cx ?_).mono fun e w' ⟨v, he, hj⟩ => by rw [he]; exact hj
  have hNl : N = u.length + x.length + y.length + z.length := by rw [hN, hl]
  obtain ⟨g, hg⟩ := e_ptr cx (by omega)
  refine ⟨by unfold I64; omega, Br.intro (fun h => by have := of_decide_eq_true h; omega) (fun _ => ⟨by unfold I64; omega, Br.intro (fun h => by have := of_decide_eq_true h; omega) (fun _ => ⟨by unfold I64; omega, ((u.length + H : Nat) : Int), fun w => by rw [hsum, ← hhalf]; exact shr_run _ (by omega) w, ?_⟩)⟩)⟩
  rw [wrap_nat (by omega)]
  refine ⟨by unfold I64; omega, Br.intro (fun hgt => ?_) (fun hle => ?_)⟩
  case' refine_1 =>
    have hgt := of_decide_eq_true hgt
    obtain ⟨σ0, ρ0, hso⟩ : ∃ σ0 ρ0 : Nat, (σ0 = H - y.length ∧ ρ0 = H ∧ y.length ≤ H ∧ H < x.length) ∨ (σ0 = 0 ∧ ρ0 = x.length ∧ x.length ≤ H ∧ H ≤ y.length) := ⟨H - y.length, H, .inl ⟨rfl, rfl, by omega, by omega⟩⟩
    have hst : σ0 = H - y.length ∧ ρ0 = H := by omega
    refine ⟨by unfold I64; omega, by unfold I64; omega, ?_⟩
  case' refine_2 =>
    have hle := of_decide_eq_false hle
    obtain ⟨σ0, ρ0, hst, hso⟩ : ∃ σ0 ρ0 : Nat, (σ0 = 0 ∧ ρ0 = x.length) ∧ ((σ0 = H - y.length ∧ ρ0 = H ∧ y.length ≤ H ∧ H < x.length) ∨ (σ0 = 0 ∧ ρ0 = x.length ∧ x.length ≤ H ∧ H ≤ y.length)) := ⟨0, x.length, ⟨rfl, rfl⟩, .inr ⟨rfl, rfl, by omega, by omega⟩⟩
    refine ⟨by unfold I64; omega, ?_⟩
  all_goals
    have hρ : ρ0 ≤ H ∧ ρ0 ≤ x.length ∧ σ0 ≤ ρ0 := by omega
    refine exI_mk (fun i j R' Φ' k => ∃ s r : Nat, i = (u.length : Int) + s ∧ j = (u.length : Int) + r ∧ σ0 ≤ s ∧ s ≤ r ∧ r ≤ ρ0 ∧ (∀ c, σ0 ≤ c → c < s → ∀ (hc : c < x.length) (hd : H - 1 - c < y.length), leE x[c] y[H - 1 - c]) ∧ (∀ c, r ≤ c → c < ρ0 → ∀ (hc : c < x.length) (hd : H - 1 - c < y.length), leE y[H - 1 - c] x[c]) ∧ R' = bufE p cap (u ++ x ++ y ++ z) :: S ∧ Φ' = Φ ∧ k = r - s)
      ⟨⟨_, Φ, _, inferInstance, fun w G cx => cx, σ0, ρ0, by omega, by omega, by omega, by omega, by omega, fun c h1 h2 => by omega, fun c h1 h2 => by omega, rfl, rfl, rfl⟩, ?_⟩
    clear cx
    rintro _ _ R1' Φ1 kk _ ⟨s, r, rfl, rfl, h1, h2, h3, h4, h5, rfl, rfl, rfl⟩
    refine Br.intro (fun hlt => ?_) (fun hge => ?_)
    · have hlt := of_decide_eq_true hlt
      have hsr : s < r := by omega
      obtain ⟨γ, hγ⟩ : ∃ γ, (s + r) / 2 = γ := ⟨_, rfl⟩
      have hγ1 : s ≤ γ := by omega
      have hγ2 : γ < r := by omega
      have hγx : γ < x.length := by omega
      have hγy : H - 1 - γ < y.length := by omega
      have hsum2 : ((u.length : Int) + s + ((u.length : Int) + r)) = ((2 * u.length + (s + r) : Nat) : Int) := by omega
      have hhalf2 : (2 * u.length + (s + r)) / 2 = u.length + γ := by omega
      have hX : (u ++ x ++ y ++ z)[u.length + γ]? = some x[γ] := get_fst hγx
      have hY : (u ++ x ++ y ++ z)[u.length + x.length + (H - 1 - γ)]? = some y[H - 1 - γ] := get_mid hγy
      have hxx : ∀ (c d : Nat) (h : c ≤ d) (hd : d < x.length), leE (x[c]'(Nat.lt_of_le_of_lt h hd)) x[d] := fun c d hcd hd => asc_le ordE hxa hcd hd
      have hyy : ∀ (c d : Nat) (h : c ≤ d) (hd : d < y.length), leE (y[c]'(Nat.lt_of_le_of_lt h hd)) y[d] := fun c d hcd hd => asc_le ordE hya hcd hd
      have hPX := hPx x[γ] (List.getElem_mem _)
      have hXY : x[γ].idx ≤ y[H - 1 - γ].idx := hear _ (List.getElem_mem _) _ (List.getElem_mem _)
      have hPY := hPy y[H - 1 - γ] (List.getElem_mem _)
      have upX : ∀ c, c < γ + 1 → ∀ (hc : c < x.length), leE x[c] x[γ] := fun c hc hc' => hxx c γ (by omega) hγx
      have upY : ∀ c, c < γ + 1 → ∀ (hd : H - 1 - c < y.length), leE y[H - 1 - γ] y[H - 1 - c] := fun c hc hd => hyy (H - 1 - γ) (H - 1 - c) (by omega) hd
      have dnX : ∀ c, γ ≤ c → ∀ (hc : c < x.length), leE x[γ] x[c] := fun c hc hc' => hxx γ c hc hc'
      have dnY : ∀ c, γ ≤ c → ∀ (hd : H - 1 - c < y.length), leE y[H - 1 - c] y[H - 1 - γ] := fun c hc hd => hyy (H - 1 - c) (H - 1 - γ) (by omega) hγy
      generalize hxe : x[γ] = X at hX hPX upX dnX hXY
      generalize hye : y[H - 1 - γ] = Y at hY hPY upY dnY hXY
      refine ⟨by unfold I64; omega, ((u.length + γ : Nat) : Int), fun w => by rw [hsum2, ← hhalf2]; exact shr_run _ (by omega) w, ?_⟩
      rw [wrap_nat (by omega : u.length + γ ≤ 1000000000)]
      have n2 : (((u.length + H : Nat) : Int) + ((u.length : Int) + x.length) - 1 - ((u.length + γ : Nat) : Int)).toNat = u.length + x.length + (H - 1 - γ) := by omega
      subst hg
      refine ⟨_, Φ1, inferInstance, fun w G cx => cx, by unfold I64; omega, by omega, ptrK_intro g 0 rfl ⟨by omega, ptrK_intro g 0 rfl ⟨X.d.key, X.d.val, fun w G cx => ⟨_, _, by rw [Nat.zero_add, Int.toNat_natCast]; exact e_row cx hX, rfl⟩, Y.d.key, Y.d.val, fun w G cx => ⟨_, _, by rw [Nat.zero_add, n2]; exact e_row cx hY, rfl⟩, fun w G cx => ⟨hf.1, (hf.2 Y X hPY hPX).use cx fun w cx => ⟨_, rfl, bufE (some ⟨g, 0, none⟩) cap (u ++ x ++ y ++ z) :: S, Φ1, inferInstance, cx, Br.intro (fun hc => ?_) (fun hc => ?_)⟩⟩⟩⟩⟩
      · have hc := leE_not (x := Y) (y := X) (fun h => by rw [decide_eq_true h] at hc; cases hc) hXY
        exact ⟨by unfold I64; omega, _, Φ1, r - (γ + 1), inferInstance, fun w G cx => cx, ⟨γ + 1, r, by omega, by omega, by omega, by omega, h3, fun c hc1 hc2 hcx hcy => ordE.trans _ _ _ (upX c hc2 hcx) (ordE.trans _ _ _ hc (upY c hc2 hcy)), h5, rfl, rfl, rfl⟩, by omega⟩
      · have hc : cmpT Y.d.key X.d.key < 0 := by simpa using hc
        have hc := leE_of_lt hc
        exact ⟨_, Φ1, γ - s, inferInstance, fun w G cx => cx, ⟨s, γ, by omega, by omega, by omega, by omega, by omega, h4, fun c hc1 hc2 hcx hcy => ordE.trans _ _ _ (dnY c hc1 hcy) (ordE.trans _ _ _ hc (dnX c hc1 hcx)), rfl, rfl, rfl⟩, by omega⟩
    · have hge := of_decide_eq_false hge
      have hsr : s = r := by omega
      subst hsr
      obtain ⟨t, ht⟩ : ∃ t, H - s = t := ⟨_, rfl⟩
      have hst2 : s + t = H := by omega
      have htY : t ≤ y.length := by omega
      have hsX : s ≤ x.length := by omega
      have hend2 : (((u.length + H : Nat) : Int) + ((u.length : Int) + x.length) - ((u.length : Int) + s)) = (u.length : Int) + x.length + t := by omega
      have hsplit := sym_split ordE hxa hya s t hsX htY
        (fun h0 ht' => by have := h4 (s - 1) (by omega) (by omega) (by omega) (by omega); simpa [show H - 1 - (s - 1) = t by omega] using this)
        (fun h0 hs' => by have := h5 s (by omega) (by omega) (by omega) (by omega); simpa [show H - 1 - s = t - 1 by omega] using this)
      obtain ⟨L0, hL0⟩ : ∃ L0, x.take s = L0 := ⟨_, rfl⟩
      obtain ⟨R0, hR0⟩ : ∃ R0, x.drop s = R0 := ⟨_, rfl⟩
      obtain ⟨L1, hL1⟩ : ∃ L1, y.take t = L1 := ⟨_, rfl⟩
      obtain ⟨R1, hR1⟩ : ∃ R1, y.drop t = R1 := ⟨_, rfl⟩
      have hx2 : x = L0 ++ R0 := by rw [← hL0, ← hR0, List.take_append_drop]
      have hy2 : y = L1 ++ R1 := by rw [← hL1, ← hR1, List.take_append_drop]
      have hL0l : L0.length = s := by rw [← hL0, List.length_take]; omega
      have hL1l : L1.length = t := by rw [← hL1, List.length_take]; omega
      have hR0l : R0.length = x.length - s := by rw [← hR0, List.length_drop]
      have hR1l : R1.length = y.length - t := by rw [← hR1, List.length_drop]
      have hL0a : Asc leE L0 := by rw [← hL0]; exact asc_take hxa s
      have hL1a : Asc leE L1 := by rw [← hL1]; exact asc_take hya t
      have hR0a : Asc leE R0 := by rw [← hR0]; exact asc_drop hxa s
      have hR1a : Asc leE R1 := by rw [← hR1]; exact asc_drop hya t
      rw [hL0, hR0, hL1, hR1] at hsplit
      have hearL : Early L0 L1 := fun a ha b hb => hear a (by rw [hx2]; simp [ha]) b (by rw [hy2]; simp [hb])
      have hearR : Early R0 R1 := fun a ha b hb => hear a (by rw [hx2]; simp [ha]) b (by rw [hy2]; simp [hb])
      have hPL : ∀ q ∈ L0 ++ L1, P q := fun q hq => by
        rcases List.mem_append.1 hq with h | h
        · exact hPx q (by rw [hx2]; simp [h])
        · exact hPy q (by rw [hy2]; simp [h])
      have hPR : ∀ q ∈ R0 ++ R1, P q := fun q hq => by
        rcases List.mem_append.1 hq with h | h
        · exact hPx q (by rw [hx2]; simp [h])
        · exact hPy q (by rw [hy2]; simp [h])
      have hend : ∀ L r : List PE, L.Perm (L0 ++ L1) → Asc leE L → r.Perm (R0 ++ R1) → Asc leE r → ∀ (w : World) (G : List Own), Ctx W w (bufE p cap (u ++ L ++ r ++ z) :: S ++ G) Φ1 → K (.returned (.tuple #[])) w := fun L r hLp hLa hrp hra w G cx => by
        refine hK (L ++ r) w ?_ (asc_app hLa hra fun q hq q' hq' => hsplit q (hLp.mem_iff.1 hq) q' (hrp.mem_iff.1 hq')) (cx.left.re (by simp))
        rw [hx2, hy2]
        refine (List.Perm.append hLp hrp).trans ?_
        simp only [List.append_assoc]
        exact List.Perm.append_left _ (List.perm_append_comm_assoc _ _ _)
      have hLs : ¬ (0 < s ∧ 0 < t) → Asc leE (L0 ++ L1) := fun h => by
        rcases Nat.eq_zero_or_pos s with hz | hz
        · rw [List.eq_nil_of_length_eq_zero (l := L0) (by omega)]; exact hL1a
        · rw [List.eq_nil_of_length_eq_zero (l := L1) (by omega), List.append_nil]; exact hL0a
      have hRs : ¬ (s < x.length ∧ t < y.length) → Asc leE (R0 ++ R1) := fun h => by
        by_cases hz : s < x.length
        · rw [List.eq_nil_of_length_eq_zero (l := R1) (by omega), List.append_nil]; exact hR0a
        · rw [List.eq_nil_of_length_eq_zero (l := R0) (by omega)]; exact hR1a
      rw [hend2]
      have hcL : ((decide ((u.length : Int) < (u.length : Int) + s) && decide ((u.length : Int) + s < ((u.length + H : Nat) : Int))) = true ↔ (0 < s ∧ 0 < t)) := by
        simp only [Bool.and_eq_true, decide_eq_true_eq]; omega
      have hcR : ((decide (((u.length + H : Nat) : Int) < (u.length : Int) + x.length + t) && decide ((u.length : Int) + x.length + t < (u.length : Int) + x.length + y.length)) = true ↔ (s < x.length ∧ t < y.length)) := by
        simp only [Bool.and_eq_true, decide_eq_true_eq]; omega
      have hxl : x.length = L0.length + R0.length := by omega
      have hyl : y.length = L1.length + R1.length := by omega
      refine ⟨by unfold I64; omega, fun w G cx => Br.intro (fun hro => fun w G cx => ?_) (fun hro => fun w G cx => ?_)⟩
      · simp only [Bool.and_eq_true, decide_eq_true_eq] at hro
        refine rotate_use (S := S ++ G) (u ++ L0) R0 L1 (R1 ++ z) (by omega) (by omega) (cx.re (by rw [hx2, hy2]; simp)) (hN.trans (by simp only [List.length_append]; omega)) (by simp only [List.length_append]; omega) (by simp only [List.length_append]; omega) (by simp only [List.length_append]; omega) (by simp only [List.length_append]; omega) fun w cx => ⟨rfl, bufE p cap (u ++ (L0 ++ L1) ++ (R0 ++ R1) ++ z) :: S, Φ1, inferInstance, cx.re (by simp), fun w G cx => ?_⟩
        exact Br.intro (fun h => fun w G cx => ih (S := S ++ G) u L0 L1 (R0 ++ R1 ++ z) (by omega) (by have := hcL.1 h; omega) (by have := hcL.1 h; omega) hL0a hL1a (fun q hq => hPL q (by simp [hq])) (fun q hq => hPL q (by simp [hq])) hearL (hN.trans (by simp only [List.length_append]; omega)) (by simp only [List.length_append]; omega) (by omega) (by omega) (by omega) (fun L w hLp hLa cx => by have hLl : L.length = L0.length + L1.length := (by have := hLp.length_eq; rw [List.length_append] at this; exact this); exact ⟨rfl, bufE p cap (u ++ L ++ (R0 ++ R1) ++ z) :: S, Φ1, inferInstance, cx.re (by simp), fun w G cx => (Br.intro (fun h => fun w G cx => ih (S := S ++ G) (u ++ L) R0 R1 z (by omega) (by have := hcR.1 h; omega) (by have := hcR.1 h; omega) hR0a hR1a (fun q hq => hPR q (by simp [hq])) (fun q hq => hPR q (by simp [hq])) hearR (hN.trans (by simp only [List.length_append]; omega)) (by simp only [List.length_append]; omega) (by simp only [List.length_append]; omega) (by simp only [List.length_append]; omega) (by simp only [List.length_append]; omega) (fun r w hp ha cx => ⟨rfl, bufE p cap (u ++ L ++ r ++ z) :: S, Φ1, inferInstance, cx, fun w G cx => hend L r hLp hLa hp ha w G cx⟩) (cx.re (by simp))) (fun h => fun w G cx => hend L (R0 ++ R1) hLp hLa (List.Perm.refl _) (hRs (fun hh => by have := hcR.2 hh; rw [this] at h; cases h)) w G cx))⟩) (cx.re (by simp))) (fun h => fun w G cx => by have hLa : Asc leE (L0 ++ L1) := hLs (fun hh => by have := hcL.2 hh; rw [this] at h; cases h); generalize hLe : L0 ++ L1 = L at hLa cx ⊢; have hLl : L.length = L0.length + L1.length := (by rw [← hLe]; exact List.length_append); have hLp : L.Perm (L0 ++ L1) := (by rw [hLe]); exact (Br.intro (fun h => fun w G cx => ih (S := S ++ G) (u ++ L) R0 R1 z (by omega) (by have := hcR.1 h; omega) (by have := hcR.1 h; omega) hR0a hR1a (fun q hq => hPR q (by simp [hq])) (fun q hq => hPR q (by simp [hq])) hearR (hN.trans (by simp only [List.length_append]; omega)) (by simp only [List.length_append]; omega) (by simp only [List.length_append]; omega) (by simp only [List.length_append]; omega) (by simp only [List.length_append]; omega) (fun r w hp ha cx => ⟨rfl, bufE p cap (u ++ L ++ r ++ z) :: S, Φ1, inferInstance, cx, fun w G cx => hend L r hLp hLa hp ha w G cx⟩) (cx.re (by simp))) (fun h => fun w G cx => hend L (R0 ++ R1) hLp hLa (List.Perm.refl _) (hRs (fun hh => by have := hcR.2 hh; rw [this] at h; cases h)) w G cx)))
      · have hro' : ¬ (s < x.length ∧ 0 < t) := fun h => by
          have : (decide ((u.length : Int) + s < (u.length : Int) + x.length) && decide ((u.length : Int) + x.length < (u.length : Int) + x.length + t)) = true := by simp only [Bool.and_eq_true, decide_eq_true_eq]; omega
          rw [this] at hro; cases hro
        have hsame : R0 ++ L1 = L1 ++ R0 := by
          by_cases hz : s < x.length
          · rw [List.eq_nil_of_length_eq_zero (l := L1) (by omega)]; simp
          · rw [List.eq_nil_of_length_eq_zero (l := R0) (by omega)]; simp
        have heq : u ++ x ++ y ++ z = u ++ (L0 ++ L1) ++ (R0 ++ R1) ++ z := by
          rw [hx2, hy2]
          simp only [List.append_assoc]
          rw [← List.append_assoc R0 L1, hsame]
          simp only [List.append_assoc]
        rw [heq] at cx ⊢
        exact Br.intro (fun h => fun w G cx => ih (S := S ++ G) u L0 L1 (R0 ++ R1 ++ z) (by omega) (by have := hcL.1 h; omega) (by have := hcL.1 h; omega) hL0a hL1a (fun q hq => hPL q (by simp [hq])) (fun q hq => hPL q (by simp [hq])) hearL (hN.trans (by simp only [List.length_append]; omega)) (by simp only [List.length_append]; omega) (by omega) (by omega) (by omega) (fun L w hLp hLa cx => by have hLl : L.length = L0.length + L1.length := (by have := hLp.length_eq; rw [List.length_append] at this; exact this); exact ⟨rfl, bufE p cap (u ++ L ++ (R0 ++ R1) ++ z) :: S, Φ1, inferInstance, cx.re (by simp), fun w G cx => (Br.intro (fun h => fun w G cx => ih (S := S ++ G) (u ++ L) R0 R1 z (by omega) (by have := hcR.1 h; omega) (by have := hcR.1 h; omega) hR0a hR1a (fun q hq => hPR q (by simp [hq])) (fun q hq => hPR q (by simp [hq])) hearR (hN.trans (by simp only [List.length_append]; omega)) (by simp only [List.length_append]; omega) (by simp only [List.length_append]; omega) (by simp only [List.length_append]; omega) (by simp only [List.length_append]; omega) (fun r w hp ha cx => ⟨rfl, bufE p cap (u ++ L ++ r ++ z) :: S, Φ1, inferInstance, cx, fun w G cx => hend L r hLp hLa hp ha w G cx⟩) (cx.re (by simp))) (fun h => fun w G cx => hend L (R0 ++ R1) hLp hLa (List.Perm.refl _) (hRs (fun hh => by have := hcR.2 hh; rw [this] at h; cases h)) w G cx))⟩) (cx.re (by simp))) (fun h => fun w G cx => by have hLa : Asc leE (L0 ++ L1) := hLs (fun hh => by have := hcL.2 hh; rw [this] at h; cases h); generalize hLe : L0 ++ L1 = L at hLa cx ⊢; have hLl : L.length = L0.length + L1.length := (by rw [← hLe]; exact List.length_append); have hLp : L.Perm (L0 ++ L1) := (by rw [hLe]); exact (Br.intro (fun h => fun w G cx => ih (S := S ++ G) (u ++ L) R0 R1 z (by omega) (by have := hcR.1 h; omega) (by have := hcR.1 h; omega) hR0a hR1a (fun q hq => hPR q (by simp [hq])) (fun q hq => hPR q (by simp [hq])) hearR (hN.trans (by simp only [List.length_append]; omega)) (by simp only [List.length_append]; omega) (by simp only [List.length_append]; omega) (by simp only [List.length_append]; omega) (by simp only [List.length_append]; omega) (fun r w hp ha cx => ⟨rfl, bufE p cap (u ++ L ++ r ++ z) :: S, Φ1, inferInstance, cx, fun w G cx => hend L r hLp hLa hp ha w G cx⟩) (cx.re (by simp))) (fun h => fun w G cx => hend L (R0 ++ R1) hLp hLa (List.Perm.refl _) (hRs (fun hh => by have := hcR.2 hh; rw [this] at h; cases h)) w G cx)))
end Go.Proofs.YtebnciehcnedjaaGreatDoor
end

section
namespace Go.Proofs.YtebnciehcnedjaaGreatDoor
open Go.Vc
theorem cat_all {cs : List (List PE)} {bs : Nat} {c : List PE} (h : ∀ d ∈ cs, d.length = bs ∧ Asc leE d) (h1 : c.length = bs) (h2 : Asc leE c) : ∀ d ∈ cs ++ [c], d.length = bs ∧ Asc leE d := fun d hd => by
  rcases List.mem_append.1 hd with hd | hd
  · exact h d hd
  · rw [List.mem_singleton.1 hd]; exact ⟨h1, h2⟩
theorem flat_snoc (cs : List (List PE)) (c : List PE) : (cs ++ [c]).flatten = cs.flatten ++ c := by simp
theorem flat_one {cs : List (List PE)} {bs : Nat} (h0 : 0 < bs) (h : ∀ d ∈ cs, d.length = bs ∧ Asc leE d) (hl : cs.flatten.length = 0) : cs = [] := by
  cases cs with
  | nil => rfl
  | cons c cs =>
    have := (h c (by simp)).1
    rw [List.flatten_cons, List.length_append] at hl
    omega
abbrev Sep (l : List (List PE)) : Prop := l.Pairwise Early
theorem sep_merge {ds t : List (List PE)} {c1 c2 r : List PE} (h : Sep (ds ++ c1 :: c2 :: t)) (hr : r.Perm (c1 ++ c2)) : Sep (ds ++ r :: t) := by
  obtain ⟨h1, h2, h3⟩ := List.pairwise_append.1 h
  obtain ⟨h4, h5⟩ := List.pairwise_cons.1 h2
  obtain ⟨h6, h7⟩ := List.pairwise_cons.1 h5
  refine List.pairwise_append.2 ⟨h1, List.pairwise_cons.2 ⟨fun d hd a ha b hb => ?_, h7⟩, fun c hc d hd a ha b hb => ?_⟩
  · rcases List.mem_append.1 (hr.mem_iff.1 ha) with ha | ha
    · exact h4 d (by simp [hd]) a ha b hb
    · exact h6 d hd a ha b hb
  · rcases List.mem_cons.1 hd with rfl | hd
    · rcases List.mem_append.1 (hr.mem_iff.1 hb) with hb | hb
      · exact h3 c hc c1 (by simp) a ha b hb
      · exact h3 c hc c2 (by simp) a ha b hb
    · exact h3 c hc d (by simp [hd]) a ha b hb
set_option maxHeartbeats 4000000 in
theorem stable_use {W w : World} {S : List Own} {Φ : PW} [Stable Φ] {p : Option Addr} {cap : Nat} {f : FuncId} {cp : Array Value} {P : PE → Prop} (hf : CmpFn Φ f cp P) (es : List PE) (hP : ∀ e ∈ es, P e) (hI : Idx es) (cx : Ctx W w (bufE p cap es :: S) Φ)
    (hlen : es.length ≤ 100000000) {K : Ending → World → Prop} (hK : ∀ es' w', es'.Perm es → Asc leE es' → Ctx W w' (bufE p cap es' :: S) Φ → K (.returned (.tuple #[])) w') :
    Calls Tryz.prog F.slices_stableCmpFunc_api_Pair #[.slice p es.length cap, .int .i64 es.length, .func (.func f) #[] cp] w K := by
  refine (Bslices_stableCmpFunc_api_Pair_run p es.length cap es.length f cp (J := fun u w' => K (.returned u) w') cx ?_).mono fun e w' ⟨v, he, hj⟩ => by rw [he]; exact hj
  refine exI_mk (fun a b R' Φ' k => ∃ (cs : List (List PE)) (rest : List PE), a = cs.flatten.length ∧ b = (cs.flatten.length : Int) + 20 ∧ (∀ c ∈ cs, c.length = 20 ∧ Asc leE c) ∧ Sep (cs ++ [rest]) ∧ Idx rest ∧ (cs.flatten ++ rest).Perm es ∧ R' = bufE p cap (cs.flatten ++ rest) :: S ∧ Φ' = Φ ∧ k = rest.length)
    ⟨⟨_, Φ, _, inferInstance, fun w G cx => cx, [], es, rfl, rfl, by simp, by simp, hI, List.Perm.refl _, rfl, rfl, rfl⟩, ?_⟩
  clear cx
  rintro _ _ R1 Φ1 k _ ⟨cs, rest, rfl, rfl, hcs, hsep, hidx, hperm, rfl, rfl, rfl⟩
  have hlp := hperm.length_eq
  rw [List.length_append] at hlp
  have hPr : ∀ q ∈ rest, P q := fun q hq => hP q (hperm.mem_iff.1 (by simp [hq]))
  refine Br.intro (fun hle => fun w G cx => ?_) (fun hgt => fun w G cx => ?_)
  · have hle := of_decide_eq_true hle
    have hl1 : (rest.take 20).length = 20 := by rw [List.length_take]; omega
    have hl2 : (rest.drop 20).length = rest.length - 20 := by rw [List.length_drop]
    refine insertionSort_use (S := S ++ G) hf cs.flatten (rest.take 20) (rest.drop 20) (fun q hq => hPr q (List.mem_of_mem_take hq)) (hidx.sublist (List.take_sublist _ _)) (cx.re (by simp)) (by simp only [List.length_append]; omega) (by simp only [List.length_append]; omega) rfl (by omega) fun x' w hp ha cx => ?_
    have hx' : x'.length = 20 := by rw [hp.length_eq, hl1]
    refine ⟨rfl, bufE p cap ((cs ++ [x']).flatten ++ rest.drop 20) :: S, Φ1, inferInstance, cx.re (by rw [flat_snoc]; rfl), by unfold I64; omega, _, Φ1, (rest.drop 20).length, inferInstance, fun w G cx => cx, ⟨cs ++ [x'], rest.drop 20, by rw [flat_snoc, List.length_append]; omega, by rw [flat_snoc, List.length_append]; omega, cat_all hcs hx' ha, ?_, hidx.sublist (List.drop_sublist _ _), ?_, rfl, rfl, rfl⟩, by omega⟩
    · rw [List.append_assoc]
      refine List.pairwise_append.2 ⟨(List.pairwise_append.1 hsep).1, List.pairwise_cons.2 ⟨fun d hd => ?_, by simp⟩, fun c hc d hd => ?_⟩
      · rw [List.mem_singleton.1 hd]
        have h2 := hidx
        rw [← List.take_append_drop 20 rest] at h2
        exact Early.perm (fun a ha b hb => (List.pairwise_append.1 h2).2.2 a ha b hb) hp (List.Perm.refl _)
      · have h3 := (List.pairwise_append.1 hsep).2.2 c hc rest (by simp)
        simp only [List.cons_append, List.nil_append, List.mem_cons, List.not_mem_nil, or_false] at hd
        rcases hd with rfl | rfl
        · exact fun a ha b hb => h3 a ha b (List.mem_of_mem_take (hp.mem_iff.1 hb))
        · exact fun a ha b hb => h3 a ha b (List.mem_of_mem_drop hb)
    refine List.Perm.trans ?_ hperm
    rw [flat_snoc, List.append_assoc]
    refine List.Perm.append_left _ ((List.Perm.append_right _ hp).trans ?_)
    rw [List.take_append_drop]
  have hgt := of_decide_eq_false hgt
  refine insertionSort_use (S := S ++ G) hf cs.flatten rest [] hPr hidx (cx.re (by simp)) (by simp only [List.length_append, List.length_nil]; omega) (by simp only [List.length_append, List.length_nil]; omega) rfl (by omega) fun x' w hp ha cx => ?_
  have hx' := hp.length_eq
  have hsep2 : Sep (cs ++ [x']) := List.pairwise_append.2 ⟨(List.pairwise_append.1 hsep).1, by simp, fun c hc d hd => by
    rw [List.mem_singleton.1 hd]
    exact Early.perm ((List.pairwise_append.1 hsep).2.2 c hc rest (by simp)) (List.Perm.refl _) hp⟩
  refine ⟨rfl, bufE p cap (cs.flatten ++ x') :: S, Φ1, inferInstance, cx.re (by simp), ?_⟩
  refine exI_mk (fun bs R' Φ' k => ∃ (b : Nat) (cs : List (List PE)) (rest : List PE), bs = b ∧ 20 ≤ b ∧ b ≤ 200000000 ∧ (∀ c ∈ cs, c.length = b ∧ Asc leE c) ∧ Asc leE rest ∧ rest.length < b ∧ Sep (cs ++ [rest]) ∧ (cs.flatten ++ rest).Perm es ∧ R' = bufE p cap (cs.flatten ++ rest) :: S ∧ Φ' = Φ1 ∧ k = es.length - b)
    ⟨⟨_, Φ1, _, inferInstance, fun w G cx => cx, 20, cs, x', rfl, by omega, by omega, hcs, ha, by omega, hsep2, (List.Perm.append_left _ hp).trans hperm, rfl, rfl, rfl⟩, ?_⟩
  clear cx hx' ha hp hcs hperm hPr hlp hgt hsep2 hsep hidx
  rintro _ R2 Φ2 k _ ⟨b, cs, rest, rfl, hb20, hbm, hcs, hra, hrl, hsep, hperm, rfl, rfl, rfl⟩
  have hlp := hperm.length_eq
  rw [List.length_append] at hlp
  refine Br.intro (fun hlt => ?_) (fun hge => fun w G cx => ?_)
  · have hlt := of_decide_eq_true hlt
    refine ⟨by unfold I64; omega, ?_⟩
    refine exI_mk (fun a e R' Φ' k => ∃ (ds cs : List (List PE)), a = ds.flatten.length ∧ e = (ds.flatten.length : Int) + 2 * b ∧ (∀ d ∈ ds, d.length = 2 * b ∧ Asc leE d) ∧ (∀ c ∈ cs, c.length = b ∧ Asc leE c) ∧ Sep (ds ++ (cs ++ [rest])) ∧ (ds.flatten ++ (cs.flatten ++ rest)).Perm es ∧ R' = bufE p cap (ds.flatten ++ (cs.flatten ++ rest)) :: S ∧ Φ' = Φ2 ∧ k = cs.length)
      ⟨⟨_, Φ2, _, inferInstance, fun w G cx => cx, [], cs, rfl, by simp, by simp, hcs, hsep, hperm, rfl, rfl, rfl⟩, ?_⟩
    clear hcs hperm hlp hsep
    rintro _ _ R3 Φ3 k _ ⟨ds, cs, rfl, rfl, hds, hcs, hsep, hperm, rfl, rfl, rfl⟩
    have hlp := hperm.length_eq
    rw [List.length_append, List.length_append] at hlp
    have hPc : ∀ c ∈ cs, ∀ q ∈ c, P q := fun c hc q hq => hP q (hperm.mem_iff.1 (by
      simp only [List.mem_append, List.mem_flatten]
      exact .inr (.inl ⟨c, hc, hq⟩)))
    have hPr : ∀ q ∈ rest, P q := fun q hq => hP q (hperm.mem_iff.1 (by simp [hq]))
    refine Br.intro (fun hle => ?_) (fun hgt => ?_)
    · have hle := of_decide_eq_true hle
      obtain ⟨c1, c2, cs, rfl⟩ : ∃ c1 c2 cs', cs = c1 :: c2 :: cs' := by
        match cs, hcs, hlp with
        | [], _, hlp => simp only [List.flatten_nil, List.flatten_cons, List.length_nil, List.length_append] at hlp; omega
        | [c], hcs, hlp => have := (hcs c (by simp)).1; simp only [List.flatten_nil, List.flatten_cons, List.length_nil, List.length_append] at hlp; omega
        | c1 :: c2 :: cs', _, _ => exact ⟨c1, c2, cs', rfl⟩
      obtain ⟨hc1, ha1⟩ := hcs c1 (by simp)
      obtain ⟨hc2, ha2⟩ := hcs c2 (by simp)
      simp only [List.flatten_cons, List.length_append] at hlp
      refine ⟨by unfold I64; omega, fun w G cx => ?_⟩
      refine symMerge_use (S := S ++ G) hf _ ds.flatten c1 c2 (cs.flatten ++ rest) (Nat.le_refl _) (by omega) (by omega) ha1 ha2 (hPc c1 (by simp)) (hPc c2 (by simp)) ((List.pairwise_cons.1 (List.pairwise_append.1 hsep).2.1).1 c2 (by simp)) (by simp only [List.length_append]; omega) (by simp only [List.length_append]; omega) rfl (by omega) (by omega) (fun r w hp ha cx => ?_) (cx.re (by simp))
      have hrl2 : r.length = 2 * b := by rw [hp.length_eq, List.length_append]; omega
      refine ⟨rfl, bufE p cap ((ds ++ [r]).flatten ++ (cs.flatten ++ rest)) :: S, Φ3, inferInstance, cx.re (by rw [flat_snoc]; rfl), by unfold I64; omega, by unfold I64; omega, _, Φ3, cs.length, inferInstance, fun w G cx => cx, ⟨ds ++ [r], cs, by rw [flat_snoc, List.length_append]; omega, by rw [flat_snoc, List.length_append]; omega, cat_all hds hrl2 ha, fun c hc => hcs c (by simp [hc]), (by rw [List.append_assoc]; exact sep_merge (t := cs ++ [rest]) hsep hp), ?_, rfl, rfl, rfl⟩, by simp; omega⟩
      refine List.Perm.trans ?_ hperm
      rw [flat_snoc, List.append_assoc]
      refine List.Perm.append_left _ ((List.Perm.append_right _ hp).trans (List.Perm.of_eq ?_))
      simp
    · have hgt := of_decide_eq_false hgt
      have hshape : (cs = [] ∧ rest.length = rest.length) ∨ ∃ c, cs = [c] := by
        match cs, hcs, hlp with
        | [], _, _ => exact .inl ⟨rfl, rfl⟩
        | [c], _, _ => exact .inr ⟨c, rfl⟩
        | c1 :: c2 :: cs', hcs, hlp =>
          have h1 := (hcs c1 (by simp)).1
          have h2 := (hcs c2 (by simp)).1
          simp only [List.flatten_cons, List.length_append] at hlp
          omega
      refine ⟨by unfold I64; omega, Br.intro (fun hm => fun w G cx => ?_) (fun hm => ⟨by unfold I64; omega, ?_⟩)⟩
      · have hm := of_decide_eq_true hm
        obtain ⟨c, rfl⟩ : ∃ c, cs = [c] := by
          rcases hshape with ⟨rfl, _⟩ | h
          · simp only [List.flatten_nil, List.flatten_cons, List.length_nil, List.length_append] at hlp; omega
          · exact h
        obtain ⟨hc1, ha1⟩ := hcs c (by simp)
        simp only [List.flatten_cons, List.flatten_nil, List.append_nil] at hlp
        refine symMerge_use (S := S ++ G) hf _ ds.flatten c rest [] (Nat.le_refl _) (by omega) (by omega) ha1 hra (hPc c (by simp)) hPr ((List.pairwise_cons.1 (List.pairwise_append.1 hsep).2.1).1 rest (by simp)) (by simp only [List.length_append, List.length_nil]; omega) (by simp only [List.length_append, List.length_nil]; omega) rfl (by omega) (by omega) (fun r w hp ha cx => ?_) (cx.re (by simp))
        have hrl2 : r.length = b + rest.length := by rw [hp.length_eq, List.length_append]; omega
        refine ⟨rfl, bufE p cap (ds.flatten ++ r) :: S, Φ3, inferInstance, cx.re (by simp), by unfold I64; omega, _, Φ3, es.length - 2 * b, inferInstance, fun w G cx => cx, ⟨2 * b, ds, r, by omega, by omega, by omega, hds, ha, by omega, sep_merge (t := []) hsep hp, ?_, rfl, rfl, rfl⟩, by omega⟩
        refine List.Perm.trans (List.Perm.append_left _ hp) (List.Perm.trans (List.Perm.of_eq ?_) hperm)
        simp
      · have hm := of_decide_eq_false hm
        rcases hshape with ⟨rfl, _⟩ | ⟨c, rfl⟩
        · exact ⟨bufE p cap (ds.flatten ++ rest) :: S, Φ3, es.length - 2 * b, inferInstance, fun w G cx => cx, ⟨2 * b, ds, rest, by omega, by omega, by omega, hds, hra, by omega, hsep, hperm, rfl, rfl, rfl⟩, by omega⟩
        · obtain ⟨hc1, ha1⟩ := hcs c (by simp)
          simp only [List.flatten_cons, List.flatten_nil, List.append_nil] at hlp hperm
          have hr : rest = [] := List.eq_nil_of_length_eq_zero (by omega)
          subst hr
          rw [List.append_nil] at hperm
          exact ⟨bufE p cap (ds.flatten ++ c) :: S, Φ3, es.length - 2 * b, inferInstance, fun w G cx => cx.re (by simp), ⟨2 * b, ds, c, by omega, by omega, by omega, hds, ha1, by omega, hsep.sublist (List.Sublist.append (List.Sublist.refl ds) (List.Sublist.cons_cons c (List.nil_sublist _))), hperm, rfl, rfl, rfl⟩, by omega⟩
  · have hge := of_decide_eq_false hge
    refine hK (cs.flatten ++ rest) w hperm ?_ cx.left
    cases cs with
    | nil => exact hra
    | cons c cs =>
      have h1 := (hcs c (by simp)).1
      rw [List.flatten_cons, List.length_append] at hlp
      have h2 : cs = [] := flat_one (by omega) (fun d hd => hcs d (by simp [hd])) (by omega)
      have h3 : rest = [] := List.eq_nil_of_length_eq_zero (by omega)
      subst h2 h3
      simpa using (hcs c (by simp)).2
theorem SortStable_use {W w : World} {S : List Own} {Φ : PW} [Stable Φ] {p : Option Addr} {cap : Nat} {f : FuncId} {cp : Array Value} {P : PE → Prop} (hf : CmpFn Φ f cp P) (es : List PE) (hP : ∀ e ∈ es, P e) (hI : Idx es) (cx : Ctx W w (bufE p cap es :: S) Φ)
    (hlen : es.length ≤ 100000000) {K : Ending → World → Prop} (hK : ∀ es' w', es'.Perm es → Asc leE es' → Ctx W w' (bufE p cap es' :: S) Φ → K (.returned (.tuple #[])) w') :
    Calls Tryz.prog F.slices_SortStableFunc_api_Pair_api_Pair #[.slice p es.length cap, .func (.func f) #[] cp] w K := by
  refine (Bslices_SortStableFunc_api_Pair_api_Pair_run p es.length cap f cp (J := fun u w' => K (.returned u) w') cx ?_).mono fun e w' ⟨v, he, hj⟩ => by rw [he]; exact hj
  exact fun w G cx => stable_use (S := S ++ G) hf es hP hI cx hlen fun es' w hp ha cx => ⟨rfl, bufE p cap es' :: S, Φ, inferInstance, cx, fun w G cx => hK es' w hp ha cx.left⟩
end Go.Proofs.YtebnciehcnedjaaGreatDoor
end

section
namespace Go.Proofs.YtebnciehcnedjaaGreatDoor
open Go.Vc
def cmpA : ByteArray → Run → Run
  | _, [] => []
  | p, y :: l => if y.key = p then cmpA y.key l else y :: cmpA y.key l
def compK : Run → Run
  | [] => []
  | x :: l => x :: cmpA x.key l
theorem cmpA_look (k : ByteArray) : ∀ (l : Run) (p : ByteArray), p ≠ k → lookV (cmpA p l) k = lookV l k
  | [], _, _ => rfl
  | y :: l, p, h => by
    unfold cmpA
    split
    · rename_i e
      rw [cmpA_look k l y.key (by rw [e]; exact h)]
      show _ = if y.key = k then some y.val else lookV l k
      rw [if_neg (by rw [e]; exact h)]
    · show (if y.key = k then some y.val else lookV (cmpA y.key l) k) = if y.key = k then some y.val else lookV l k
      by_cases e : y.key = k
      · rw [if_pos e, if_pos e]
      · rw [if_neg e, if_neg e, cmpA_look k l y.key e]
theorem compK_look (k : ByteArray) : ∀ l : Run, lookV (compK l) k = lookV l k
  | [] => rfl
  | x :: l => by
    show (if x.key = k then some x.val else lookV (cmpA x.key l) k) = if x.key = k then some x.val else lookV l k
    by_cases e : x.key = k
    · rw [if_pos e, if_pos e]
    · rw [if_neg e, if_neg e, cmpA_look k l x.key e]
theorem cmpA_asc : ∀ (l : Run) (p : ByteArray), (∀ y ∈ l, cmpT p y.key ≤ 0) → l.Pairwise (fun a b => cmpT a.key b.key ≤ 0) → AscK (cmpA p l) ∧ ∀ y ∈ cmpA p l, cmpT p y.key < 0
  | [], _, _, _ => ⟨.nil, by intro y h; cases h⟩
  | y :: l, p, h, hs => by
    obtain ⟨h1, h2⟩ := List.pairwise_cons.1 hs
    obtain ⟨g1, g2⟩ := cmpA_asc l y.key h1 h2
    unfold cmpA
    split
    · rename_i e
      exact ⟨g1, fun z hz => by rw [← e]; exact g2 z hz⟩
    · rename_i e
      have hp : cmpT p y.key < 0 := by
        have := h y (by simp)
        rcases Int.lt_or_eq_of_le this with h3 | h3
        · exact h3
        · exact absurd ((cmpT_cmp.eq _ _).1 h3).symm e
      refine ⟨List.pairwise_cons.2 ⟨g2, g1⟩, fun z hz => ?_⟩
      rcases List.mem_cons.1 hz with rfl | hz
      · exact hp
      · exact cmpT_cmp.trans _ _ _ hp (g2 z hz)
theorem compK_asc {l : Run} (hs : l.Pairwise fun a b => cmpT a.key b.key ≤ 0) : AscK (compK l) := by
  cases l with
  | nil => exact .nil
  | cons x l =>
    obtain ⟨h1, h2⟩ := List.pairwise_cons.1 hs
    obtain ⟨g1, g2⟩ := cmpA_asc l x.key h1 h2
    exact List.pairwise_cons.2 ⟨g2, g1⟩
theorem look_first {k v : ByteArray} : ∀ {es : List PE}, es.Pairwise (fun a b => a.d.key = b.d.key → a.idx ≤ b.idx) → lookV (es.map PE.d) k = some v → ∃ e ∈ es, e.d = ⟨k, v⟩ ∧ ∀ f ∈ es, f.d.key = k → e.idx ≤ f.idx
  | [], _, h => by cases h
  | x :: es, hp, h => by
    obtain ⟨h1, h2⟩ := List.pairwise_cons.1 hp
    have h : (if x.d.key = k then some x.d.val else lookV (es.map PE.d) k) = some v := h
    by_cases e : x.d.key = k
    · rw [if_pos e] at h
      refine ⟨x, by simp, pair_ext.2 ⟨e, Option.some.inj h⟩, fun f hf hk => ?_⟩
      rcases List.mem_cons.1 hf with rfl | hf
      · exact Nat.le_refl _
      · exact h1 f hf (e.trans hk.symm)
    · rw [if_neg e] at h
      obtain ⟨a, ha, hd, hm⟩ := look_first h2 h
      refine ⟨a, by simp [ha], hd, fun f hf hk => ?_⟩
      rcases List.mem_cons.1 hf with rfl | hf
      · exact absurd hk e
      · exact hm f hf hk
theorem pair_inj {α β : Type} {f : α → β} : ∀ {l : List α}, l.Pairwise (fun a b => f a ≠ f b) → ∀ {a b : α}, a ∈ l → b ∈ l → f a = f b → a = b
  | [], _, _, _, h, _, _ => by cases h
  | x :: l, h, a, b, ha, hb, e => by
    obtain ⟨h1, h2⟩ := List.pairwise_cons.1 h
    rcases List.mem_cons.1 ha with ha | ha
    · rcases List.mem_cons.1 hb with hb | hb
      · rw [ha, hb]
      · exact absurd e (by rw [ha]; exact h1 b hb)
    · rcases List.mem_cons.1 hb with hb | hb
      · exact absurd e.symm (by rw [hb]; exact h1 a ha)
      · exact pair_inj h2 ha hb e
theorem idx_inj {n : Nat} {l : Run} {a b : PE} (ha : a ∈ idxL n l) (hb : b ∈ idxL n l) (h : a.idx = b.idx) : a = b :=
  pair_inj (f := PE.idx) ((idxL_asc n l).imp fun h => Nat.ne_of_lt h) ha hb h
theorem stable_look {n : Nat} {l : Run} {es : List PE} (hp : es.Perm (idxL n l)) (ha : Asc leE es) (k : ByteArray) : lookV (es.map PE.d) k = lookV l k := by
  have e1 : es.Pairwise (fun a b => a.d.key = b.d.key → a.idx ≤ b.idx) := ha.imp fun {a b} h hk => by
    rcases h with h | h
    · rw [hk, cmpT_cmp.refl] at h; omega
    · exact h.2
  have e2 : (idxL n l).Pairwise (fun a b => a.d.key = b.d.key → a.idx ≤ b.idx) := List.Pairwise.imp (fun {a b} (h : a.idx < b.idx) => fun (_ : a.d.key = b.d.key) => Nat.le_of_lt h) (idxL_asc n l)
  have el : lookV l k = lookV ((idxL n l).map PE.d) k := by rw [idxL_d]
  rw [el]
  cases h1 : lookV (es.map PE.d) k with
  | none =>
    cases h2 : lookV ((idxL n l).map PE.d) k with
    | none => rfl
    | some u =>
      obtain ⟨f, hf, hfd, _⟩ := look_first e2 h2
      have hm : f.d ∈ es.map PE.d := List.mem_map.2 ⟨f, hp.mem_iff.2 hf, rfl⟩
      exfalso
      have : ∀ {l : Run}, f.d ∈ l → lookV l k ≠ none := fun {l} => by
        induction l with
        | nil => intro h; cases h
        | cons y l ih =>
          intro h hn
          have hn : (if y.key = k then some y.val else lookV l k) = none := hn
          by_cases e : y.key = k
          · rw [if_pos e] at hn; cases hn
          · rw [if_neg e] at hn
            rcases List.mem_cons.1 h with h | h
            · exact e (by rw [← h, hfd])
            · exact ih h hn
      exact this hm h1
  | some v =>
    obtain ⟨e, he, hed, hem⟩ := look_first e1 h1
    cases h2 : lookV ((idxL n l).map PE.d) k with
    | none =>
      exfalso
      have hm : e.d ∈ (idxL n l).map PE.d := List.mem_map.2 ⟨e, hp.mem_iff.1 he, rfl⟩
      have : ∀ {l : Run}, e.d ∈ l → lookV l k ≠ none := fun {l} => by
        induction l with
        | nil => intro h; cases h
        | cons y l ih =>
          intro h hn
          have hn : (if y.key = k then some y.val else lookV l k) = none := hn
          by_cases e' : y.key = k
          · rw [if_pos e'] at hn; cases hn
          · rw [if_neg e'] at hn
            rcases List.mem_cons.1 h with h | h
            · exact e' (by rw [← h, hed])
            · exact ih h hn
      exact this hm h2
    | some u =>
      obtain ⟨f, hf, hfd, hfm⟩ := look_first e2 h2
      have i1 := hem f (hp.mem_iff.2 hf) (by rw [hfd])
      have i2 := hfm e (hp.mem_iff.1 he) (by rw [hed])
      have : e = f := idx_inj (hp.mem_iff.1 he) hf (by omega)
      rw [this, hfd] at hed
      exact congrArg (fun x : PairD => some x.val) hed.symm ▸ rfl
theorem merged {n : Nat} {l : Run} {es : List PE} (hp : es.Perm (idxL n l)) (ha : Asc leE es) : compK (es.map PE.d) = normK l := by
  refine (normK_is (compK_asc ?_) fun k => by rw [compK_look, stable_look hp ha]).symm
  refine List.pairwise_map.2 (ha.imp fun {a b} h => ?_)
  rcases h with h | ⟨h, _⟩
  · omega
  · rw [h, cmpT_cmp.refl]; omega
end Go.Proofs.YtebnciehcnedjaaGreatDoor
end

