/-
  The conditions of the walks of some functions, one formula each; 'B<f>_run' says that they suffice. The formulas are printed by a program; the kernel compares them with the functions' code.
-/
import Derived.Test.YtebnciehcnedjaaGreatDoorSTl5
import Derived.Test.YtebnciehcnedjaaGreatDoorSTl4
import Derived.Lib.AppendZerosOnto
import Derived.Lib.Overlaps
import Derived.Laws.IdiomCopy
import Derived.Laws.Externs
import Derived.Test.YtebnciehcnedjaaGreatDoorSTl1
import Derived.Shelf.Strings.Builder1
import Derived.Shelf.Strconv.Itoa3
import Derived.Lib.AppendStr
import Derived.Lib.LaidTab
import Derived.LaidMore
import Derived.OpenShut
import Derived.Stop.Joined

set_option linter.unusedVariables false
set_option linter.unusedSimpArgs false
section
namespace Go.Proofs.YtebnciehcnedjaaGreatDoor
set_option maxRecDepth 100000
open Go.Vc
def Bstore_Store_Since (sB sO : Nat) (n : Int) (W : World) (R : List Own) (Φ : PW) (J : Value → World → Prop) : Prop :=
  ∀ w0 R1, Ctx W w0 (R ++ R1) Φ → ∃ n2, w0.cell? (Addr.mk sB (sO + 4) none) = some (.int .i64 n2) ∧ ∃ (n3 : Int), ((!decide (n < n2)) = true → w0.cell? (Addr.mk sB (sO + 2) none) = some (.int .i64 n3)) ∧ Br (decide (n < n2) || decide (n3 < n)) (∀ w4 R5, Ctx W w4 (R ++ R5) Φ → J (Value.tuple #[.slice none 0 0, .int .i64 3]) w4) (∃ R6 Φ7, Stable Φ7 ∧ Wk W R Φ R6 Φ7 ∧ ∃ (p10 : Option Addr) (k11 k12 : Nat), (∀ w13 R14, Ctx W w13 (R6 ++ R14) Φ7 → ∃ p15 k16 k17, w13.cell? (Addr.mk sB (sO + 3) none) = some (.slice p15 k16 k17) ∧ Value.slice p15 k16 k17 = Value.slice p10 k11 k12) ∧ ∃ (n18 : Int), (∀ w19 R20, Ctx W w19 (R6 ++ R20) Φ7 → ∃ n21, w19.cell? (Addr.mk sB (sO + 4) none) = some (.int .i64 n21) ∧ Value.int IntKind.i64 n21 = Value.int IntKind.i64 n18) ∧ I64 (n - n18) ∧ (0 ≤ n - n18 ∧ n - n18 ≤ (↑k11 : Int) ∧ k11 ≤ k12) ∧ ∀ w22 R23, Ctx W w22 (R ++ R23) Φ → Calls Tryz.prog
  F.slices_Clone_api_Change_api_Change #[.slice (subPtr p10 3 (n - n18).toNat k12) (k11 - (n - n18).toNat) (k12 - (n - n18).toNat)] w22 fun e24 w25 => ∃ p26 k27 k28, e24 = .returned (.slice p26 k27 k28) ∧ ∃ R29 Φ30, Stable Φ30 ∧ Ctx W w25 (R29 ++ R23) Φ30 ∧ ∀ w31 R32, Ctx W w31 (R29 ++ R32) Φ30 → J (Value.tuple #[.slice p26 k27 k28, .int .i64 0]) w31)
theorem Bstore_Store_Since_run (sB sO : Nat) (n : Int) {W w : World} {R : List Own} {Φ : PW} [Stable Φ] {J : Value → World → Prop} (c : Ctx W w R Φ) (h : Bstore_Store_Since sB sO n W R Φ J) : Calls Tryz.prog F.store_Store_Since #[.pointer (some ⟨sB, sO, none⟩), .int .i64 n] w fun e w' => ∃ v, e = .returned v ∧ J v w' :=
  vcFS_sound (H := { keep := some [0, 1, 4, 5, 19], stages := [(3, [.held [(0, true), (4, true), (5, true), (1, true), (6, true), (2, true), (7, true), (3, true), (8, true), (9, true), (10, true)], .stage [] (some 11), .stage [12, 13] none])] }) (by rw [show vcFS Tryz.prog W { keep := some [0, 1, 4, 5, 19], stages := [(3, [.held [(0, true), (4, true), (5, true), (1, true), (6, true), (2, true), (7, true), (3, true), (8, true), (9, true), (10, true)], .stage [] (some 11), .stage [12, 13] none])] } F.store_Store_Since #[.pointer (some ⟨sB, sO, none⟩), .int .i64 n] R Φ J = Bstore_Store_Since sB sO n W R Φ J by kernel_rfl]; exact h) c
def Bstore_Store_Seq (sB sO : Nat) (W : World) (R : List Own) (Φ : PW) (J : Value → World → Prop) : Prop :=
  ∀ w0 R1, Ctx W w0 (R ++ R1) Φ → ∃ n2, w0.cell? (Addr.mk sB (sO + 2) none) = some (.int .i64 n2) ∧ ∀ w3 R4, Ctx W w3 (R ++ R4) Φ → J (.int .i64 n2) w3
theorem Bstore_Store_Seq_run (sB sO : Nat) {W w : World} {R : List Own} {Φ : PW} [Stable Φ] {J : Value → World → Prop} (c : Ctx W w R Φ) (h : Bstore_Store_Seq sB sO W R Φ J) : Calls Tryz.prog F.store_Store_Seq #[.pointer (some ⟨sB, sO, none⟩)] w fun e w' => ∃ v, e = .returned v ∧ J v w' :=
  vcFS_sound (H := { keep := some [0, 2] }) (by rw [show vcFS Tryz.prog W { keep := some [0, 2] } F.store_Store_Seq #[.pointer (some ⟨sB, sO, none⟩)] R Φ J = Bstore_Store_Seq sB sO W R Φ J by kernel_rfl]; exact h) c
def Bstore_Store_Copy (sB sO : Nat) (W : World) (R : List Own) (Φ : PW) (J : Value → World → Prop) : Prop :=
  ∃ R0 Φ1, Stable Φ1 ∧ Wk W R Φ R0 Φ1 ∧ ∃ (p4 : Option Addr) (k5 k6 : Nat), (∀ w7 R8, Ctx W w7 (R0 ++ R8) Φ1 → ∃ p9 k10 k11, w7.cell? (Addr.mk sB sO none) = some (.slice p9 k10 k11) ∧ Value.slice p9 k10 k11 = Value.slice p4 k5 k6) ∧ ∃ (n12 : Int), (∀ w13 R14, Ctx W w13 (R0 ++ R14) Φ1 → ∃ n15, w13.cell? (Addr.mk sB (sO + 2) none) = some (.int .i64 n15) ∧ Value.int IntKind.i64 n15 = Value.int IntKind.i64 n12) ∧ ∃ (p16 : Option Addr) (k17 k18 : Nat), (∀ w19 R20, Ctx W w19 (R0 ++ R20) Φ1 → ∃ p21 k22 k23, w19.cell? (Addr.mk sB (sO + 3) none) = some (.slice p21 k22 k23) ∧ Value.slice p21 k22 k23 = Value.slice p16 k17 k18) ∧ ∃ (n24 : Int), (∀ w25 R26, Ctx W w25 (R0 ++ R26) Φ1 → ∃ n27, w25.cell? (Addr.mk sB (sO + 4) none) = some (.int .i64 n27) ∧ Value.int IntKind.i64 n27 = Value.int IntKind.i64 n24) ∧ ∀ w28 R29, Ctx W w28 (R ++ R29) Φ → Calls Tryz.prog F.slices_Clone_store_run_api_Pair #[.slice
  p4 k5 k6] w28 fun e30 w31 => ∃ p32 k33 k34, e30 = .returned (.slice p32 k33 k34) ∧ ∃ R35 Φ36, Stable Φ36 ∧ Ctx W w31 (R35 ++ R29) Φ36 ∧ Wk W R35 Φ36 R0 Φ1 ∧ ∀ w39 R40, Ctx W w39 (R35 ++ R40) Φ36 → Calls Tryz.prog F.slices_Clone_api_Change_api_Change #[.slice p16 k17 k18] w39 fun e41 w42 => ∃ p43 k44 k45, e41 = .returned (.slice p43 k44 k45) ∧ ∃ R46 Φ47, Stable Φ47 ∧ Ctx W w42 (R46 ++ R40) Φ47 ∧ Wk W R46 Φ47 R0 Φ1 ∧ ∀ (k50 : Nat) (w51 : World) (R52 : List Own), Ctx W w51 (Own.blk k50 [.slice p32 k33 k34, .slice none 0 0, .int .i64 n12, .slice p43 k44 k45, .int .i64 n24] 77 :: R46 ++ R52) Φ47 → ∃ p53 k54 k55, w51.cell? (Addr.mk sB (sO + 1) none) = some (.slice p53 k54 k55) ∧ exI fun (I56 : Int → List Own → PW → Nat → Prop) => (∃ R57 Φ58 k59, Stable Φ58 ∧ Wk W (Own.blk k50 [.slice p32 k33 k34, .slice none 0 0, .int .i64 n12, .slice p43 k44 k45, .int .i64 n24] 77 :: R46) Φ47 (R57) Φ58 ∧ I56
  0 R57 Φ58 k59) ∧ ∀ n62 R63 I64 k65, Stable I64 → I56 n62 R63 I64 k65 → Br (decide (n62 < (↑k54 : Int))) ((0 ≤ n62 ∧ n62 < (↑k54 : Int)) ∧ ptrK none p53 fun k66 k67 => ∀ w68 R69, Ctx W w68 (R63 ++ R69) I64 → ∃ p70 k71 k72, w68.cell? (Addr.mk k66 (k67 + n62.toNat) none) = some (.slice p70 k71 k72) ∧ ∃ R73 Φ74, Stable Φ74 ∧ Wk W R63 I64 R73 Φ74 ∧ ∃ (p77 : Option Addr) (k78 k79 : Nat), (∀ w80 R81, Ctx W w80 (R73 ++ R81) Φ74 → ∃ p82 k83 k84, w80.cell? (Addr.mk k50 1 none) = some (.slice p82 k83 k84) ∧ Value.slice p82 k83 k84 = Value.slice p77 k78 k79) ∧ ∀ w85 R86, Ctx W w85 (R63 ++ R86) I64 → Calls Tryz.prog F.slices_Clone_store_run_store_run #[.slice p70 k71 k72] w85 fun e87 w88 => ∃ p89 k90 k91, e87 = .returned (.slice p89 k90 k91) ∧ ∃ R92 Φ93, Stable Φ93 ∧ Ctx W w88 (R92 ++ R86) Φ93 ∧ Wk W R92 Φ93 R73 Φ74 ∧ ∀ (k96 : Nat), Wk W (Own.blk k96 [.slice p89 k90 k91] 84 :: R92) Φ93 (R73) Φ74 ∧ ∀
  w99 R100, Ctx W w99 (Own.blk k96 [.slice p89 k90 k91] 84 :: R92 ++ R100) Φ93 → ∃ (p101 : Option Addr) (k102 k103 : Nat) (w104 : World), Sem.run Tryz.prog (builtin Builtin.append #[75, 75] 75 #[false, false] #[.slice p77 k78 k79, .slice (some (Addr.mk k96 0 none)) 1 1]) w99 = .ok (.value (.slice p101 k102 k103)) w104 ∧ ∃ R105 Φ106, Stable Φ106 ∧ Ctx W w104 (R105 ++ R100) Φ106 ∧ Wk W R105 Φ106 R73 Φ74 ∧ ∀ w109 R110, Ctx W w109 (R105 ++ R110) Φ106 → CanWrite w109 k50 1 1 ∧ ∀ (w111 : World), w111 = w109.setCell (Addr.mk k50 1 none) (Value.slice p101 k102 k103) → ∃ R112 Φ113, Stable Φ113 ∧ Ctx W w111 (R112 ++ R110) Φ113 ∧ Vc.I64 (n62 + 1) ∧ ∃ R114 Φ115 k116, Stable Φ115 ∧ Wk W R112 Φ113 R114 Φ115 ∧ I56 (n62 + 1) R114 Φ115 k116 ∧ k116 < k65) (∀ w119 R120, Ctx W w119 (R63 ++ R120) I64 → J (.pointer (some (Addr.mk k50 0 none))) w119)
theorem Bstore_Store_Copy_run (sB sO : Nat) {W w : World} {R : List Own} {Φ : PW} [Stable Φ] {J : Value → World → Prop} (c : Ctx W w R Φ) (h : Bstore_Store_Copy sB sO W R Φ J) : Calls Tryz.prog F.store_Store_Copy #[.pointer (some ⟨sB, sO, none⟩)] w fun e w' => ∃ v, e = .returned v ∧ J v w' :=
  vcFS_sound (H := { keep := some [0, 2, 3, 5, 29, 30, 31, 32], stages := [(1, [.held [(0, true), (5, true), (9, true), (14, true), (1, true), (6, true), (10, true), (15, true), (2, true), (7, true), (11, true), (16, true), (3, true), (8, true), (12, true), (17, true), (4, false), (13, false)], .stage [18] (some 19), .stage [20] none]), (5, [.held [(0, true), (1, true), (5, true), (2, true), (3, true), (4, true), (6, false), (7, false), (8, false)], .stage [9] none, .stage [10] (some 11)])], loops := [(3, [(31, .one (.int .i64))], [])] }) (by rw [show vcFS Tryz.prog W { keep := some [0, 2, 3, 5, 29, 30, 31, 32], stages := [(1, [.held [(0, true), (5, true), (9, true), (14, true), (1, true), (6, true), (10, true), (15, true), (2, true), (7, true), (11, true), (16, true), (3, true), (8, true), (12, true), (17, true), (4, false), (13, false)], .stage [18] (some 19), .stage [20] none]), (5, [.held [(0, true), (1, true), (5, true), (2, true), (3, true), (4, true), (6, false), (7, false), (8, false)], .stage [9] none, .stage [10] (some 11)])], loops := [(3, [(31, .one (.int .i64))], [])] } F.store_Store_Copy #[.pointer (some ⟨sB, sO, none⟩)] R Φ J = Bstore_Store_Copy sB sO W R Φ J by kernel_rfl]; exact h) c
def Bstore_Store_Put (sB sO : Nat) (key : ByteArray) (value : ByteArray) (W : World) (R : List Own) (Φ : PW) (J : Value → World → Prop) : Prop :=
  ∀ w0 R1, Ctx W w0 (R ++ R1) Φ → ∃ n2, w0.cell? (Addr.mk sB (sO + 2) none) = some (.int .i64 n2) ∧ I64 (n2 + 1) ∧ ∀ w3 R4, Ctx W w3 (R ++ R4) Φ → CanWrite w3 sB (sO + 2) 1 ∧ ∀ (w5 : World), w5 = w3.setCell (Addr.mk sB (sO + 2) none) (Value.int IntKind.i64 (n2 + 1)) → ∃ R6 Φ7, Stable Φ7 ∧ Ctx W w5 (R6 ++ R4) Φ7 ∧ ∃ R8 Φ9, Stable Φ9 ∧ Wk W R6 Φ7 R8 Φ9 ∧ ∃ (p12 : Option Addr) (k13 k14 : Nat), (∀ w15 R16, Ctx W w15 (R8 ++ R16) Φ9 → ∃ p17 k18 k19, w15.cell? (Addr.mk sB (sO + 3) none) = some (.slice p17 k18 k19) ∧ Value.slice p17 k18 k19 = Value.slice p12 k13 k14) ∧ ∃ (n20 : Int), (∀ w21 R22, Ctx W w21 (R8 ++ R22) Φ9 → ∃ n23, w21.cell? (Addr.mk sB (sO + 2) none) = some (.int .i64 n23) ∧ Value.int IntKind.i64 n23 = Value.int IntKind.i64 n20) ∧ ∀ (k24 : Nat), Wk W (Own.blk k24 [.int .i64 n20, .string key, .string value] 46 :: R6) Φ7 (R8) Φ9 ∧ ∀ w27 R28, Ctx W w27 (Own.blk k24 [.int .i64 n20,
  .string key, .string value] 46 :: R6 ++ R28) Φ7 → ∃ (p29 : Option Addr) (k30 k31 : Nat) (w32 : World), Sem.run Tryz.prog (builtin Builtin.append #[31, 31] 31 #[false, false] #[.slice p12 k13 k14, .slice (some (Addr.mk k24 0 none)) 1 1]) w27 = .ok (.value (.slice p29 k30 k31)) w32 ∧ ∃ R33 Φ34, Stable Φ34 ∧ Ctx W w32 (R33 ++ R28) Φ34 ∧ Wk W R33 Φ34 R8 Φ9 ∧ ∀ w37 R38, Ctx W w37 (R33 ++ R38) Φ34 → CanWrite w37 sB (sO + 3) 1 ∧ ∀ (w39 : World), w39 = w37.setCell (Addr.mk sB (sO + 3) none) (Value.slice p29 k30 k31) → ∃ R40 Φ41, Stable Φ41 ∧ Ctx W w39 (R40 ++ R38) Φ41 ∧ ∀ (b : Nat) (w42 : World) (R43 : List Own), Ctx W w42 (R40 ++ R43) Φ41 → ∃ p44 k45 k46, w42.cell? (Addr.mk sB sO none) = some (.slice p44 k45 k46) ∧ ∀ w47 R48, Ctx W w47 (R40 ++ R48) Φ41 → Calls Tryz.prog F.store_run_find #[.slice p44 k45 k46, .string key] w47 fun e49 w50 => ∃ n51 c52, e49 = .returned (Value.tuple #[.int .i64
  n51, .bool c52]) ∧ ∃ R53 Φ54, Stable Φ54 ∧ Ctx W w50 (R53 ++ R48) Φ54 ∧ Br c52 (∀ w55 R56, Ctx W w55 (R53 ++ R56) Φ54 → ∃ p57 k58 k59, w55.cell? (Addr.mk sB sO none) = some (.slice p57 k58 k59) ∧ (0 ≤ n51 ∧ n51 < (↑k58 : Int)) ∧ ptrK none p57 fun k60 k61 => ∀ w62 R63, Ctx W w62 (R53 ++ R63) Φ54 → CanWrite w62 k60 (k61 + n51.toNat * 2) 2 ∧ ∀ (w64 : World), w64 = w62.setCells k60 (k61 + n51.toNat * 2) [.string key, .string value] → ∃ R65 Φ66, Stable Φ66 ∧ Ctx W w64 (R65 ++ R63) Φ66 ∧ ∀ w67 R68, Ctx W w67 (R65 ++ R68) Φ66 → Calls Tryz.prog F.store_Store_settle #[.pointer (some (Addr.mk sB sO none))] w67 fun e69 w70 => e69 = .returned (Value.tuple #[]) ∧ ∃ R71 Φ72, Stable Φ72 ∧ Ctx W w70 (R71 ++ R68) Φ72 ∧ ∀ w73 R74, Ctx W w73 (R71 ++ R74) Φ72 → J (Value.tuple #[]) w73) (∃ R75 Φ76, Stable Φ76 ∧ Wk W R53 Φ54 R75 Φ76 ∧ ∃ (p79 : Option Addr) (k80 k81 : Nat), (∀ w82 R83, Ctx W w82 (R75 ++ R83)
  Φ76 → ∃ p84 k85 k86, w82.cell? (Addr.mk sB sO none) = some (.slice p84 k85 k86) ∧ Value.slice p84 k85 k86 = Value.slice p79 k80 k81) ∧ ∀ (k87 : Nat), Wk W (Own.blk k87 [.string key, .string value] 69 :: R53) Φ54 (R75) Φ76 ∧ ∀ w90 R91, Ctx W w90 (Own.blk k87 [.string key, .string value] 69 :: R53 ++ R91) Φ54 → Calls Tryz.prog F.slices_Insert_store_run_api_Pair #[.slice p79 k80 k81, .int .i64 n51, .slice (some (Addr.mk k87 0 none)) 1 1] w90 fun e92 w93 => ∃ p94 k95 k96, e92 = .returned (.slice p94 k95 k96) ∧ ∃ R97 Φ98, Stable Φ98 ∧ Ctx W w93 (R97 ++ R91) Φ98 ∧ Wk W R97 Φ98 R75 Φ76 ∧ ∀ w101 R102, Ctx W w101 (R97 ++ R102) Φ98 → CanWrite w101 sB sO 1 ∧ ∀ (w103 : World), w103 = w101.setCell (Addr.mk sB sO none) (Value.slice p94 k95 k96) → ∃ R104 Φ105, Stable Φ105 ∧ Ctx W w103 (R104 ++ R102) Φ105 ∧ ∀ w106 R107, Ctx W w106 (R104 ++ R107) Φ105 → Calls Tryz.prog F.store_Store_settle #[.pointer
  (some (Addr.mk sB sO none))] w106 fun e108 w109 => e108 = .returned (Value.tuple #[]) ∧ ∃ R110 Φ111, Stable Φ111 ∧ Ctx W w109 (R110 ++ R107) Φ111 ∧ ∀ w112 R113, Ctx W w112 (R110 ++ R113) Φ111 → J (Value.tuple #[]) w112)
theorem Bstore_Store_Put_run (sB sO : Nat) (key : ByteArray) (value : ByteArray) {W w : World} {R : List Own} {Φ : PW} [Stable Φ] {J : Value → World → Prop} (c : Ctx W w R Φ) (h : Bstore_Store_Put sB sO key value W R Φ J) : Calls Tryz.prog F.store_Store_Put #[.pointer (some ⟨sB, sO, none⟩), .string key, .string value] w fun e w' => ∃ v, e = .returned v ∧ J v w' :=
  vcFS_sound (H := { keep := some [0, 1, 2, 6, 7, 8, 44], track := [6], stages := [(1, [.held [(0, true), (1, true), (5, true), (9, true), (10, true), (2, true), (6, true), (3, true), (7, true), (4, true), (8, true), (11, true), (12, false), (13, false)], .stage [14] none, .stage [15] (some 16)]), (5, [.stage [0, 4, 5, 1, 2, 3, 6] (some 7)]), (6, [.held [(0, true), (1, true), (5, true), (6, true), (2, true), (3, true), (4, true), (7, false), (8, false)], .stage [9] none, .stage [10] (some 11)])] }) (by rw [show vcFS Tryz.prog W { keep := some [0, 1, 2, 6, 7, 8, 44], track := [6], stages := [(1, [.held [(0, true), (1, true), (5, true), (9, true), (10, true), (2, true), (6, true), (3, true), (7, true), (4, true), (8, true), (11, true), (12, false), (13, false)], .stage [14] none, .stage [15] (some 16)]), (5, [.stage [0, 4, 5, 1, 2, 3, 6] (some 7)]), (6, [.held [(0, true), (1, true), (5, true), (6, true), (2, true), (3, true), (4, true), (7, false), (8, false)], .stage [9] none, .stage [10] (some 11)])] } F.store_Store_Put #[.pointer (some ⟨sB, sO, none⟩), .string key, .string value] R Φ J = Bstore_Store_Put sB sO key value W R Φ J by kernel_rfl]; exact h) c
def Bstore_New  (W : World) (R : List Own) (Φ : PW) (J : Value → World → Prop) : Prop :=
  ∀ (k0 : Nat) (w1 : World) (R2 : List Own), Ctx W w1 (Own.blk k0 [.slice none 0 0, .slice none 0 0, .int .i64 0, .slice none 0 0, .int .i64 0] 77 :: R ++ R2) Φ → J (.pointer (some (Addr.mk k0 0 none))) w1
theorem Bstore_New_run  {W w : World} {R : List Own} {Φ : PW} [Stable Φ] {J : Value → World → Prop} (c : Ctx W w R Φ) (h : Bstore_New  W R Φ J) : Calls Tryz.prog F.store_New #[] w fun e w' => ∃ v, e = .returned v ∧ J v w' :=
  vcFS_sound (H := { keep := some [0] }) (by rw [show vcFS Tryz.prog W { keep := some [0] } F.store_New #[] R Φ J = Bstore_New  W R Φ J by kernel_rfl]; exact h) c
def Bstore_Store_Apply (sB sO : Nat) (c0 : Int) (c1 : ByteArray) (c2 : ByteArray) (W : World) (R : List Own) (Φ : PW) (J : Value → World → Prop) : Prop :=
  ∀ (b : Nat) (w0 : World) (R1 : List Own), Ctx W w0 (R ++ R1) Φ → ∃ n2, w0.cell? (Addr.mk sB (sO + 2) none) = some (.int .i64 n2) ∧ I64 (n2 + 1) ∧ Br (decide (c0 ≠ n2 + 1)) (∀ w3 R4, Ctx W w3 (R ++ R4) Φ → J (.int .i64 25) w3) (∀ w5 R6, Ctx W w5 (R ++ R6) Φ → Calls Tryz.prog F.store_Store_Put #[.pointer (some (Addr.mk sB sO none)), .string c1, .string c2] w5 fun e7 w8 => e7 = .returned (Value.tuple #[]) ∧ ∃ R9 Φ10, Stable Φ10 ∧ Ctx W w8 (R9 ++ R6) Φ10 ∧ ∀ w11 R12, Ctx W w11 (R9 ++ R12) Φ10 → J (.int .i64 0) w11)
theorem Bstore_Store_Apply_run (sB sO : Nat) (c0 : Int) (c1 : ByteArray) (c2 : ByteArray) {W w : World} {R : List Own} {Φ : PW} [Stable Φ] {J : Value → World → Prop} (c : Ctx W w R Φ) (h : Bstore_Store_Apply sB sO c0 c1 c2 W R Φ J) : Calls Tryz.prog F.store_Store_Apply #[.pointer (some ⟨sB, sO, none⟩), .agg #[.int .i64 c0, .string c1, .string c2]] w fun e w' => ∃ v, e = .returned v ∧ J v w' :=
  vcFS_sound (H := { keep := some [0, 3, 4, 12], track := [3] }) (by rw [show vcFS Tryz.prog W { keep := some [0, 3, 4, 12], track := [3] } F.store_Store_Apply #[.pointer (some ⟨sB, sO, none⟩), .agg #[.int .i64 c0, .string c1, .string c2]] R Φ J = Bstore_Store_Apply sB sO c0 c1 c2 W R Φ J by kernel_rfl]; exact h) c
def Bstore_Store_Runs (sB sO : Nat) (W : World) (R : List Own) (Φ : PW) (J : Value → World → Prop) : Prop :=
  ∀ w0 R1, Ctx W w0 (R ++ R1) Φ → ∃ p2 k3 k4, w0.cell? (Addr.mk sB (sO + 1) none) = some (.slice p2 k3 k4) ∧ exI fun (I5 : Option Addr → Nat → Nat → Int → Int → List Own → PW → Nat → Prop) => (∃ R6 Φ7 k8, Stable Φ7 ∧ Wk W R Φ R6 Φ7 ∧ I5 none 0 0 0 0 R6 Φ7 k8) ∧ ∀ p11 k12 k13 n14 n15 R16 I17 k18, Stable I17 → I5 p11 k12 k13 n14 n15 R16 I17 k18 → Br (decide (n15 < (↑k3 : Int))) ((0 ≤ n15 ∧ n15 < (↑k3 : Int)) ∧ ptrK none p2 fun k19 k20 => ∀ w21 R22, Ctx W w21 (R16 ++ R22) I17 → ∃ p23 k24 k25, w21.cell? (Addr.mk k19 (k20 + n15.toNat) none) = some (.slice p23 k24 k25) ∧ exI fun (I26 : Option Addr → Nat → Nat → Int → List Own → PW → Nat → Prop) => (∃ R27 Φ28 k29, Stable Φ28 ∧ Wk W R16 I17 R27 Φ28 ∧ I26 none 0 0 0 R27 Φ28 k29) ∧ ∀ p32 k33 k34 n35 R36 I37 k38, Stable I37 → I26 p32 k33 k34 n35 R36 I37 k38 → Br (decide (n35 < (↑k24 : Int))) ((0 ≤ n35 ∧ n35 < (↑k24 : Int)) ∧ ptrK none p23 fun k39
  k40 => ∀ w41 R42, Ctx W w41 (R36 ++ R42) I37 → ∃ p43 k44 k45, w41.cell? (Addr.mk k39 (k40 + n35.toNat) none) = some (.slice p43 k44 k45) ∧ ∀ (k46 : Nat) (w47 : World) (R48 : List Own), Ctx W w47 (Own.blk k46 [.int .i64 (↑k44 : Int)] 3 :: R36 ++ R48) I37 → ∃ (p49 : Option Addr) (k50 k51 : Nat) (w52 : World), Sem.run Tryz.prog (builtin Builtin.append #[53, 53] 53 #[false, false] #[.slice p32 k33 k34, .slice (some (Addr.mk k46 0 none)) 1 1]) w47 = .ok (.value (.slice p49 k50 k51)) w52 ∧ ∃ R53 Φ54, Stable Φ54 ∧ Ctx W w52 (R53 ++ R48) Φ54 ∧ I64 (n35 + 1) ∧ ∃ R55 Φ56 k57, Stable Φ56 ∧ Wk W R53 Φ54 R55 Φ56 ∧ I26 p49 k50 k51 (n35 + 1) R55 Φ56 k57 ∧ k57 < k38) (∀ (k60 : Nat) (w61 : World) (R62 : List Own), Ctx W w61 (Own.blk k60 [.slice p32 k33 k34] 53 :: R36 ++ R62) I37 → ∃ (p63 : Option Addr) (k64 k65 : Nat) (w66 : World), Sem.run Tryz.prog (builtin Builtin.append #[51, 51] 51 #[false, false]
  #[.slice p11 k12 k13, .slice (some (Addr.mk k60 0 none)) 1 1]) w61 = .ok (.value (.slice p63 k64 k65)) w66 ∧ ∃ R67 Φ68, Stable Φ68 ∧ Ctx W w66 (R67 ++ R62) Φ68 ∧ Br (decide (0 < (↑k24 : Int))) (I64 (n15 + 1) ∧ I64 (n15 + 1) ∧ ∃ R69 Φ70 k71, Stable Φ70 ∧ Wk W R67 Φ68 R69 Φ70 ∧ I5 p63 k64 k65 (n15 + 1) (n15 + 1) R69 Φ70 k71 ∧ k71 < k18) (I64 (n15 + 1) ∧ ∃ R74 Φ75 k76, Stable Φ75 ∧ Wk W R67 Φ68 R74 Φ75 ∧ I5 p63 k64 k65 n14 (n15 + 1) R74 Φ75 k76 ∧ k76 < k18))) ((0 ≤ n14 ∧ n14 ≤ (↑k13 : Int)) ∧ ∀ w79 R80, Ctx W w79 (R16 ++ R80) I17 → J (.slice (subPtr p11 1 0 k13) n14.toNat k13) w79)
theorem Bstore_Store_Runs_run (sB sO : Nat) {W w : World} {R : List Own} {Φ : PW} [Stable Φ] {J : Value → World → Prop} (c : Ctx W w R Φ) (h : Bstore_Store_Runs sB sO W R Φ J) : Calls Tryz.prog F.store_Store_Runs #[.pointer (some ⟨sB, sO, none⟩)] w fun e w' => ∃ v, e = .returned v ∧ J v w' :=
  vcFS_sound (H := { keep := some [0, 2, 3, 4, 5, 6, 7, 9, 13, 14, 15, 16, 20, 21, 22, 23, 38], loops := [(8, [(7, .one (.slice)), (22, .one (.int .i64))], []), (4, [(3, .one (.slice)), (4, .one (.int .i64)), (15, .one (.int .i64))], [])] }) (by rw [show vcFS Tryz.prog W { keep := some [0, 2, 3, 4, 5, 6, 7, 9, 13, 14, 15, 16, 20, 21, 22, 23, 38], loops := [(8, [(7, .one (.slice)), (22, .one (.int .i64))], []), (4, [(3, .one (.slice)), (4, .one (.int .i64)), (15, .one (.int .i64))], [])] } F.store_Store_Runs #[.pointer (some ⟨sB, sO, none⟩)] R Φ J = Bstore_Store_Runs sB sO W R Φ J by kernel_rfl]; exact h) c
def Bstore_Store_Versions (sB sO : Nat) (W : World) (R : List Own) (Φ : PW) (J : Value → World → Prop) : Prop :=
  ∀ w0 R1, Ctx W w0 (R ++ R1) Φ → Calls Tryz.prog F.store_Store_runs #[.pointer (some (Addr.mk sB sO none))] w0 fun e2 w3 => ∃ p4 k5 k6, e2 = .returned (.slice p4 k5 k6) ∧ ∃ R7 Φ8, Stable Φ8 ∧ Ctx W w3 (R7 ++ R1) Φ8 ∧ exI fun (I9 : Int → Int → List Own → PW → Nat → Prop) => (∃ R10 Φ11 k12, Stable Φ11 ∧ Wk W R7 Φ8 R10 Φ11 ∧ I9 0 0 R10 Φ11 k12) ∧ ∀ n15 n16 R17 I18 k19, Stable I18 → I9 n15 n16 R17 I18 k19 → Br (decide (n16 < (↑k5 : Int))) ((0 ≤ n16 ∧ n16 < (↑k5 : Int)) ∧ ptrK none p4 fun k20 k21 => ∀ w22 R23, Ctx W w22 (R17 ++ R23) I18 → ∃ p24 k25 k26, w22.cell? (Addr.mk k20 (k21 + n16.toNat) none) = some (.slice p24 k25 k26) ∧ I64 (n15 + (↑k25 : Int)) ∧ I64 (n16 + 1) ∧ ∃ R27 Φ28 k29, Stable Φ28 ∧ Wk W R17 I18 R27 Φ28 ∧ I9 (n15 + (↑k25 : Int)) (n16 + 1) R27 Φ28 k29 ∧ k29 < k19) (∀ w32 R33, Ctx W w32 (R17 ++ R33) I18 → J (.int .i64 n15) w32)
theorem Bstore_Store_Versions_run (sB sO : Nat) {W w : World} {R : List Own} {Φ : PW} [Stable Φ] {J : Value → World → Prop} (c : Ctx W w R Φ) (h : Bstore_Store_Versions sB sO W R Φ J) : Calls Tryz.prog F.store_Store_Versions #[.pointer (some ⟨sB, sO, none⟩)] w fun e w' => ∃ v, e = .returned v ∧ J v w' :=
  vcFS_sound (H := { keep := some [0, 2, 3, 5, 7, 8, 9, 10], loops := [(3, [(3, .one (.int .i64)), (9, .one (.int .i64))], [])] }) (by rw [show vcFS Tryz.prog W { keep := some [0, 2, 3, 5, 7, 8, 9, 10], loops := [(3, [(3, .one (.int .i64)), (9, .one (.int .i64))], [])] } F.store_Store_Versions #[.pointer (some ⟨sB, sO, none⟩)] R Φ J = Bstore_Store_Versions sB sO W R Φ J by kernel_rfl]; exact h) c
def Bstore_Store_Len (sB sO : Nat) (W : World) (R : List Own) (Φ : PW) (J : Value → World → Prop) : Prop :=
  ∀ w0 R1, Ctx W w0 (R ++ R1) Φ → Calls Tryz.prog F.store_Store_Scan #[.pointer (some (Addr.mk sB sO none)), Value.string (ByteArray.mk #[])] w0 fun e2 w3 => ∃ p4 k5 k6, e2 = .returned (.slice p4 k5 k6) ∧ ∃ R7 Φ8, Stable Φ8 ∧ Ctx W w3 (R7 ++ R1) Φ8 ∧ ∀ w9 R10, Ctx W w9 (R7 ++ R10) Φ8 → J (.int .i64 (↑k5 : Int)) w9
theorem Bstore_Store_Len_run (sB sO : Nat) {W w : World} {R : List Own} {Φ : PW} [Stable Φ] {J : Value → World → Prop} (c : Ctx W w R Φ) (h : Bstore_Store_Len sB sO W R Φ J) : Calls Tryz.prog F.store_Store_Len #[.pointer (some ⟨sB, sO, none⟩)] w fun e w' => ∃ v, e = .returned v ∧ J v w' :=
  vcFS_sound (H := { keep := some [0, 2] }) (by rw [show vcFS Tryz.prog W { keep := some [0, 2] } F.store_Store_Len #[.pointer (some ⟨sB, sO, none⟩)] R Φ J = Bstore_Store_Len sB sO W R Φ J by kernel_rfl]; exact h) c
def Bstore_Store_Get (sB sO : Nat) (key : ByteArray) (W : World) (R : List Own) (Φ : PW) (J : Value → World → Prop) : Prop :=
  ∀ w0 R1, Ctx W w0 (R ++ R1) Φ → Calls Tryz.prog F.store_Store_runs #[.pointer (some (Addr.mk sB sO none))] w0 fun e2 w3 => ∃ p4 k5 k6, e2 = .returned (.slice p4 k5 k6) ∧ ∃ R7 Φ8, Stable Φ8 ∧ Ctx W w3 (R7 ++ R1) Φ8 ∧ exI fun (I9 : Int → List Own → PW → Nat → Prop) => (∃ R10 Φ11 k12, Stable Φ11 ∧ Wk W R7 Φ8 R10 Φ11 ∧ I9 0 R10 Φ11 k12) ∧ ∀ n15 R16 I17 k18, Stable I17 → I9 n15 R16 I17 k18 → Br (decide (n15 < (↑k5 : Int))) ((0 ≤ n15 ∧ n15 < (↑k5 : Int)) ∧ ptrK none p4 fun k19 k20 => ∀ w21 R22, Ctx W w21 (R16 ++ R22) I17 → ∃ p23 k24 k25, w21.cell? (Addr.mk k19 (k20 + n15.toNat) none) = some (.slice p23 k24 k25) ∧ ∀ w26 R27, Ctx W w26 (R16 ++ R27) I17 → Calls Tryz.prog F.store_run_find #[.slice p23 k24 k25, .string key] w26 fun e28 w29 => ∃ n30 c31, e28 = .returned (Value.tuple #[.int .i64 n30, .bool c31]) ∧ ∃ R32 Φ33, Stable Φ33 ∧ Ctx W w29 (R32 ++ R27) Φ33 ∧ Br c31 ((0 ≤ n30 ∧ n30 < (↑k24 :
  Int)) ∧ ptrK none p23 fun k34 k35 => ∀ w36 R37, Ctx W w36 (R32 ++ R37) Φ33 → ∃ s38, w36.cell? (Addr.mk k34 (k35 + n30.toNat * 2 + 1) none) = some (.string s38) ∧ ∀ w39 R40, Ctx W w39 (R32 ++ R40) Φ33 → J (.string s38) w39) (I64 (n15 + 1) ∧ ∃ R41 Φ42 k43, Stable Φ42 ∧ Wk W R32 Φ33 R41 Φ42 ∧ I9 (n15 + 1) R41 Φ42 k43 ∧ k43 < k18)) (∀ w46 R47, Ctx W w46 (R16 ++ R47) I17 → J (.string (ByteArray.mk #[])) w46)
theorem Bstore_Store_Get_run (sB sO : Nat) (key : ByteArray) {W w : World} {R : List Own} {Φ : PW} [Stable Φ] {J : Value → World → Prop} (c : Ctx W w R Φ) (h : Bstore_Store_Get sB sO key W R Φ J) : Calls Tryz.prog F.store_Store_Get #[.pointer (some ⟨sB, sO, none⟩), .string key] w fun e w' => ∃ v, e = .returned v ∧ J v w' :=
  vcFS_sound (H := { keep := some [0, 1, 4, 6, 7, 8, 10, 11, 12, 13, 22], loops := [(2, [(12, .one (.int .i64))], [])] }) (by rw [show vcFS Tryz.prog W { keep := some [0, 1, 4, 6, 7, 8, 10, 11, 12, 13, 22], loops := [(2, [(12, .one (.int .i64))], [])] } F.store_Store_Get #[.pointer (some ⟨sB, sO, none⟩), .string key] R Φ J = Bstore_Store_Get sB sO key W R Φ J by kernel_rfl]; exact h) c
def Bstore_Store_add (sB sO : Nat) (level : Int) (rP : Option Addr) (rN rC : Nat) (W : World) (R : List Own) (Φ : PW) (J : Value → World → Prop) : Prop :=
  exI fun (I0 : List Own → PW → Nat → Prop) => (∃ R1 Φ2 k3, Stable Φ2 ∧ Wk W R Φ R1 Φ2 ∧ I0 R1 Φ2 k3) ∧ ∀ R6 I7 k8, Stable I7 → I0 R6 I7 k8 → ∀ w9 R10, Ctx W w9 (R6 ++ R10) I7 → ∃ p11 k12 k13, w9.cell? (Addr.mk sB (sO + 1) none) = some (.slice p11 k12 k13) ∧ Br (decide ((↑k12 : Int) ≤ level)) (∀ w14 R15, Ctx W w14 (R6 ++ R15) I7 → ∃ p16 k17 k18, w14.cell? (Addr.mk sB (sO + 1) none) = some (.slice p16 k17 k18) ∧ ∀ (k19 : Nat) (w20 : World) (R21 : List Own), Ctx W w20 (Own.blk k19 [.slice none 0 0] 84 :: R6 ++ R21) I7 → ∃ (p22 : Option Addr) (k23 k24 : Nat) (w25 : World), Sem.run Tryz.prog (builtin Builtin.append #[75, 75] 75 #[false, false] #[.slice p16 k17 k18, .slice (some (Addr.mk k19 0 none)) 1 1]) w20 = .ok (.value (.slice p22 k23 k24)) w25 ∧ ∃ R26 Φ27, Stable Φ27 ∧ Ctx W w25 (R26 ++ R21) Φ27 ∧ ∀ w28 R29, Ctx W w28 (R26 ++ R29) Φ27 → CanWrite w28 sB (sO + 1) 1 ∧ ∀ (w30 : World), w30 =
  w28.setCell (Addr.mk sB (sO + 1) none) (Value.slice p22 k23 k24) → ∃ R31 Φ32, Stable Φ32 ∧ Ctx W w30 (R31 ++ R29) Φ32 ∧ ∃ R33 Φ34 k35, Stable Φ34 ∧ Wk W R31 Φ32 R33 Φ34 ∧ I0 R33 Φ34 k35 ∧ k35 < k8) (Br (decide (0 < (↑rN : Int))) (∃ R38 Φ39, Stable Φ39 ∧ Wk W R6 I7 R38 Φ39 ∧ ∃ (p42 : Option Addr) (k43 k44 : Nat), (∀ w45 R46, Ctx W w45 (R38 ++ R46) Φ39 → ∃ p47 k48 k49, w45.cell? (Addr.mk sB (sO + 1) none) = some (.slice p47 k48 k49) ∧ Value.slice p47 k48 k49 = Value.slice p42 k43 k44) ∧ ∃ (p50 : Option Addr) (k51 k52 : Nat), (∀ w53 R54, Ctx W w53 (R38 ++ R54) Φ39 → ∃ p55 k56 k57, w53.cell? (Addr.mk sB (sO + 1) none) = some (.slice p55 k56 k57) ∧ Value.slice p55 k56 k57 = Value.slice p50 k51 k52) ∧ (0 ≤ level ∧ level < (↑k51 : Int)) ∧ ptrK none p50 fun k58 k59 => ∃ (p60 : Option Addr) (k61 k62 : Nat), (∀ w63 R64, Ctx W w63 (R38 ++ R64) Φ39 → ∃ p65 k66 k67, w63.cell? (Addr.mk k58 (k59 +
  level.toNat) none) = some (.slice p65 k66 k67) ∧ Value.slice p65 k66 k67 = Value.slice p60 k61 k62) ∧ ∀ (k68 : Nat), Wk W (Own.blk k68 [.slice rP rN rC] 74 :: R6) I7 (R38) Φ39 ∧ ∀ w71 R72, Ctx W w71 (Own.blk k68 [.slice rP rN rC] 74 :: R6 ++ R72) I7 → Calls Tryz.prog F.slices_Insert_store_run_store_run #[.slice p60 k61 k62, .int .i64 0, .slice (some (Addr.mk k68 0 none)) 1 1] w71 fun e73 w74 => ∃ p75 k76 k77, e73 = .returned (.slice p75 k76 k77) ∧ ∃ R78 Φ79, Stable Φ79 ∧ Ctx W w74 (R78 ++ R72) Φ79 ∧ Wk W R78 Φ79 R38 Φ39 ∧ (0 ≤ level ∧ level < (↑k43 : Int)) ∧ ptrK none p42 fun k82 k83 => ∀ w84 R85, Ctx W w84 (R78 ++ R85) Φ79 → CanWrite w84 k82 (k83 + level.toNat) 1 ∧ ∀ (w86 : World), w86 = w84.setCell (Addr.mk k82 (k83 + level.toNat) none) (Value.slice p75 k76 k77) → ∃ R87 Φ88, Stable Φ88 ∧ Ctx W w86 (R87 ++ R85) Φ88 ∧ ∀ w89 R90, Ctx W w89 (R87 ++ R90) Φ88 → J (Value.tuple #[]) w89) (∀
  w91 R92, Ctx W w91 (R6 ++ R92) I7 → J (Value.tuple #[]) w91))
theorem Bstore_Store_add_run (sB sO : Nat) (level : Int) (rP : Option Addr) (rN rC : Nat) {W w : World} {R : List Own} {Φ : PW} [Stable Φ] {J : Value → World → Prop} (c : Ctx W w R Φ) (h : Bstore_Store_add sB sO level rP rN rC W R Φ J) : Calls Tryz.prog F.store_Store_add #[.pointer (some ⟨sB, sO, none⟩), .int .i64 level, .slice rP rN rC] w fun e w' => ∃ v, e = .returned v ∧ J v w' :=
  vcFS_sound (H := { keep := some [0, 1, 2, 12, 24], stages := [(3, [.held [(0, true), (4, true), (5, true), (9, true), (12, true), (1, true), (6, true), (2, true), (7, true), (3, true), (8, true), (10, true), (11, true), (13, false), (14, false)], .stage [15] (some 16)])], loops := [(0, [], [])] }) (by rw [show vcFS Tryz.prog W { keep := some [0, 1, 2, 12, 24], stages := [(3, [.held [(0, true), (4, true), (5, true), (9, true), (12, true), (1, true), (6, true), (2, true), (7, true), (3, true), (8, true), (10, true), (11, true), (13, false), (14, false)], .stage [15] (some 16)])], loops := [(0, [], [])] } F.store_Store_add #[.pointer (some ⟨sB, sO, none⟩), .int .i64 level, .slice rP rN rC] R Φ J = Bstore_Store_add sB sO level rP rN rC W R Φ J by kernel_rfl]; exact h) c
def Bslices_Clone_api_Change_api_Change (sP : Option Addr) (sN sC : Nat) (W : World) (R : List Own) (Φ : PW) (J : Value → World → Prop) : Prop :=
  Br sP.isNone (∀ w0 R1, Ctx W w0 (R ++ R1) Φ → J (.slice none 0 0) w0) (∀ (k2 : Nat) (w3 : World) (R4 : List Own), Ctx W w3 (Own.blk k2 [] 46 :: R ++ R4) Φ → ∃ (p5 : Option Addr) (k6 k7 : Nat) (w8 : World), Sem.run Tryz.prog (builtin Builtin.append #[31, 31] 31 #[false, false] #[.slice (some (Addr.mk k2 0 none)) 0 0, .slice sP sN sC]) w3 = .ok (.value (.slice p5 k6 k7)) w8 ∧ ∃ R9 Φ10, Stable Φ10 ∧ Ctx W w8 (R9 ++ R4) Φ10 ∧ ∀ w11 R12, Ctx W w11 (R9 ++ R12) Φ10 → J (.slice p5 k6 k7) w11)
theorem Bslices_Clone_api_Change_api_Change_run (sP : Option Addr) (sN sC : Nat) {W w : World} {R : List Own} {Φ : PW} [Stable Φ] {J : Value → World → Prop} (c : Ctx W w R Φ) (h : Bslices_Clone_api_Change_api_Change sP sN sC W R Φ J) : Calls Tryz.prog F.slices_Clone_api_Change_api_Change #[.slice sP sN sC] w fun e w' => ∃ v, e = .returned v ∧ J v w' :=
  vcFS_sound (H := { keep := some [0, 2, 4] }) (by rw [show vcFS Tryz.prog W { keep := some [0, 2, 4] } F.slices_Clone_api_Change_api_Change #[.slice sP sN sC] R Φ J = Bslices_Clone_api_Change_api_Change sP sN sC W R Φ J by kernel_rfl]; exact h) c
def Bslices_Clone_store_run_api_Pair (sP : Option Addr) (sN sC : Nat) (W : World) (R : List Own) (Φ : PW) (J : Value → World → Prop) : Prop :=
  Br sP.isNone (∀ w0 R1, Ctx W w0 (R ++ R1) Φ → J (.slice none 0 0) w0) (∀ (k2 : Nat) (w3 : World) (R4 : List Own), Ctx W w3 (Own.blk k2 [] 69 :: R ++ R4) Φ → ∃ (p5 : Option Addr) (k6 k7 : Nat) (w8 : World), Sem.run Tryz.prog (builtin Builtin.append #[74, 74] 74 #[false, false] #[.slice (some (Addr.mk k2 0 none)) 0 0, .slice sP sN sC]) w3 = .ok (.value (.slice p5 k6 k7)) w8 ∧ ∃ R9 Φ10, Stable Φ10 ∧ Ctx W w8 (R9 ++ R4) Φ10 ∧ ∀ w11 R12, Ctx W w11 (R9 ++ R12) Φ10 → J (.slice p5 k6 k7) w11)
theorem Bslices_Clone_store_run_api_Pair_run (sP : Option Addr) (sN sC : Nat) {W w : World} {R : List Own} {Φ : PW} [Stable Φ] {J : Value → World → Prop} (c : Ctx W w R Φ) (h : Bslices_Clone_store_run_api_Pair sP sN sC W R Φ J) : Calls Tryz.prog F.slices_Clone_store_run_api_Pair #[.slice sP sN sC] w fun e w' => ∃ v, e = .returned v ∧ J v w' :=
  vcFS_sound (H := { keep := some [0, 2, 4] }) (by rw [show vcFS Tryz.prog W { keep := some [0, 2, 4] } F.slices_Clone_store_run_api_Pair #[.slice sP sN sC] R Φ J = Bslices_Clone_store_run_api_Pair sP sN sC W R Φ J by kernel_rfl]; exact h) c
def Bslices_Clone_store_run_store_run (sP : Option Addr) (sN sC : Nat) (W : World) (R : List Own) (Φ : PW) (J : Value → World → Prop) : Prop :=
  Br sP.isNone (∀ w0 R1, Ctx W w0 (R ++ R1) Φ → J (.slice none 0 0) w0) (∀ (k2 : Nat) (w3 : World) (R4 : List Own), Ctx W w3 (Own.blk k2 [] 74 :: R ++ R4) Φ → ∃ (p5 : Option Addr) (k6 k7 : Nat) (w8 : World), Sem.run Tryz.prog (builtin Builtin.append #[84, 84] 84 #[false, false] #[.slice (some (Addr.mk k2 0 none)) 0 0, .slice sP sN sC]) w3 = .ok (.value (.slice p5 k6 k7)) w8 ∧ ∃ R9 Φ10, Stable Φ10 ∧ Ctx W w8 (R9 ++ R4) Φ10 ∧ ∀ w11 R12, Ctx W w11 (R9 ++ R12) Φ10 → J (.slice p5 k6 k7) w11)
theorem Bslices_Clone_store_run_store_run_run (sP : Option Addr) (sN sC : Nat) {W w : World} {R : List Own} {Φ : PW} [Stable Φ] {J : Value → World → Prop} (c : Ctx W w R Φ) (h : Bslices_Clone_store_run_store_run sP sN sC W R Φ J) : Calls Tryz.prog F.slices_Clone_store_run_store_run #[.slice sP sN sC] w fun e w' => ∃ v, e = .returned v ∧ J v w' :=
  vcFS_sound (H := { keep := some [0, 2, 4] }) (by rw [show vcFS Tryz.prog W { keep := some [0, 2, 4] } F.slices_Clone_store_run_store_run #[.slice sP sN sC] R Φ J = Bslices_Clone_store_run_store_run sP sN sC W R Φ J by kernel_rfl]; exact h) c
def Bstore_run_find (rP : Option Addr) (rN rC : Nat) (key : ByteArray) (W : World) (R : List Own) (Φ : PW) (J : Value → World → Prop) : Prop :=
  ∀ w0 R1, Ctx W w0 (R ++ R1) Φ → Calls Tryz.prog F.slices_BinarySearchFunc_store_run_api_Pair_string #[.slice rP rN rC, Value.string key, Value.func (Fn.func 89) #[] #[]] w0 fun e2 w3 => ∃ n4 c5, e2 = .returned (Value.tuple #[.int .i64 n4, .bool c5]) ∧ ∃ R6 Φ7, Stable Φ7 ∧ Ctx W w3 (R6 ++ R1) Φ7 ∧ ∀ w8 R9, Ctx W w8 (R6 ++ R9) Φ7 → J (Value.tuple #[.int .i64 n4, .bool c5]) w8
theorem Bstore_run_find_run (rP : Option Addr) (rN rC : Nat) (key : ByteArray) {W w : World} {R : List Own} {Φ : PW} [Stable Φ] {J : Value → World → Prop} (c : Ctx W w R Φ) (h : Bstore_run_find rP rN rC key W R Φ J) : Calls Tryz.prog F.store_run_find #[.slice rP rN rC, .string key] w fun e w' => ∃ v, e = .returned v ∧ J v w' :=
  vcFS_sound (H := { keep := some [0, 1, 4, 5] }) (by rw [show vcFS Tryz.prog W { keep := some [0, 1, 4, 5] } F.store_run_find #[.slice rP rN rC, .string key] R Φ J = Bstore_run_find rP rN rC key W R Φ J by kernel_rfl]; exact h) c
def Bslices_Insert_store_run_api_Pair (sP : Option Addr) (sN sC : Nat) (i : Int) (vP : Option Addr) (vN vC : Nat) (W : World) (R : List Own) (Φ : PW) (J : Value → World → Prop) : Prop :=
  (0 ≤ i ∧ i ≤ (↑sN : Int) ∧ sN ≤ sC) ∧ Br (decide ((↑vN : Int) = 0)) (∀ w0 R1, Ctx W w0 (R ++ R1) Φ → J (.slice sP sN sC) w0) (Br (decide (i = (↑sN : Int))) (∀ w2 R3, Ctx W w2 (R ++ R3) Φ → ∃ (p4 : Option Addr) (k5 k6 : Nat) (w7 : World), Sem.run Tryz.prog (builtin Builtin.append #[74, 48] 74 #[false, false] #[.slice sP sN sC, .slice vP vN vC]) w2 = .ok (.value (.slice p4 k5 k6)) w7 ∧ ∃ R8 Φ9, Stable Φ9 ∧ Ctx W w7 (R8 ++ R3) Φ9 ∧ ∀ w10 R11, Ctx W w10 (R8 ++ R11) Φ9 → J (.slice p4 k5 k6) w10) (I64 ((↑sN : Int) + (↑vN : Int)) ∧ Br (decide ((↑sC : Int) < (↑sN : Int) + (↑vN : Int))) ((0 ≤ i ∧ i ≤ (↑sC : Int)) ∧ I64 ((↑sN : Int) + (↑vN : Int)) ∧ I64 ((↑sN : Int) + (↑vN : Int) - i) ∧ ∀ w12 R13, Ctx W w12 (R ++ R13) Φ → ∃ (p14 : Option Addr) (k15 k16 : Nat) (w17 : World), Sem.run Tryz.prog (builtin Builtin.append #[74, 3] 74 #[false, false] #[.slice (subPtr sP 2 0 sC) i.toNat sC, .int .i64
  ((↑sN : Int) + (↑vN : Int) - i)]) w12 = .ok (.value (.slice p14 k15 k16)) w17 ∧ ∃ R18 Φ19, Stable Φ19 ∧ Ctx W w17 (R18 ++ R13) Φ19 ∧ (0 ≤ i ∧ i ≤ (↑k15 : Int) ∧ k15 ≤ k16) ∧ ∀ w20 R21, Ctx W w20 (R18 ++ R21) Φ19 → ∃ (n22 : Int) (w23 : World), Sem.run Tryz.prog (builtin Builtin.copy #[74, 48] 3 #[false, false] #[.slice (subPtr p14 2 i.toNat k16) (k15 - i.toNat) (k16 - i.toNat), .slice vP vN vC]) w20 = .ok (.value (.int .i64 n22)) w23 ∧ ∃ R24 Φ25, Stable Φ25 ∧ Ctx W w23 (R24 ++ R21) Φ25 ∧ ∃ R26 Φ27, Stable Φ27 ∧ Wk W R24 Φ25 R26 Φ27 ∧ I64 (i + (↑vN : Int)) ∧ (0 ≤ i ∧ i ≤ (↑sN : Int) ∧ sN ≤ sC) ∧ (0 ≤ i + (↑vN : Int) ∧ i + (↑vN : Int) ≤ (↑k15 : Int) ∧ k15 ≤ k16) ∧ ∀ w30 R31, Ctx W w30 (R24 ++ R31) Φ25 → ∃ (n32 : Int) (w33 : World), Sem.run Tryz.prog (builtin Builtin.copy #[74, 74] 3 #[false, false] #[.slice (subPtr p14 2 (i + (↑vN : Int)).toNat k16) (k15 - (i + (↑vN : Int)).toNat) (k16 -
  (i + (↑vN : Int)).toNat), .slice (subPtr sP 2 i.toNat sC) (sN - i.toNat) (sC - i.toNat)]) w30 = .ok (.value (.int .i64 n32)) w33 ∧ ∃ R34 Φ35, Stable Φ35 ∧ Ctx W w33 (R34 ++ R31) Φ35 ∧ ∀ w36 R37, Ctx W w36 (R34 ++ R37) Φ35 → J (.slice p14 k15 k16) w36) (I64 ((↑sN : Int) + (↑vN : Int)) ∧ (0 ≤ (↑sN : Int) + (↑vN : Int) ∧ (↑sN : Int) + (↑vN : Int) ≤ (↑sC : Int)) ∧ I64 (i + (↑vN : Int)) ∧ (0 ≤ i + (↑vN : Int) ∧ i + (↑vN : Int) ≤ (↑((↑sN : Int) + (↑vN : Int)).toNat : Int) ∧ ((↑sN : Int) + (↑vN : Int)).toNat ≤ sC) ∧ ∀ w38 R39, Ctx W w38 (R ++ R39) Φ → ∃ (c40 : Bool) (w41 : World), Sem.run Tryz.prog (callFunc 91 #[.slice vP vN vC, .slice (subPtr (subPtr sP 2 0 sC) 2 (i + (↑vN : Int)).toNat sC) (((↑sN : Int) + (↑vN : Int)).toNat - (i + (↑vN : Int)).toNat) (sC - (i + (↑vN : Int)).toNat)]) w38 = .ok (.value (.bool c40)) w41 ∧ ∃ R42 Φ43, Stable Φ43 ∧ Ctx W w41 (R42 ++ R39) Φ43 ∧ Br (!c40) (∃ R44
  Φ45, Stable Φ45 ∧ Wk W R42 Φ43 R44 Φ45 ∧ I64 (i + (↑vN : Int)) ∧ (0 ≤ i ∧ i ≤ (↑((↑sN : Int) + (↑vN : Int)).toNat : Int) ∧ ((↑sN : Int) + (↑vN : Int)).toNat ≤ sC) ∧ (0 ≤ i + (↑vN : Int) ∧ i + (↑vN : Int) ≤ (↑((↑sN : Int) + (↑vN : Int)).toNat : Int) ∧ ((↑sN : Int) + (↑vN : Int)).toNat ≤ sC) ∧ ∀ w48 R49, Ctx W w48 (R42 ++ R49) Φ43 → ∃ (n50 : Int) (w51 : World), Sem.run Tryz.prog (builtin Builtin.copy #[74, 74] 3 #[false, false] #[.slice (subPtr (subPtr sP 2 0 sC) 2 (i + (↑vN : Int)).toNat sC) (((↑sN : Int) + (↑vN : Int)).toNat - (i + (↑vN : Int)).toNat) (sC - (i + (↑vN : Int)).toNat), .slice (subPtr (subPtr sP 2 0 sC) 2 i.toNat sC) (((↑sN : Int) + (↑vN : Int)).toNat - i.toNat) (sC - i.toNat)]) w48 = .ok (.value (.int .i64 n50)) w51 ∧ ∃ R52 Φ53, Stable Φ53 ∧ Ctx W w51 (R52 ++ R49) Φ53 ∧ (0 ≤ i ∧ i ≤ (↑((↑sN : Int) + (↑vN : Int)).toNat : Int) ∧ ((↑sN : Int) + (↑vN : Int)).toNat ≤ sC) ∧ ∀
  w54 R55, Ctx W w54 (R52 ++ R55) Φ53 → ∃ (n56 : Int) (w57 : World), Sem.run Tryz.prog (builtin Builtin.copy #[74, 48] 3 #[false, false] #[.slice (subPtr (subPtr sP 2 0 sC) 2 i.toNat sC) (((↑sN : Int) + (↑vN : Int)).toNat - i.toNat) (sC - i.toNat), .slice vP vN vC]) w54 = .ok (.value (.int .i64 n56)) w57 ∧ ∃ R58 Φ59, Stable Φ59 ∧ Ctx W w57 (R58 ++ R55) Φ59 ∧ ∀ w60 R61, Ctx W w60 (R58 ++ R61) Φ59 → J (.slice (subPtr sP 2 0 sC) ((↑sN : Int) + (↑vN : Int)).toNat sC) w60) ((0 ≤ (↑sN : Int) ∧ (↑sN : Int) ≤ (↑((↑sN : Int) + (↑vN : Int)).toNat : Int) ∧ ((↑sN : Int) + (↑vN : Int)).toNat ≤ sC) ∧ ∀ w62 R63, Ctx W w62 (R42 ++ R63) Φ43 → ∃ (n64 : Int) (w65 : World), Sem.run Tryz.prog (builtin Builtin.copy #[74, 48] 3 #[false, false] #[.slice (subPtr (subPtr sP 2 0 sC) 2 (↑sN : Int).toNat sC) (((↑sN : Int) + (↑vN : Int)).toNat - (↑sN : Int).toNat) (sC - (↑sN : Int).toNat), .slice vP vN vC]) w62 = .ok
  (.value (.int .i64 n64)) w65 ∧ ∃ R66 Φ67, Stable Φ67 ∧ Ctx W w65 (R66 ++ R63) Φ67 ∧ (0 ≤ i ∧ i ≤ (↑((↑sN : Int) + (↑vN : Int)).toNat : Int) ∧ ((↑sN : Int) + (↑vN : Int)).toNat ≤ sC) ∧ ∀ w68 R69, Ctx W w68 (R66 ++ R69) Φ67 → Calls Tryz.prog F.slices_rotateRight_api_Pair #[.slice (subPtr (subPtr sP 2 0 sC) 2 i.toNat sC) (((↑sN : Int) + (↑vN : Int)).toNat - i.toNat) (sC - i.toNat), .int .i64 (↑vN : Int)] w68 fun e70 w71 => e70 = .returned (Value.tuple #[]) ∧ ∃ R72 Φ73, Stable Φ73 ∧ Ctx W w71 (R72 ++ R69) Φ73 ∧ ∀ w74 R75, Ctx W w74 (R72 ++ R75) Φ73 → J (.slice (subPtr sP 2 0 sC) ((↑sN : Int) + (↑vN : Int)).toNat sC) w74))))
theorem Bslices_Insert_store_run_api_Pair_run (sP : Option Addr) (sN sC : Nat) (i : Int) (vP : Option Addr) (vN vC : Nat) {W w : World} {R : List Own} {Φ : PW} [Stable Φ] {J : Value → World → Prop} (c : Ctx W w R Φ) (h : Bslices_Insert_store_run_api_Pair sP sN sC i vP vN vC W R Φ J) : Calls Tryz.prog F.slices_Insert_store_run_api_Pair #[.slice sP sN sC, .int .i64 i, .slice vP vN vC] w fun e w' => ∃ v, e = .returned v ∧ J v w' :=
  vcFS_sound (H := { keep := some [0, 1, 2, 6, 7, 8, 9, 16, 22, 31, 68], stages := [(11, [.held [(0, true), (1, true), (2, true), (5, true), (6, true), (3, true), (7, true), (4, true)], .stage [] (some 8)]), (15, [.held [(0, true), (1, true), (2, true), (5, true), (6, true), (3, true), (7, true), (4, true)], .stage [] (some 8)])] }) (by rw [show vcFS Tryz.prog W { keep := some [0, 1, 2, 6, 7, 8, 9, 16, 22, 31, 68], stages := [(11, [.held [(0, true), (1, true), (2, true), (5, true), (6, true), (3, true), (7, true), (4, true)], .stage [] (some 8)]), (15, [.held [(0, true), (1, true), (2, true), (5, true), (6, true), (3, true), (7, true), (4, true)], .stage [] (some 8)])] } F.slices_Insert_store_run_api_Pair #[.slice sP sN sC, .int .i64 i, .slice vP vN vC] R Φ J = Bslices_Insert_store_run_api_Pair sP sN sC i vP vN vC W R Φ J by kernel_rfl]; exact h) c
def Bslices_DeleteFunc_store_run_api_Pair (sP : Option Addr) (sN sC : Nat) (delF : FuncId) (delC : Array Value) (W : World) (R : List Own) (Φ : PW) (J : Value → World → Prop) : Prop :=
  ∀ w0 R1, Ctx W w0 (R ++ R1) Φ → Calls Tryz.prog F.slices_IndexFunc_store_run_api_Pair #[.slice sP sN sC, Value.func (Fn.func delF) #[] delC] w0 fun e2 w3 => ∃ n4, e2 = .returned (.int .i64 n4) ∧ ∃ R5 Φ6, Stable Φ6 ∧ Ctx W w3 (R5 ++ R1) Φ6 ∧ Br (decide (n4 = -1)) (∀ w7 R8, Ctx W w7 (R5 ++ R8) Φ6 → J (.slice sP sN sC) w7) (I64 (n4 + 1) ∧ exI fun (I9 : Int → Int → List Own → PW → Nat → Prop) => (∃ R10 Φ11 k12, Stable Φ11 ∧ Wk W R5 Φ6 R10 Φ11 ∧ I9 n4 (n4 + 1) R10 Φ11 k12) ∧ ∀ n15 n16 R17 I18 k19, Stable I18 → I9 n15 n16 R17 I18 k19 → Br (decide (n16 < (↑sN : Int))) ((0 ≤ n16 ∧ n16 < (↑sN : Int)) ∧ ptrK none sP fun k20 k21 => ∀ w22 R23, Ctx W w22 (R17 ++ R23) I18 → ∃ s24 s25, RowAt w22 k20 (k21 + n16.toNat * 2) [.string s24, .string s25] ∧ ∀ (b : Nat) (w26 : World) (R27 : List Own), Ctx W w26 (R17 ++ R27) I18 → okFun Tryz.prog delF = true ∧ Calls Tryz.prog delF (Array.mk (Value.agg #[.string
  s24, .string s25] :: delC.toList)) w26 fun e28 w29 => ∃ c30, e28 = .returned (.bool c30) ∧ ∃ R31 Φ32, Stable Φ32 ∧ Ctx W w29 (R31 ++ R27) Φ32 ∧ Br (!c30) ((0 ≤ n15 ∧ n15 < (↑sN : Int)) ∧ ptrK none sP fun k33 k34 => ∀ w35 R36, Ctx W w35 (R31 ++ R36) Φ32 → CanWrite w35 k33 (k34 + n15.toNat * 2) 2 ∧ ∀ (w37 : World), w37 = w35.setCells k33 (k34 + n15.toNat * 2) [.string s24, .string s25] → ∃ R38 Φ39, Stable Φ39 ∧ Ctx W w37 (R38 ++ R36) Φ39 ∧ I64 (n15 + 1) ∧ I64 (n16 + 1) ∧ ∃ R40 Φ41 k42, Stable Φ41 ∧ Wk W R38 Φ39 R40 Φ41 ∧ I9 (n15 + 1) (n16 + 1) R40 Φ41 k42 ∧ k42 < k19) (I64 (n16 + 1) ∧ ∃ R45 Φ46 k47, Stable Φ46 ∧ Wk W R31 Φ32 R45 Φ46 ∧ I9 n15 (n16 + 1) R45 Φ46 k47 ∧ k47 < k19)) ((0 ≤ n15 ∧ n15 ≤ (↑sN : Int) ∧ sN ≤ sC) ∧ ∀ w50 R51, Ctx W w50 (R17 ++ R51) I18 → ∃ (w52 : World), Sem.run Tryz.prog (builtin Builtin.clear #[74] 0 #[false] #[.slice (subPtr sP 2 n15.toNat sC) (sN - n15.toNat) (sC
  - n15.toNat)]) w50 = .ok (.value (Value.tuple #[])) w52 ∧ ∃ R53 Φ54, Stable Φ54 ∧ Ctx W w52 (R53 ++ R51) Φ54 ∧ (0 ≤ n15 ∧ n15 ≤ (↑sC : Int)) ∧ ∀ w55 R56, Ctx W w55 (R53 ++ R56) Φ54 → J (.slice (subPtr sP 2 0 sC) n15.toNat sC) w55))
theorem Bslices_DeleteFunc_store_run_api_Pair_run (sP : Option Addr) (sN sC : Nat) (delF : FuncId) (delC : Array Value) {W w : World} {R : List Own} {Φ : PW} [Stable Φ] {J : Value → World → Prop} (c : Ctx W w R Φ) (h : Bslices_DeleteFunc_store_run_api_Pair sP sN sC delF delC W R Φ J) : Calls Tryz.prog F.slices_DeleteFunc_store_run_api_Pair #[.slice sP sN sC, .func (.func delF) #[] delC] w fun e w' => ∃ v, e = .returned v ∧ J v w' :=
  vcFS_sound (H := { keep := some [0, 1, 4, 5, 6, 7, 12, 19, 29], wrap := [28], track := [7], loops := [(5, [(5, .one (.int .i64)), (6, .one (.int .i64))], [])] }) (by rw [show vcFS Tryz.prog W { keep := some [0, 1, 4, 5, 6, 7, 12, 19, 29], wrap := [28], track := [7], loops := [(5, [(5, .one (.int .i64)), (6, .one (.int .i64))], [])] } F.slices_DeleteFunc_store_run_api_Pair #[.slice sP sN sC, .func (.func delF) #[] delC] R Φ J = Bslices_DeleteFunc_store_run_api_Pair sP sN sC delF delC W R Φ J by kernel_rfl]; exact h) c
def Bstore_there (rP : Option Addr) (rN rC : Nat) (W : World) (R : List Own) (Φ : PW) (J : Value → World → Prop) : Prop :=
  ∀ w0 R1, Ctx W w0 (R ++ R1) Φ → Calls Tryz.prog F.slices_Clone_store_run_api_Pair #[.slice rP rN rC] w0 fun e2 w3 => ∃ p4 k5 k6, e2 = .returned (.slice p4 k5 k6) ∧ ∃ R7 Φ8, Stable Φ8 ∧ Ctx W w3 (R7 ++ R1) Φ8 ∧ ∀ w9 R10, Ctx W w9 (R7 ++ R10) Φ8 → Calls Tryz.prog F.slices_DeleteFunc_store_run_api_Pair #[.slice p4 k5 k6, Value.func (Fn.func 96) #[] #[]] w9 fun e11 w12 => ∃ p13 k14 k15, e11 = .returned (.slice p13 k14 k15) ∧ ∃ R16 Φ17, Stable Φ17 ∧ Ctx W w12 (R16 ++ R10) Φ17 ∧ ∀ w18 R19, Ctx W w18 (R16 ++ R19) Φ17 → J (.slice p13 k14 k15) w18
theorem Bstore_there_run (rP : Option Addr) (rN rC : Nat) {W w : World} {R : List Own} {Φ : PW} [Stable Φ] {J : Value → World → Prop} (c : Ctx W w R Φ) (h : Bstore_there rP rN rC W R Φ J) : Calls Tryz.prog F.store_there #[.slice rP rN rC] w fun e w' => ∃ v, e = .returned v ∧ J v w' :=
  vcFS_sound (H := { keep := some [0, 2] }) (by rw [show vcFS Tryz.prog W { keep := some [0, 2] } F.store_there #[.slice rP rN rC] R Φ J = Bstore_there rP rN rC W R Φ J by kernel_rfl]; exact h) c
def Bstore_merge (lP : Option Addr) (lN lC : Nat) (W : World) (R : List Own) (Φ : PW) (J : Value → World → Prop) : Prop :=
  exI fun (I0 : Option Addr → Nat → Nat → Int → List Own → PW → Nat → Prop) => (∃ R1 Φ2 k3, Stable Φ2 ∧ Wk W R Φ R1 Φ2 ∧ I0 none 0 0 0 R1 Φ2 k3) ∧ ∀ p6 k7 k8 n9 R10 I11 k12, Stable I11 → I0 p6 k7 k8 n9 R10 I11 k12 → Br (decide (n9 < (↑lN : Int))) ((0 ≤ n9 ∧ n9 < (↑lN : Int)) ∧ ptrK none lP fun k13 k14 => ∀ w15 R16, Ctx W w15 (R10 ++ R16) I11 → ∃ p17 k18 k19, w15.cell? (Addr.mk k13 (k14 + n9.toNat) none) = some (.slice p17 k18 k19) ∧ ∀ w20 R21, Ctx W w20 (R10 ++ R21) I11 → ∃ (p22 : Option Addr) (k23 k24 : Nat) (w25 : World), Sem.run Tryz.prog (builtin Builtin.append #[48, 74] 48 #[false, false] #[.slice p6 k7 k8, .slice p17 k18 k19]) w20 = .ok (.value (.slice p22 k23 k24)) w25 ∧ ∃ R26 Φ27, Stable Φ27 ∧ Ctx W w25 (R26 ++ R21) Φ27 ∧ I64 (n9 + 1) ∧ ∃ R28 Φ29 k30, Stable Φ29 ∧ Wk W R26 Φ27 R28 Φ29 ∧ I0 p22 k23 k24 (n9 + 1) R28 Φ29 k30 ∧ k30 < k12) (∀ w33 R34, Ctx W w33 (R10 ++ R34) I11 → Calls
  Tryz.prog F.slices_SortStableFunc_api_Pair_api_Pair #[.slice p6 k7 k8, Value.func (Fn.func 98) #[] #[]] w33 fun e35 w36 => e35 = .returned (Value.tuple #[]) ∧ ∃ R37 Φ38, Stable Φ38 ∧ Ctx W w36 (R37 ++ R34) Φ38 ∧ ∀ w39 R40, Ctx W w39 (R37 ++ R40) Φ38 → Calls Tryz.prog F.slices_CompactFunc_api_Pair_api_Pair #[.slice p6 k7 k8, Value.func (Fn.func 100) #[] #[]] w39 fun e41 w42 => ∃ p43 k44 k45, e41 = .returned (.slice p43 k44 k45) ∧ ∃ R46 Φ47, Stable Φ47 ∧ Ctx W w42 (R46 ++ R40) Φ47 ∧ ∀ w48 R49, Ctx W w48 (R46 ++ R49) Φ47 → J (.slice p43 k44 k45) w48)
theorem Bstore_merge_run (lP : Option Addr) (lN lC : Nat) {W w : World} {R : List Own} {Φ : PW} [Stable Φ] {J : Value → World → Prop} (c : Ctx W w R Φ) (h : Bstore_merge lP lN lC W R Φ J) : Calls Tryz.prog F.store_merge #[.slice lP lN lC] w fun e w' => ∃ v, e = .returned v ∧ J v w' :=
  vcFS_sound (H := { keep := some [0, 2, 3, 5, 6, 7, 8, 9], loops := [(3, [(3, .one (.slice)), (8, .one (.int .i64))], [])] }) (by rw [show vcFS Tryz.prog W { keep := some [0, 2, 3, 5, 6, 7, 8, 9], loops := [(3, [(3, .one (.slice)), (8, .one (.int .i64))], [])] } F.store_merge #[.slice lP lN lC] R Φ J = Bstore_merge lP lN lC W R Φ J by kernel_rfl]; exact h) c
def Bstore_Store_runs (sB sO : Nat) (W : World) (R : List Own) (Φ : PW) (J : Value → World → Prop) : Prop :=
  ∃ R0 Φ1, Stable Φ1 ∧ Wk W R Φ R0 Φ1 ∧ ∃ (p4 : Option Addr) (k5 k6 : Nat), (∀ w7 R8, Ctx W w7 (R0 ++ R8) Φ1 → ∃ p9 k10 k11, w7.cell? (Addr.mk sB sO none) = some (.slice p9 k10 k11) ∧ Value.slice p9 k10 k11 = Value.slice p4 k5 k6) ∧ ∃ (p12 : Option Addr) (k13 k14 : Nat), (∀ w15 R16, Ctx W w15 (R0 ++ R16) Φ1 → ∃ p17 k18 k19, w15.cell? (Addr.mk sB (sO + 1) none) = some (.slice p17 k18 k19) ∧ Value.slice p17 k18 k19 = Value.slice p12 k13 k14) ∧ (∀ (k20 : Nat), Wk W (Own.blk k20 [.slice p4 k5 k6] 74 :: R) Φ (R0) Φ1 ∧ (∀ w23 R24, Ctx W w23 (Own.blk k20 [.slice p4 k5 k6] 74 :: R ++ R24) Φ → Calls Tryz.prog F.slices_Concat_store_run_store_run #[.slice p12 k13 k14] w23 fun e25 w26 => ∃ p27 k28 k29, e25 = .returned (.slice p27 k28 k29) ∧ ∃ R30 Φ31, Stable Φ31 ∧ Ctx W w26 (R30 ++ R24) Φ31 ∧ Wk W R30 Φ31 R0 Φ1 ∧ (∀ w34 R35, Ctx W w34 (R30 ++ R35) Φ31 → ∃ (p36 : Option Addr) (k37 k38 : Nat) (w39 :
  World), Sem.run Tryz.prog (builtin Builtin.append #[84, 84] 84 #[false, false] #[.slice (some (Addr.mk k20 0 none)) 1 1, .slice p27 k28 k29]) w34 = .ok (.value (.slice p36 k37 k38)) w39 ∧ ∃ R40 Φ41, Stable Φ41 ∧ Ctx W w39 (R40 ++ R35) Φ41 ∧ Wk W R40 Φ41 R0 Φ1 ∧ ∀ w44 R45, Ctx W w44 (R40 ++ R45) Φ41 → J (.slice p36 k37 k38) w44) ∧ True) ∧ True) ∧ (∀ w46 R47, Ctx W w46 (R ++ R47) Φ → Calls Tryz.prog F.slices_Concat_store_run_store_run #[.slice p12 k13 k14] w46 fun e48 w49 => ∃ p50 k51 k52, e48 = .returned (.slice p50 k51 k52) ∧ ∃ R53 Φ54, Stable Φ54 ∧ Ctx W w49 (R53 ++ R47) Φ54 ∧ Wk W R53 Φ54 R0 Φ1 ∧ (∀ (k57 : Nat), Wk W (Own.blk k57 [.slice p4 k5 k6] 74 :: R53) Φ54 (R0) Φ1 ∧ (∀ w60 R61, Ctx W w60 (Own.blk k57 [.slice p4 k5 k6] 74 :: R53 ++ R61) Φ54 → ∃ (p62 : Option Addr) (k63 k64 : Nat) (w65 : World), Sem.run Tryz.prog (builtin Builtin.append #[84, 84] 84 #[false, false] #[.slice (some
  (Addr.mk k57 0 none)) 1 1, .slice p50 k51 k52]) w60 = .ok (.value (.slice p62 k63 k64)) w65 ∧ ∃ R66 Φ67, Stable Φ67 ∧ Ctx W w65 (R66 ++ R61) Φ67 ∧ Wk W R66 Φ67 R0 Φ1 ∧ ∀ w70 R71, Ctx W w70 (R66 ++ R71) Φ67 → J (.slice p62 k63 k64) w70) ∧ True) ∧ True) ∧ True
theorem Bstore_Store_runs_run (sB sO : Nat) {W w : World} {R : List Own} {Φ : PW} [Stable Φ] {J : Value → World → Prop} (c : Ctx W w R Φ) (h : Bstore_Store_runs sB sO W R Φ J) : Calls Tryz.prog F.store_Store_runs #[.pointer (some ⟨sB, sO, none⟩)] w fun e w' => ∃ v, e = .returned v ∧ J v w' :=
  vcFS_sound (H := { keep := some [0, 2], stages := [(1, [.tree (.rd 0 (.rd 5 (.rd 1 (.rd 6 (.rd 2 (.rd 7 (.rd 3 (.rd 8 (.alt 4 (.alt 9 (.alt 10 (.done) (.no)) (.no)) (.alt 9 (.alt 4 (.alt 10 (.done) (.no)) (.no)) (.no))))))))))) 11, .stage [11] none])] }) (by rw [show vcFS Tryz.prog W { keep := some [0, 2], stages := [(1, [.tree (.rd 0 (.rd 5 (.rd 1 (.rd 6 (.rd 2 (.rd 7 (.rd 3 (.rd 8 (.alt 4 (.alt 9 (.alt 10 (.done) (.no)) (.no)) (.alt 9 (.alt 4 (.alt 10 (.done) (.no)) (.no)) (.no))))))))))) 11, .stage [11] none])] } F.store_Store_runs #[.pointer (some ⟨sB, sO, none⟩)] R Φ J = Bstore_Store_runs sB sO W R Φ J by kernel_rfl]; exact h) c
def Bstrings_HasPrefix (s : ByteArray) (prefixx : ByteArray) (W : World) (R : List Own) (Φ : PW) (J : Value → World → Prop) : Prop :=
  ∀ w0 R1, Ctx W w0 (R ++ R1) Φ → Calls Tryz.prog F.internal_stringslite_HasPrefix #[.string s, .string prefixx] w0 fun e2 w3 => ∃ c4, e2 = .returned (.bool c4) ∧ ∃ R5 Φ6, Stable Φ6 ∧ Ctx W w3 (R5 ++ R1) Φ6 ∧ ∀ w7 R8, Ctx W w7 (R5 ++ R8) Φ6 → J (.bool c4) w7
theorem Bstrings_HasPrefix_run (s : ByteArray) (prefixx : ByteArray) {W w : World} {R : List Own} {Φ : PW} [Stable Φ] {J : Value → World → Prop} (c : Ctx W w R Φ) (h : Bstrings_HasPrefix s prefixx W R Φ J) : Calls Tryz.prog F.strings_HasPrefix #[.string s, .string prefixx] w fun e w' => ∃ v, e = .returned v ∧ J v w' :=
  vcFS_sound (H := { keep := some [0, 1, 4] }) (by rw [show vcFS Tryz.prog W { keep := some [0, 1, 4] } F.strings_HasPrefix #[.string s, .string prefixx] R Φ J = Bstrings_HasPrefix s prefixx W R Φ J by kernel_rfl]; exact h) c
def Bslices_Insert_store_run_store_run (sP : Option Addr) (sN sC : Nat) (i : Int) (vP : Option Addr) (vN vC : Nat) (W : World) (R : List Own) (Φ : PW) (J : Value → World → Prop) : Prop :=
  (0 ≤ i ∧ i ≤ (↑sN : Int) ∧ sN ≤ sC) ∧ Br (decide ((↑vN : Int) = 0)) (∀ w0 R1, Ctx W w0 (R ++ R1) Φ → J (.slice sP sN sC) w0) (Br (decide (i = (↑sN : Int))) (∀ w2 R3, Ctx W w2 (R ++ R3) Φ → ∃ (p4 : Option Addr) (k5 k6 : Nat) (w7 : World), Sem.run Tryz.prog (builtin Builtin.append #[84, 84] 84 #[false, false] #[.slice sP sN sC, .slice vP vN vC]) w2 = .ok (.value (.slice p4 k5 k6)) w7 ∧ ∃ R8 Φ9, Stable Φ9 ∧ Ctx W w7 (R8 ++ R3) Φ9 ∧ ∀ w10 R11, Ctx W w10 (R8 ++ R11) Φ9 → J (.slice p4 k5 k6) w10) (I64 ((↑sN : Int) + (↑vN : Int)) ∧ Br (decide ((↑sC : Int) < (↑sN : Int) + (↑vN : Int))) ((0 ≤ i ∧ i ≤ (↑sC : Int)) ∧ I64 ((↑sN : Int) + (↑vN : Int)) ∧ I64 ((↑sN : Int) + (↑vN : Int) - i) ∧ ∀ w12 R13, Ctx W w12 (R ++ R13) Φ → ∃ (p14 : Option Addr) (k15 k16 : Nat) (w17 : World), Sem.run Tryz.prog (builtin Builtin.append #[84, 3] 84 #[false, false] #[.slice (subPtr sP 1 0 sC) i.toNat sC, .int .i64
  ((↑sN : Int) + (↑vN : Int) - i)]) w12 = .ok (.value (.slice p14 k15 k16)) w17 ∧ ∃ R18 Φ19, Stable Φ19 ∧ Ctx W w17 (R18 ++ R13) Φ19 ∧ (0 ≤ i ∧ i ≤ (↑k15 : Int) ∧ k15 ≤ k16) ∧ ∀ w20 R21, Ctx W w20 (R18 ++ R21) Φ19 → ∃ (n22 : Int) (w23 : World), Sem.run Tryz.prog (builtin Builtin.copy #[84, 84] 3 #[false, false] #[.slice (subPtr p14 1 i.toNat k16) (k15 - i.toNat) (k16 - i.toNat), .slice vP vN vC]) w20 = .ok (.value (.int .i64 n22)) w23 ∧ ∃ R24 Φ25, Stable Φ25 ∧ Ctx W w23 (R24 ++ R21) Φ25 ∧ ∃ R26 Φ27, Stable Φ27 ∧ Wk W R24 Φ25 R26 Φ27 ∧ I64 (i + (↑vN : Int)) ∧ (0 ≤ i ∧ i ≤ (↑sN : Int) ∧ sN ≤ sC) ∧ (0 ≤ i + (↑vN : Int) ∧ i + (↑vN : Int) ≤ (↑k15 : Int) ∧ k15 ≤ k16) ∧ ∀ w30 R31, Ctx W w30 (R24 ++ R31) Φ25 → ∃ (n32 : Int) (w33 : World), Sem.run Tryz.prog (builtin Builtin.copy #[84, 84] 3 #[false, false] #[.slice (subPtr p14 1 (i + (↑vN : Int)).toNat k16) (k15 - (i + (↑vN : Int)).toNat) (k16 -
  (i + (↑vN : Int)).toNat), .slice (subPtr sP 1 i.toNat sC) (sN - i.toNat) (sC - i.toNat)]) w30 = .ok (.value (.int .i64 n32)) w33 ∧ ∃ R34 Φ35, Stable Φ35 ∧ Ctx W w33 (R34 ++ R31) Φ35 ∧ ∀ w36 R37, Ctx W w36 (R34 ++ R37) Φ35 → J (.slice p14 k15 k16) w36) (I64 ((↑sN : Int) + (↑vN : Int)) ∧ (0 ≤ (↑sN : Int) + (↑vN : Int) ∧ (↑sN : Int) + (↑vN : Int) ≤ (↑sC : Int)) ∧ I64 (i + (↑vN : Int)) ∧ (0 ≤ i + (↑vN : Int) ∧ i + (↑vN : Int) ≤ (↑((↑sN : Int) + (↑vN : Int)).toNat : Int) ∧ ((↑sN : Int) + (↑vN : Int)).toNat ≤ sC) ∧ ∀ w38 R39, Ctx W w38 (R ++ R39) Φ → ∃ (c40 : Bool) (w41 : World), Sem.run Tryz.prog (callFunc 109 #[.slice vP vN vC, .slice (subPtr (subPtr sP 1 0 sC) 1 (i + (↑vN : Int)).toNat sC) (((↑sN : Int) + (↑vN : Int)).toNat - (i + (↑vN : Int)).toNat) (sC - (i + (↑vN : Int)).toNat)]) w38 = .ok (.value (.bool c40)) w41 ∧ ∃ R42 Φ43, Stable Φ43 ∧ Ctx W w41 (R42 ++ R39) Φ43 ∧ Br (!c40) (∃ R44
  Φ45, Stable Φ45 ∧ Wk W R42 Φ43 R44 Φ45 ∧ I64 (i + (↑vN : Int)) ∧ (0 ≤ i ∧ i ≤ (↑((↑sN : Int) + (↑vN : Int)).toNat : Int) ∧ ((↑sN : Int) + (↑vN : Int)).toNat ≤ sC) ∧ (0 ≤ i + (↑vN : Int) ∧ i + (↑vN : Int) ≤ (↑((↑sN : Int) + (↑vN : Int)).toNat : Int) ∧ ((↑sN : Int) + (↑vN : Int)).toNat ≤ sC) ∧ ∀ w48 R49, Ctx W w48 (R42 ++ R49) Φ43 → ∃ (n50 : Int) (w51 : World), Sem.run Tryz.prog (builtin Builtin.copy #[84, 84] 3 #[false, false] #[.slice (subPtr (subPtr sP 1 0 sC) 1 (i + (↑vN : Int)).toNat sC) (((↑sN : Int) + (↑vN : Int)).toNat - (i + (↑vN : Int)).toNat) (sC - (i + (↑vN : Int)).toNat), .slice (subPtr (subPtr sP 1 0 sC) 1 i.toNat sC) (((↑sN : Int) + (↑vN : Int)).toNat - i.toNat) (sC - i.toNat)]) w48 = .ok (.value (.int .i64 n50)) w51 ∧ ∃ R52 Φ53, Stable Φ53 ∧ Ctx W w51 (R52 ++ R49) Φ53 ∧ (0 ≤ i ∧ i ≤ (↑((↑sN : Int) + (↑vN : Int)).toNat : Int) ∧ ((↑sN : Int) + (↑vN : Int)).toNat ≤ sC) ∧ ∀
  w54 R55, Ctx W w54 (R52 ++ R55) Φ53 → ∃ (n56 : Int) (w57 : World), Sem.run Tryz.prog (builtin Builtin.copy #[84, 84] 3 #[false, false] #[.slice (subPtr (subPtr sP 1 0 sC) 1 i.toNat sC) (((↑sN : Int) + (↑vN : Int)).toNat - i.toNat) (sC - i.toNat), .slice vP vN vC]) w54 = .ok (.value (.int .i64 n56)) w57 ∧ ∃ R58 Φ59, Stable Φ59 ∧ Ctx W w57 (R58 ++ R55) Φ59 ∧ ∀ w60 R61, Ctx W w60 (R58 ++ R61) Φ59 → J (.slice (subPtr sP 1 0 sC) ((↑sN : Int) + (↑vN : Int)).toNat sC) w60) ((0 ≤ (↑sN : Int) ∧ (↑sN : Int) ≤ (↑((↑sN : Int) + (↑vN : Int)).toNat : Int) ∧ ((↑sN : Int) + (↑vN : Int)).toNat ≤ sC) ∧ ∀ w62 R63, Ctx W w62 (R42 ++ R63) Φ43 → ∃ (n64 : Int) (w65 : World), Sem.run Tryz.prog (builtin Builtin.copy #[84, 84] 3 #[false, false] #[.slice (subPtr (subPtr sP 1 0 sC) 1 (↑sN : Int).toNat sC) (((↑sN : Int) + (↑vN : Int)).toNat - (↑sN : Int).toNat) (sC - (↑sN : Int).toNat), .slice vP vN vC]) w62 = .ok
  (.value (.int .i64 n64)) w65 ∧ ∃ R66 Φ67, Stable Φ67 ∧ Ctx W w65 (R66 ++ R63) Φ67 ∧ (0 ≤ i ∧ i ≤ (↑((↑sN : Int) + (↑vN : Int)).toNat : Int) ∧ ((↑sN : Int) + (↑vN : Int)).toNat ≤ sC) ∧ ∀ w68 R69, Ctx W w68 (R66 ++ R69) Φ67 → Calls Tryz.prog F.slices_rotateRight_store_run #[.slice (subPtr (subPtr sP 1 0 sC) 1 i.toNat sC) (((↑sN : Int) + (↑vN : Int)).toNat - i.toNat) (sC - i.toNat), .int .i64 (↑vN : Int)] w68 fun e70 w71 => e70 = .returned (Value.tuple #[]) ∧ ∃ R72 Φ73, Stable Φ73 ∧ Ctx W w71 (R72 ++ R69) Φ73 ∧ ∀ w74 R75, Ctx W w74 (R72 ++ R75) Φ73 → J (.slice (subPtr sP 1 0 sC) ((↑sN : Int) + (↑vN : Int)).toNat sC) w74))))
theorem Bslices_Insert_store_run_store_run_run (sP : Option Addr) (sN sC : Nat) (i : Int) (vP : Option Addr) (vN vC : Nat) {W w : World} {R : List Own} {Φ : PW} [Stable Φ] {J : Value → World → Prop} (c : Ctx W w R Φ) (h : Bslices_Insert_store_run_store_run sP sN sC i vP vN vC W R Φ J) : Calls Tryz.prog F.slices_Insert_store_run_store_run #[.slice sP sN sC, .int .i64 i, .slice vP vN vC] w fun e w' => ∃ v, e = .returned v ∧ J v w' :=
  vcFS_sound (H := { keep := some [0, 1, 2, 6, 7, 8, 9, 16, 22, 31, 68], stages := [(11, [.held [(0, true), (1, true), (2, true), (5, true), (6, true), (3, true), (7, true), (4, true)], .stage [] (some 8)]), (15, [.held [(0, true), (1, true), (2, true), (5, true), (6, true), (3, true), (7, true), (4, true)], .stage [] (some 8)])] }) (by rw [show vcFS Tryz.prog W { keep := some [0, 1, 2, 6, 7, 8, 9, 16, 22, 31, 68], stages := [(11, [.held [(0, true), (1, true), (2, true), (5, true), (6, true), (3, true), (7, true), (4, true)], .stage [] (some 8)]), (15, [.held [(0, true), (1, true), (2, true), (5, true), (6, true), (3, true), (7, true), (4, true)], .stage [] (some 8)])] } F.slices_Insert_store_run_store_run #[.slice sP sN sC, .int .i64 i, .slice vP vN vC] R Φ J = Bslices_Insert_store_run_store_run sP sN sC i vP vN vC W R Φ J by kernel_rfl]; exact h) c
def Bslices_BinarySearchFunc_store_run_api_Pair_string (xP : Option Addr) (xN xC : Nat) (target : ByteArray) (cmpF : FuncId) (cmpC : Array Value) (W : World) (R : List Own) (Φ : PW) (J : Value → World → Prop) : Prop :=
  exI fun (I0 : Int → Int → List Own → PW → Nat → Prop) => (∃ R1 Φ2 k3, Stable Φ2 ∧ Wk W R Φ R1 Φ2 ∧ I0 0 (↑xN : Int) R1 Φ2 k3) ∧ ∀ n6 n7 R8 I9 k10, Stable I9 → I0 n6 n7 R8 I9 k10 → Br (decide (n6 < n7)) (I64 (n6 + n7) ∧ ∃ (n11 : Int), (∀ (w12 : World), Sem.run Tryz.prog (binOp BinOp.shr 136 (Value.int IntKind.u64 (IntKind.u64.wrap (n6 + n7))) (Value.int IntKind.u64 1)) w12 = Result.ok (Value.int IntKind.u64 n11) w12) ∧ (0 ≤ IntKind.i64.wrap n11 ∧ IntKind.i64.wrap n11 < (↑xN : Int)) ∧ ptrK none xP fun k13 k14 => ∀ w15 R16, Ctx W w15 (R8 ++ R16) I9 → ∃ s17 s18, RowAt w15 k13 (k14 + (IntKind.i64.wrap n11).toNat * 2) [.string s17, .string s18] ∧ ∀ w19 R20, Ctx W w19 (R8 ++ R20) I9 → okFun Tryz.prog cmpF = true ∧ Calls Tryz.prog cmpF (Array.mk (Value.agg #[.string s17, .string s18] :: Value.string target :: cmpC.toList)) w19 fun e21 w22 => ∃ n23, e21 = .returned (.int .i64 n23) ∧ ∃ R24 Φ25,
  Stable Φ25 ∧ Ctx W w22 (R24 ++ R20) Φ25 ∧ Br (decide (n23 < 0)) (I64 (IntKind.i64.wrap n11 + 1) ∧ ∃ R26 Φ27 k28, Stable Φ27 ∧ Wk W R24 Φ25 R26 Φ27 ∧ I0 (IntKind.i64.wrap n11 + 1) n7 R26 Φ27 k28 ∧ k28 < k10) (∃ R31 Φ32 k33, Stable Φ32 ∧ Wk W R24 Φ25 R31 Φ32 ∧ I0 n6 (IntKind.i64.wrap n11) R31 Φ32 k33 ∧ k33 < k10)) (Br (decide (n6 < (↑xN : Int))) ((0 ≤ n6 ∧ n6 < (↑xN : Int)) ∧ ptrK none xP fun k36 k37 => ∀ w38 R39, Ctx W w38 (R8 ++ R39) I9 → ∃ s40 s41, RowAt w38 k36 (k37 + n6.toNat * 2) [.string s40, .string s41] ∧ ∀ w42 R43, Ctx W w42 (R8 ++ R43) I9 → okFun Tryz.prog cmpF = true ∧ Calls Tryz.prog cmpF (Array.mk (Value.agg #[.string s40, .string s41] :: Value.string target :: cmpC.toList)) w42 fun e44 w45 => ∃ n46, e44 = .returned (.int .i64 n46) ∧ ∃ R47 Φ48, Stable Φ48 ∧ Ctx W w45 (R47 ++ R43) Φ48 ∧ ∀ w49 R50, Ctx W w49 (R47 ++ R50) Φ48 → J (Value.tuple #[.int .i64 n6, .bool (decide (n46
  = 0))]) w49) (∀ w51 R52, Ctx W w51 (R8 ++ R52) I9 → J (Value.tuple #[.int .i64 n6, .bool false]) w51))
theorem Bslices_BinarySearchFunc_store_run_api_Pair_string_run (xP : Option Addr) (xN xC : Nat) (target : ByteArray) (cmpF : FuncId) (cmpC : Array Value) {W w : World} {R : List Own} {Φ : PW} [Stable Φ] {J : Value → World → Prop} (c : Ctx W w R Φ) (h : Bslices_BinarySearchFunc_store_run_api_Pair_string xP xN xC target cmpF cmpC W R Φ J) : Calls Tryz.prog F.slices_BinarySearchFunc_store_run_api_Pair_string #[.slice xP xN xC, .string target, .func (.func cmpF) #[] cmpC] w fun e w' => ∃ v, e = .returned v ∧ J v w' :=
  vcFS_sound (H := { keep := some [0, 1, 2, 6, 7, 8, 9, 10, 11, 17, 31], wrap := [30, 46], split := [8], loops := [(3, [(9, .one (.int .i64)), (10, .one (.int .i64))], [])] }) (by rw [show vcFS Tryz.prog W { keep := some [0, 1, 2, 6, 7, 8, 9, 10, 11, 17, 31], wrap := [30, 46], split := [8], loops := [(3, [(9, .one (.int .i64)), (10, .one (.int .i64))], [])] } F.slices_BinarySearchFunc_store_run_api_Pair_string #[.slice xP xN xC, .string target, .func (.func cmpF) #[] cmpC] R Φ J = Bslices_BinarySearchFunc_store_run_api_Pair_string xP xN xC target cmpF cmpC W R Φ J by kernel_rfl]; exact h) c
def Bstore_run_find_1 (p0 : ByteArray) (p1 : ByteArray) (key : ByteArray) (W : World) (R : List Own) (Φ : PW) (J : Value → World → Prop) : Prop :=
  ∀ (b : Nat) (w0 : World) (R1 : List Own), Ctx W w0 (R ++ R1) Φ → Calls Tryz.prog F.cmp_Compare_string #[.string p0, .string key] w0 fun e2 w3 => ∃ n4, e2 = .returned (.int .i64 n4) ∧ ∃ R5 Φ6, Stable Φ6 ∧ Ctx W w3 (R5 ++ R1) Φ6 ∧ ∀ w7 R8, Ctx W w7 (R5 ++ R8) Φ6 → J (.int .i64 n4) w7
theorem Bstore_run_find_1_run (p0 : ByteArray) (p1 : ByteArray) (key : ByteArray) {W w : World} {R : List Own} {Φ : PW} [Stable Φ] {J : Value → World → Prop} (c : Ctx W w R Φ) (h : Bstore_run_find_1 p0 p1 key W R Φ J) : Calls Tryz.prog F.store_run_find_1 #[.agg #[.string p0, .string p1], .string key] w fun e w' => ∃ v, e = .returned v ∧ J v w' :=
  vcFS_sound (H := { keep := some [1, 2, 4], track := [2] }) (by rw [show vcFS Tryz.prog W { keep := some [1, 2, 4], track := [2] } F.store_run_find_1 #[.agg #[.string p0, .string p1], .string key] R Φ J = Bstore_run_find_1 p0 p1 key W R Φ J by kernel_rfl]; exact h) c
def Bslices_ContainsFunc__store_run__store_run (sP : Option Addr) (sN sC : Nat) (fF : FuncId) (fC : Array Value) (W : World) (R : List Own) (Φ : PW) (J : Value → World → Prop) : Prop :=
  ∀ w0 R1, Ctx W w0 (R ++ R1) Φ → Calls Tryz.prog F.slices_IndexFunc__store_run__store_run #[.slice sP sN sC, Value.func (Fn.func fF) #[] fC] w0 fun e2 w3 => ∃ n4, e2 = .returned (.int .i64 n4) ∧ ∃ R5 Φ6, Stable Φ6 ∧ Ctx W w3 (R5 ++ R1) Φ6 ∧ ∀ w7 R8, Ctx W w7 (R5 ++ R8) Φ6 → J (.bool (decide (0 ≤ n4))) w7
theorem Bslices_ContainsFunc__store_run__store_run_run (sP : Option Addr) (sN sC : Nat) (fF : FuncId) (fC : Array Value) {W w : World} {R : List Own} {Φ : PW} [Stable Φ] {J : Value → World → Prop} (c : Ctx W w R Φ) (h : Bslices_ContainsFunc__store_run__store_run sP sN sC fF fC W R Φ J) : Calls Tryz.prog F.slices_ContainsFunc__store_run__store_run #[.slice sP sN sC, .func (.func fF) #[] fC] w fun e w' => ∃ v, e = .returned v ∧ J v w' :=
  vcFS_sound (H := { keep := some [0, 1, 4] }) (by rw [show vcFS Tryz.prog W { keep := some [0, 1, 4] } F.slices_ContainsFunc__store_run__store_run #[.slice sP sN sC, .func (.func fF) #[] fC] R Φ J = Bslices_ContainsFunc__store_run__store_run sP sN sC fF fC W R Φ J by kernel_rfl]; exact h) c
def Bstore_Store_settle_1 (lP : Option Addr) (lN lC : Nat) (W : World) (R : List Own) (Φ : PW) (J : Value → World → Prop) : Prop :=
  ∀ w0 R1, Ctx W w0 (R ++ R1) Φ → J (.bool (decide (0 < (↑lN : Int)))) w0
theorem Bstore_Store_settle_1_run (lP : Option Addr) (lN lC : Nat) {W w : World} {R : List Own} {Φ : PW} [Stable Φ] {J : Value → World → Prop} (c : Ctx W w R Φ) (h : Bstore_Store_settle_1 lP lN lC W R Φ J) : Calls Tryz.prog F.store_Store_settle_1 #[.slice lP lN lC] w fun e w' => ∃ v, e = .returned v ∧ J v w' :=
  vcFS_sound (H := { keep := some [0, 2] }) (by rw [show vcFS Tryz.prog W { keep := some [0, 2] } F.store_Store_settle_1 #[.slice lP lN lC] R Φ J = Bstore_Store_settle_1 lP lN lC W R Φ J by kernel_rfl]; exact h) c
def Bslices_IndexFunc_store_run_api_Pair (sP : Option Addr) (sN sC : Nat) (fF : FuncId) (fC : Array Value) (W : World) (R : List Own) (Φ : PW) (J : Value → World → Prop) : Prop :=
  exI fun (I0 : Int → List Own → PW → Nat → Prop) => (∃ R1 Φ2 k3, Stable Φ2 ∧ Wk W R Φ R1 Φ2 ∧ I0 0 R1 Φ2 k3) ∧ ∀ n6 R7 I8 k9, Stable I8 → I0 n6 R7 I8 k9 → Br (decide (n6 < (↑sN : Int))) ((0 ≤ n6 ∧ n6 < (↑sN : Int)) ∧ ptrK none sP fun k10 k11 => ∀ w12 R13, Ctx W w12 (R7 ++ R13) I8 → ∃ s14 s15, RowAt w12 k10 (k11 + n6.toNat * 2) [.string s14, .string s15] ∧ ∀ w16 R17, Ctx W w16 (R7 ++ R17) I8 → okFun Tryz.prog fF = true ∧ Calls Tryz.prog fF (Array.mk (Value.agg #[.string s14, .string s15] :: fC.toList)) w16 fun e18 w19 => ∃ c20, e18 = .returned (.bool c20) ∧ ∃ R21 Φ22, Stable Φ22 ∧ Ctx W w19 (R21 ++ R17) Φ22 ∧ Br c20 (∀ w23 R24, Ctx W w23 (R21 ++ R24) Φ22 → J (.int .i64 n6) w23) (I64 (n6 + 1) ∧ ∃ R25 Φ26 k27, Stable Φ26 ∧ Wk W R21 Φ22 R25 Φ26 ∧ I0 (n6 + 1) R25 Φ26 k27 ∧ k27 < k9)) (∀ w30 R31, Ctx W w30 (R7 ++ R31) I8 → J (.int .i64 (-1)) w30)
theorem Bslices_IndexFunc_store_run_api_Pair_run (sP : Option Addr) (sN sC : Nat) (fF : FuncId) (fC : Array Value) {W w : World} {R : List Own} {Φ : PW} [Stable Φ] {J : Value → World → Prop} (c : Ctx W w R Φ) (h : Bslices_IndexFunc_store_run_api_Pair sP sN sC fF fC W R Φ J) : Calls Tryz.prog F.slices_IndexFunc_store_run_api_Pair #[.slice sP sN sC, .func (.func fF) #[] fC] w fun e w' => ∃ v, e = .returned v ∧ J v w' :=
  vcFS_sound (H := { keep := some [0, 1, 4, 5, 7, 8, 9, 16], wrap := [16], loops := [(2, [(8, .one (.int .i64))], [])] }) (by rw [show vcFS Tryz.prog W { keep := some [0, 1, 4, 5, 7, 8, 9, 16], wrap := [16], loops := [(2, [(8, .one (.int .i64))], [])] } F.slices_IndexFunc_store_run_api_Pair #[.slice sP sN sC, .func (.func fF) #[] fC] R Φ J = Bslices_IndexFunc_store_run_api_Pair sP sN sC fF fC W R Φ J by kernel_rfl]; exact h) c
def Bstore_there_1 (p0 : ByteArray) (p1 : ByteArray) (W : World) (R : List Own) (Φ : PW) (J : Value → World → Prop) : Prop :=
  ∀ (b : Nat) (w0 : World) (R1 : List Own), Ctx W w0 (R ++ R1) Φ → J (.bool (decide (p1 = ByteArray.mk #[]))) w0
theorem Bstore_there_1_run (p0 : ByteArray) (p1 : ByteArray) {W w : World} {R : List Own} {Φ : PW} [Stable Φ] {J : Value → World → Prop} (c : Ctx W w R Φ) (h : Bstore_there_1 p0 p1 W R Φ J) : Calls Tryz.prog F.store_there_1 #[.agg #[.string p0, .string p1]] w fun e w' => ∃ v, e = .returned v ∧ J v w' :=
  vcFS_sound (H := { keep := some [1, 2], track := [1] }) (by rw [show vcFS Tryz.prog W { keep := some [1, 2], track := [1] } F.store_there_1 #[.agg #[.string p0, .string p1]] R Φ J = Bstore_there_1 p0 p1 W R Φ J by kernel_rfl]; exact h) c
def Bstore_merge_1 (a0 : ByteArray) (a1 : ByteArray) (b0 : ByteArray) (b1 : ByteArray) (W : World) (R : List Own) (Φ : PW) (J : Value → World → Prop) : Prop :=
  ∀ (b b : Nat) (w0 : World) (R1 : List Own), Ctx W w0 (R ++ R1) Φ → Calls Tryz.prog F.cmp_Compare_string #[.string a0, .string b0] w0 fun e2 w3 => ∃ n4, e2 = .returned (.int .i64 n4) ∧ ∃ R5 Φ6, Stable Φ6 ∧ Ctx W w3 (R5 ++ R1) Φ6 ∧ ∀ w7 R8, Ctx W w7 (R5 ++ R8) Φ6 → J (.int .i64 n4) w7
theorem Bstore_merge_1_run (a0 : ByteArray) (a1 : ByteArray) (b0 : ByteArray) (b1 : ByteArray) {W w : World} {R : List Own} {Φ : PW} [Stable Φ] {J : Value → World → Prop} (c : Ctx W w R Φ) (h : Bstore_merge_1 a0 a1 b0 b1 W R Φ J) : Calls Tryz.prog F.store_merge_1 #[.agg #[.string a0, .string a1], .agg #[.string b0, .string b1]] w fun e w' => ∃ v, e = .returned v ∧ J v w' :=
  vcFS_sound (H := { keep := some [2, 3, 4], track := [2, 3] }) (by rw [show vcFS Tryz.prog W { keep := some [2, 3, 4], track := [2, 3] } F.store_merge_1 #[.agg #[.string a0, .string a1], .agg #[.string b0, .string b1]] R Φ J = Bstore_merge_1 a0 a1 b0 b1 W R Φ J by kernel_rfl]; exact h) c
def Bslices_CompactFunc_api_Pair_api_Pair (sP : Option Addr) (sN sC : Nat) (eqF : FuncId) (eqC : Array Value) (W : World) (R : List Own) (Φ : PW) (J : Value → World → Prop) : Prop :=
  Br (decide ((↑sN : Int) < 2)) (∀ w0 R1, Ctx W w0 (R ++ R1) Φ → J (.slice sP sN sC) w0) (exI fun (I2 : Int → List Own → PW → Nat → Prop) => (∃ R3 Φ4 k5, Stable Φ4 ∧ Wk W R Φ R3 Φ4 ∧ I2 1 R3 Φ4 k5) ∧ ∀ n8 R9 I10 k11, Stable I10 → I2 n8 R9 I10 k11 → Br (decide (n8 < (↑sN : Int))) (∃ R12 Φ13, Stable Φ13 ∧ Wk W R9 I10 R12 Φ13 ∧ (0 ≤ n8 ∧ n8 < (↑sN : Int)) ∧ ptrK none sP fun k16 k17 => I64 (n8 - 1) ∧ ∃ (s18 s19 : ByteArray), (∀ w20 R21, Ctx W w20 (R12 ++ R21) Φ13 → ∃ s22 s23, RowAt w20 k16 (k17 + n8.toNat * 2) [.string s22, .string s23] ∧ Value.agg #[.string s22, .string s23] = Value.agg #[.string s18, .string s19]) ∧ (0 ≤ n8 - 1 ∧ n8 - 1 < (↑sN : Int)) ∧ ptrK none sP fun k24 k25 => ∃ (s26 s27 : ByteArray), (∀ w28 R29, Ctx W w28 (R12 ++ R29) Φ13 → ∃ s30 s31, RowAt w28 k24 (k25 + (n8 - 1).toNat * 2) [.string s30, .string s31] ∧ Value.agg #[.string s30, .string s31] = Value.agg #[.string s26,
  .string s27]) ∧ ∀ w32 R33, Ctx W w32 (R9 ++ R33) I10 → okFun Tryz.prog eqF = true ∧ Calls Tryz.prog eqF (Array.mk (Value.agg #[.string s18, .string s19] :: Value.agg #[.string s26, .string s27] :: eqC.toList)) w32 fun e34 w35 => ∃ c36, e34 = .returned (.bool c36) ∧ ∃ R37 Φ38, Stable Φ38 ∧ Ctx W w35 (R37 ++ R33) Φ38 ∧ Br c36 ((0 ≤ n8 ∧ n8 ≤ (↑sN : Int) ∧ sN ≤ sC) ∧ exI fun (I39 : Int → Int → List Own → PW → Nat → Prop) => (∃ R40 Φ41 k42, Stable Φ41 ∧ Wk W R37 Φ38 R40 Φ41 ∧ I39 n8 1 R40 Φ41 k42) ∧ ∀ n45 n46 R47 I48 k49, Stable I48 → I39 n45 n46 R47 I48 k49 → Br (decide (n46 < (↑(sN - n8.toNat) : Int))) (∃ R50 Φ51, Stable Φ51 ∧ Wk W R47 I48 R50 Φ51 ∧ (0 ≤ n46 ∧ n46 < (↑(sN - n8.toNat) : Int)) ∧ ptrK none (subPtr sP 2 n8.toNat sC) fun k54 k55 => I64 (n46 - 1) ∧ ∃ (s56 s57 : ByteArray), (∀ w58 R59, Ctx W w58 (R50 ++ R59) Φ51 → ∃ s60 s61, RowAt w58 k54 (k55 + n46.toNat * 2) [.string s60,
  .string s61] ∧ Value.agg #[.string s60, .string s61] = Value.agg #[.string s56, .string s57]) ∧ (0 ≤ n46 - 1 ∧ n46 - 1 < (↑(sN - n8.toNat) : Int)) ∧ ptrK none (subPtr sP 2 n8.toNat sC) fun k62 k63 => ∃ (s64 s65 : ByteArray), (∀ w66 R67, Ctx W w66 (R50 ++ R67) Φ51 → ∃ s68 s69, RowAt w66 k62 (k63 + (n46 - 1).toNat * 2) [.string s68, .string s69] ∧ Value.agg #[.string s68, .string s69] = Value.agg #[.string s64, .string s65]) ∧ ∀ w70 R71, Ctx W w70 (R47 ++ R71) I48 → okFun Tryz.prog eqF = true ∧ Calls Tryz.prog eqF (Array.mk (Value.agg #[.string s56, .string s57] :: Value.agg #[.string s64, .string s65] :: eqC.toList)) w70 fun e72 w73 => ∃ c74, e72 = .returned (.bool c74) ∧ ∃ R75 Φ76, Stable Φ76 ∧ Ctx W w73 (R75 ++ R71) Φ76 ∧ Br (!c74) ((0 ≤ n46 ∧ n46 < (↑(sN - n8.toNat) : Int)) ∧ ptrK none (subPtr sP 2 n8.toNat sC) fun k77 k78 => ∀ w79 R80, Ctx W w79 (R75 ++ R80) Φ76 → ∃ s81 s82, RowAt
  w79 k77 (k78 + n46.toNat * 2) [.string s81, .string s82] ∧ (0 ≤ n45 ∧ n45 < (↑sN : Int)) ∧ ptrK none sP fun k83 k84 => ∀ w85 R86, Ctx W w85 (R75 ++ R86) Φ76 → CanWrite w85 k83 (k84 + n45.toNat * 2) 2 ∧ ∀ (w87 : World), w87 = w85.setCells k83 (k84 + n45.toNat * 2) [.string s81, .string s82] → ∃ R88 Φ89, Stable Φ89 ∧ Ctx W w87 (R88 ++ R86) Φ89 ∧ I64 (n45 + 1) ∧ I64 (n46 + 1) ∧ ∃ R90 Φ91 k92, Stable Φ91 ∧ Wk W R88 Φ89 R90 Φ91 ∧ I39 (n45 + 1) (n46 + 1) R90 Φ91 k92 ∧ k92 < k49) (I64 (n46 + 1) ∧ ∃ R95 Φ96 k97, Stable Φ96 ∧ Wk W R75 Φ76 R95 Φ96 ∧ I39 n45 (n46 + 1) R95 Φ96 k97 ∧ k97 < k49)) ((0 ≤ n45 ∧ n45 ≤ (↑sN : Int) ∧ sN ≤ sC) ∧ ∀ w100 R101, Ctx W w100 (R47 ++ R101) I48 → ∃ (w102 : World), Sem.run Tryz.prog (builtin Builtin.clear #[48] 0 #[false] #[.slice (subPtr sP 2 n45.toNat sC) (sN - n45.toNat) (sC - n45.toNat)]) w100 = .ok (.value (Value.tuple #[])) w102 ∧ ∃ R103 Φ104, Stable Φ104 ∧
  Ctx W w102 (R103 ++ R101) Φ104 ∧ (0 ≤ n45 ∧ n45 ≤ (↑sC : Int)) ∧ ∀ w105 R106, Ctx W w105 (R103 ++ R106) Φ104 → J (.slice (subPtr sP 2 0 sC) n45.toNat sC) w105)) (I64 (n8 + 1) ∧ ∃ R107 Φ108 k109, Stable Φ108 ∧ Wk W R37 Φ38 R107 Φ108 ∧ I2 (n8 + 1) R107 Φ108 k109 ∧ k109 < k11)) (∀ w112 R113, Ctx W w112 (R9 ++ R113) I10 → J (.slice sP sN sC) w112))
theorem Bslices_CompactFunc_api_Pair_api_Pair_run (sP : Option Addr) (sN sC : Nat) (eqF : FuncId) (eqC : Array Value) {W w : World} {R : List Own} {Φ : PW} [Stable Φ] {J : Value → World → Prop} (c : Ctx W w R Φ) (h : Bslices_CompactFunc_api_Pair_api_Pair sP sN sC eqF eqC W R Φ J) : Calls Tryz.prog F.slices_CompactFunc_api_Pair_api_Pair #[.slice sP sN sC, .func (.func eqF) #[] eqC] w fun e w' => ∃ v, e = .returned v ∧ J v w' :=
  vcFS_sound (H := { keep := some [0, 1, 4, 5, 6, 7, 10, 15, 28, 35, 49], wrap := [28, 48], stages := [(6, [.held [(0, true), (1, true), (2, true), (5, true), (6, true), (3, true), (7, true), (4, true), (8, true), (9, true)], .stage [] (some 10)]), (11, [.held [(0, true), (1, true), (2, true), (5, true), (6, true), (3, true), (7, true), (4, true), (8, true), (9, true)], .stage [] (some 10), .stage [11] none])], loops := [(9, [(5, .one (.int .i64)), (7, .one (.int .i64))], []), (4, [(5, .one (.int .i64))], [])] }) (by rw [show vcFS Tryz.prog W { keep := some [0, 1, 4, 5, 6, 7, 10, 15, 28, 35, 49], wrap := [28, 48], stages := [(6, [.held [(0, true), (1, true), (2, true), (5, true), (6, true), (3, true), (7, true), (4, true), (8, true), (9, true)], .stage [] (some 10)]), (11, [.held [(0, true), (1, true), (2, true), (5, true), (6, true), (3, true), (7, true), (4, true), (8, true), (9, true)], .stage [] (some 10), .stage [11] none])], loops := [(9, [(5, .one (.int .i64)), (7, .one (.int .i64))], []), (4, [(5, .one (.int .i64))], [])] } F.slices_CompactFunc_api_Pair_api_Pair #[.slice sP sN sC, .func (.func eqF) #[] eqC] R Φ J = Bslices_CompactFunc_api_Pair_api_Pair sP sN sC eqF eqC W R Φ J by kernel_rfl]; exact h) c
def Bstore_merge_2 (a0 : ByteArray) (a1 : ByteArray) (b0 : ByteArray) (b1 : ByteArray) (W : World) (R : List Own) (Φ : PW) (J : Value → World → Prop) : Prop :=
  ∀ (b b : Nat) (w0 : World) (R1 : List Own), Ctx W w0 (R ++ R1) Φ → J (.bool (decide (a0 = b0))) w0
theorem Bstore_merge_2_run (a0 : ByteArray) (a1 : ByteArray) (b0 : ByteArray) (b1 : ByteArray) {W w : World} {R : List Own} {Φ : PW} [Stable Φ] {J : Value → World → Prop} (c : Ctx W w R Φ) (h : Bstore_merge_2 a0 a1 b0 b1 W R Φ J) : Calls Tryz.prog F.store_merge_2 #[.agg #[.string a0, .string a1], .agg #[.string b0, .string b1]] w fun e w' => ∃ v, e = .returned v ∧ J v w' :=
  vcFS_sound (H := { keep := some [2, 3, 4], track := [2, 3] }) (by rw [show vcFS Tryz.prog W { keep := some [2, 3, 4], track := [2, 3] } F.store_merge_2 #[.agg #[.string a0, .string a1], .agg #[.string b0, .string b1]] R Φ J = Bstore_merge_2 a0 a1 b0 b1 W R Φ J by kernel_rfl]; exact h) c
def Bslices_Concat_store_run_store_run (slicesP : Option Addr) (slicesN slicesC : Nat) (W : World) (R : List Own) (Φ : PW) (J : Value → World → Prop) : Prop :=
  exI fun (I0 : Int → Int → List Own → PW → Nat → Prop) => (∃ R1 Φ2 k3, Stable Φ2 ∧ Wk W R Φ R1 Φ2 ∧ I0 0 0 R1 Φ2 k3) ∧ ∀ n6 n7 R8 I9 k10, Stable I9 → I0 n6 n7 R8 I9 k10 → Br (decide (n7 < (↑slicesN : Int))) ((0 ≤ n7 ∧ n7 < (↑slicesN : Int)) ∧ ptrK none slicesP fun k11 k12 => ∀ w13 R14, Ctx W w13 (R8 ++ R14) I9 → ∃ p15 k16 k17, w13.cell? (Addr.mk k11 (k12 + n7.toNat) none) = some (.slice p15 k16 k17) ∧ I64 (n6 + (↑k16 : Int)) ∧ Br (decide (n6 + (↑k16 : Int) < 0)) (∀ w18 R19, Ctx W w18 (R8 ++ R19) I9 → False) (I64 (n7 + 1) ∧ ∃ R20 Φ21 k22, Stable Φ21 ∧ Wk W R8 I9 R20 Φ21 ∧ I0 (n6 + (↑k16 : Int)) (n7 + 1) R20 Φ21 k22 ∧ k22 < k10)) (∀ w25 R26, Ctx W w25 (R8 ++ R26) I9 → Calls Tryz.prog F.slices_Grow_store_run_store_run #[.slice none 0 0, .int .i64 n6] w25 fun e27 w28 => ∃ p29 k30 k31, e27 = .returned (.slice p29 k30 k31) ∧ ∃ R32 Φ33, Stable Φ33 ∧ Ctx W w28 (R32 ++ R26) Φ33 ∧ exI fun (I34 :
  Option Addr → Nat → Nat → Int → List Own → PW → Nat → Prop) => (∃ R35 Φ36 k37, Stable Φ36 ∧ Wk W R32 Φ33 R35 Φ36 ∧ I34 p29 k30 k31 0 R35 Φ36 k37) ∧ ∀ p40 k41 k42 n43 R44 I45 k46, Stable I45 → I34 p40 k41 k42 n43 R44 I45 k46 → Br (decide (n43 < (↑slicesN : Int))) ((0 ≤ n43 ∧ n43 < (↑slicesN : Int)) ∧ ptrK none slicesP fun k47 k48 => ∀ w49 R50, Ctx W w49 (R44 ++ R50) I45 → ∃ p51 k52 k53, w49.cell? (Addr.mk k47 (k48 + n43.toNat) none) = some (.slice p51 k52 k53) ∧ ∀ w54 R55, Ctx W w54 (R44 ++ R55) I45 → ∃ (p56 : Option Addr) (k57 k58 : Nat) (w59 : World), Sem.run Tryz.prog (builtin Builtin.append #[84, 84] 84 #[false, false] #[.slice p40 k41 k42, .slice p51 k52 k53]) w54 = .ok (.value (.slice p56 k57 k58)) w59 ∧ ∃ R60 Φ61, Stable Φ61 ∧ Ctx W w59 (R60 ++ R55) Φ61 ∧ I64 (n43 + 1) ∧ ∃ R62 Φ63 k64, Stable Φ63 ∧ Wk W R60 Φ61 R62 Φ63 ∧ I34 p56 k57 k58 (n43 + 1) R62 Φ63 k64 ∧ k64 < k46) (∀ w67
  R68, Ctx W w67 (R44 ++ R68) I45 → J (.slice p40 k41 k42) w67))
theorem Bslices_Concat_store_run_store_run_run (slicesP : Option Addr) (slicesN slicesC : Nat) {W w : World} {R : List Own} {Φ : PW} [Stable Φ] {J : Value → World → Prop} (c : Ctx W w R Φ) (h : Bslices_Concat_store_run_store_run slicesP slicesN slicesC W R Φ J) : Calls Tryz.prog F.slices_Concat_store_run_store_run #[.slice slicesP slicesN slicesC] w fun e w' => ∃ v, e = .returned v ∧ J v w' :=
  vcFS_sound (H := { keep := some [0, 2, 3, 5, 6, 8, 9, 10, 11, 12, 20, 25, 26, 27, 28], loops := [(11, [(6, .one (.slice)), (27, .one (.int .i64))], []), (3, [(3, .one (.int .i64)), (11, .one (.int .i64))], [])] }) (by rw [show vcFS Tryz.prog W { keep := some [0, 2, 3, 5, 6, 8, 9, 10, 11, 12, 20, 25, 26, 27, 28], loops := [(11, [(6, .one (.slice)), (27, .one (.int .i64))], []), (3, [(3, .one (.int .i64)), (11, .one (.int .i64))], [])] } F.slices_Concat_store_run_store_run #[.slice slicesP slicesN slicesC] R Φ J = Bslices_Concat_store_run_store_run slicesP slicesN slicesC W R Φ J by kernel_rfl]; exact h) c
def Binternal_stringslite_HasPrefix (s : ByteArray) (prefixx : ByteArray) (W : World) (R : List Own) (Φ : PW) (J : Value → World → Prop) : Prop :=
  ∀ w0 R1, Ctx W w0 (R ++ R1) Φ → (decide ((↑prefixx.size : Int) ≤ (↑s.size : Int)) = true → 0 ≤ (↑prefixx.size : Int) ∧ (↑prefixx.size : Int) ≤ (↑s.size : Int)) ∧ ∀ w2 R3, Ctx W w2 (R ++ R3) Φ → J (.bool (decide ((↑prefixx.size : Int) ≤ (↑s.size : Int)) && decide (s.extract 0 (↑prefixx.size : Int).toNat = prefixx))) w2
theorem Binternal_stringslite_HasPrefix_run (s : ByteArray) (prefixx : ByteArray) {W w : World} {R : List Own} {Φ : PW} [Stable Φ] {J : Value → World → Prop} (c : Ctx W w R Φ) (h : Binternal_stringslite_HasPrefix s prefixx W R Φ J) : Calls Tryz.prog F.internal_stringslite_HasPrefix #[.string s, .string prefixx] w fun e w' => ∃ v, e = .returned v ∧ J v w' :=
  vcFS_sound (H := { keep := some [0, 1, 4] }) (by rw [show vcFS Tryz.prog W { keep := some [0, 1, 4] } F.internal_stringslite_HasPrefix #[.string s, .string prefixx] R Φ J = Binternal_stringslite_HasPrefix s prefixx W R Φ J by kernel_rfl]; exact h) c
def Bslices_IndexFunc__store_run__store_run (sP : Option Addr) (sN sC : Nat) (fF : FuncId) (fC : Array Value) (W : World) (R : List Own) (Φ : PW) (J : Value → World → Prop) : Prop :=
  exI fun (I0 : Int → List Own → PW → Nat → Prop) => (∃ R1 Φ2 k3, Stable Φ2 ∧ Wk W R Φ R1 Φ2 ∧ I0 0 R1 Φ2 k3) ∧ ∀ n6 R7 I8 k9, Stable I8 → I0 n6 R7 I8 k9 → Br (decide (n6 < (↑sN : Int))) ((0 ≤ n6 ∧ n6 < (↑sN : Int)) ∧ ptrK none sP fun k10 k11 => ∀ w12 R13, Ctx W w12 (R7 ++ R13) I8 → ∃ p14 k15 k16, w12.cell? (Addr.mk k10 (k11 + n6.toNat) none) = some (.slice p14 k15 k16) ∧ ∀ w17 R18, Ctx W w17 (R7 ++ R18) I8 → okFun Tryz.prog fF = true ∧ Calls Tryz.prog fF (Array.mk (Value.slice p14 k15 k16 :: fC.toList)) w17 fun e19 w20 => ∃ c21, e19 = .returned (.bool c21) ∧ ∃ R22 Φ23, Stable Φ23 ∧ Ctx W w20 (R22 ++ R18) Φ23 ∧ Br c21 (∀ w24 R25, Ctx W w24 (R22 ++ R25) Φ23 → J (.int .i64 n6) w24) (I64 (n6 + 1) ∧ ∃ R26 Φ27 k28, Stable Φ27 ∧ Wk W R22 Φ23 R26 Φ27 ∧ I0 (n6 + 1) R26 Φ27 k28 ∧ k28 < k9)) (∀ w31 R32, Ctx W w31 (R7 ++ R32) I8 → J (.int .i64 (-1)) w31)
theorem Bslices_IndexFunc__store_run__store_run_run (sP : Option Addr) (sN sC : Nat) (fF : FuncId) (fC : Array Value) {W w : World} {R : List Own} {Φ : PW} [Stable Φ] {J : Value → World → Prop} (c : Ctx W w R Φ) (h : Bslices_IndexFunc__store_run__store_run sP sN sC fF fC W R Φ J) : Calls Tryz.prog F.slices_IndexFunc__store_run__store_run #[.slice sP sN sC, .func (.func fF) #[] fC] w fun e w' => ∃ v, e = .returned v ∧ J v w' :=
  vcFS_sound (H := { keep := some [0, 1, 4, 5, 7, 8, 9, 16], wrap := [16], loops := [(2, [(8, .one (.int .i64))], [])] }) (by rw [show vcFS Tryz.prog W { keep := some [0, 1, 4, 5, 7, 8, 9, 16], wrap := [16], loops := [(2, [(8, .one (.int .i64))], [])] } F.slices_IndexFunc__store_run__store_run #[.slice sP sN sC, .func (.func fF) #[] fC] R Φ J = Bslices_IndexFunc__store_run__store_run sP sN sC fF fC W R Φ J by kernel_rfl]; exact h) c
def Bslices_Grow_store_run_store_run (sP : Option Addr) (sN sC : Nat) (n : Int) (W : World) (R : List Own) (Φ : PW) (J : Value → World → Prop) : Prop :=
  Br (decide (n < 0)) (∀ w0 R1, Ctx W w0 (R ++ R1) Φ → False) (I64 ((↑sC : Int) - (↑sN : Int)) ∧ I64 (n - ((↑sC : Int) - (↑sN : Int))) ∧ Br (decide (0 < n - ((↑sC : Int) - (↑sN : Int)))) ((0 ≤ (↑sC : Int) ∧ (↑sC : Int) ≤ (↑sC : Int)) ∧ ∀ w2 R3, Ctx W w2 (R ++ R3) Φ → ∃ (p4 : Option Addr) (k5 k6 : Nat) (w7 : World), Sem.run Tryz.prog (builtin Builtin.append #[84, 3] 84 #[false, false] #[.slice (subPtr sP 1 0 sC) (↑sC : Int).toNat sC, .int .i64 (n - ((↑sC : Int) - (↑sN : Int)))]) w2 = .ok (.value (.slice p4 k5 k6)) w7 ∧ ∃ R8 Φ9, Stable Φ9 ∧ Ctx W w7 (R8 ++ R3) Φ9 ∧ (0 ≤ (↑sN : Int) ∧ (↑sN : Int) ≤ (↑k6 : Int)) ∧ ∀ w10 R11, Ctx W w10 (R8 ++ R11) Φ9 → J (.slice (subPtr p4 1 0 k6) (↑sN : Int).toNat k6) w10) (∀ w12 R13, Ctx W w12 (R ++ R13) Φ → J (.slice sP sN sC) w12))
theorem Bslices_Grow_store_run_store_run_run (sP : Option Addr) (sN sC : Nat) (n : Int) {W w : World} {R : List Own} {Φ : PW} [Stable Φ] {J : Value → World → Prop} (c : Ctx W w R Φ) (h : Bslices_Grow_store_run_store_run sP sN sC n W R Φ J) : Calls Tryz.prog F.slices_Grow_store_run_store_run #[.slice sP sN sC, .int .i64 n] w fun e w' => ∃ v, e = .returned v ∧ J v w' :=
  vcFS_sound (H := { keep := some [0, 1, 4, 6, 16] }) (by rw [show vcFS Tryz.prog W { keep := some [0, 1, 4, 6, 16] } F.slices_Grow_store_run_store_run #[.slice sP sN sC, .int .i64 n] R Φ J = Bslices_Grow_store_run_store_run sP sN sC n W R Φ J by kernel_rfl]; exact h) c
end Go.Proofs.YtebnciehcnedjaaGreatDoor
end

section
namespace Go.Vc
theorem run_cpy {P : Program} {ats : Array TypeId} {ty : TypeId} {cs : Array Bool} {args : Array Value} {v : Value} {w w' : World} (h : (Builtin.copy_ ats ty args).run P w = .ok v w') : Sem.run P (builtin Builtin.copy ats ty cs args) w = .ok (.value v) w' := by
  unfold builtin
  simp only [Sem.run_bind, h, Result.andThen, Sem.run_pure]
theorem append_tv {P : Program} {w : World} {ts tv ty t u : TypeId} {i : TypeInfo} {p : Option Addr} {n c : Nat} {x : Value} (h1 : P.underlying ts = some (.slice t)) (h2 : P.underlying tv = some (.slice u)) (hi : P.info? t = some i) :
    (Builtin.append_ #[ts, tv] ty #[.slice p n c, x]).run P w = (Builtin.append_ #[ts, ts] ty #[.slice p n c, x]).run P w := by
  simp [Builtin.append_, run_underlying h1, run_underlying h2, sizeOf, typeInfo, hi]
theorem run_copyN {P : Program} (w : World) (dT sT ty elem : TypeId) {i : TypeInfo} (b o dLen dCap : Nat) (a : Addr) (sLen sCap : Nat) (cs : List Value)
    (hu : P.underlying dT = some (.slice elem)) (hi : P.info? elem = some i) (hn : cs.length = Nat.min sLen dLen * i.size)
    (hsrc : ∀ j v, cs[j]? = some v → w.cell? (a.add j) = some v) (hc : ∀ j, j < cs.length → (w.cell? ⟨b, o + j, none⟩).isSome = true) (hf : ∀ j, j < cs.length → w.frozen? ⟨b, o + j, none⟩ = false) (h1 : ∀ v ∈ cs, v.oneCell' = true) :
    (Builtin.copy_ #[dT, sT] ty #[.slice (some ⟨b, o, none⟩) dLen dCap, .slice (some a) sLen sCap]).run P w = .ok (Go.goInt (Nat.min sLen dLen)) (w.setCells b o cs) := by
  have hl := run_loadCells_list (P := P) w a cs hsrc
  have hst := run_storeCells_cells (P := P) b o cs 0 w (by simpa using hc) (by simpa using hf) h1
  rw [hn] at hl
  simp [Builtin.copy_, run_underlying hu, Builtin.lenOf, Builtin.firstCells, sizeOf, typeInfo, hi, hl, hst]
theorem setL_eq (vs cs : List Value) (o : Nat) (h : o + vs.length ≤ cs.length) : setL cs o vs = cs.take o ++ vs ++ cs.drop (o + vs.length) := by
  apply List.ext_getElem?
  intro i
  by_cases h1 : i < o
  · rw [setL_get _ _ _ _ (.inl h1), List.append_assoc, List.getElem?_append_left (by rw [List.length_take]; omega), List.getElem?_take_of_lt h1]
  · by_cases h2 : i < o + vs.length
    · obtain ⟨q, rfl⟩ : ∃ q, i = o + q := ⟨i - o, by omega⟩
      rw [setL_in _ _ _ _ (by omega) h, List.append_assoc, List.getElem?_append_right (by rw [List.length_take]; omega), List.getElem?_append_left (by rw [List.length_take]; omega)]
      congr 1
      rw [List.length_take]
      omega
    · rw [setL_get _ _ _ _ (.inr (by omega)), List.getElem?_append_right (by rw [List.length_append, List.length_take]; omega), List.getElem?_drop]
      congr 1
      rw [List.length_append, List.length_take]
      omega
section
variable {P : Program} {W w : World} {S : List Own} {Φ : PW}
theorem Ctx.copyIn [Stable Φ] {p : Option Addr} {n cap : Nat} {cs : List Value} {t : TypeId} {size : Nat} (c : Ctx W w (.buf p n cap cs t size :: S) Φ) {b : Nat} (hp : p = some ⟨b, 0, none⟩) {dT sT ty : TypeId} {kb : Array Bool} {i : TypeInfo}
    (ht : P.underlying dT = some (.slice t)) (hi : P.info? t = some i) (hs : i.size = size) (hpos : 0 < size) {q : Option Addr} {d x c1 m c2 : Nat} {a : Addr} {news : List Value} (hq0 : ∃ o, q = some ⟨b, o, none⟩) (hq : 0 < x → q = some ⟨b, d * size, none⟩)
    (hd : d + x ≤ n) (hl : news.length = Nat.min m x * size) (hsrc : ∀ j v, news[j]? = some v → w.cell? (a.add j) = some v) (h1 : ∀ u ∈ news, oneC u = true) :
    ∃ w', Sem.run P (builtin Builtin.copy #[dT, sT] ty kb #[.slice q x c1, .slice (some a) m c2]) w = .ok (.value (.int .i64 ((Nat.min m x : Nat) : Int))) w' ∧ Ctx W w' (.buf p n cap (setL cs (d * size) news) t size :: S) Φ := by
  subst hs
  have h1' : ∀ u ∈ news, u.oneCell' = true := fun u hu => by have := h1 u hu; cases u <;> simp_all [oneC, Value.oneCell']
  obtain ⟨hcl, _, _⟩ := c.bufLen 0 rfl
  rcases Nat.eq_zero_or_pos x with h0 | h0
  · subst h0
    have hnil : news = [] := List.eq_nil_of_length_eq_zero (by rw [hl]; simp)
    subst hnil
    obtain ⟨o, rfl⟩ := hq0
    exact ⟨w, run_cpy (run_copyN w dT sT ty t b o 0 c1 a m c2 [] ht hi hl hsrc (fun j hj => by simp at hj) (fun j hj => by simp at hj) (by simp)), c⟩
  · rw [hq h0]
    have hle : Nat.min m x ≤ x := Nat.min_le_right _ _
    have hmul : Nat.min m x * i.size ≤ x * i.size := Nat.mul_le_mul_right _ hle
    have hnd : (d + x) * i.size ≤ n * i.size := Nat.mul_le_mul_right _ hd
    rw [Nat.add_mul] at hnd
    have hn0 : 0 < x * i.size := Nat.mul_pos h0 hpos
    obtain ⟨b', hb', _, hcell⟩ := c.bufCell 0 rfl (by omega)
    rw [hp] at hb'
    cases hb'
    have hat : ∀ j, (hj : j < news.length) → w.cell? ⟨b, d * i.size + j, none⟩ = some (cs[d * i.size + j]'(by omega)) ∧ w.frozen? ⟨b, d * i.size + j, none⟩ = false := fun j hj => hcell _ _ (List.getElem?_eq_getElem _)
    refine ⟨_, run_cpy (run_copyN w dT sT ty t b (d * i.size) x c1 a m c2 news ht hi hl hsrc (fun j hj => by rw [(hat j hj).1]; rfl) (fun j hj => (hat j hj).2) h1'), ?_⟩
    exact c.bufPuts 0 rfl hp (by omega) (by omega) rfl
theorem Ctx.extendB [Stable Φ] {p : Option Addr} {n cap : Nat} {cs : List Value} {t : TypeId} {size : Nat} (c : Ctx W w (.buf p n cap cs t size :: S) Φ) (h0 : 0 < cs.length) {m : Nat} (hm : n ≤ m) (hmc : m ≤ cap) :
    ∃ ex, ex.length = (m - n) * size ∧ Ctx W w (.buf p m cap (cs ++ ex) t size :: S) Φ := by
  obtain ⟨b, cur, hp, hb, htake, hnc, hcm, hcl, hl⟩ := c.bufBlk 0 rfl h0
  have hmul : m * size ≤ cap * size := Nat.mul_le_mul_right _ hmc
  have hmul2 : n * size ≤ m * size := Nat.mul_le_mul_right _ hm
  have hsub : (m - n) * size = m * size - n * size := Nat.sub_mul _ _ _
  have hex : cs ++ (cur.drop (n * size)).take ((m - n) * size) = cur.take (m * size) := by
    rw [← htake, show m * size = n * size + (m - n) * size by omega, List.take_add]
  refine ⟨(cur.drop (n * size)).take ((m - n) * size), by rw [List.length_take, List.length_drop]; omega, ?_⟩
  refine c.upd (k := 0) (o' := .buf p m cap (cs ++ (cur.drop (n * size)).take ((m - n) * size)) t size) rfl (Chg.refl _ _) (fun x hx => .inl (by subst hp; exact hx)) (by subst hp; simp [Own.dom]) ?_
  refine ⟨by rw [hex, List.length_take]; omega, .inr ⟨b, cap, cur.toArray, by rw [hp], Nat.zero_le _, hb, hmc, hcm, by simp [hcl], ?_⟩⟩
  rw [hex]
theorem Ctx.growZ [Stable Φ] {p : Option Addr} {n cap : Nat} {cs : List Value} {t : TypeId} {size bytes : Nat} (c : Ctx W w (.buf p n cap cs t size :: S) Φ) {b : Nat} (hp : p = some ⟨b, 0, none⟩) {ts tn ty : TypeId} {kb : Array Bool} (hb : appB P ts t size bytes = true) (htn : P.underlying tn = some (.int .i64))
    (j k : Nat) (h0 : 0 < k) (hj : j ≤ n) (hg : cap < j + k) (hk : j + k ≤ 1000000) (hpos : 0 < size) (hbytes : bytes ≤ 1000) :
    ∃ g cap' w' zs, Sem.run P (builtin Builtin.append #[ts, tn] ty kb #[.slice p j cap, .int .i64 (k : Int)]) w = .ok (.value (.slice (some ⟨g, 0, none⟩) (j + k) cap')) w' ∧ j + k ≤ cap' ∧ zs.length = k * size ∧
      Ctx W w' (.buf (some ⟨g, 0, none⟩) (j + k) cap' (cs.take (j * size) ++ zs) t size :: .buf p n cap cs t size :: S) Φ := by
  obtain ⟨i, z, e1, e2, e3, e4, e5, e6⟩ := appB_out hb
  subst e4
  obtain ⟨hcl, hnc, hcm0⟩ := c.bufLen 0 rfl
  have hjn : j * i.size ≤ n * i.size := Nat.mul_le_mul_right _ hj
  have hkb : k * i.bytes ≤ 1000000 * 1000 := Nat.mul_le_mul (by omega) (by omega)
  have hjkb : (j + k) * i.bytes ≤ 1000000 * 1000 := Nat.mul_le_mul hk (by omega)
  have hold : (Builtin.firstCells i.size j (.slice p j cap)).run P w.drew = .ok (cs.take (j * i.size)).toArray w.drew := by
    rw [hp]
    refine run_firstCells_some (w := w.drew) i.size j ⟨b, 0, none⟩ j cap (cs.take (j * i.size)) (by rw [List.length_take]; omega) fun q v hq => ?_
    have hlt : q < j * i.size := by have := (List.getElem?_eq_some_iff.1 hq).1; rw [List.length_take] at this; omega
    rw [List.getElem?_take_of_lt hlt] at hq
    rw [addr_add, Nat.zero_add]
    exact c.bufGet 0 rfl hp hq
  have hr := Go.Lib.run_append_grow_zeros (P := P) w ts tn ty t i z .i64 .i64 e1 htn e2 e3 p j cap (cs.take (j * i.size)) hold k h0 hpos hg (by omega) (by omega)
    (growslice_fits hg (by omega))
  have hge := grownCap_ge w (j + k) cap t
  have hcm : grownCap w (j + k) cap t ≤ maxLen := grownCap_le_maxLen w (j + k) cap t (by simp only [maxLen]; omega)
  obtain ⟨zs, hzs⟩ : ∃ zs : List Value, zs = (Builtin.zeroCells z.cells k).toList := ⟨_, rfl⟩
  have hzl : zs.length = k * i.size := by rw [hzs, Array.length_toList, size_zeroCells, e5]
  have h := (c.buf0 t i.size).upd (k := 0) (o' := .buf (some ⟨w.heap.size, 0, none⟩) (j + k) (grownCap w (j + k) cap t) (cs.take (j * i.size) ++ zs) t i.size) rfl
    (((Chg.refl _ _).drewN 1).alloc (.cells ((cs.take (j * i.size)).toArray ++ Builtin.zeroCells z.cells k ++ Builtin.zeroCells z.cells (grownCap w (j + k) cap t - (j + k))) t)) (by simp [Own.dom]) (by simp [Own.dom])
    ⟨by rw [List.length_append, hzl, List.length_take, Nat.add_mul]; omega, .inr ⟨w.heap.size, _, _, rfl, Nat.zero_le _, hp_alloc_new w.drew _, hge, hcm, by
      simp only [Array.size_append, size_zeroCells, e5, List.size_toArray, List.length_take]
      rw [Nat.min_eq_left (by omega), ← Nat.add_mul, ← Nat.add_mul]
      congr 1
      omega, by
      have el : ((cs.take (j * i.size)).toArray ++ Builtin.zeroCells z.cells k).toList = cs.take (j * i.size) ++ zs := by rw [hzs, Array.toList_append]
      have ell : (cs.take (j * i.size) ++ zs).length = (j + k) * i.size := by rw [List.length_append, hzl, List.length_take, Nat.add_mul]; omega
      rw [Array.toList_append, el, List.take_append_of_le_length (by omega), List.take_of_length_le (by omega)]⟩⟩
  exact ⟨_, _, _, zs, run_app hr, hge, hzl, h⟩
end
theorem subPtr_at (b sz k c : Nat) (h : k < c) : subPtr (some ⟨b, 0, none⟩) sz k c = some ⟨b, k * sz, none⟩ := by
  unfold subPtr
  rw [if_neg (by omega)]
  show some ((⟨b, 0, none⟩ : Addr).add (k * sz)) = _
  rw [addr_add, Nat.zero_add]
theorem subPtr_ex (b sz k c : Nat) : ∃ o, subPtr (some ⟨b, 0, none⟩) sz k c = some ⟨b, o, none⟩ := by
  unfold subPtr
  split
  · exact ⟨0, rfl⟩
  · refine ⟨k * sz, ?_⟩
    show some ((⟨b, 0, none⟩ : Addr).add (k * sz)) = _
    rw [addr_add, Nat.zero_add]
theorem subPtr_zero (b sz c : Nat) : subPtr (some ⟨b, 0, none⟩) sz 0 c = some ⟨b, 0, none⟩ := by
  unfold subPtr
  split
  · rfl
  · show some ((⟨b, 0, none⟩ : Addr).add (0 * sz)) = _
    rw [addr_add, Nat.zero_mul]
theorem setL_mid (a b c v : List Value) (h : v.length = b.length) : setL (a ++ b ++ c) a.length v = a ++ v ++ c := by
  rw [setL_eq _ _ _ (by simp only [List.length_append]; omega), List.append_assoc a b c, List.take_left' rfl, h, ← List.length_append, ← List.append_assoc, List.drop_left' rfl]
structure InsF (P : Program) (sz : Nat) (ts tv ti t : TypeId) (bytes : Nat) (fo : FuncId) : Prop where
  app : appB P ts t sz bytes = true
  var : P.underlying tv = some (.slice t)
  int : P.underlying ti = some (.int .i64)
  byt : bytes ≤ 1000
  pos : 0 < sz
  over : ∃ fn tr, P.funcs[fo]? = some fn ∧ (fn.name == "runtime.NumGoroutine") = false ∧ fn.body.isNone = true ∧ (Extern.findNext fn).isNone = true ∧ Extern.find fn = some (Extern.SlicesOverlaps.overlaps #[tv, tv] #[tr])
def insB (P : Program) (sz : Nat) (ts tv ti : TypeId) (fo fr : FuncId) (sP : Option Addr) (sN sC : Nat) (i : Int) (vP : Option Addr) (vN vC : Nat) (W : World) (R : List Own) (Φ : PW) (J : Value → World → Prop) : Prop :=
  (0 ≤ i ∧ i ≤ (↑sN : Int) ∧ sN ≤ sC) ∧ Br (decide ((↑vN : Int) = 0)) (∀ (w0 : World) (R1 : List Own), Ctx W w0 (R ++ R1) Φ → J (Value.slice sP sN sC) w0) (Br (decide (i = (↑sN :
  Int))) (∀ (w2 : World) (R3 : List Own), Ctx W w2 (R ++ R3) Φ → ∃ (p4 : Option Addr), ∃ (k5 : Nat), ∃ (k6 : Nat), ∃ (w7 : World), Sem.run P (builtin Builtin.append #[ts, tv] ts
  #[false, false] #[Value.slice sP sN sC, Value.slice vP vN vC]) w2 = Result.ok (Next.value (Value.slice p4 k5 k6)) w7 ∧ ∃ (R8 : List Own), ∃ (Φ9 : PW), Stable Φ9 ∧ Ctx W w7 (R8 ++
  R3) Φ9 ∧ ∀ (w10 : World) (R11 : List Own), Ctx W w10 (R8 ++ R11) Φ9 → J (Value.slice p4 k5 k6) w10) (I64 ((↑sN : Int) + (↑vN : Int)) ∧ Br (decide ((↑sC : Int) < (↑sN : Int) + (↑vN :
  Int))) ((0 ≤ i ∧ i ≤ (↑sC : Int)) ∧ I64 ((↑sN : Int) + (↑vN : Int)) ∧ I64 ((↑sN : Int) + (↑vN : Int) - i) ∧ ∀ (w12 : World) (R13 : List Own), Ctx W w12 (R ++ R13) Φ → ∃ (p14 :
  Option Addr), ∃ (k15 : Nat), ∃ (k16 : Nat), ∃ (w17 : World), Sem.run P (builtin Builtin.append #[ts, ti] ts #[false, false] #[Value.slice (subPtr sP sz 0 sC) i.toNat sC, Value.int
  IntKind.i64 ((↑sN : Int) + (↑vN : Int) - i)]) w12 = Result.ok (Next.value (Value.slice p14 k15 k16)) w17 ∧ ∃ (R18 : List Own), ∃ (Φ19 : PW), Stable Φ19 ∧ Ctx W w17 (R18 ++ R13) Φ19
  ∧ (0 ≤ i ∧ i ≤ (↑k15 : Int) ∧ k15 ≤ k16) ∧ ∀ (w20 : World) (R21 : List Own), Ctx W w20 (R18 ++ R21) Φ19 → ∃ (n22 : Int), ∃ (w23 : World), Sem.run P (builtin Builtin.copy #[ts, tv]
  ti #[false, false] #[Value.slice (subPtr p14 sz i.toNat k16) (k15 - i.toNat) (k16 - i.toNat), Value.slice vP vN vC]) w20 = Result.ok (Next.value (Value.int IntKind.i64 n22)) w23 ∧ ∃
  (R24 : List Own), ∃ (Φ25 : PW), Stable Φ25 ∧ Ctx W w23 (R24 ++ R21) Φ25 ∧ ∃ (R26 : List Own), ∃ (Φ27 : PW), Stable Φ27 ∧ (∀ (w28 : World) (R29 : List Own), Ctx W w28 (R24 ++ R29)
  Φ25 → Ctx W w28 (R26 ++ R29) Φ27) ∧ I64 (i + (↑vN : Int)) ∧ (0 ≤ i ∧ i ≤ (↑sN : Int) ∧ sN ≤ sC) ∧ (0 ≤ i + (↑vN : Int) ∧ i + (↑vN : Int) ≤ (↑k15 : Int) ∧ k15 ≤ k16) ∧ ∀ (w30 :
  World) (R31 : List Own), Ctx W w30 (R24 ++ R31) Φ25 → ∃ (n32 : Int), ∃ (w33 : World), Sem.run P (builtin Builtin.copy #[ts, ts] ti #[false, false] #[Value.slice (subPtr p14 sz (i +
  (↑vN : Int)).toNat k16) (k15 - (i + (↑vN : Int)).toNat) (k16 - (i + (↑vN : Int)).toNat), Value.slice (subPtr sP sz i.toNat sC) (sN - i.toNat) (sC - i.toNat)]) w30 = Result.ok
  (Next.value (Value.int IntKind.i64 n32)) w33 ∧ ∃ (R34 : List Own), ∃ (Φ35 : PW), Stable Φ35 ∧ Ctx W w33 (R34 ++ R31) Φ35 ∧ ∀ (w36 : World) (R37 : List Own), Ctx W w36 (R34 ++ R37)
  Φ35 → J (Value.slice p14 k15 k16) w36) (I64 ((↑sN : Int) + (↑vN : Int)) ∧ (0 ≤ (↑sN : Int) + (↑vN : Int) ∧ (↑sN : Int) + (↑vN : Int) ≤ (↑sC : Int)) ∧ I64 (i + (↑vN : Int)) ∧ (0 ≤ i
  + (↑vN : Int) ∧ i + (↑vN : Int) ≤ (↑((↑sN : Int) + (↑vN : Int)).toNat : Int) ∧ ((↑sN : Int) + (↑vN : Int)).toNat ≤ sC) ∧ ∀ (w38 : World) (R39 : List Own), Ctx W w38 (R ++ R39) Φ → ∃
  (c40 : Bool), ∃ (w41 : World), Sem.run P (callFunc fo #[Value.slice vP vN vC, Value.slice (subPtr (subPtr sP sz 0 sC) sz (i + (↑vN : Int)).toNat sC) (((↑sN : Int) + (↑vN :
  Int)).toNat - (i + (↑vN : Int)).toNat) (sC - (i + (↑vN : Int)).toNat)]) w38 = Result.ok (Next.value (Value.bool c40)) w41 ∧ ∃ (R42 : List Own), ∃ (Φ43 : PW), Stable Φ43 ∧ Ctx W w41
  (R42 ++ R39) Φ43 ∧ Br (!c40) (∃ (R44 : List Own), ∃ (Φ45 : PW), Stable Φ45 ∧ (∀ (w46 : World) (R47 : List Own), Ctx W w46 (R42 ++ R47) Φ43 → Ctx W w46 (R44 ++ R47) Φ45) ∧ I64 (i +
  (↑vN : Int)) ∧ (0 ≤ i ∧ i ≤ (↑((↑sN : Int) + (↑vN : Int)).toNat : Int) ∧ ((↑sN : Int) + (↑vN : Int)).toNat ≤ sC) ∧ (0 ≤ i + (↑vN : Int) ∧ i + (↑vN : Int) ≤ (↑((↑sN : Int) + (↑vN :
  Int)).toNat : Int) ∧ ((↑sN : Int) + (↑vN : Int)).toNat ≤ sC) ∧ ∀ (w48 : World) (R49 : List Own), Ctx W w48 (R42 ++ R49) Φ43 → ∃ (n50 : Int), ∃ (w51 : World), Sem.run P (builtin
  Builtin.copy #[ts, ts] ti #[false, false] #[Value.slice (subPtr (subPtr sP sz 0 sC) sz (i + (↑vN : Int)).toNat sC) (((↑sN : Int) + (↑vN : Int)).toNat - (i + (↑vN : Int)).toNat) (sC
  - (i + (↑vN : Int)).toNat), Value.slice (subPtr (subPtr sP sz 0 sC) sz i.toNat sC) (((↑sN : Int) + (↑vN : Int)).toNat - i.toNat) (sC - i.toNat)]) w48 = Result.ok (Next.value
  (Value.int IntKind.i64 n50)) w51 ∧ ∃ (R52 : List Own), ∃ (Φ53 : PW), Stable Φ53 ∧ Ctx W w51 (R52 ++ R49) Φ53 ∧ (0 ≤ i ∧ i ≤ (↑((↑sN : Int) + (↑vN : Int)).toNat : Int) ∧ ((↑sN : Int)
  + (↑vN : Int)).toNat ≤ sC) ∧ ∀ (w54 : World) (R55 : List Own), Ctx W w54 (R52 ++ R55) Φ53 → ∃ (n56 : Int), ∃ (w57 : World), Sem.run P (builtin Builtin.copy #[ts, tv] ti #[false,
  false] #[Value.slice (subPtr (subPtr sP sz 0 sC) sz i.toNat sC) (((↑sN : Int) + (↑vN : Int)).toNat - i.toNat) (sC - i.toNat), Value.slice vP vN vC]) w54 = Result.ok (Next.value
  (Value.int IntKind.i64 n56)) w57 ∧ ∃ (R58 : List Own), ∃ (Φ59 : PW), Stable Φ59 ∧ Ctx W w57 (R58 ++ R55) Φ59 ∧ ∀ (w60 : World) (R61 : List Own), Ctx W w60 (R58 ++ R61) Φ59 → J
  (Value.slice (subPtr sP sz 0 sC) ((↑sN : Int) + (↑vN : Int)).toNat sC) w60) ((0 ≤ (↑sN : Int) ∧ (↑sN : Int) ≤ (↑((↑sN : Int) + (↑vN : Int)).toNat : Int) ∧ ((↑sN : Int) + (↑vN :
  Int)).toNat ≤ sC) ∧ ∀ (w62 : World) (R63 : List Own), Ctx W w62 (R42 ++ R63) Φ43 → ∃ (n64 : Int), ∃ (w65 : World), Sem.run P (builtin Builtin.copy #[ts, tv] ti #[false, false]
  #[Value.slice (subPtr (subPtr sP sz 0 sC) sz (↑sN : Int).toNat sC) (((↑sN : Int) + (↑vN : Int)).toNat - (↑sN : Int).toNat) (sC - (↑sN : Int).toNat), Value.slice vP vN vC]) w62 =
  Result.ok (Next.value (Value.int IntKind.i64 n64)) w65 ∧ ∃ (R66 : List Own), ∃ (Φ67 : PW), Stable Φ67 ∧ Ctx W w65 (R66 ++ R63) Φ67 ∧ (0 ≤ i ∧ i ≤ (↑((↑sN : Int) + (↑vN : Int)).toNat
  : Int) ∧ ((↑sN : Int) + (↑vN : Int)).toNat ≤ sC) ∧ ∀ (w68 : World) (R69 : List Own), Ctx W w68 (R66 ++ R69) Φ67 → Calls P fr #[Value.slice (subPtr (subPtr sP sz 0 sC) sz i.toNat sC)
  (((↑sN : Int) + (↑vN : Int)).toNat - i.toNat) (sC - i.toNat), Value.int IntKind.i64 (↑vN : Int)] w68 fun (e70 : Ending) (w71 : World) => e70 = Ending.returned (Value.tuple #[]) ∧ ∃
  (R72 : List Own), ∃ (Φ73 : PW), Stable Φ73 ∧ Ctx W w71 (R72 ++ R69) Φ73 ∧ ∀ (w74 : World) (R75 : List Own), Ctx W w74 (R72 ++ R75) Φ73 → J (Value.slice (subPtr sP sz 0 sC) ((↑sN :
  Int) + (↑vN : Int)).toNat sC) w74))))
theorem run_over {P : Program} {sz : Nat} {ts tv ti t : TypeId} {bytes : Nat} {fo : FuncId} (hF : InsF P sz ts tv ti t bytes fo) (w : World) (a b : Addr) (la ca lb cb : Nat) (hne : a.block ≠ b.block) (tA tB : TypeId) (kA kB : Nat)
    (hsa : w.shape? a.block = some (tA, kA)) (hsb : w.shape? b.block = some (tB, kB)) (hkB : kB ≠ 0) (hfa : w.frozen? a = false) (hfe : w.frozen? { block := a.block, off := kA } = false) :
    Sem.run P (callFunc fo #[.slice (some a) la ca, .slice (some b) lb cb]) w = .ok (.value (.bool false)) w := by
  obtain ⟨fn, tr, h1, h2, h3, h4, h5⟩ := hF.over
  obtain ⟨i, z, e1, e2, e3, e4, e5, e6⟩ := appB_out hF.app
  have hs : ∀ w, (Go.sizeOf t).run P w = .ok i.size w := fun w => run_sizeOf e2
  rw [run_callFunc_extern h1 h2 h3 (by simpa using h4) h5, Go.Lib.run_overlaps_apart w tv tr t hF.var i.size hs a b la ca lb cb hne tA tB kA kB hsa hsb hkB hfa hfe]
  rfl
section
variable {P : Program} {W w : World} {S : List Own} {Φ : PW}
set_option maxHeartbeats 4000000 in
theorem insB_one [Stable Φ] {sz : Nat} {ts tv ti t : TypeId} {bytes : Nat} {fo fr : FuncId} (hF : InsF P sz ts tv ti t bytes fo) {p : Option Addr} {n cap : Nat} {cs : List Value} {i : Nat} (hi : i ≤ n) {vb : Nat} {tvb : TypeId} {vs : List Value}
    (hvl : vs.length = sz) (h1v : ∀ u ∈ vs, oneC u = true) (h1c : ∀ u ∈ cs, oneC u = true) (hn : n ≤ 100000) (hnc : n ≤ cap) (hcm : cap ≤ maxLen) (hp : 0 < n → ∃ b, p = some ⟨b, 0, none⟩) (hcl : cs.length = n * sz) {J : Value → World → Prop}
    (hJ : ∀ p' cap' w G, Ctx W w ((.buf p' (n + 1) cap' (cs.take (i * sz) ++ vs ++ cs.drop (i * sz)) t sz :: .blk vb vs tvb :: S) ++ G) Φ → J (.slice p' (n + 1) cap') w) :
    insB P sz ts tv ti fo fr p n cap i (some ⟨vb, 0, none⟩) 1 1 W (.buf p n cap cs t sz :: .blk vb vs tvb :: S) Φ J := by
  obtain ⟨ie, z, e1, e2, e3, e4, e5, e6⟩ := appB_out hF.app
  have hpos := hF.pos
  have hbyt := hF.byt
  have hin : i * sz ≤ n * sz := Nat.mul_le_mul_right _ hi
  have hby : (n + 1) * ie.bytes ≤ 200000 * 1000 := Nat.mul_le_mul (by omega) (by omega)
  have hTl : (cs.take (i * sz)).length = i * sz := by rw [List.length_take]; omega
  have hDl : (cs.drop (i * sz)).length = (n - i) * sz := by rw [List.length_drop, hcl, Nat.sub_mul]
  have hm1 : ∀ a b : Nat, a ≤ b → Nat.min a b = a := fun a b h => Nat.min_eq_left h
  have hm2 : ∀ a b : Nat, b ≤ a → Nat.min a b = b := fun a b h => Nat.min_eq_right h
  unfold insB
  refine ⟨⟨by omega, by omega, by omega⟩, Br.intro (fun h => absurd (of_decide_eq_true h) (by omega)) (fun _ => Br.intro (fun hin => fun w G cx => ?_) (fun hin => ⟨by unfold I64; omega, ?_⟩))⟩
  · have hin : i = n := by have := of_decide_eq_true hin; omega
    obtain ⟨p', cap', w', h2, c'⟩ := cx.append 0 rfl (ty := ts) e1 e2 e3 e4 e5 (a := ⟨vb, 0, none⟩) (m := 1) (c2 := 1) (news := vs) (by omega) (by rw [hvl, Nat.one_mul]) (fun j u hj => by rw [addr_add, Nat.zero_add]; exact cx.get 1 rfl hj) h1v (by omega) (by omega)
    refine ⟨p', n + 1, cap', w', run_app ((append_tv e1 hF.var e2).trans h2), .buf p' (n + 1) cap' (cs ++ vs) t sz :: .blk vb vs tvb :: S, Φ, inferInstance, c', fun w G cx => hJ p' cap' w G ?_⟩
    rw [hin, List.take_of_length_le (by omega), List.drop_of_length_le (by omega), List.append_nil]
    exact cx
  have hlt : i < n := by have := of_decide_eq_false hin; omega
  obtain ⟨b, rfl⟩ := hp (by omega)
  have t1 : ((i : Int)).toNat = i := Int.toNat_natCast i
  have t2 : ((n : Int) + ((1 : Nat) : Int)).toNat = n + 1 := by omega
  have t3 : ((i : Int) + ((1 : Nat) : Int)).toNat = i + 1 := by omega
  have t4 : (n : Int) + ((1 : Nat) : Int) - (i : Int) = ((n + 1 - i : Nat) : Int) := by omega
  simp only [t1, t2, t3, t4, subPtr_zero]
  refine Br.intro (fun hg => ⟨⟨by omega, by omega⟩, by unfold I64; omega, by unfold I64; omega, fun w G cx => ?_⟩) (fun hg => ⟨by unfold I64; omega, ⟨by omega, by have := of_decide_eq_false hg; omega⟩, by unfold I64; omega, ⟨by omega, by omega, by have := of_decide_eq_false hg; omega⟩, fun w G cx => ?_⟩)
  · -- a new slice
    have hg : cap < n + 1 := by have := of_decide_eq_true hg; omega
    obtain ⟨g, cap', w', zs, hrun, hge, hzl, cx1⟩ := cx.growZ rfl (ty := ts) (kb := #[false, false]) hF.app hF.int i (n + 1 - i) (by omega) (by omega) (by omega) (by omega) hpos hbyt
    have en : i + (n + 1 - i) = n + 1 := by omega
    rw [en] at hrun hge cx1
    refine ⟨_, _, _, w', hrun, .buf (some ⟨g, 0, none⟩) (n + 1) cap' (cs.take (i * sz) ++ zs) t sz :: .buf (some ⟨b, 0, none⟩) n cap cs t sz :: .blk vb vs tvb :: S, Φ, inferInstance, cx1, ⟨by omega, by omega, by omega⟩, fun w G cx => ?_⟩
    clear cx1 hrun
    have ez : zs = zs.take sz ++ zs.drop sz := (List.take_append_drop _ _).symm
    have hzl2 : (zs.take sz).length = sz := by
      rw [List.length_take, hzl]
      have : 1 * sz ≤ (n + 1 - i) * sz := Nat.mul_le_mul_right _ (by omega)
      omega
    have hzl3 : (zs.drop sz).length = (n - i) * sz := by rw [List.length_drop, hzl, show n + 1 - i = (n - i) + 1 by omega, Nat.add_mul]; omega
    have c1 : setL (cs.take (i * sz) ++ zs) (i * sz) vs = cs.take (i * sz) ++ vs ++ zs.drop sz := by
      have := setL_mid (cs.take (i * sz)) (zs.take sz) (zs.drop sz) vs (by omega)
      rw [hTl, List.append_assoc _ (zs.take sz), ← ez] at this
      exact this
    have c2 : setL (cs.take (i * sz) ++ vs ++ zs.drop sz) ((i + 1) * sz) (cs.drop (i * sz)) = cs.take (i * sz) ++ vs ++ cs.drop (i * sz) := by
      have := setL_mid (cs.take (i * sz) ++ vs) (zs.drop sz) [] (cs.drop (i * sz)) (by omega)
      rw [List.append_nil, List.append_nil, List.length_append, hTl, hvl] at this
      rw [Nat.add_mul, Nat.one_mul]
      exact this
    obtain ⟨w2, hr2, cx2⟩ := cx.copyIn rfl (sT := tv) (ty := ti) (kb := #[false, false]) e1 e2 e4 hpos (q := subPtr (some ⟨g, 0, none⟩) sz i cap') (d := i) (x := n + 1 - i) (c1 := cap' - i) (m := 1) (c2 := 1) (a := ⟨vb, 0, none⟩) (news := vs) (subPtr_ex _ _ _ _) (fun _ => subPtr_at _ _ _ _ (by omega)) (by omega)
      (by rw [hvl, hm1 _ _ (by omega), Nat.one_mul]) (fun j u hj => by rw [addr_add, Nat.zero_add]; exact cx.get 2 rfl hj) h1v
    rw [c1] at cx2
    refine ⟨_, w2, hr2, .buf (some ⟨g, 0, none⟩) (n + 1) cap' (cs.take (i * sz) ++ vs ++ zs.drop sz) t sz :: .buf (some ⟨b, 0, none⟩) n cap cs t sz :: .blk vb vs tvb :: S, Φ, inferInstance, cx2, _, Φ, inferInstance, fun w G cx => cx, by unfold I64; omega, ⟨by omega, by omega, by omega⟩, ⟨by omega, by omega, by omega⟩, fun w G cx => ?_⟩
    clear cx2 hr2
    obtain ⟨w3, hr3, cx3⟩ := cx.copyIn rfl (sT := ts) (ty := ti) (kb := #[false, false]) e1 e2 e4 hpos (q := subPtr (some ⟨g, 0, none⟩) sz (i + 1) cap') (d := i + 1) (x := n + 1 - (i + 1)) (c1 := cap' - (i + 1)) (m := n - i) (c2 := cap - i) (a := ⟨b, i * sz, none⟩) (news := cs.drop (i * sz)) (subPtr_ex _ _ _ _) (fun _ => subPtr_at _ _ _ _ (by omega)) (by omega)
      (by rw [hDl, hm1 _ _ (by omega)]) (fun j u hj => by rw [List.getElem?_drop] at hj; rw [addr_add]; exact cx.bufGet 1 rfl rfl hj) (fun u hu => h1c u (List.mem_of_mem_drop hu))
    rw [c2] at cx3
    rw [subPtr_at b sz i cap (by omega)]
    refine ⟨_, w3, hr3, .buf (some ⟨g, 0, none⟩) (n + 1) cap' (cs.take (i * sz) ++ vs ++ cs.drop (i * sz)) t sz :: .buf (some ⟨b, 0, none⟩) n cap cs t sz :: .blk vb vs tvb :: S, Φ, inferInstance, cx3, fun w G cx => hJ _ _ w G ?_⟩
    exact cx.sub (List.Sublist.cons_cons _ (List.sublist_cons_self _ _))
  · -- in place
    have hg : n + 1 ≤ cap := by have := of_decide_eq_false hg; omega
    have h0 : 0 < cs.length := by rw [hcl]; exact Nat.mul_pos (by omega) hpos
    obtain ⟨b', cur, hb', hblk, _, _, _, hcur, _⟩ := cx.bufBlk 0 rfl h0
    cases hb'
    have hvblk := cx.blk 1 rfl
    have hne : vb ≠ b := fun e => by
      have := cx.nodup
      subst e
      simp [dom, Own.dom] at this
    obtain ⟨o2, ho2⟩ := subPtr_ex b sz (i + 1) cap
    have hov := run_over hF w ⟨vb, 0, none⟩ ⟨b, o2, none⟩ 1 1 (n + 1 - (i + 1)) (cap - (i + 1)) hne tvb t vs.length cur.length (by have := hvblk; unfold Blk at this; simp [World.shape?, this]) (by have := hblk; unfold Blk at this; simp [World.shape?, this])
      (by rw [hcur]; exact Nat.ne_of_gt (Nat.mul_pos (by omega) hpos)) (hvblk.frozen 0) (hvblk.frozen _)
    rw [ho2]
    refine ⟨_, w, hov, .buf (some ⟨b, 0, none⟩) n cap cs t sz :: .blk vb vs tvb :: S, Φ, inferInstance, cx, Br.intro (fun _ => ⟨_, Φ, inferInstance, fun w G cx => cx, by unfold I64; omega, ⟨by omega, by omega, by omega⟩, ⟨by omega, by omega, by omega⟩, fun w G cx => ?_⟩) (fun h => by cases h)⟩
    clear hov hblk hvblk
    obtain ⟨ex, hex, cx1⟩ := cx.extendB h0 (m := n + 1) (by omega) hg
    rw [show n + 1 - n = 1 by omega, Nat.one_mul] at hex
    have hal : (cs ++ ex).length = (n + 1) * sz := by rw [List.length_append, hcl, hex, Nat.add_mul, Nat.one_mul]
    have hi1 : (i + 1) * sz ≤ n * sz := Nat.mul_le_mul_right _ (by omega)
    have eX : (cs ++ ex).take ((i + 1) * sz) = cs.take (i * sz) ++ (cs.drop (i * sz)).take sz := by
      rw [List.take_append_of_le_length (by omega), Nat.add_mul, Nat.one_mul, List.take_add]
    have c1 : setL (cs ++ ex) ((i + 1) * sz) (cs.drop (i * sz)) = cs.take (i * sz) ++ (cs.drop (i * sz)).take sz ++ cs.drop (i * sz) := by
      have hX : ((cs ++ ex).take ((i + 1) * sz)).length = (i + 1) * sz := by rw [List.length_take, hal, Nat.add_mul n]; omega
      have hY : ((cs ++ ex).drop ((i + 1) * sz)).length = (n - i) * sz := by rw [List.length_drop, hal, ← Nat.sub_mul]; congr 1; omega
      have := setL_mid ((cs ++ ex).take ((i + 1) * sz)) ((cs ++ ex).drop ((i + 1) * sz)) [] (cs.drop (i * sz)) (by omega)
      rw [List.append_nil, List.append_nil, List.take_append_drop, hX, eX] at this
      exact this
    have c2 : setL (cs.take (i * sz) ++ (cs.drop (i * sz)).take sz ++ cs.drop (i * sz)) (i * sz) vs = cs.take (i * sz) ++ vs ++ cs.drop (i * sz) := by
      have hY : ((cs.drop (i * sz)).take sz).length = sz := by
        rw [List.length_take, hDl]
        have : 1 * sz ≤ (n - i) * sz := Nat.mul_le_mul_right _ (by omega)
        omega
      have := setL_mid (cs.take (i * sz)) ((cs.drop (i * sz)).take sz) (cs.drop (i * sz)) vs (by omega)
      rw [hTl] at this
      exact this
    obtain ⟨w2, hr2, cx2⟩ := cx1.copyIn rfl (sT := ts) (ty := ti) (kb := #[false, false]) e1 e2 e4 hpos (q := some ⟨b, o2, none⟩) (d := i + 1) (x := n + 1 - (i + 1)) (c1 := cap - (i + 1)) (m := n + 1 - i) (c2 := cap - i) (a := ⟨b, i * sz, none⟩) (news := cs.drop (i * sz)) ⟨o2, rfl⟩ (fun _ => by rw [← ho2]; exact subPtr_at _ _ _ _ (by omega)) (by omega)
      (by rw [hDl, hm2 _ _ (by omega)]; congr 1; omega) (fun j u hj => by
        rw [List.getElem?_drop] at hj
        rw [addr_add]
        exact cx1.bufGet 0 rfl rfl (by rw [List.getElem?_append_left (List.getElem?_eq_some_iff.1 hj).1]; exact hj)) (fun u hu => h1c u (List.mem_of_mem_drop hu))
    rw [c1] at cx2
    rw [subPtr_at b sz i cap (by omega)]
    refine ⟨_, w2, hr2, .buf (some ⟨b, 0, none⟩) (n + 1) cap (cs.take (i * sz) ++ (cs.drop (i * sz)).take sz ++ cs.drop (i * sz)) t sz :: .blk vb vs tvb :: S, Φ, inferInstance, cx2, ⟨by omega, by omega, by omega⟩, fun w G cx => ?_⟩
    clear cx2 hr2 cx1
    obtain ⟨w3, hr3, cx3⟩ := cx.copyIn rfl (sT := tv) (ty := ti) (kb := #[false, false]) e1 e2 e4 hpos (q := some ⟨b, i * sz, none⟩) (d := i) (x := n + 1 - i) (c1 := cap - i) (m := 1) (c2 := 1) (a := ⟨vb, 0, none⟩) (news := vs) ⟨_, rfl⟩ (fun _ => rfl) (by omega)
      (by rw [hvl, hm1 _ _ (by omega), Nat.one_mul]) (fun j u hj => by rw [addr_add, Nat.zero_add]; exact cx.get 1 rfl hj) h1v
    rw [c2] at cx3
    exact ⟨_, w3, hr3, .buf (some ⟨b, 0, none⟩) (n + 1) cap (cs.take (i * sz) ++ vs ++ cs.drop (i * sz)) t sz :: .blk vb vs tvb :: S, Φ, inferInstance, cx3, fun w G cx => hJ _ _ w G cx⟩
end
theorem run_clr {P : Program} {ats : Array TypeId} {ty : TypeId} {cs : Array Bool} {args : Array Value} {v : Value} {w w' : World} (h : (Builtin.clear_ ats ty args).run P w = .ok v w') : Sem.run P (builtin Builtin.clear ats ty cs args) w = .ok (.value v) w' := by
  unfold builtin
  simp only [Sem.run_bind, h, Result.andThen, Sem.run_pure]
theorem run_clearN {P : Program} (w : World) (t e ty : TypeId) {i : TypeInfo} {z : Value} (ht : P.underlying t = some (.slice e)) (hi : P.info? e = some i) (hz : i.zero = some z) (b o n c : Nat) (hn : 0 < n)
    (hc : ∀ j, j < (Builtin.zeroCells z.cells n).toList.length → (w.cell? ⟨b, o + j, none⟩).isSome = true) (hf : ∀ j, j < (Builtin.zeroCells z.cells n).toList.length → w.frozen? ⟨b, o + j, none⟩ = false) (h1 : ∀ v ∈ (Builtin.zeroCells z.cells n).toList, v.oneCell' = true) :
    (Builtin.clear_ #[t] ty #[.slice (some ⟨b, o, none⟩) n c]).run P w = .ok (.tuple #[]) (w.setCells b o (Builtin.zeroCells z.cells n).toList) := by
  have hst := run_storeCells_cells (P := P) b o (Builtin.zeroCells z.cells n).toList 0 w (by simpa using hc) (by simpa using hf) h1
  rw [Nat.add_zero] at hst
  obtain ⟨m, rfl⟩ : ∃ m, n = m + 1 := ⟨n - 1, by omega⟩
  simp [Builtin.clear_, run_underlying ht, zeroValue, typeInfo, hi, hz, hst]
def zeroB (P : Program) (t : TypeId) : Bool := match P.info? t with | some i => (match i.zero with | some z => z.cells.toList.all (fun u => Value.oneCell' u) | none => false) | none => false
theorem zeroCells_mem (cs : Array Value) (n : Nat) : ∀ v ∈ (Builtin.zeroCells cs n).toList, v ∈ cs.toList := by
  intro v hv
  unfold Builtin.zeroCells at hv
  rw [Array.toList_map] at hv
  obtain ⟨a, ha, rfl⟩ := List.mem_map.1 hv
  have ha : a < n * cs.size := by simpa using ha
  have h0 : 0 < cs.size := by
    rcases Nat.eq_zero_or_pos cs.size with h | h
    · rw [h, Nat.mul_zero] at ha; omega
    · exact h
  have hlt : a % cs.size < cs.size := Nat.mod_lt _ h0
  rw [getElem!_pos cs (a % cs.size) hlt]
  exact Array.getElem_mem_toList hlt
section
variable {P : Program} {W w : World} {S : List Own} {Φ : PW}
theorem Ctx.shrinkB [Stable Φ] {p : Option Addr} {n cap : Nat} {cs : List Value} {t : TypeId} {size : Nat} (c : Ctx W w (.buf p n cap cs t size :: S) Φ) {k : Nat} (hk : k ≤ n) : Ctx W w (.buf p k cap (cs.take (k * size)) t size :: S) Φ := by
  have hown := c.own _ List.mem_cons_self
  have hmul : k * size ≤ n * size := Nat.mul_le_mul_right _ hk
  refine c.upd (k := 0) (o' := .buf p k cap (cs.take (k * size)) t size) rfl (Chg.refl _ _) (fun x hx => .inl (by cases p <;> exact hx)) (Own.nodup _) ?_
  obtain ⟨h1, h2⟩ := hown
  refine ⟨by rw [List.length_take, h1]; omega, ?_⟩
  rcases h2 with ⟨e, rfl⟩ | ⟨g, cap', cur, e, h3, hg, hnc, hcm, hcs, htake⟩
  · cases e
    have : k = 0 := by omega
    subst this
    exact .inl ⟨rfl, by simp⟩
  · cases e
    exact .inr ⟨g, cap, cur, rfl, h3, hg, by omega, hcm, hcs, by rw [← htake, List.take_take, Nat.min_eq_left hmul]⟩
theorem Ctx.clearB [Stable Φ] {p : Option Addr} {n cap : Nat} {cs : List Value} {t : TypeId} {size bytes : Nat} (c : Ctx W w (.buf p n cap cs t size :: S) Φ) {b : Nat} (hp : p = some ⟨b, 0, none⟩) {ts ty : TypeId} {kb : Array Bool} (hb : appB P ts t size bytes = true) (hz : zeroB P t = true) (hpos : 0 < size)
    {k : Nat} (hk : k ≤ n) : ∃ w', Sem.run P (builtin Builtin.clear #[ts] ty kb #[.slice (subPtr p size k cap) (n - k) (cap - k)]) w = .ok (.value (.tuple #[])) w' ∧ Ctx W w' (.buf p k cap (cs.take (k * size)) t size :: S) Φ := by
  obtain ⟨i, z, e1, e2, e3, e4, e5, e6⟩ := appB_out hb
  subst hp e4
  have hz : z.cells.toList.all (fun u => Value.oneCell' u) = true := by unfold zeroB at hz; rw [e2] at hz; simp only [e3] at hz; exact hz
  obtain ⟨hcl, hnc, hcm⟩ := c.bufLen 0 rfl
  rcases Nat.eq_zero_or_pos (n - k) with h0 | h0
  · obtain ⟨o, ho⟩ := subPtr_ex b i.size k cap
    rw [h0, ho]
    exact ⟨w, run_clr (by simp [Builtin.clear_, run_underlying e1]), c.shrinkB hk⟩
  · rw [subPtr_at b i.size k cap (by omega)]
    have hzl : (Builtin.zeroCells z.cells (n - k)).toList.length = (n - k) * i.size := by rw [Array.length_toList, size_zeroCells, e5]
    have hsub : (n - k) * i.size = n * i.size - k * i.size := Nat.sub_mul _ _ _
    have hmul : k * i.size ≤ n * i.size := Nat.mul_le_mul_right _ hk
    have hn0 : 0 < (n - k) * i.size := Nat.mul_pos h0 hpos
    obtain ⟨b', hb', _, hcell⟩ := c.bufCell 0 rfl (by omega)
    cases hb'
    have hat : ∀ j, (hj : j < (Builtin.zeroCells z.cells (n - k)).toList.length) → w.cell? ⟨b, k * i.size + j, none⟩ = some (cs[k * i.size + j]'(by omega)) ∧ w.frozen? ⟨b, k * i.size + j, none⟩ = false := fun j hj => hcell _ _ (List.getElem?_eq_getElem _)
    refine ⟨_, run_clr (run_clearN w ts t ty e1 e2 e3 b (k * i.size) (n - k) (cap - k) h0 (fun j hj => by rw [(hat j hj).1]; rfl) (fun j hj => (hat j hj).2) (fun v hv => List.all_eq_true.1 hz v (zeroCells_mem _ _ v hv))), ?_⟩
    have c2 := (c.bufPuts 0 rfl rfl (by omega) (by omega) rfl : Ctx W (w.setCells b (k * i.size) (Builtin.zeroCells z.cells (n - k)).toList) (.buf (some ⟨b, 0, none⟩) n cap (setL cs (k * i.size) (Builtin.zeroCells z.cells (n - k)).toList) t i.size :: S) Φ)
    have c3 := c2.shrinkB hk
    rw [setL_eq _ _ _ (by omega), List.append_assoc, List.take_append_of_le_length (by rw [List.length_take]; omega), List.take_take, Nat.min_self] at c3
    exact c3
end
end Go.Vc
end

section
namespace Go.Proofs.YtebnciehcnedjaaGreatDoor
open Go.Vc
theorem bl_lists : ∀ x y : List UInt8, Op.bytesLess x y = decide (Lib.compareBytes x y < 0)
  | [], [] => rfl
  | [], _ :: _ => rfl
  | _ :: _, [] => rfl
  | a :: x, b :: y => by
    have ih := bl_lists x y
    show (decide (a < b) || (a == b && Op.bytesLess x y)) = decide ((if a < b then (-1 : Int) else if b < a then 1 else Lib.compareBytes x y) < 0)
    rw [ih]
    by_cases h : a < b
    · rw [if_pos h, decide_eq_true h]; rfl
    · rw [if_neg h, decide_eq_false h, Bool.false_or]
      by_cases h2 : b < a
      · rw [if_pos h2]
        have : (a == b) = false := by
          rw [beq_eq_false_iff_ne]
          intro e
          rw [e] at h2
          exact UInt8.lt_irrefl _ h2
        rw [this]; rfl
      · rw [if_neg h2]
        have : a = b := UInt8.le_antisymm (UInt8.not_lt.1 h2) (UInt8.not_lt.1 h)
        rw [this, beq_self_eq_true, Bool.true_and]
theorem bl_cmp (a b : ByteArray) : Op.bytesLess (ByteArray.toList.loop a 0 []) (ByteArray.toList.loop b 0 []) = decide (cmpT a b < 0) := by
  show Op.bytesLess a.toList b.toList = _
  rw [ByteArray.toList_eq, ByteArray.toList_eq, bl_lists]
  rfl
theorem gtr_run (a b : ByteArray) (t : TypeId) (w : World) : Sem.run Tryz.prog (binOp BinOp.gtr t (.string a) (.string b)) w = .ok (.bool (decide (0 < cmpT a b))) w := by
  have e : binOp .gtr t (.string a) (.string b) = pure (.bool !(Op.bytesLess a.toList b.toList || a.toList == b.toList)) := by simp [binOp, Op.stringOp]
  rw [e, Sem.run_pure]
  have h1 : Op.bytesLess a.toList b.toList = decide (cmpT a b < 0) := bl_cmp a b
  rw [h1]
  congr 2
  have h2 : (a.toList == b.toList) = decide (cmpT a b = 0) := by
    rw [ByteArray.toList_eq, ByteArray.toList_eq]
    by_cases h : cmpT a b = 0
    · rw [decide_eq_true h, (cmpT_cmp.eq _ _).1 h, beq_self_eq_true]
    · rw [decide_eq_false h, beq_eq_false_iff_ne]
      intro e
      exact h ((bytes_cmp.eq _ _).2 e)
  rw [h2]
  by_cases h : cmpT a b < 0
  · rw [decide_eq_true h, decide_eq_false (show ¬ cmpT a b = 0 by omega), decide_eq_false (show ¬ 0 < cmpT a b by omega)]; rfl
  · rw [decide_eq_false h, Bool.false_or]
    by_cases h3 : cmpT a b = 0
    · rw [decide_eq_true h3, decide_eq_false (show ¬ 0 < cmpT a b by omega)]; rfl
    · rw [decide_eq_false h3, decide_eq_true (show 0 < cmpT a b by omega)]; rfl
theorem sNaN_g (x : ByteArray) : Gives Tryz.prog F.cmp_isNaN_string #[.string x] (.bool false) :=
  gives_of (Bcmp_isNaN_string_run x) fun W R Φ _ => fun w F c => ⟨by simp, c.left⟩
theorem cmpS_g (x y : ByteArray) : Gives Tryz.prog F.cmp_Compare_string #[.string x, .string y] (.int .i64 (cmpT x y)) := by
  have hb := cmpT_cmp.bd x y
  refine gives_of (Bcmp_Compare_string_run x y) fun W R Φ _ => ?_
  refine fun w F c => (sNaN_g _).use c fun w c => ⟨_, rfl, _, _, inferInstance, c, fun w F c => (sNaN_g _).use c fun w c => ⟨_, rfl, _, _, inferInstance, c, Br.intro (fun h => by cases h) (fun _ => Br.intro (fun h => by cases h) (fun _ => Br.intro (fun h => fun w F c => ⟨?_, c.left⟩) (fun h => ⟨_, fun w => gtr_run x y _ w, Br.intro (fun h2 => fun w F c => ⟨?_, c.left⟩) (fun h2 => fun w F c => ⟨?_, c.left⟩)⟩)))⟩⟩
  · rw [bl_cmp] at h
    have := of_decide_eq_true h
    rw [show cmpT x y = -1 by omega]
  · rw [bl_cmp] at h
    have := of_decide_eq_false h
    have := of_decide_eq_true h2
    rw [show cmpT x y = 1 by omega]
  · rw [bl_cmp] at h
    have := of_decide_eq_false h
    have := of_decide_eq_false h2
    rw [show cmpT x y = 0 by omega]
theorem find1_g (x : PairD) (k : ByteArray) : Gives Tryz.prog F.store_run_find_1 #[x.v, .string k] (.int .i64 (cmpT x.key k)) :=
  gives_of (Bstore_run_find_1_run x.key x.val k) fun W R Φ _ => fun b w F c => (cmpS_g _ _).use c fun w c => ⟨_, rfl, _, _, inferInstance, c, fun w F c => ⟨rfl, c.left⟩⟩
theorem merge1_g (x y : PairD) : Gives Tryz.prog F.store_merge_1 #[x.v, y.v] (.int .i64 (cmpT x.key y.key)) :=
  gives_of (Bstore_merge_1_run x.key x.val y.key y.val) fun W R Φ _ => fun b b2 w F c => (cmpS_g _ _).use c fun w c => ⟨_, rfl, _, _, inferInstance, c, fun w F c => ⟨rfl, c.left⟩⟩
theorem merge2_g (x y : PairD) : Gives Tryz.prog F.store_merge_2 #[x.v, y.v] (.bool (decide (x.key = y.key))) :=
  gives_of (Bstore_merge_2_run x.key x.val y.key y.val) fun W R Φ _ => fun b b2 w F c => ⟨rfl, c.left⟩
theorem there1_g (x : PairD) : Gives Tryz.prog F.store_there_1 #[x.v] (.bool (decide (x.val = tE))) :=
  gives_of (Bstore_there_1_run x.key x.val) fun W R Φ _ => fun b w F c => ⟨rfl, c.left⟩
def lowK (l : Run) (k : ByteArray) : Nat := (l.filter fun x => decide (cmpT x.key k < 0)).length
def fndK (l : Run) (k : ByteArray) : Bool := match l[lowK l k]? with | some x => decide (cmpT x.key k = 0) | none => false
theorem lowK_eq {l : Run} {k : ByteArray} {i : Nat} (hi : i ≤ l.length) (h1 : ∀ q (h : q < l.length), q < i → cmpT l[q].key k < 0) (h2 : ∀ q (h : q < l.length), i ≤ q → ¬ cmpT l[q].key k < 0) : lowK l k = i := by
  unfold lowK
  have e : l.filter (fun x => decide (cmpT x.key k < 0)) = l.take i := by
    have h3 : (l.take i).filter (fun x => decide (cmpT x.key k < 0)) = l.take i := List.filter_eq_self.2 fun x hx => by
      obtain ⟨q, hq, rfl⟩ := List.getElem_of_mem hx
      rw [List.length_take] at hq
      rw [List.getElem_take]
      exact decide_eq_true (h1 q (by omega) (by omega))
    have h4 : (l.drop i).filter (fun x => decide (cmpT x.key k < 0)) = [] := List.filter_eq_nil_iff.2 fun x hx => by
      obtain ⟨q, hq, rfl⟩ := List.getElem_of_mem hx
      rw [List.length_drop] at hq
      rw [List.getElem_drop]
      rw [decide_eq_false (h2 (i + q) (by omega) (by omega))]
      simp
    have h5 : l.filter (fun x => decide (cmpT x.key k < 0)) = ((l.take i) ++ (l.drop i)).filter (fun x => decide (cmpT x.key k < 0)) := by rw [List.take_append_drop]
    rw [h5, List.filter_append, h3, h4, List.append_nil]
  rw [e, List.length_take]
  omega
theorem putK_set : ∀ {l : Run} {x : PairD} {i : Nat} (hi : i < l.length), l[i].key = x.key → (∀ q (h : q < l.length), q < i → cmpT l[q].key x.key < 0) → putK x l = l.set i x
  | [], _, _, hi, _, _ => by simp at hi
  | y :: l, x, 0, hi, he, _ => by
    have he : y.key = x.key := he
    show (if cmpT x.key y.key < 0 then x :: y :: l else if x.key = y.key then x :: l else y :: putK x l) = x :: l
    rw [if_neg (by rw [he, cmpT_cmp.refl]; omega), if_pos he.symm]
  | y :: l, x, i + 1, hi, he, h => by
    have h0 : cmpT y.key x.key < 0 := h 0 (by simp) (by omega)
    show (if cmpT x.key y.key < 0 then x :: y :: l else if x.key = y.key then x :: l else y :: putK x l) = y :: l.set i x
    rw [if_neg (fun h2 => cmpT_cmp.irr h0 h2), if_neg (fun h2 => by rw [h2, cmpT_cmp.refl] at h0; omega),
      putK_set (i := i) (by simpa using hi) (by simpa using he) (fun q hq hqi => by have := h (q + 1) (by simp; omega) (by omega); simpa using this)]
theorem putK_ins : ∀ {l : Run} {x : PairD} {i : Nat}, i ≤ l.length → (∀ q (h : q < l.length), q < i → cmpT l[q].key x.key < 0) → (∀ (h : i < l.length), cmpT x.key l[i].key < 0) → putK x l = l.take i ++ x :: l.drop i
  | [], x, i, hi, _, _ => by
    have : i = 0 := by simpa using hi
    subst this
    rfl
  | y :: l, x, 0, hi, _, h => by
    have h0 : cmpT x.key y.key < 0 := h (by simp)
    show (if cmpT x.key y.key < 0 then x :: y :: l else if x.key = y.key then x :: l else y :: putK x l) = x :: y :: l
    rw [if_pos h0]
  | y :: l, x, i + 1, hi, h, h3 => by
    have h0 : cmpT y.key x.key < 0 := h 0 (by simp) (by omega)
    show (if cmpT x.key y.key < 0 then x :: y :: l else if x.key = y.key then x :: l else y :: putK x l) = y :: (l.take i ++ x :: l.drop i)
    rw [if_neg (fun h2 => cmpT_cmp.irr h0 h2), if_neg (fun h2 => by rw [h2, cmpT_cmp.refl] at h0; omega),
      putK_ins (i := i) (by simpa using hi) (fun q hq hqi => by have := h (q + 1) (by simp; omega) (by omega); simpa using this) (fun hq => by have := h3 (by simp; omega); simpa using this)]
theorem lowK_at {l : Run} (ha : AscK l) (k : ByteArray) : lowK l k ≤ l.length ∧ (∀ q (h : q < l.length), q < lowK l k → cmpT l[q].key k < 0) ∧ ∀ q (h : q < l.length), lowK l k ≤ q → ¬ cmpT l[q].key k < 0 := by
  have h0 : lowK l k ≤ l.length := List.length_filter_le _ _
  -- the first that is not less
  have key : ∀ n, n ≤ l.length → ∃ i, i ≤ n ∧ (∀ q (h : q < l.length), q < i → cmpT l[q].key k < 0) ∧ ∀ q (h : q < l.length), i ≤ q → q < n → ¬ cmpT l[q].key k < 0 := by
    intro n
    induction n with
    | zero => intro _; exact ⟨0, Nat.le_refl _, fun q h hq => by omega, fun q h h1 h2 => by omega⟩
    | succ n ih =>
      intro hn
      obtain ⟨i, hi, h1, h2⟩ := ih (by omega)
      by_cases hc : cmpT (l[n]'(by omega)).key k < 0
      · refine ⟨n + 1, Nat.le_refl _, fun q h hq => ?_, fun q h h3 h4 => by omega⟩
        by_cases e : q = n
        · subst e; exact hc
        · exact cmpT_cmp.trans _ _ _ (List.pairwise_iff_getElem.1 ha q n h (by omega) (by omega)) hc
      · refine ⟨i, by omega, h1, fun q h h3 h4 => ?_⟩
        by_cases e : q = n
        · subst e; exact hc
        · exact h2 q h h3 (by omega)
  obtain ⟨i, hi, h1, h2⟩ := key l.length (Nat.le_refl _)
  have e : lowK l k = i := lowK_eq hi h1 fun q h h3 => h2 q h h3 h
  rw [e]
  exact ⟨hi, h1, fun q h h3 => h2 q h h3 h⟩
theorem put_low {l : Run} (ha : AscK l) (x : PairD) : putK x l = if fndK l x.key = true then l.set (lowK l x.key) x else l.take (lowK l x.key) ++ x :: l.drop (lowK l x.key) := by
  obtain ⟨h0, h1, h2⟩ := lowK_at ha x.key
  unfold fndK
  rcases Nat.lt_or_ge (lowK l x.key) l.length with h | h
  · rw [List.getElem?_eq_getElem h]
    by_cases e : cmpT l[lowK l x.key].key x.key = 0
    · rw [if_pos (decide_eq_true e)]
      exact putK_set h ((cmpT_cmp.eq _ _).1 e) h1
    · rw [if_neg (by show ¬ decide (cmpT l[lowK l x.key].key x.key = 0) = true; rw [decide_eq_false e]; simp)]
      refine putK_ins h0 h1 fun hh => ?_
      rcases cmpT_cmp.tri l[lowK l x.key].key x.key with h3 | h3 | h3
      · exact absurd h3 (h2 _ h (Nat.le_refl _))
      · rw [h3, cmpT_cmp.refl] at e; exact absurd rfl e
      · exact h3
  · rw [List.getElem?_eq_none h, if_neg (by simp)]
    exact putK_ins h0 h1 fun hh => by omega
theorem fnd_look {l : Run} (ha : AscK l) (k : ByteArray) : lookV l k = if fndK l k = true then (l[lowK l k]?).map PairD.val else none := by
  obtain ⟨h0, h1, h2⟩ := lowK_at ha k
  have none_of : fndK l k = false → lookV l k = none := fun h => lookV_none fun x hx e => by
    obtain ⟨q, hq, rfl⟩ := List.getElem_of_mem hx
    have hc : cmpT l[q].key k = 0 := by rw [e]; exact cmpT_cmp.refl _
    have hge : lowK l k ≤ q := by
      rcases Nat.lt_or_ge q (lowK l k) with h3 | h3
      · have := h1 q hq h3; omega
      · exact h3
    have hlt : lowK l k < l.length := by omega
    unfold fndK at h
    rw [List.getElem?_eq_getElem hlt] at h
    have h5 := of_decide_eq_false h
    rcases Nat.eq_or_lt_of_le hge with h6 | h6
    · exact h5 (by simp only [h6]; exact hc)
    · have h7 := List.pairwise_iff_getElem.1 ha _ _ hlt hq h6
      rw [e] at h7
      exact h2 _ hlt (Nat.le_refl _) h7
  cases hf : fndK l k with
  | false => rw [if_neg (by simp)]; exact none_of hf
  | true =>
    rw [if_pos rfl]
    unfold fndK at hf
    rcases Nat.lt_or_ge (lowK l k) l.length with h | h
    · rw [List.getElem?_eq_getElem h] at hf ⊢
      have e := (cmpT_cmp.eq _ _).1 (of_decide_eq_true hf)
      have h6 := asc_look ha _ (List.getElem_mem h)
      rw [e] at h6
      exact h6
    · rw [List.getElem?_eq_none h] at hf; cases hf
end Go.Proofs.YtebnciehcnedjaaGreatDoor
end

section
namespace Go.Vc
open Go.ChangeShapes Go.WideShapes Go.RowKit
section
variable {H : Type} {enc : TypeId × Value → H} {P : Program} {W : World}
theorem open_gv {α : Type} [Gv α] (d : Nat) {t : TypeId} {v : Value} {x : DataW H} {ps : List MemPlace} (hty : Ty.is P d (Gv.ty α) t = true) (h : DataW.Trod enc P W 0 (fun _ => true) true t v x ps) : ∃ y : α, Gv.rep [] W v.cells.toList y := by
  obtain ⟨fuel, h⟩ := h
  exact Gv.opens.ap hty h
theorem open_sl {α : Type} [Gv α] (d : Nat) {t e : TypeId} {v : Value} {r : Reach} {base : Nat} {x : DataW H} {ps : List MemPlace} (ht : P.underlying t = some (.slice e)) (hv : Value.okWide P W r base t v) (hty : Ty.is P d (Gv.ty (List α)) t = true)
    (h : DataW.Trod enc P W 0 (fun _ => true) true t v x ps) : ∃ (p : Option Addr) (cap : Nat) (l : List α), v = .slice p l.length cap ∧ l.length ≤ cap ∧ cap ≤ maxLen ∧ Sl [] W p l := by
  obtain ⟨a, len, cap, rfl⟩ := okWide_slice ht hv
  obtain ⟨l, hl⟩ := open_gv (α := List α) d hty h
  obtain ⟨p, c, e, h1, h2, h3⟩ := rep_list.1 hl
  simp only [Value.cells, List.cons.injEq, Value.slice.injEq, and_true] at e
  obtain ⟨rfl, rfl, rfl⟩ := e
  exact ⟨a, cap, l, rfl, h1, h2, h3⟩
theorem GivesIn.law {Φ : PW} {f : FuncId} {args : Array Value} (h : GivesIn Φ P f args (.bool true)) (h0 : Φ [] W) : Calls P f args W fun e W' => ∃ u, e = .returned u ∧ (u = .bool true ∧ Chg [] W W') :=
  (h.go W W [] (Ctx.start W h0)).mono fun e w' ⟨h1, h2⟩ => ⟨_, h1, rfl, h2.chg⟩
end
end Go.Vc
end

section
namespace Go.Vc
open Go.RowKit Go.Shelf
section
variable {P : Program} {W w w' : World} {S R F : List Own} {Φ Ψ : PW}
theorem Ctx.lose [Stable Φ] (c : Ctx W w (R ++ S) Φ) (h : Chg (dom R) w w') : Ctx W w' S Φ := by
  have hn := c.nodup
  rw [dom_app, List.nodup_append] at hn
  refine c.go ⟨h.mono fun x hx => by rw [dom_app]; exact List.mem_append_left _ hx, fun b hb => .inl (by rw [dom_app]; exact List.mem_append_right _ hb)⟩ (fun o ho => ?_) hn.2.1
  exact Own.at_keep (c.own o (List.mem_append_right _ ho)) fun b hb => h.block b (c.lt (mem_dom (List.mem_append_right _ ho) hb)) fun hm => hn.2.2 b hm b (mem_dom ho hb) rfl
theorem Ctx.appStr [Stable Φ] {p : Option Addr} {n cap : Nat} {cs : List Value} {e : TypeId} (c : Ctx W w (.buf p n cap cs e 1 :: S) Φ) {t u ty : TypeId} {kb : Array Bool} {i : TypeInfo}
    (ht : P.underlying t = some (.slice e)) (hu : P.underlying u = some .string) (hi : P.info? e = some i) (hz : i.zero = some (.int .u8 0)) (hsize : i.size = 1) (hby : i.bytes = 1) (s : ByteArray)
    (hb : n + s.size ≤ 140737488355328) (h63 : n + s.size ≤ maxLen) :
    ∃ p' cap' w', Sem.run P (builtin Builtin.append #[t, u] ty kb #[.slice p n cap, .string s]) w = .ok (.value (.slice p' (n + s.size) cap')) w' ∧ Ctx W w' (.buf p' (n + s.size) cap' (cs ++ Lib.strCells s) e 1 :: S) Φ := by
  have hown := c.own _ (List.mem_cons_self)
  obtain ⟨hcl, hown⟩ := hown
  have hxl : cs.length = n := by simpa using hcl
  have hlen : (cs ++ Lib.strCells s).length = (n + s.size) * 1 := by rw [List.length_append, hxl, Lib.strCells_length, Nat.mul_one]
  have grown : ∀ (old : Nat), old < n + s.size →
      Ctx W (w.drew.alloc (.cells (cs.toArray ++ (Lib.strCells s).toArray ++ Builtin.zeroCells (Value.int .u8 0).cells (grownCap w (n + s.size) old e - (n + s.size))) e))
        (.buf (some ⟨w.heap.size, 0, none⟩) (n + s.size) (grownCap w (n + s.size) old e) (cs ++ Lib.strCells s) e 1 :: S) Φ := by
    intro old ho
    have hge := grownCap_ge w (n + s.size) old e
    have hcm : grownCap w (n + s.size) old e ≤ maxLen := grownCap_le_maxLen w (n + s.size) old e h63
    have h := c.upd (k := 0) (o' := .buf (some ⟨w.heap.size, 0, none⟩) (n + s.size) (grownCap w (n + s.size) old e) (cs ++ Lib.strCells s) e 1) rfl (((Chg.refl _ _).drewN 1).alloc (.cells (cs.toArray ++ (Lib.strCells s).toArray ++ Builtin.zeroCells (Value.int .u8 0).cells (grownCap w (n + s.size) old e - (n + s.size))) e)) (by simp [Own.dom]) (by simp [Own.dom])
      ⟨hlen, .inr ⟨w.heap.size, _, _, rfl, Nat.zero_le _, hp_alloc_new w.drew _, hge, hcm, ?_, ?_⟩⟩
    · exact h
    · have hz1 : (Value.int IntKind.u8 0).cells.size = 1 := rfl
      simp only [Array.size_append, List.size_toArray, size_zeroCells, hz1, hxl, Lib.strCells_length]
      omega
    · simp only [Array.toList_append, List.append_assoc]
      rw [← List.append_assoc, ← hlen]
      exact List.take_left
  rcases hown with ⟨e1, rfl⟩ | ⟨g, cap', cur, e1, _, hg, hnc, hcm, hcs, htake⟩
  · cases e1
    have hx : cs = [] := List.eq_nil_of_length_eq_zero hxl
    subst hx
    by_cases hm : s.size = 0
    · have hn : Lib.strCells s = [] := List.eq_nil_of_length_eq_zero (by rw [Lib.strCells_length]; exact hm)
      refine ⟨none, 0, w, run_app ?_, by rw [hm, hn]; exact c⟩
      have hf := Lib.run_firstCells_string (P := P) w 1 s
      rw [hm] at hf
      simp [Builtin.append_, run_underlying ht, run_underlying hu, sizeOf, typeInfo, hi, hsize, Builtin.lenOf, hm, hf]
    · have hr := run_append_nil_string (P := P) w t u ty e i (.int .u8 0) ht hu hi hz s (by omega) (by omega) (by rw [hby]; omega)
      have hgr := grown 0 (by omega)
      simp only [Nat.zero_add, List.nil_append, Array.empty_append] at hgr ⊢
      have e1 : (s.data.map fun b => Value.int .u8 b.toNat) = (Lib.strCells s).toArray := by
        apply Array.ext'
        simp [Lib.strCells]
      rw [e1] at hr
      exact ⟨_, _, _, run_app hr, hgr⟩
  · cases e1
    have hcs' : cur.size = cap := by simpa using hcs
    have ht' : cur.toList.take n = cs := by simpa using htake
    by_cases hroom : n + s.size ≤ cap
    · have hr := Lib.run_append_room_string (P := P) w t u ty e i ht hu hi hsize g n cap cur hg s hroom (by omega)
      refine ⟨_, _, _, run_app hr, ?_⟩
      have h := c.upd (k := 0) (w' := w.setRow g (cur.toList.take n ++ Lib.strCells s ++ cur.toList.drop (n + s.size)).toArray) (o' := .buf (some ⟨g, 0, none⟩) (n + s.size) cap (cs ++ Lib.strCells s) e 1) rfl ⟨rfl, rfl, rfl, by simp, fun b _ hb => setRow_other w g b _ (by simpa [Own.dom] using hb)⟩ (by simp [Own.dom]) (by simp [Own.dom])
        ⟨hlen, .inr ⟨g, cap, _, rfl, Nat.zero_le _, setRow_heap w g cur _ e _ hg, hroom, hcm, ?_, ?_⟩⟩
      · exact h
      · simp only [List.size_toArray, List.length_append, List.length_take, List.length_drop, Array.length_toList, Lib.strCells_length]
        omega
      · rw [ht', ← hlen]
        exact List.take_left
    · have holds : ∀ j u, cs[j]? = some u → w.cell? ((⟨g, 0, none⟩ : Addr).add j) = some u := by
        intro j u hj
        have hlt : j < cs.length := (List.getElem?_eq_some_iff.1 hj).1
        have h2 : cur[j]? = some u := by
          rw [← ht', List.getElem?_take_of_lt (by omega)] at hj
          simpa using hj
        rw [addr_add, Nat.zero_add]
        simp [World.cell?, hg, h2]
      have hr := Lib.run_append_grow_string (P := P) w t u ty e i (.int .u8 0) ht hu hi hz ⟨g, 0, none⟩ n cap cs (by rw [hsize]; simpa using hxl) holds s (by omega) (by omega) (by rw [hby]; exact growslice_fits (by omega) (by omega))
      exact ⟨_, _, _, run_app hr, grown cap (by omega)⟩
def Bd (T e : TypeId) (b : Nat) (l : List UInt8) (R : List Own) : Prop :=
  ∃ (pa : Value) (p : Option Addr) (cap : Nat), (pa = .pointer none ∨ pa = .pointer (some ⟨b, 0, none⟩)) ∧ R = [.blk b [pa, .slice p l.length cap] T, .buf p l.length cap (Lib.byteCells l) e 1]
theorem Bd.fresh [Stable Φ] {T e : TypeId} {b : Nat} (c : Ctx W w (.blk b [.pointer none, .slice none 0 0] T :: S) Φ) : Ctx W w ([.blk b [.pointer none, .slice none 0 0] T, .buf none 0 0 [] e 1] ++ S) Φ :=
  ((c.buf0 e 1).perm (List.Perm.swap _ _ _))
theorem Bd.nil {T e : TypeId} {b : Nat} : Bd T e b [] [.blk b [.pointer none, .slice none 0 0] T, .buf none 0 0 [] e 1] := ⟨.pointer none, none, 0, .inl rfl, rfl⟩
end
section
open Go.Proofs
variable {P : Program} {ρ : Ren}
theorem chg_freeze {a w : World} {D : List Nat} (h : Chg D a w) {p : Addr} (hp : p.block ∈ D) (n : Nat) : Chg D a (w.freeze p n) := by
  refine h.trans (T := D) ?_ (fun x hx => .inl hx)
  unfold World.freeze
  split
  · exact Chg.refl _ _
  · refine ⟨rfl, rfl, rfl, by simp, fun k hk hn => ?_⟩
    simp only [Array.getElem?_modify]
    rw [if_neg (fun e => hn (by rw [← e]; exact hp))]
set_option maxHeartbeats 1000000 in
set_option maxRecDepth 100000 in
theorem builder_String_some (L : Lays.n169 P ρ) (X : Builder.Extra P ρ) (b g cap : Nat) (pa : Value) (l : List UInt8) (w : World) (h0 : l ≠ []) (hbk : w.heap[b]? = some (.cells #[pa, .slice (some ⟨g, 0, none⟩) l.length cap] (ρ.t 72) (0, 0)))
    (hown : w.ownsRow 0 (ρ.t 5) 1 (.slice (some ⟨g, 0, none⟩) l.length cap) l.length (Lib.byteCells l)) :
    Calls P (ρ.f 169) #[.pointer (some ⟨b, 0, none⟩)] w fun e w' => e = .returned (.string ⟨l.toArray⟩) ∧ Chg [g] w w' := by
  have hl0 : l.length ≠ 0 := by simpa using h0
  obtain ⟨cur, hg, hnc, hcm, hcs, htake⟩ : ∃ cur, w.heap[g]? = some (.cells cur (ρ.t 5) (0, 0)) ∧ l.length ≤ cap ∧ cap ≤ maxLen ∧ cur.size = cap * 1 ∧ cur.toList.take (l.length * 1) = Lib.byteCells l := by
    rcases hown.2 with ⟨hv, _⟩ | ⟨g', cap', cur, hv, _, r⟩
    · cases hv
    · cases hv; exact ⟨cur, r⟩
  have c1 : w.drew.cell? ⟨b, 1, none⟩ = some (.slice (some ⟨g, 0, none⟩) l.length cap) := by
    have : w.drew.heap[b]? = some (.cells #[pa, .slice (some ⟨g, 0, none⟩) l.length cap] (ρ.t 72) (0, 0)) := hbk
    rw [Lib.cell_of_heap this]; rfl
  have hSD : (Builtin.unsafeSliceData_ #[(ρ.t 37)] (ρ.t 127) #[.slice (some ⟨g, 0, none⟩) l.length cap]).run P w.drew = .ok (.pointer (some ⟨g, 0, none⟩)) w.drew :=
    Lib.run_unsafeSliceData_row _ _ _ _ _ _ (by omega)
  have hUS : (Builtin.unsafeString_ #[(ρ.t 127), (ρ.t 3)] (ρ.t 9) #[.pointer (some ⟨g, 0, none⟩), .int .i64 l.length]).run P w.drew = .ok (.string ⟨l.toArray⟩) (w.drew.freeze ⟨g, 0, none⟩ l.length) := by
    refine Lib.run_unsafeString_row w.drew (ρ.t 127) (ρ.t 3) (ρ.t 9) (ρ.t 5) L.t127 X.cellsByte g cur.size (by have hg' : w.drew.heap[g]? = some (.cells cur (ρ.t 5) (0, 0)) := hg; simp [World.shape?, hg']) l h0 (by omega) (by unfold maxLen at hcm; omega) ?_
    intro j x hx
    have := hown.cells (g := g) rfl j (.int .u8 x.toNat) (by simp [Lib.byteCells, hx])
    exact this
  have mixed := L.mixed
  have t72 := L.t72; have a72 := L.a72; have z72 := L.z72; have v72 := L.v72; have u72 := run_underlying L.t72
  have t70 := L.t70; have a70 := L.a70; have z70 := L.z70; have v70 := L.v70; have u70 := run_underlying L.t70
  have t37 := L.t37; have a37 := L.a37; have z37 := L.z37; have v37 := L.v37; have u37 := run_underlying L.t37
  have t127 := L.t127; have a127 := L.a127; have z127 := L.z127; have v127 := L.v127; have u127 := run_underlying L.t127
  have t3 := L.t3; have a3 := L.a3; have z3 := L.z3; have v3 := L.v3; have u3 := run_underlying L.t3
  have t9 := L.t9; have a9 := L.a9; have z9 := L.z9; have v9 := L.v9; have u9 := run_underlying L.t9
  have t5 := X.t5; have a5 := X.a5; have z5 := X.z5; have v5 := X.v5; have u5 := run_underlying X.t5
  go_enter L.f169, Body.n169_ntmps ρ
  go_wp2
  go_region_o
  all_goals (go_wp2; go_ret; exact ⟨rfl, chg_freeze ((Chg.refl _ _).drewN 1) (p := ⟨g, 0, none⟩) (by simp) _⟩)
set_option maxHeartbeats 2000000 in
set_option maxRecDepth 100000 in
theorem builder_String_nil (L : Lays.n169 P ρ) (X : Builder.Extra P ρ) (b : Nat) (p : Value) (w : World) (hbk : w.heap[b]? = some (.cells #[p, .slice none 0 0] (ρ.t 72) (0, 0))) :
    Calls P (ρ.f 169) #[.pointer (some ⟨b, 0, none⟩)] w fun e w' => e = .returned (.string ⟨#[]⟩) ∧ Chg [] w w' := by
  have hUS := Any.unsafeString_none L X
  have c1 : w.drew.cell? ⟨b, 1, none⟩ = some (.slice none 0 0) := by
    have : w.drew.heap[b]? = some (.cells #[p, .slice none 0 0] (ρ.t 72) (0, 0)) := hbk
    rw [Lib.cell_of_heap this]; rfl
  have hSD : (Builtin.unsafeSliceData_ #[(ρ.t 37)] (ρ.t 127) #[.slice none 0 0]).run P w.drew = .ok (.pointer none) w.drew := rfl
  have mixed := L.mixed
  have t72 := L.t72; have a72 := L.a72; have z72 := L.z72; have v72 := L.v72; have u72 := run_underlying L.t72
  have t70 := L.t70; have a70 := L.a70; have z70 := L.z70; have v70 := L.v70; have u70 := run_underlying L.t70
  have t37 := L.t37; have a37 := L.a37; have z37 := L.z37; have v37 := L.v37; have u37 := run_underlying L.t37
  have t127 := L.t127; have a127 := L.a127; have z127 := L.z127; have v127 := L.v127; have u127 := run_underlying L.t127
  have t3 := L.t3; have a3 := L.a3; have z3 := L.z3; have v3 := L.v3; have u3 := run_underlying L.t3
  have t9 := L.t9; have a9 := L.a9; have z9 := L.z9; have v9 := L.v9; have u9 := run_underlying L.t9
  have t5 := X.t5; have a5 := X.a5; have z5 := X.z5; have v5 := X.v5; have u5 := run_underlying X.t5
  go_enter L.f169, Body.n169_ntmps ρ
  go_wp2
  go_region_o
  all_goals (go_wp2; go_ret; exact ⟨rfl, (Chg.refl _ _).drewN 1⟩)
set_option maxHeartbeats 2000000 in
set_option maxRecDepth 100000 in
theorem builder_String_noroom (L : Lays.n169 P ρ) (X : Builder.Extra P ρ) (b g : Nat) (p : Value) (cur : Array Value) (w : World) (hbk : w.heap[b]? = some (.cells #[p, .slice (some ⟨g, 0, none⟩) 0 0] (ρ.t 72) (0, 0))) (hg : w.heap[g]? = some (.cells cur (ρ.t 5) (0, 0))) :
    Calls P (ρ.f 169) #[.pointer (some ⟨b, 0, none⟩)] w fun e w' => e = .returned (.string ⟨#[]⟩) ∧ Chg [] w w' := by
  have hUS := Any.unsafeString_none L X
  have hlt : b < w.heap.size := by
    rcases Nat.lt_or_ge b w.heap.size with h' | h'
    · exact h'
    · simp [Array.getElem?_eq_none h'] at hbk
  have c1 : w.drew.cell? ⟨b, 1, none⟩ = some (.slice (some ⟨g, 0, none⟩) 0 0) := by
    have : w.drew.heap[b]? = some (.cells #[p, .slice (some ⟨g, 0, none⟩) 0 0] (ρ.t 72) (0, 0)) := hbk
    rw [Lib.cell_of_heap this]; rfl
  have hSD : (Builtin.unsafeSliceData_ #[(ρ.t 37)] (ρ.t 127) #[.slice (some ⟨g, 0, none⟩) 0 0]).run P w.drew = .ok (.pointer (some ⟨w.drew.heap.size, 0, none⟩)) (w.drew.alloc (.view ⟨g, 0, none⟩ (ρ.t 5))) :=
    Lib.run_unsafeSliceData_zero w.drew _ _ (ρ.t 5) L.t127 ⟨g, 0, none⟩ 0 ((ρ.t 5), cur.size) (by have hg' : w.drew.heap[g]? = some (.cells cur (ρ.t 5) (0, 0)) := hg; simp [World.shape?, hg'])
  have c2 : (w.drew.alloc (.view ⟨g, 0, none⟩ (ρ.t 5))).cell? ⟨b, 1, none⟩ = some (.slice (some ⟨g, 0, none⟩) 0 0) := by
    have : (w.drew.alloc (.view ⟨g, 0, none⟩ (ρ.t 5))).heap[b]? = _ := (Lib.alloc_old w.drew _ b hlt).trans hbk
    rw [Lib.cell_of_heap this]; rfl
  have c3 : (w.alloc (.view ⟨g, 0, none⟩ (ρ.t 5))).drew.cell? ⟨b, 1, none⟩ = some (.slice (some ⟨g, 0, none⟩) 0 0) := c2
  have c0 : w.cell? ⟨b, 1, none⟩ = some (.slice (some ⟨g, 0, none⟩) 0 0) := c1
  have mixed := L.mixed
  have t72 := L.t72; have a72 := L.a72; have z72 := L.z72; have v72 := L.v72; have u72 := run_underlying L.t72
  have t70 := L.t70; have a70 := L.a70; have z70 := L.z70; have v70 := L.v70; have u70 := run_underlying L.t70
  have t37 := L.t37; have a37 := L.a37; have z37 := L.z37; have v37 := L.v37; have u37 := run_underlying L.t37
  have t127 := L.t127; have a127 := L.a127; have z127 := L.z127; have v127 := L.v127; have u127 := run_underlying L.t127
  have t3 := L.t3; have a3 := L.a3; have z3 := L.z3; have v3 := L.v3; have u3 := run_underlying L.t3
  have t9 := L.t9; have a9 := L.a9; have z9 := L.z9; have v9 := L.v9; have u9 := run_underlying L.t9
  have t5 := X.t5; have a5 := X.a5; have z5 := X.z5; have v5 := X.v5; have u5 := run_underlying X.t5
  go_enter L.f169, Body.n169_ntmps ρ
  go_wp2
  go_region_o
  all_goals (go_wp2; go_ret; exact ⟨rfl, ((Chg.refl _ _).drewN 1).alloc _⟩)
set_option maxHeartbeats 2000000 in
set_option maxRecDepth 100000 in
theorem builder_String_room (L : Lays.n169 P ρ) (X : Builder.Extra P ρ) (b g cap : Nat) (p : Value) (w : World) (hc0 : cap ≠ 0) (hbk : w.heap[b]? = some (.cells #[p, .slice (some ⟨g, 0, none⟩) 0 cap] (ρ.t 72) (0, 0))) :
    Calls P (ρ.f 169) #[.pointer (some ⟨b, 0, none⟩)] w fun e w' => e = .returned (.string ⟨#[]⟩) ∧ Chg [] w w' := by
  have hUS := Any.unsafeString_none L X
  have c1 : w.drew.cell? ⟨b, 1, none⟩ = some (.slice (some ⟨g, 0, none⟩) 0 cap) := by
    have : w.drew.heap[b]? = some (.cells #[p, .slice (some ⟨g, 0, none⟩) 0 cap] (ρ.t 72) (0, 0)) := hbk
    rw [Lib.cell_of_heap this]; rfl
  have hSD : (Builtin.unsafeSliceData_ #[(ρ.t 37)] (ρ.t 127) #[.slice (some ⟨g, 0, none⟩) 0 cap]).run P w.drew = .ok (.pointer (some ⟨g, 0, none⟩)) w.drew :=
    Lib.run_unsafeSliceData_row _ _ _ _ _ _ hc0
  clear hc0
  have mixed := L.mixed
  have t72 := L.t72; have a72 := L.a72; have z72 := L.z72; have v72 := L.v72; have u72 := run_underlying L.t72
  have t70 := L.t70; have a70 := L.a70; have z70 := L.z70; have v70 := L.v70; have u70 := run_underlying L.t70
  have t37 := L.t37; have a37 := L.a37; have z37 := L.z37; have v37 := L.v37; have u37 := run_underlying L.t37
  have t127 := L.t127; have a127 := L.a127; have z127 := L.z127; have v127 := L.v127; have u127 := run_underlying L.t127
  have t3 := L.t3; have a3 := L.a3; have z3 := L.z3; have v3 := L.v3; have u3 := run_underlying L.t3
  have t9 := L.t9; have a9 := L.a9; have z9 := L.z9; have v9 := L.v9; have u9 := run_underlying L.t9
  have t5 := X.t5; have a5 := X.a5; have z5 := X.z5; have v5 := X.v5; have u5 := run_underlying X.t5
  go_enter L.f169, Body.n169_ntmps ρ
  go_wp2
  go_region_o
  all_goals (go_wp2; go_ret; exact ⟨rfl, (Chg.refl _ _).drewN 1⟩)
theorem Bd.string {W w : World} {S R : List Own} {Φ : PW} [Stable Φ] {b : Nat} {l : List UInt8} (L : Lays.n169 P ρ) (X : Builder.Extra P ρ) (h : Bd (ρ.t 72) (ρ.t 5) b l R) (c : Ctx W w (R ++ S) Φ) {K : Ending → World → Prop}
    (hk : ∀ w', Ctx W w' S Φ → K (.returned (.string ⟨l.toArray⟩)) w') : Calls P (ρ.f 169) #[.pointer (some ⟨b, 0, none⟩)] w K := by
  obtain ⟨pa, p, cap, hpa, rfl⟩ := h
  have hbk : w.heap[b]? = some (.cells #[pa, .slice p l.length cap] (ρ.t 72) (0, 0)) := c.blk 0 rfl
  have hown : w.ownsRow 0 (ρ.t 5) 1 (.slice p l.length cap) l.length (Lib.byteCells l) := c.own _ (List.mem_cons_of_mem _ List.mem_cons_self)
  by_cases h0 : l = []
  · subst h0
    rcases hown.2 with ⟨e, _⟩ | ⟨g, cap', cur, e, _, hg, _⟩
    · cases e
      exact (builder_String_nil L X b pa w hbk).mono fun e w' ⟨he, hc⟩ => by subst he; exact hk w' (c.lose (hc.mono (by simp)))
    · cases e
      by_cases hc0 : cap = 0
      · subst hc0
        exact (builder_String_noroom L X b g pa cur w hbk hg).mono fun e w' ⟨he, hc⟩ => by subst he; exact hk w' (c.lose (hc.mono (by simp)))
      · exact (builder_String_room L X b g cap pa w hc0 hbk).mono fun e w' ⟨he, hc⟩ => by subst he; exact hk w' (c.lose (hc.mono (by simp)))
  · have hl0 : l.length ≠ 0 := by simpa using h0
    obtain ⟨g, rfl⟩ : ∃ g, p = some ⟨g, 0, none⟩ := by
      rcases hown.2 with ⟨_, hz⟩ | ⟨g, cap', cur, hv, _⟩
      · exact absurd hz hl0
      · cases hv; exact ⟨g, rfl⟩
    exact (builder_String_some L X b g cap pa l w h0 hbk hown).mono fun e w' ⟨he, hc⟩ => by subst he; exact hk w' (c.lose (hc.mono (by simp [dom, Own.dom])))
end
def Tab (P : Program) (name : String) (k : IntKind) (zs : List Int) : PW := fun M w => Lib.TabIs P w name k zs ∧ ∀ g, P.globalNamed name = some g → g ∉ M
instance instStableTab (P : Program) (name : String) (k : IntKind) (zs : List Int) : Stable (Tab P name k zs) := ⟨fun {M M' w w'} hs h => by
  obtain ⟨h1, h2⟩ := h
  unfold Lib.TabIs World.var? at h1
  cases hg : P.globalNamed name with
  | none => simp [hg] at h1
  | some g =>
    simp only [hg, Option.bind_some] at h1
    have hlt : g < w.heap.size := by
      rcases Nat.lt_or_ge g w.heap.size with h' | h'
      · exact h'
      · rw [Array.getElem?_eq_none h'] at h1; simp at h1
    refine ⟨?_, fun g' hg' hm => ?_⟩
    · unfold Lib.TabIs World.var?
      simp only [hg, Option.bind_some]
      rw [hs.chg.block g hlt (h2 g hg)]
      exact h1
    · rw [hg] at hg'
      cases hg'
      rcases hs.sub g hm with h | h
      · exact h2 g hg h
      · omega⟩
theorem Tab.start {P : Program} {name : String} {k : IntKind} {zs : List Int} {w : World} (h : Lib.TabIs P w name k zs) : Tab P name k zs [] w := ⟨h, fun _ _ => by simp⟩
theorem chg_grow {w : World} {k : Nat} {os : Array Obj} : Chg [] w (Sort.grow (w.drewN k) os) :=
  ⟨rfl, rfl, rfl, by show w.heap.size ≤ (w.heap ++ os).size; rw [Array.size_append]; omega, fun j hj _ => by
    show (w.heap ++ os)[j]? = w.heap[j]?
    rw [Array.getElem?_append_left hj]⟩
theorem itoa_in {P : Program} {f : FuncId} {Φ : PW} [Stable Φ] {name : String} (hI : ∀ (n : Int), -9223372036854775808 ≤ n → n ≤ 9223372036854775807 → ∀ w, Lib.TabIs P w name .u64 Lib.pow10Tab →
      Calls P f #[.int .i64 n] w fun e w' => e = .returned (.string ⟨(Lib.itoa n).toArray⟩) ∧ ∃ k os, w' = Sort.grow (w.drewN k) os)
    (hΦ : ∀ M w, Φ M w → Tab P name .u64 Lib.pow10Tab M w) (n : Int) (h : I64 n) : GivesIn Φ P f #[.int .i64 n] (.string ⟨(Lib.itoa n).toArray⟩) :=
  ⟨fun W w S c => (hI n (by unfold I64 at h; omega) (by unfold I64 at h; omega) w (hΦ _ _ c.phi).1).mono fun e w' ⟨he, k, os, hw⟩ => ⟨he, by rw [hw]; exact c.call chg_grow⟩⟩
open Go.ChangeShapes Go.WideShapes Go.ChangeAt
theorem lawTrueLaid {H : Type} {enc : TypeId × Value → H} {C : Checked} {os : Os} {f : FuncId} {fn : Func} {s : ChangeSpec} {conds : List PathCond} {apart fresh handsOn : Bool} {tb : TypeId} {ld : List (String × DataW Unit)}
    (own : ownKnob C.prog.godebug = none) (started : os.Started) (noInit : C.prog.inits.idxOf? f = none) (hfn : C.prog.funcs[f]? = some fn)
    (laid : laidOutB C.prog = true) (hvars : s.vars = []) (hspec : ∀ ds : List (DataW H), ds.length = fn.params.toList.length → (s.fn H (ds ++ [])).results = [.lit (.bool true)] ∧ (s.fn H (ds ++ [])).args = ds ∧ (s.fn H (ds ++ [])).vars = [])
    (hres : fn.resultTypes = #[tb]) (htb : C.prog.underlying tb = some .bool)
    (types : (fn.params.toList.all fun t => C.prog.readableRec t && decide (t < C.prog.types.size)) = true)
    (witness : ∃ (w : World) (tape : Tape) (i : Input), w.os = os ∧ (w.forCall tape i).Shaped C.prog ∧ i.vars = [] ∧ Input.okWide C.prog (w.forCall tape i) .any w.heap.size f i ∧
      ((s.pre enc C.prog fn conds apart (w.forCall tape i).memory i.args ∧ laidMetH C.prog ld (w.forCall tape i).memory) ∧ sizedMet enc C.prog fn (OpenSpec.ofChange s) apart (w.forCall tape i).memory i.args) ∧ Assume.holds {} C.prog (lone (Frame.enter C.prog f i.args .normal) [] (w.forCall tape i)))
    (contract : ∀ (W : World) (base : Nat) (args : Array Value) (ds : List (DataW H)) (p : List MemPlace),
      (∀ (j : Nat) t v, fn.params[j]? = some t → args[j]? = some v → Value.okWide C.prog W .any base t v) →
      DataW.TrodAll enc C.prog W 0 (fun _ => true) true fn.params.toList args.toList ds p →
      conds.all (PathCond.test C.prog ⟨fn.params.toList, ds, s.plain.varTypes C.prog, []⟩) = true → laidMetH C.prog ld W →
      Calls C.prog f args W fun e W' => ∃ u, e = .returned u ∧ (u = .bool true ∧ Chg [] W W')) :
    ReturnsInHanded {} C os f .any (fun w args => (s.pre enc C.prog fn conds apart w args ∧ laidMetH C.prog ld w) ∧ sizedMet enc C.prog fn (OpenSpec.ofChange s) apart w args) (s.post enc C.prog fn apart fresh handsOn false) := by
  refine returnsInHanded_of_change_and (X := fun w _ => laidMetH C.prog ld w) (fun _ _ _ hh h => h.of_heap hh) own started noInit hfn witness ?_
  intro W base args ds gs before hval hW hcnd _ hL _
  have hW' := hW
  obtain ⟨p, q, hA, hV, rfl, _, _⟩ := hW
  rw [hvars] at hV
  obtain ⟨rfl, rfl⟩ := trodVars_none hV
  simp only [List.append_nil] at hW'
  refine (contract W base args ds p hval hA hcnd hL).mono fun e W' ⟨u, he, hu, hc⟩ => ?_
  subst he; subst hu
  have hb : Below W.heap.size W W' := hc.below (Nat.le_refl _) (by simp)
  obtain ⟨e1, e2, e3⟩ := hspec ds (trodAll_length hA).2
  refine ⟨_, rfl, ds, [], p, [], p, [], hW', ?_, ?_, ?_, hb.frame _, fun h => by cases h⟩
  · rw [e1, hres]
    exact trodAll_mk1 (t := tb) (v := .bool true) ⟨1, by simp [DataW.trod, Value.cells, htb]⟩
  · rw [e2]
    exact trodAll_below laid hb types hA (fun x hx => by simpa using hW'.lt x hx)
  · rw [e3, hvars]
    rfl
end Go.Vc
end

