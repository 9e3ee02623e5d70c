/-
  The conditions of the walks of some functions, one formula each; 'B<f>_run' says that they suffice. The formulas are printed by a program; the kernel compares them with the functions' code.
-/
import Derived.Test.YtebnciehcnedjaaGreatDoorSTl9
import Derived.Test.YtebnciehcnedjaaGreatDoorSTl8
import Derived.Test.YtebnciehcnedjaaGreatDoorSTl7
import Derived.Laws.IdiomStrings

set_option linter.unusedVariables false
set_option linter.unusedSimpArgs false
section
namespace Go.Proofs.YtebnciehcnedjaaGreatDoor
set_option maxRecDepth 100000
open Go.Vc
def Merrataref29_Restore (s : ByteArray) (W : World) (R : List Own) (Φ : PW) (J : Value → World → Prop) : Prop :=
  ∀ w0 R1, Ctx W w0 (R ++ R1) Φ → Calls Tryz.prog F.errataref01_Open #[.string s] w0 fun e2 w3 => ∃ p4, e2 = .returned (.pointer p4) ∧ ∃ R5 Φ6, Stable Φ6 ∧ Ctx W w3 (R5 ++ R1) Φ6 ∧ ∀ w7 R8, Ctx W w7 (R5 ++ R8) Φ6 → Calls Tryz.prog F.errataref01_Reader_Int #[.pointer p4] w7 fun e9 w10 => ∃ n11, e9 = .returned (.int .i64 n11) ∧ ∃ R12 Φ13, Stable Φ13 ∧ Ctx W w10 (R12 ++ R8) Φ13 ∧ ∀ (k14 : Nat) (w15 : World) (R16 : List Own), Ctx W w15 (Own.blk k14 [.slice none 0 0, .slice none 0 0, .int .i64 n11, .slice none 0 0, .int .i64 0] 60 :: R12 ++ R16) Φ13 → Calls Tryz.prog F.errataref01_Reader_Num #[.pointer p4] w15 fun e17 w18 => ∃ n19, e17 = .returned (.int .i64 n19) ∧ ∃ R20 Φ21, Stable Φ21 ∧ Ctx W w18 (R20 ++ R16) Φ21 ∧ exI fun (I22 : Option Addr → Nat → Nat → List Own → PW → Prop) => (exI fun (I23 : Option Addr → Nat → Nat → Int → List Own → PW → Nat → Prop) => (∃ R24 Φ25 k26, Stable Φ25 ∧ Wk W
  R20 Φ21 R24 Φ25 ∧ I23 none 0 0 0 R24 Φ25 k26) ∧ ∀ p29 k30 k31 n32 R33 I34 k35, Stable I34 → I23 p29 k30 k31 n32 R33 I34 k35 → Br (decide (n32 < n19)) (∀ w36 R37, Ctx W w36 (R33 ++ R37) I34 → Calls Tryz.prog F.errataref01_Reader_Left #[.pointer p4] w36 fun e38 w39 => ∃ n40, e38 = .returned (.int .i64 n40) ∧ ∃ R41 Φ42, Stable Φ42 ∧ Ctx W w39 (R41 ++ R37) Φ42 ∧ Br (decide (0 < n40)) (∀ w43 R44, Ctx W w43 (R41 ++ R44) Φ42 → Calls Tryz.prog F.errataref01_Reader_Text #[.pointer p4] w43 fun e45 w46 => ∃ s47, e45 = .returned (.string s47) ∧ ∃ R48 Φ49, Stable Φ49 ∧ Ctx W w46 (R48 ++ R44) Φ49 ∧ ∀ (b : Nat) (w50 : World) (R51 : List Own), Ctx W w50 (R48 ++ R51) Φ49 → Calls Tryz.prog F.errataref01_Reader_Text #[.pointer p4] w50 fun e52 w53 => ∃ s54, e52 = .returned (.string s54) ∧ ∃ R55 Φ56, Stable Φ56 ∧ Ctx W w53 (R55 ++ R51) Φ56 ∧ ∀ w57 R58, Ctx W w57 (R55 ++ R58) Φ56 → ((!decide (s54 =
  ByteArray.mk #[]) && decide (0 < (↑k30 : Int))) = true → I64 ((↑k30 : Int) - 1)) ∧ ((!decide (s54 = ByteArray.mk #[]) && decide (0 < (↑k30 : Int))) = true → 0 ≤ max ((↑k30 : Int) - 1) 0 ∧ max ((↑k30 : Int) - 1) 0 < (↑k30 : Int)) ∧ ptrK (some (!decide (s54 = ByteArray.mk #[]) && decide (0 < (↑k30 : Int)))) p29 fun k59 k60 => ∃ (s61 : ByteArray), ((!decide (s54 = ByteArray.mk #[]) && decide (0 < (↑k30 : Int))) = true → w57.cell? (Addr.mk k59 (k60 + (max ((↑k30 : Int) - 1) 0).toNat * 2) none) = some (.string s61)) ∧ ∃ (c62 : Bool), ((!decide (s54 = ByteArray.mk #[]) && decide (0 < (↑k30 : Int))) = true → ∀ (w63 : World), Sem.run Tryz.prog (binOp BinOp.geq 9 (Value.string s61) (Value.string s47)) w63 = Result.ok (Value.bool c62) w63) ∧ Br (decide (s54 = ByteArray.mk #[]) || decide (0 < (↑k30 : Int)) && c62) (∀ w64 R65, Ctx W w64 (R55 ++ R65) Φ56 → J (Value.tuple #[.pointer none, .bool
  false]) w64) (∀ (k66 : Nat) (w67 : World) (R68 : List Own), Ctx W w67 (Own.blk k66 [.string s47, .string s54] 69 :: R55 ++ R68) Φ56 → ∃ (p69 : Option Addr) (k70 k71 : Nat) (w72 : World), Sem.run Tryz.prog (builtin Builtin.append #[48, 48] 48 #[false, false] #[.slice p29 k30 k31, .slice (some (Addr.mk k66 0 none)) 1 1]) w67 = .ok (.value (.slice p69 k70 k71)) w72 ∧ ∃ R73 Φ74, Stable Φ74 ∧ Ctx W w72 (R73 ++ R68) Φ74 ∧ I64 (n32 + 1) ∧ ∃ R75 Φ76 k77, Stable Φ76 ∧ Wk W R73 Φ74 R75 Φ76 ∧ I23 p69 k70 k71 (n32 + 1) R75 Φ76 k77 ∧ k77 < k35)) (∃ R80 Φ81, Stable Φ81 ∧ Wk W R41 Φ42 R80 Φ81 ∧ I22 p29 k30 k31 R80 Φ81)) (∃ R84 Φ85, Stable Φ85 ∧ Wk W R33 I34 R84 Φ85 ∧ I22 p29 k30 k31 R84 Φ85)) ∧ ∀ (p88 : Option Addr) (k89 k90 : Nat) (R91 : List Own) (I92 : List Nat → World → Prop), Stable I92 → I22 p88 k89 k90 R91 I92 → ∀ w93 R94, Ctx W w93 (R91 ++ R94) I92 → Calls Tryz.prog F.errataref01_Reader_Done
  #[.pointer p4] w93 fun e95 w96 => ∃ c97, e95 = .returned (.bool c97) ∧ ∃ R98 Φ99, Stable Φ99 ∧ Ctx W w96 (R98 ++ R94) Φ99 ∧ Br (!c97) (∀ w100 R101, Ctx W w100 (R98 ++ R101) Φ99 → J (Value.tuple #[.pointer none, .bool false]) w100) (Br (decide ((↑k89 : Int) ≠ n19)) (∀ w102 R103, Ctx W w102 (R98 ++ R103) Φ99 → J (Value.tuple #[.pointer none, .bool false]) w102) (∀ w104 R105, Ctx W w104 (R98 ++ R105) Φ99 → ∃ n106, w104.cell? (Addr.mk k14 2 none) = some (.int .i64 n106) ∧ Br (decide (n106 < 0)) (∀ w107 R108, Ctx W w107 (R98 ++ R108) Φ99 → J (Value.tuple #[.pointer none, .bool false]) w107) (∀ w109 R110, Ctx W w109 (R98 ++ R110) Φ99 → ∃ n111, w109.cell? (Addr.mk k14 2 none) = some (.int .i64 n111) ∧ Br (decide (1099511627776 < n111)) (∀ w112 R113, Ctx W w112 (R98 ++ R113) Φ99 → J (Value.tuple #[.pointer none, .bool false]) w112) (∀ w114 R115, Ctx W w114 (R98 ++ R115) Φ99 → ∃ n116, w114.cell?
  (Addr.mk k14 2 none) = some (.int .i64 n116) ∧ ∀ w117 R118, Ctx W w117 (R98 ++ R118) Φ99 → CanWrite w117 k14 4 1 ∧ ∀ (w119 : World), w119 = w117.setCell (Addr.mk k14 4 none) (Value.int IntKind.i64 n116) → ∃ R120 Φ121, Stable Φ121 ∧ Ctx W w119 (R120 ++ R118) Φ121 ∧ ∀ w122 R123, Ctx W w122 (R120 ++ R123) Φ121 → Calls Tryz.prog F.errataref29_Store_add #[.pointer (some (Addr.mk k14 0 none)), .int .i64 1, .slice p88 k89 k90] w122 fun e124 w125 => e124 = .returned (Value.tuple #[]) ∧ ∃ R126 Φ127, Stable Φ127 ∧ Ctx W w125 (R126 ++ R123) Φ127 ∧ ∀ w128 R129, Ctx W w128 (R126 ++ R129) Φ127 → J (Value.tuple #[.pointer (some (Addr.mk k14 0 none)), .bool true]) w128))))
theorem Merrataref29_Restore_run (s : ByteArray) {W w : World} {R : List Own} {Φ : PW} [Stable Φ] {J : Value → World → Prop} (c : Ctx W w R Φ) (h : Merrataref29_Restore s W R Φ J) : Calls Tryz.prog F.errataref29_Restore #[.string s] w fun e w' => ∃ v, e = .returned v ∧ J v w' :=
  vcFS_sound (H := { keep := some [0, 2, 3, 4, 5, 6, 7, 8, 9, 25, 54, 81], track := [9], split := [6, 13], loops := [(6, [(7, .one (.slice)), (8, .one (.int .i64))], [])], cuts := [(13, [(7, .one (.slice))], [])] }) (by rw [show vcFS Tryz.prog W { keep := some [0, 2, 3, 4, 5, 6, 7, 8, 9, 25, 54, 81], track := [9], split := [6, 13], loops := [(6, [(7, .one (.slice)), (8, .one (.int .i64))], [])], cuts := [(13, [(7, .one (.slice))], [])] } F.errataref29_Restore #[.string s] R Φ J = Merrataref29_Restore s W R Φ J by kernel_rfl]; exact h) c
def Merrataref29_merge (aP : Option Addr) (aN aC : Nat) (bP : Option Addr) (bN bC : Nat) (W : World) (R : List Own) (Φ : PW) (J : Value → World → Prop) : Prop :=
  exI fun (I0 : Option Addr → Nat → Nat → Int → Int → List Own → PW → Nat → Prop) => (∃ R1 Φ2 k3, Stable Φ2 ∧ Wk W R Φ R1 Φ2 ∧ I0 none 0 0 0 0 R1 Φ2 k3) ∧ ∀ p6 k7 k8 n9 n10 R11 I12 k13, Stable I12 → I0 p6 k7 k8 n9 n10 R11 I12 k13 → Br (decide (n10 < (↑aN : Int))) (exI fun (I14 : Option Addr → Nat → Nat → Int → List Own → PW → Nat → Prop) => (∃ R15 Φ16 k17, Stable Φ16 ∧ Wk W R11 I12 R15 Φ16 ∧ I14 p6 k7 k8 n9 R15 Φ16 k17) ∧ ∀ p20 k21 k22 n23 R24 I25 k26, Stable I25 → I14 p20 k21 k22 n23 R24 I25 k26 → ∀ w27 R28, Ctx W w27 (R24 ++ R28) I25 → (decide (n23 < (↑bN : Int)) = true → I64 ((↑bN : Int) - 1)) ∧ (decide (n23 < (↑bN : Int)) = true → 0 ≤ min n23 ((↑bN : Int) - 1) ∧ min n23 ((↑bN : Int) - 1) < (↑bN : Int)) ∧ ptrK (some (decide (n23 < (↑bN : Int)))) bP fun k29 k30 => ∃ (s31 : ByteArray), (decide (n23 < (↑bN : Int)) = true → w27.cell? (Addr.mk k29 (k30 + (min n23 ((↑bN : Int) - 1)).toNat *
  2) none) = some (.string s31)) ∧ (decide (n23 < (↑bN : Int)) = true → 0 ≤ n10 ∧ n10 < (↑aN : Int)) ∧ ptrK (some (decide (n23 < (↑bN : Int)))) aP fun k32 k33 => ∃ (s34 : ByteArray), (decide (n23 < (↑bN : Int)) = true → w27.cell? (Addr.mk k32 (k33 + n10.toNat * 2) none) = some (.string s34)) ∧ Br (decide (n23 < (↑bN : Int)) && Op.bytesLess (ByteArray.toList.loop s31 0 []) (ByteArray.toList.loop s34 0 [])) ((0 ≤ n23 ∧ n23 < (↑bN : Int)) ∧ ptrK none bP fun k35 k36 => ∀ w37 R38, Ctx W w37 (R24 ++ R38) I25 → ∃ s39 s40, RowAt w37 k35 (k36 + n23.toNat * 2) [.string s39, .string s40] ∧ ∀ (k41 : Nat) (w42 : World) (R43 : List Own), Ctx W w42 (Own.blk k41 [.string s39, .string s40] 69 :: R24 ++ R43) I25 → ∃ (p44 : Option Addr) (k45 k46 : Nat) (w47 : World), Sem.run Tryz.prog (builtin Builtin.append #[48, 48] 48 #[false, false] #[.slice p20 k21 k22, .slice (some (Addr.mk k41 0 none)) 1 1]) w42 =
  .ok (.value (.slice p44 k45 k46)) w47 ∧ ∃ R48 Φ49, Stable Φ49 ∧ Ctx W w47 (R48 ++ R43) Φ49 ∧ I64 (n23 + 1) ∧ ∃ R50 Φ51 k52, Stable Φ51 ∧ Wk W R48 Φ49 R50 Φ51 ∧ I14 p44 k45 k46 (n23 + 1) R50 Φ51 k52 ∧ k52 < k26) (exI fun (I55 : Int → List Own → PW → Prop) => Br (decide (n23 < (↑bN : Int))) (∀ w56 R57, Ctx W w56 (R24 ++ R57) I25 → (0 ≤ n23 ∧ n23 < (↑bN : Int)) ∧ ptrK none bP fun k58 k59 => ∃ s60, w56.cell? (Addr.mk k58 (k59 + n23.toNat * 2) none) = some (.string s60) ∧ (0 ≤ n10 ∧ n10 < (↑aN : Int)) ∧ ptrK none aP fun k61 k62 => ∃ s63, w56.cell? (Addr.mk k61 (k62 + n10.toNat * 2) none) = some (.string s63) ∧ Br (decide (s60 = s63)) (I64 (n23 + 1) ∧ ∃ R64 Φ65, Stable Φ65 ∧ Wk W R24 I25 R64 Φ65 ∧ I55 (n23 + 1) R64 Φ65) (∃ R68 Φ69, Stable Φ69 ∧ Wk W R24 I25 R68 Φ69 ∧ I55 n23 R68 Φ69)) (∃ R72 Φ73, Stable Φ73 ∧ Wk W R24 I25 R72 Φ73 ∧ I55 n23 R72 Φ73) ∧ ∀ (n76 : Int) (R77 : List Own) (I78 : List
  Nat → World → Prop), Stable I78 → I55 n76 R77 I78 → (0 ≤ n10 ∧ n10 < (↑aN : Int)) ∧ ptrK none aP fun k79 k80 => ∀ w81 R82, Ctx W w81 (R77 ++ R82) I78 → ∃ s83 s84, RowAt w81 k79 (k80 + n10.toNat * 2) [.string s83, .string s84] ∧ ∀ (k85 : Nat) (w86 : World) (R87 : List Own), Ctx W w86 (Own.blk k85 [.string s83, .string s84] 69 :: R77 ++ R87) I78 → ∃ (p88 : Option Addr) (k89 k90 : Nat) (w91 : World), Sem.run Tryz.prog (builtin Builtin.append #[48, 48] 48 #[false, false] #[.slice p20 k21 k22, .slice (some (Addr.mk k85 0 none)) 1 1]) w86 = .ok (.value (.slice p88 k89 k90)) w91 ∧ ∃ R92 Φ93, Stable Φ93 ∧ Ctx W w91 (R92 ++ R87) Φ93 ∧ I64 (n10 + 1) ∧ ∃ R94 Φ95 k96, Stable Φ95 ∧ Wk W R92 Φ93 R94 Φ95 ∧ I0 p88 k89 k90 n76 (n10 + 1) R94 Φ95 k96 ∧ k96 < k13)) ((0 ≤ n9 ∧ n9 ≤ (↑bN : Int) ∧ bN ≤ bC) ∧ ∀ w99 R100, Ctx W w99 (R11 ++ R100) I12 → ∃ (p101 : Option Addr) (k102 k103 : Nat) (w104 : World),
  Sem.run Tryz.prog (builtin Builtin.append #[48, 48] 48 #[false, false] #[.slice p6 k7 k8, .slice (subPtr bP 2 n9.toNat bC) (bN - n9.toNat) (bC - n9.toNat)]) w99 = .ok (.value (.slice p101 k102 k103)) w104 ∧ ∃ R105 Φ106, Stable Φ106 ∧ Ctx W w104 (R105 ++ R100) Φ106 ∧ ∀ w107 R108, Ctx W w107 (R105 ++ R108) Φ106 → J (.slice p101 k102 k103) w107)
theorem Merrataref29_merge_run (aP : Option Addr) (aN aC : Nat) (bP : Option Addr) (bN bC : Nat) {W w : World} {R : List Own} {Φ : PW} [Stable Φ] {J : Value → World → Prop} (c : Ctx W w R Φ) (h : Merrataref29_merge aP aN aC bP bN bC W R Φ J) : Calls Tryz.prog F.errataref29_merge #[.slice aP aN aC, .slice bP bN bC] w fun e w' => ∃ v, e = .returned v ∧ J v w' :=
  vcFS_sound (H := { keep := some [0, 1, 4, 5, 6, 7, 11, 34, 47, 58], loops := [(6, [(5, .one (.slice)), (6, .one (.int .i64))], []), (4, [(5, .one (.slice)), (6, .one (.int .i64)), (7, .one (.int .i64))], [])], cuts := [(12, [(6, .one (.int .i64))], [])] }) (by rw [show vcFS Tryz.prog W { keep := some [0, 1, 4, 5, 6, 7, 11, 34, 47, 58], loops := [(6, [(5, .one (.slice)), (6, .one (.int .i64))], []), (4, [(5, .one (.slice)), (6, .one (.int .i64)), (7, .one (.int .i64))], [])], cuts := [(12, [(6, .one (.int .i64))], [])] } F.errataref29_merge #[.slice aP aN aC, .slice bP bN bC] R Φ J = Merrataref29_merge aP aN aC bP bN bC W R Φ J by kernel_rfl]; exact h) c
def Merrataref29_put (lP : Option Addr) (lN lC : Nat) (key : ByteArray) (value : ByteArray) (W : World) (R : List Own) (Φ : PW) (J : Value → World → Prop) : Prop :=
  exI fun (I0 : Int → List Own → PW → Nat → Prop) => (∃ R1 Φ2 k3, Stable Φ2 ∧ Wk W R Φ R1 Φ2 ∧ I0 0 R1 Φ2 k3) ∧ ∀ n6 R7 I8 k9, Stable I8 → I0 n6 R7 I8 k9 → ∀ w10 R11, Ctx W w10 (R7 ++ R11) I8 → (decide (n6 < (↑lN : Int)) = true → 0 ≤ n6 ∧ n6 < (↑lN : Int)) ∧ ptrK (some (decide (n6 < (↑lN : Int)))) lP fun k12 k13 => ∃ (s14 : ByteArray), (decide (n6 < (↑lN : Int)) = true → w10.cell? (Addr.mk k12 (k13 + n6.toNat * 2) none) = some (.string s14)) ∧ Br (decide (n6 < (↑lN : Int)) && Op.bytesLess (ByteArray.toList.loop s14 0 []) (ByteArray.toList.loop key 0 [])) (I64 (n6 + 1) ∧ ∃ R15 Φ16 k17, Stable Φ16 ∧ Wk W R7 I8 R15 Φ16 ∧ I0 (n6 + 1) R15 Φ16 k17 ∧ k17 < k9) (∀ (k20 : Nat), (0 ≤ n6 ∧ n6 ≤ (↑lN : Int) ∧ lN ≤ lC) ∧ ∀ w21 R22, Ctx W w21 (Own.blk k20 [] 69 :: R7 ++ R22) I8 → ∃ (p23 : Option Addr) (k24 k25 : Nat) (w26 : World), Sem.run Tryz.prog (builtin Builtin.append #[48, 48] 48 #[false, false]
  #[.slice (some (Addr.mk k20 0 none)) 0 0, .slice (subPtr lP 2 n6.toNat lC) (lN - n6.toNat) (lC - n6.toNat)]) w21 = .ok (.value (.slice p23 k24 k25)) w26 ∧ ∃ R27 Φ28, Stable Φ28 ∧ Ctx W w26 (R27 ++ R22) Φ28 ∧ exI fun (I29 : Option Addr → Nat → Nat → List Own → PW → Prop) => Br (decide (0 < (↑k24 : Int))) (((0 : Int) ≤ 0 ∧ 0 < (↑k24 : Int)) ∧ ptrK none p23 fun k30 k31 => ∀ w32 R33, Ctx W w32 (R27 ++ R33) Φ28 → ∃ s34, w32.cell? (Addr.mk k30 k31 none) = some (.string s34) ∧ Br (decide (s34 = key)) (((0 : Int) ≤ 1 ∧ 1 ≤ (↑k24 : Int) ∧ k24 ≤ k25) ∧ ∃ R35 Φ36, Stable Φ36 ∧ Wk W R27 Φ28 R35 Φ36 ∧ I29 (subPtr p23 2 1 k25) (k24 - 1) (k25 - 1) R35 Φ36) (∃ R39 Φ40, Stable Φ40 ∧ Wk W R27 Φ28 R39 Φ40 ∧ I29 p23 k24 k25 R39 Φ40)) (∃ R43 Φ44, Stable Φ44 ∧ Wk W R27 Φ28 R43 Φ44 ∧ I29 p23 k24 k25 R43 Φ44) ∧ ∀ (p47 : Option Addr) (k48 k49 : Nat) (R50 : List Own) (I51 : List Nat → World → Prop), Stable I51 →
  I29 p47 k48 k49 R50 I51 → ∀ (k52 : Nat), (0 ≤ n6 ∧ n6 ≤ (↑lC : Int)) ∧ ∀ w53 R54, Ctx W w53 (Own.blk k52 [] 69 :: R50 ++ R54) I51 → ∃ (p55 : Option Addr) (k56 k57 : Nat) (w58 : World), Sem.run Tryz.prog (builtin Builtin.append #[48, 48] 48 #[false, false] #[.slice (some (Addr.mk k52 0 none)) 0 0, .slice (subPtr lP 2 0 lC) n6.toNat lC]) w53 = .ok (.value (.slice p55 k56 k57)) w58 ∧ ∃ R59 Φ60, Stable Φ60 ∧ Ctx W w58 (R59 ++ R54) Φ60 ∧ ∀ (k61 : Nat) (w62 : World) (R63 : List Own), Ctx W w62 (Own.blk k61 [.string key, .string value] 69 :: R59 ++ R63) Φ60 → ∃ (p64 : Option Addr) (k65 k66 : Nat) (w67 : World), Sem.run Tryz.prog (builtin Builtin.append #[48, 48] 48 #[false, false] #[.slice p55 k56 k57, .slice (some (Addr.mk k61 0 none)) 1 1]) w62 = .ok (.value (.slice p64 k65 k66)) w67 ∧ ∃ R68 Φ69, Stable Φ69 ∧ Ctx W w67 (R68 ++ R63) Φ69 ∧ ∀ w70 R71, Ctx W w70 (R68 ++ R71) Φ69 → ∃ (p72 :
  Option Addr) (k73 k74 : Nat) (w75 : World), Sem.run Tryz.prog (builtin Builtin.append #[48, 48] 48 #[false, false] #[.slice p64 k65 k66, .slice p47 k48 k49]) w70 = .ok (.value (.slice p72 k73 k74)) w75 ∧ ∃ R76 Φ77, Stable Φ77 ∧ Ctx W w75 (R76 ++ R71) Φ77 ∧ ∀ w78 R79, Ctx W w78 (R76 ++ R79) Φ77 → J (.slice p72 k73 k74) w78)
theorem Merrataref29_put_run (lP : Option Addr) (lN lC : Nat) (key : ByteArray) (value : ByteArray) {W w : World} {R : List Own} {Φ : PW} [Stable Φ] {J : Value → World → Prop} (c : Ctx W w R Φ) (h : Merrataref29_put lP lN lC key value W R Φ J) : Calls Tryz.prog F.errataref29_put #[.slice lP lN lC, .string key, .string value] w fun e w' => ∃ v, e = .returned v ∧ J v w' :=
  vcFS_sound (H := { keep := some [0, 1, 2, 6, 7, 8, 21, 31, 37], loops := [(2, [(7, .one (.int .i64))], [])], cuts := [(8, [(8, .one (.slice))], [])] }) (by rw [show vcFS Tryz.prog W { keep := some [0, 1, 2, 6, 7, 8, 21, 31, 37], loops := [(2, [(7, .one (.int .i64))], [])], cuts := [(8, [(8, .one (.slice))], [])] } F.errataref29_put #[.slice lP lN lC, .string key, .string value] R Φ J = Merrataref29_put lP lN lC key value W R Φ J by kernel_rfl]; exact h) c
def Merrataref29_Store_settle (sB sO : Nat) (W : World) (R : List Own) (Φ : PW) (J : Value → World → Prop) : Prop :=
  exI fun (I0 : List Own → PW → Prop) => (∀ w1 R2, Ctx W w1 (R ++ R2) Φ → ∃ p3 k4 k5, w1.cell? (Addr.mk sB sO none) = some (.slice p3 k4 k5) ∧ Br (decide (8 ≤ (↑k4 : Int))) (∀ w6 R7, Ctx W w6 (R ++ R7) Φ → ∃ p8 k9 k10, w6.cell? (Addr.mk sB sO none) = some (.slice p8 k9 k10) ∧ ∀ w11 R12, Ctx W w11 (R ++ R12) Φ → Calls Tryz.prog F.errataref29_Store_add #[.pointer (some (Addr.mk sB sO none)), .int .i64 0, .slice p8 k9 k10] w11 fun e13 w14 => e13 = .returned (Value.tuple #[]) ∧ ∃ R15 Φ16, Stable Φ16 ∧ Ctx W w14 (R15 ++ R12) Φ16 ∧ ∀ w17 R18, Ctx W w17 (R15 ++ R18) Φ16 → CanWrite w17 sB sO 1 ∧ ∀ (w19 : World), w19 = w17.setCell (Addr.mk sB sO none) (Value.slice none 0 0) → ∃ R20 Φ21, Stable Φ21 ∧ Ctx W w19 (R20 ++ R18) Φ21 ∧ ∃ R22 Φ23, Stable Φ23 ∧ Wk W R20 Φ21 R22 Φ23 ∧ I0 R22 Φ23) (∃ R26 Φ27, Stable Φ27 ∧ Wk W R Φ R26 Φ27 ∧ I0 R26 Φ27)) ∧ ∀ (R30 : List Own) (I31 : List Nat → World → Prop),
  Stable I31 → I0 R30 I31 → exI fun (I32 : Int → List Own → PW → Nat → Prop) => (∃ R33 Φ34 k35, Stable Φ34 ∧ Wk W R30 I31 R33 Φ34 ∧ I32 0 R33 Φ34 k35) ∧ ∀ n38 R39 I40 k41, Stable I40 → I32 n38 R39 I40 k41 → ∀ w42 R43, Ctx W w42 (R39 ++ R43) I40 → ∃ p44 k45 k46, w42.cell? (Addr.mk sB (sO + 1) none) = some (.slice p44 k45 k46) ∧ Br (decide (n38 < (↑k45 : Int))) (∀ w47 R48, Ctx W w47 (R39 ++ R48) I40 → ∃ p49 k50 k51, w47.cell? (Addr.mk sB (sO + 1) none) = some (.slice p49 k50 k51) ∧ (0 ≤ n38 ∧ n38 < (↑k50 : Int)) ∧ ptrK none p49 fun k52 k53 => ∀ w54 R55, Ctx W w54 (R39 ++ R55) I40 → ∃ p56 k57 k58, w54.cell? (Addr.mk k52 (k53 + n38.toNat) none) = some (.slice p56 k57 k58) ∧ Br (decide ((↑k57 : Int) < 4)) (I64 (n38 + 1) ∧ ∃ R59 Φ60 k61, Stable Φ60 ∧ Wk W R39 I40 R59 Φ60 ∧ I32 (n38 + 1) R59 Φ60 k61 ∧ k61 < k41) (exI fun (I64 : Option Addr → Nat → Nat → Int → List Own → PW → Nat → Prop) => (∃
  R65 Φ66 k67, Stable Φ66 ∧ Wk W R39 I40 R65 Φ66 ∧ I64 none 0 0 3 R65 Φ66 k67) ∧ ∀ p70 k71 k72 n73 R74 I75 k76, Stable I75 → I64 p70 k71 k72 n73 R74 I75 k76 → Br (decide (0 ≤ n73)) (∀ w77 R78, Ctx W w77 (R74 ++ R78) I75 → ∃ p79 k80 k81, w77.cell? (Addr.mk sB (sO + 1) none) = some (.slice p79 k80 k81) ∧ (0 ≤ n38 ∧ n38 < (↑k80 : Int)) ∧ ptrK none p79 fun k82 k83 => ∀ w84 R85, Ctx W w84 (R74 ++ R85) I75 → ∃ p86 k87 k88, w84.cell? (Addr.mk k82 (k83 + n38.toNat) none) = some (.slice p86 k87 k88) ∧ (0 ≤ n73 ∧ n73 < (↑k87 : Int)) ∧ ptrK none p86 fun k89 k90 => ∀ w91 R92, Ctx W w91 (R74 ++ R92) I75 → ∃ p93 k94 k95, w91.cell? (Addr.mk k89 (k90 + n73.toNat) none) = some (.slice p93 k94 k95) ∧ ∀ w96 R97, Ctx W w96 (R74 ++ R97) I75 → Calls Tryz.prog F.errataref29_merge #[.slice p93 k94 k95, .slice p70 k71 k72] w96 fun e98 w99 => ∃ p100 k101 k102, e98 = .returned (.slice p100 k101 k102) ∧ ∃ R103 Φ104,
  Stable Φ104 ∧ Ctx W w99 (R103 ++ R97) Φ104 ∧ Vc.I64 (n73 - 1) ∧ ∃ R105 Φ106 k107, Stable Φ106 ∧ Wk W R103 Φ104 R105 Φ106 ∧ I64 p100 k101 k102 (n73 - 1) R105 Φ106 k107 ∧ k107 < k76) (Vc.I64 (n38 + 1) ∧ exI fun (I110 : Bool → Int → List Own → PW → Nat → Prop) => (∃ R111 Φ112 k113, Stable Φ112 ∧ Wk W R74 I75 R111 Φ112 ∧ I110 true (n38 + 1) R111 Φ112 k113) ∧ ∀ c116 n117 R118 I119 k120, Stable I119 → I110 c116 n117 R118 I119 k120 → ∀ w121 R122, Ctx W w121 (R118 ++ R122) I119 → ∃ p123 k124 k125, w121.cell? (Addr.mk sB (sO + 1) none) = some (.slice p123 k124 k125) ∧ Br (decide (n117 < (↑k124 : Int))) (∀ w126 R127, Ctx W w126 (R118 ++ R127) I119 → ∃ (p128 : Option Addr) (k129 k130 : Nat), (c116 = true → w126.cell? (Addr.mk sB (sO + 1) none) = some (.slice p128 k129 k130)) ∧ (c116 = true → 0 ≤ n117 ∧ n117 < (↑k129 : Int)) ∧ ptrK (some c116) p128 fun k131 k132 => ∃ (p133 : Option Addr) (k134 k135
  : Nat), (c116 = true → w126.cell? (Addr.mk k131 (k132 + n117.toNat) none) = some (.slice p133 k134 k135)) ∧ Vc.I64 (n117 + 1) ∧ ∃ R136 Φ137 k138, Stable Φ137 ∧ Wk W R118 I119 R136 Φ137 ∧ I110 (c116 && decide ((↑k134 : Int) = 0)) (n117 + 1) R136 Φ137 k138 ∧ k138 < k120) (exI fun (I141 : Option Addr → Nat → Nat → List Own → PW → Prop) => Br c116 (∀ w142 R143, Ctx W w142 (R118 ++ R143) I119 → Calls Tryz.prog F.errataref29_there #[.slice p70 k71 k72] w142 fun e144 w145 => ∃ p146 k147 k148, e144 = .returned (.slice p146 k147 k148) ∧ ∃ R149 Φ150, Stable Φ150 ∧ Ctx W w145 (R149 ++ R143) Φ150 ∧ ∃ R151 Φ152, Stable Φ152 ∧ Wk W R149 Φ150 R151 Φ152 ∧ I141 p146 k147 k148 R151 Φ152) (∃ R155 Φ156, Stable Φ156 ∧ Wk W R118 I119 R155 Φ156 ∧ I141 p70 k71 k72 R155 Φ156) ∧ ∀ (p159 : Option Addr) (k160 k161 : Nat) (R162 : List Own) (I163 : List Nat → World → Prop), Stable I163 → I141 p159 k160 k161 R162
  I163 → ∀ w164 R165, Ctx W w164 (R162 ++ R165) I163 → ∃ p166 k167 k168, w164.cell? (Addr.mk sB (sO + 1) none) = some (.slice p166 k167 k168) ∧ (0 ≤ n38 ∧ n38 < (↑k167 : Int)) ∧ ptrK none p166 fun k169 k170 => ∀ w171 R172, Ctx W w171 (R162 ++ R172) I163 → CanWrite w171 k169 (k170 + n38.toNat) 1 ∧ ∀ (w173 : World), w173 = w171.setCell (Addr.mk k169 (k170 + n38.toNat) none) (Value.slice none 0 0) → ∃ R174 Φ175, Stable Φ175 ∧ Ctx W w173 (R174 ++ R172) Φ175 ∧ Vc.I64 (n38 + 1) ∧ ∀ w176 R177, Ctx W w176 (R174 ++ R177) Φ175 → Calls Tryz.prog F.errataref29_Store_add #[.pointer (some (Addr.mk sB sO none)), .int .i64 (n38 + 1), .slice p159 k160 k161] w176 fun e178 w179 => e178 = .returned (Value.tuple #[]) ∧ ∃ R180 Φ181, Stable Φ181 ∧ Ctx W w179 (R180 ++ R177) Φ181 ∧ Vc.I64 (n38 + 1) ∧ ∃ R182 Φ183 k184, Stable Φ183 ∧ Wk W R180 Φ181 R182 Φ183 ∧ I32 (n38 + 1) R182 Φ183 k184 ∧ k184 < k41)))) (∀ w187
  R188, Ctx W w187 (R39 ++ R188) I40 → J (Value.tuple #[]) w187)
theorem Merrataref29_Store_settle_run (sB sO : Nat) {W w : World} {R : List Own} {Φ : PW} [Stable Φ] {J : Value → World → Prop} (c : Ctx W w R Φ) (h : Merrataref29_Store_settle sB sO W R Φ J) : Calls Tryz.prog F.errataref29_Store_settle #[.pointer (some ⟨sB, sO, none⟩)] w fun e w' => ∃ v, e = .returned v ∧ J v w' :=
  vcFS_sound (H := { keep := some [0, 2, 3, 4, 5, 6, 12, 28, 39, 41, 64, 79], loops := [(14, [(5, .one (.bool)), (6, .one (.int .i64))], []), (9, [(3, .one (.slice)), (4, .one (.int .i64))], []), (4, [(2, .one (.int .i64))], [])], cuts := [(3, [], []), (19, [(3, .one (.slice))], [])] }) (by rw [show vcFS Tryz.prog W { keep := some [0, 2, 3, 4, 5, 6, 12, 28, 39, 41, 64, 79], loops := [(14, [(5, .one (.bool)), (6, .one (.int .i64))], []), (9, [(3, .one (.slice)), (4, .one (.int .i64))], []), (4, [(2, .one (.int .i64))], [])], cuts := [(3, [], []), (19, [(3, .one (.slice))], [])] } F.errataref29_Store_settle #[.pointer (some ⟨sB, sO, none⟩)] R Φ J = Merrataref29_Store_settle sB sO W R Φ J by kernel_rfl]; exact h) c
end Go.Proofs.YtebnciehcnedjaaGreatDoor
end

section
namespace Go.Proofs.YtebnciehcnedjaaGreatDoor
open Go.Vc
structure LV where
  l : Lev
  p : Option Addr
  c : Nat
  g : Nat
  o : Nat
  cs : List (List Value)
abbrev LV.cell (x : LV) : Value := .slice x.p x.l.length x.c
structure LVok (x : LV) : Prop where
  ptr : 0 < x.l.length → x.p = some ⟨x.g, x.o, none⟩
  cap : x.l.length ≤ x.c ∧ x.c ≤ maxLen
abbrev nilV : LV := ⟨[], none, 0, 0, 0, []⟩
theorem nilV_ok : LVok nilV := ⟨fun h => (by cases h), Nat.le_refl _, Nat.zero_le _⟩
def LVE (xs : List LV) : PW := fun M w => ∀ x ∈ xs, Pin x.g x.o x.cs x.l M w
instance instStableLVE (xs : List LV) : Stable (LVE xs) := ⟨fun hs h x hx => (instStablePin x.g x.o x.cs x.l).step hs (h x hx)⟩
theorem lv_nil : ∀ {M : List Nat} {w : World}, Pin nilV.g nilV.o nilV.cs nilV.l M w := fun j h => by cases h
theorem lv_run {M : List Nat} {w : World} {x : LV} (h : Pin x.g x.o x.cs x.l M w) {j : Nat} (hj : j < x.l.length) : ∃ p c, x.cs.getD j [] = [.slice p x.l[j].length c] ∧ x.l[j].length ≤ c ∧ c ≤ maxLen := by
  obtain ⟨_, h1, h2⟩ := h j hj
  obtain ⟨p, c, e, g1, g2, _⟩ := rep_list.1 h2
  exact ⟨p, c, e, g1, g2⟩
abbrev rlO (sb : Nat) (a : Value) (lp : Option Addr) (lc : Nat) (xs : List LV) (c d e : Value) (S : List Own) : List Own :=
  .blk sb [a, .slice lp xs.length lc, c, d, e] 60 :: .buf lp xs.length lc (xs.map LV.cell) 103 1 :: S
set_option maxHeartbeats 4000000 in
theorem add29_use {W w : World} {S : List Own} {Φ : PW} [Stable Φ] {sb : Nat} {a c d e : Value} {lp : Option Addr} {lc : Nat} {xs : List LV} {i : Nat} {rp : Option Addr} {rc : Nat} {r : Run} [hR : Has Φ (fun M w => Sl M w rp r)] (hr1 : r.length ≤ rc) (hr2 : rc ≤ maxLen) (hi : i ≤ 1000) (hL : xs.length ≤ 1000) (hlv : ∀ x ∈ xs, x.l.length ≤ 1000) (hok : ∀ x ∈ xs, LVok x)
    (cx : Ctx W w (rlO sb a lp lc xs c d e S) (fun M w => Φ M w ∧ LVE xs M w)) {K : Ending → World → Prop}
    (hK : ∀ lp' lc' xs' w', xs'.map LV.l = addAt i (xs.map LV.l) r → (∀ x ∈ xs', LVok x) → Ctx W w' (rlO sb a lp' lc' xs' c d e S) (fun M w => Φ M w ∧ LVE xs' M w) → K (.returned (.tuple #[])) w') :
    Calls Tryz.prog F.errataref29_Store_add #[.pointer (some ⟨sb, 0, none⟩), .int .i64 i, .slice rp r.length rc] w K := by
  have stE : ∀ (xs : List LV), Stable (fun M w => Φ M w ∧ LVE xs M w) := fun xs => instStableAnd Φ (LVE xs)
  have hst := stE xs
  refine (Berrataref29_Store_add_run sb 0 i rp r.length rc (J := fun u w' => K (.returned u) w') cx ?_).mono fun e w' ⟨v, he, hj⟩ => by rw [he]; exact hj
  clear cx
  refine exI_mk (fun R' Φ' k => ∃ (lq : Option Addr) (ld : Nat) (m : Nat), (m = 0 ∨ xs.length + m ≤ i + 1) ∧ R' = rlO sb a lq ld (xs ++ List.replicate m nilV) c d e S ∧ Φ' = (fun M w => Φ M w ∧ LVE (xs ++ List.replicate m nilV) M w) ∧ k = i + 1 - (xs.length + m))
    ⟨⟨_, _, _, hst, fun w G cx => cx, lp, lc, 0, .inl rfl, by rw [List.replicate_zero, List.append_nil], by rw [List.replicate_zero, List.append_nil], rfl⟩, ?_⟩
  rintro R1 Φ1 k _ ⟨lq, ld, m, hm, rfl, rfl, rfl⟩
  obtain ⟨B, hB⟩ : ∃ B, xs ++ List.replicate m nilV = B := ⟨_, rfl⟩
  have hBl : B.length = xs.length + m := by rw [← hB, List.length_append, List.length_replicate]
  have hBm : B.map LV.l = xs.map LV.l ++ List.replicate m [] := by rw [← hB, List.map_append, List.map_replicate]
  have hBx : ∀ x ∈ B, x.l.length ≤ 1000 ∧ LVok x := fun x hx => by
    rw [← hB] at hx
    rcases List.mem_append.1 hx with hx | hx
    · exact ⟨hlv x hx, hok x hx⟩
    · rw [List.eq_of_mem_replicate hx]; exact ⟨Nat.zero_le _, nilV_ok⟩
  rw [hB]
  have hst1 := stE B
  refine fun w G cx => ⟨lq, B.length, ld, cx.get 0 rfl rfl, Br.intro (fun hle => ?_) (fun hgt => ?_)⟩
  · have hle : B.length ≤ i := by have := of_decide_eq_true hle; omega
    clear cx
    refine fun w G cx => ⟨lq, B.length, ld, cx.get 0 rfl rfl, fun k w G cx => ?_⟩
    have cx1 : Ctx W w (.blk k [Value.slice none 0 0] 103 :: .buf lq B.length ld (B.map LV.cell) 103 1 :: Own.blk sb [a, .slice lq B.length ld, c, d, e] 60 :: (S ++ G)) (fun M w => Φ M w ∧ LVE B M w) := cx.perm (List.Perm.cons _ (List.Perm.swap _ _ _))
    obtain ⟨p', cap', w', hr, _, cx2⟩ := cx1.app1 (ts := 58) (ty := 58) (kb := #[false, false]) (bytes := 24) (P := Tryz.prog) (by kernel_rfl) (by omega) rfl rfl (by omega) (by omega)
    refine ⟨p', _, cap', w', hr, .blk sb [a, .slice lq B.length ld, c, d, e] 60 :: .buf p' (B.length + 1) cap' (B.map LV.cell ++ [Value.slice none 0 0]) 103 1 :: S, _, hst1, cx2.swap, fun w G cx => ⟨cx.can 0 rfl (by show 0 + 1 + 1 ≤ 5; omega), fun w' hw' => ?_⟩⟩
    have cx4 := cx.put 0 hw' rfl
    have eB : xs ++ List.replicate (m + 1) nilV = B ++ [nilV] := by rw [List.replicate_succ', ← List.append_assoc, hB]
    have eL : (B ++ [nilV]).length = B.length + 1 := by rw [List.length_append]; rfl
    have eM : (B ++ [nilV]).map LV.cell = B.map LV.cell ++ [Value.slice none 0 0] := by rw [List.map_append]; rfl
    refine ⟨.blk sb [a, .slice p' (B.length + 1) cap', c, d, e] 60 :: .buf p' (B.length + 1) cap' (B.map LV.cell ++ [Value.slice none 0 0]) 103 1 :: S, _, hst1, cx4, rlO sb a p' cap' (B ++ [nilV]) c d e S, _, i + 1 - (xs.length + (m + 1)), stE (B ++ [nilV]), fun w G cx => ?_, ⟨p', cap', m + 1, .inr (by omega), by rw [eB], by rw [eB], rfl⟩, by omega⟩
    unfold rlO
    rw [eL, eM]
    exact cx.weak (Ψ := fun M w => Φ M w ∧ LVE (B ++ [nilV]) M w) fun M w h => ⟨h.1, fun x hx => by
      rcases List.mem_append.1 hx with hx | hx
      · exact h.2 x hx
      · rw [List.mem_singleton.1 hx]; exact lv_nil⟩
  have hgt : i < B.length := by have := of_decide_eq_false hgt; omega
  have hmm : m = i + 1 - xs.length := by omega
  obtain ⟨g, hg, _⟩ := cx.bufCell 1 rfl (by rw [List.length_map]; omega)
  subst hg
  clear cx
  refine Br.intro (fun hrn => ?_) (fun hrn => fun w G cx => ?_)
  rotate_left
  · have hr0 : r = [] := List.eq_nil_of_length_eq_zero (by have := of_decide_eq_false hrn; omega)
    refine hK (some ⟨g, 0, none⟩) ld B w ?_ (fun x hx => (hBx x hx).2) cx.left
    rw [addAt_eq, if_pos hr0, List.length_map, ← hmm, hBm]
  have hrn : r ≠ [] := fun h => by rw [h] at hrn; have := of_decide_eq_true hrn; simp at this
  obtain ⟨x, hx⟩ : ∃ x, B[i] = x := ⟨_, rfl⟩
  have hxm : x ∈ B := by rw [← hx]; exact List.getElem_mem hgt
  obtain ⟨hxl, hxo⟩ := hBx x hxm
  have hcell : (B.map LV.cell)[i]? = some x.cell := by rw [List.getElem?_map, List.getElem?_eq_getElem hgt, hx]; rfl
  have hcl : (B.map LV.cell).length = B.length := List.length_map _
  have ti : ((i : Int)).toNat = i := Int.toNat_natCast i
  have hsub : ∀ (G : List Own), ([Own.blk sb [a, .slice (some ⟨g, 0, none⟩) B.length ld, c, d, e] 60, Own.buf (some ⟨g, 0, none⟩) B.length ld (B.map LV.cell) 103 1] ++ G).Sublist (rlO sb a (some ⟨g, 0, none⟩) ld B c d e S ++ G) := fun G =>
    (((List.nil_sublist S).cons_cons _).cons_cons _).append_right G
  refine ⟨[Own.blk sb [a, .slice (some ⟨g, 0, none⟩) B.length ld, c, d, e] 60, Own.buf (some ⟨g, 0, none⟩) B.length ld (B.map LV.cell) 103 1], fun _ _ => True, inferInstance, fun w G cx => (cx.sub (hsub G)).weak fun _ _ _ => trivial, _, B.length, ld, fun w G cx => ⟨_, _, _, cx.get 0 rfl rfl, rfl⟩, _, B.length, ld, fun w G cx => ⟨_, _, _, cx.get 0 rfl rfl, rfl⟩, ⟨by omega, by omega⟩, ptrK_intro g 0 rfl ⟨x.p, x.l.length, x.c, fun w G cx => ⟨_, _, _, by rw [Nat.zero_add, ti]; exact cx.bufGet 1 rfl rfl hcell, rfl⟩, fun k => ⟨fun w G cx => (cx.drop1.sub (hsub G)).weak fun _ _ _ => trivial, fun w G cx => ?_⟩⟩⟩
  have cx1 : Ctx W w (.buf (some ⟨k, 0, none⟩) 1 1 [.slice rp r.length rc] 48 1 :: (rlO sb a (some ⟨g, 0, none⟩) ld B c d e S ++ G)) (fun M w => Φ M w ∧ LVE B M w) := Ctx.toBuf cx 0 1 1 rfl rfl (by simp [maxLen])
  have hsl : ∀ M w, Φ M w ∧ LVE B M w → Sl M w x.p x.l := fun M w h => by
    have h1 := h.2 x hxm
    intro j hj
    obtain ⟨a1, a2, a3⟩ := h1 j hj
    exact ⟨x.g, x.o, x.cs.getD j [], hxo.ptr (by omega), a1, a2, a3⟩
  obtain ⟨p', cap', w', news, hrun, cx2⟩ := Ctx.appAnyV (α := Run) (P := Tryz.prog) (ts := 103) (tv := 103) (ty := 103) (u := 48) (kb := #[false, false]) (bytes := 24) (c2 := x.c) (l := x.l) (q := x.p) cx1 (by kernel_rfl) (by kernel_rfl) run_one hsl (by omega) (by omega)
  have he : Elems (dom (Own.buf p' (1 + x.l.length) cap' ([.slice rp r.length rc] ++ news) 48 1 :: (rlO sb a (some ⟨g, 0, none⟩) ld B c d e S ++ G))) w' (Value.slice rp r.length rc :: news) (r :: x.l) := elems_cons (rep_list.2 ⟨rp, rc, rfl, hr1, hr2, hR.go _ _ cx2.phi.1.1⟩) cx2.phi.2
  obtain ⟨c1, hs, eln, h2, h3⟩ := Ctx.freeze (α := Run) (l := r :: x.l) cx2 he
  obtain ⟨yg, yo, ycs, hyp, cx3⟩ := (c1.weak (Ψ := fun M w => Φ M w ∧ LVE B M w) fun M w h => h.1).pin hs
  obtain ⟨y, hy⟩ : ∃ y : LV, y = ⟨r :: x.l, p', cap', yg, yo, ycs⟩ := ⟨_, rfl⟩
  have hyl : y.l = r :: x.l := by rw [hy]
  have hyo : LVok y := by rw [hy]; exact ⟨hyp, by show (r :: x.l).length ≤ cap'; rw [List.length_cons]; omega, h3⟩
  have hyc : y.cell = .slice p' (1 + x.l.length) cap' := by rw [hy]; show Value.slice p' (r :: x.l).length cap' = _; rw [List.length_cons, Nat.add_comm]
  have cx3 : Ctx W w' (rlO sb a (some ⟨g, 0, none⟩) ld B c d e S ++ G) (fun M w => (Φ M w ∧ LVE B M w) ∧ Pin y.g y.o y.cs y.l M w) := by rw [hy]; exact cx3
  have st3 : Stable (fun M w => (Φ M w ∧ LVE B M w) ∧ Pin y.g y.o y.cs y.l M w) := instStableAnd (fun M w => Φ M w ∧ LVE B M w) (fun M w => Pin y.g y.o y.cs y.l M w)
  refine ⟨p', _, cap', w', hrun, rlO sb a (some ⟨g, 0, none⟩) ld B c d e S, _, st3, cx3, fun w G cx => (cx.sub (hsub G)).weak fun _ _ _ => trivial, ⟨by omega, by omega⟩, ptrK_intro g 0 rfl fun w G cx => ⟨by rw [Nat.zero_add, ti]; exact cx.bufCan 1 rfl rfl (by omega), fun w' hw' => ?_⟩⟩
  rw [Nat.zero_add, ti] at hw'
  have cx5 := cx.bufPuts 1 (vs := [.slice p' (1 + x.l.length) cap']) (b := g) (o := i) (w' := w') rfl rfl (by omega) (by show i + 1 ≤ _; omega) hw'
  have hcs : setL (B.map LV.cell) i [.slice p' (1 + x.l.length) cap'] = (B.set i y).map LV.cell := by
    rw [List.map_set, hyc]
    rfl
  rw [hcs] at cx5
  have hlen : (B.set i y).length = B.length := List.length_set
  have cx6 := cx5.weak (Ψ := fun M w => Φ M w ∧ LVE (B.set i y) M w) fun M w h => ⟨h.1.1, fun z hz => by
    rcases List.mem_or_eq_of_mem_set hz with hz | hz
    · exact h.1.2 z hz
    · rw [hz]; exact h.2⟩
  refine ⟨rlO sb a (some ⟨g, 0, none⟩) ld (B.set i y) c d e S, _, stE _, by unfold rlO; rw [hlen]; exact cx6, fun w G cx => hK (some ⟨g, 0, none⟩) ld (B.set i y) w ?_ (fun z hz => ?_) cx.left⟩
  · have eg : (xs.map LV.l ++ List.replicate m []).getD i [] = x.l := by rw [← hBm, List.getD_eq_getElem?_getD, List.getElem?_map, List.getElem?_eq_getElem hgt, hx]; rfl
    rw [addAt_eq, if_neg hrn, List.length_map, ← hmm, eg, ← hBm, List.map_set, hyl]
  · rcases List.mem_or_eq_of_mem_set hz with hz | hz
    · exact (hBx z hz).2
    · rw [hz]; exact hyo
structure RO where
  sb : Nat
  tp : Option Addr
  tc : Nat
  lp : Option Addr
  lc : Nat
  xs : List LV
  gp : Option Addr
  gc : Nat
  gs : List Value
abbrev rfO (q : RO) (s : StD) (S : List Own) : List Own :=
  rlO q.sb (.slice q.tp s.table.length q.tc) q.lp q.lc q.xs (.int .i64 s.seq) (.slice q.gp s.log.length q.gc) (.int .i64 s.cut) (.buf q.gp s.log.length q.gc q.gs 46 3 :: S)
abbrev rfF (q : RO) (s : StD) : PW := fun M w => (Sl M w q.tp s.table ∧ Elems M w q.gs s.log) ∧ LVE q.xs M w
structure RfQ (q : RO) (s : StD) : Prop where
  tab : s.table.length ≤ q.tc ∧ q.tc ≤ maxLen
  lev : q.xs.map LV.l = s.levels
  ok : ∀ x ∈ q.xs, LVok x
instance instStableRf (Φ : PW) [Stable Φ] (q : RO) (s : StD) : Stable (fun M w => Φ M w ∧ rfF q s M w) :=
  instStableAnd Φ (fun M w => (Sl M w q.tp s.table ∧ Elems M w q.gs s.log) ∧ LVE q.xs M w)
theorem rfO_app (q : RO) (s : StD) (S : List Own) : rfO q s S = rfO q s [] ++ S := rfl
theorem New29_use {W w : World} {S : List Own} {Φ : PW} [Stable Φ] (cx : Ctx W w S Φ) {K : Ending → World → Prop}
    (hK : ∀ q w', RfQ q stNew → Ctx W w' (rfO q stNew S) (fun M w => Φ M w ∧ rfF q stNew M w) → K (.returned (.pointer (some ⟨q.sb, 0, none⟩))) w') : Calls Tryz.prog F.errataref29_New #[] w K := by
  refine (Berrataref29_New_run (J := fun u w' => K (.returned u) w') cx ?_).mono fun e w' ⟨v, he, hj⟩ => by rw [he]; exact hj
  intro k w G cx
  have c1 := ((cx.left.nobuf 46 3).nobuf 103 1)
  refine hK ⟨k, none, 0, none, 0, [], none, 0, []⟩ w ⟨⟨Nat.le_refl _, Nat.zero_le _⟩, rfl, fun x hx => by cases hx⟩ ((c1.perm ?_).weak fun M w h => ⟨h, ⟨Sl.nil, Elems.nil⟩, fun x hx => by cases hx⟩)
  exact List.perm_middle (l₁ := [Own.buf none 0 0 [] 103 1, Own.buf none 0 0 [] 46 3])
end Go.Proofs.YtebnciehcnedjaaGreatDoor
end

section
namespace Go.Proofs.YtebnciehcnedjaaGreatDoor
open Go.Vc
theorem neg_tmod10 (n : Nat) : (-(n : Int)).tmod 10 = -((n % 10 : Nat) : Int) := by
  rw [Int.neg_tmod]; rfl
theorem neg_tdiv10 (n : Nat) : (-(n : Int)).tdiv 10 = -((n / 10 : Nat) : Int) := by
  rw [Int.neg_tdiv]; rfl
theorem wrap_dig (d : Nat) (h : d < 10) : IntKind.u8.wrap (48 - -(d : Int)) = ((UInt8.ofNat (48 + d)).toNat : Int) := by
  have : ∀ d : Fin 10, IntKind.u8.wrap (48 - -((d.val : Nat) : Int)) = ((UInt8.ofNat (48 + d.val)).toNat : Int) := by decide
  exact this ⟨d, h⟩
theorem mk_app (l : List UInt8) (b : ByteArray) : (⟨l.toArray⟩ : ByteArray) ++ b = ⟨(l ++ b.data.toList).toArray⟩ := by
  apply ByteArray.ext
  rw [ByteArray.data_append]
  apply Array.toList_inj.1
  simp
theorem digits_g : ∀ (n : Nat), n ≤ 9223372036854775808 → Gives Tryz.prog F.errataref01_digits #[.int .i64 (-(n : Int))] (.string ⟨(Lib.decDigits n).toArray⟩) := by
  intro n
  induction n using Nat.strongRecOn with
  | _ n ih =>
    intro hn
    refine gives_of (Berrataref01_digits_run (-(n : Int))) fun W R Φ hs => ?_
    have e0 : (48 : Int) - (-(n : Int)).tmod 10 = 48 - -((n % 10 : Nat) : Int) := by rw [neg_tmod10]
    refine ⟨by omega, by rw [e0]; unfold I64; omega, fun k w G cx => ?_⟩
    rw [e0, wrap_dig _ (by omega)] at cx
    have hcell : ∀ j, (hj : j < [UInt8.ofNat (48 + n % 10)].length) → w.cell? ((⟨k, 0, none⟩ : Addr).add j) = some (.int .u8 ([UInt8.ofNat (48 + n % 10)][j].toNat : Int)) := fun j hj => by
      obtain rfl : j = 0 := by simpa using hj
      exact cx.get 0 rfl rfl
    refine ⟨_, _, run_convert_bytes_back w 87 9 5 ⟨k, 0, none⟩ 1 [UInt8.ofNat (48 + n % 10)] (by kernel_rfl) (by kernel_rfl) (by kernel_rfl) hcell, R, Φ, hs, cx.drop1, ?_⟩
    clear cx
    refine Br.intro (fun h => fun w G cx => ⟨?_, cx.left⟩) (fun h => ?_)
    · have h := of_decide_eq_true h
      rw [Lib.decDigits, dif_pos (by omega), show n % 10 = n by omega]
    · have h := of_decide_eq_false h
      have e1 := neg_tdiv10 n
      refine ⟨by omega, by rw [e1]; unfold I64; omega, fun w G cx => ?_⟩
      rw [e1]
      have hl := nDigits_le 19 (n / 10) (by omega) (by decide)
      have hd := Lib.decDigits_length (n / 10)
      refine ((ih (n / 10) (by omega) (by omega)).in).toS cx ⟨?_, fun w G cx => ⟨?_, cx.left⟩⟩
      · show (ByteArray.mk (Lib.decDigits (n / 10)).toArray).size + 1 ≤ _
        rw [size_list, hd]; omega
      · conv => rhs; rw [Lib.decDigits, dif_neg (by omega)]
        rw [mk_app]
theorem Int01_g (n : Int) (h : I64 n) : Gives Tryz.prog F.errataref01_Int #[.int .i64 n] (.string (intB n)) := by
  have hs := intB_size h
  unfold intB numB at hs
  rw [size_app, size_list, show (ByteArray.mk #[59]).size = 1 from rfl] at hs
  unfold I64 at h
  refine gives_of (Berrataref01_Int_run n) fun W R Φ _ => Br.intro (fun hn => ?_) (fun hn => ?_)
  · have hn := of_decide_eq_true hn
    have e : n = -((n.natAbs : Nat) : Int) := by omega
    have hi : Lib.itoa n = 45 :: Lib.decDigits n.natAbs := by unfold Lib.itoa; rw [if_pos hn]
    have hg := digits_g n.natAbs (by omega)
    rw [← e] at hg
    rw [hi, List.length_cons] at hs
    have e45 : (ByteArray.mk #[45]) ++ ByteArray.mk (Lib.decDigits n.natAbs).toArray = numB n := by
      unfold numB
      rw [show (ByteArray.mk #[45]) = ⟨[(45 : UInt8)].toArray⟩ from rfl, mk_app, hi]
      rfl
    refine fun w G cx => (hg.in).toS cx ⟨?_, ?_, fun w G cx => ⟨?_, cx.left⟩⟩
    · show 1 + (ByteArray.mk (Lib.decDigits n.natAbs).toArray).size ≤ _
      rw [size_list]; omega
    · show ((ByteArray.mk #[45]) ++ ByteArray.mk (Lib.decDigits n.natAbs).toArray).size + 1 ≤ _
      have e1 : (ByteArray.mk #[45]).size = 1 := rfl
      rw [size_app, size_list (Lib.decDigits n.natAbs), e1]
      omega
    · unfold intB
      rw [← e45]
  · have hn := of_decide_eq_false hn
    have e : 0 - n = -((n.toNat : Nat) : Int) := by omega
    have hi : Lib.itoa n = Lib.decDigits n.toNat := by unfold Lib.itoa; rw [if_neg hn]
    have hg := digits_g n.toNat (by omega)
    rw [← e, ← hi] at hg
    refine ⟨by unfold I64; omega, fun w G cx => (hg.in).toS cx ⟨?_, fun w G cx => ⟨rfl, cx.left⟩⟩⟩
    show (ByteArray.mk (Lib.itoa n).toArray).size + 1 ≤ _
    rw [size_list]; omega
theorem Num01_g (n : Int) (h : I64 n) : Gives Tryz.prog F.errataref01_Num #[.int .i64 n] (.string (natB n)) := by
  refine gives_of (Berrataref01_Num_run n) fun W R Φ _ => Br.intro (fun hn => fun w G cx => ⟨?_, cx.left⟩) (fun hn => fun w G cx => ((Int01_g n h).in).toS cx fun w G cx => ⟨?_, cx.left⟩)
  · unfold natB; rw [if_pos (of_decide_eq_true hn)]
  · unfold natB; rw [if_neg (of_decide_eq_false hn)]
theorem Text01_g (s : ByteArray) (hs : s.size ≤ 1000000000000) : Gives Tryz.prog F.errataref01_Text #[.string s] (.string (textB s)) := by
  have h1 := numB_size (n := (s.size : Int)) (by unfold I64; omega)
  have e : (0 : Int) - s.size = -((s.size : Nat) : Int) := by omega
  have hg := digits_g s.size (by omega)
  have hi : Lib.itoa (s.size : Int) = Lib.decDigits s.size := by unfold Lib.itoa; rw [if_neg (by omega)]; rfl
  rw [← e, ← hi] at hg
  have e1 : (ByteArray.mk #[58]).size = 1 := rfl
  refine gives_of (Berrataref01_Text_run s) fun W R Φ _ => ⟨by unfold I64; omega, fun w G cx => (hg.in).toS cx ⟨?_, ?_, ?_, fun w G cx => ⟨rfl, cx.left⟩⟩⟩
  · show (numB s.size).size + 1 ≤ _; omega
  · show (numB s.size ++ ByteArray.mk #[58]).size + s.size ≤ _; rw [size_app, e1]; omega
  · show (numB s.size ++ ByteArray.mk #[58] ++ s).size + 1 ≤ _; rw [size_app, size_app, e1]; omega
end Go.Proofs.YtebnciehcnedjaaGreatDoor
end

section
namespace Go.Proofs.YtebnciehcnedjaaGreatDoor
open Go.Vc
theorem getI : ∀ (l : List UInt8) (i : Nat), l.get?Internal i = l[i]?
  | [], _ => rfl
  | _ :: _, 0 => rfl
  | x :: l, i + 1 => by
    show l.get?Internal i = (x :: l)[i + 1]?
    rw [getI l i]; rfl
def RdOk (st : RdS) : Prop := st.2 = true → st.1 = []
theorem rdOk0 (l : List UInt8) : RdOk (l, false) := fun h => by cases h
theorem rdOkF : RdOk ([], true) := fun _ => rfl
theorem numP_nil (e : UInt8) (least : Int) : numP e least [] = none := by
  unfold numP
  simp [Lib.indexByte]
theorem stepN_ok {e : UInt8} {least : Int} {st : RdS} (h : RdOk st) : RdOk (stepN e least st).2 := by
  unfold stepN
  cases hn : numP e least st.1 with
  | none => exact rdOkF
  | some x =>
    obtain ⟨n, r⟩ := x
    intro hb
    have hb : st.2 = true := hb
    rw [h hb, numP_nil] at hn
    cases hn
theorem stepC_ok {c : UInt8} {st : RdS} (h : RdOk st) : RdOk (stepC c st) := by
  obtain ⟨l, b⟩ := st
  cases l with
  | nil => exact rdOkF
  | cons x r =>
    unfold stepC
    simp only
    split
    · intro hb
      have := h hb
      cases this
    · exact rdOkF
theorem rdInt_ok {st : RdS} (h : RdOk st) : RdOk (rdInt st).2 := stepN_ok h
theorem rdNat_ok {st : RdS} (h : RdOk st) : RdOk (rdNat st).2 := stepN_ok h
theorem stepT_ok {st : RdS} (h : RdOk st) : RdOk (stepT st).2 := by
  unfold stepT
  simp only
  split
  · exact rdOkF
  · refine stepC_ok fun hb => ?_
    have := stepN_ok (e := 58) (least := 0) h hb
    simp only
    rw [this, List.drop_nil]
theorem itoa_digs {l : List UInt8} {f : Nat} (hf : f = 1 ∧ l[0]? = some 45 ∨ f = 0 ∧ l[0]? ≠ some 45) {n : Int} (hn : I64 n) (e : l = Lib.itoa n) : ∃ u : Nat, l.drop f = Lib.decDigits u ∧ u ≤ 9223372036854775808 ∧ n = (if f = 1 then -(u : Int) else u) := by
  unfold I64 at hn
  unfold Lib.itoa at e
  split at e
  · rename_i h
    rcases hf with ⟨rfl, h0⟩ | ⟨rfl, h0⟩
    · exact ⟨n.natAbs, by rw [e]; rfl, by omega, by rw [if_pos rfl]; omega⟩
    · rw [e] at h0; exact absurd rfl h0
  · rename_i h
    rcases hf with ⟨rfl, h0⟩ | ⟨rfl, h0⟩
    · have hd := digits_chars n.toNat 45 (by rw [← e]; exact List.mem_of_getElem? h0)
      exact absurd hd.1 (by decide)
    · exact ⟨n.toNat, by rw [e]; rfl, by omega, by rw [if_neg (by decide)]; omega⟩
theorem digV_pre (D : List UInt8) (k : Nat) : digV 0 (D.take k) ≤ digV 0 D := by
  have h := digV_mono (D.drop k) (digV 0 (D.take k))
  have e : digV (digV 0 (D.take k)) (D.drop k) = digV 0 D := by
    unfold digV
    rw [← List.foldl_append, List.take_append_drop]
  omega
theorem u8_dig {c : UInt8} (h : 48 ≤ c.toNat ∧ c.toNat ≤ 57) : IntKind.i64.wrap (IntKind.u8.wrap ((c.toNat : Int) - 48)) = ((c.toNat - 48 : Nat) : Int) := by
  have e : ((c.toNat : Int) - 48) = ((c.toNat - 48 : Nat) : Int) := by omega
  rw [e]
  have h2 : IntKind.u8.wrap ((c.toNat - 48 : Nat) : Int) = ((c.toNat - 48 : Nat) : Int) := by simp [IntKind.wrap, IntKind.signed, IntKind.bits]; omega
  rw [h2, i64_wrap (by unfold I64; omega)]
theorem wrap_i64 (x : Int) : I64 (IntKind.i64.wrap x) := by
  unfold I64
  simp [IntKind.wrap, IntKind.signed, IntKind.bits]
  split <;> omega
def BackI (l : List UInt8) (f j : Nat) (acc : Int) : Prop := f ≤ j ∧ j ≤ l.length ∧ I64 acc ∧ ∀ n, I64 n → l = Lib.itoa n → acc = -((digV 0 ((l.drop f).take (j - f)) : Nat) : Int)
theorem backI0 {l : List UInt8} {f : Nat} (h : f ≤ l.length) : BackI l f f 0 := ⟨Nat.le_refl _, h, by unfold I64; decide, fun n _ _ => by rw [Nat.sub_self, List.take_zero]; rfl⟩
theorem back_dig {l : List UInt8} {f j : Nat} (hf : f = 1 ∧ l[0]? = some 45 ∨ f = 0 ∧ l[0]? ≠ some 45) (hfj : f ≤ j) {c : UInt8} (hc : l[j]? = some c) {n : Int} (hn : I64 n) (e : l = Lib.itoa n) : (48 ≤ c.toNat ∧ c.toNat ≤ 57) ∧ j ≤ 20 := by
  obtain ⟨u, hu, _, _⟩ := itoa_digs hf hn e
  refine ⟨digits_chars u c ?_, ?_⟩
  · rw [← hu]
    refine List.mem_of_getElem? (i := j - f) ?_
    rw [List.getElem?_drop, show f + (j - f) = j by omega]
    exact hc
  · have := itoa_len hn
    rw [← e] at this
    have := (List.getElem?_eq_some_iff.1 hc).1
    omega
theorem backI_step {l : List UInt8} {f j : Nat} {acc : Int} (hf : f = 1 ∧ l[0]? = some 45 ∨ f = 0 ∧ l[0]? ≠ some 45) (h : BackI l f j acc) {c : UInt8} (hc : l[j]? = some c) : BackI l f (j + 1) (IntKind.i64.wrap (IntKind.i64.wrap (10 * acc) - IntKind.i64.wrap (IntKind.u8.wrap ((c.toNat : Int) - 48)))) := by
  obtain ⟨h1, h2, h3, h4⟩ := h
  have hjl := (List.getElem?_eq_some_iff.1 hc).1
  refine ⟨by omega, by omega, wrap_i64 _, fun n hn e => ?_⟩
  have h5 := h4 n hn e
  obtain ⟨u, hu, hub, _⟩ := itoa_digs hf hn e
  obtain ⟨hd, _⟩ := back_dig hf h1 hc hn e
  have hs : (l.drop f).take (j + 1 - f) = (l.drop f).take (j - f) ++ [c] := by
    rw [show j + 1 - f = (j - f) + 1 by omega, List.take_add_one, List.getElem?_drop, show f + (j - f) = j by omega, hc]
    rfl
  have hpre := digV_pre (l.drop f) (j + 1 - f)
  rw [hu] at hpre
  rw [digV_dec u] at hpre
  rw [← hu, hs, digV_snoc] at hpre
  rw [hs, digV_snoc, h5, u8_dig hd]
  rw [i64_wrap (n := 10 * -((digV 0 ((l.drop f).take (j - f)) : Nat) : Int)) (by unfold I64; omega)]
  rw [i64_wrap (by unfold I64; omega)]
  omega
theorem backI_end {l : List UInt8} {f j : Nat} {acc : Int} (hf : f = 1 ∧ l[0]? = some 45 ∨ f = 0 ∧ l[0]? ≠ some 45) (h : BackI l f j acc) (hj : l.length ≤ j) {n : Int} (hn : I64 n) (e : l = Lib.itoa n) : n = (if f = 1 then acc else IntKind.i64.wrap (0 - acc)) := by
  obtain ⟨h1, h2, h3, h4⟩ := h
  have h5 := h4 n hn e
  obtain ⟨u, hu, hub, hn2⟩ := itoa_digs hf hn e
  rw [List.take_of_length_le (by rw [List.length_drop]; omega), hu, digV_dec] at h5
  rcases hf with ⟨rfl, _⟩ | ⟨rfl, _⟩
  · rw [if_pos rfl] at hn2 ⊢
    omega
  · rw [if_neg (by decide)] at hn2 ⊢
    unfold I64 at hn
    rw [h5, i64_wrap (by unfold I64; omega)]
    omega
theorem intB_semi {n : Int} {l : List UInt8} : (intB n = bs l ++ ByteArray.mk #[59]) ↔ l = Lib.itoa n := by
  have e1 : (intB n).data.toList = Lib.itoa n ++ [59] := by unfold intB numB; simp [ByteArray.data_append]
  have e2 : (bs l ++ ByteArray.mk #[59]).data.toList = l ++ [59] := by simp [bs, ByteArray.data_append]
  constructor
  · intro h
    have h2 : (intB n).data.toList = (bs l ++ ByteArray.mk #[59]).data.toList := by rw [h]
    rw [e1, e2] at h2
    exact (List.append_cancel_right h2).symm
  · intro h
    apply ByteArray.ext
    apply Array.toList_inj.1
    rw [e1, e2, h]
section
variable {W w : World} {R G S : List Own} {Φ : PW} {b : Nat} {st : RdS}
theorem Back_to [Stable Φ] (l : List UInt8) (hl : l.length ≤ 1000000000) (c : Ctx W w (R ++ G) Φ) {K : Int → Bool → List Own → PW → Prop}
    (h1 : ∀ n, I64 n → l = Lib.itoa n → K n true R Φ) (h0 : (∀ n, I64 n → l ≠ Lib.itoa n) → ∀ m, K m false R Φ) :
    Calls Tryz.prog F.errataref01_Back #[.string (bs l)] w fun e w' => ∃ n ok, e = .returned (.tuple #[.int .i64 n, .bool ok]) ∧ ∃ R' Φ', Stable Φ' ∧ Ctx W w' (R' ++ G) Φ' ∧ K n ok R' Φ' := by
  refine (Merrataref01_Back_run (bs l) (J := fun u w' => ∃ n ok, (Ending.returned u) = .returned (.tuple #[.int .i64 n, .bool ok]) ∧ ∃ R' Φ', Stable Φ' ∧ Ctx W w' (R' ++ G) Φ' ∧ K n ok R' Φ') (R := R ++ G) c ?_).mono fun e w' ⟨v, he, hj⟩ => by rw [he]; exact hj
  clear c
  have hsz : (bs l).size = l.length := bs_size l
  have body : ∀ (f : Nat), (f = 1 ∧ l[0]? = some 45 ∨ f = 0 ∧ l[0]? ≠ some 45) → ∀ (n : Int), I64 n → (∀ m, I64 m → l = Lib.itoa m → m = n) → ∀ {w : World} {G2 : List Own}, Ctx W w ((R ++ G) ++ G2) Φ →
      Calls Tryz.prog F.errataref01_Int #[.int .i64 n] w fun e28 w29 => ∃ (s30 : ByteArray), e28 = .returned (.string s30) ∧ ∃ (R31 : List Own), ∃ (Φ32 : PW), Stable Φ32 ∧ Ctx W w29 (R31 ++ G2) Φ32 ∧ ((bs l).size + (ByteArray.mk #[OfNat.ofNat 59]).size).le 9223372036854775807 ∧ ∀ (w33 : World) (R34 : List Own), Ctx W w33 (R31 ++ R34) Φ32 →
        ∃ n' ok, (Ending.returned (Value.tuple #[.int .i64 n, .bool (decide (s30 = bs l ++ ByteArray.mk #[OfNat.ofNat 59]))])) = .returned (.tuple #[.int .i64 n', .bool ok]) ∧ ∃ R' Φ', Stable Φ' ∧ Ctx W w33 (R' ++ G) Φ' ∧ K n' ok R' Φ' := fun f hf n hn hu {w G2} cx =>
    (Gives.in (Int01_g n hn)).toS cx ⟨by rw [hsz]; show l.length + 1 ≤ 9223372036854775807; omega, fun w G3 cx => ⟨n, _, rfl, R, Φ, inferInstance, cx.left, by
      by_cases he : l = Lib.itoa n
      · rw [decide_eq_true (intB_semi.2 he)]; exact h1 n hn he
      · rw [decide_eq_false fun h => he (intB_semi.1 h)]
        exact h0 (fun m hm e => he (by rw [← hu m hm e]; exact e)) n⟩⟩
  have bad : (∀ n, I64 n → l ≠ Lib.itoa n) → ∀ {w : World} {G2 : List Own}, Ctx W w ((R ++ G) ++ G2) Φ → ∃ n' ok, (Ending.returned (Value.tuple #[.int .i64 0, .bool false])) = .returned (.tuple #[.int .i64 n', .bool ok]) ∧ ∃ R' Φ', Stable Φ' ∧ Ctx W w (R' ++ G) Φ' ∧ K n' ok R' Φ' := fun h {w G2} cx => ⟨0, false, rfl, R, Φ, inferInstance, cx.left, h0 h 0⟩
  refine fun w G2 cx => ⟨l[0]?.getD 0, fun h => ⟨by decide, ?_⟩, ?_⟩
  · have h := of_decide_eq_true h
    rw [hsz] at h
    rw [bs_list, getI, List.getElem?_eq_getElem (by omega)]; rfl
  clear cx
  have hbyte : ∀ {j : Nat}, j < l.length → (bs l).data.toList.get?Internal ((j : Int)).toNat = some (l[j]?.getD 0) ∧ l[j]? = some (l[j]?.getD 0) := fun {j} hj => by
    rw [bs_list, getI, Int.toNat_natCast, List.getElem?_eq_getElem hj]
    exact ⟨rfl, rfl⟩
  refine Br.intro (fun hs => ?_) (fun hs => ?_)
  · rw [Bool.and_eq_true, hsz] at hs
    have h0l := of_decide_eq_true hs.1
    have hc0 := of_decide_eq_true hs.2
    have hf : (1 = 1 ∧ l[0]? = some 45 ∨ 1 = 0 ∧ l[0]? ≠ some 45) := .inl ⟨rfl, by
      rw [List.getElem?_eq_getElem (by omega)] at hc0 ⊢
      congr 1
      apply UInt8.toNat_inj.1
      simp only [Option.getD_some] at hc0
      exact Int.ofNat.inj hc0⟩
    refine exI_mk (fun acc jI R' Φ' k => ∃ j : Nat, jI = j ∧ BackI l 1 j acc ∧ R' = R ++ G ∧ Φ' = Φ ∧ k = l.length - j) ⟨⟨_, _, _, inferInstance, fun w G cx => cx, 1, rfl, backI0 (by omega), rfl, rfl, rfl⟩, ?_⟩
    rintro acc jI R1 Φ1 k _ ⟨j, rfl, hB, rfl, rfl, rfl⟩
    rw [hsz]
    refine Br.intro (fun hlt => fun w G2 cx => ?_) (fun hge => fun w G2 cx => ?_)
    · have hlt : j < l.length := by have := of_decide_eq_true hlt; omega
      obtain ⟨hb1, hb2⟩ := hbyte hlt
      refine ⟨_, ⟨by omega, hb1⟩, _, fun _ => ⟨by omega, hb1⟩, Br.intro (fun h => fun w G2 cx => bad (fun n hn e => ?_) cx) (fun h => ⟨_, ⟨by omega, hb1⟩, by unfold I64; omega, _, _, l.length - (j + 1), inferInstance, fun w G cx => cx, ⟨j + 1, by omega, backI_step hf hB hb2, rfl, rfl, rfl⟩, by omega⟩)⟩
      obtain ⟨⟨g1, g2⟩, g3⟩ := back_dig hf hB.1 hb2 hn e
      rw [decide_eq_false (by omega), decide_eq_false (by omega), decide_eq_false (by omega)] at h
      cases h
    · have hge := of_decide_eq_false hge
      exact body 1 hf acc hB.2.2.1 (fun m hm e => by have := backI_end hf hB (by omega) hm e; rw [if_pos rfl] at this; exact this) cx
  · have hf : (0 = 1 ∧ l[0]? = some 45 ∨ 0 = 0 ∧ l[0]? ≠ some 45) := .inr ⟨rfl, fun e => by
      have h0l := (List.getElem?_eq_some_iff.1 e).1
      rw [hsz, e, decide_eq_true (by omega), decide_eq_true (by rfl)] at hs
      cases hs⟩
    refine exI_mk (fun acc jI R' Φ' k => ∃ j : Nat, jI = j ∧ BackI l 0 j acc ∧ R' = R ++ G ∧ Φ' = Φ ∧ k = l.length - j) ⟨⟨_, _, _, inferInstance, fun w G cx => cx, 0, rfl, backI0 (Nat.zero_le _), rfl, rfl, rfl⟩, ?_⟩
    rintro acc jI R1 Φ1 k _ ⟨j, rfl, hB, rfl, rfl, rfl⟩
    rw [hsz]
    refine Br.intro (fun hlt => fun w G2 cx => ?_) (fun hge => ?_)
    · have hlt : j < l.length := by have := of_decide_eq_true hlt; omega
      obtain ⟨hb1, hb2⟩ := hbyte hlt
      refine ⟨_, ⟨by omega, hb1⟩, _, fun _ => ⟨by omega, hb1⟩, Br.intro (fun h => fun w G2 cx => bad (fun n hn e => ?_) cx) (fun h => ⟨_, ⟨by omega, hb1⟩, by unfold I64; omega, _, _, l.length - (j + 1), inferInstance, fun w G cx => cx, ⟨j + 1, by omega, backI_step hf hB hb2, rfl, rfl, rfl⟩, by omega⟩)⟩
      obtain ⟨⟨g1, g2⟩, g3⟩ := back_dig hf hB.1 hb2 hn e
      rw [decide_eq_false (by omega), decide_eq_false (by omega), decide_eq_false (by omega)] at h
      cases h
    · have hge := of_decide_eq_false hge
      exact fun w G2 cx => body 0 hf (IntKind.i64.wrap (0 - acc)) (wrap_i64 _) (fun m hm e => by have := backI_end hf hB (by omega) hm e; rw [if_neg (by decide)] at this; exact this) cx
end
end Go.Proofs.YtebnciehcnedjaaGreatDoor
end

section
namespace Go.Proofs.YtebnciehcnedjaaGreatDoor
open Go.Vc
def minZ64 : Int := -9223372036854775808
theorem e_chars {e : UInt8} (he : e.toNat = 58 ∨ e.toNat = 59 ∨ e.toNat = 91) {n : Int} : e ∉ Lib.itoa n := fun h => by have := itoa_chars h; omega
theorem ahead_none {e : UInt8} (he : e.toNat = 58 ∨ e.toNat = 59 ∨ e.toNat = 91) {l : List UInt8} {j : Nat} (h1 : e ∉ l.take j) (h2 : l.length ≤ j ∨ 21 ≤ j) : numP e minZ64 l = none := by
  cases hn : numP e minZ64 l with
  | none => rfl
  | some x =>
    obtain ⟨n, r⟩ := x
    obtain ⟨⟨g1, _⟩, g2⟩ := (numP_iff he).1 hn
    have hl := (itoa_len g1).2
    refine absurd ?_ h1
    rw [g2]
    refine List.mem_of_getElem? (i := (Lib.itoa n).length) ?_
    have hlt : (Lib.itoa n).length < j := by
      rcases h2 with h2 | h2
      · rw [g2, List.length_append, List.length_cons] at h2; omega
      · omega
    rw [List.getElem?_take_of_lt hlt, List.getElem?_append_right (Nat.le_refl _), Nat.sub_self]
    rfl
theorem ahead_some {e : UInt8} (he : e.toNat = 58 ∨ e.toNat = 59 ∨ e.toNat = 91) {l : List UInt8} {j : Nat} (hj : l[j]? = some e) {n : Int} (hn : I64 n) (h : l.take j = Lib.itoa n) : numP e minZ64 l = some (n, l.drop (j + 1)) := by
  refine (numP_iff he).2 ⟨⟨hn, hn.1⟩, ?_⟩
  obtain ⟨hl, he2⟩ := List.getElem?_eq_some_iff.1 hj
  rw [← h, ← he2, ← List.drop_eq_getElem_cons hl, List.take_append_drop]
theorem ahead_bad {e : UInt8} (he : e.toNat = 58 ∨ e.toNat = 59 ∨ e.toNat = 91) {l : List UInt8} {j : Nat} (h1 : e ∉ l.take j) (hj : l[j]? = some e) (h : ∀ n, I64 n → l.take j ≠ Lib.itoa n) : numP e minZ64 l = none := by
  cases hn : numP e minZ64 l with
  | none => rfl
  | some x =>
    obtain ⟨n, r⟩ := x
    obtain ⟨⟨g1, _⟩, g2⟩ := (numP_iff he).1 hn
    refine absurd ?_ (h n g1)
    have hjl := (List.getElem?_eq_some_iff.1 hj).1
    rcases Nat.lt_trichotomy j (Lib.itoa n).length with hlt | heq | hgt
    · rw [g2, List.getElem?_append_left hlt] at hj
      exact absurd (List.mem_of_getElem? hj) (e_chars he)
    · rw [g2, heq, List.take_left]
    · refine absurd ?_ h1
      rw [g2]
      refine List.mem_of_getElem? (i := (Lib.itoa n).length) ?_
      rw [List.getElem?_take_of_lt hgt, List.getElem?_append_right (Nat.le_refl _), Nat.sub_self]
      rfl
theorem numP_zero {e : UInt8} (he : e.toNat = 58 ∨ e.toNat = 59 ∨ e.toNat = 91) (l : List UInt8) : numP e 0 l = (numP e minZ64 l).bind fun x => if x.1 < 0 then none else some x := by
  cases hn : numP e minZ64 l with
  | none =>
    cases h0 : numP e 0 l with
    | none => rfl
    | some x =>
      obtain ⟨n, r⟩ := x
      obtain ⟨⟨g1, g2⟩, g3⟩ := (numP_iff he).1 h0
      have := (numP_iff he (least := minZ64)).2 ⟨⟨g1, g1.1⟩, g3⟩
      rw [hn] at this
      cases this
  | some x =>
    obtain ⟨n, r⟩ := x
    obtain ⟨⟨g1, _⟩, g3⟩ := (numP_iff he).1 hn
    simp only [Option.bind_some]
    split
    · rename_i hneg
      cases h0 : numP e 0 l with
      | none => rfl
      | some y =>
        obtain ⟨m, q⟩ := y
        obtain ⟨⟨k1, k2⟩, k3⟩ := (numP_iff he).1 h0
        have := (numP_iff he (least := minZ64)).2 ⟨⟨k1, k1.1⟩, k3⟩
        rw [hn] at this
        cases this
        omega
    · exact (numP_iff he).2 ⟨⟨g1, by omega⟩, g3⟩
theorem stepN_zero {e : UInt8} (he : e.toNat = 58 ∨ e.toNat = 59 ∨ e.toNat = 91) (st : RdS) : stepN e 0 st = if (stepN e minZ64 st).1 < 0 then (0, ([], true)) else stepN e minZ64 st := by
  unfold stepN
  rw [numP_zero he]
  cases hn : numP e minZ64 st.1 with
  | none => simp
  | some x =>
    obtain ⟨n, r⟩ := x
    simp only [Option.bind_some]
    by_cases h : n < 0
    · rw [if_pos h, if_pos h]
    · rw [if_neg h, if_neg h]
section
variable {W w : World} {R G S : List Own} {Φ : PW} {b : Nat} {st : RdS}
abbrev rq (b : Nat) (st : RdS) : Own := .blk b [.string (bs st.1), .bool st.2] 112
theorem Open01_to [Stable Φ] (l : List UInt8) (c : Ctx W w (S ++ G) Φ) {K : Option Addr → List Own → PW → Prop} (hk : ∀ b, K (some ⟨b, 0, none⟩) (rq b (l, false) :: S) Φ) :
    Calls Tryz.prog F.errataref01_Open #[.string (bs l)] w fun e w' => ∃ p, e = .returned (.pointer p) ∧ ∃ R' Φ', Stable Φ' ∧ Ctx W w' (R' ++ G) Φ' ∧ K p R' Φ' := by
  refine (Berrataref01_Open_run (bs l) (J := fun u w' => ∃ p, (Ending.returned u) = .returned (.pointer p) ∧ ∃ R' Φ', Stable Φ' ∧ Ctx W w' (R' ++ G) Φ' ∧ K p R' Φ') c ?_).mono fun e w' ⟨v, he, hj⟩ => by rw [he]; exact hj
  exact fun b w G2 cx => ⟨_, rfl, rq b (l, false) :: S, Φ, inferInstance, Ctx.left (S := rq b (l, false) :: (S ++ G)) cx, hk b⟩
theorem fail01_to [Stable Φ] (c : Ctx W w (rq b st :: S ++ G) Φ) {K : Int → List Own → PW → Prop} (hk : K 0 (rq b ([], true) :: S) Φ) :
    Calls Tryz.prog F.errataref01_Reader_fail #[.pointer (some ⟨b, 0, none⟩)] w fun e w' => ∃ n, e = .returned (.int .i64 n) ∧ ∃ R' Φ', Stable Φ' ∧ Ctx W w' (R' ++ G) Φ' ∧ K n R' Φ' := by
  refine (Berrataref01_Reader_fail_run b 0 (J := fun u w' => ∃ n, (Ending.returned u) = .returned (.int .i64 n) ∧ ∃ R' Φ', Stable Φ' ∧ Ctx W w' (R' ++ G) Φ' ∧ K n R' Φ') (R := rq b st :: (S ++ G)) c ?_).mono fun e w' ⟨v, he, hj⟩ => by rw [he]; exact hj
  refine fun w G2 cx => ⟨cx.can 0 rfl (by simp), fun w' hw' => ⟨.blk b [.string (bs []), .bool st.2] 112 :: (S ++ G), Φ, inferInstance, cx.put 0 hw' rfl, fun w G2 cx => ⟨cx.can 0 rfl (by simp), fun w' hw' => ⟨rq b ([], true) :: (S ++ G), Φ, inferInstance, cx.put 0 hw' rfl, fun w G2 cx => ⟨0, rfl, rq b ([], true) :: S, Φ, inferInstance, cx.left, hk⟩⟩⟩⟩⟩
set_option maxHeartbeats 1000000 in
theorem ahead_to [Stable Φ] {e : Int} (he : e = 58 ∨ e = 59 ∨ e = 91) (hl : st.1.length ≤ 1000000000) (c : Ctx W w (rq b st :: S ++ G) Φ) {K : Int → List Own → PW → Prop}
    (hk : K (stepN e.toNat.toUInt8 minZ64 st).1 (rq b (stepN e.toNat.toUInt8 minZ64 st).2 :: S) Φ) :
    Calls Tryz.prog F.errataref01_Reader_ahead #[.pointer (some ⟨b, 0, none⟩), .int .u8 e] w fun e w' => ∃ n, e = .returned (.int .i64 n) ∧ ∃ R' Φ', Stable Φ' ∧ Ctx W w' (R' ++ G) Φ' ∧ K n R' Φ' := by
  refine (Berrataref01_Reader_ahead_run b 0 e (J := fun u w' => ∃ n, (Ending.returned u) = .returned (.int .i64 n) ∧ ∃ R' Φ', Stable Φ' ∧ Ctx W w' (R' ++ G) Φ' ∧ K n R' Φ') (R := rq b st :: (S ++ G)) c ?_).mono fun e w' ⟨v, he, hj⟩ => by rw [he]; exact hj
  clear c
  obtain ⟨l, bad⟩ := st
  have hl : l.length ≤ 1000000000 := hl
  obtain ⟨c, hc⟩ : ∃ c : UInt8, e.toNat.toUInt8 = c := ⟨_, rfl⟩
  have hce : (c.toNat : Int) = e ∧ (c.toNat = 58 ∨ c.toNat = 59 ∨ c.toNat = 91) := by
    rcases he with rfl | rfl | rfl <;> subst hc <;> decide
  obtain ⟨hce, hc3⟩ := hce
  rw [hc] at hk
  have hsz : (bs l).size = l.length := bs_size l
  have none_ : numP c minZ64 l = none → ∀ {w : World} {G2 : List Own}, Ctx W w (rq b (l, bad) :: (S ++ G) ++ G2) Φ → Calls Tryz.prog F.errataref01_Reader_fail #[.pointer (some ⟨b, 0, none⟩)] w fun e25 w26 => ∃ n27, e25 = .returned (.int .i64 n27) ∧ ∃ R28 Φ29, Stable Φ29 ∧ Ctx W w26 (R28 ++ G2) Φ29 ∧ ∀ (w30 : World) (R31 : List Own), Ctx W w30 (R28 ++ R31) Φ29 → ∃ n, (Ending.returned (Value.int .i64 n27)) = .returned (.int .i64 n) ∧ ∃ R' Φ', Stable Φ' ∧ Ctx W w30 (R' ++ G) Φ' ∧ K n R' Φ' := fun h {w G2} cx => by
    rw [stepN_none h] at hk
    exact fail01_to (S := S ++ G) (G := G2) cx fun w G3 cx => ⟨0, rfl, rq b ([], true) :: S, Φ, inferInstance, Ctx.left (S := rq b ([], true) :: (S ++ G)) cx, hk⟩
  refine exI_mk (fun jI R' Φ' k => ∃ j : Nat, jI = j ∧ j ≤ l.length ∧ j ≤ 21 ∧ c ∉ l.take j ∧ R' = rq b (l, bad) :: (S ++ G) ∧ Φ' = Φ ∧ k = l.length - j) ⟨⟨_, _, _, inferInstance, fun w G cx => cx, 0, rfl, Nat.zero_le _, by omega, by simp, rfl, rfl, rfl⟩, ?_⟩
  rintro jI R1 Φ1 k _ ⟨j, rfl, hj, hj21, hn, rfl, rfl, rfl⟩
  have cell : ∀ {w : World} {G2 : List Own}, Ctx W w (rq b (l, bad) :: (S ++ G) ++ G2) Φ1 → w.cell? ⟨b, 0, none⟩ = some (.string (bs l)) := fun cx => cx.get 0 rfl rfl
  have hbyte : ∀ {i : Nat}, i < l.length → (bs l).data.toList.get?Internal ((i : Int)).toNat = some (l[i]?.getD 0) ∧ l[i]? = some (l[i]?.getD 0) := fun {i} hi => by
    rw [bs_list, getI, Int.toNat_natCast, List.getElem?_eq_getElem hi]
    exact ⟨rfl, rfl⟩
  refine fun w G2 cx => ⟨bs l, cell cx, bs l, fun _ => cell cx, l[j]?.getD 0, fun h => ?_, ?_⟩
  · rw [Bool.and_eq_true, hsz] at h
    have h := of_decide_eq_true h.1
    exact ⟨by omega, (hbyte (by omega)).1⟩
  clear cx
  rw [hsz]
  refine Br.intro (fun h => ?_) (fun h => fun w G2 cx => ⟨bs l, cell cx, ?_⟩)
  · rw [Bool.and_eq_true, Bool.and_eq_true] at h
    have h1 := of_decide_eq_true h.1.1
    have h2 := of_decide_eq_true h.1.2
    have h3 := of_decide_eq_true h.2
    have hjl : j < l.length := by omega
    refine ⟨by unfold I64; omega, _, _, l.length - (j + 1), inferInstance, fun w G cx => cx, ⟨j + 1, by omega, hjl, by omega, fun hm => ?_, rfl, rfl, rfl⟩, by omega⟩
    rw [List.take_succ_eq_append_getElem hjl] at hm
    rcases List.mem_append.1 hm with hm | hm
    · exact hn hm
    · rw [List.getElem?_eq_getElem hjl] at h3
      rw [← List.mem_singleton.1 hm] at h3
      exact h3 (by simpa using hce)
  · clear cx
    rw [hsz]
    refine Br.intro (fun h1 => fun w G2 cx => none_ (ahead_none hc3 hn (.inl (by have := of_decide_eq_true h1; omega))) cx) (fun h1 => fun w G2 cx => ⟨bs l, cell cx, ?_⟩)
    clear cx
    have hjl : j < l.length := by have := of_decide_eq_false h1; omega
    obtain ⟨hb1, hb2⟩ := hbyte hjl
    refine ⟨_, ⟨by omega, hb1⟩, Br.intro (fun h2 => fun w G2 cx => none_ (ahead_none hc3 hn (.inr ?_)) cx) (fun h2 => fun w G2 cx => ⟨bs l, cell cx, ⟨by omega, by rw [hsz]; omega⟩, fun w G2 cx => ?_⟩)⟩
    · rw [Bool.and_eq_false_iff, Bool.and_eq_false_iff] at h
      rcases h with (h | h) | h
      · have := of_decide_eq_false h; omega
      · have := of_decide_eq_false h; omega
      · exact absurd (of_decide_eq_true h2) (of_decide_eq_false h)
    · have h2 : ((l[j]?.getD 0).toNat : Int) = e := Decidable.not_not.1 (of_decide_eq_false h2)
      have hje : l[j]? = some c := by
        rw [hb2]
        congr 1
        apply UInt8.toNat_inj.1
        omega
      rw [bs_ext, Int.toNat_natCast, List.drop_zero, Nat.sub_zero]
      refine Back_to (R := rq b (l, bad) :: (S ++ G)) (l.take j) (by rw [List.length_take]; omega) cx (fun n hnI hnE => ?_) (fun hbad m => ?_)
      · refine Br.intro (fun h => by cases h) (fun _ => fun w G2 cx => ⟨bs l, cell cx, by unfold I64; omega, ⟨by omega, by rw [hsz]; omega, Nat.le_refl _⟩, fun w G2 cx => ⟨cx.can 0 rfl (by simp), fun w' hw' => ?_⟩⟩)
        rw [stepN_some (ahead_some hc3 hje hnI hnE)] at hk
        have c2 := cx.put 0 hw' rfl
        have e1 : (bs l).extract ((j : Int) + 1).toNat (bs l).size = bs (l.drop (j + 1)) := by
          rw [bs_ext, hsz, show ((j : Int) + 1).toNat = j + 1 by omega, List.take_of_length_le (by rw [List.length_drop]; omega)]
        rw [e1] at c2
        exact ⟨rq b (l.drop (j + 1), bad) :: (S ++ G), Φ1, inferInstance, c2, fun w G2 cx => ⟨n, rfl, rq b (l.drop (j + 1), bad) :: S, Φ1, inferInstance, Ctx.left (S := rq b (l.drop (j + 1), bad) :: (S ++ G)) cx, hk⟩⟩
      · exact Br.intro (fun _ => fun w G2 cx => none_ (ahead_bad hc3 hn hje hbad) cx) (fun h => by cases h)
theorem number01_to [Stable Φ] {e : Int} (he : e = 58 ∨ e = 59 ∨ e = 91) (hl : st.1.length ≤ 1000000000) (c : Ctx W w (rq b st :: S ++ G) Φ) {K : Int → List Own → PW → Prop}
    (hk : K (stepN e.toNat.toUInt8 0 st).1 (rq b (stepN e.toNat.toUInt8 0 st).2 :: S) Φ) :
    Calls Tryz.prog F.errataref01_Reader_number #[.pointer (some ⟨b, 0, none⟩), .int .u8 e] w fun e w' => ∃ n, e = .returned (.int .i64 n) ∧ ∃ R' Φ', Stable Φ' ∧ Ctx W w' (R' ++ G) Φ' ∧ K n R' Φ' := by
  refine (Berrataref01_Reader_number_run b 0 e (J := fun u w' => ∃ n, (Ending.returned u) = .returned (.int .i64 n) ∧ ∃ R' Φ', Stable Φ' ∧ Ctx W w' (R' ++ G) Φ' ∧ K n R' Φ') (R := rq b st :: (S ++ G)) c ?_).mono fun e w' ⟨v, he, hj⟩ => by rw [he]; exact hj
  clear c
  have hc3 : (e.toNat.toUInt8).toNat = 58 ∨ (e.toNat.toUInt8).toNat = 59 ∨ (e.toNat.toUInt8).toNat = 91 := by rcases he with rfl | rfl | rfl <;> decide
  rw [stepN_zero hc3] at hk
  refine fun w G2 cx => ahead_to (S := S ++ G) he hl cx ?_
  clear cx
  refine Br.intro (fun h => fun w G2 cx => ?_) (fun h => fun w G2 cx => ?_)
  · rw [if_pos (of_decide_eq_true h)] at hk
    exact fail01_to (S := S ++ G) cx fun w G2 cx => ⟨0, rfl, rq b ([], true) :: S, Φ, inferInstance, Ctx.left (S := rq b ([], true) :: (S ++ G)) cx, hk⟩
  · rw [if_neg (of_decide_eq_false h)] at hk
    exact ⟨_, rfl, rq b (stepN e.toNat.toUInt8 minZ64 st).2 :: S, Φ, inferInstance, Ctx.left (S := rq b (stepN e.toNat.toUInt8 minZ64 st).2 :: (S ++ G)) cx, hk⟩
theorem Int01r_to [Stable Φ] (hl : st.1.length ≤ 1000000000) (c : Ctx W w (rq b st :: S ++ G) Φ) {K : Int → List Own → PW → Prop} (hk : K (rdInt st).1 (rq b (rdInt st).2 :: S) Φ) :
    Calls Tryz.prog F.errataref01_Reader_Int #[.pointer (some ⟨b, 0, none⟩)] w fun e w' => ∃ n, e = .returned (.int .i64 n) ∧ ∃ R' Φ', Stable Φ' ∧ Ctx W w' (R' ++ G) Φ' ∧ K n R' Φ' := by
  refine (Berrataref01_Reader_Int_run b 0 (J := fun u w' => ∃ n, (Ending.returned u) = .returned (.int .i64 n) ∧ ∃ R' Φ', Stable Φ' ∧ Ctx W w' (R' ++ G) Φ' ∧ K n R' Φ') (R := rq b st :: (S ++ G)) c ?_).mono fun e w' ⟨v, he, hj⟩ => by rw [he]; exact hj
  exact fun w G2 cx => ahead_to (S := S ++ G) (.inr (.inl rfl)) hl cx fun w G2 cx => ⟨_, rfl, rq b (rdInt st).2 :: S, Φ, inferInstance, Ctx.left (S := rq b (rdInt st).2 :: (S ++ G)) cx, hk⟩
theorem Num01r_to [Stable Φ] (hl : st.1.length ≤ 1000000000) (c : Ctx W w (rq b st :: S ++ G) Φ) {K : Int → List Own → PW → Prop} (hk : K (rdNat st).1 (rq b (rdNat st).2 :: S) Φ) :
    Calls Tryz.prog F.errataref01_Reader_Num #[.pointer (some ⟨b, 0, none⟩)] w fun e w' => ∃ n, e = .returned (.int .i64 n) ∧ ∃ R' Φ', Stable Φ' ∧ Ctx W w' (R' ++ G) Φ' ∧ K n R' Φ' := by
  refine (Berrataref01_Reader_Num_run b 0 (J := fun u w' => ∃ n, (Ending.returned u) = .returned (.int .i64 n) ∧ ∃ R' Φ', Stable Φ' ∧ Ctx W w' (R' ++ G) Φ' ∧ K n R' Φ') (R := rq b st :: (S ++ G)) c ?_).mono fun e w' ⟨v, he, hj⟩ => by rw [he]; exact hj
  exact fun w G2 cx => number01_to (S := S ++ G) (.inr (.inl rfl)) hl cx fun w G2 cx => ⟨_, rfl, rq b (rdNat st).2 :: S, Φ, inferInstance, Ctx.left (S := rq b (rdNat st).2 :: (S ++ G)) cx, hk⟩
theorem Left01_to [Stable Φ] (c : Ctx W w (rq b st :: S ++ G) Φ) {K : Int → List Own → PW → Prop} (hk : K st.1.length (rq b st :: S) Φ) :
    Calls Tryz.prog F.errataref01_Reader_Left #[.pointer (some ⟨b, 0, none⟩)] w fun e w' => ∃ n, e = .returned (.int .i64 n) ∧ ∃ R' Φ', Stable Φ' ∧ Ctx W w' (R' ++ G) Φ' ∧ K n R' Φ' := by
  refine (Berrataref01_Reader_Left_run b 0 (J := fun u w' => ∃ n, (Ending.returned u) = .returned (.int .i64 n) ∧ ∃ R' Φ', Stable Φ' ∧ Ctx W w' (R' ++ G) Φ' ∧ K n R' Φ') (R := rq b st :: (S ++ G)) c ?_).mono fun e w' ⟨v, he, hj⟩ => by rw [he]; exact hj
  exact fun w F1 cx => ⟨bs st.1, cx.get 0 rfl rfl, fun w F1 cx => ⟨st.1.length, by rw [bs_size], rq b st :: S, Φ, inferInstance, cx.left, hk⟩⟩
theorem bs_nil {l : List UInt8} : (bs l = ByteArray.mk #[]) ↔ l = [] := by
  constructor
  · intro h
    have := congrArg (fun x => x.data.toList) h
    exact this
  · intro h; rw [h]; rfl
theorem Done01_to [Stable Φ] (c : Ctx W w (rq b st :: S ++ G) Φ) {K : Bool → List Own → PW → Prop} (hk : K (rdDone st) (rq b st :: S) Φ) :
    Calls Tryz.prog F.errataref01_Reader_Done #[.pointer (some ⟨b, 0, none⟩)] w fun e w' => ∃ c, e = .returned (.bool c) ∧ ∃ R' Φ', Stable Φ' ∧ Ctx W w' (R' ++ G) Φ' ∧ K c R' Φ' := by
  refine (Berrataref01_Reader_Done_run b 0 (J := fun u w' => ∃ c, (Ending.returned u) = .returned (.bool c) ∧ ∃ R' Φ', Stable Φ' ∧ Ctx W w' (R' ++ G) Φ' ∧ K c R' Φ') (R := rq b st :: (S ++ G)) c ?_).mono fun e w' ⟨v, he, hj⟩ => by rw [he]; exact hj
  refine fun w F1 cx => ⟨st.2, cx.get 0 rfl rfl, bs st.1, fun _ => cx.get 0 rfl rfl, fun w F1 cx => ⟨rdDone st, ?_, rq b st :: S, Φ, inferInstance, cx.left, hk⟩⟩
  unfold rdDone
  rw [decide_eq_decide.2 (bs_nil (l := st.1))]
theorem close01_to [Stable Φ] {e : Int} (he : 0 ≤ e ∧ e ≤ 255) (hok : RdOk st) (c : Ctx W w (rq b st :: S ++ G) Φ) {K : Bool → List Own → PW → Prop}
    (hk : K (!(stepC e.toNat.toUInt8 st).2) (rq b (stepC e.toNat.toUInt8 st) :: S) Φ) :
    Calls Tryz.prog F.errataref01_Reader_close #[.pointer (some ⟨b, 0, none⟩), .int .u8 e] w fun e w' => ∃ c, e = .returned (.bool c) ∧ ∃ R' Φ', Stable Φ' ∧ Ctx W w' (R' ++ G) Φ' ∧ K c R' Φ' := by
  refine (Berrataref01_Reader_close_run b 0 e (J := fun u w' => ∃ c, (Ending.returned u) = .returned (.bool c) ∧ ∃ R' Φ', Stable Φ' ∧ Ctx W w' (R' ++ G) Φ' ∧ K c R' Φ') (R := rq b st :: (S ++ G)) c ?_).mono fun e w' ⟨v, he, hj⟩ => by rw [he]; exact hj
  clear c
  obtain ⟨l, bad⟩ := st
  obtain ⟨c, hc⟩ : ∃ c : UInt8, e.toNat.toUInt8 = c := ⟨_, rfl⟩
  have hce : (c.toNat : Int) = e := by
    subst hc
    have : e.toNat.toUInt8.toNat = e.toNat % 256 := by simp [Nat.toUInt8]
    omega
  rw [hc] at hk
  have hsz : (bs l).size = l.length := bs_size l
  have cell : ∀ {w : World} {G2 : List Own}, Ctx W w (rq b (l, bad) :: (S ++ G) ++ G2) Φ → w.cell? ⟨b, 0, none⟩ = some (.string (bs l)) := fun cx => cx.get 0 rfl rfl
  have none_ : stepC c (l, bad) = ([], true) → ∀ {w : World} {G2 : List Own}, Ctx W w (rq b (l, bad) :: (S ++ G) ++ G2) Φ → Calls Tryz.prog F.errataref01_Reader_fail #[.pointer (some ⟨b, 0, none⟩)] w fun e25 w26 => ∃ n27, e25 = .returned (.int .i64 n27) ∧ ∃ R28 Φ29, Stable Φ29 ∧ Ctx W w26 (R28 ++ G2) Φ29 ∧ ∀ (w30 : World) (R31 : List Own), Ctx W w30 (R28 ++ R31) Φ29 → ∃ c, (Ending.returned (Value.bool false)) = .returned (.bool c) ∧ ∃ R' Φ', Stable Φ' ∧ Ctx W w30 (R' ++ G) Φ' ∧ K c R' Φ' := fun h {w G2} cx => by
    rw [h] at hk
    exact fail01_to (S := S ++ G) (G := G2) cx fun w G3 cx => ⟨false, rfl, rq b ([], true) :: S, Φ, inferInstance, Ctx.left (S := rq b ([], true) :: (S ++ G)) cx, hk⟩
  refine fun w G2 cx => ⟨bs l, cell cx, ?_⟩
  clear cx
  rw [hsz]
  cases l with
  | nil => exact Br.intro (fun _ => fun w G2 cx => none_ rfl cx) (fun h => absurd rfl (of_decide_eq_false h))
  | cons x r =>
    refine Br.intro (fun h => by have := of_decide_eq_true h; rw [List.length_cons] at this; omega) (fun _ => fun w G2 cx => ⟨_, cell cx, x, ⟨by decide, rfl⟩, ?_⟩)
    clear cx
    refine Br.intro (fun h => fun w G2 cx => none_ (by unfold stepC; simp only; rw [if_neg fun e => of_decide_eq_true h (by rw [e]; exact hce)]) cx) (fun h => fun w G2 cx => ⟨_, cell cx, ⟨by decide, by rw [hsz, List.length_cons]; omega, Nat.le_refl _⟩, fun w G2 cx => ⟨cx.can 0 rfl (by simp), fun w' hw' => ?_⟩⟩)
    have hxc : x = c := by
      have := Decidable.not_not.1 (of_decide_eq_false h)
      apply UInt8.toNat_inj.1
      omega
    have hst : stepC c (x :: r, bad) = (r, bad) := by unfold stepC; simp only; rw [if_pos hxc]
    rw [hst] at hk
    have hbad : bad = false := by
      cases hb : bad with
      | false => rfl
      | true => have := hok hb; cases this
    have c2 := cx.put 0 hw' rfl
    have e1 : (bs (x :: r)).extract 1 (bs (x :: r)).size = bs r := by
      rw [bs_ext, hsz, List.drop_succ_cons, List.drop_zero, List.length_cons, List.take_of_length_le (by omega)]
    rw [e1] at c2
    rw [hbad] at hk c2
    exact ⟨rq b (r, false) :: (S ++ G), Φ, inferInstance, c2, fun w G2 cx => ⟨true, rfl, rq b (r, false) :: S, Φ, inferInstance, Ctx.left (S := rq b (r, false) :: (S ++ G)) cx, hk⟩⟩
theorem stepT_bad {st : RdS} (h : RdOk (stepN 58 0 st).2) (hb : (stepN 58 0 st).2.2 = true ∨ ((stepN 58 0 st).2.1.length : Int) ≤ (stepN 58 0 st).1) : stepT st = (ByteArray.mk #[], ([], true)) := by
  unfold stepT
  simp only
  have hn := stepN_nonneg (e := 58) (.inl rfl) st
  split
  · rfl
  · rename_i hlt
    have hd : (stepN 58 0 st).2.1.drop (stepN 58 0 st).1.toNat = [] := by
      rcases hb with hb | hb
      · rw [h hb, List.drop_nil]
      · exact List.drop_of_length_le (by omega)
    rw [hd]
    rfl
set_option maxHeartbeats 1000000 in
theorem Text01r_to [Stable Φ] (hok : RdOk st) (hl : st.1.length ≤ 1000000000) (c : Ctx W w (rq b st :: S ++ G) Φ) {K : ByteArray → List Own → PW → Prop} (hk : K (stepT st).1 (rq b (stepT st).2 :: S) Φ) :
    Calls Tryz.prog F.errataref01_Reader_Text #[.pointer (some ⟨b, 0, none⟩)] w fun e w' => ∃ s, e = .returned (.string s) ∧ ∃ R' Φ', Stable Φ' ∧ Ctx W w' (R' ++ G) Φ' ∧ K s R' Φ' := by
  refine (Berrataref01_Reader_Text_run b 0 (J := fun u w' => ∃ s, (Ending.returned u) = .returned (.string s) ∧ ∃ R' Φ', Stable Φ' ∧ Ctx W w' (R' ++ G) Φ' ∧ K s R' Φ') (R := rq b st :: (S ++ G)) c ?_).mono fun e w' ⟨v, he, hj⟩ => by rw [he]; exact hj
  clear c
  refine fun w G2 cx => number01_to (S := S ++ G) (.inl rfl) hl cx ?_
  clear cx
  rw [show ((58 : Int).toNat.toUInt8) = (58 : UInt8) from rfl]
  have hok1 := stepN_ok (e := 58) (least := 0) hok
  have hbd := stepT_bad (st := st) hok1
  have hn := stepN_nonneg (e := 58) (.inl rfl) st
  have hlen := stepN_len 58 0 st
  have hT : stepT st = if ((stepN 58 0 st).2.1.length : Int) < (stepN 58 0 st).1 then (ByteArray.mk #[], ([], true)) else (if (stepC 44 ((stepN 58 0 st).2.1.drop (stepN 58 0 st).1.toNat, (stepN 58 0 st).2.2)).2 then ByteArray.mk #[] else bs ((stepN 58 0 st).2.1.take (stepN 58 0 st).1.toNat), stepC 44 ((stepN 58 0 st).2.1.drop (stepN 58 0 st).1.toNat, (stepN 58 0 st).2.2)) := rfl
  obtain ⟨⟨n, l, bad⟩, ha⟩ : ∃ a, stepN 58 0 st = a := ⟨_, rfl⟩
  rw [ha] at hok1 hbd hn hlen hT ⊢
  simp only at hok1 hbd hn hlen hT ⊢
  have hsz : (bs l).size = l.length := bs_size l
  have cell : ∀ {w : World} {G2 : List Own}, Ctx W w (rq b (l, bad) :: (S ++ G) ++ G2) Φ → w.cell? ⟨b, 0, none⟩ = some (.string (bs l)) := fun cx => cx.get 0 rfl rfl
  refine fun w G2 cx => ⟨bad, cx.get 0 rfl rfl, bs l, fun _ => cell cx, ?_⟩
  clear cx
  rw [hsz]
  refine Br.intro (fun h => fun w G2 cx => fail01_to (S := S ++ G) cx fun w G2 cx => ?_) (fun h => fun w G2 cx => ⟨bs l, cell cx, ?_, fun w G2 cx => ⟨bs l, cell cx, ?_, fun w G2 cx => ⟨cx.can 0 rfl (by simp), fun w' hw' => ?_⟩⟩⟩)
  · rw [Bool.or_eq_true] at h
    rw [hbd (h.elim .inl fun h => .inr (of_decide_eq_true h))] at hk
    exact ⟨_, rfl, rq b ([], true) :: S, Φ, inferInstance, Ctx.left (S := rq b ([], true) :: (S ++ G)) cx, hk⟩
  all_goals rw [Bool.or_eq_false_iff] at h
  all_goals have h1 := of_decide_eq_false h.2
  · rw [hsz]; omega
  · rw [hsz]; exact ⟨by omega, by omega, Nat.le_refl _⟩
  · have c2 := cx.put 0 hw' rfl
    have e1 : (bs l).extract n.toNat (bs l).size = bs (l.drop n.toNat) := by
      rw [bs_ext, hsz, List.take_of_length_le (by rw [List.length_drop]; omega)]
    rw [e1] at c2
    have hok2 : RdOk (l.drop n.toNat, bad) := fun hb => by
      have : bad = true := hb
      rw [h.1] at this; cases this
    rw [if_neg (by omega)] at hT
    rw [hT] at hk
    refine ⟨rq b (l.drop n.toNat, bad) :: (S ++ G), Φ, inferInstance, c2, fun w G2 cx => close01_to (S := S ++ G) (st := (l.drop n.toNat, bad)) (e := 44) (by decide) hok2 cx ?_⟩
    clear cx c2
    rw [show ((44 : Int).toNat.toUInt8) = (44 : UInt8) from rfl]
    obtain ⟨c, hcq⟩ : ∃ c, stepC 44 (l.drop n.toNat, bad) = c := ⟨_, rfl⟩
    rw [hcq] at hk ⊢
    refine Br.intro (fun h2 => fun w G2 cx => ⟨_, rfl, rq b c :: S, Φ, inferInstance, Ctx.left (S := rq b c :: (S ++ G)) cx, ?_⟩) (fun h2 => fun w G2 cx => ⟨_, rfl, rq b c :: S, Φ, inferInstance, Ctx.left (S := rq b c :: (S ++ G)) cx, ?_⟩)
    · have h2 : c.2 = true := by simpa using h2
      simp only [h2, if_true] at hk
      exact hk
    · have h2 : c.2 = false := by simpa using h2
      have e2 : (bs l).extract 0 n.toNat = bs (l.take n.toNat) := by rw [bs_ext, List.drop_zero, Nat.sub_zero]
      rw [e2]
      simp only [h2] at hk
      exact hk
end
end Go.Proofs.YtebnciehcnedjaaGreatDoor
end

section
namespace Go.Proofs.YtebnciehcnedjaaGreatDoor
open Go.Vc
theorem stepT_nil {st : RdS} (h : st.1 = []) : stepT st = (tE, ([], true)) := by
  obtain ⟨l, b⟩ := st
  simp only at h
  subst h
  have e : stepN 58 0 (([] : List UInt8), b) = (0, ([], true)) := by
    unfold stepN
    rw [numP_nil]
  unfold stepT
  rw [e]
  rfl
theorem stop_nil {acc : Run} {st : RdS} (h : st.1 = []) : stopB acc st = true := by
  unfold stopB valT
  rw [stepT_nil h, stepT_nil rfl, decide_eq_true rfl]
  rfl
set_option maxHeartbeats 4000000 in
theorem Restore29_use {W w : World} {S : List Own} {Φ : PW} [Stable Φ] (l : List UInt8) (hl : l.length ≤ 1000000) (cx : Ctx W w S Φ) {K : Ending → World → Prop}
    (h0 : ∀ w', restL l = none → Ctx W w' S Φ → K (.returned (.tuple #[.pointer none, .bool false])) w')
    (h1 : ∀ q s w', restL l = some s → RfQ q s → Ctx W w' (rfO q s S) (fun M w => Φ M w ∧ rfF q s M w) → K (.returned (.tuple #[.pointer (some ⟨q.sb, 0, none⟩), .bool true])) w') :
    Calls Tryz.prog F.errataref29_Restore #[.string (bs l)] w K := by
  refine (Merrataref29_Restore_run (bs l) (J := fun u w' => K (.returned u) w') cx ?_).mono fun e w' ⟨v, he, hj⟩ => by rw [he]; exact hj
  clear cx
  refine fun w G cx => Open01_to l cx fun b w G cx => ?_
  refine Int01r_to (by show l.length ≤ _; omega) cx ?_
  have hlen1 : (rdInt (l, false)).2.1.length ≤ l.length := stepN_len 59 (-9223372036854775808) (l, false)
  have hok1 : RdOk (rdInt (l, false)).2 := rdInt_ok (rdOk0 l)
  unfold restL at h0 h1
  have hsq := rdInt_i64 (l, false)
  obtain ⟨⟨sq, st1⟩, e1⟩ : ∃ x, rdInt (l, false) = x := ⟨_, rfl⟩
  rw [e1] at h0 h1 hlen1 hsq hok1 ⊢
  simp only at h0 h1 hlen1 hsq hok1 ⊢
  refine fun kb w G cx => ?_
  have cx1 : Ctx W w (rq b st1 :: (Own.blk kb [.slice none 0 0, .slice none 0 0, .int .i64 sq, .slice none 0 0, .int .i64 0] 60 :: S) ++ G) Φ := cx.swap
  clear cx
  refine Num01r_to (by omega) cx1 ?_
  clear cx1
  have hlen2 : (rdNat st1).2.1.length ≤ st1.1.length := stepN_len 59 0 st1
  have hN : 0 ≤ (rdNat st1).1 := (stepN_nonneg (e := 59) (.inr (.inl rfl)) st1).1
  have hok2 : RdOk (rdNat st1).2 := rdNat_ok hok1
  obtain ⟨⟨N, st2⟩, e2⟩ : ∃ x, rdNat st1 = x := ⟨_, rfl⟩
  rw [e2] at h0 h1 hlen2 hN hok2 ⊢
  simp only at h0 h1 hlen2 hN hok2 ⊢
  obtain ⟨B, hB⟩ : ∃ B, Own.blk kb [.slice none 0 0, .slice none 0 0, .int .i64 sq, .slice none 0 0, .int .i64 0] 60 = B := ⟨_, rfl⟩
  rw [hB]
  refine exI_mk (fun p n c R' Φ' => ∃ (acc : Run) (st : RdS), n = acc.length ∧ (((acc.length : Int) = N ∧ pairsK N.toNat st2 [] = some (acc, st)) ∨ ((acc.length : Int) ≠ N ∧ pairsK N.toNat st2 [] = none)) ∧ st.1.length ≤ l.length ∧ acc.length ≤ l.length ∧ (∀ x ∈ acc, x.key.size ≤ l.length ∧ x.val.size ≤ l.length) ∧ R' = rq b st :: tabO p c acc :: B :: S ∧ Φ' = Φ) ⟨?_, ?_⟩
  · refine exI_mk (fun p n c nI R' Φ' k => ∃ (acc : Run) (st : RdS), n = acc.length ∧ nI = acc.length ∧ pairsK (N.toNat - acc.length) st acc = pairsK N.toNat st2 [] ∧ acc.length ≤ N.toNat ∧ acc.length + st.1.length ≤ l.length ∧ (∀ x ∈ acc, x.key.size ≤ l.length ∧ x.val.size ≤ l.length) ∧ RdOk st ∧ R' = rq b st :: tabO p c acc :: B :: S ∧ Φ' = Φ ∧ k = N.toNat - acc.length)
      ⟨⟨rq b st2 :: tabO none 0 [] :: B :: S, Φ, _, inferInstance, fun w G cx => (Ctx.nobuf cx 69 2).swap, [], st2, rfl, rfl, by rw [List.length_nil, Nat.sub_zero], by simp, by simp only [List.length_nil]; omega, fun x hx => (by cases hx), hok2, rfl, rfl, rfl⟩, ?_⟩
    rintro p n c nI R1 Φ1 k _ ⟨acc, st, rfl, rfl, hK, hle, hlen, hsz, hok, rfl, rfl, rfl⟩
    refine Br.intro (fun hlt => fun w G cx => ?_) (fun hge => ?_)
    · have hlt : acc.length < N.toNat := by have := of_decide_eq_true hlt; omega
      obtain ⟨m, hm⟩ : ∃ m, N.toNat - acc.length = m + 1 := ⟨N.toNat - acc.length - 1, by omega⟩
      rw [hm, show pairsK (m + 1) st acc = if stopB acc st = true then none else pairsK m (nextT st) (acc ++ [⟨keyT st, valT st⟩]) from rfl] at hK
      refine Left01_to cx ?_
      refine Br.intro (fun hl0 => fun w G cx => ?_) (fun hl0 => ?_)
      rotate_left
      · have hl0 : st.1 = [] := List.eq_nil_of_length_eq_zero (by have := of_decide_eq_false hl0; omega)
        rw [if_pos (stop_nil hl0)] at hK
        exact ⟨_, _, inferInstance, fun w G cx => cx, acc, st, rfl, .inr ⟨by omega, hK.symm⟩, by omega, by omega, hsz, rfl, rfl⟩
      have ha := stepT_len st
      have hb := stepT_len (stepT st).2
      refine Text01r_to hok (by omega) cx fun b1 w G cx => Text01r_to (stepT_ok hok) (by omega) cx fun w G cx => ?_
      refine ⟨fun _ => by unfold I64; omega, fun hc => ?_, ?_⟩
      · have := of_decide_eq_true ((Bool.and_eq_true _ _).mp hc).2
        omega
      have hptr : ∀ (w : World) (G : List Own), Ctx W w (rq b (nextT st) :: tabO p c acc :: B :: S ++ G) Φ1 → 0 < acc.length → ∃ g, p = some ⟨g, 0, none⟩ := fun w G cx h => e_ptr cx.swap (by rw [idxL_len]; exact h)
      have body : ∀ s52 : ByteArray, (0 < acc.length → s52 = lastKey acc) → ∃ c53 : Bool, ((!decide (valT st = ByteArray.mk #[]) && decide ((0 : Int) < acc.length)) = true → ∀ w, Sem.run Tryz.prog (binOp BinOp.geq 9 (.string s52) (.string (keyT st))) w = .ok (.bool c53) w) ∧ (decide (valT st = ByteArray.mk #[]) || decide ((0 : Int) < acc.length) && c53) = stopB acc st := fun s52 hs => ⟨decide (0 ≤ cmpT s52 (keyT st)), fun _ w => geq_run _ _ _ _, by
        unfold stopB
        by_cases h : (0 : Int) < acc.length
        · rw [hs (by omega)]
        · rw [decide_eq_false h]; rfl⟩
      have hptrK : ∀ {X : Nat → Nat → Prop}, (∀ g o, (0 < acc.length → p = some ⟨g, o, none⟩ ∧ o = 0) → X g o) → ptrK (some (!decide (valT st = ByteArray.mk #[]) && decide ((0 : Int) < acc.length))) p X := fun {X} hX => by
        by_cases h : 0 < acc.length
        · obtain ⟨g, hg⟩ := hptr _ _ cx h
          exact ptrK_intro g 0 hg (hX g 0 fun _ => ⟨hg, rfl⟩)
        · exact ptrK_off (by rw [decide_eq_false (show ¬ (0 : Int) < acc.length by omega), Bool.and_false]) fun g o => hX g o fun h2 => absurd h2 h
      refine hptrK fun g o hg => ⟨lastKey acc, fun hc => ?_, ?_⟩
      · have h3 := of_decide_eq_true ((Bool.and_eq_true _ _).mp hc).2
        obtain ⟨rfl, rfl⟩ := hg (by omega)
        have h4 := e_row cx.swap (idxL_at 0 acc (acc.length - 1) (by omega))
        rw [lastKey_at (by omega)]
        have h5 := h4 0 (by show 0 < 2; decide)
        rw [show (max ((acc.length : Int) - 1) 0).toNat = acc.length - 1 by omega, Nat.zero_add]
        exact h5
      obtain ⟨c53, hc1, hc2⟩ := body (lastKey acc) fun _ => rfl
      refine ⟨c53, hc1, ?_⟩
      rw [hc2]
      clear hc1 hc2 body hptrK hg
      refine Br.intro (fun hs => fun w G cx => ?_) (fun hs => ?_)
      · rw [hs, if_pos rfl] at hK
        have cx2 : Ctx W w (S ++ G) Φ1 := cx.drop1.drop1.drop1
        exact h0 w (by rw [← hK]) cx2.left
      · rw [if_neg (by rw [hs]; simp)] at hK
        obtain ⟨h3, h4, h5⟩ := pair_eats hs
        refine fun k2 w G cx => ?_
        have hsw : (Own.blk k2 [.string (keyT st), .string (valT st)] 69 :: tabO p c acc :: (rq b (nextT st) :: (B :: S ++ G))).Perm (Own.blk k2 [.string (keyT st), .string (valT st)] 69 :: rq b (nextT st) :: tabO p c acc :: (B :: S ++ G)) := List.Perm.cons _ (List.Perm.swap _ _ _)
        have cx2 := Ctx.perm cx hsw.symm
        have hil := idxL_len 0 acc
        obtain ⟨p', cap', w', hr, _, cx3⟩ := cx2.app1 (ts := 48) (ty := 48) (kb := #[false, false]) (bytes := 32) (P := Tryz.prog) (by kernel_rfl) (by omega) rfl rfl (by omega) (by omega)
        have ea : (acc ++ [(⟨keyT st, valT st⟩ : PairD)]).length = acc.length + 1 := by rw [List.length_append]; rfl
        have eb : cellsE (idxL 0 acc) ++ [Value.string (keyT st), Value.string (valT st)] = cellsE (idxL 0 (acc ++ [(⟨keyT st, valT st⟩ : PairD)])) := by
          rw [idxL_app, cellsE_app]
          rfl
        rw [hil] at hr
        have cx4 : Ctx W w' (rq b (nextT st) :: tabO p' cap' (acc ++ [(⟨keyT st, valT st⟩ : PairD)]) :: (B :: S ++ G)) Φ1 := by
          have h6 := cx3.swap
          rw [eb, hil] at h6
          show Ctx W w' (rq b (nextT st) :: Own.buf p' (idxL 0 (acc ++ [(⟨keyT st, valT st⟩ : PairD)])).length cap' (cellsE (idxL 0 (acc ++ [(⟨keyT st, valT st⟩ : PairD)]))) _ 2 :: (B :: S ++ G)) Φ1
          rw [idxL_len, ea]
          exact h6
        have e5 := show (stepT (stepT st).2).2.1.length + 3 ≤ st.1.length from h3
        refine ⟨p', _, cap', w', hr, rq b (nextT st) :: tabO p' cap' (acc ++ [(⟨keyT st, valT st⟩ : PairD)]) :: B :: S, Φ1, inferInstance, cx4, by unfold I64; omega, _, Φ1, N.toNat - (acc.length + 1), inferInstance, fun w G cx => cx, ⟨acc ++ [(⟨keyT st, valT st⟩ : PairD)], nextT st, by rw [ea], by rw [ea]; omega, ?_, by rw [ea]; omega, by rw [ea]; omega, fun x hx => ?_, stepT_ok (stepT_ok hok), rfl, rfl, by rw [ea]⟩, by omega⟩
        · rw [ea, show N.toNat - (acc.length + 1) = m by omega]
          exact hK
        · rcases List.mem_append.1 hx with hx | hx
          · exact hsz x hx
          · rw [List.mem_singleton.1 hx]
            exact ⟨by show (keyT st).size ≤ _; omega, by show (valT st).size ≤ _; omega⟩
    · have hge : acc.length = N.toNat := by have := of_decide_eq_false hge; omega
      rw [show N.toNat - acc.length = 0 by omega, show pairsK 0 st acc = some (acc, st) from rfl] at hK
      exact ⟨_, _, inferInstance, fun w G cx => cx, acc, st, rfl, .inl ⟨by omega, hK.symm⟩, by omega, by omega, hsz, rfl, rfl⟩
  rintro p n c R1 Φ1 _ ⟨acc, st, rfl, hK, hsl, hal, hsz, rfl, rfl⟩
  have drop : ∀ (w : World) (G : List Own), Ctx W w (rq b st :: tabO p c acc :: B :: S ++ G) Φ1 → Ctx W w S Φ1 := fun w G cx => by
    have cx2 : Ctx W w (S ++ G) Φ1 := cx.drop1.drop1.drop1
    exact cx2.left
  refine fun w G cx => Done01_to cx ?_
  rcases hK with ⟨hn, hK⟩ | ⟨hn, hK⟩
  rotate_left
  · rw [hK] at h0
    exact Br.intro (fun _ => fun w G cx => h0 w rfl (drop w G cx)) (fun _ => Br.intro (fun _ => fun w G cx => h0 w rfl (drop w G cx)) (fun h => absurd hn (of_decide_eq_false h)))
  rw [hK] at h0 h1
  simp only at h0 h1
  refine Br.intro (fun hd => fun w G cx => h0 w (if_neg fun h => by rw [h.1.1] at hd; cases hd) (drop w G cx)) (fun hd => Br.intro (fun h => absurd hn (of_decide_eq_true h)) (fun _ => fun w G cx => ⟨sq, by rw [← hB] at cx; exact cx.get 2 rfl rfl, Br.intro (fun hn => fun w G cx => h0 w (if_neg fun h => by have := of_decide_eq_true hn; omega) (drop w G cx)) (fun hn => fun w G cx => ⟨sq, by rw [← hB] at cx; exact cx.get 2 rfl rfl, Br.intro (fun hx => fun w G cx => h0 w (if_neg fun h => by have := of_decide_eq_true hx; omega) (drop w G cx)) (fun hx => fun w G cx => ⟨sq, by rw [← hB] at cx; exact cx.get 2 rfl rfl, fun w G cx => ⟨by rw [← hB] at cx; exact cx.can 2 rfl (by show 0 + 4 + 1 ≤ 5; omega), fun w' hw' => ?_⟩⟩)⟩)⟩))
  have hn := of_decide_eq_false hn
  have hx := of_decide_eq_false hx
  have hd : rdDone st = true := by cases hr : rdDone st with
    | true => rfl
    | false => rw [hr] at hd; cases hd
  rw [← hB] at cx
  have cx1 := cx.put 2 hw' rfl
  refine ⟨rq b st :: tabO p c acc :: Own.blk kb [.slice none 0 0, .slice none 0 0, .int .i64 sq, .slice none 0 0, .int .i64 sq] 60 :: S, Φ1, inferInstance, cx1, fun w G cx => ?_⟩
  have cx2 := cx.drop1
  have hz1 : Szs acc := fun x hx => by have := hsz x hx; unfold maxLen; omega
  obtain ⟨c1, c2, c3⟩ := freezeE (S := Own.blk kb [.slice none 0 0, .slice none 0 0, .int .i64 sq, .slice none 0 0, .int .i64 sq] 60 :: S ++ G) cx2 (by rw [idxL_d]; exact hz1)
  rw [idxL_d] at c1 c2
  have st1 : Stable (fun M w => Φ1 M w ∧ Sl M w p acc) := instStableAnd Φ1 (fun M w => Sl M w p acc)
  have c4 := ((c1.nobuf 103 1).swap).weak (Ψ := fun M w => (Φ1 M w ∧ Sl M w p acc) ∧ LVE [] M w) fun M w h => ⟨h, fun x hx => by cases hx⟩
  refine add29_use (Φ := fun M w => Φ1 M w ∧ Sl M w p acc) (hR := ⟨fun M w h => h.2⟩) (i := 1) (sb := kb) (a := .slice none 0 0) (lp := none) (lc := 0) (xs := []) (c := .int .i64 sq) (d := .slice none 0 0) (e := .int .i64 sq) (S := S ++ G) c2 c3 (by omega) (by simp) (fun x hx => by cases hx) (fun x hx => by cases hx) c4 fun lp' lc' xs' w' hx1 hx2 cx5 => ?_
  have stL : Stable (fun M w => (Φ1 M w ∧ Sl M w p acc) ∧ LVE xs' M w) := instStableAnd (fun M w => Φ1 M w ∧ Sl M w p acc) (LVE xs')
  refine ⟨rfl, rlO kb (.slice none 0 0) lp' lc' xs' (.int .i64 sq) (.slice none 0 0) (.int .i64 sq) S, _, stL, cx5, fun w G cx => ?_⟩
  have cx6 := cx.left.nobuf 46 3
  refine h1 ⟨kb, none, 0, lp', lc', xs', none, 0, []⟩ (restS sq acc) w (if_pos ⟨⟨hd, by omega⟩, by omega⟩) ⟨⟨Nat.le_refl _, Nat.zero_le _⟩, hx1, hx2⟩ ((cx6.perm ?_).weak fun M w h => ⟨h.1.1, ⟨Sl.nil, Elems.nil⟩, h.2⟩)
  exact (List.perm_middle (l₁ := [Own.blk kb [.slice none 0 0, .slice lp' xs'.length lc', .int .i64 sq, .slice none 0 0, .int .i64 sq] 60, Own.buf lp' xs'.length lc' (xs'.map LV.cell) 103 1])).symm
end Go.Proofs.YtebnciehcnedjaaGreatDoor
end

section
namespace Go.Proofs.YtebnciehcnedjaaGreatDoor
open Go.Vc
theorem normK_keys {l : Run} {k : ByteArray} (h : ∀ x ∈ l, cmpT k x.key < 0) : ∀ x ∈ normK l, cmpT k x.key < 0 := fun x hx => h x (normK_mem x hx)
theorem look_lt {l : Run} {k : ByteArray} (h : ∀ x ∈ l, cmpT k x.key < 0) : lookV l k = none := lookV_none (asc_ne (x := ⟨k, tE⟩) h)
theorem norm_least {y : PairD} {a b : Run} (h : ∀ x ∈ a, cmpT y.key x.key < 0) (h2 : ∀ x ∈ b, cmpT y.key x.key < 0) : normK (a ++ y :: b) = y :: normK (a ++ b) := by
  have hall : ∀ x ∈ a ++ b, cmpT y.key x.key < 0 := fun x hx => by
    rcases List.mem_append.1 hx with hx | hx
    · exact h x hx
    · exact h2 x hx
  refine normK_is (List.pairwise_cons.2 ⟨normK_keys hall, normK_asc _⟩) fun k => ?_
  show (if y.key = k then some y.val else lookV (normK (a ++ b)) k) = _
  rw [normK_look, lookV_app, lookV_app]
  show _ = (lookV a k).or (if y.key = k then some y.val else lookV b k)
  by_cases e : y.key = k
  · rw [if_pos e, if_pos e, ← e, look_lt h]; rfl
  · rw [if_neg e, if_neg e]
theorem norm_hid {x y : PairD} {a b : Run} (h : y.key = x.key) : normK (x :: a ++ y :: b) = normK (x :: a ++ b) := by
  refine normK_eq fun k => ?_
  rw [lookV_app, lookV_app]
  show _ = (lookV (x :: a) k).or (lookV b k)
  show (if x.key = k then some x.val else lookV a k).or (if y.key = k then some y.val else lookV b k) = (if x.key = k then some x.val else lookV a k).or (lookV b k)
  by_cases e : x.key = k
  · rw [if_pos e]; rfl
  · rw [if_neg e, if_neg fun e2 => e (h.symm.trans e2)]
theorem norm_first {x : PairD} {a b : Run} (h : ∀ y ∈ a, cmpT x.key y.key < 0) (h2 : ∀ y ∈ b, cmpT x.key y.key < 0) : normK (x :: a ++ b) = x :: normK (a ++ b) := by
  have := norm_least (y := x) (a := []) (b := a ++ b) (fun y hy => by cases hy) (fun y hy => by
    rcases List.mem_append.1 hy with hy | hy
    · exact h y hy
    · exact h2 y hy)
  rw [List.nil_append, List.nil_append] at this
  exact this
theorem cellsE_elems {l : Run} (hz : Szs l) (M : List Nat) (w : World) : Elems M w (cellsE (idxL 0 l)) l := tab_elems hz M w
theorem app_pair {W w : World} {S : List Own} {Φ : PW} [Stable Φ] {p : Option Addr} {c b : Nat} {out : Run} {x : PairD} (hl : out.length < 10000000) (cx : Ctx W w (.blk b [.string x.key, .string x.val] 69 :: tabO p c out :: S) Φ) :
    ∃ p' c' w', Sem.run Tryz.prog (builtin Builtin.append #[48, 48] 48 #[false, false] #[.slice p out.length c, .slice (some ⟨b, 0, none⟩) 1 1]) w = .ok (.value (.slice p' (out ++ [x]).length c')) w' ∧ Ctx W w' (tabO p' c' (out ++ [x]) :: S) Φ := by
  have hil := idxL_len 0 out
  obtain ⟨p', c', w', hr, _, cx3⟩ := cx.app1 (ts := 48) (ty := 48) (kb := #[false, false]) (bytes := 32) (P := Tryz.prog) (by kernel_rfl) (by omega) rfl rfl (by omega) (by omega)
  have ea : (out ++ [x]).length = out.length + 1 := by rw [List.length_append]; rfl
  have eb : cellsE (idxL 0 out) ++ [Value.string x.key, Value.string x.val] = cellsE (idxL 0 (out ++ [x])) := by
    rw [idxL_app, cellsE_app]
    rfl
  rw [hil] at hr
  refine ⟨p', c', w', by rw [ea]; exact hr, ?_⟩
  rw [eb, hil] at cx3
  show Ctx W w' (Own.buf p' (idxL 0 (out ++ [x])).length c' (cellsE (idxL 0 (out ++ [x]))) _ 2 :: S) Φ
  rw [idxL_len, ea]
  exact cx3
theorem app_rest {W w : World} {S : List Own} {Φ : PW} [Stable Φ] {p q : Option Addr} {c c2 : Nat} {out r : Run} (hz : Szs out) (hq : ∀ M w, Φ M w → Sl M w q r) (hl : out.length + r.length < 10000000) (cx : Ctx W w (tabO p c out :: S) Φ) :
    ∃ p' c' w', Sem.run Tryz.prog (builtin Builtin.append #[48, 48] 48 #[false, false] #[.slice p out.length c, .slice q r.length c2]) w = .ok (.value (.slice p' (out ++ r).length c')) w' ∧ (out ++ r).length ≤ c' ∧ c' ≤ maxLen ∧ Ctx W w' S (fun M w => Φ M w ∧ Sl M w p' (out ++ r)) := by
  have hil := idxL_len 0 out
  obtain ⟨p', c', w', news, hr, cx2⟩ := Ctx.appAnyV (α := PairD) (P := Tryz.prog) (ts := 48) (tv := 48) (ty := 48) (u := 69) (kb := #[false, false]) (bytes := 32) (c2 := c2) (l := r) (q := q) cx (by kernel_rfl) (by kernel_rfl) pair_one hq (by omega) (by omega)
  have he := Elems.append (cellsE_elems hz (dom (Own.buf p' ((idxL 0 out).length + r.length) c' (cellsE (idxL 0 out) ++ news) 69 2 :: S)) w') cx2.phi.2
  obtain ⟨c3, hs, el, h2, h3⟩ := Ctx.freeze (α := PairD) (l := out ++ r) cx2 he
  have ea : (out ++ r).length = out.length + r.length := List.length_append
  rw [hil] at hr h2
  exact ⟨p', c', w', by rw [ea]; exact hr, by rw [ea]; exact h2, h3, (c3.add (Ψ := fun M w => Sl M w p' (out ++ r)) hs).weak fun M w h => ⟨h.1.1, h.2⟩⟩
theorem asc_drop {l : Run} (h : AscK l) (i : Nat) : AscK (l.drop i) := h.sublist (List.drop_sublist i l)
theorem asc_head {l : Run} (h : AscK l) {i : Nat} (hi : i < l.length) : ∀ y ∈ l.drop (i + 1), cmpT l[i].key y.key < 0 := by
  have h1 := asc_drop h i
  rw [List.drop_eq_getElem_cons hi] at h1
  exact (List.pairwise_cons.1 h1).1
set_option maxHeartbeats 4000000 in
theorem merge29_sl {Φ : PW} [Stable Φ] {p q : Option Addr} {c d : Nat} {a b : Run} (h1 : ∀ M w, Φ M w → Sl M w p a) (h2 : ∀ M w, Φ M w → Sl M w q b) (ha : AscK a) (hb : AscK b) (hla : a.length ≤ 100000) (hlb : b.length ≤ 100000) (hbd : b.length ≤ d) :
    GivesSl Φ Tryz.prog F.errataref29_merge #[.slice p a.length c, .slice q b.length d] (normK (a ++ b)) id := by
  refine GivesSl.there (fun M w x => (h1 M w x).there) fun ht1 => GivesSl.there (fun M w x => (h2 M w x).there) fun ht2 => ?_
  refine GivesSl.know (fun M w x => ⟨sl_szs (h1 M w x), sl_szs (h2 M w x)⟩) fun (hzz : Szs a ∧ Szs b) => ?_
  obtain ⟨hza, hzb⟩ := hzz
  have hzn : Szs (normK (a ++ b)) := fun x hx => by
    rcases List.mem_append.1 (normK_mem x hx) with h | h
    · exact hza x h
    · exact hzb x h
  refine gives_sl (Merrataref29_merge_run p a.length c q b.length d) fun W R => ?_
  refine exI_mk (fun pO n cO nI nK R' Φ' m => ∃ (i k : Nat) (out : Run), nI = i ∧ nK = k ∧ n = out.length ∧ i ≤ b.length ∧ k ≤ a.length ∧ out.length ≤ i + k ∧ Szs out ∧ out ++ normK (a.drop k ++ b.drop i) = normK (a ++ b) ∧ R' = tabO pO cO out :: R ∧ Φ' = Φ ∧ m = a.length - k)
    ⟨⟨tabO none 0 [] :: R, Φ, _, inferInstance, fun w G cx => Ctx.nobuf cx 69 2, 0, 0, [], rfl, rfl, rfl, Nat.zero_le _, Nat.zero_le _, Nat.zero_le _, fun x hx => (by cases hx), rfl, rfl, rfl, rfl⟩, ?_⟩
  rintro pO n cO nI nK R1 Φ1 m _ ⟨i, k, out, rfl, rfl, rfl, hi, hk, hlo, hzo, hinv, rfl, rfl, rfl⟩
  refine Br.intro (fun hlt => ?_) (fun hge => ?_)
  rotate_left
  · -- the rest
    have hge : k = a.length := by have := of_decide_eq_false hge; omega
    subst hge
    rw [List.drop_length, List.nil_append, normK_self (asc_drop hb i)] at hinv
    refine ⟨⟨by omega, by omega, hbd⟩, fun w G cx => ?_⟩
    rw [Int.toNat_natCast]
    have hlr : b.length - i = (b.drop i).length := by rw [List.length_drop]
    rw [hlr]
    obtain ⟨p', c', w', hr, g1, g2, cx2⟩ := app_rest (c2 := d - i) (q := subPtr q 2 i d) (r := b.drop i) hzo (fun M w h => addr_sub (h2 M w h) i hbd) (by rw [List.length_drop]; omega) cx
    rw [hinv] at hr g1 cx2
    have st : Stable (fun M w => Φ1 M w ∧ Sl M w p' (normK (a ++ b))) := instStableAnd Φ1 (fun M w => Sl M w p' (normK (a ++ b)))
    exact ⟨p', _, c', w', hr, R, _, st, cx2, fun w G cx => ⟨p', c', rfl, g1, g2, cx.left⟩⟩
  have hlt : k < a.length := by have := of_decide_eq_true hlt; omega
  obtain ⟨bA, oA, hpA⟩ := ht1 (by omega)
  subst hpA
  have hxa := asc_head ha hlt
  have eda : a.drop k = a[k] :: a.drop (k + 1) := List.drop_eq_getElem_cons hlt
  have rowA : ∀ (w : World) (R G : List Own), Ctx W w (R ++ G) Φ1 → RowAt w bA (oA + k * 2) [.string a[k].key, .string a[k].val] := fun w R G cx => sl_pair (h1 _ _ cx.phi) hlt
  refine exI_mk (fun pO n cO nI R' Φ' m => ∃ (i : Nat) (out : Run), nI = i ∧ n = out.length ∧ i ≤ b.length ∧ out.length ≤ i + k ∧ Szs out ∧ out ++ normK (a.drop k ++ b.drop i) = normK (a ++ b) ∧ R' = tabO pO cO out :: R ∧ Φ' = Φ1 ∧ m = b.length - i)
    ⟨⟨_, Φ1, _, inferInstance, fun w G cx => cx, i, out, rfl, rfl, hi, hlo, hzo, hinv, rfl, rfl, rfl⟩, ?_⟩
  clear hinv hlo hi hzo
  rintro pO n cO nI R2 Φ2 m _ ⟨i, out, rfl, rfl, hi, hlo, hzo, hinv, rfl, rfl, rfl⟩
  have hqB : ∀ {K : Nat → Nat → Prop}, (∀ g o, (i < b.length → q = some ⟨g, o, none⟩) → K g o) → ptrK (some (decide ((i : Int) < b.length))) q K := fun {K} hK => by
    by_cases h : i < b.length
    · obtain ⟨g, o, e⟩ := ht2 (by omega)
      exact ptrK_intro g o e (hK g o fun _ => e)
    · exact ptrK_off (decide_eq_false (by omega)) fun g o => hK g o fun h2 => absurd h2 h
  obtain ⟨bk, hbk⟩ : ∃ bk : ByteArray, ∀ h : i < b.length, bk = b[i].key := by
    by_cases h : i < b.length
    · exact ⟨b[i].key, fun _ => rfl⟩
    · exact ⟨tE, fun h2 => absurd h2 h⟩
  refine fun w G cx => ⟨fun _ => by unfold I64; omega, fun h => by have := of_decide_eq_true h; omega, hqB fun g o hg => ⟨bk, fun h => ?_, fun _ => ⟨by omega, by omega⟩, ptrK_intro bA oA rfl ⟨a[k].key, fun _ => by rw [Int.toNat_natCast]; exact rowA w _ _ cx 0 (by show 0 < 2; decide), ?_⟩⟩⟩
  · have h := of_decide_eq_true h
    have hib : i < b.length := by omega
    obtain rfl := hg hib
    have h3 := sl_pair (h2 _ _ cx.phi) hib 0 (by show 0 < 2; decide)
    rw [show (min (i : Int) ((b.length : Int) - 1)).toNat = i by omega, hbk hib]
    exact h3
  clear cx hqB
  refine Br.intro (fun hb1 => ?_) (fun hb1 => ?_)
  · -- a lesser one of the older run
    rw [Bool.and_eq_true, bl_cmp] at hb1
    have hib : i < b.length := by have := of_decide_eq_true hb1.1; omega
    have hlt2 := of_decide_eq_true hb1.2
    rw [hbk hib] at hlt2
    obtain ⟨bB, oB, hpB⟩ := ht2 (by omega)
    subst hpB
    refine ⟨⟨by omega, by omega⟩, ptrK_intro bB oB rfl fun w G cx => ⟨b[i].key, b[i].val, by rw [Int.toNat_natCast]; exact sl_pair (h2 _ _ cx.phi) hib, fun k2 w G cx => ?_⟩⟩
    obtain ⟨p', c', w', hr, cx2⟩ := app_pair (x := b[i]) (S := R ++ G) (by omega) cx
    refine ⟨p', _, c', w', hr, tabO p' c' (out ++ [b[i]]) :: R, Φ2, inferInstance, cx2, by unfold I64; omega, _, Φ2, b.length - (i + 1), inferInstance, fun w G cx => cx, ⟨i + 1, out ++ [b[i]], by omega, rfl, by omega, by rw [List.length_append, List.length_singleton]; omega, fun x hx => ?_, ?_, rfl, rfl, rfl⟩, by omega⟩
    · rcases List.mem_append.1 hx with hx | hx
      · exact hzo x hx
      · rw [List.mem_singleton.1 hx]; exact hzb _ (List.getElem_mem hib)
    · rw [← hinv, show b.drop i = b[i] :: b.drop (i + 1) from List.drop_eq_getElem_cons hib, norm_least (y := b[i]) (a := a.drop k) (fun x hx => ?_) (asc_head hb hib), List.append_assoc]
      · rfl
      · rw [eda] at hx
        rcases List.mem_cons.1 hx with rfl | hx
        · exact hlt2
        · exact cmpT_cmp.trans _ _ _ hlt2 (hxa x hx)
  -- then the newer one
  have hnot : ∀ h : i < b.length, ¬ cmpT b[i].key a[k].key < 0 := fun h h3 => by
    rw [decide_eq_true (show (i : Int) < b.length by omega), Bool.true_and, bl_cmp, hbk h] at hb1
    exact (of_decide_eq_false hb1) h3
  have hrest : ∀ j, i ≤ j → (∀ h : i < b.length, j = i → cmpT a[k].key b[i].key < 0) → ∀ x ∈ b.drop j, cmpT a[k].key x.key < 0 := fun j h3 hj x hx => by
    rcases Nat.lt_or_ge i b.length with h | h
    · have h4 := hj h
      have h5 : cmpT a[k].key b[i].key < 0 ∨ a[k].key = b[i].key := by
        rcases cmpT_cmp.tri a[k].key b[i].key with h6 | h6 | h6
        · exact .inl h6
        · exact .inr h6
        · exact absurd h6 (hnot h)
      by_cases e : j = i
      · subst e
        rw [List.drop_eq_getElem_cons h] at hx
        rcases List.mem_cons.1 hx with rfl | hx
        · exact h4 rfl
        · exact cmpT_cmp.trans _ _ _ (h4 rfl) (asc_head hb h x hx)
      · have hx2 : x ∈ b.drop (i + 1) := by
          have e2 : b.drop j = (b.drop (i + 1)).drop (j - (i + 1)) := by rw [List.drop_drop, show i + 1 + (j - (i + 1)) = j by omega]
          rw [e2] at hx
          exact List.mem_of_mem_drop hx
        have h6 := asc_head hb h x hx2
        rcases h5 with h5 | h5
        · exact cmpT_cmp.trans _ _ _ h5 h6
        · rw [h5]; exact h6
    · by_cases e : b.length ≤ j
      · rw [List.drop_of_length_le e] at hx; cases hx
      · exfalso
        have : i = b.length := by omega
        have hx2 := List.length_pos_of_mem hx
        rw [List.length_drop] at hx2
        omega
  refine exI_mk (fun nI R' Φ' => ∃ j : Nat, nI = j ∧ j ≤ b.length ∧ i ≤ j ∧ (∀ x ∈ b.drop j, cmpT a[k].key x.key < 0) ∧ out ++ normK (a.drop k ++ b.drop j) = normK (a ++ b) ∧ R' = tabO pO cO out :: R ∧ Φ' = Φ2) ⟨Br.intro (fun hib => fun w G cx => ?_) (fun hib => ?_), ?_⟩
  · have hib : i < b.length := by have := of_decide_eq_true hib; omega
    obtain ⟨bB, oB, hpB⟩ := ht2 (by omega)
    subst hpB
    refine ⟨⟨by omega, by omega⟩, ptrK_intro bB oB rfl ⟨b[i].key, by rw [Int.toNat_natCast]; exact sl_pair (h2 _ _ cx.phi) hib 0 (by show 0 < 2; decide), ⟨by omega, by omega⟩, ptrK_intro bA oA rfl ⟨a[k].key, by rw [Int.toNat_natCast]; exact rowA w _ _ cx 0 (by show 0 < 2; decide), Br.intro (fun he => ⟨by unfold I64; omega, _, Φ2, inferInstance, fun w G cx => cx, i + 1, by omega, by omega, by omega, hrest (i + 1) (by omega) (fun _ h => by omega), ?_, rfl, rfl⟩) (fun he => ⟨_, Φ2, inferInstance, fun w G cx => cx, i, rfl, hi, Nat.le_refl _, hrest i (Nat.le_refl _) (fun h _ => ?_), hinv, rfl, rfl⟩)⟩⟩⟩
    · rw [← hinv, show b.drop i = b[i] :: b.drop (i + 1) from List.drop_eq_getElem_cons hib, eda]
      have := norm_hid (x := a[k]) (y := b[i]) (a := a.drop (k + 1)) (b := b.drop (i + 1)) (of_decide_eq_true he)
      rw [this]
    · rcases cmpT_cmp.tri a[k].key b[i].key with h6 | h6 | h6
      · exact h6
      · exact absurd h6.symm (of_decide_eq_false he)
      · exact absurd h6 (hnot h)
  · have hib : ¬ i < b.length := fun h => by have := of_decide_eq_false hib; omega
    exact ⟨_, Φ2, inferInstance, fun w G cx => cx, i, rfl, hi, Nat.le_refl _, hrest i (Nat.le_refl _) (fun h => absurd h hib), hinv, rfl, rfl⟩
  rintro nI R3 Φ3 _ ⟨j, rfl, hj, hij, hlt3, hinv3, rfl, rfl⟩
  refine ⟨⟨by omega, by omega⟩, ptrK_intro bA oA rfl fun w G cx => ⟨a[k].key, a[k].val, by rw [Int.toNat_natCast]; exact rowA w _ _ cx, fun k2 w G cx => ?_⟩⟩
  obtain ⟨p', c', w', hr, cx2⟩ := app_pair (x := a[k]) (S := R ++ G) (by omega) cx
  refine ⟨p', _, c', w', hr, tabO p' c' (out ++ [a[k]]) :: R, Φ3, inferInstance, cx2, by unfold I64; omega, _, Φ3, a.length - (k + 1), inferInstance, fun w G cx => cx, ⟨j, k + 1, out ++ [a[k]], rfl, by omega, rfl, hj, by omega, by rw [List.length_append, List.length_singleton]; omega, fun x hx => ?_, ?_, rfl, rfl, rfl⟩, by omega⟩
  · rcases List.mem_append.1 hx with hx | hx
    · exact hzo x hx
    · rw [List.mem_singleton.1 hx]; exact hza _ (List.getElem_mem hlt)
  · rw [← hinv3, eda, norm_first hxa hlt3, List.append_assoc]
    rfl
end Go.Proofs.YtebnciehcnedjaaGreatDoor
end

section
namespace Go.Proofs.YtebnciehcnedjaaGreatDoor
open Go.Vc
theorem there_snoc (l : Run) (x : PairD) : thereP (l ++ [x]) = if x.val = tE then thereP l else thereP l ++ [x] := by
  unfold thereP
  rw [List.filter_append]
  by_cases h : x.val = tE
  · rw [if_pos h, List.filter_cons_of_neg (by simp [h])]
    simp
  · rw [if_neg h, List.filter_cons_of_pos (by simp [h])]
    rfl
theorem there29_sl {Φ : PW} [Stable Φ] {p : Option Addr} {c : Nat} {l : Run} (h1 : ∀ M w, Φ M w → Sl M w p l) (hl : l.length ≤ 100000) :
    GivesSl Φ Tryz.prog F.errataref29_there #[.slice p l.length c] (thereP l) id := by
  refine GivesSl.there (fun M w x => (h1 M w x).there) fun ht1 => ?_
  refine GivesSl.know (fun M w x => sl_szs (h1 M w x)) fun (hz : Szs l) => ?_
  refine gives_sl (Berrataref29_there_run p l.length c) fun W R => ?_
  refine exI_mk (fun pO n cO nI R' Φ' m => ∃ i : Nat, nI = i ∧ n = (thereP (l.take i)).length ∧ i ≤ l.length ∧ R' = tabO pO cO (thereP (l.take i)) :: R ∧ Φ' = Φ ∧ m = l.length - i)
    ⟨⟨tabO none 0 [] :: R, Φ, _, inferInstance, fun w G cx => Ctx.nobuf cx 69 2, 0, rfl, rfl, Nat.zero_le _, rfl, rfl, rfl⟩, ?_⟩
  rintro pO n cO nI R1 Φ1 m _ ⟨i, rfl, rfl, hi, rfl, rfl, rfl⟩
  refine Br.intro (fun hlt => ?_) (fun hge => fun w G cx => ?_)
  · have hlt : i < l.length := by have := of_decide_eq_true hlt; omega
    obtain ⟨g, o, rfl⟩ := ht1 (by omega)
    have hst := there_snoc (l.take i) l[i]
    rw [← List.take_succ_eq_append_getElem hlt] at hst
    have hlo : (thereP (l.take i)).length ≤ i := Nat.le_trans (List.length_filter_le _ _) (by rw [List.length_take]; omega)
    refine ⟨⟨by omega, by omega⟩, ptrK_intro g o rfl fun w G cx => ⟨l[i].val, by rw [Int.toNat_natCast]; exact sl_pair (h1 _ _ cx.phi) hlt 1 (by show 1 < 2; decide), Br.intro (fun hv => ⟨⟨by omega, by omega⟩, ptrK_intro g o rfl fun w G cx => ⟨l[i].key, l[i].val, by rw [Int.toNat_natCast]; exact sl_pair (h1 _ _ cx.phi) hlt, fun k w G cx => ?_⟩⟩) (fun hv => ?_)⟩⟩
    · rw [if_neg (of_decide_eq_true hv)] at hst
      obtain ⟨p', c', w', hr, cx2⟩ := app_pair (x := l[i]) (S := R ++ G) (by omega) cx
      refine ⟨p', _, c', w', hr, tabO p' c' (thereP (l.take i) ++ [l[i]]) :: R, Φ1, inferInstance, cx2, by unfold I64; omega, _, Φ1, l.length - (i + 1), inferInstance, fun w G cx => cx, ⟨i + 1, by omega, by rw [hst], by omega, by rw [hst], rfl, rfl⟩, by omega⟩
    · rw [if_pos (Decidable.not_not.1 (of_decide_eq_false hv))] at hst
      exact ⟨by unfold I64; omega, _, Φ1, l.length - (i + 1), inferInstance, fun w G cx => cx, ⟨i + 1, by omega, by rw [hst], by omega, by rw [hst], rfl, rfl⟩, by omega⟩
  · have hge : i = l.length := by have := of_decide_eq_false hge; omega
    subst hge
    rw [List.take_length] at cx ⊢
    have hil := idxL_len 0 (thereP l)
    obtain ⟨c1, c2, c3⟩ := freezeE (S := R ++ G) cx (by rw [idxL_d]; exact fun x hx => hz x (List.mem_filter.1 hx).1)
    rw [idxL_d] at c1 c2
    exact ⟨pO, cO, rfl, c2, c3, c1.left⟩
theorem cloneSl {W w : World} {S : List Own} {Φ : PW} [Stable Φ] {q : Option Addr} {c2 k : Nat} {r : Run} (hq : ∀ M w, Φ M w → Sl M w q r) (hl : r.length < 10000000) (cx : Ctx W w (.blk k [] 69 :: S) Φ) :
    ∃ p' c' w', Sem.run Tryz.prog (builtin Builtin.append #[48, 48] 48 #[false, false] #[.slice (some ⟨k, 0, none⟩) 0 0, .slice q r.length c2]) w = .ok (.value (.slice p' r.length c')) w' ∧ Ctx W w' (tabO p' c' r :: S) Φ := by
  obtain ⟨p', cap', w', cs, hr, cx2⟩ := Ctx.cloned (α := PairD) (P := Tryz.prog) cx (ts := 48) (ty := 48) (kb := #[false, false]) (c2 := c2) (bytes := 32) (by kernel_rfl) pair_one hq (by omega) (by omega)
  have e := elems_ex 0 cx2.phi.2
  subst e
  have cx3 := cx2.weak (Ψ := Φ) fun M w h => h.1
  refine ⟨p', cap', w', hr, ?_⟩
  show Ctx W w' (Own.buf p' (idxL 0 r).length cap' (cellsE (idxL 0 r)) _ 2 :: S) Φ
  rw [idxL_len]
  exact cx3
set_option maxHeartbeats 4000000 in
theorem put29_sl {Φ : PW} [Stable Φ] {p : Option Addr} {c : Nat} {l : Run} {key val : ByteArray} (h1 : ∀ M w, Φ M w → Sl M w p l) (ha : AscK l) (hl : l.length ≤ 100000) (hlc : l.length ≤ c) (hk : key.size ≤ maxLen ∧ val.size ≤ maxLen) :
    GivesSl Φ Tryz.prog F.errataref29_put #[.slice p l.length c, .string key, .string val] (putK ⟨key, val⟩ l) id := by
  refine GivesSl.there (fun M w x => (h1 M w x).there) fun ht1 => ?_
  refine GivesSl.know (fun M w x => sl_szs (h1 M w x)) fun (hz : Szs l) => ?_
  refine gives_sl (Merrataref29_put_run p l.length c key val) fun W R => ?_
  refine exI_mk (fun nI R' Φ' m => ∃ i : Nat, nI = i ∧ i ≤ l.length ∧ (∀ q (h : q < l.length), q < i → cmpT l[q].key key < 0) ∧ R' = R ∧ Φ' = Φ ∧ m = l.length - i)
    ⟨⟨R, Φ, _, inferInstance, fun w G cx => cx, 0, rfl, Nat.zero_le _, fun q h h2 => by omega, rfl, rfl, rfl⟩, ?_⟩
  rintro nI R1 Φ1 m _ ⟨i, rfl, hi, hlow, rfl, rfl, rfl⟩
  have hptr : ∀ {K : Nat → Nat → Prop}, (∀ g o, (i < l.length → p = some ⟨g, o, none⟩) → K g o) → ptrK (some (decide ((i : Int) < l.length))) p K := fun {K} hK => by
    by_cases h : i < l.length
    · obtain ⟨g, o, e⟩ := ht1 (by omega)
      exact ptrK_intro g o e (hK g o fun _ => e)
    · exact ptrK_off (decide_eq_false (by omega)) fun g o => hK g o fun h2 => absurd h2 h
  obtain ⟨bk, hbk⟩ : ∃ bk : ByteArray, ∀ h : i < l.length, bk = l[i].key := by
    by_cases h : i < l.length
    · exact ⟨l[i].key, fun _ => rfl⟩
    · exact ⟨tE, fun h2 => absurd h2 h⟩
  refine fun w G cx => ⟨fun _ => ⟨by omega, by have := of_decide_eq_true ‹_›; omega⟩, hptr fun g o hg => ⟨bk, fun h => ?_, ?_⟩⟩
  · have hib : i < l.length := by have := of_decide_eq_true h; omega
    obtain rfl := hg hib
    rw [Int.toNat_natCast, hbk hib]
    exact sl_pair (h1 _ _ cx.phi) hib 0 (by show 0 < 2; decide)
  clear cx hptr
  refine Br.intro (fun hb1 => ?_) (fun hb1 => fun k0 => ?_)
  · rw [Bool.and_eq_true, bl_cmp] at hb1
    have hib : i < l.length := by have := of_decide_eq_true hb1.1; omega
    have hlt2 := of_decide_eq_true hb1.2
    rw [hbk hib] at hlt2
    exact ⟨by unfold I64; omega, R1, Φ1, l.length - (i + 1), inferInstance, fun w G cx => cx, ⟨i + 1, by omega, by omega, fun q h h2 => by
      by_cases e : q = i
      · subst e; exact hlt2
      · exact hlow q h (by omega), rfl, rfl, rfl⟩, by omega⟩
  have hnot : ∀ h : i < l.length, ¬ cmpT l[i].key key < 0 := fun h h3 => by
    rw [decide_eq_true (show (i : Int) < l.length by omega), Bool.true_and, bl_cmp, hbk h] at hb1
    exact (of_decide_eq_false hb1) h3
  refine ⟨⟨by omega, by omega, hlc⟩, fun w G cx => ?_⟩
  have hlr : l.length - i = (l.drop i).length := by rw [List.length_drop]
  rw [Int.toNat_natCast, hlr]
  obtain ⟨p1, c1, w', hr, cx1⟩ := cloneSl (S := R1 ++ G) (c2 := c - i) (q := subPtr p 2 i c) (r := l.drop i) (fun M w h => addr_sub (h1 M w h) i hlc) (by rw [List.length_drop]; omega) cx
  obtain ⟨cx2, g1, g2⟩ := freezeE cx1 (by rw [idxL_d]; exact fun x hx => hz x (List.mem_of_mem_drop hx))
  rw [idxL_d] at cx2 g1
  have st1 : Stable (fun M w => Φ1 M w ∧ Sl M w p1 (l.drop i)) := instStableAnd Φ1 (fun M w => Sl M w p1 (l.drop i))
  have stq : ∀ (q : Option Addr) (r : Run), Stable (fun M w => Φ1 M w ∧ Sl M w q r) := fun q r => instStableAnd Φ1 (fun M w => Sl M w q r)
  have ht2 := cx2.phi.2.there
  refine ⟨p1, _, c1, w', hr, R1, _, st1, cx2, ?_⟩
  clear cx cx1 cx2
  have hdl : (l.drop i).length = l.length - i := List.length_drop
  refine exI_mk (fun q n d R' Φ' => ∃ r : Run, n = r.length ∧ r.length ≤ 100000 ∧ l.take i ++ ⟨key, val⟩ :: r = putK ⟨key, val⟩ l ∧ R' = R1 ∧ Φ' = (fun M w => Φ1 M w ∧ Sl M w q r)) ⟨Br.intro (fun h0 => ?_) (fun h0 => ?_), ?_⟩
  · have hib : i < l.length := by have := of_decide_eq_true h0; omega
    obtain ⟨b1, o1, rfl⟩ := ht2 (by omega)
    have e0 : l.drop i = l[i] :: l.drop (i + 1) := List.drop_eq_getElem_cons hib
    refine ⟨⟨by omega, by omega⟩, ptrK_intro b1 o1 rfl fun w G cx => ⟨l[i].key, ?_, Br.intro (fun he => ⟨⟨by omega, by omega, g1⟩, R1, _, stq (subPtr (some ⟨b1, o1, none⟩) 2 1 c1) (l.drop (i + 1)), fun w G cx => cx.weak fun M w h => ⟨h.1, ?_⟩, l.drop (i + 1), by rw [hdl, List.length_drop]; omega, by rw [List.length_drop]; omega, ?_, rfl, rfl⟩) (fun he => ⟨R1, _, st1, fun w G cx => cx, l.drop i, rfl, by omega, ?_, rfl, rfl⟩)⟩⟩
    · have h2 := sl_pair cx.phi.2 (j := 0) (by omega) 0 (by show 0 < 2; decide)
      rw [Nat.zero_mul, Nat.add_zero] at h2
      have e1 : (l.drop i)[0]'(by omega) = l[i] := by rw [List.getElem_drop]; rfl
      rw [← e1]
      exact h2
    · have h2 := addr_sub h.2 1 g1
      rw [List.drop_drop] at h2
      exact h2
    · have h3 := putK_set (x := ⟨key, val⟩) hib (of_decide_eq_true he) (fun q h h2 => hlow q h h2)
      rw [h3, List.set_eq_take_append_cons_drop, if_pos hib]
    · exact (putK_ins (x := ⟨key, val⟩) hi (fun q h h2 => hlow q h h2) fun h => by
        rcases cmpT_cmp.tri key l[i].key with h6 | h6 | h6
        · exact h6
        · exact absurd h6.symm (of_decide_eq_false he)
        · exact absurd h6 (hnot h)).symm
  · have hib : ¬ i < l.length := fun h => by have := of_decide_eq_false h0; omega
    exact ⟨R1, _, st1, fun w G cx => cx, l.drop i, rfl, by omega, (putK_ins (x := ⟨key, val⟩) hi (fun q h h2 => hlow q h h2) fun h => absurd h hib).symm, rfl, rfl⟩
  rintro q n d R2 Φ2 st2 ⟨r, rfl, hrl, hput, rfl, rfl⟩
  have hzp : Szs (putK ⟨key, val⟩ l) := fun x hx => by
    rcases putK_mem hx with rfl | hx
    · exact hk
    · exact hz x hx
  have hti : (l.take i).length = i := by rw [List.length_take]; omega
  have hsl : ∀ M w, (Φ1 M w ∧ Sl M w q r) → Sl M w (subPtr p 2 0 c) (l.take i) := fun M w h => by
    have h2 := addr_sub (h1 M w h.1) 0 hlc
    rw [List.drop_zero] at h2
    exact sl_take h2 i
  refine fun k2 => ⟨⟨by omega, by omega⟩, fun w G cx => ?_⟩
  obtain ⟨p3, c3, w', hr3, cx3⟩ := cloneSl (S := R2 ++ G) (c2 := c) (q := subPtr p 2 0 c) (r := l.take i) hsl (by omega) cx
  rw [hti] at hr3
  refine ⟨p3, _, c3, w', hr3, tabO p3 c3 (l.take i) :: R2, _, st2, cx3, fun k3 w G cx => ?_⟩
  obtain ⟨p4, c4, w', hr4, cx4⟩ := app_pair (x := ⟨key, val⟩) (S := R2 ++ G) (by omega) cx
  rw [hti] at hr4
  refine ⟨p4, _, c4, w', hr4, tabO p4 c4 (l.take i ++ [(⟨key, val⟩ : PairD)]) :: R2, _, st2, cx4, fun w G cx => ?_⟩
  have eput : (l.take i ++ [(⟨key, val⟩ : PairD)]) ++ r = putK ⟨key, val⟩ l := by rw [List.append_assoc]; exact hput
  have hz4 : Szs (l.take i ++ [(⟨key, val⟩ : PairD)]) := fun x hx => hzp x (by rw [← eput]; exact List.mem_append_left _ hx)
  obtain ⟨p5, c5, w', hr5, k1, k2, cx5⟩ := app_rest (c2 := d) (q := q) (r := r) hz4 (fun M w h => h.2) (by rw [List.length_append, List.length_singleton]; omega) cx
  rw [eput] at hr5 k1 cx5
  have st5 : Stable (fun M w => (Φ1 M w ∧ Sl M w q r) ∧ Sl M w p5 (putK ⟨key, val⟩ l)) := instStableAnd (fun M w => Φ1 M w ∧ Sl M w q r) (fun M w => Sl M w p5 (putK ⟨key, val⟩ l))
  exact ⟨p5, _, c5, w', hr5, R2, _, st5, cx5, fun w G cx => ⟨p5, c5, rfl, k1, k2, cx.left.weak fun M w h => ⟨h.1.1, h.2⟩⟩⟩
end Go.Proofs.YtebnciehcnedjaaGreatDoor
end

section
namespace Go.Proofs.YtebnciehcnedjaaGreatDoor
open Go.Vc
theorem Parked.bufRow {W w : World} {M : List Nat} {a : Addr} {n cap : Nat} {cs : List Value} {t : TypeId} {size : Nat} (h : Parked W (.buf (some a) n cap cs t size) M w) : a = ⟨a.block, 0, none⟩ ∧ RowIn a.block 0 cs M w := by
  have hlt := Own.at_lt h.1 a.block (by simp [Own.dom])
  obtain ⟨⟨h1, h2⟩, h3⟩ := h
  rcases h2 with ⟨e, _⟩ | ⟨g, cap', cur, e, _, hg, hnc, hcm, hcs, htake⟩
  · cases e
  · cases e
    refine ⟨rfl, (h3 g (by simp [Own.dom])).1, fun j hj => ?_, hlt⟩
    have h2 : ∀ (k : Nat) (v : Value), cs[k]? = some v → cur[k]? = some v := by
      intro k v hv
      have hk := (List.getElem?_eq_some_iff.1 hv).1
      rw [← htake, List.getElem?_take_of_lt (by omega)] at hv
      simpa using hv
    have h2 := h2 _ _ (List.getElem?_eq_getElem hj)
    simp [World.cell?, hg, h2]
abbrev rfRow (q : RO) (s : StD) : List Value := [.slice q.tp s.table.length q.tc, .slice q.lp q.xs.length q.lc, .int .i64 s.seq, .slice q.gp s.log.length q.gc, .int .i64 s.cut]
def RfR (q : RO) (s : StD) (lg : Nat) : PW := fun M w => (RowIn q.sb 0 (rfRow q s) M w ∧ RowIn lg 0 (q.xs.map LV.cell) M w) ∧ (Sl M w q.tp s.table ∧ Sl M w q.gp s.log) ∧ LVE q.xs M w
theorem lay29 {W w : World} {S : List Own} {Φ : PW} [Stable Φ] {q : RO} {s : StD} (hq : RfQ q s) (cx : Ctx W w (rfO q s S) (fun M w => Φ M w ∧ rfF q s M w)) :
    ∃ (Ψ : PW) (lg : Nat), Stable Ψ ∧ (∀ M w, Ψ M w → Φ M w) ∧ (∀ M w, Ψ M w → RfR q s lg M w) ∧ (0 < q.xs.length → q.lp = some ⟨lg, 0, none⟩) ∧ s.log.length ≤ q.gc ∧ (∀ (S : List Own) (w : World), Ctx W w S Ψ → Ctx W w (rfO q s S) (fun M w => Φ M w ∧ rfF q s M w)) ∧ (∀ (S : List Own) (w : World), Ctx W w (rfO q s S) (fun M w => Φ M w ∧ rfF q s M w) → Ctx W w S Ψ) := by
  have hst : Stable (fun M w => Φ M w ∧ rfF q s M w) := instStableRf Φ q s
  obtain ⟨_, hgl, _⟩ := cx.bufLen 2 rfl
  have hptr : 0 < q.xs.length → ∃ g, q.lp = some ⟨g, 0, none⟩ := fun h => by
    obtain ⟨g, hg, _⟩ := cx.bufCell 1 rfl (by rw [List.length_map]; exact h)
    exact ⟨g, hg⟩
  refine ⟨Aside W (rfO q s []) (fun M w => Φ M w ∧ rfF q s M w), (q.lp.map Addr.block).getD q.sb, instStableAside W _ _, fun M w h => h.less.1, fun M w h => ?_, fun h => ?_, hgl, fun S w c => c.unaside.re (rfO_app q s S).symm, fun S w c => (c.re (rfO_app q s S)).aside⟩
  · have hf : rfF q s (dom (rfO q s []) ++ M) w := h.1.2
    have hm0 : Own.blk q.sb (rfRow q s) 60 ∈ rfO q s [] := by simp
    have hm1 : Own.buf q.lp q.xs.length q.lc (q.xs.map LV.cell) 103 1 ∈ rfO q s [] := by simp
    have hm2 : Own.buf q.gp s.log.length q.gc q.gs 46 3 ∈ rfO q s [] := by simp
    have hr0 : RowIn q.sb 0 (rfRow q s) M w := Parked.rowIn (h.parked hm0) fun j hj => by simp
    refine ⟨⟨hr0, ?_⟩, ⟨h.less.2.1.1, Parked.sl (α := ChgD) (h.parked hm2) hf.1.2⟩, h.less.2.2⟩
    have hp := h.parked hm1
    cases hlp : q.lp with
    | none =>
      rw [hlp] at hp
      have hx : q.xs.length = 0 := by
        rcases Nat.eq_zero_or_pos q.xs.length with h0 | h0
        · exact h0
        · obtain ⟨g, hg⟩ := hptr h0
          rw [hlp] at hg; cases hg
      have hx : q.xs = [] := List.eq_nil_of_length_eq_zero hx
      rw [hx]
      exact ⟨hr0.1, fun j hj => (by cases hj), hr0.2.2⟩
    | some a =>
      rw [hlp] at hp
      exact (Parked.bufRow hp).2
  · obtain ⟨g, hg⟩ := hptr h
    rw [hg]
    rfl
theorem norm_l (x r : Run) : normK (normK x ++ r) = normK (x ++ r) := normK_eq fun k => by rw [lookV_app, lookV_app, normK_look]
section
variable {Φ : PW} {q : RO} {s : StD} {lg : Nat}
structure RfB (q : RO) (s : StD) (lg : Nat) : Prop where
  wf : RfQ q s
  ptr : 0 < q.xs.length → q.lp = some ⟨lg, 0, none⟩
  i : StI s
  ver : (verP s).length ≤ 10000
  num : s.levels.length ≤ 10000
  wid : ∀ l ∈ s.levels, l.length ≤ 10000
  sz : Szs (verP s)
theorem RfB.len (h : RfB q s lg) : q.xs.length = s.levels.length := by rw [← h.wf.lev, List.length_map]
theorem RfB.at (h : RfB q s lg) {i : Nat} (hi : i < q.xs.length) : q.xs[i].l = s.levels[i]'(by rw [← h.len]; exact hi) := by
  have := List.getElem_of_eq h.wf.lev (i := i) (by rw [List.length_map]; exact hi)
  rw [List.getElem_map] at this
  exact this
set_option maxHeartbeats 2000000 in
theorem All29_sl [Stable Φ] [hΦ : Has Φ (RfR q s lg)] (hB : RfB q s lg) : GivesSl Φ Tryz.prog F.errataref29_Store_All #[.pointer (some ⟨q.sb, 0, none⟩)] (allS s) id := by
  have hlen := hB.len
  have row : ∀ (W w : World) (R G : List Own) (X : PW), (∀ M w, X M w → Φ M w) → Ctx W w (R ++ G) X → ∀ (i : Nat) (h : i < (rfRow q s).length), w.cell? ⟨q.sb, i, none⟩ = some (rfRow q s)[i] := fun W w R G X hX cx i h => by
    have := (hΦ.go _ _ (hX _ _ cx.phi)).1.1.2.1 i h
    rwa [Nat.zero_add] at this
  have lev : ∀ (W w : World) (R G : List Own) (X : PW), (∀ M w, X M w → Φ M w) → Ctx W w (R ++ G) X → ∀ (i : Nat) (h : i < q.xs.length), w.cell? ⟨lg, i, none⟩ = some q.xs[i].cell := fun W w R G X hX cx i h => by
    have := (hΦ.go _ _ (hX _ _ cx.phi)).1.2.2.1 i (by rw [List.length_map]; exact h)
    rw [Nat.zero_add, List.getElem_map] at this
    exact this
  have hvl : (verP s).length = s.table.length + (allRuns s.levels).length := List.length_append
  have hallt : ∀ j, (allRuns (s.levels.take j)).length ≤ (allRuns s.levels).length := fun j => by
    have h2 : (allRuns s.levels) = allRuns (s.levels.take j) ++ allRuns (s.levels.drop j) := by rw [← all_app, List.take_append_drop]
    rw [h2, List.length_append]
    omega
  have hver := hB.ver
  have hnum := hB.num
  have stS : ∀ (p : Option Addr) (r : Run), Stable (fun M w => Φ M w ∧ Sl M w p r) := fun p r => instStableAnd Φ (fun M w => Sl M w p r)
  have e0 : normK (s.table ++ allRuns (s.levels.take 0)) = s.table := by
    rw [List.take_zero, show allRuns [] = [] from rfl, List.append_nil]
    exact normK_self hB.i.tab
  refine gives_sl (Berrataref29_Store_All_run q.sb 0) fun W R => fun w G cx => ⟨q.tp, s.table.length, q.tc, row _ _ _ _ _ (fun M w h => h) cx 0 (by show 0 < 5; decide), ?_⟩
  clear cx
  refine exI_mk (fun p n c nI R' Φ' k => ∃ (i : Nat) (acc : Run), nI = i ∧ n = acc.length ∧ i ≤ q.xs.length ∧ acc = normK (s.table ++ allRuns (s.levels.take i)) ∧ R' = R ∧ Φ' = (fun M w => Φ M w ∧ Sl M w p acc) ∧ k = q.xs.length - i)
    ⟨⟨R, _, _, stS q.tp s.table, fun w G cx => cx.add (hΦ.go _ _ cx.phi).2.1.1, 0, s.table, rfl, rfl, Nat.zero_le _, e0.symm, rfl, rfl, rfl⟩, ?_⟩
  rintro p n c nI R1 Φ1 k st1 ⟨i, acc, rfl, rfl, hi, hacc, rfl, rfl, rfl⟩
  have hal : acc.length ≤ 10000 := by
    have h1 := normK_len (s.table ++ allRuns (s.levels.take i))
    rw [← hacc, List.length_append] at h1
    have := hallt i
    omega
  refine fun w G cx => ⟨q.lp, q.xs.length, q.lc, row _ _ _ _ _ (fun M w h => h.1) cx 1 (by show 1 < 5; decide), Br.intro (fun hlt => ?_) (fun hge => ?_)⟩
  rotate_left
  · -- the versions with a value
    have hge : i = s.levels.length := by have := of_decide_eq_false hge; omega
    rw [hge, List.take_length] at hacc
    refine fun w G cx => (there29_sl (Φ := fun M w => Φ M w ∧ Sl M w p acc) (fun M w h => h.2) (by omega)).use cx fun p' c' w g1 g2 cx => ?_
    have e : thereP acc = allS s := by rw [hacc]; rfl
    rw [e] at g1 cx ⊢
    exact ⟨p', _, c', rfl, R1, _, stS p' (allS s), cx.weak fun M w h => ⟨h.1.1, h.2⟩, fun w G cx => ⟨p', c', rfl, g1, g2, cx.left⟩⟩
  have hlt : i < q.xs.length := by have := of_decide_eq_true hlt; omega
  have hlp := hB.ptr (by omega)
  obtain ⟨x, hx⟩ : ∃ x, q.xs[i] = x := ⟨_, rfl⟩
  have hxm : x ∈ q.xs := by rw [← hx]; exact List.getElem_mem hlt
  have hxl : x.l = s.levels[i]'(by omega) := by rw [← hx]; exact hB.at hlt
  have hxs : x.l ∈ s.levels := by rw [hxl]; exact List.getElem_mem _
  have hxw := hB.wid _ hxs
  have hxo := hB.wf.ok x hxm
  have hsum := sum_take (ls := s.levels) (j := i) (by omega)
  have hta := hallt (i + 1)
  rw [← hxl] at hsum
  have pinx : ∀ M w, Φ M w → Pin x.g x.o x.cs x.l M w := fun M w h => (hΦ.go _ _ h).2.2 x hxm
  have hrun : ∀ j (hj : j < x.l.length), ∃ rp rc, x.cs.getD j [] = [.slice rp x.l[j].length rc] ∧ x.l[j].length ≤ rc := fun j hj => by
    obtain ⟨rp, rc, e, h1, _⟩ := lv_run (pinx _ _ cx.phi.1) hj
    exact ⟨rp, rc, e, h1⟩
  clear cx
  refine exI_mk (fun p n c nI R' Φ' k => ∃ (j : Nat) (acc : Run), nI = j ∧ n = acc.length ∧ j ≤ x.l.length ∧ acc = normK (s.table ++ (allRuns (s.levels.take i) ++ (x.l.take j).flatten)) ∧ R' = R1 ∧ Φ' = (fun M w => Φ M w ∧ Sl M w p acc) ∧ k = x.l.length - j)
    ⟨⟨R1, _, _, st1, fun w G cx => cx, 0, acc, rfl, rfl, Nat.zero_le _, by rw [List.take_zero, List.flatten_nil, List.append_nil]; exact hacc, rfl, rfl, rfl⟩, ?_⟩
  clear hacc hal st1
  rintro p n c nI R2 Φ2 k st2 ⟨j, acc, rfl, rfl, hj, hacc, rfl, rfl, rfl⟩
  have hflj : (x.l.take j).flatten.length ≤ x.l.flatten.length := fl_le x.l j
  have hal : acc.length ≤ 10000 := by
    have h1 := normK_len (s.table ++ (allRuns (s.levels.take i) ++ (x.l.take j).flatten))
    rw [← hacc, List.length_append, List.length_append] at h1
    omega
  refine fun w G cx => ⟨q.lp, q.xs.length, q.lc, row _ _ _ _ _ (fun M w h => h.1) cx 1 (by show 1 < 5; decide), ⟨by omega, by omega⟩, ptrK_intro lg 0 hlp fun w G cx => ⟨x.p, x.l.length, x.c, by rw [Nat.zero_add, Int.toNat_natCast, ← hx]; exact lev _ _ _ _ _ (fun M w h => h.1) cx i hlt, Br.intro (fun hltj => ?_) (fun hgej => ?_)⟩⟩
  · have hltj : j < x.l.length := by have := of_decide_eq_true hltj; omega
    obtain ⟨rp, rc, er, hrc⟩ := hrun j hltj
    have hasc : AscK x.l[j] := hB.i.lev.asc _ hxs _ (List.getElem_mem hltj)
    have hrl : x.l[j].length ≤ x.l.flatten.length := (List.sublist_flatten_of_mem (List.getElem_mem hltj)).length_le
    refine fun w G cx => ⟨q.lp, q.xs.length, q.lc, row _ _ _ _ _ (fun M w h => h.1) cx 1 (by show 1 < 5; decide), ⟨by omega, by omega⟩, ptrK_intro lg 0 hlp fun w G cx => ⟨x.p, x.l.length, x.c, by rw [Nat.zero_add, Int.toNat_natCast, ← hx]; exact lev _ _ _ _ _ (fun M w h => h.1) cx i hlt, ⟨by omega, by omega⟩, ptrK_intro x.g x.o (hxo.ptr (by omega)) fun w G cx => ⟨rp, x.l[j].length, rc, by rw [Int.toNat_natCast]; exact pinl_at (pinx _ _ cx.phi.1) hltj er, fun w G cx => ?_⟩⟩⟩
    refine (merge29_sl (Φ := fun M w => Φ M w ∧ Sl M w p acc) (fun M w h => h.2) (fun M w h => pinl_sl (pinx _ _ h.1) hltj er) (by rw [hacc]; exact normK_asc _) hasc (by omega) (by omega) hrc).use cx fun p' c' w g1 g2 cx => ?_
    have e : normK (acc ++ x.l[j]) = normK (s.table ++ (allRuns (s.levels.take i) ++ (x.l.take (j + 1)).flatten)) := by
      rw [hacc, norm_l, fl_take x.l hltj]
      simp only [List.append_assoc]
    exact ⟨p', _, c', rfl, R2, _, stS p' (normK (acc ++ x.l[j])), cx.weak fun M w h => ⟨h.1.1, h.2⟩, by unfold I64; omega, R2, _, x.l.length - (j + 1), stS p' (normK (acc ++ x.l[j])), fun w G cx => cx, ⟨j + 1, _, by omega, rfl, by omega, e, rfl, rfl, rfl⟩, by omega⟩
  · have hgej : j = x.l.length := by have := of_decide_eq_false hgej; omega
    subst hgej
    rw [List.take_length] at hacc
    have e : normK (s.table ++ (allRuns (s.levels.take i) ++ x.l.flatten)) = normK (s.table ++ allRuns (s.levels.take (i + 1))) := by
      rw [List.take_succ_eq_append_getElem (by omega), all_app, ← hxl]
      congr 2
      unfold allRuns
      simp
    exact ⟨by unfold I64; omega, R2, _, q.xs.length - (i + 1), st2, fun w G cx => cx, ⟨i + 1, acc, by omega, rfl, by omega, by rw [hacc, e], rfl, rfl, rfl⟩, by omega⟩
end
end Go.Proofs.YtebnciehcnedjaaGreatDoor
end

section
namespace Go.Proofs.YtebnciehcnedjaaGreatDoor
open Go.Vc
theorem pre29_is (pre key : ByteArray) : (decide ((pre.size : Int) ≤ (key.size : Int)) && decide (key.extract 0 (min (pre.size : Int) (key.size : Int)).toNat = pre)) = preP pre key := by
  unfold preP
  by_cases h : (pre.size : Int) ≤ (key.size : Int)
  · rw [show (min (pre.size : Int) (key.size : Int)).toNat = pre.size by omega]
  · rw [decide_eq_false h]; rfl
theorem all_fit {s : StD} (h : Szs (verP s)) : Szs (allS s) := fun x hx => h x (all_sub.2 x hx)
section
variable {Φ : PW} {q : RO} {s : StD} {lg : Nat}
theorem Scan29_sl [Stable Φ] [hΦ : Has Φ (RfR q s lg)] (hB : RfB q s lg) (pre : ByteArray) : GivesSl Φ Tryz.prog F.errataref29_Store_Scan #[.pointer (some ⟨q.sb, 0, none⟩), .string pre] (scanS s pre) id := by
  have hver := hB.ver
  obtain ⟨all, hall⟩ : ∃ all, allS s = all := ⟨_, rfl⟩
  have hal : all.length ≤ 10000 := by
    have := (all_sub (s := s)).1
    rw [hall] at this
    omega
  have hz : Szs all := by rw [← hall]; exact all_fit hB.sz
  have hsc : scanS s pre = all.filter fun x => preP pre x.key := by rw [← hall]; rfl
  refine gives_sl (Berrataref29_Store_Scan_run q.sb 0 pre) fun W R => fun w G cx => ?_
  have hA := All29_sl (Φ := Φ) hB
  rw [hall] at hA
  refine hA.tot cx fun p1 c1 _ _ ht1 st1 => ?_
  clear cx
  refine exI_mk (fun pO n cO nI R' Φ' m => ∃ i : Nat, nI = i ∧ n = ((all.take i).filter fun x => preP pre x.key).length ∧ i ≤ all.length ∧ R' = tabO pO cO ((all.take i).filter fun x => preP pre x.key) :: R ∧ Φ' = (fun M w => Φ M w ∧ Sl M w p1 all) ∧ m = all.length - i)
    ⟨⟨tabO none 0 [] :: R, _, _, st1, fun w G cx => Ctx.nobuf cx 69 2, 0, rfl, rfl, Nat.zero_le _, rfl, rfl, rfl⟩, ?_⟩
  rintro pO n cO nI R1 Φ1 m _ ⟨i, rfl, rfl, hi, rfl, rfl, rfl⟩
  refine Br.intro (fun hlt => ?_) (fun hge => fun w G cx => ?_)
  · have hlt : i < all.length := by have := of_decide_eq_true hlt; omega
    obtain ⟨g, o, rfl⟩ := ht1 (by omega)
    have hst : (all.take (i + 1)).filter (fun x => preP pre x.key) = (all.take i).filter (fun x => preP pre x.key) ++ (if preP pre all[i].key = true then [all[i]] else []) := by
      rw [List.take_succ_eq_append_getElem hlt, List.filter_append]
      congr 1
      by_cases hp : preP pre all[i].key = true
      · rw [if_pos hp, List.filter_cons_of_pos (p := fun x : PairD => preP pre x.key) hp]; rfl
      · rw [if_neg hp, List.filter_cons_of_neg (p := fun x : PairD => preP pre x.key) hp]; rfl
    have hfi : ((all.take i).filter fun x => preP pre x.key).length ≤ i := Nat.le_trans (List.length_filter_le _ _) (by rw [List.length_take]; omega)
    have row : ∀ (w : World) (R G : List Own), Ctx W w (R ++ G) (fun M w => Φ M w ∧ Sl M w (some ⟨g, o, none⟩) all) → RowAt w g (o + i * 2) [.string all[i].key, .string all[i].val] := fun w R G cx => sl_pair cx.phi.2 hlt
    refine fun w G cx => ⟨⟨by omega, by omega⟩, ptrK_intro g o rfl ⟨all[i].key, by rw [Int.toNat_natCast]; exact row w _ _ cx 0 (by show 0 < 2; decide), fun _ => ⟨by omega, by omega⟩, ptrK_intro g o rfl ⟨all[i].key, fun _ => by rw [Int.toNat_natCast]; exact row w _ _ cx 0 (by show 0 < 2; decide), fun _ => ⟨by omega, by omega⟩, ptrK_intro g o rfl ⟨all[i].key, fun _ => by rw [Int.toNat_natCast]; exact row w _ _ cx 0 (by show 0 < 2; decide), fun h => by have := of_decide_eq_true h; omega, ?_⟩⟩⟩⟩
    rw [pre29_is]
    refine Br.intro (fun hp => ⟨⟨by omega, by omega⟩, ptrK_intro g o rfl fun w G cx => ⟨all[i].key, all[i].val, by rw [Int.toNat_natCast]; exact row w _ _ cx, fun k w G cx => ?_⟩⟩) (fun hp => ?_)
    · rw [if_pos hp] at hst
      obtain ⟨p', c', w', hr, cx2⟩ := app_pair (x := all[i]) (S := R ++ G) (by omega) cx
      exact ⟨p', _, c', w', hr, tabO p' c' (((all.take i).filter fun x => preP pre x.key) ++ [all[i]]) :: R, _, st1, cx2, by unfold I64; omega, _, _, all.length - (i + 1), st1, fun w G cx => cx, ⟨i + 1, by omega, by rw [hst], by omega, by rw [hst], rfl, rfl⟩, by omega⟩
    · rw [if_neg (by rw [hp]; simp), List.append_nil] at hst
      exact ⟨by unfold I64; omega, _, _, all.length - (i + 1), st1, fun w G cx => cx, ⟨i + 1, by omega, by rw [hst], by omega, by rw [hst], rfl, rfl⟩, by omega⟩
  · have hge : i = all.length := by have := of_decide_eq_false hge; omega
    subst hge
    rw [List.take_length, ← hsc] at cx
    rw [List.take_length, ← hsc]
    obtain ⟨c1, c2, c3⟩ := freezeE (S := R ++ G) cx (by rw [idxL_d]; intro x hx; rw [hsc] at hx; exact hz x (List.mem_filter.1 hx).1)
    rw [idxL_d] at c1 c2
    exact ⟨pO, cO, rfl, c2, c3, (c1.weak (Ψ := fun M w => Φ M w ∧ Sl M w pO (scanS s pre)) fun M w h => ⟨h.1.1, h.2⟩).left⟩
theorem Get29_in [Stable Φ] [hΦ : Has Φ (RfR q s lg)] (hB : RfB q s lg) (key : ByteArray) : GivesIn Φ Tryz.prog F.errataref29_Store_Get #[.pointer (some ⟨q.sb, 0, none⟩), .string key] (.string (getS s key)) := by
  have hver := hB.ver
  rw [← all_val]
  obtain ⟨all, hall⟩ : ∃ all, allS s = all := ⟨_, rfl⟩
  have hal : all.length ≤ 10000 := by
    have := (all_sub (s := s)).1
    rw [hall] at this
    omega
  rw [hall]
  refine gives_in (Berrataref29_Store_Get_run q.sb 0 key) fun W R => fun w G cx => ?_
  have hA := All29_sl (Φ := Φ) hB
  rw [hall] at hA
  refine hA.tot cx fun p1 c1 _ _ ht1 st1 => ?_
  clear cx
  refine exI_mk (fun nI R' Φ' m => ∃ i : Nat, nI = i ∧ i ≤ all.length ∧ valK all key = valK (all.drop i) key ∧ R' = R ∧ Φ' = (fun M w => Φ M w ∧ Sl M w p1 all) ∧ m = all.length - i)
    ⟨⟨R, _, _, st1, fun w G cx => cx, 0, rfl, Nat.zero_le _, by rw [List.drop_zero], rfl, rfl, rfl⟩, ?_⟩
  rintro nI R1 Φ1 m _ ⟨i, rfl, hi, he, rfl, rfl, rfl⟩
  refine Br.intro (fun hlt => ?_) (fun hge => fun w G cx => ⟨?_, cx.left.weak fun M w h => h.1⟩)
  · have hlt : i < all.length := by have := of_decide_eq_true hlt; omega
    obtain ⟨g, o, rfl⟩ := ht1 (by omega)
    have hd : valK (all.drop i) key = if all[i].key = key then all[i].val else valK (all.drop (i + 1)) key := by
      rw [List.drop_eq_getElem_cons hlt]
      unfold valK
      show (if all[i].key = key then some all[i].val else lookV (all.drop (i + 1)) key).getD tE = _
      split <;> rfl
    refine ⟨⟨by omega, by omega⟩, ptrK_intro g o rfl fun w G cx => ⟨all[i].key, by rw [Int.toNat_natCast]; exact sl_pair cx.phi.2 hlt 0 (by show 0 < 2; decide), Br.intro (fun hk => ⟨⟨by omega, by omega⟩, ptrK_intro g o rfl fun w G cx => ⟨all[i].val, by rw [Int.toNat_natCast]; exact sl_pair cx.phi.2 hlt 1 (by show 1 < 2; decide), fun w G cx => ⟨?_, cx.left.weak fun M w h => h.1⟩⟩⟩) (fun hk => ⟨by unfold I64; omega, R1, _, all.length - (i + 1), st1, fun w G cx => cx, ⟨i + 1, by omega, by omega, ?_, rfl, rfl, rfl⟩, by omega⟩)⟩⟩
    · rw [he, hd, if_pos (of_decide_eq_true hk)]
    · rw [he, hd, if_neg (of_decide_eq_false hk)]
  · have hge : i = all.length := by have := of_decide_eq_false hge; omega
    subst hge
    rw [he, List.drop_length]
    rfl
theorem bs_app (a : List UInt8) (b : ByteArray) : bs a ++ b = bs (a ++ b.data.toList) := mk_app a b
set_option maxHeartbeats 1000000 in
theorem Snapshot29_in [Stable Φ] [hΦ : Has Φ (RfR q s lg)] (hB : RfB q s lg) (hf : Fit1 (verP s)) (hs : I64 s.seq) : GivesIn Φ Tryz.prog F.errataref29_Store_Snapshot #[.pointer (some ⟨q.sb, 0, none⟩)] (.string (snapB s)) := by
  have hver := hB.ver
  obtain ⟨l, hl⟩ : ∃ l, allS s = l := ⟨_, rfl⟩
  have hll : l.length ≤ 10000 := by
    have := (all_sub (s := s)).1
    rw [hl] at this
    omega
  have hfit : Fit1 l := by rw [← hl]; exact fun x hx => hf x (all_sub.2 x hx)
  have hpre := pairsL_pre hfit (by omega : l.length ≤ 1000000)
  have hhd := headL_len hs (n := l.length) (by omega)
  have hi1 := intB_size hs
  have hn1 := natB_size (n := l.length) (by unfold I64; omega)
  have hsn : snapB s = bs (headL s.seq l.length ++ pairsL l) := by
    unfold snapB
    rw [scan_all, hl]
    rfl
  rw [hsn]
  refine gives_in (Berrataref29_Store_Snapshot_run q.sb 0) fun W R => fun w G cx => ?_
  have hA := All29_sl (Φ := Φ) hB
  rw [hl] at hA
  refine hA.tot cx fun p1 c1 _ _ ht1 st1 => fun w G cx => ⟨s.seq, (hΦ.go _ _ cx.phi.1).1.1.2.1 2 (by show 2 < 5; decide), fun w G cx => ?_⟩
  refine ((Int01_g s.seq hs).in).toS cx fun w G cx => ((Num01_g l.length (by unfold I64; omega)).in).toS cx ⟨by show (intB s.seq).size + (natB l.length).size ≤ _; omega, ?_⟩
  clear cx
  have eh : intB s.seq ++ natB l.length = bs (headL s.seq l.length) := rfl
  rw [eh]
  refine exI_mk (fun st nI R' Φ' m => ∃ i : Nat, nI = i ∧ i ≤ l.length ∧ st = bs (headL s.seq l.length ++ pairsL (l.take i)) ∧ R' = R ∧ Φ' = (fun M w => Φ M w ∧ Sl M w p1 l) ∧ m = l.length - i)
    ⟨⟨R, _, _, st1, fun w G cx => cx, 0, rfl, Nat.zero_le _, by rw [List.take_zero, show pairsL [] = [] from rfl, List.append_nil], rfl, rfl, rfl⟩, ?_⟩
  rintro st nI R1 Φ1 m _ ⟨i, rfl, hi, rfl, rfl, rfl, rfl⟩
  refine Br.intro (fun hlt => ?_) (fun hge => fun w G cx => ⟨?_, cx.left.weak fun M w h => h.1⟩)
  · have hlt : i < l.length := by have := of_decide_eq_true hlt; omega
    obtain ⟨g, o, rfl⟩ := ht1 (by omega)
    have hx := hfit _ (List.getElem_mem hlt)
    have hk1 := textB_size (s := l[i].key) (by omega)
    have hk2 := textB_size (s := l[i].val) (by omega)
    have hp1 := hpre i
    have hbs : (bs (headL s.seq l.length ++ pairsL (l.take i))).size = (headL s.seq l.length).length + (pairsL (l.take i)).length := by rw [bs_size, List.length_append]
    have hstep : bs (headL s.seq l.length ++ pairsL (l.take i)) ++ textB l[i].key ++ textB l[i].val = bs (headL s.seq l.length ++ pairsL (l.take (i + 1))) := by
      rw [bs_app, bs_app, List.take_succ_eq_append_getElem hlt, pairsL_app, pairsL_one]
      unfold pairL
      rw [ByteArray.data_append, Array.toList_append]
      simp only [List.append_assoc]
    refine ⟨R1, _, st1, fun w G cx => cx, ⟨by omega, by omega⟩, ptrK_intro g o rfl ⟨⟨by omega, by omega⟩, ptrK_intro g o rfl ⟨l[i].key, fun w G cx => ⟨l[i].key, by rw [Int.toNat_natCast]; exact sl_pair cx.phi.2 hlt 0 (by show 0 < 2; decide), rfl⟩, l[i].val, fun w G cx => ⟨l[i].val, by rw [Int.toNat_natCast]; exact sl_pair cx.phi.2 hlt 1 (by show 1 < 2; decide), rfl⟩, fun w G cx => ?_⟩⟩⟩
    refine ((Text01_g l[i].key (by omega)).in).toS cx ⟨fun w G cx => cx, by show (bs (headL s.seq l.length ++ pairsL (l.take i))).size + (textB l[i].key).size ≤ _; omega, fun w G cx => ((Text01_g l[i].val (by omega)).in).toS cx ⟨fun w G cx => cx, by show (bs (headL s.seq l.length ++ pairsL (l.take i)) ++ textB l[i].key).size + _ ≤ _; rw [size_app]; omega, by unfold I64; omega, R1, _, l.length - (i + 1), st1, fun w G cx => cx, ⟨i + 1, by omega, by omega, hstep, rfl, rfl, rfl⟩, by omega⟩⟩
  · have hge : i = l.length := by have := of_decide_eq_false hge; omega
    subst hge
    rw [List.take_length]
end
end Go.Proofs.YtebnciehcnedjaaGreatDoor
end

section
namespace Go.Proofs.YtebnciehcnedjaaGreatDoor
open Go.Vc
theorem lastN_take {ls : List Lev} {i : Nat} (hi : i < ls.length) : lastN (ls.take (i + 1)) = if ls[i] = [] then lastN (ls.take i) else i + 1 := by
  rw [List.take_succ_eq_append_getElem hi, lastN_snoc, List.length_take, Nat.min_eq_left (by omega)]
theorem sl_lenI {M : List Nat} {w : World} {b o : Nat} {l : List (List Int)} (h : Sl M w (some ⟨b, o, none⟩) l) {j : Nat} (hj : j < l.length) : ∃ p c, w.cell? ⟨b, o + j, none⟩ = some (.slice p l[j].length c) := by
  obtain ⟨b', o', cs, e, _, h3, h4⟩ := h j hj
  cases e
  obtain ⟨p, c, rfl, _⟩ := rep_list.1 h4
  have := h3 0 (by simp)
  rw [show (Gv.ty (List Int)).size = 1 from rfl, Nat.mul_one] at this
  exact ⟨p, c, by simpa using this⟩
section
variable {Φ : PW} {q : RO} {s : StD} {lg : Nat}
set_option maxHeartbeats 4000000 in
theorem Runs29_sl [Stable Φ] [hΦ : Has Φ (RfR q s lg)] (hB : RfB q s lg) :
    GivesSl Φ Tryz.prog F.errataref29_Store_Runs #[.pointer (some ⟨q.sb, 0, none⟩)] (runsL s) id := by
  have hlen := hB.len
  have hnum := hB.num
  have row : ∀ (W w : World) (R G : List Own) (X : PW), (∀ M w, X M w → Φ M w) → Ctx W w (R ++ G) X → ∀ (i : Nat) (h : i < (rfRow q s).length), w.cell? ⟨q.sb, i, none⟩ = some (rfRow q s)[i] := fun W w R G X hX cx i h => by
    have := (hΦ.go _ _ (hX _ _ cx.phi)).1.1.2.1 i h
    rwa [Nat.zero_add] at this
  have lev : ∀ (W w : World) (R G : List Own) (X : PW), (∀ M w, X M w → Φ M w) → Ctx W w (R ++ G) X → ∀ (i : Nat) (h : i < q.xs.length), w.cell? ⟨lg, i, none⟩ = some q.xs[i].cell := fun W w R G X hX cx i h => by
    have := (hΦ.go _ _ (hX _ _ cx.phi)).1.2.2.1 i (by rw [List.length_map]; exact h)
    rw [Nat.zero_add, List.getElem_map] at this
    exact this
  have hwid := hB.wid
  have hrl : ∀ x ∈ q.xs, ∀ r ∈ x.l, r.length ≤ 10000 := fun x hx r hr => by
    have h1 : x.l ∈ s.levels := by rw [← hB.wf.lev]; exact List.mem_map_of_mem hx
    have h2 : r.length ≤ (allRuns s.levels).length := by
      have h3 := (List.sublist_flatten_of_mem (List.mem_flatten.2 ⟨_, h1, hr⟩)).length_le
      exact h3
    have h3 : (verP s).length = s.table.length + (allRuns s.levels).length := List.length_append
    have := hB.ver
    omega
  have hlv := hB.wf.lev
  obtain ⟨ls, hls⟩ : ∃ ls, s.levels = ls := ⟨_, rfl⟩
  have hat : ∀ i (h : i < ls.length) (h2 : i < q.xs.length), q.xs[i].l = ls[i] := fun i h h2 => by
    have h3 := hB.at h2
    rw [h3]
    exact List.getElem_of_eq hls _
  refine gives_sl (Berrataref29_Store_Runs_run q.sb 0) fun W R => ?_
  unfold runsL
  rw [hls] at hlen hnum hwid ⊢
  have stE : ∀ (ds : List Value) (l : List (List Int)), Stable (fun M w => Φ M w ∧ Elems M w ds l) := fun ds l => instStableAnd Φ (fun M w => Elems M w ds l)
  have stI : ∀ (ds : List Value) (l : List (List Int)) (es : List Value) (m : List Int), Stable (fun M w => (Φ M w ∧ Elems M w ds l) ∧ Elems M w es m) := fun ds l es m => instStableAnd (fun M w => Φ M w ∧ Elems M w ds l) (fun M w => Elems M w es m)
  refine exI_mk (fun p n cap iI R' Φ' k => ∃ (i : Nat) (ds : List Value), iI = i ∧ i ≤ ls.length ∧ n = ((ls.take i).map sizesL).length ∧ R' = .buf p n cap ds 53 1 :: R ∧ Φ' = (fun M w => Φ M w ∧ Elems M w ds ((ls.take i).map sizesL)) ∧ k = ls.length - i)
    ⟨⟨.buf none 0 0 [] 53 1 :: R, _, _, stE [] ((ls.take 0).map sizesL), fun w G cx => (cx.weak fun M w h => ⟨h, Elems.nil⟩).nobuf 53 1, 0, [], rfl, Nat.zero_le _, rfl, rfl, rfl, rfl⟩, ?_⟩
  rintro p n cap iI R1 Φ1 k hst1 ⟨i, ds, rfl, hi, rfl, rfl, rfl, rfl⟩
  have hil : ((ls.take i).map sizesL).length = i := by rw [List.length_map, List.length_take]; omega
  refine fun w G cx => ⟨q.lp, q.xs.length, q.lc, row _ _ _ _ _ (fun M w h => h.1) cx 1 (by show 1 < 5; decide), Br.intro (fun hlt => ?_) (fun hge => ?_)⟩
  · have hlt : i < ls.length := by have := of_decide_eq_true hlt; omega
    have hltx : i < q.xs.length := by omega
    have hlp := hB.ptr (by omega)
    have htk : ls.take (i + 1) = ls.take i ++ [ls[i]] := List.take_succ_eq_append_getElem hlt
    obtain ⟨x, hx⟩ : ∃ x, q.xs[i] = x := ⟨_, rfl⟩
    have hxm : x ∈ q.xs := by rw [← hx]; exact List.getElem_mem hltx
    have hxl : ls[i] = x.l := by rw [← hx]; exact (hat i hlt hltx).symm
    have hxo := hB.wf.ok x hxm
    have hbl := hwid _ (List.getElem_mem hlt)
    have hrx := hrl x hxm
    rw [hxl] at htk hbl
    have pinx : ∀ M w, Φ M w → Pin x.g x.o x.cs x.l M w := fun M w h => (hΦ.go _ _ h).2.2 x hxm
    have hrun : ∀ j (hj : j < x.l.length), ∃ rp rc, x.cs.getD j [] = [.slice rp x.l[j].length rc] ∧ x.l[j].length ≤ rc := fun j hj => by
      obtain ⟨rp, rc, e, h1, _⟩ := lv_run (pinx _ _ cx.phi.1) hj
      exact ⟨rp, rc, e, h1⟩
    clear cx
    refine exI_mk (fun p2 n2 cap2 jI R' Φ' k => ∃ (j : Nat) (es : List Value), jI = j ∧ j ≤ x.l.length ∧ n2 = (sizesL (x.l.take j)).length ∧ R' = .buf p2 n2 cap2 es 3 1 :: .buf p ((ls.take i).map sizesL).length cap ds 53 1 :: R ∧ Φ' = (fun M w => (Φ M w ∧ Elems M w ds ((ls.take i).map sizesL)) ∧ Elems M w es (sizesL (x.l.take j))) ∧ k = x.l.length - j)
      ⟨⟨.buf none 0 0 [] 3 1 :: .buf p ((ls.take i).map sizesL).length cap ds 53 1 :: R, _, _, stI ds ((ls.take i).map sizesL) [] (sizesL (x.l.take 0)), fun w G cx => (cx.weak fun M w h => ⟨h, Elems.nil⟩).nobuf 3 1, 0, [], rfl, Nat.zero_le _, rfl, rfl, rfl, rfl⟩, ?_⟩
    rintro p2 n2 cap2 jI R2 Φ2 k2 hst2 ⟨j, es, rfl, hj, rfl, rfl, rfl, rfl⟩
    have hjl : (sizesL (x.l.take j)).length = j := by rw [List.length_map, List.length_take]; omega
    refine fun w G cx => ⟨q.lp, q.xs.length, q.lc, row _ _ _ _ _ (fun M w h => h.1.1) cx 1 (by show 1 < 5; decide), ⟨by omega, by omega⟩, ptrK_intro lg 0 hlp fun w G cx => ⟨x.p, x.l.length, x.c, by rw [Nat.zero_add, Int.toNat_natCast, ← hx]; exact lev _ _ _ _ _ (fun M w h => h.1.1) cx i hltx, Br.intro (fun hltj => ?_) (fun hgej => ?_)⟩⟩
    · have hlt2 : j < x.l.length := by have := of_decide_eq_true hltj; omega
      obtain ⟨rp, rc, er, hrc⟩ := hrun j hlt2
      have hst : sizesL (x.l.take (j + 1)) = sizesL (x.l.take j) ++ [(x.l[j].length : Int)] := by
        unfold sizesL
        rw [List.take_succ_eq_append_getElem hlt2, List.map_append]
        rfl
      have hrj := hrx _ (List.getElem_mem hlt2)
      refine fun w G cx => ⟨q.lp, q.xs.length, q.lc, row _ _ _ _ _ (fun M w h => h.1.1) cx 1 (by show 1 < 5; decide), ⟨by omega, by omega⟩, ptrK_intro lg 0 hlp fun w G cx => ⟨x.p, x.l.length, x.c, by rw [Nat.zero_add, Int.toNat_natCast, ← hx]; exact lev _ _ _ _ _ (fun M w h => h.1.1) cx i hltx, ⟨by omega, by omega⟩, ptrK_intro x.g x.o (hxo.ptr (by omega)) fun w G cx => ⟨rp, x.l[j].length, rc, by rw [Int.toNat_natCast]; exact pinl_at (pinx _ _ cx.phi.1.1) hlt2 er, fun k w G cx => ?_⟩⟩⟩
      obtain ⟨p', cap', w', hrun, _, cx2⟩ := cx.app1 (ts := 53) (ty := 53) (kb := #[false, false]) (bytes := 8) (P := Tryz.prog) (by kernel_rfl) (by omega) rfl rfl (by omega) (by omega)
      have e2 : (sizesL (x.l.take j)).length + 1 = (sizesL (x.l.take (j + 1))).length := by rw [hst, List.length_append]; rfl
      rw [e2] at hrun cx2
      have st3 := stI ds ((ls.take i).map sizesL) (es ++ [Value.int .i64 (x.l[j].length : Int)]) (sizesL (x.l.take (j + 1)))
      exact ⟨p', _, cap', w', hrun, .buf p' (sizesL (x.l.take (j + 1))).length cap' (es ++ [Value.int .i64 (x.l[j].length : Int)]) 3 1 :: .buf p ((ls.take i).map sizesL).length cap ds 53 1 :: R, _, st3, cx2.weak fun M w h => ⟨h.1, by rw [hst]; exact h.2.snoc ⟨rfl, by unfold I64; omega⟩⟩, by unfold I64; omega, _, _, x.l.length - (j + 1), st3, fun w G cx => cx, ⟨j + 1, _, by omega, by omega, rfl, rfl, rfl, rfl⟩, by omega⟩
    · have hge2 : j = x.l.length := by have := of_decide_eq_false hgej; omega
      subst hge2
      rw [List.take_length] at hst2 hjl ⊢
      refine fun k w G cx => ?_
      have cx1 : Ctx W w (.buf p2 (sizesL x.l).length cap2 es 3 1 :: .blk k [Value.slice p2 (sizesL x.l).length cap2] 53 :: .buf p ((ls.take i).map sizesL).length cap ds 53 1 :: (R ++ G)) (fun M w => (Φ M w ∧ Elems M w ds ((ls.take i).map sizesL)) ∧ Elems M w es (sizesL x.l)) := cx.swap
      obtain ⟨c4, hs, _, g3, g4⟩ := Ctx.freeze (α := Int) cx1 cx1.phi.2
      have cx5 := c4.add (Ψ := fun M w => Sl M w p2 (sizesL x.l)) hs
      obtain ⟨p', cap', w', hrun, _, cx6⟩ := cx5.app1 (ts := 51) (ty := 51) (kb := #[false, false]) (bytes := 24) (P := Tryz.prog) (by kernel_rfl) (by omega) rfl rfl (by omega) (by omega)
      have hst : (ls.take (i + 1)).map sizesL = (ls.take i).map sizesL ++ [sizesL x.l] := by rw [htk, List.map_append]; rfl
      have e2 : ((ls.take i).map sizesL).length + 1 = ((ls.take (i + 1)).map sizesL).length := by rw [hst, List.length_append]; rfl
      rw [e2] at hrun cx6
      have st4 := stE (ds ++ [Value.slice p2 (sizesL x.l).length cap2]) ((ls.take (i + 1)).map sizesL)
      have cx7 : Ctx W w' (.buf p' ((ls.take (i + 1)).map sizesL).length cap' (ds ++ [Value.slice p2 (sizesL x.l).length cap2]) 53 1 :: (R ++ G)) (fun M w => Φ M w ∧ Elems M w (ds ++ [Value.slice p2 (sizesL x.l).length cap2]) ((ls.take (i + 1)).map sizesL)) := cx6.weak fun M w h => ⟨h.1.1.1, by rw [hst]; exact h.1.1.2.snoc (rep_list.2 ⟨p2, cap2, rfl, g3, g4, h.2⟩)⟩
      exact ⟨p', _, cap', w', hrun, .buf p' ((ls.take (i + 1)).map sizesL).length cap' (ds ++ [Value.slice p2 (sizesL x.l).length cap2]) 53 1 :: R, _, st4, cx7, by unfold I64; omega, _, _, ls.length - (i + 1), st4, fun w G cx => cx, ⟨i + 1, _, by omega, by omega, rfl, rfl, rfl, rfl⟩, by omega⟩
  -- the levels at the end that hold nothing
  have hge : i = ls.length := by have := of_decide_eq_false hge; omega
  subst hge
  rw [List.take_length] at cx hst1 hil ⊢
  have hlast := lastN_le ls
  obtain ⟨c4, hs, _, g3, g4⟩ := Ctx.freeze (α := List Int) (S := R ++ G) cx cx.phi.2
  have hp := buf_p (S := R ++ G) cx 1
  obtain ⟨zg, zo, zcs, hzp, c5⟩ := (c4.weak (Ψ := fun M w => Φ M w) fun M w h => h.1).pin hs
  have hpin := c5.phi.2
  have hfrz : ∀ (w : World) (G : List Own), Ctx W w (.buf p (ls.map sizesL).length cap ds 53 1 :: R ++ G) (fun M w => Φ M w ∧ Elems M w ds (ls.map sizesL)) → Ctx W w (R ++ G) (fun M w => Φ M w ∧ Sl M w p (ls.map sizesL)) := fun w G cx => by
    obtain ⟨c4, hs, _, g3, g4⟩ := Ctx.freeze (α := List Int) (S := R ++ G) cx cx.phi.2
    exact (c4.weak (Ψ := fun M w => Φ M w) fun M w h => h.1).add hs
  have hll : ∀ m : Nat, m ≤ ls.length → ((ls.map sizesL).take m).length = m := fun m hm => by rw [List.length_take, List.length_map]; omega
  refine exI_mk (fun nI R' Φ' k => ∃ m : Nat, nI = m ∧ m ≤ ls.length ∧ lastN (ls.take m) = lastN ls ∧ R' = .buf p (ls.map sizesL).length cap ds 53 1 :: R ∧ Φ' = (fun M w => Φ M w ∧ Elems M w ds (ls.map sizesL)) ∧ m = k)
    ⟨⟨.buf p (ls.map sizesL).length cap ds 53 1 :: R, _, _, hst1, fun w G cx => cx, ls.length, by rw [hil], Nat.le_refl _, by rw [List.take_length], rfl, rfl, rfl⟩, ?_⟩
  clear cx c4 hs c5 hpin hzp
  rintro nI R2 Φ2 k hst2 ⟨m, rfl, hm, hlm, rfl, rfl, rfl⟩
  refine fun w G cx => ⟨fun h => by unfold I64; omega, fun h => by have := of_decide_eq_true h; omega, ?_⟩
  have hfin : lastN ls = m → (0 ≤ (m : Int) ∧ (m : Int) ≤ (cap : Int)) ∧ ∀ (w : World) (G : List Own), Ctx W w (.buf p (ls.map sizesL).length cap ds 53 1 :: R ++ G) (fun M w => Φ M w ∧ Elems M w ds (ls.map sizesL)) → ∃ p' c, (Value.slice (subPtr p 1 0 cap) (m : Int).toNat cap) = id (.slice p' ((ls.map sizesL).take (lastN ls)).length c) ∧ ((ls.map sizesL).take (lastN ls)).length ≤ c ∧ c ≤ maxLen ∧ Ctx W w R (fun M w => Φ M w ∧ Sl M w p' ((ls.map sizesL).take (lastN ls))) := fun h => ⟨⟨by omega, by omega⟩, fun w G cx => ⟨p, cap, by rw [hll _ (by omega), hp, Int.toNat_natCast, h]; rfl, by rw [hll _ (by omega)]; omega, g4, ((hfrz w G cx).weak (Ψ := fun M w => Φ M w ∧ Sl M w p ((ls.map sizesL).take (lastN ls))) fun M w h => ⟨h.1, sl_take h.2 _⟩).left⟩⟩
  rcases Nat.eq_zero_or_pos m with hm0 | hm0
  · subst hm0
    have h0 : lastN ls = 0 := by rw [← hlm]; rfl
    obtain ⟨hk, hk2⟩ := hfin h0
    refine ptrK_off (by decide) fun b o => ⟨none, 0, 0, fun h => by have := of_decide_eq_true h; omega, Br.intro (fun h => ?_) (fun _ => ⟨hk, fun w G cx => hk2 w G cx⟩)⟩
    rw [Bool.and_eq_true] at h
    have := of_decide_eq_true h.1
    omega
  · obtain ⟨g, hg, _⟩ := cx.bufCell 0 rfl (by have := (cx.bufLen 0 rfl).1; omega)
    obtain ⟨pz, cz, hz⟩ := sl_lenI (by rw [← hg]; exact (hfrz w G cx).phi.2) (show m - 1 < (ls.map sizesL).length by rw [hil]; omega)
    have hel : (ls.map sizesL)[m - 1].length = ls[m - 1].length := by rw [List.getElem_map, List.length_map]
    have htk := lastN_take (ls := ls) (i := m - 1) (by omega)
    rw [show m - 1 + 1 = m by omega, hlm] at htk
    have hmx : (max ((m : Int) - 1) 0).toNat = m - 1 := by omega
    refine ptrK_intro g 0 hg ⟨pz, _, cz, fun _ => by rw [hmx]; exact hz, ?_⟩
    rw [hel]
    refine Br.intro (fun h => ?_) (fun h => ?_)
    · rw [Bool.and_eq_true] at h
      have h0 : ls[m - 1] = [] := List.eq_nil_of_length_eq_zero (by have := of_decide_eq_true h.2; omega)
      rw [if_pos h0] at htk
      exact ⟨by unfold I64; omega, _, _, m - 1, hst1, fun w G cx => cx, ⟨m - 1, by omega, by omega, htk.symm, rfl, rfl, rfl⟩, by omega⟩
    · have h0 : ls[m - 1] ≠ [] := fun h0 => by
        rw [h0] at h
        rw [decide_eq_true (by omega : (0 : Int) < (m : Int))] at h
        simp at h
      rw [if_neg h0] at htk
      obtain ⟨hk, hk2⟩ := hfin htk
      exact ⟨hk, fun w G cx => hk2 w G cx⟩
end
end Go.Proofs.YtebnciehcnedjaaGreatDoor
end

