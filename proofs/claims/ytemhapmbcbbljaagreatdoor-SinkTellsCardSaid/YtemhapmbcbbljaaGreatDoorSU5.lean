/-
  The conditions of the walks of some functions, one formula each; 'B<f>_run' says that they suffice. The formulas are printed by a program; the kernel compares them with the functions' code.
-/
import Derived.Test.YtemhapmbcbbljaaGreatDoorSU4
import Derived.WalkKit

set_option linter.unusedVariables false
set_option linter.unusedSimpArgs false
section
namespace Go.Proofs.YtemhapmbcbbljaaGreatDoor
set_option maxRecDepth 100000
open Go.Vc
def Berratalaw43_small  (W : World) (R : List Own) (Φ : PW) (J : Value → World → Prop) : Prop :=
  ∀ w0 R1, Ctx W w0 (R ++ R1) Φ → Calls Tryz.prog F.sink_New #[.int .i64 2, .slice none 0 0] w0 fun e2 w3 => ∃ p4, e2 = .returned (.pointer p4) ∧ ∃ R5 Φ6, Stable Φ6 ∧ Ctx W w3 (R5 ++ R1) Φ6 ∧ ∀ w7 R8, Ctx W w7 (R5 ++ R8) Φ6 → Calls Tryz.prog F.sink_New #[.int .i64 2, .slice none 0 0] w7 fun e9 w10 => ∃ p11, e9 = .returned (.pointer p11) ∧ ∃ R12 Φ13, Stable Φ13 ∧ Ctx W w10 (R12 ++ R8) Φ13 ∧ ∀ w14 R15, Ctx W w14 (R12 ++ R15) Φ13 → Br (p4.isNone || p11.isNone) (∀ w16 R17, Ctx W w16 (R12 ++ R17) Φ13 → J (.bool false) w16) (∀ w18 R19, Ctx W w18 (R12 ++ R19) Φ13 → Calls Tryz.prog F.erratalaw43_line #[.int .i64 3, .int .i64 5] w18 fun e20 w21 => ∃ n22 n23 n24 p25 k26 k27 n28 n29 n30, e20 = .returned (Value.agg #[.int .i64 n22, .int .i64 n23, .int .i64 n24, .slice p25 k26 k27, .int .i64 n28, .int .i64 n29, .int .i64 n30]) ∧ ∃ R31 Φ32, Stable Φ32 ∧ Ctx W w21 (R31 ++ R19) Φ32 ∧ ∀ (k33 : Nat) (w34 :
  World) (R35 : List Own), Ctx W w34 (Own.blk k33 [.int .i64 n22, .int .i64 n23, .int .i64 n24, .slice p25 k26 k27, .int .i64 n28, .int .i64 n29, .int .i64 n30] 51 :: R31 ++ R35) Φ32 → Calls Tryz.prog F.sink_Sink_Deliver #[.pointer p4, .int .i64 5, .slice (some (Addr.mk k33 0 none)) 1 1] w34 fun e36 w37 => ∃ n38, e36 = .returned (.int .i64 n38) ∧ ∃ R39 Φ40, Stable Φ40 ∧ Ctx W w37 (R39 ++ R35) Φ40 ∧ ∀ w41 R42, Ctx W w41 (R39 ++ R42) Φ40 → Calls Tryz.prog F.erratalaw43_line #[.int .i64 1, .int .i64 3] w41 fun e43 w44 => ∃ n45 n46 n47 p48 k49 k50 n51 n52 n53, e43 = .returned (Value.agg #[.int .i64 n45, .int .i64 n46, .int .i64 n47, .slice p48 k49 k50, .int .i64 n51, .int .i64 n52, .int .i64 n53]) ∧ ∃ R54 Φ55, Stable Φ55 ∧ Ctx W w44 (R54 ++ R42) Φ55 ∧ ∀ w56 R57, Ctx W w56 (R54 ++ R57) Φ55 → Calls Tryz.prog F.erratalaw43_line #[.int .i64 2, .int .i64 3] w56 fun e58 w59 => ∃ n60 n61 n62 p63 k64
  k65 n66 n67 n68, e58 = .returned (Value.agg #[.int .i64 n60, .int .i64 n61, .int .i64 n62, .slice p63 k64 k65, .int .i64 n66, .int .i64 n67, .int .i64 n68]) ∧ ∃ R69 Φ70, Stable Φ70 ∧ Ctx W w59 (R69 ++ R57) Φ70 ∧ ∀ (k71 : Nat) (w72 : World) (R73 : List Own), Ctx W w72 (Own.blk k71 [.int .i64 n45, .int .i64 n46, .int .i64 n47, .slice p48 k49 k50, .int .i64 n51, .int .i64 n52, .int .i64 n53, .int .i64 n60, .int .i64 n61, .int .i64 n62, .slice p63 k64 k65, .int .i64 n66, .int .i64 n67, .int .i64 n68] 51 :: R69 ++ R73) Φ70 → Calls Tryz.prog F.sink_Sink_Deliver #[.pointer p4, .int .i64 3, .slice (some (Addr.mk k71 0 none)) 2 2] w72 fun e74 w75 => ∃ n76, e74 = .returned (.int .i64 n76) ∧ ∃ R77 Φ78, Stable Φ78 ∧ Ctx W w75 (R77 ++ R73) Φ78 ∧ ∀ w79 R80, Ctx W w79 (R77 ++ R80) Φ78 → Calls Tryz.prog F.erratalaw43_line #[.int .i64 1, .int .i64 3] w79 fun e81 w82 => ∃ n83 n84 n85 p86 k87 k88 n89 n90
  n91, e81 = .returned (Value.agg #[.int .i64 n83, .int .i64 n84, .int .i64 n85, .slice p86 k87 k88, .int .i64 n89, .int .i64 n90, .int .i64 n91]) ∧ ∃ R92 Φ93, Stable Φ93 ∧ Ctx W w82 (R92 ++ R80) Φ93 ∧ ∀ w94 R95, Ctx W w94 (R92 ++ R95) Φ93 → Calls Tryz.prog F.erratalaw43_line #[.int .i64 2, .int .i64 3] w94 fun e96 w97 => ∃ n98 n99 n100 p101 k102 k103 n104 n105 n106, e96 = .returned (Value.agg #[.int .i64 n98, .int .i64 n99, .int .i64 n100, .slice p101 k102 k103, .int .i64 n104, .int .i64 n105, .int .i64 n106]) ∧ ∃ R107 Φ108, Stable Φ108 ∧ Ctx W w97 (R107 ++ R95) Φ108 ∧ ∀ (k109 : Nat) (w110 : World) (R111 : List Own), Ctx W w110 (Own.blk k109 [.int .i64 n83, .int .i64 n84, .int .i64 n85, .slice p86 k87 k88, .int .i64 n89, .int .i64 n90, .int .i64 n91, .int .i64 n98, .int .i64 n99, .int .i64 n100, .slice p101 k102 k103, .int .i64 n104, .int .i64 n105, .int .i64 n106] 51 :: R107 ++ R111)
  Φ108 → Calls Tryz.prog F.sink_Sink_Deliver #[.pointer p11, .int .i64 3, .slice (some (Addr.mk k109 0 none)) 2 2] w110 fun e112 w113 => ∃ n114, e112 = .returned (.int .i64 n114) ∧ ∃ R115 Φ116, Stable Φ116 ∧ Ctx W w113 (R115 ++ R111) Φ116 ∧ ∀ w117 R118, Ctx W w117 (R115 ++ R118) Φ116 → Calls Tryz.prog F.erratalaw43_line #[.int .i64 3, .int .i64 5] w117 fun e119 w120 => ∃ n121 n122 n123 p124 k125 k126 n127 n128 n129, e119 = .returned (Value.agg #[.int .i64 n121, .int .i64 n122, .int .i64 n123, .slice p124 k125 k126, .int .i64 n127, .int .i64 n128, .int .i64 n129]) ∧ ∃ R130 Φ131, Stable Φ131 ∧ Ctx W w120 (R130 ++ R118) Φ131 ∧ ∀ (k132 : Nat) (w133 : World) (R134 : List Own), Ctx W w133 (Own.blk k132 [.int .i64 n121, .int .i64 n122, .int .i64 n123, .slice p124 k125 k126, .int .i64 n127, .int .i64 n128, .int .i64 n129] 51 :: R130 ++ R134) Φ131 → Calls Tryz.prog F.sink_Sink_Deliver #[.pointer
  p11, .int .i64 5, .slice (some (Addr.mk k132 0 none)) 1 1] w133 fun e135 w136 => ∃ n137, e135 = .returned (.int .i64 n137) ∧ ∃ R138 Φ139, Stable Φ139 ∧ Ctx W w136 (R138 ++ R134) Φ139 ∧ ∀ w140 R141, Ctx W w140 (R138 ++ R141) Φ139 → Calls Tryz.prog F.sink_Sink_Deliver #[.pointer p11, .int .i64 4, .slice none 0 0] w140 fun e142 w143 => ∃ n144, e142 = .returned (.int .i64 n144) ∧ ∃ R145 Φ146, Stable Φ146 ∧ Ctx W w143 (R145 ++ R141) Φ146 ∧ Br (decide (n38 = 25)) (Br (decide (n76 = 0)) (Br (decide (n114 = 0)) (Br (decide (n137 = 0)) (Br (decide (n144 = 25)) (∀ w147 R148, Ctx W w147 (R145 ++ R148) Φ146 → Calls Tryz.prog F.sink_Sink_Last #[.pointer p11] w147 fun e149 w150 => ∃ n151, e149 = .returned (.int .i64 n151) ∧ ∃ R152 Φ153, Stable Φ153 ∧ Ctx W w150 (R152 ++ R148) Φ153 ∧ Br (decide (n151 = 5)) (∀ w154 R155, Ctx W w154 (R152 ++ R155) Φ153 → Calls Tryz.prog F.sink_Sink_Lines #[.pointer p11]
  w154 fun e156 w157 => ∃ n158, e156 = .returned (.int .i64 n158) ∧ ∃ R159 Φ160, Stable Φ160 ∧ Ctx W w157 (R159 ++ R155) Φ160 ∧ ∀ w161 R162, Ctx W w161 (R159 ++ R162) Φ160 → J (.bool (decide (n158 = 3))) w161) (∀ w163 R164, Ctx W w163 (R152 ++ R164) Φ153 → J (.bool false) w163)) (∀ w165 R166, Ctx W w165 (R145 ++ R166) Φ146 → J (.bool false) w165)) (∀ w167 R168, Ctx W w167 (R145 ++ R168) Φ146 → J (.bool false) w167)) (∀ w169 R170, Ctx W w169 (R145 ++ R170) Φ146 → J (.bool false) w169)) (∀ w171 R172, Ctx W w171 (R145 ++ R172) Φ146 → J (.bool false) w171)) (∀ w173 R174, Ctx W w173 (R145 ++ R174) Φ146 → J (.bool false) w173))
theorem Berratalaw43_small_run  {W w : World} {R : List Own} {Φ : PW} [Stable Φ] {J : Value → World → Prop} (c : Ctx W w R Φ) (h : Berratalaw43_small  W R Φ J) : Calls Tryz.prog F.erratalaw43_small #[] w fun e w' => ∃ v, e = .returned v ∧ J v w' :=
  vcFS_sound (H := { keep := some [0, 1, 2, 3, 4, 5, 6, 7, 15], split := [10] }) (by rw [show vcFS Tryz.prog W { keep := some [0, 1, 2, 3, 4, 5, 6, 7, 15], split := [10] } F.erratalaw43_small #[] R Φ J = Berratalaw43_small  W R Φ J by kernel_rfl]; exact h) c
def Berratalaw43_few (lP : Option Addr) (lN lC : Nat) (n : Int) (W : World) (R : List Own) (Φ : PW) (J : Value → World → Prop) : Prop :=
  exI fun (I0 : Int → List Own → PW → Nat → Prop) => (∃ R1 Φ2 k3, Stable Φ2 ∧ Wk W R Φ R1 Φ2 ∧ I0 0 R1 Φ2 k3) ∧ ∀ n6 R7 I8 k9, Stable I8 → I0 n6 R7 I8 k9 → Br (decide (n6 < (↑lN : Int))) ((0 ≤ n6 ∧ n6 < (↑lN : Int)) ∧ ptrK none lP fun k10 k11 => ∀ w12 R13, Ctx W w12 (R7 ++ R13) I8 → ∃ p14 k15 k16, w12.cell? (Addr.mk k10 (k11 + n6.toNat * 3 + 2) none) = some (.slice p14 k15 k16) ∧ ∀ w17 R18, Ctx W w17 (R7 ++ R18) I8 → Calls Tryz.prog F.errataref43_Few #[.slice p14 k15 k16, .int .i64 8] w17 fun e19 w20 => ∃ c21, e19 = .returned (.bool c21) ∧ ∃ R22 Φ23, Stable Φ23 ∧ Ctx W w20 (R22 ++ R18) Φ23 ∧ Br (!c21) (∀ w24 R25, Ctx W w24 (R22 ++ R25) Φ23 → J (.bool false) w24) (I64 (n6 + 1) ∧ ∃ R26 Φ27 k28, Stable Φ27 ∧ Wk W R22 Φ23 R26 Φ27 ∧ I0 (n6 + 1) R26 Φ27 k28 ∧ k28 < k9)) (∀ w31 R32, Ctx W w31 (R7 ++ R32) I8 → J (.bool (decide ((↑lN : Int) ≤ n))) w31)
theorem Berratalaw43_few_run (lP : Option Addr) (lN lC : Nat) (n : Int) {W w : World} {R : List Own} {Φ : PW} [Stable Φ] {J : Value → World → Prop} (c : Ctx W w R Φ) (h : Berratalaw43_few lP lN lC n W R Φ J) : Calls Tryz.prog F.erratalaw43_few #[.slice lP lN lC, .int .i64 n] w fun e w' => ∃ v, e = .returned v ∧ J v w' :=
  vcFS_sound (H := { keep := some [0, 1, 4, 5, 9, 18], loops := [(2, [(5, .one (.int .i64))], [])] }) (by rw [show vcFS Tryz.prog W { keep := some [0, 1, 4, 5, 9, 18], loops := [(2, [(5, .one (.int .i64))], [])] } F.erratalaw43_few #[.slice lP lN lC, .int .i64 n] R Φ J = Berratalaw43_few lP lN lC n W R Φ J by kernel_rfl]; exact h) c
def Bsink_New (kind : Int) (keyP : Option Addr) (keyN keyC : Nat) (W : World) (R : List Own) (Φ : PW) (J : Value → World → Prop) : Prop :=
  Br (decide (kind < 0)) (∀ w0 R1, Ctx W w0 (R ++ R1) Φ → J (.pointer none) w0) (Br (decide (3 ≤ kind)) (∀ w2 R3, Ctx W w2 (R ++ R3) Φ → J (.pointer none) w2) (Br (decide (0 < (↑keyN : Int))) (Br (decide (kind ≠ 1)) (∀ w4 R5, Ctx W w4 (R ++ R5) Φ → J (.pointer none) w4) (∀ w6 R7, Ctx W w6 (R ++ R7) Φ → Calls Tryz.prog F.slices_Min_int_int #[.slice keyP keyN keyC] w6 fun e8 w9 => ∃ n10, e8 = .returned (.int .i64 n10) ∧ ∃ R11 Φ12, Stable Φ12 ∧ Ctx W w9 (R11 ++ R7) Φ12 ∧ Br (decide (n10 < 0)) (∀ w13 R14, Ctx W w13 (R11 ++ R14) Φ12 → J (.pointer none) w13) (∀ w15 R16, Ctx W w15 (R11 ++ R16) Φ12 → Calls Tryz.prog F.slices_Clone_int_int #[.slice keyP keyN keyC] w15 fun e17 w18 => ∃ p19 k20 k21, e17 = .returned (.slice p19 k20 k21) ∧ ∃ R22 Φ23, Stable Φ23 ∧ Ctx W w18 (R22 ++ R16) Φ23 ∧ ∀ (k24 : Nat) (w25 : World) (R26 : List Own), Ctx W w25 (Own.blk k24 [.int .i64 kind, .slice p19 k20 k21,
  .slice none 0 0, .slice none 0 0, .int .i64 0, .slice none 0 0] 57 :: R22 ++ R26) Φ23 → J (.pointer (some (Addr.mk k24 0 none))) w25))) (∀ w27 R28, Ctx W w27 (R ++ R28) Φ → Calls Tryz.prog F.slices_Clone_int_int #[.slice keyP keyN keyC] w27 fun e29 w30 => ∃ p31 k32 k33, e29 = .returned (.slice p31 k32 k33) ∧ ∃ R34 Φ35, Stable Φ35 ∧ Ctx W w30 (R34 ++ R28) Φ35 ∧ ∀ (k36 : Nat) (w37 : World) (R38 : List Own), Ctx W w37 (Own.blk k36 [.int .i64 kind, .slice p31 k32 k33, .slice none 0 0, .slice none 0 0, .int .i64 0, .slice none 0 0] 57 :: R34 ++ R38) Φ35 → J (.pointer (some (Addr.mk k36 0 none))) w37)))
theorem Bsink_New_run (kind : Int) (keyP : Option Addr) (keyN keyC : Nat) {W w : World} {R : List Own} {Φ : PW} [Stable Φ] {J : Value → World → Prop} (c : Ctx W w R Φ) (h : Bsink_New kind keyP keyN keyC W R Φ J) : Calls Tryz.prog F.sink_New #[.int .i64 kind, .slice keyP keyN keyC] w fun e w' => ∃ v, e = .returned v ∧ J v w' :=
  vcFS_sound (H := { keep := some [0, 1, 4, 24], split := [1] }) (by rw [show vcFS Tryz.prog W { keep := some [0, 1, 4, 24], split := [1] } F.sink_New #[.int .i64 kind, .slice keyP keyN keyC] R Φ J = Bsink_New kind keyP keyN keyC W R Φ J by kernel_rfl]; exact h) c
def Berratalaw43_do (sB sO : Nat) (x0 : Int) (x1 : Int) (x2P : Option Addr) (x2N x2C : Nat) (W : World) (R : List Own) (Φ : PW) (J : Value → World → Prop) : Prop :=
  ∀ (b : Nat), ∃ (n0 : Int), (∀ (w1 : World), Sem.run Tryz.prog (binOp BinOp.and 3 (Value.int IntKind.i64 x0) (Value.int IntKind.i64 7)) w1 = Result.ok (Value.int IntKind.i64 n0) w1) ∧ Br (decide (n0 = 0)) (Br (decide (n0 = 0)) (∀ w2 R3, Ctx W w2 (R ++ R3) Φ → Calls Tryz.prog F.sink_Sink_Prepare #[.pointer (some (Addr.mk sB sO none)), .int .i64 x1, .slice x2P x2N x2C] w2 fun e4 w5 => ∃ n6, e4 = .returned (.int .i64 n6) ∧ ∃ R7 Φ8, Stable Φ8 ∧ Ctx W w5 (R7 ++ R3) Φ8 ∧ ∀ w9 R10, Ctx W w9 (R7 ++ R10) Φ8 → J (Value.tuple #[.pointer (some (Addr.mk sB sO none)), .int .i64 n6]) w9) (Br (decide (n0 = 2)) (∀ w11 R12, Ctx W w11 (R ++ R12) Φ → Calls Tryz.prog F.sink_Sink_Commit #[.pointer (some (Addr.mk sB sO none)), .int .i64 x1] w11 fun e13 w14 => ∃ n15, e13 = .returned (.int .i64 n15) ∧ ∃ R16 Φ17, Stable Φ17 ∧ Ctx W w14 (R16 ++ R12) Φ17 ∧ ∀ w18 R19, Ctx W w18 (R16 ++ R19) Φ17 → J (Value.tuple
  #[.pointer (some (Addr.mk sB sO none)), .int .i64 n15]) w18) (Br (decide (n0 = 3)) (∀ w20 R21, Ctx W w20 (R ++ R21) Φ → Calls Tryz.prog F.sink_Sink_Abort #[.pointer (some (Addr.mk sB sO none)), .int .i64 x1] w20 fun e22 w23 => ∃ n24, e22 = .returned (.int .i64 n24) ∧ ∃ R25 Φ26, Stable Φ26 ∧ Ctx W w23 (R25 ++ R21) Φ26 ∧ ∀ w27 R28, Ctx W w27 (R25 ++ R28) Φ26 → J (Value.tuple #[.pointer (some (Addr.mk sB sO none)), .int .i64 n24]) w27) (Br (decide (n0 = 6)) (∀ w29 R30, Ctx W w29 (R ++ R30) Φ → Calls Tryz.prog F.sink_Sink_Copy #[.pointer (some (Addr.mk sB sO none))] w29 fun e31 w32 => ∃ p33, e31 = .returned (.pointer p33) ∧ ∃ R34 Φ35, Stable Φ35 ∧ Ctx W w32 (R34 ++ R30) Φ35 ∧ ∀ w36 R37, Ctx W w36 (R34 ++ R37) Φ35 → J (Value.tuple #[.pointer p33, .int .i64 0]) w36) (Br (decide (n0 = 7)) (∀ w38 R39, Ctx W w38 (R ++ R39) Φ → Calls Tryz.prog F.sink_Sink_Bytes #[.pointer (some (Addr.mk sB sO
  none))] w38 fun e40 w41 => ∃ s42, e40 = .returned (.string s42) ∧ ∃ R43 Φ44, Stable Φ44 ∧ Ctx W w41 (R43 ++ R39) Φ44 ∧ ∀ w45 R46, Ctx W w45 (R43 ++ R46) Φ44 → Calls Tryz.prog F.sink_Read #[.string s42] w45 fun e47 w48 => ∃ p49 c50, e47 = .returned (Value.tuple #[.pointer p49, .bool c50]) ∧ ∃ R51 Φ52, Stable Φ52 ∧ Ctx W w48 (R51 ++ R46) Φ52 ∧ Br (!c50) (∀ w53 R54, Ctx W w53 (R51 ++ R54) Φ52 → J (Value.tuple #[.pointer none, .int .i64 0]) w53) (∀ w55 R56, Ctx W w55 (R51 ++ R56) Φ52 → J (Value.tuple #[.pointer p49, .int .i64 0]) w55)) (∀ w57 R58, Ctx W w57 (R ++ R58) Φ → Calls Tryz.prog F.sink_Sink_Deliver #[.pointer (some (Addr.mk sB sO none)), .int .i64 x1, .slice x2P x2N x2C] w57 fun e59 w60 => ∃ n61, e59 = .returned (.int .i64 n61) ∧ ∃ R62 Φ63, Stable Φ63 ∧ Ctx W w60 (R62 ++ R58) Φ63 ∧ ∀ w64 R65, Ctx W w64 (R62 ++ R65) Φ63 → J (Value.tuple #[.pointer (some (Addr.mk sB sO none)), .int
  .i64 n61]) w64)))))) (Br (decide (n0 = 1)) (∀ w66 R67, Ctx W w66 (R ++ R67) Φ → Calls Tryz.prog F.sink_Sink_Prepare #[.pointer (some (Addr.mk sB sO none)), .int .i64 x1, .slice x2P x2N x2C] w66 fun e68 w69 => ∃ n70, e68 = .returned (.int .i64 n70) ∧ ∃ R71 Φ72, Stable Φ72 ∧ Ctx W w69 (R71 ++ R67) Φ72 ∧ ∀ w73 R74, Ctx W w73 (R71 ++ R74) Φ72 → J (Value.tuple #[.pointer (some (Addr.mk sB sO none)), .int .i64 n70]) w73) (Br (decide (n0 = 2)) (∀ w75 R76, Ctx W w75 (R ++ R76) Φ → Calls Tryz.prog F.sink_Sink_Commit #[.pointer (some (Addr.mk sB sO none)), .int .i64 x1] w75 fun e77 w78 => ∃ n79, e77 = .returned (.int .i64 n79) ∧ ∃ R80 Φ81, Stable Φ81 ∧ Ctx W w78 (R80 ++ R76) Φ81 ∧ ∀ w82 R83, Ctx W w82 (R80 ++ R83) Φ81 → J (Value.tuple #[.pointer (some (Addr.mk sB sO none)), .int .i64 n79]) w82) (Br (decide (n0 = 3)) (∀ w84 R85, Ctx W w84 (R ++ R85) Φ → Calls Tryz.prog F.sink_Sink_Abort #[.pointer
  (some (Addr.mk sB sO none)), .int .i64 x1] w84 fun e86 w87 => ∃ n88, e86 = .returned (.int .i64 n88) ∧ ∃ R89 Φ90, Stable Φ90 ∧ Ctx W w87 (R89 ++ R85) Φ90 ∧ ∀ w91 R92, Ctx W w91 (R89 ++ R92) Φ90 → J (Value.tuple #[.pointer (some (Addr.mk sB sO none)), .int .i64 n88]) w91) (Br (decide (n0 = 6)) (∀ w93 R94, Ctx W w93 (R ++ R94) Φ → Calls Tryz.prog F.sink_Sink_Copy #[.pointer (some (Addr.mk sB sO none))] w93 fun e95 w96 => ∃ p97, e95 = .returned (.pointer p97) ∧ ∃ R98 Φ99, Stable Φ99 ∧ Ctx W w96 (R98 ++ R94) Φ99 ∧ ∀ w100 R101, Ctx W w100 (R98 ++ R101) Φ99 → J (Value.tuple #[.pointer p97, .int .i64 0]) w100) (Br (decide (n0 = 7)) (∀ w102 R103, Ctx W w102 (R ++ R103) Φ → Calls Tryz.prog F.sink_Sink_Bytes #[.pointer (some (Addr.mk sB sO none))] w102 fun e104 w105 => ∃ s106, e104 = .returned (.string s106) ∧ ∃ R107 Φ108, Stable Φ108 ∧ Ctx W w105 (R107 ++ R103) Φ108 ∧ ∀ w109 R110, Ctx W w109
  (R107 ++ R110) Φ108 → Calls Tryz.prog F.sink_Read #[.string s106] w109 fun e111 w112 => ∃ p113 c114, e111 = .returned (Value.tuple #[.pointer p113, .bool c114]) ∧ ∃ R115 Φ116, Stable Φ116 ∧ Ctx W w112 (R115 ++ R110) Φ116 ∧ Br (!c114) (∀ w117 R118, Ctx W w117 (R115 ++ R118) Φ116 → J (Value.tuple #[.pointer none, .int .i64 0]) w117) (∀ w119 R120, Ctx W w119 (R115 ++ R120) Φ116 → J (Value.tuple #[.pointer p113, .int .i64 0]) w119)) (∀ w121 R122, Ctx W w121 (R ++ R122) Φ → Calls Tryz.prog F.sink_Sink_Deliver #[.pointer (some (Addr.mk sB sO none)), .int .i64 x1, .slice x2P x2N x2C] w121 fun e123 w124 => ∃ n125, e123 = .returned (.int .i64 n125) ∧ ∃ R126 Φ127, Stable Φ127 ∧ Ctx W w124 (R126 ++ R122) Φ127 ∧ ∀ w128 R129, Ctx W w128 (R126 ++ R129) Φ127 → J (Value.tuple #[.pointer (some (Addr.mk sB sO none)), .int .i64 n125]) w128))))))
theorem Berratalaw43_do_run (sB sO : Nat) (x0 : Int) (x1 : Int) (x2P : Option Addr) (x2N x2C : Nat) {W w : World} {R : List Own} {Φ : PW} [Stable Φ] {J : Value → World → Prop} (c : Ctx W w R Φ) (h : Berratalaw43_do sB sO x0 x1 x2P x2N x2C W R Φ J) : Calls Tryz.prog F.erratalaw43_do #[.pointer (some ⟨sB, sO, none⟩), .agg #[.int .i64 x0, .int .i64 x1, .slice x2P x2N x2C]] w fun e w' => ∃ v, e = .returned v ∧ J v w' :=
  vcFS_sound (H := { keep := some [0, 3, 4, 5, 6, 7, 10, 11, 21, 28, 35, 39, 48], track := [3] }) (by rw [show vcFS Tryz.prog W { keep := some [0, 3, 4, 5, 6, 7, 10, 11, 21, 28, 35, 39, 48], track := [3] } F.erratalaw43_do #[.pointer (some ⟨sB, sO, none⟩), .agg #[.int .i64 x0, .int .i64 x1, .slice x2P x2N x2C]] R Φ J = Berratalaw43_do sB sO x0 x1 x2P x2N x2C W R Φ J by kernel_rfl]; exact h) c
def Bsink_Sink_Kind (sB sO : Nat) (W : World) (R : List Own) (Φ : PW) (J : Value → World → Prop) : Prop :=
  ∀ w0 R1, Ctx W w0 (R ++ R1) Φ → ∃ n2, w0.cell? (Addr.mk sB sO none) = some (.int .i64 n2) ∧ ∀ w3 R4, Ctx W w3 (R ++ R4) Φ → J (.int .i64 n2) w3
theorem Bsink_Sink_Kind_run (sB sO : Nat) {W w : World} {R : List Own} {Φ : PW} [Stable Φ] {J : Value → World → Prop} (c : Ctx W w R Φ) (h : Bsink_Sink_Kind sB sO W R Φ J) : Calls Tryz.prog F.sink_Sink_Kind #[.pointer (some ⟨sB, sO, none⟩)] w fun e w' => ∃ v, e = .returned v ∧ J v w' :=
  vcFS_sound (H := { keep := some [0, 2] }) (by rw [show vcFS Tryz.prog W { keep := some [0, 2] } F.sink_Sink_Kind #[.pointer (some ⟨sB, sO, none⟩)] R Φ J = Bsink_Sink_Kind sB sO W R Φ J by kernel_rfl]; exact h) c
def Bsink_Sink_Last (sB sO : Nat) (W : World) (R : List Own) (Φ : PW) (J : Value → World → Prop) : Prop :=
  ∀ w0 R1, Ctx W w0 (R ++ R1) Φ → ∃ p2 k3 k4, w0.cell? (Addr.mk sB (sO + 2) none) = some (.slice p2 k3 k4) ∧ Br (decide ((↑k3 : Int) = 0)) (∀ w5 R6, Ctx W w5 (R ++ R6) Φ → J (.int .i64 0) w5) (∀ w7 R8, Ctx W w7 (R ++ R8) Φ → ∃ p9 k10 k11, w7.cell? (Addr.mk sB (sO + 2) none) = some (.slice p9 k10 k11) ∧ ∃ p12 k13 k14, w7.cell? (Addr.mk sB (sO + 2) none) = some (.slice p12 k13 k14) ∧ I64 ((↑k13 : Int) - 1) ∧ (0 ≤ (↑k13 : Int) - 1 ∧ (↑k13 : Int) - 1 < (↑k10 : Int)) ∧ ptrK none p9 fun k15 k16 => ∃ n17, w7.cell? (Addr.mk k15 (k16 + ((↑k13 : Int) - 1).toNat) none) = some (.int .i64 n17) ∧ ∀ w18 R19, Ctx W w18 (R ++ R19) Φ → J (.int .i64 n17) w18)
theorem Bsink_Sink_Last_run (sB sO : Nat) {W w : World} {R : List Own} {Φ : PW} [Stable Φ] {J : Value → World → Prop} (c : Ctx W w R Φ) (h : Bsink_Sink_Last sB sO W R Φ J) : Calls Tryz.prog F.sink_Sink_Last #[.pointer (some ⟨sB, sO, none⟩)] w fun e w' => ∃ v, e = .returned v ∧ J v w' :=
  vcFS_sound (H := { keep := some [0, 2, 8] }) (by rw [show vcFS Tryz.prog W { keep := some [0, 2, 8] } F.sink_Sink_Last #[.pointer (some ⟨sB, sO, none⟩)] R Φ J = Bsink_Sink_Last sB sO W R Φ J by kernel_rfl]; exact h) c
def Bsink_Sink_Prepared (sB sO : Nat) (W : World) (R : List Own) (Φ : PW) (J : Value → World → Prop) : Prop :=
  ∀ w0 R1, Ctx W w0 (R ++ R1) Φ → ∃ n2, w0.cell? (Addr.mk sB (sO + 4) none) = some (.int .i64 n2) ∧ ∀ w3 R4, Ctx W w3 (R ++ R4) Φ → J (.int .i64 n2) w3
theorem Bsink_Sink_Prepared_run (sB sO : Nat) {W w : World} {R : List Own} {Φ : PW} [Stable Φ] {J : Value → World → Prop} (c : Ctx W w R Φ) (h : Bsink_Sink_Prepared sB sO W R Φ J) : Calls Tryz.prog F.sink_Sink_Prepared #[.pointer (some ⟨sB, sO, none⟩)] w fun e w' => ∃ v, e = .returned v ∧ J v w' :=
  vcFS_sound (H := { keep := some [0, 2] }) (by rw [show vcFS Tryz.prog W { keep := some [0, 2] } F.sink_Sink_Prepared #[.pointer (some ⟨sB, sO, none⟩)] R Φ J = Bsink_Sink_Prepared sB sO W R Φ J by kernel_rfl]; exact h) c
def Bsink_Sink_Lines (sB sO : Nat) (W : World) (R : List Own) (Φ : PW) (J : Value → World → Prop) : Prop :=
  ∀ w0 R1, Ctx W w0 (R ++ R1) Φ → ∃ p2 k3 k4, w0.cell? (Addr.mk sB (sO + 3) none) = some (.slice p2 k3 k4) ∧ ∀ w5 R6, Ctx W w5 (R ++ R6) Φ → J (.int .i64 (↑k3 : Int)) w5
theorem Bsink_Sink_Lines_run (sB sO : Nat) {W w : World} {R : List Own} {Φ : PW} [Stable Φ] {J : Value → World → Prop} (c : Ctx W w R Φ) (h : Bsink_Sink_Lines sB sO W R Φ J) : Calls Tryz.prog F.sink_Sink_Lines #[.pointer (some ⟨sB, sO, none⟩)] w fun e w' => ∃ v, e = .returned v ∧ J v w' :=
  vcFS_sound (H := { keep := some [0, 2] }) (by rw [show vcFS Tryz.prog W { keep := some [0, 2] } F.sink_Sink_Lines #[.pointer (some ⟨sB, sO, none⟩)] R Φ J = Bsink_Sink_Lines sB sO W R Φ J by kernel_rfl]; exact h) c
def Bsink_Sink_Has (sB sO : Nat) (batch : Int) (W : World) (R : List Own) (Φ : PW) (J : Value → World → Prop) : Prop :=
  ∀ w0 R1, Ctx W w0 (R ++ R1) Φ → ∃ p2 k3 k4, w0.cell? (Addr.mk sB (sO + 2) none) = some (.slice p2 k3 k4) ∧ ∀ w5 R6, Ctx W w5 (R ++ R6) Φ → Calls Tryz.prog F.slices_BinarySearch_int_int #[.slice p2 k3 k4, .int .i64 batch] w5 fun e7 w8 => ∃ n9 c10, e7 = .returned (Value.tuple #[.int .i64 n9, .bool c10]) ∧ ∃ R11 Φ12, Stable Φ12 ∧ Ctx W w8 (R11 ++ R6) Φ12 ∧ ∀ w13 R14, Ctx W w13 (R11 ++ R14) Φ12 → J (.bool c10) w13
theorem Bsink_Sink_Has_run (sB sO : Nat) (batch : Int) {W w : World} {R : List Own} {Φ : PW} [Stable Φ] {J : Value → World → Prop} (c : Ctx W w R Φ) (h : Bsink_Sink_Has sB sO batch W R Φ J) : Calls Tryz.prog F.sink_Sink_Has #[.pointer (some ⟨sB, sO, none⟩), .int .i64 batch] w fun e w' => ∃ v, e = .returned v ∧ J v w' :=
  vcFS_sound (H := { keep := some [0, 1, 4, 6] }) (by rw [show vcFS Tryz.prog W { keep := some [0, 1, 4, 6] } F.sink_Sink_Has #[.pointer (some ⟨sB, sO, none⟩), .int .i64 batch] R Φ J = Bsink_Sink_Has sB sO batch W R Φ J by kernel_rfl]; exact h) c
def Bsink_Sink_Bytes (sB sO : Nat) (W : World) (R : List Own) (Φ : PW) (J : Value → World → Prop) : Prop :=
  ∃ R0 Φ1, Stable Φ1 ∧ Wk W R Φ R0 Φ1 ∧ ∃ (n4 : Int), (∀ w5 R6, Ctx W w5 (R0 ++ R6) Φ1 → ∃ n7, w5.cell? (Addr.mk sB sO none) = some (.int .i64 n7) ∧ Value.int IntKind.i64 n7 = Value.int IntKind.i64 n4) ∧ ∃ (p8 : Option Addr) (k9 k10 : Nat), (∀ w11 R12, Ctx W w11 (R0 ++ R12) Φ1 → ∃ p13 k14 k15, w11.cell? (Addr.mk sB (sO + 1) none) = some (.slice p13 k14 k15) ∧ Value.slice p13 k14 k15 = Value.slice p8 k9 k10) ∧ ∃ (p16 : Option Addr) (k17 k18 : Nat), (∀ w19 R20, Ctx W w19 (R0 ++ R20) Φ1 → ∃ p21 k22 k23, w19.cell? (Addr.mk sB (sO + 2) none) = some (.slice p21 k22 k23) ∧ Value.slice p21 k22 k23 = Value.slice p16 k17 k18) ∧ ∃ (p24 : Option Addr) (k25 k26 : Nat), (∀ w27 R28, Ctx W w27 (R0 ++ R28) Φ1 → ∃ p29 k30 k31, w27.cell? (Addr.mk sB (sO + 3) none) = some (.slice p29 k30 k31) ∧ Value.slice p29 k30 k31 = Value.slice p24 k25 k26) ∧ ∃ (n32 : Int), (∀ w33 R34, Ctx W w33 (R0 ++ R34) Φ1 → ∃ n35,
  w33.cell? (Addr.mk sB (sO + 4) none) = some (.int .i64 n35) ∧ Value.int IntKind.i64 n35 = Value.int IntKind.i64 n32) ∧ ∃ (p36 : Option Addr) (k37 k38 : Nat), (∀ w39 R40, Ctx W w39 (R0 ++ R40) Φ1 → ∃ p41 k42 k43, w39.cell? (Addr.mk sB (sO + 5) none) = some (.slice p41 k42 k43) ∧ Value.slice p41 k42 k43 = Value.slice p36 k37 k38) ∧ ∀ w44 R45, Ctx W w44 (R ++ R45) Φ → Calls Tryz.prog F.wire_Int #[.int .i64 n4] w44 fun e46 w47 => ∃ s48, e46 = .returned (.string s48) ∧ ∃ R49 Φ50, Stable Φ50 ∧ Ctx W w47 (R49 ++ R45) Φ50 ∧ Wk W R49 Φ50 R0 Φ1 ∧ ∀ w53 R54, Ctx W w53 (R49 ++ R54) Φ50 → Calls Tryz.prog F.wire_Nums #[.slice p8 k9 k10] w53 fun e55 w56 => ∃ s57, e55 = .returned (.string s57) ∧ ∃ R58 Φ59, Stable Φ59 ∧ Ctx W w56 (R58 ++ R54) Φ59 ∧ Wk W R58 Φ59 R0 Φ1 ∧ (s48.size + s57.size).le 9223372036854775807 ∧ ∀ w62 R63, Ctx W w62 (R58 ++ R63) Φ59 → Calls Tryz.prog F.wire_Nums #[.slice p16 k17 k18]
  w62 fun e64 w65 => ∃ s66, e64 = .returned (.string s66) ∧ ∃ R67 Φ68, Stable Φ68 ∧ Ctx W w65 (R67 ++ R63) Φ68 ∧ Wk W R67 Φ68 R0 Φ1 ∧ ((s48 ++ s57).size + s66.size).le 9223372036854775807 ∧ ∀ w71 R72, Ctx W w71 (R67 ++ R72) Φ68 → Calls Tryz.prog F.sink_linesBytes #[.slice p24 k25 k26] w71 fun e73 w74 => ∃ s75, e73 = .returned (.string s75) ∧ ∃ R76 Φ77, Stable Φ77 ∧ Ctx W w74 (R76 ++ R72) Φ77 ∧ Wk W R76 Φ77 R0 Φ1 ∧ ((s48 ++ s57 ++ s66).size + s75.size).le 9223372036854775807 ∧ ∀ w80 R81, Ctx W w80 (R76 ++ R81) Φ77 → Calls Tryz.prog F.wire_Int #[.int .i64 n32] w80 fun e82 w83 => ∃ s84, e82 = .returned (.string s84) ∧ ∃ R85 Φ86, Stable Φ86 ∧ Ctx W w83 (R85 ++ R81) Φ86 ∧ Wk W R85 Φ86 R0 Φ1 ∧ ((s48 ++ s57 ++ s66 ++ s75).size + s84.size).le 9223372036854775807 ∧ ∀ w89 R90, Ctx W w89 (R85 ++ R90) Φ86 → Calls Tryz.prog F.sink_linesBytes #[.slice p36 k37 k38] w89 fun e91 w92 => ∃ s93, e91 =
  .returned (.string s93) ∧ ∃ R94 Φ95, Stable Φ95 ∧ Ctx W w92 (R94 ++ R90) Φ95 ∧ Wk W R94 Φ95 R0 Φ1 ∧ ((s48 ++ s57 ++ s66 ++ s75 ++ s84).size + s93.size).le 9223372036854775807 ∧ ∀ w98 R99, Ctx W w98 (R94 ++ R99) Φ95 → J (.string (s48 ++ s57 ++ s66 ++ s75 ++ s84 ++ s93)) w98
theorem Bsink_Sink_Bytes_run (sB sO : Nat) {W w : World} {R : List Own} {Φ : PW} [Stable Φ] {J : Value → World → Prop} (c : Ctx W w R Φ) (h : Bsink_Sink_Bytes sB sO W R Φ J) : Calls Tryz.prog F.sink_Sink_Bytes #[.pointer (some ⟨sB, sO, none⟩)] w fun e w' => ∃ v, e = .returned v ∧ J v w' :=
  vcFS_sound (H := { keep := some [0, 2], stages := [(1, [.held [(0, true), (5, true), (11, true), (17, true), (23, true), (29, true), (1, true), (6, true), (12, true), (18, true), (24, true), (30, true), (2, true), (7, true), (13, true), (19, true), (25, true), (31, true), (3, true), (8, true), (14, true), (20, true), (26, true), (32, true), (4, false), (9, false), (10, true), (15, false), (16, true), (21, false), (22, true), (27, false), (28, true), (33, false)], .stage [34, 35] none])] }) (by rw [show vcFS Tryz.prog W { keep := some [0, 2], stages := [(1, [.held [(0, true), (5, true), (11, true), (17, true), (23, true), (29, true), (1, true), (6, true), (12, true), (18, true), (24, true), (30, true), (2, true), (7, true), (13, true), (19, true), (25, true), (31, true), (3, true), (8, true), (14, true), (20, true), (26, true), (32, true), (4, false), (9, false), (10, true), (15, false), (16, true), (21, false), (22, true), (27, false), (28, true), (33, false)], .stage [34, 35] none])] } F.sink_Sink_Bytes #[.pointer (some ⟨sB, sO, none⟩)] R Φ J = Bsink_Sink_Bytes sB sO W R Φ J by kernel_rfl]; exact h) c
def Berrataref43_SameLines (aP : Option Addr) (aN aC : Nat) (bP : Option Addr) (bN bC : Nat) (W : World) (R : List Own) (Φ : PW) (J : Value → World → Prop) : Prop :=
  Br (decide ((↑aN : Int) ≠ (↑bN : Int))) (∀ w0 R1, Ctx W w0 (R ++ R1) Φ → J (.bool false) w0) (exI fun (I2 : Int → List Own → PW → Nat → Prop) => (∃ R3 Φ4 k5, Stable Φ4 ∧ Wk W R Φ R3 Φ4 ∧ I2 0 R3 Φ4 k5) ∧ ∀ n8 R9 I10 k11, Stable I10 → I2 n8 R9 I10 k11 → Br (decide (n8 < (↑aN : Int))) ((0 ≤ n8 ∧ n8 < (↑aN : Int)) ∧ ptrK none aP fun k12 k13 => ∀ w14 R15, Ctx W w14 (R9 ++ R15) I10 → ∃ n16 n17 n18 p19 k20 k21 n22 n23 n24, RowAt w14 k12 (k13 + n8.toNat * 7) [.int .i64 n16, .int .i64 n17, .int .i64 n18, .slice p19 k20 k21, .int .i64 n22, .int .i64 n23, .int .i64 n24] ∧ ∀ (b : Nat), (0 ≤ n8 ∧ n8 < (↑bN : Int)) ∧ ptrK none bP fun k25 k26 => ∀ w27 R28, Ctx W w27 (R9 ++ R28) I10 → ∃ n29 n30 n31 p32 k33 k34 n35 n36 n37, RowAt w27 k25 (k26 + n8.toNat * 7) [.int .i64 n29, .int .i64 n30, .int .i64 n31, .slice p32 k33 k34, .int .i64 n35, .int .i64 n36, .int .i64 n37] ∧ ∀ (b : Nat), Br (decide (n16 ≠
  n29)) (∀ w38 R39, Ctx W w38 (R9 ++ R39) I10 → J (.bool false) w38) (Br (decide (n17 ≠ n30)) (∀ w40 R41, Ctx W w40 (R9 ++ R41) I10 → J (.bool false) w40) (Br (decide (n18 ≠ n31)) (∀ w42 R43, Ctx W w42 (R9 ++ R43) I10 → J (.bool false) w42) (Br (decide (n22 ≠ n35)) (∀ w44 R45, Ctx W w44 (R9 ++ R45) I10 → J (.bool false) w44) (Br (decide (n23 ≠ n36)) (∀ w46 R47, Ctx W w46 (R9 ++ R47) I10 → J (.bool false) w46) (Br (decide (n24 ≠ n37)) (∀ w48 R49, Ctx W w48 (R9 ++ R49) I10 → J (.bool false) w48) (∀ w50 R51, Ctx W w50 (R9 ++ R51) I10 → Calls Tryz.prog F.errataref03_Same #[.slice p19 k20 k21, .slice p32 k33 k34] w50 fun e52 w53 => ∃ c54, e52 = .returned (.bool c54) ∧ ∃ R55 Φ56, Stable Φ56 ∧ Ctx W w53 (R55 ++ R51) Φ56 ∧ Br (!c54) (∀ w57 R58, Ctx W w57 (R55 ++ R58) Φ56 → J (.bool false) w57) (I64 (n8 + 1) ∧ ∃ R59 Φ60 k61, Stable Φ60 ∧ Wk W R55 Φ56 R59 Φ60 ∧ I2 (n8 + 1) R59 Φ60 k61 ∧ k61 <
  k11)))))))) (∀ w64 R65, Ctx W w64 (R9 ++ R65) I10 → J (.bool true) w64))
theorem Berrataref43_SameLines_run (aP : Option Addr) (aN aC : Nat) (bP : Option Addr) (bN bC : Nat) {W w : World} {R : List Own} {Φ : PW} [Stable Φ] {J : Value → World → Prop} (c : Ctx W w R Φ) (h : Berrataref43_SameLines aP aN aC bP bN bC W R Φ J) : Calls Tryz.prog F.errataref43_SameLines #[.slice aP aN aC, .slice bP bN bC] w fun e w' => ∃ v, e = .returned v ∧ J v w' :=
  vcFS_sound (H := { keep := some [0, 1, 4, 5, 6, 7, 12, 16, 74], track := [6, 7], split := [8], loops := [(4, [(5, .one (.int .i64))], [])] }) (by rw [show vcFS Tryz.prog W { keep := some [0, 1, 4, 5, 6, 7, 12, 16, 74], track := [6, 7], split := [8], loops := [(4, [(5, .one (.int .i64))], [])] } F.errataref43_SameLines #[.slice aP aN aC, .slice bP bN bC] R Φ J = Berrataref43_SameLines aP aN aC bP bN bC W R Φ J by kernel_rfl]; exact h) c
def Bsink_Sink_List (sB sO : Nat) (W : World) (R : List Own) (Φ : PW) (J : Value → World → Prop) : Prop :=
  ∀ w0 R1, Ctx W w0 (R ++ R1) Φ → ∃ p2 k3 k4, w0.cell? (Addr.mk sB (sO + 3) none) = some (.slice p2 k3 k4) ∧ ∀ w5 R6, Ctx W w5 (R ++ R6) Φ → Calls Tryz.prog F.sink_clone #[.slice p2 k3 k4] w5 fun e7 w8 => ∃ p9 k10 k11, e7 = .returned (.slice p9 k10 k11) ∧ ∃ R12 Φ13, Stable Φ13 ∧ Ctx W w8 (R12 ++ R6) Φ13 ∧ ∀ w14 R15, Ctx W w14 (R12 ++ R15) Φ13 → J (.slice p9 k10 k11) w14
theorem Bsink_Sink_List_run (sB sO : Nat) {W w : World} {R : List Own} {Φ : PW} [Stable Φ] {J : Value → World → Prop} (c : Ctx W w R Φ) (h : Bsink_Sink_List sB sO W R Φ J) : Calls Tryz.prog F.sink_Sink_List #[.pointer (some ⟨sB, sO, none⟩)] w fun e w' => ∃ v, e = .returned v ∧ J v w' :=
  vcFS_sound (H := { keep := some [0, 2] }) (by rw [show vcFS Tryz.prog W { keep := some [0, 2] } F.sink_Sink_List #[.pointer (some ⟨sB, sO, none⟩)] R Φ J = Bsink_Sink_List sB sO W R Φ J by kernel_rfl]; exact h) c
def Bsink_Sink_Deliver (sB sO : Nat) (batch : Int) (linesP : Option Addr) (linesN linesC : Nat) (W : World) (R : List Own) (Φ : PW) (J : Value → World → Prop) : Prop :=
  ∀ w0 R1, Ctx W w0 (R ++ R1) Φ → ∃ n2, w0.cell? (Addr.mk sB sO none) = some (.int .i64 n2) ∧ Br (decide (n2 = 0)) (∀ w3 R4, Ctx W w3 (R ++ R4) Φ → J (.int .i64 7) w3) (∀ w5 R6, Ctx W w5 (R ++ R6) Φ → Calls Tryz.prog F.sink_Sink_Has #[.pointer (some (Addr.mk sB sO none)), .int .i64 batch] w5 fun e7 w8 => ∃ c9, e7 = .returned (.bool c9) ∧ ∃ R10 Φ11, Stable Φ11 ∧ Ctx W w8 (R10 ++ R6) Φ11 ∧ Br c9 (∀ w12 R13, Ctx W w12 (R10 ++ R13) Φ11 → J (.int .i64 0) w12) (∀ w14 R15, Ctx W w14 (R10 ++ R15) Φ11 → Calls Tryz.prog F.sink_Sink_look #[.pointer (some (Addr.mk sB sO none)), .int .i64 batch, .slice linesP linesN linesC] w14 fun e16 w17 => ∃ n18, e16 = .returned (.int .i64 n18) ∧ ∃ R19 Φ20, Stable Φ20 ∧ Ctx W w17 (R19 ++ R15) Φ20 ∧ Br (decide (n18 ≠ 0)) (∀ w21 R22, Ctx W w21 (R19 ++ R22) Φ20 → J (.int .i64 n18) w21) (∀ w23 R24, Ctx W w23 (R19 ++ R24) Φ20 → Calls Tryz.prog F.sink_clone #[.slice
  linesP linesN linesC] w23 fun e25 w26 => ∃ p27 k28 k29, e25 = .returned (.slice p27 k28 k29) ∧ ∃ R30 Φ31, Stable Φ31 ∧ Ctx W w26 (R30 ++ R24) Φ31 ∧ ∀ w32 R33, Ctx W w32 (R30 ++ R33) Φ31 → Calls Tryz.prog F.sink_Sink_take #[.pointer (some (Addr.mk sB sO none)), .int .i64 batch, .slice p27 k28 k29] w32 fun e34 w35 => e34 = .returned (Value.tuple #[]) ∧ ∃ R36 Φ37, Stable Φ37 ∧ Ctx W w35 (R36 ++ R33) Φ37 ∧ ∀ w38 R39, Ctx W w38 (R36 ++ R39) Φ37 → J (.int .i64 0) w38)))
theorem Bsink_Sink_Deliver_run (sB sO : Nat) (batch : Int) (linesP : Option Addr) (linesN linesC : Nat) {W w : World} {R : List Own} {Φ : PW} [Stable Φ] {J : Value → World → Prop} (c : Ctx W w R Φ) (h : Bsink_Sink_Deliver sB sO batch linesP linesN linesC W R Φ J) : Calls Tryz.prog F.sink_Sink_Deliver #[.pointer (some ⟨sB, sO, none⟩), .int .i64 batch, .slice linesP linesN linesC] w fun e w' => ∃ v, e = .returned v ∧ J v w' :=
  vcFS_sound (H := { keep := some [0, 1, 2, 6, 7, 8, 14, 23] }) (by rw [show vcFS Tryz.prog W { keep := some [0, 1, 2, 6, 7, 8, 14, 23] } F.sink_Sink_Deliver #[.pointer (some ⟨sB, sO, none⟩), .int .i64 batch, .slice linesP linesN linesC] R Φ J = Bsink_Sink_Deliver sB sO batch linesP linesN linesC W R Φ J by kernel_rfl]; exact h) c
def Berratalaw43_line (no : Int) (batch : Int) (W : World) (R : List Own) (Φ : PW) (J : Value → World → Prop) : Prop :=
  ∀ (b k0 : Nat) (w1 : World) (R2 : List Own), Ctx W w1 (Own.blk k0 [Value.int IntKind.i64 0, Value.int IntKind.i64 no, Value.string (ByteArray.mk #[])] 78 :: R ++ R2) Φ → J (Value.agg #[.int .i64 no, .int .i64 batch, .int .i64 no, .slice (some (Addr.mk k0 0 none)) 1 1, .int .i64 1, .int .i64 0, .int .i64 0]) w1
theorem Berratalaw43_line_run (no : Int) (batch : Int) {W w : World} {R : List Own} {Φ : PW} [Stable Φ] {J : Value → World → Prop} (c : Ctx W w R Φ) (h : Berratalaw43_line no batch W R Φ J) : Calls Tryz.prog F.erratalaw43_line #[.int .i64 no, .int .i64 batch] w fun e w' => ∃ v, e = .returned v ∧ J v w' :=
  vcFS_sound (H := { keep := some [0, 1, 4], track := [4] }) (by rw [show vcFS Tryz.prog W { keep := some [0, 1, 4], track := [4] } F.erratalaw43_line #[.int .i64 no, .int .i64 batch] R Φ J = Berratalaw43_line no batch W R Φ J by kernel_rfl]; exact h) c
def Berrataref43_Few (lP : Option Addr) (lN lC : Nat) (n : Int) (W : World) (R : List Own) (Φ : PW) (J : Value → World → Prop) : Prop :=
  exI fun (I0 : Int → List Own → PW → Nat → Prop) => (∃ R1 Φ2 k3, Stable Φ2 ∧ Wk W R Φ R1 Φ2 ∧ I0 0 R1 Φ2 k3) ∧ ∀ n6 R7 I8 k9, Stable I8 → I0 n6 R7 I8 k9 → ∀ w10 R11, Ctx W w10 (R7 ++ R11) I8 → Br (decide (n6 < (↑lN : Int)) && decide (n6 ≤ n)) ((0 ≤ n6 ∧ n6 < (↑lN : Int)) ∧ ptrK none lP fun k12 k13 => ∀ w14 R15, Ctx W w14 (R7 ++ R15) I8 → ∃ p16 k17 k18, w14.cell? (Addr.mk k12 (k13 + n6.toNat * 7 + 3) none) = some (.slice p16 k17 k18) ∧ Br (decide (12 < (↑k17 : Int))) (∀ w19 R20, Ctx W w19 (R7 ++ R20) I8 → J (.bool false) w19) (exI fun (I21 : Int → List Own → PW → Nat → Prop) => (∃ R22 Φ23 k24, Stable Φ23 ∧ Wk W R7 I8 R22 Φ23 ∧ I21 0 R22 Φ23 k24) ∧ ∀ n27 R28 I29 k30, Stable I29 → I21 n27 R28 I29 k30 → (0 ≤ n6 ∧ n6 < (↑lN : Int)) ∧ ptrK none lP fun k31 k32 => ∀ w33 R34, Ctx W w33 (R28 ++ R34) I29 → ∃ p35 k36 k37, w33.cell? (Addr.mk k31 (k32 + n6.toNat * 7 + 3) none) = some (.slice p35 k36
  k37) ∧ Br (decide (n27 < (↑k36 : Int))) ((0 ≤ n6 ∧ n6 < (↑lN : Int)) ∧ ptrK none lP fun k38 k39 => ∀ w40 R41, Ctx W w40 (R28 ++ R41) I29 → ∃ p42 k43 k44, w40.cell? (Addr.mk k38 (k39 + n6.toNat * 7 + 3) none) = some (.slice p42 k43 k44) ∧ (0 ≤ n27 ∧ n27 < (↑k43 : Int)) ∧ ptrK none p42 fun k45 k46 => ∀ w47 R48, Ctx W w47 (R28 ++ R48) I29 → ∃ s49, w47.cell? (Addr.mk k45 (k46 + n27.toNat * 3 + 2) none) = some (.string s49) ∧ Br (decide (210 < (↑s49.size : Int))) (∀ w50 R51, Ctx W w50 (R28 ++ R51) I29 → J (.bool false) w50) (I64 (n27 + 1) ∧ ∃ R52 Φ53 k54, Stable Φ53 ∧ Wk W R28 I29 R52 Φ53 ∧ I21 (n27 + 1) R52 Φ53 k54 ∧ k54 < k30)) (I64 (n6 + 1) ∧ ∃ R57 Φ58 k59, Stable Φ58 ∧ Wk W R28 I29 R57 Φ58 ∧ I0 (n6 + 1) R57 Φ58 k59 ∧ k59 < k9))) (∀ w62 R63, Ctx W w62 (R7 ++ R63) I8 → J (.bool (decide ((↑lN : Int) ≤ n))) w62)
theorem Berrataref43_Few_run (lP : Option Addr) (lN lC : Nat) (n : Int) {W w : World} {R : List Own} {Φ : PW} [Stable Φ] {J : Value → World → Prop} (c : Ctx W w R Φ) (h : Berrataref43_Few lP lN lC n W R Φ J) : Calls Tryz.prog F.errataref43_Few #[.slice lP lN lC, .int .i64 n] w fun e w' => ∃ v, e = .returned v ∧ J v w' :=
  vcFS_sound (H := { keep := some [0, 1, 4, 5, 6, 15, 24, 32, 45], loops := [(7, [(6, .one (.int .i64))], []), (2, [(5, .one (.int .i64))], [])] }) (by rw [show vcFS Tryz.prog W { keep := some [0, 1, 4, 5, 6, 15, 24, 32, 45], loops := [(7, [(6, .one (.int .i64))], []), (2, [(5, .one (.int .i64))], [])] } F.errataref43_Few #[.slice lP lN lC, .int .i64 n] R Φ J = Berrataref43_Few lP lN lC n W R Φ J by kernel_rfl]; exact h) c
def Bslices_Min_int_int (xP : Option Addr) (xN xC : Nat) (W : World) (R : List Own) (Φ : PW) (J : Value → World → Prop) : Prop :=
  Br (decide ((↑xN : Int) < 1)) (∀ w0 R1, Ctx W w0 (R ++ R1) Φ → False) (((0 : Int) ≤ 0 ∧ 0 < (↑xN : Int)) ∧ ptrK none xP fun k2 k3 => ∀ w4 R5, Ctx W w4 (R ++ R5) Φ → ∃ n6, w4.cell? (Addr.mk k2 k3 none) = some (.int .i64 n6) ∧ exI fun (I7 : Int → Int → List Own → PW → Nat → Prop) => (∃ R8 Φ9 k10, Stable Φ9 ∧ Wk W R Φ R8 Φ9 ∧ I7 n6 1 R8 Φ9 k10) ∧ ∀ n13 n14 R15 I16 k17, Stable I16 → I7 n13 n14 R15 I16 k17 → Br (decide (n14 < (↑xN : Int))) ((0 ≤ n14 ∧ n14 < (↑xN : Int)) ∧ ptrK none xP fun k18 k19 => ∀ w20 R21, Ctx W w20 (R15 ++ R21) I16 → ∃ n22, w20.cell? (Addr.mk k18 (k19 + n14.toNat) none) = some (.int .i64 n22) ∧ I64 (n14 + 1) ∧ ∃ R23 Φ24 k25, Stable Φ24 ∧ Wk W R15 I16 R23 Φ24 ∧ I7 (min n13 n22) (n14 + 1) R23 Φ24 k25 ∧ k25 < k17) (∀ w28 R29, Ctx W w28 (R15 ++ R29) I16 → J (.int .i64 n13) w28))
theorem Bslices_Min_int_int_run (xP : Option Addr) (xN xC : Nat) {W w : World} {R : List Own} {Φ : PW} [Stable Φ] {J : Value → World → Prop} (c : Ctx W w R Φ) (h : Bslices_Min_int_int xP xN xC W R Φ J) : Calls Tryz.prog F.slices_Min_int_int #[.slice xP xN xC] w fun e w' => ∃ v, e = .returned v ∧ J v w' :=
  vcFS_sound (H := { keep := some [0, 2, 3, 4, 7, 15], loops := [(5, [(3, .one (.int .i64)), (4, .one (.int .i64))], [])] }) (by rw [show vcFS Tryz.prog W { keep := some [0, 2, 3, 4, 7, 15], loops := [(5, [(3, .one (.int .i64)), (4, .one (.int .i64))], [])] } F.slices_Min_int_int #[.slice xP xN xC] R Φ J = Bslices_Min_int_int xP xN xC W R Φ J by kernel_rfl]; exact h) c
def Bslices_Clone_int_int (sP : Option Addr) (sN sC : Nat) (W : World) (R : List Own) (Φ : PW) (J : Value → World → Prop) : Prop :=
  Br sP.isNone (∀ w0 R1, Ctx W w0 (R ++ R1) Φ → J (.slice none 0 0) w0) (∀ (k2 : Nat) (w3 : World) (R4 : List Own), Ctx W w3 (Own.blk k2 [] 3 :: R ++ R4) Φ → ∃ (p5 : Option Addr) (k6 k7 : Nat) (w8 : World), Sem.run Tryz.prog (builtin Builtin.append #[22, 22] 22 #[false, false] #[.slice (some (Addr.mk k2 0 none)) 0 0, .slice sP sN sC]) w3 = .ok (.value (.slice p5 k6 k7)) w8 ∧ ∃ R9 Φ10, Stable Φ10 ∧ Ctx W w8 (R9 ++ R4) Φ10 ∧ ∀ w11 R12, Ctx W w11 (R9 ++ R12) Φ10 → J (.slice p5 k6 k7) w11)
theorem Bslices_Clone_int_int_run (sP : Option Addr) (sN sC : Nat) {W w : World} {R : List Own} {Φ : PW} [Stable Φ] {J : Value → World → Prop} (c : Ctx W w R Φ) (h : Bslices_Clone_int_int sP sN sC W R Φ J) : Calls Tryz.prog F.slices_Clone_int_int #[.slice sP sN sC] w fun e w' => ∃ v, e = .returned v ∧ J v w' :=
  vcFS_sound (H := { keep := some [0, 2, 4] }) (by rw [show vcFS Tryz.prog W { keep := some [0, 2, 4] } F.slices_Clone_int_int #[.slice sP sN sC] R Φ J = Bslices_Clone_int_int sP sN sC W R Φ J by kernel_rfl]; exact h) c
def Bsink_Sink_Prepare (sB sO : Nat) (batch : Int) (linesP : Option Addr) (linesN linesC : Nat) (W : World) (R : List Own) (Φ : PW) (J : Value → World → Prop) : Prop :=
  ∀ w0 R1, Ctx W w0 (R ++ R1) Φ → ∃ n2, w0.cell? (Addr.mk sB sO none) = some (.int .i64 n2) ∧ Br (decide (n2 ≠ 0)) (∀ w3 R4, Ctx W w3 (R ++ R4) Φ → J (.int .i64 7) w3) (∀ w5 R6, Ctx W w5 (R ++ R6) Φ → Calls Tryz.prog F.sink_Sink_Has #[.pointer (some (Addr.mk sB sO none)), .int .i64 batch] w5 fun e7 w8 => ∃ c9, e7 = .returned (.bool c9) ∧ ∃ R10 Φ11, Stable Φ11 ∧ Ctx W w8 (R10 ++ R6) Φ11 ∧ Br c9 (∀ w12 R13, Ctx W w12 (R10 ++ R13) Φ11 → J (.int .i64 0) w12) (∀ w14 R15, Ctx W w14 (R10 ++ R15) Φ11 → Calls Tryz.prog F.sink_Sink_look #[.pointer (some (Addr.mk sB sO none)), .int .i64 batch, .slice linesP linesN linesC] w14 fun e16 w17 => ∃ n18, e16 = .returned (.int .i64 n18) ∧ ∃ R19 Φ20, Stable Φ20 ∧ Ctx W w17 (R19 ++ R15) Φ20 ∧ Br (decide (n18 ≠ 0)) (∀ w21 R22, Ctx W w21 (R19 ++ R22) Φ20 → J (.int .i64 n18) w21) (∀ w23 R24, Ctx W w23 (R19 ++ R24) Φ20 → Calls Tryz.prog F.sink_clone #[.slice
  linesP linesN linesC] w23 fun e25 w26 => ∃ p27 k28 k29, e25 = .returned (.slice p27 k28 k29) ∧ ∃ R30 Φ31, Stable Φ31 ∧ Ctx W w26 (R30 ++ R24) Φ31 ∧ ∀ w32 R33, Ctx W w32 (R30 ++ R33) Φ31 → CanWrite w32 sB (sO + 4) 1 ∧ ∀ (w34 : World), w34 = w32.setCell (Addr.mk sB (sO + 4) none) (Value.int IntKind.i64 batch) → ∃ R35 Φ36, Stable Φ36 ∧ Ctx W w34 (R35 ++ R33) Φ36 ∧ ∀ w37 R38, Ctx W w37 (R35 ++ R38) Φ36 → CanWrite w37 sB (sO + 5) 1 ∧ ∀ (w39 : World), w39 = w37.setCell (Addr.mk sB (sO + 5) none) (Value.slice p27 k28 k29) → ∃ R40 Φ41, Stable Φ41 ∧ Ctx W w39 (R40 ++ R38) Φ41 ∧ ∀ w42 R43, Ctx W w42 (R40 ++ R43) Φ41 → J (.int .i64 0) w42)))
theorem Bsink_Sink_Prepare_run (sB sO : Nat) (batch : Int) (linesP : Option Addr) (linesN linesC : Nat) {W w : World} {R : List Own} {Φ : PW} [Stable Φ] {J : Value → World → Prop} (c : Ctx W w R Φ) (h : Bsink_Sink_Prepare sB sO batch linesP linesN linesC W R Φ J) : Calls Tryz.prog F.sink_Sink_Prepare #[.pointer (some ⟨sB, sO, none⟩), .int .i64 batch, .slice linesP linesN linesC] w fun e w' => ∃ v, e = .returned v ∧ J v w' :=
  vcFS_sound (H := { keep := some [0, 1, 2, 6, 7, 8, 14, 23] }) (by rw [show vcFS Tryz.prog W { keep := some [0, 1, 2, 6, 7, 8, 14, 23] } F.sink_Sink_Prepare #[.pointer (some ⟨sB, sO, none⟩), .int .i64 batch, .slice linesP linesN linesC] R Φ J = Bsink_Sink_Prepare sB sO batch linesP linesN linesC W R Φ J by kernel_rfl]; exact h) c
def Bsink_Sink_Commit (sB sO : Nat) (batch : Int) (W : World) (R : List Own) (Φ : PW) (J : Value → World → Prop) : Prop :=
  ∀ w0 R1, Ctx W w0 (R ++ R1) Φ → ∃ n2, w0.cell? (Addr.mk sB sO none) = some (.int .i64 n2) ∧ Br (decide (n2 ≠ 0)) (∀ w3 R4, Ctx W w3 (R ++ R4) Φ → J (.int .i64 7) w3) (∀ w5 R6, Ctx W w5 (R ++ R6) Φ → Calls Tryz.prog F.sink_Sink_Has #[.pointer (some (Addr.mk sB sO none)), .int .i64 batch] w5 fun e7 w8 => ∃ c9, e7 = .returned (.bool c9) ∧ ∃ R10 Φ11, Stable Φ11 ∧ Ctx W w8 (R10 ++ R6) Φ11 ∧ Br c9 (∀ w12 R13, Ctx W w12 (R10 ++ R13) Φ11 → J (.int .i64 0) w12) (∀ w14 R15, Ctx W w14 (R10 ++ R15) Φ11 → ∃ (n16 : Int), ((!decide (batch < 1)) = true → w14.cell? (Addr.mk sB (sO + 4) none) = some (.int .i64 n16)) ∧ Br (decide (batch < 1) || decide (batch ≠ n16)) (∀ w17 R18, Ctx W w17 (R10 ++ R18) Φ11 → J (.int .i64 4) w17) (∀ w19 R20, Ctx W w19 (R10 ++ R20) Φ11 → ∃ p21 k22 k23, w19.cell? (Addr.mk sB (sO + 5) none) = some (.slice p21 k22 k23) ∧ ∀ w24 R25, Ctx W w24 (R10 ++ R25) Φ11 → Calls Tryz.prog
  F.sink_Sink_take #[.pointer (some (Addr.mk sB sO none)), .int .i64 batch, .slice p21 k22 k23] w24 fun e26 w27 => e26 = .returned (Value.tuple #[]) ∧ ∃ R28 Φ29, Stable Φ29 ∧ Ctx W w27 (R28 ++ R25) Φ29 ∧ ∀ w30 R31, Ctx W w30 (R28 ++ R31) Φ29 → CanWrite w30 sB (sO + 4) 1 ∧ ∀ (w32 : World), w32 = w30.setCell (Addr.mk sB (sO + 4) none) (Value.int IntKind.i64 0) → ∃ R33 Φ34, Stable Φ34 ∧ Ctx W w32 (R33 ++ R31) Φ34 ∧ ∀ w35 R36, Ctx W w35 (R33 ++ R36) Φ34 → CanWrite w35 sB (sO + 5) 1 ∧ ∀ (w37 : World), w37 = w35.setCell (Addr.mk sB (sO + 5) none) (Value.slice none 0 0) → ∃ R38 Φ39, Stable Φ39 ∧ Ctx W w37 (R38 ++ R36) Φ39 ∧ ∀ w40 R41, Ctx W w40 (R38 ++ R41) Φ39 → J (.int .i64 0) w40)))
theorem Bsink_Sink_Commit_run (sB sO : Nat) (batch : Int) {W w : World} {R : List Own} {Φ : PW} [Stable Φ] {J : Value → World → Prop} (c : Ctx W w R Φ) (h : Bsink_Sink_Commit sB sO batch W R Φ J) : Calls Tryz.prog F.sink_Sink_Commit #[.pointer (some ⟨sB, sO, none⟩), .int .i64 batch] w fun e w' => ∃ v, e = .returned v ∧ J v w' :=
  vcFS_sound (H := { keep := some [0, 1, 4, 5, 11, 15] }) (by rw [show vcFS Tryz.prog W { keep := some [0, 1, 4, 5, 11, 15] } F.sink_Sink_Commit #[.pointer (some ⟨sB, sO, none⟩), .int .i64 batch] R Φ J = Bsink_Sink_Commit sB sO batch W R Φ J by kernel_rfl]; exact h) c
def Bsink_Sink_Abort (sB sO : Nat) (batch : Int) (W : World) (R : List Own) (Φ : PW) (J : Value → World → Prop) : Prop :=
  ∀ w0 R1, Ctx W w0 (R ++ R1) Φ → ∃ n2, w0.cell? (Addr.mk sB sO none) = some (.int .i64 n2) ∧ Br (decide (n2 ≠ 0)) (∀ w3 R4, Ctx W w3 (R ++ R4) Φ → J (.int .i64 7) w3) (∀ w5 R6, Ctx W w5 (R ++ R6) Φ → Calls Tryz.prog F.sink_Sink_Has #[.pointer (some (Addr.mk sB sO none)), .int .i64 batch] w5 fun e7 w8 => ∃ c9, e7 = .returned (.bool c9) ∧ ∃ R10 Φ11, Stable Φ11 ∧ Ctx W w8 (R10 ++ R6) Φ11 ∧ Br c9 (∀ w12 R13, Ctx W w12 (R10 ++ R13) Φ11 → J (.int .i64 7) w12) (∀ w14 R15, Ctx W w14 (R10 ++ R15) Φ11 → ∃ (n16 : Int), ((!decide (batch < 1)) = true → w14.cell? (Addr.mk sB (sO + 4) none) = some (.int .i64 n16)) ∧ Br (decide (batch < 1) || decide (batch ≠ n16)) (∀ w17 R18, Ctx W w17 (R10 ++ R18) Φ11 → J (.int .i64 4) w17) (∀ w19 R20, Ctx W w19 (R10 ++ R20) Φ11 → CanWrite w19 sB (sO + 4) 1 ∧ ∀ (w21 : World), w21 = w19.setCell (Addr.mk sB (sO + 4) none) (Value.int IntKind.i64 0) → ∃ R22 Φ23, Stable Φ23
  ∧ Ctx W w21 (R22 ++ R20) Φ23 ∧ ∀ w24 R25, Ctx W w24 (R22 ++ R25) Φ23 → CanWrite w24 sB (sO + 5) 1 ∧ ∀ (w26 : World), w26 = w24.setCell (Addr.mk sB (sO + 5) none) (Value.slice none 0 0) → ∃ R27 Φ28, Stable Φ28 ∧ Ctx W w26 (R27 ++ R25) Φ28 ∧ ∀ w29 R30, Ctx W w29 (R27 ++ R30) Φ28 → J (.int .i64 0) w29)))
theorem Bsink_Sink_Abort_run (sB sO : Nat) (batch : Int) {W w : World} {R : List Own} {Φ : PW} [Stable Φ] {J : Value → World → Prop} (c : Ctx W w R Φ) (h : Bsink_Sink_Abort sB sO batch W R Φ J) : Calls Tryz.prog F.sink_Sink_Abort #[.pointer (some ⟨sB, sO, none⟩), .int .i64 batch] w fun e w' => ∃ v, e = .returned v ∧ J v w' :=
  vcFS_sound (H := { keep := some [0, 1, 4, 5, 16], split := [1] }) (by rw [show vcFS Tryz.prog W { keep := some [0, 1, 4, 5, 16], split := [1] } F.sink_Sink_Abort #[.pointer (some ⟨sB, sO, none⟩), .int .i64 batch] R Φ J = Bsink_Sink_Abort sB sO batch W R Φ J by kernel_rfl]; exact h) c
def Bsink_Sink_Copy (sB sO : Nat) (W : World) (R : List Own) (Φ : PW) (J : Value → World → Prop) : Prop :=
  ∀ w0 R1, Ctx W w0 (R ++ R1) Φ → ∃ n2 p3 k4 k5 p6 k7 k8 p9 k10 k11 n12 p13 k14 k15, RowAt w0 sB sO [.int .i64 n2, .slice p3 k4 k5, .slice p6 k7 k8, .slice p9 k10 k11, .int .i64 n12, .slice p13 k14 k15] ∧ ∀ (k16 : Nat) (w17 : World) (R18 : List Own), Ctx W w17 (Own.blk k16 [.int .i64 0, .slice none 0 0, .slice none 0 0, .slice none 0 0, .int .i64 0, .slice none 0 0] 57 :: R ++ R18) Φ → CanWrite w17 k16 0 6 ∧ ∀ (w19 : World), w19 = w17.setCells k16 0 [.int .i64 n2, .slice p3 k4 k5, .slice p6 k7 k8, .slice p9 k10 k11, .int .i64 n12, .slice p13 k14 k15] → ∃ R20 Φ21, Stable Φ21 ∧ Ctx W w19 (R20 ++ R18) Φ21 ∧ ∃ R22 Φ23, Stable Φ23 ∧ Wk W R20 Φ21 R22 Φ23 ∧ ∃ (p26 : Option Addr) (k27 k28 : Nat), (∀ w29 R30, Ctx W w29 (R22 ++ R30) Φ23 → ∃ p31 k32 k33, w29.cell? (Addr.mk sB (sO + 1) none) = some (.slice p31 k32 k33) ∧ Value.slice p31 k32 k33 = Value.slice p26 k27 k28) ∧ ∃ (p34 : Option Addr) (k35
  k36 : Nat), (∀ w37 R38, Ctx W w37 (R22 ++ R38) Φ23 → ∃ p39 k40 k41, w37.cell? (Addr.mk sB (sO + 2) none) = some (.slice p39 k40 k41) ∧ Value.slice p39 k40 k41 = Value.slice p34 k35 k36) ∧ ∃ (p42 : Option Addr) (k43 k44 : Nat), (∀ w45 R46, Ctx W w45 (R22 ++ R46) Φ23 → ∃ p47 k48 k49, w45.cell? (Addr.mk sB (sO + 3) none) = some (.slice p47 k48 k49) ∧ Value.slice p47 k48 k49 = Value.slice p42 k43 k44) ∧ ∃ (p50 : Option Addr) (k51 k52 : Nat), (∀ w53 R54, Ctx W w53 (R22 ++ R54) Φ23 → ∃ p55 k56 k57, w53.cell? (Addr.mk sB (sO + 5) none) = some (.slice p55 k56 k57) ∧ Value.slice p55 k56 k57 = Value.slice p50 k51 k52) ∧ ∀ w58 R59, Ctx W w58 (R20 ++ R59) Φ21 → Calls Tryz.prog F.slices_Clone_int_int #[.slice p26 k27 k28] w58 fun e60 w61 => ∃ p62 k63 k64, e60 = .returned (.slice p62 k63 k64) ∧ ∃ R65 Φ66, Stable Φ66 ∧ Ctx W w61 (R65 ++ R59) Φ66 ∧ Wk W R65 Φ66 R22 Φ23 ∧ ∀ w69 R70, Ctx W w69 (R65 ++
  R70) Φ66 → Calls Tryz.prog F.slices_Clone_int_int #[.slice p34 k35 k36] w69 fun e71 w72 => ∃ p73 k74 k75, e71 = .returned (.slice p73 k74 k75) ∧ ∃ R76 Φ77, Stable Φ77 ∧ Ctx W w72 (R76 ++ R70) Φ77 ∧ Wk W R76 Φ77 R22 Φ23 ∧ ∀ w80 R81, Ctx W w80 (R76 ++ R81) Φ77 → Calls Tryz.prog F.slices_Clone_api_Line_api_Line #[.slice p42 k43 k44] w80 fun e82 w83 => ∃ p84 k85 k86, e82 = .returned (.slice p84 k85 k86) ∧ ∃ R87 Φ88, Stable Φ88 ∧ Ctx W w83 (R87 ++ R81) Φ88 ∧ Wk W R87 Φ88 R22 Φ23 ∧ ∀ w91 R92, Ctx W w91 (R87 ++ R92) Φ88 → Calls Tryz.prog F.slices_Clone_api_Line_api_Line #[.slice p50 k51 k52] w91 fun e93 w94 => ∃ p95 k96 k97, e93 = .returned (.slice p95 k96 k97) ∧ ∃ R98 Φ99, Stable Φ99 ∧ Ctx W w94 (R98 ++ R92) Φ99 ∧ ∀ w100 R101, Ctx W w100 (R98 ++ R101) Φ99 → CanWrite w100 k16 1 1 ∧ ∀ (w102 : World), w102 = w100.setCell (Addr.mk k16 1 none) (Value.slice p62 k63 k64) → ∃ R103 Φ104, Stable Φ104 ∧
  Ctx W w102 (R103 ++ R101) Φ104 ∧ ∀ w105 R106, Ctx W w105 (R103 ++ R106) Φ104 → CanWrite w105 k16 2 1 ∧ ∀ (w107 : World), w107 = w105.setCell (Addr.mk k16 2 none) (Value.slice p73 k74 k75) → ∃ R108 Φ109, Stable Φ109 ∧ Ctx W w107 (R108 ++ R106) Φ109 ∧ ∀ w110 R111, Ctx W w110 (R108 ++ R111) Φ109 → CanWrite w110 k16 3 1 ∧ ∀ (w112 : World), w112 = w110.setCell (Addr.mk k16 3 none) (Value.slice p84 k85 k86) → ∃ R113 Φ114, Stable Φ114 ∧ Ctx W w112 (R113 ++ R111) Φ114 ∧ ∀ w115 R116, Ctx W w115 (R113 ++ R116) Φ114 → CanWrite w115 k16 5 1 ∧ ∀ (w117 : World), w117 = w115.setCell (Addr.mk k16 5 none) (Value.slice p95 k96 k97) → ∃ R118 Φ119, Stable Φ119 ∧ Ctx W w117 (R118 ++ R116) Φ119 ∧ ∀ w120 R121, Ctx W w120 (R118 ++ R121) Φ119 → J (.pointer (some (Addr.mk k16 0 none))) w120
theorem Bsink_Sink_Copy_run (sB sO : Nat) {W w : World} {R : List Own} {Φ : PW} [Stable Φ] {J : Value → World → Prop} (c : Ctx W w R Φ) (h : Bsink_Sink_Copy sB sO W R Φ J) : Calls Tryz.prog F.sink_Sink_Copy #[.pointer (some ⟨sB, sO, none⟩)] w fun e w' => ∃ v, e = .returned v ∧ J v w' :=
  vcFS_sound (H := { keep := some [0, 2, 3], stages := [(2, [.held [(0, true), (5, true), (10, true), (15, true), (1, true), (6, true), (11, true), (16, true), (2, true), (7, true), (12, true), (17, true), (3, true), (8, true), (13, true), (18, true), (4, false), (9, false), (14, false)], .stage [] (some 19), .stage [20] (some 21), .stage [22] (some 23), .stage [24] (some 25), .stage [26] (some 27)])] }) (by rw [show vcFS Tryz.prog W { keep := some [0, 2, 3], stages := [(2, [.held [(0, true), (5, true), (10, true), (15, true), (1, true), (6, true), (11, true), (16, true), (2, true), (7, true), (12, true), (17, true), (3, true), (8, true), (13, true), (18, true), (4, false), (9, false), (14, false)], .stage [] (some 19), .stage [20] (some 21), .stage [22] (some 23), .stage [24] (some 25), .stage [26] (some 27)])] } F.sink_Sink_Copy #[.pointer (some ⟨sB, sO, none⟩)] R Φ J = Bsink_Sink_Copy sB sO W R Φ J by kernel_rfl]; exact h) c
def Bsink_Read (x : ByteArray) (W : World) (R : List Own) (Φ : PW) (J : Value → World → Prop) : Prop :=
  ∀ w0 R1, Ctx W w0 (R ++ R1) Φ → Calls Tryz.prog F.wire_Open #[.string x] w0 fun e2 w3 => ∃ p4, e2 = .returned (.pointer p4) ∧ ∃ R5 Φ6, Stable Φ6 ∧ Ctx W w3 (R5 ++ R1) Φ6 ∧ ∀ w7 R8, Ctx W w7 (R5 ++ R8) Φ6 → Calls Tryz.prog F.wire_Reader_Int #[.pointer p4] w7 fun e9 w10 => ∃ n11, e9 = .returned (.int .i64 n11) ∧ ∃ R12 Φ13, Stable Φ13 ∧ Ctx W w10 (R12 ++ R8) Φ13 ∧ ∀ w14 R15, Ctx W w14 (R12 ++ R15) Φ13 → Calls Tryz.prog F.wire_Reader_Nums #[.pointer p4] w14 fun e16 w17 => ∃ p18 k19 k20, e16 = .returned (.slice p18 k19 k20) ∧ ∃ R21 Φ22, Stable Φ22 ∧ Ctx W w17 (R21 ++ R15) Φ22 ∧ ∀ w23 R24, Ctx W w23 (R21 ++ R24) Φ22 → Calls Tryz.prog F.sink_New #[.int .i64 n11, .slice p18 k19 k20] w23 fun e25 w26 => ∃ p27, e25 = .returned (.pointer p27) ∧ ∃ R28 Φ29, Stable Φ29 ∧ Ctx W w26 (R28 ++ R24) Φ29 ∧ Br p27.isNone (∀ w30 R31, Ctx W w30 (R28 ++ R31) Φ29 → J (Value.tuple #[.pointer none, .bool false])
  w30) (∀ w32 R33, Ctx W w32 (R28 ++ R33) Φ29 → Calls Tryz.prog F.wire_Reader_Nums #[.pointer p4] w32 fun e34 w35 => ∃ p36 k37 k38, e34 = .returned (.slice p36 k37 k38) ∧ ∃ R39 Φ40, Stable Φ40 ∧ Ctx W w35 (R39 ++ R33) Φ40 ∧ ∀ w41 R42, Ctx W w41 (R39 ++ R42) Φ40 → Calls Tryz.prog F.sink_readLines #[.pointer p4] w41 fun e43 w44 => ∃ p45 k46 k47 c48, e43 = .returned (Value.tuple #[.slice p45 k46 k47, .bool c48]) ∧ ∃ R49 Φ50, Stable Φ50 ∧ Ctx W w44 (R49 ++ R42) Φ50 ∧ ∀ w51 R52, Ctx W w51 (R49 ++ R52) Φ50 → Calls Tryz.prog F.wire_Reader_Int #[.pointer p4] w51 fun e53 w54 => ∃ n55, e53 = .returned (.int .i64 n55) ∧ ∃ R56 Φ57, Stable Φ57 ∧ Ctx W w54 (R56 ++ R52) Φ57 ∧ ∀ w58 R59, Ctx W w58 (R56 ++ R59) Φ57 → Calls Tryz.prog F.sink_readLines #[.pointer p4] w58 fun e60 w61 => ∃ p62 k63 k64 c65, e60 = .returned (Value.tuple #[.slice p62 k63 k64, .bool c65]) ∧ ∃ R66 Φ67, Stable Φ67 ∧ Ctx W w61 (R66
  ++ R59) Φ67 ∧ Br (!c48) (∀ w68 R69, Ctx W w68 (R66 ++ R69) Φ67 → J (Value.tuple #[.pointer none, .bool false]) w68) (Br (!c65) (∀ w70 R71, Ctx W w70 (R66 ++ R71) Φ67 → J (Value.tuple #[.pointer none, .bool false]) w70) (∀ w72 R73, Ctx W w72 (R66 ++ R73) Φ67 → Calls Tryz.prog F.wire_Reader_Done #[.pointer p4] w72 fun e74 w75 => ∃ c76, e74 = .returned (.bool c76) ∧ ∃ R77 Φ78, Stable Φ78 ∧ Ctx W w75 (R77 ++ R73) Φ78 ∧ Br (!c76) (∀ w79 R80, Ctx W w79 (R77 ++ R80) Φ78 → J (Value.tuple #[.pointer none, .bool false]) w79) (exI fun (I81 : Option Addr → Nat → Nat → Int → List Own → PW → Nat → Prop) => (∃ R82 Φ83 k84, Stable Φ83 ∧ Wk W R77 Φ78 R82 Φ83 ∧ I81 p45 k46 k47 0 R82 Φ83 k84) ∧ ∀ p87 k88 k89 n90 R91 I92 k93, Stable I92 → I81 p87 k88 k89 n90 R91 I92 k93 → Br (decide (n90 < (↑k37 : Int))) ((0 ≤ n90 ∧ n90 < (↑k37 : Int)) ∧ ptrK none p36 fun k94 k95 => ∀ w96 R97, Ctx W w96 (R91 ++ R97) I92 →
  ∃ n98, w96.cell? (Addr.mk k94 (k95 + n90.toNat) none) = some (.int .i64 n98) ∧ exI fun (I99 : Int → List Own → PW → Nat → Prop) => (∃ R100 Φ101 k102, Stable Φ101 ∧ Wk W R91 I92 R100 Φ101 ∧ I99 0 R100 Φ101 k102) ∧ ∀ n105 R106 I107 k108, Stable I107 → I99 n105 R106 I107 k108 → ∀ w109 R110, Ctx W w109 (R106 ++ R110) I107 → (decide (n105 < (↑k88 : Int)) = true → 0 ≤ n105 ∧ n105 < (↑k88 : Int)) ∧ ptrK (some (decide (n105 < (↑k88 : Int)))) p87 fun k111 k112 => ∃ (n113 : Int), (decide (n105 < (↑k88 : Int)) = true → w109.cell? (Addr.mk k111 (k112 + n105.toNat * 7 + 1) none) = some (.int .i64 n113)) ∧ Br (decide (n105 < (↑k88 : Int)) && decide (n113 = n98)) (I64 (n105 + 1) ∧ ∃ R114 Φ115 k116, Stable Φ115 ∧ Wk W R106 I107 R114 Φ115 ∧ I99 (n105 + 1) R114 Φ115 k116 ∧ k116 < k108) ((0 ≤ n105 ∧ n105 ≤ (↑k89 : Int)) ∧ ∀ w119 R120, Ctx W w119 (R106 ++ R120) I107 → Calls Tryz.prog F.sink_Sink_look
  #[.pointer p27, .int .i64 n98, .slice (subPtr p87 7 0 k89) n105.toNat k89] w119 fun e121 w122 => ∃ n123, e121 = .returned (.int .i64 n123) ∧ ∃ R124 Φ125, Stable Φ125 ∧ Ctx W w122 (R124 ++ R120) Φ125 ∧ Br (decide (n123 ≠ 0)) (∀ w126 R127, Ctx W w126 (R124 ++ R127) Φ125 → J (Value.tuple #[.pointer none, .bool false]) w126) ((0 ≤ n105 ∧ n105 ≤ (↑k89 : Int)) ∧ ∀ w128 R129, Ctx W w128 (R124 ++ R129) Φ125 → Calls Tryz.prog F.sink_Sink_take #[.pointer p27, .int .i64 n98, .slice (subPtr p87 7 0 k89) n105.toNat k89] w128 fun e130 w131 => e130 = .returned (Value.tuple #[]) ∧ ∃ R132 Φ133, Stable Φ133 ∧ Ctx W w131 (R132 ++ R129) Φ133 ∧ (0 ≤ n105 ∧ n105 ≤ (↑k88 : Int) ∧ k88 ≤ k89) ∧ I64 (n90 + 1) ∧ ∃ R134 Φ135 k136, Stable Φ135 ∧ Wk W R132 Φ133 R134 Φ135 ∧ I81 (subPtr p87 7 n105.toNat k89) (k88 - n105.toNat) (k89 - n105.toNat) (n90 + 1) R134 Φ135 k136 ∧ k136 < k93))) (exI fun (I139 : Int → List Own
  → PW → Nat → Prop) => (∃ R140 Φ141 k142, Stable Φ141 ∧ Wk W R91 I92 R140 Φ141 ∧ I139 0 R140 Φ141 k142) ∧ ∀ n145 R146 I147 k148, Stable I147 → I139 n145 R146 I147 k148 → Br (decide (n145 < (↑k63 : Int))) ((0 ≤ n145 ∧ n145 < (↑k63 : Int)) ∧ ptrK none p62 fun k149 k150 => ptrK none p27 fun k151 k152 => ∀ w153 R154, Ctx W w153 (R146 ++ R154) I147 → ∃ n155, w153.cell? (Addr.mk k149 (k150 + n145.toNat * 7) none) = some (.int .i64 n155) ∧ ∀ w156 R157, Ctx W w156 (R146 ++ R157) I147 → ∃ p158 k159 k160, w156.cell? (Addr.mk k151 (k152 + 3) none) = some (.slice p158 k159 k160) ∧ I64 (n155 + (↑k159 : Int)) ∧ (0 ≤ n145 ∧ n145 < (↑k63 : Int)) ∧ ptrK none p62 fun k161 k162 => ∀ w163 R164, Ctx W w163 (R146 ++ R164) I147 → CanWrite w163 k161 (k162 + n145.toNat * 7) 1 ∧ ∀ (w165 : World), w165 = w163.setCell (Addr.mk k161 (k162 + n145.toNat * 7) none) (Value.int IntKind.i64 (n155 + (↑k159 : Int))) → ∃
  R166 Φ167, Stable Φ167 ∧ Ctx W w165 (R166 ++ R164) Φ167 ∧ I64 (n145 + 1) ∧ ∃ R168 Φ169 k170, Stable Φ169 ∧ Wk W R166 Φ167 R168 Φ169 ∧ I139 (n145 + 1) R168 Φ169 k170 ∧ k170 < k148) (Br (decide (n55 ≠ 0)) (∀ w173 R174, Ctx W w173 (R146 ++ R174) I147 → Calls Tryz.prog F.sink_Sink_Prepare #[.pointer p27, .int .i64 n55, .slice p62 k63 k64] w173 fun e175 w176 => ∃ n177, e175 = .returned (.int .i64 n177) ∧ ∃ R178 Φ179, Stable Φ179 ∧ Ctx W w176 (R178 ++ R174) Φ179 ∧ Br (decide (n177 ≠ 0)) (∀ w180 R181, Ctx W w180 (R178 ++ R181) Φ179 → J (Value.tuple #[.pointer none, .bool false]) w180) (ptrK none p27 fun k182 k183 => ∀ w184 R185, Ctx W w184 (R178 ++ R185) Φ179 → ∃ n186, w184.cell? (Addr.mk k182 (k183 + 4) none) = some (.int .i64 n186) ∧ Br (decide (n186 ≠ n55)) (∀ w187 R188, Ctx W w187 (R178 ++ R188) Φ179 → J (Value.tuple #[.pointer none, .bool false]) w187) (∀ w189 R190, Ctx W w189 (R178 ++
  R190) Φ179 → Calls Tryz.prog F.sink_Sink_Bytes #[.pointer p27] w189 fun e191 w192 => ∃ s193, e191 = .returned (.string s193) ∧ ∃ R194 Φ195, Stable Φ195 ∧ Ctx W w192 (R194 ++ R190) Φ195 ∧ Br (decide (s193 ≠ x)) (∀ w196 R197, Ctx W w196 (R194 ++ R197) Φ195 → J (Value.tuple #[.pointer none, .bool false]) w196) (∀ w198 R199, Ctx W w198 (R194 ++ R199) Φ195 → J (Value.tuple #[.pointer p27, .bool true]) w198)))) (ptrK none p27 fun k200 k201 => ∀ w202 R203, Ctx W w202 (R146 ++ R203) I147 → ∃ n204, w202.cell? (Addr.mk k200 (k201 + 4) none) = some (.int .i64 n204) ∧ Br (decide (n204 ≠ n55)) (∀ w205 R206, Ctx W w205 (R146 ++ R206) I147 → J (Value.tuple #[.pointer none, .bool false]) w205) (∀ w207 R208, Ctx W w207 (R146 ++ R208) I147 → Calls Tryz.prog F.sink_Sink_Bytes #[.pointer p27] w207 fun e209 w210 => ∃ s211, e209 = .returned (.string s211) ∧ ∃ R212 Φ213, Stable Φ213 ∧ Ctx W w210 (R212 ++
  R208) Φ213 ∧ Br (decide (s211 ≠ x)) (∀ w214 R215, Ctx W w214 (R212 ++ R215) Φ213 → J (Value.tuple #[.pointer none, .bool false]) w214) (∀ w216 R217, Ctx W w216 (R212 ++ R217) Φ213 → J (Value.tuple #[.pointer p27, .bool true]) w216)))))))))
theorem Bsink_Read_run (x : ByteArray) {W w : World} {R : List Own} {Φ : PW} [Stable Φ] {J : Value → World → Prop} (c : Ctx W w R Φ) (h : Bsink_Read x W R Φ J) : Calls Tryz.prog F.sink_Read #[.string x] w fun e w' => ∃ v, e = .returned v ∧ J v w' :=
  vcFS_sound (H := { keep := some [0, 2, 3, 4, 5, 6, 7, 8, 9, 10, 11, 12, 14, 15, 16, 26, 51, 52, 53, 54, 55, 70, 79, 91, 92, 93, 131], stages := [(26, [.stage [0, 1, 5, 2, 6, 3, 7, 4, 8, 9, 10] none, .stage [11] none, .stage [12] (some 13)])], split := [10, 28], loops := [(24, [(92, .one (.int .i64))], []), (16, [(15, .one (.int .i64))], []), (13, [(8, .one (.slice)), (54, .one (.int .i64))], [])] }) (by rw [show vcFS Tryz.prog W { keep := some [0, 2, 3, 4, 5, 6, 7, 8, 9, 10, 11, 12, 14, 15, 16, 26, 51, 52, 53, 54, 55, 70, 79, 91, 92, 93, 131], stages := [(26, [.stage [0, 1, 5, 2, 6, 3, 7, 4, 8, 9, 10] none, .stage [11] none, .stage [12] (some 13)])], split := [10, 28], loops := [(24, [(92, .one (.int .i64))], []), (16, [(15, .one (.int .i64))], []), (13, [(8, .one (.slice)), (54, .one (.int .i64))], [])] } F.sink_Read #[.string x] R Φ J = Bsink_Read x W R Φ J by kernel_rfl]; exact h) c
def Bslices_BinarySearch_int_int (xP : Option Addr) (xN xC : Nat) (target : Int) (W : World) (R : List Own) (Φ : PW) (J : Value → World → Prop) : Prop :=
  exI fun (I0 : Int → Int → List Own → PW → Nat → Prop) => (∃ R1 Φ2 k3, Stable Φ2 ∧ Wk W R Φ R1 Φ2 ∧ I0 0 (↑xN : Int) R1 Φ2 k3) ∧ ∀ n6 n7 R8 I9 k10, Stable I9 → I0 n6 n7 R8 I9 k10 → Br (decide (n6 < n7)) (I64 (n6 + n7) ∧ ∃ (n11 : Int), (∀ (w12 : World), Sem.run Tryz.prog (binOp BinOp.shr 87 (Value.int IntKind.u64 (IntKind.u64.wrap (n6 + n7))) (Value.int IntKind.u64 1)) w12 = Result.ok (Value.int IntKind.u64 n11) w12) ∧ (0 ≤ IntKind.i64.wrap n11 ∧ IntKind.i64.wrap n11 < (↑xN : Int)) ∧ ptrK none xP fun k13 k14 => ∀ w15 R16, Ctx W w15 (R8 ++ R16) I9 → ∃ n17, w15.cell? (Addr.mk k13 (k14 + (IntKind.i64.wrap n11).toNat) none) = some (.int .i64 n17) ∧ ∀ w18 R19, Ctx W w18 (R8 ++ R19) I9 → Calls Tryz.prog F.cmp_Less_int #[.int .i64 n17, .int .i64 target] w18 fun e20 w21 => ∃ c22, e20 = .returned (.bool c22) ∧ ∃ R23 Φ24, Stable Φ24 ∧ Ctx W w21 (R23 ++ R19) Φ24 ∧ Br c22 (I64 (IntKind.i64.wrap n11 +
  1) ∧ ∃ R25 Φ26 k27, Stable Φ26 ∧ Wk W R23 Φ24 R25 Φ26 ∧ I0 (IntKind.i64.wrap n11 + 1) n7 R25 Φ26 k27 ∧ k27 < k10) (∃ R30 Φ31 k32, Stable Φ31 ∧ Wk W R23 Φ24 R30 Φ31 ∧ I0 n6 (IntKind.i64.wrap n11) R30 Φ31 k32 ∧ k32 < k10)) (∀ w35 R36, Ctx W w35 (R8 ++ R36) I9 → (decide (n6 < (↑xN : Int)) = true → 0 ≤ n6 ∧ n6 < (↑xN : Int)) ∧ ptrK (some (decide (n6 < (↑xN : Int)))) xP fun k37 k38 => ∃ (n39 : Int), (decide (n6 < (↑xN : Int)) = true → w35.cell? (Addr.mk k37 (k38 + n6.toNat) none) = some (.int .i64 n39)) ∧ ((decide (n6 < (↑xN : Int)) && !decide (n39 = target)) = true → 0 ≤ n6 ∧ n6 < (↑xN : Int)) ∧ ptrK (some (decide (n6 < (↑xN : Int)) && !decide (n39 = target))) xP fun k40 k41 => ∃ (n42 : Int), ((decide (n6 < (↑xN : Int)) && !decide (n39 = target)) = true → w35.cell? (Addr.mk k40 (k41 + n6.toNat) none) = some (.int .i64 n42)) ∧ ∃ (c43 : Bool), ((decide (n6 < (↑xN : Int)) && !decide (n39 =
  target)) = true → ∀ (w44 : World), w44 = w35 → Calls Tryz.prog F.slices_isNaN_int #[.int .i64 n42] w44 fun e45 w46 => e45 = .returned (.bool c43) ∧ w46 = w35) ∧ ∃ (c47 : Bool), ((decide (n6 < (↑xN : Int)) && !decide (n39 = target) && c43) = true → ∀ (w48 : World), w48 = w35 → Calls Tryz.prog F.slices_isNaN_int #[.int .i64 target] w48 fun e49 w50 => e49 = .returned (.bool c47) ∧ w50 = w35) ∧ ∀ w51 R52, Ctx W w51 (R8 ++ R52) I9 → J (Value.tuple #[.int .i64 n6, .bool (decide (n6 < (↑xN : Int)) && (decide (n39 = target) || c43 && c47))]) w51)
theorem Bslices_BinarySearch_int_int_run (xP : Option Addr) (xN xC : Nat) (target : Int) {W w : World} {R : List Own} {Φ : PW} [Stable Φ] {J : Value → World → Prop} (c : Ctx W w R Φ) (h : Bslices_BinarySearch_int_int xP xN xC target W R Φ J) : Calls Tryz.prog F.slices_BinarySearch_int_int #[.slice xP xN xC, .int .i64 target] w fun e w' => ∃ v, e = .returned v ∧ J v w' :=
  vcFS_sound (H := { keep := some [0, 1, 4, 5, 6, 7, 8, 9, 15, 27], loops := [(3, [(7, .one (.int .i64)), (8, .one (.int .i64))], [])] }) (by rw [show vcFS Tryz.prog W { keep := some [0, 1, 4, 5, 6, 7, 8, 9, 15, 27], loops := [(3, [(7, .one (.int .i64)), (8, .one (.int .i64))], [])] } F.slices_BinarySearch_int_int #[.slice xP xN xC, .int .i64 target] R Φ J = Bslices_BinarySearch_int_int xP xN xC target W R Φ J by kernel_rfl]; exact h) c
def Bsink_linesBytes (lP : Option Addr) (lN lC : Nat) (W : World) (R : List Own) (Φ : PW) (J : Value → World → Prop) : Prop :=
  ∀ (k0 : Nat) (w1 : World) (R2 : List Own), Ctx W w1 (Own.blk k0 [Value.pointer none, Value.slice none 0 0] 93 :: R ++ R2) Φ → Calls Tryz.prog F.wire_Num #[.int .i64 (↑lN : Int)] w1 fun e3 w4 => ∃ s5, e3 = .returned (.string s5) ∧ ∃ R6 Φ7, Stable Φ7 ∧ Ctx W w4 (R6 ++ R2) Φ7 ∧ ∀ w8 R9, Ctx W w8 (R6 ++ R9) Φ7 → Calls Tryz.prog F.strings_Builder_WriteString #[.pointer (some (Addr.mk k0 0 none)), .string s5] w8 fun e10 w11 => ∃ (n12 : Int) (v13 : Value), e10 = .returned (Value.tuple #[.int .i64 n12, v13]) ∧ ∃ R14 Φ15, Stable Φ15 ∧ Ctx W w11 (R14 ++ R9) Φ15 ∧ exI fun (I16 : Int → List Own → PW → Nat → Prop) => (∃ R17 Φ18 k19, Stable Φ18 ∧ Wk W R14 Φ15 R17 Φ18 ∧ I16 0 R17 Φ18 k19) ∧ ∀ n22 R23 I24 k25, Stable I24 → I16 n22 R23 I24 k25 → Br (decide (n22 < (↑lN : Int))) ((0 ≤ n22 ∧ n22 < (↑lN : Int)) ∧ ptrK none lP fun k26 k27 => ∀ w28 R29, Ctx W w28 (R23 ++ R29) I24 → ∃ n30 n31 n32 p33 k34 k35
  n36 n37 n38, RowAt w28 k26 (k27 + n22.toNat * 7) [.int .i64 n30, .int .i64 n31, .int .i64 n32, .slice p33 k34 k35, .int .i64 n36, .int .i64 n37, .int .i64 n38] ∧ ∀ (b : Nat), ∃ R39 Φ40, Stable Φ40 ∧ Wk W R23 I24 R39 Φ40 ∧ ∀ w43 R44, Ctx W w43 (R23 ++ R44) I24 → Calls Tryz.prog F.wire_Int #[.int .i64 n31] w43 fun e45 w46 => ∃ s47, e45 = .returned (.string s47) ∧ ∃ R48 Φ49, Stable Φ49 ∧ Ctx W w46 (R48 ++ R44) Φ49 ∧ Wk W R48 Φ49 R39 Φ40 ∧ ∀ w52 R53, Ctx W w52 (R48 ++ R53) Φ49 → Calls Tryz.prog F.wire_Int #[.int .i64 n32] w52 fun e54 w55 => ∃ s56, e54 = .returned (.string s56) ∧ ∃ R57 Φ58, Stable Φ58 ∧ Ctx W w55 (R57 ++ R53) Φ58 ∧ Wk W R57 Φ58 R39 Φ40 ∧ (s47.size + s56.size).le 9223372036854775807 ∧ ∀ w61 R62, Ctx W w61 (R57 ++ R62) Φ58 → Calls Tryz.prog F.value_RowBytes #[.slice p33 k34 k35] w61 fun e63 w64 => ∃ s65, e63 = .returned (.string s65) ∧ ∃ R66 Φ67, Stable Φ67 ∧ Ctx W w64 (R66 ++
  R62) Φ67 ∧ Wk W R66 Φ67 R39 Φ40 ∧ ∀ w70 R71, Ctx W w70 (R66 ++ R71) Φ67 → Calls Tryz.prog F.wire_Text #[.string s65] w70 fun e72 w73 => ∃ s74, e72 = .returned (.string s74) ∧ ∃ R75 Φ76, Stable Φ76 ∧ Ctx W w73 (R75 ++ R71) Φ76 ∧ Wk W R75 Φ76 R39 Φ40 ∧ ((s47 ++ s56).size + s74.size).le 9223372036854775807 ∧ ∀ w79 R80, Ctx W w79 (R75 ++ R80) Φ76 → Calls Tryz.prog F.wire_Int #[.int .i64 n36] w79 fun e81 w82 => ∃ s83, e81 = .returned (.string s83) ∧ ∃ R84 Φ85, Stable Φ85 ∧ Ctx W w82 (R84 ++ R80) Φ85 ∧ Wk W R84 Φ85 R39 Φ40 ∧ ((s47 ++ s56 ++ s74).size + s83.size).le 9223372036854775807 ∧ ∀ w88 R89, Ctx W w88 (R84 ++ R89) Φ85 → Calls Tryz.prog F.wire_Int #[.int .i64 n37] w88 fun e90 w91 => ∃ s92, e90 = .returned (.string s92) ∧ ∃ R93 Φ94, Stable Φ94 ∧ Ctx W w91 (R93 ++ R89) Φ94 ∧ Wk W R93 Φ94 R39 Φ40 ∧ ((s47 ++ s56 ++ s74 ++ s83).size + s92.size).le 9223372036854775807 ∧ ∀ w97 R98, Ctx W w97
  (R93 ++ R98) Φ94 → Calls Tryz.prog F.wire_Int #[.int .i64 n38] w97 fun e99 w100 => ∃ s101, e99 = .returned (.string s101) ∧ ∃ R102 Φ103, Stable Φ103 ∧ Ctx W w100 (R102 ++ R98) Φ103 ∧ Wk W R102 Φ103 R39 Φ40 ∧ ((s47 ++ s56 ++ s74 ++ s83 ++ s92).size + s101.size).le 9223372036854775807 ∧ ∀ w106 R107, Ctx W w106 (R102 ++ R107) Φ103 → Calls Tryz.prog F.strings_Builder_WriteString #[.pointer (some (Addr.mk k0 0 none)), .string (s47 ++ s56 ++ s74 ++ s83 ++ s92 ++ s101)] w106 fun e108 w109 => ∃ (n110 : Int) (v111 : Value), e108 = .returned (Value.tuple #[.int .i64 n110, v111]) ∧ ∃ R112 Φ113, Stable Φ113 ∧ Ctx W w109 (R112 ++ R107) Φ113 ∧ I64 (n22 + 1) ∧ ∃ R114 Φ115 k116, Stable Φ115 ∧ Wk W R112 Φ113 R114 Φ115 ∧ I16 (n22 + 1) R114 Φ115 k116 ∧ k116 < k25) (∀ w119 R120, Ctx W w119 (R23 ++ R120) I24 → Calls Tryz.prog F.strings_Builder_String #[.pointer (some (Addr.mk k0 0 none))] w119 fun e121 w122
  => ∃ s123, e121 = .returned (.string s123) ∧ ∃ R124 Φ125, Stable Φ125 ∧ Ctx W w122 (R124 ++ R120) Φ125 ∧ ∀ w126 R127, Ctx W w126 (R124 ++ R127) Φ125 → J (.string s123) w126)
theorem Bsink_linesBytes_run (lP : Option Addr) (lN lC : Nat) {W w : World} {R : List Own} {Φ : PW} [Stable Φ] {J : Value → World → Prop} (c : Ctx W w R Φ) (h : Bsink_linesBytes lP lN lC W R Φ J) : Calls Tryz.prog F.sink_linesBytes #[.slice lP lN lC] w fun e w' => ∃ v, e = .returned v ∧ J v w' :=
  vcFS_sound (H := { keep := some [0, 2, 3, 5, 10, 11, 12, 13], track := [5], stages := [(6, [.held [(0, true), (3, true), (7, true), (12, true), (16, true), (20, true), (1, true), (4, true), (8, true), (13, true), (17, true), (21, true), (2, false), (5, false), (6, true), (9, false), (10, false), (11, true), (14, false), (15, true), (18, false), (19, true), (22, false)], .stage [23] (some 24)])], loops := [(4, [(12, .one (.int .i64))], [])] }) (by rw [show vcFS Tryz.prog W { keep := some [0, 2, 3, 5, 10, 11, 12, 13], track := [5], stages := [(6, [.held [(0, true), (3, true), (7, true), (12, true), (16, true), (20, true), (1, true), (4, true), (8, true), (13, true), (17, true), (21, true), (2, false), (5, false), (6, true), (9, false), (10, false), (11, true), (14, false), (15, true), (18, false), (19, true), (22, false)], .stage [23] (some 24)])], loops := [(4, [(12, .one (.int .i64))], [])] } F.sink_linesBytes #[.slice lP lN lC] R Φ J = Bsink_linesBytes lP lN lC W R Φ J by kernel_rfl]; exact h) c
def Berrataref03_Same (aP : Option Addr) (aN aC : Nat) (bP : Option Addr) (bN bC : Nat) (W : World) (R : List Own) (Φ : PW) (J : Value → World → Prop) : Prop :=
  ∀ w0 R1, Ctx W w0 (R ++ R1) Φ → Calls Tryz.prog F.errataref03_CompareRows #[.slice aP aN aC, .slice bP bN bC] w0 fun e2 w3 => ∃ n4, e2 = .returned (.int .i64 n4) ∧ ∃ R5 Φ6, Stable Φ6 ∧ Ctx W w3 (R5 ++ R1) Φ6 ∧ ∀ w7 R8, Ctx W w7 (R5 ++ R8) Φ6 → J (.bool (decide (n4 = 0))) w7
theorem Berrataref03_Same_run (aP : Option Addr) (aN aC : Nat) (bP : Option Addr) (bN bC : Nat) {W w : World} {R : List Own} {Φ : PW} [Stable Φ] {J : Value → World → Prop} (c : Ctx W w R Φ) (h : Berrataref03_Same aP aN aC bP bN bC W R Φ J) : Calls Tryz.prog F.errataref03_Same #[.slice aP aN aC, .slice bP bN bC] w fun e w' => ∃ v, e = .returned v ∧ J v w' :=
  vcFS_sound (H := { keep := some [0, 1, 4] }) (by rw [show vcFS Tryz.prog W { keep := some [0, 1, 4] } F.errataref03_Same #[.slice aP aN aC, .slice bP bN bC] R Φ J = Berrataref03_Same aP aN aC bP bN bC W R Φ J by kernel_rfl]; exact h) c
def Bsink_clone (lP : Option Addr) (lN lC : Nat) (W : World) (R : List Own) (Φ : PW) (J : Value → World → Prop) : Prop :=
  ∀ w0 R1, Ctx W w0 (R ++ R1) Φ → Calls Tryz.prog F.slices_Clone_api_Line_api_Line #[.slice lP lN lC] w0 fun e2 w3 => ∃ p4 k5 k6, e2 = .returned (.slice p4 k5 k6) ∧ ∃ R7 Φ8, Stable Φ8 ∧ Ctx W w3 (R7 ++ R1) Φ8 ∧ exI fun (I9 : Int → List Own → PW → Nat → Prop) => (∃ R10 Φ11 k12, Stable Φ11 ∧ Wk W R7 Φ8 R10 Φ11 ∧ I9 0 R10 Φ11 k12) ∧ ∀ n15 R16 I17 k18, Stable I17 → I9 n15 R16 I17 k18 → Br (decide (n15 < (↑k5 : Int))) ((0 ≤ n15 ∧ n15 < (↑k5 : Int)) ∧ ptrK none p4 fun k19 k20 => ∀ w21 R22, Ctx W w21 (R16 ++ R22) I17 → ∃ n23 n24 n25 p26 k27 k28 n29 n30 n31, RowAt w21 k19 (k20 + n15.toNat * 7) [.int .i64 n23, .int .i64 n24, .int .i64 n25, .slice p26 k27 k28, .int .i64 n29, .int .i64 n30, .int .i64 n31] ∧ ∀ (b : Nat) (w32 : World) (R33 : List Own), Ctx W w32 (R16 ++ R33) I17 → Calls Tryz.prog F.slices_Clone_api_Value_api_Value #[.slice p26 k27 k28] w32 fun e34 w35 => ∃ p36 k37 k38, e34 = .returned
  (.slice p36 k37 k38) ∧ ∃ R39 Φ40, Stable Φ40 ∧ Ctx W w35 (R39 ++ R33) Φ40 ∧ (0 ≤ n15 ∧ n15 < (↑k5 : Int)) ∧ ptrK none p4 fun k41 k42 => ∀ w43 R44, Ctx W w43 (R39 ++ R44) Φ40 → CanWrite w43 k41 (k42 + n15.toNat * 7 + 3) 1 ∧ ∀ (w45 : World), w45 = w43.setCell (Addr.mk k41 (k42 + n15.toNat * 7 + 3) none) (Value.slice p36 k37 k38) → ∃ R46 Φ47, Stable Φ47 ∧ Ctx W w45 (R46 ++ R44) Φ47 ∧ I64 (n15 + 1) ∧ ∃ R48 Φ49 k50, Stable Φ49 ∧ Wk W R46 Φ47 R48 Φ49 ∧ I9 (n15 + 1) R48 Φ49 k50 ∧ k50 < k18) (∀ w53 R54, Ctx W w53 (R16 ++ R54) I17 → J (.slice p4 k5 k6) w53)
theorem Bsink_clone_run (lP : Option Addr) (lN lC : Nat) {W w : World} {R : List Own} {Φ : PW} [Stable Φ] {J : Value → World → Prop} (c : Ctx W w R Φ) (h : Bsink_clone lP lN lC W R Φ J) : Calls Tryz.prog F.sink_clone #[.slice lP lN lC] w fun e w' => ∃ v, e = .returned v ∧ J v w' :=
  vcFS_sound (H := { keep := some [0, 2, 3, 4, 5, 8, 9, 10, 11], track := [5], loops := [(3, [(10, .one (.int .i64))], [])] }) (by rw [show vcFS Tryz.prog W { keep := some [0, 2, 3, 4, 5, 8, 9, 10, 11], track := [5], loops := [(3, [(10, .one (.int .i64))], [])] } F.sink_clone #[.slice lP lN lC] R Φ J = Bsink_clone lP lN lC W R Φ J by kernel_rfl]; exact h) c
def Bsink_Sink_look (sB sO : Nat) (batch : Int) (linesP : Option Addr) (linesN linesC : Nat) (W : World) (R : List Own) (Φ : PW) (J : Value → World → Prop) : Prop :=
  Br (decide (batch < 1)) (∀ w0 R1, Ctx W w0 (R ++ R1) Φ → J (.int .i64 25) w0) (∀ w2 R3, Ctx W w2 (R ++ R3) Φ → Calls Tryz.prog F.sink_Sink_Last #[.pointer (some (Addr.mk sB sO none))] w2 fun e4 w5 => ∃ n6, e4 = .returned (.int .i64 n6) ∧ ∃ R7 Φ8, Stable Φ8 ∧ Ctx W w5 (R7 ++ R3) Φ8 ∧ Br (decide (batch ≤ n6)) (∀ w9 R10, Ctx W w9 (R7 ++ R10) Φ8 → J (.int .i64 25) w9) (exI fun (I11 : Int → List Own → PW → Nat → Prop) => (∃ R12 Φ13 k14, Stable Φ13 ∧ Wk W R7 Φ8 R12 Φ13 ∧ I11 0 R12 Φ13 k14) ∧ ∀ n17 R18 I19 k20, Stable I19 → I11 n17 R18 I19 k20 → Br (decide (n17 < (↑linesN : Int))) ((0 ≤ n17 ∧ n17 < (↑linesN : Int)) ∧ ptrK none linesP fun k21 k22 => ∀ w23 R24, Ctx W w23 (R18 ++ R24) I19 → ∃ n25 n26 n27 p28 k29 k30 n31 n32 n33, RowAt w23 k21 (k22 + n17.toNat * 7) [.int .i64 n25, .int .i64 n26, .int .i64 n27, .slice p28 k29 k30, .int .i64 n31, .int .i64 n32, .int .i64 n33] ∧ ∀ (k34 : Nat) (w35 :
  World) (R36 : List Own), Ctx W w35 (Own.blk k34 [.int .i64 0, .int .i64 0, .int .i64 0, .slice none 0 0, .int .i64 0, .int .i64 0, .int .i64 0] 51 :: R18 ++ R36) I19 → CanWrite w35 k34 0 7 ∧ ∀ (w37 : World), w37 = w35.setCells k34 0 [.int .i64 n25, .int .i64 n26, .int .i64 n27, .slice p28 k29 k30, .int .i64 n31, .int .i64 n32, .int .i64 n33] → ∃ R38 Φ39, Stable Φ39 ∧ Ctx W w37 (R38 ++ R36) Φ39 ∧ ∀ w40 R41, Ctx W w40 (R38 ++ R41) Φ39 → ∃ p42 k43 k44, w40.cell? (Addr.mk sB (sO + 1) none) = some (.slice p42 k43 k44) ∧ ∀ w45 R46, Ctx W w45 (R38 ++ R46) Φ39 → Calls Tryz.prog F.slices_ContainsFunc_int_int #[.slice p42 k43 k44, Value.func (Fn.func 89) #[] #[.pointer (some (Addr.mk k34 0 none))]] w45 fun e47 w48 => ∃ c49, e47 = .returned (.bool c49) ∧ ∃ R50 Φ51, Stable Φ51 ∧ Ctx W w48 (R50 ++ R46) Φ51 ∧ ∀ w52 R53, Ctx W w52 (R50 ++ R53) Φ51 → ∃ n54, w52.cell? (Addr.mk k34 1 none) = some (.int
  .i64 n54) ∧ Br (decide (n54 ≠ batch)) (∀ w55 R56, Ctx W w55 (R50 ++ R56) Φ51 → J (.int .i64 1) w55) (∀ w57 R58, Ctx W w57 (R50 ++ R58) Φ51 → ∃ n59, w57.cell? (Addr.mk k34 4 none) = some (.int .i64 n59) ∧ Br (decide (n59 = 0)) (∀ w60 R61, Ctx W w60 (R50 ++ R61) Φ51 → J (.int .i64 1) w60) (∀ w62 R63, Ctx W w62 (R50 ++ R63) Φ51 → ∃ p64 k65 k66, w62.cell? (Addr.mk k34 3 none) = some (.slice p64 k65 k66) ∧ ∀ w67 R68, Ctx W w67 (R50 ++ R68) Φ51 → Calls Tryz.prog F.value_RightRow #[.slice p64 k65 k66] w67 fun e69 w70 => ∃ c71, e69 = .returned (.bool c71) ∧ ∃ R72 Φ73, Stable Φ73 ∧ Ctx W w70 (R72 ++ R68) Φ73 ∧ Br (!c71) (∀ w74 R75, Ctx W w74 (R72 ++ R75) Φ73 → J (.int .i64 1) w74) (Br c49 (∀ w76 R77, Ctx W w76 (R72 ++ R77) Φ73 → J (.int .i64 1) w76) (I64 (n17 + 1) ∧ ∃ R78 Φ79 k80, Stable Φ79 ∧ Wk W R72 Φ73 R78 Φ79 ∧ I11 (n17 + 1) R78 Φ79 k80 ∧ k80 < k20))))) (exI fun (I83 : Int → List Own → PW →
  Nat → Prop) => (∃ R84 Φ85 k86, Stable Φ85 ∧ Wk W R18 I19 R84 Φ85 ∧ I83 0 R84 Φ85 k86) ∧ ∀ n89 R90 I91 k92, Stable I91 → I83 n89 R90 I91 k92 → Br (decide (n89 < (↑linesN : Int))) ((0 ≤ n89 ∧ n89 < (↑linesN : Int)) ∧ ptrK none linesP fun k93 k94 => ∀ w95 R96, Ctx W w95 (R90 ++ R96) I91 → ∃ n97 n98 n99 p100 k101 k102 n103 n104 n105, RowAt w95 k93 (k94 + n89.toNat * 7) [.int .i64 n97, .int .i64 n98, .int .i64 n99, .slice p100 k101 k102, .int .i64 n103, .int .i64 n104, .int .i64 n105] ∧ ∀ (b : Nat) (w106 : World) (R107 : List Own), Ctx W w106 (R90 ++ R107) I91 → ∃ p108 k109 k110, w106.cell? (Addr.mk sB (sO + 3) none) = some (.slice p108 k109 k110) ∧ I64 ((↑k109 : Int) + 1) ∧ I64 ((↑k109 : Int) + 1 + n89) ∧ Br (decide (n97 ≠ (↑k109 : Int) + 1 + n89)) (∀ w111 R112, Ctx W w111 (R90 ++ R112) I91 → J (.int .i64 25) w111) (I64 (n89 + 1) ∧ ∃ R113 Φ114 k115, Stable Φ114 ∧ Wk W R90 I91 R113 Φ114 ∧
  I83 (n89 + 1) R113 Φ114 k115 ∧ k115 < k92)) (∀ w118 R119, Ctx W w118 (R90 ++ R119) I91 → J (.int .i64 0) w118))))
theorem Bsink_Sink_look_run (sB sO : Nat) (batch : Int) (linesP : Option Addr) (linesN linesC : Nat) {W w : World} {R : List Own} {Φ : PW} [Stable Φ] {J : Value → World → Prop} (c : Ctx W w R Φ) (h : Bsink_Sink_look sB sO batch linesP linesN linesC W R Φ J) : Calls Tryz.prog F.sink_Sink_look #[.pointer (some ⟨sB, sO, none⟩), .int .i64 batch, .slice linesP linesN linesC] w fun e w' => ∃ v, e = .returned v ∧ J v w' :=
  vcFS_sound (H := { keep := some [0, 1, 2, 6, 8, 9, 10, 11, 19, 20, 21, 22, 23, 49, 51, 52, 53, 54, 68], track := [11], split := [1, 7], loops := [(11, [(53, .one (.int .i64))], []), (4, [(22, .one (.int .i64))], [])] }) (by rw [show vcFS Tryz.prog W { keep := some [0, 1, 2, 6, 8, 9, 10, 11, 19, 20, 21, 22, 23, 49, 51, 52, 53, 54, 68], track := [11], split := [1, 7], loops := [(11, [(53, .one (.int .i64))], []), (4, [(22, .one (.int .i64))], [])] } F.sink_Sink_look #[.pointer (some ⟨sB, sO, none⟩), .int .i64 batch, .slice linesP linesN linesC] R Φ J = Bsink_Sink_look sB sO batch linesP linesN linesC W R Φ J by kernel_rfl]; exact h) c
def Bsink_Sink_take (sB sO : Nat) (batch : Int) (linesP : Option Addr) (linesN linesC : Nat) (W : World) (R : List Own) (Φ : PW) (J : Value → World → Prop) : Prop :=
  ∀ w0 R1, Ctx W w0 (R ++ R1) Φ → ∃ p2 k3 k4, w0.cell? (Addr.mk sB (sO + 2) none) = some (.slice p2 k3 k4) ∧ ∀ (k5 : Nat) (w6 : World) (R7 : List Own), Ctx W w6 (Own.blk k5 [.int .i64 batch] 3 :: R ++ R7) Φ → ∃ (p8 : Option Addr) (k9 k10 : Nat) (w11 : World), Sem.run Tryz.prog (builtin Builtin.append #[22, 22] 22 #[false, false] #[.slice p2 k3 k4, .slice (some (Addr.mk k5 0 none)) 1 1]) w6 = .ok (.value (.slice p8 k9 k10)) w11 ∧ ∃ R12 Φ13, Stable Φ13 ∧ Ctx W w11 (R12 ++ R7) Φ13 ∧ ∀ w14 R15, Ctx W w14 (R12 ++ R15) Φ13 → CanWrite w14 sB (sO + 2) 1 ∧ ∀ (w16 : World), w16 = w14.setCell (Addr.mk sB (sO + 2) none) (Value.slice p8 k9 k10) → ∃ R17 Φ18, Stable Φ18 ∧ Ctx W w16 (R17 ++ R15) Φ18 ∧ ∀ w19 R20, Ctx W w19 (R17 ++ R20) Φ18 → ∃ p21 k22 k23, w19.cell? (Addr.mk sB (sO + 3) none) = some (.slice p21 k22 k23) ∧ ∀ w24 R25, Ctx W w24 (R17 ++ R25) Φ18 → ∃ (p26 : Option Addr) (k27 k28 : Nat) (w29 :
  World), Sem.run Tryz.prog (builtin Builtin.append #[33, 33] 33 #[false, false] #[.slice p21 k22 k23, .slice linesP linesN linesC]) w24 = .ok (.value (.slice p26 k27 k28)) w29 ∧ ∃ R30 Φ31, Stable Φ31 ∧ Ctx W w29 (R30 ++ R25) Φ31 ∧ ∀ w32 R33, Ctx W w32 (R30 ++ R33) Φ31 → CanWrite w32 sB (sO + 3) 1 ∧ ∀ (w34 : World), w34 = w32.setCell (Addr.mk sB (sO + 3) none) (Value.slice p26 k27 k28) → ∃ R35 Φ36, Stable Φ36 ∧ Ctx W w34 (R35 ++ R33) Φ36 ∧ ∀ w37 R38, Ctx W w37 (R35 ++ R38) Φ36 → J (Value.tuple #[]) w37
theorem Bsink_Sink_take_run (sB sO : Nat) (batch : Int) (linesP : Option Addr) (linesN linesC : Nat) {W w : World} {R : List Own} {Φ : PW} [Stable Φ] {J : Value → World → Prop} (c : Ctx W w R Φ) (h : Bsink_Sink_take sB sO batch linesP linesN linesC W R Φ J) : Calls Tryz.prog F.sink_Sink_take #[.pointer (some ⟨sB, sO, none⟩), .int .i64 batch, .slice linesP linesN linesC] w fun e w' => ∃ v, e = .returned v ∧ J v w' :=
  vcFS_sound (H := { keep := some [0, 2] }) (by rw [show vcFS Tryz.prog W { keep := some [0, 2] } F.sink_Sink_take #[.pointer (some ⟨sB, sO, none⟩), .int .i64 batch, .slice linesP linesN linesC] R Φ J = Bsink_Sink_take sB sO batch linesP linesN linesC W R Φ J by kernel_rfl]; exact h) c
def Bslices_Clone_api_Line_api_Line (sP : Option Addr) (sN sC : Nat) (W : World) (R : List Own) (Φ : PW) (J : Value → World → Prop) : Prop :=
  Br sP.isNone (∀ w0 R1, Ctx W w0 (R ++ R1) Φ → J (.slice none 0 0) w0) (∀ (k2 : Nat) (w3 : World) (R4 : List Own), Ctx W w3 (Own.blk k2 [] 51 :: R ++ R4) Φ → ∃ (p5 : Option Addr) (k6 k7 : Nat) (w8 : World), Sem.run Tryz.prog (builtin Builtin.append #[33, 33] 33 #[false, false] #[.slice (some (Addr.mk k2 0 none)) 0 0, .slice sP sN sC]) w3 = .ok (.value (.slice p5 k6 k7)) w8 ∧ ∃ R9 Φ10, Stable Φ10 ∧ Ctx W w8 (R9 ++ R4) Φ10 ∧ ∀ w11 R12, Ctx W w11 (R9 ++ R12) Φ10 → J (.slice p5 k6 k7) w11)
theorem Bslices_Clone_api_Line_api_Line_run (sP : Option Addr) (sN sC : Nat) {W w : World} {R : List Own} {Φ : PW} [Stable Φ] {J : Value → World → Prop} (c : Ctx W w R Φ) (h : Bslices_Clone_api_Line_api_Line sP sN sC W R Φ J) : Calls Tryz.prog F.slices_Clone_api_Line_api_Line #[.slice sP sN sC] w fun e w' => ∃ v, e = .returned v ∧ J v w' :=
  vcFS_sound (H := { keep := some [0, 2, 4] }) (by rw [show vcFS Tryz.prog W { keep := some [0, 2, 4] } F.slices_Clone_api_Line_api_Line #[.slice sP sN sC] R Φ J = Bslices_Clone_api_Line_api_Line sP sN sC W R Φ J by kernel_rfl]; exact h) c
def Bsink_readLines (rB rO : Nat) (W : World) (R : List Own) (Φ : PW) (J : Value → World → Prop) : Prop :=
  ∀ w0 R1, Ctx W w0 (R ++ R1) Φ → Calls Tryz.prog F.wire_Reader_Num #[.pointer (some (Addr.mk rB rO none))] w0 fun e2 w3 => ∃ n4, e2 = .returned (.int .i64 n4) ∧ ∃ R5 Φ6, Stable Φ6 ∧ Ctx W w3 (R5 ++ R1) Φ6 ∧ exI fun (I7 : Option Addr → Nat → Nat → List Own → PW → Nat → Prop) => (∃ R8 Φ9 k10, Stable Φ9 ∧ Wk W R5 Φ6 R8 Φ9 ∧ I7 none 0 0 R8 Φ9 k10) ∧ ∀ p13 k14 k15 R16 I17 k18, Stable I17 → I7 p13 k14 k15 R16 I17 k18 → Br (decide ((↑k14 : Int) < n4)) (I64 ((↑k14 : Int) + 1) ∧ ∀ w19 R20, Ctx W w19 (R16 ++ R20) I17 → Calls Tryz.prog F.wire_Reader_Int #[.pointer (some (Addr.mk rB rO none))] w19 fun e21 w22 => ∃ n23, e21 = .returned (.int .i64 n23) ∧ ∃ R24 Φ25, Stable Φ25 ∧ Ctx W w22 (R24 ++ R20) Φ25 ∧ ∀ w26 R27, Ctx W w26 (R24 ++ R27) Φ25 → Calls Tryz.prog F.wire_Reader_Int #[.pointer (some (Addr.mk rB rO none))] w26 fun e28 w29 => ∃ n30, e28 = .returned (.int .i64 n30) ∧ ∃ R31 Φ32, Stable Φ32 ∧
  Ctx W w29 (R31 ++ R27) Φ32 ∧ ∀ (b : Nat) (w33 : World) (R34 : List Own), Ctx W w33 (R31 ++ R34) Φ32 → Calls Tryz.prog F.wire_Reader_Text #[.pointer (some (Addr.mk rB rO none))] w33 fun e35 w36 => ∃ s37, e35 = .returned (.string s37) ∧ ∃ R38 Φ39, Stable Φ39 ∧ Ctx W w36 (R38 ++ R34) Φ39 ∧ ∀ w40 R41, Ctx W w40 (R38 ++ R41) Φ39 → Calls Tryz.prog F.value_ReadRow #[.string s37] w40 fun e42 w43 => ∃ p44 k45 k46 c47, e42 = .returned (Value.tuple #[.slice p44 k45 k46, .bool c47]) ∧ ∃ R48 Φ49, Stable Φ49 ∧ Ctx W w43 (R48 ++ R41) Φ49 ∧ Br (!c47) (∀ w50 R51, Ctx W w50 (R48 ++ R51) Φ49 → J (Value.tuple #[.slice none 0 0, .bool false]) w50) (∀ w52 R53, Ctx W w52 (R48 ++ R53) Φ49 → Calls Tryz.prog F.wire_Reader_Int #[.pointer (some (Addr.mk rB rO none))] w52 fun e54 w55 => ∃ n56, e54 = .returned (.int .i64 n56) ∧ ∃ R57 Φ58, Stable Φ58 ∧ Ctx W w55 (R57 ++ R53) Φ58 ∧ ∀ w59 R60, Ctx W w59 (R57 ++ R60)
  Φ58 → Calls Tryz.prog F.wire_Reader_Int #[.pointer (some (Addr.mk rB rO none))] w59 fun e61 w62 => ∃ n63, e61 = .returned (.int .i64 n63) ∧ ∃ R64 Φ65, Stable Φ65 ∧ Ctx W w62 (R64 ++ R60) Φ65 ∧ ∀ w66 R67, Ctx W w66 (R64 ++ R67) Φ65 → Calls Tryz.prog F.wire_Reader_Int #[.pointer (some (Addr.mk rB rO none))] w66 fun e68 w69 => ∃ n70, e68 = .returned (.int .i64 n70) ∧ ∃ R71 Φ72, Stable Φ72 ∧ Ctx W w69 (R71 ++ R67) Φ72 ∧ ∀ (k73 : Nat) (w74 : World) (R75 : List Own), Ctx W w74 (Own.blk k73 [.int .i64 ((↑k14 : Int) + 1), .int .i64 n23, .int .i64 n30, .slice p44 k45 k46, .int .i64 n56, .int .i64 n63, .int .i64 n70] 51 :: R71 ++ R75) Φ72 → ∃ (p76 : Option Addr) (k77 k78 : Nat) (w79 : World), Sem.run Tryz.prog (builtin Builtin.append #[33, 33] 33 #[false, false] #[.slice p13 k14 k15, .slice (some (Addr.mk k73 0 none)) 1 1]) w74 = .ok (.value (.slice p76 k77 k78)) w79 ∧ ∃ R80 Φ81, Stable Φ81 ∧ Ctx
  W w79 (R80 ++ R75) Φ81 ∧ ∃ R82 Φ83 k84, Stable Φ83 ∧ Wk W R80 Φ81 R82 Φ83 ∧ I7 p76 k77 k78 R82 Φ83 k84 ∧ k84 < k18)) (∀ w87 R88, Ctx W w87 (R16 ++ R88) I17 → J (Value.tuple #[.slice p13 k14 k15, .bool true]) w87)
theorem Bsink_readLines_run (rB rO : Nat) {W w : World} {R : List Own} {Φ : PW} [Stable Φ] {J : Value → World → Prop} (c : Ctx W w R Φ) (h : Bsink_readLines rB rO W R Φ J) : Calls Tryz.prog F.sink_readLines #[.pointer (some ⟨rB, rO, none⟩)] w fun e w' => ∃ v, e = .returned v ∧ J v w' :=
  vcFS_sound (H := { keep := some [0, 2, 3, 4, 5, 6, 7, 8, 14, 30], track := [6], loops := [(3, [(4, .one (.slice))], [])] }) (by rw [show vcFS Tryz.prog W { keep := some [0, 2, 3, 4, 5, 6, 7, 8, 14, 30], track := [6], loops := [(3, [(4, .one (.slice))], [])] } F.sink_readLines #[.pointer (some ⟨rB, rO, none⟩)] R Φ J = Bsink_readLines rB rO W R Φ J by kernel_rfl]; exact h) c
def Bcmp_Less_int (x : Int) (y : Int) (W : World) (R : List Own) (Φ : PW) (J : Value → World → Prop) : Prop :=
  ∀ w0 R1, Ctx W w0 (R ++ R1) Φ → ∃ (c2 : Bool), (∀ (w3 : World), w3 = w0 → Calls Tryz.prog F.cmp_isNaN_int #[.int .i64 x] w3 fun e4 w5 => e4 = .returned (.bool c2) ∧ w5 = w0) ∧ ∃ (c6 : Bool), (c2 = true → ∀ (w7 : World), w7 = w0 → Calls Tryz.prog F.cmp_isNaN_int #[.int .i64 y] w7 fun e8 w9 => e8 = .returned (.bool c6) ∧ w9 = w0) ∧ ∀ w10 R11, Ctx W w10 (R ++ R11) Φ → J (.bool (c2 && !c6 || decide (x < y))) w10
theorem Bcmp_Less_int_run (x : Int) (y : Int) {W w : World} {R : List Own} {Φ : PW} [Stable Φ] {J : Value → World → Prop} (c : Ctx W w R Φ) (h : Bcmp_Less_int x y W R Φ J) : Calls Tryz.prog F.cmp_Less_int #[.int .i64 x, .int .i64 y] w fun e w' => ∃ v, e = .returned v ∧ J v w' :=
  vcFS_sound (H := { keep := some [0, 1, 4] }) (by rw [show vcFS Tryz.prog W { keep := some [0, 1, 4] } F.cmp_Less_int #[.int .i64 x, .int .i64 y] R Φ J = Bcmp_Less_int x y W R Φ J by kernel_rfl]; exact h) c
def Berrataref03_CompareRows (aP : Option Addr) (aN aC : Nat) (bP : Option Addr) (bN bC : Nat) (W : World) (R : List Own) (Φ : PW) (J : Value → World → Prop) : Prop :=
  exI fun (I0 : Int → List Own → PW → Nat → Prop) => (∃ R1 Φ2 k3, Stable Φ2 ∧ Wk W R Φ R1 Φ2 ∧ I0 0 R1 Φ2 k3) ∧ ∀ n6 R7 I8 k9, Stable I8 → I0 n6 R7 I8 k9 → ∀ w10 R11, Ctx W w10 (R7 ++ R11) I8 → Br (decide (n6 < (↑aN : Int)) && decide (n6 < (↑bN : Int))) (∃ R12 Φ13, Stable Φ13 ∧ Wk W R7 I8 R12 Φ13 ∧ (0 ≤ n6 ∧ n6 < (↑aN : Int)) ∧ ptrK none aP fun k16 k17 => (0 ≤ n6 ∧ n6 < (↑bN : Int)) ∧ ptrK none bP fun k18 k19 => ∃ (n20 n21 : Int) (s22 : ByteArray), (∀ w23 R24, Ctx W w23 (R12 ++ R24) Φ13 → ∃ n25 n26 s27, RowAt w23 k16 (k17 + n6.toNat * 3) [.int .i64 n25, .int .i64 n26, .string s27] ∧ Value.agg #[.int .i64 n25, .int .i64 n26, .string s27] = Value.agg #[.int .i64 n20, .int .i64 n21, .string s22]) ∧ ∃ (n28 n29 : Int) (s30 : ByteArray), (∀ w31 R32, Ctx W w31 (R12 ++ R32) Φ13 → ∃ n33 n34 s35, RowAt w31 k18 (k19 + n6.toNat * 3) [.int .i64 n33, .int .i64 n34, .string s35] ∧ Value.agg #[.int .i64
  n33, .int .i64 n34, .string s35] = Value.agg #[.int .i64 n28, .int .i64 n29, .string s30]) ∧ ∀ w36 R37, Ctx W w36 (R7 ++ R37) I8 → Calls Tryz.prog F.errataref03_Compare #[Value.agg #[.int .i64 n20, .int .i64 n21, .string s22], Value.agg #[.int .i64 n28, .int .i64 n29, .string s30]] w36 fun e38 w39 => ∃ n40, e38 = .returned (.int .i64 n40) ∧ ∃ R41 Φ42, Stable Φ42 ∧ Ctx W w39 (R41 ++ R37) Φ42 ∧ Br (decide (n40 ≠ 0)) (∀ w43 R44, Ctx W w43 (R41 ++ R44) Φ42 → J (.int .i64 n40) w43) (I64 (n6 + 1) ∧ ∃ R45 Φ46 k47, Stable Φ46 ∧ Wk W R41 Φ42 R45 Φ46 ∧ I0 (n6 + 1) R45 Φ46 k47 ∧ k47 < k9)) (Br (decide ((↑aN : Int) < (↑bN : Int))) (∀ w50 R51, Ctx W w50 (R7 ++ R51) I8 → J (.int .i64 (-1)) w50) (Br (decide ((↑bN : Int) < (↑aN : Int))) (∀ w52 R53, Ctx W w52 (R7 ++ R53) I8 → J (.int .i64 1) w52) (∀ w54 R55, Ctx W w54 (R7 ++ R55) I8 → J (.int .i64 0) w54)))
theorem Berrataref03_CompareRows_run (aP : Option Addr) (aN aC : Nat) (bP : Option Addr) (bN bC : Nat) {W w : World} {R : List Own} {Φ : PW} [Stable Φ] {J : Value → World → Prop} (c : Ctx W w R Φ) (h : Berrataref03_CompareRows aP aN aC bP bN bC W R Φ J) : Calls Tryz.prog F.errataref03_CompareRows #[.slice aP aN aC, .slice bP bN bC] w fun e w' => ∃ v, e = .returned v ∧ J v w' :=
  vcFS_sound (H := { keep := some [0, 1, 4, 5, 6, 16, 29, 35, 40], stages := [(4, [.held [(0, true), (1, true), (4, true), (5, true), (2, true), (6, true), (3, true), (7, true)], .stage [] (some 8), .stage [9] none])], loops := [(2, [(5, .one (.int .i64))], [])] }) (by rw [show vcFS Tryz.prog W { keep := some [0, 1, 4, 5, 6, 16, 29, 35, 40], stages := [(4, [.held [(0, true), (1, true), (4, true), (5, true), (2, true), (6, true), (3, true), (7, true)], .stage [] (some 8), .stage [9] none])], loops := [(2, [(5, .one (.int .i64))], [])] } F.errataref03_CompareRows #[.slice aP aN aC, .slice bP bN bC] R Φ J = Berrataref03_CompareRows aP aN aC bP bN bC W R Φ J by kernel_rfl]; exact h) c
def Bslices_ContainsFunc_int_int (sP : Option Addr) (sN sC : Nat) (fF : FuncId) (fC : Array Value) (W : World) (R : List Own) (Φ : PW) (J : Value → World → Prop) : Prop :=
  ∀ w0 R1, Ctx W w0 (R ++ R1) Φ → Calls Tryz.prog F.slices_IndexFunc_int_int #[.slice sP sN sC, Value.func (Fn.func fF) #[] fC] w0 fun e2 w3 => ∃ n4, e2 = .returned (.int .i64 n4) ∧ ∃ R5 Φ6, Stable Φ6 ∧ Ctx W w3 (R5 ++ R1) Φ6 ∧ ∀ w7 R8, Ctx W w7 (R5 ++ R8) Φ6 → J (.bool (decide (0 ≤ n4))) w7
theorem Bslices_ContainsFunc_int_int_run (sP : Option Addr) (sN sC : Nat) (fF : FuncId) (fC : Array Value) {W w : World} {R : List Own} {Φ : PW} [Stable Φ] {J : Value → World → Prop} (c : Ctx W w R Φ) (h : Bslices_ContainsFunc_int_int sP sN sC fF fC W R Φ J) : Calls Tryz.prog F.slices_ContainsFunc_int_int #[.slice sP sN sC, .func (.func fF) #[] fC] w fun e w' => ∃ v, e = .returned v ∧ J v w' :=
  vcFS_sound (H := { keep := some [0, 1, 4] }) (by rw [show vcFS Tryz.prog W { keep := some [0, 1, 4] } F.slices_ContainsFunc_int_int #[.slice sP sN sC, .func (.func fF) #[] fC] R Φ J = Bslices_ContainsFunc_int_int sP sN sC fF fC W R Φ J by kernel_rfl]; exact h) c
def Bsink_Sink_look_1 (k : Int) (kB kO : Nat) (W : World) (R : List Own) (Φ : PW) (J : Value → World → Prop) : Prop :=
  ∀ w0 R1, Ctx W w0 (R ++ R1) Φ → ∃ p2 k3 k4, w0.cell? (Addr.mk kB (kO + 3) none) = some (.slice p2 k3 k4) ∧ ∀ w5 R6, Ctx W w5 (R ++ R6) Φ → J (.bool (decide ((↑k3 : Int) ≤ k))) w5
theorem Bsink_Sink_look_1_run (k : Int) (kB kO : Nat) {W w : World} {R : List Own} {Φ : PW} [Stable Φ] {J : Value → World → Prop} (c : Ctx W w R Φ) (h : Bsink_Sink_look_1 k kB kO W R Φ J) : Calls Tryz.prog F.sink_Sink_look_1 #[.int .i64 k, .pointer (some ⟨kB, kO, none⟩)] w fun e w' => ∃ v, e = .returned v ∧ J v w' :=
  vcFS_sound (H := { keep := some [0, 1, 3] }) (by rw [show vcFS Tryz.prog W { keep := some [0, 1, 3] } F.sink_Sink_look_1 #[.int .i64 k, .pointer (some ⟨kB, kO, none⟩)] R Φ J = Bsink_Sink_look_1 k kB kO W R Φ J by kernel_rfl]; exact h) c
def Bvalue_RightRow (rP : Option Addr) (rN rC : Nat) (W : World) (R : List Own) (Φ : PW) (J : Value → World → Prop) : Prop :=
  Br (decide ((↑rN : Int) ≤ 12)) (∀ w0 R1, Ctx W w0 (R ++ R1) Φ → Calls Tryz.prog F.value_all #[.slice rP rN rC] w0 fun e2 w3 => ∃ c4, e2 = .returned (.bool c4) ∧ ∃ R5 Φ6, Stable Φ6 ∧ Ctx W w3 (R5 ++ R1) Φ6 ∧ ∀ w7 R8, Ctx W w7 (R5 ++ R8) Φ6 → J (.bool c4) w7) (∀ w9 R10, Ctx W w9 (R ++ R10) Φ → J (.bool false) w9)
theorem Bvalue_RightRow_run (rP : Option Addr) (rN rC : Nat) {W w : World} {R : List Own} {Φ : PW} [Stable Φ] {J : Value → World → Prop} (c : Ctx W w R Φ) (h : Bvalue_RightRow rP rN rC W R Φ J) : Calls Tryz.prog F.value_RightRow #[.slice rP rN rC] w fun e w' => ∃ v, e = .returned v ∧ J v w' :=
  vcFS_sound (H := { keep := some [0, 2], split := [1] }) (by rw [show vcFS Tryz.prog W { keep := some [0, 2], split := [1] } F.value_RightRow #[.slice rP rN rC] R Φ J = Bvalue_RightRow rP rN rC W R Φ J by kernel_rfl]; exact h) c
def Berrataref03_Compare (a0 : Int) (a1 : Int) (a2 : ByteArray) (b0 : Int) (b1 : Int) (b2 : ByteArray) (W : World) (R : List Own) (Φ : PW) (J : Value → World → Prop) : Prop :=
  ∀ (b b : Nat), Br (decide (a0 < b0)) (∀ w0 R1, Ctx W w0 (R ++ R1) Φ → J (.int .i64 (-1)) w0) (Br (decide (b0 < a0)) (∀ w2 R3, Ctx W w2 (R ++ R3) Φ → J (.int .i64 1) w2) (Br (decide (a1 < b1)) (∀ w4 R5, Ctx W w4 (R ++ R5) Φ → J (.int .i64 (-1)) w4) (Br (decide (b1 < a1)) (∀ w6 R7, Ctx W w6 (R ++ R7) Φ → J (.int .i64 1) w6) (Br (Op.bytesLess (ByteArray.toList.loop a2 0 []) (ByteArray.toList.loop b2 0 [])) (∀ w8 R9, Ctx W w8 (R ++ R9) Φ → J (.int .i64 (-1)) w8) (∃ (c10 : Bool), (∀ (w11 : World), Sem.run Tryz.prog (binOp BinOp.gtr 9 (Value.string a2) (Value.string b2)) w11 = Result.ok (Value.bool c10) w11) ∧ Br c10 (∀ w12 R13, Ctx W w12 (R ++ R13) Φ → J (.int .i64 1) w12) (∀ w14 R15, Ctx W w14 (R ++ R15) Φ → J (.int .i64 0) w14))))))
theorem Berrataref03_Compare_run (a0 : Int) (a1 : Int) (a2 : ByteArray) (b0 : Int) (b1 : Int) (b2 : ByteArray) {W w : World} {R : List Own} {Φ : PW} [Stable Φ] {J : Value → World → Prop} (c : Ctx W w R Φ) (h : Berrataref03_Compare a0 a1 a2 b0 b1 b2 W R Φ J) : Calls Tryz.prog F.errataref03_Compare #[.agg #[.int .i64 a0, .int .i64 a1, .string a2], .agg #[.int .i64 b0, .int .i64 b1, .string b2]] w fun e w' => ∃ v, e = .returned v ∧ J v w' :=
  vcFS_sound (H := { keep := some [2, 3, 4, 9, 14, 19, 24, 29, 34], track := [2, 3] }) (by rw [show vcFS Tryz.prog W { keep := some [2, 3, 4, 9, 14, 19, 24, 29, 34], track := [2, 3] } F.errataref03_Compare #[.agg #[.int .i64 a0, .int .i64 a1, .string a2], .agg #[.int .i64 b0, .int .i64 b1, .string b2]] R Φ J = Berrataref03_Compare a0 a1 a2 b0 b1 b2 W R Φ J by kernel_rfl]; exact h) c
def Bslices_IndexFunc_int_int (sP : Option Addr) (sN sC : Nat) (fF : FuncId) (fC : Array Value) (W : World) (R : List Own) (Φ : PW) (J : Value → World → Prop) : Prop :=
  exI fun (I0 : Int → List Own → PW → Nat → Prop) => (∃ R1 Φ2 k3, Stable Φ2 ∧ Wk W R Φ R1 Φ2 ∧ I0 0 R1 Φ2 k3) ∧ ∀ n6 R7 I8 k9, Stable I8 → I0 n6 R7 I8 k9 → Br (decide (n6 < (↑sN : Int))) ((0 ≤ n6 ∧ n6 < (↑sN : Int)) ∧ ptrK none sP fun k10 k11 => ∀ w12 R13, Ctx W w12 (R7 ++ R13) I8 → ∃ n14, w12.cell? (Addr.mk k10 (k11 + n6.toNat) none) = some (.int .i64 n14) ∧ ∀ w15 R16, Ctx W w15 (R7 ++ R16) I8 → okFun Tryz.prog fF = true ∧ Calls Tryz.prog fF (Array.mk (Value.int IntKind.i64 n14 :: fC.toList)) w15 fun e17 w18 => ∃ c19, e17 = .returned (.bool c19) ∧ ∃ R20 Φ21, Stable Φ21 ∧ Ctx W w18 (R20 ++ R16) Φ21 ∧ Br c19 (∀ w22 R23, Ctx W w22 (R20 ++ R23) Φ21 → J (.int .i64 n6) w22) (I64 (n6 + 1) ∧ ∃ R24 Φ25 k26, Stable Φ25 ∧ Wk W R20 Φ21 R24 Φ25 ∧ I0 (n6 + 1) R24 Φ25 k26 ∧ k26 < k9)) (∀ w29 R30, Ctx W w29 (R7 ++ R30) I8 → J (.int .i64 (-1)) w29)
theorem Bslices_IndexFunc_int_int_run (sP : Option Addr) (sN sC : Nat) (fF : FuncId) (fC : Array Value) {W w : World} {R : List Own} {Φ : PW} [Stable Φ] {J : Value → World → Prop} (c : Ctx W w R Φ) (h : Bslices_IndexFunc_int_int sP sN sC fF fC W R Φ J) : Calls Tryz.prog F.slices_IndexFunc_int_int #[.slice sP sN sC, .func (.func fF) #[] fC] w fun e w' => ∃ v, e = .returned v ∧ J v w' :=
  vcFS_sound (H := { keep := some [0, 1, 4, 5, 7, 8, 9, 16], wrap := [16], loops := [(2, [(8, .one (.int .i64))], [])] }) (by rw [show vcFS Tryz.prog W { keep := some [0, 1, 4, 5, 7, 8, 9, 16], wrap := [16], loops := [(2, [(8, .one (.int .i64))], [])] } F.slices_IndexFunc_int_int #[.slice sP sN sC, .func (.func fF) #[] fC] R Φ J = Bslices_IndexFunc_int_int sP sN sC fF fC W R Φ J by kernel_rfl]; exact h) c
def Bvalue_all (rP : Option Addr) (rN rC : Nat) (W : World) (R : List Own) (Φ : PW) (J : Value → World → Prop) : Prop :=
  ∀ w0 R1, Ctx W w0 (R ++ R1) Φ → Calls Tryz.prog F.slices_ContainsFunc_api_Value_api_Value #[.slice rP rN rC, Value.func (Fn.func 122) #[] #[]] w0 fun e2 w3 => ∃ c4, e2 = .returned (.bool c4) ∧ ∃ R5 Φ6, Stable Φ6 ∧ Ctx W w3 (R5 ++ R1) Φ6 ∧ ∀ w7 R8, Ctx W w7 (R5 ++ R8) Φ6 → J (.bool !c4) w7
theorem Bvalue_all_run (rP : Option Addr) (rN rC : Nat) {W w : World} {R : List Own} {Φ : PW} [Stable Φ] {J : Value → World → Prop} (c : Ctx W w R Φ) (h : Bvalue_all rP rN rC W R Φ J) : Calls Tryz.prog F.value_all #[.slice rP rN rC] w fun e w' => ∃ v, e = .returned v ∧ J v w' :=
  vcFS_sound (H := { keep := some [0, 2] }) (by rw [show vcFS Tryz.prog W { keep := some [0, 2] } F.value_all #[.slice rP rN rC] R Φ J = Bvalue_all rP rN rC W R Φ J by kernel_rfl]; exact h) c
def Bslices_ContainsFunc_api_Value_api_Value (sP : Option Addr) (sN sC : Nat) (fF : FuncId) (fC : Array Value) (W : World) (R : List Own) (Φ : PW) (J : Value → World → Prop) : Prop :=
  ∀ w0 R1, Ctx W w0 (R ++ R1) Φ → Calls Tryz.prog F.slices_IndexFunc_api_Value_api_Value #[.slice sP sN sC, Value.func (Fn.func fF) #[] fC] w0 fun e2 w3 => ∃ n4, e2 = .returned (.int .i64 n4) ∧ ∃ R5 Φ6, Stable Φ6 ∧ Ctx W w3 (R5 ++ R1) Φ6 ∧ ∀ w7 R8, Ctx W w7 (R5 ++ R8) Φ6 → J (.bool (decide (0 ≤ n4))) w7
theorem Bslices_ContainsFunc_api_Value_api_Value_run (sP : Option Addr) (sN sC : Nat) (fF : FuncId) (fC : Array Value) {W w : World} {R : List Own} {Φ : PW} [Stable Φ] {J : Value → World → Prop} (c : Ctx W w R Φ) (h : Bslices_ContainsFunc_api_Value_api_Value sP sN sC fF fC W R Φ J) : Calls Tryz.prog F.slices_ContainsFunc_api_Value_api_Value #[.slice sP sN sC, .func (.func fF) #[] fC] w fun e w' => ∃ v, e = .returned v ∧ J v w' :=
  vcFS_sound (H := { keep := some [0, 1, 4] }) (by rw [show vcFS Tryz.prog W { keep := some [0, 1, 4] } F.slices_ContainsFunc_api_Value_api_Value #[.slice sP sN sC, .func (.func fF) #[] fC] R Φ J = Bslices_ContainsFunc_api_Value_api_Value sP sN sC fF fC W R Φ J by kernel_rfl]; exact h) c
def Bvalue_all_1 (v0 : Int) (v1 : Int) (v2 : ByteArray) (W : World) (R : List Own) (Φ : PW) (J : Value → World → Prop) : Prop :=
  ∀ (b : Nat) (w0 : World) (R1 : List Own), Ctx W w0 (R ++ R1) Φ → Calls Tryz.prog F.value_Right #[Value.agg #[.int .i64 v0, .int .i64 v1, .string v2]] w0 fun e2 w3 => ∃ c4, e2 = .returned (.bool c4) ∧ ∃ R5 Φ6, Stable Φ6 ∧ Ctx W w3 (R5 ++ R1) Φ6 ∧ ∀ w7 R8, Ctx W w7 (R5 ++ R8) Φ6 → J (.bool !c4) w7
theorem Bvalue_all_1_run (v0 : Int) (v1 : Int) (v2 : ByteArray) {W w : World} {R : List Own} {Φ : PW} [Stable Φ] {J : Value → World → Prop} (c : Ctx W w R Φ) (h : Bvalue_all_1 v0 v1 v2 W R Φ J) : Calls Tryz.prog F.value_all_1 #[.agg #[.int .i64 v0, .int .i64 v1, .string v2]] w fun e w' => ∃ v, e = .returned v ∧ J v w' :=
  vcFS_sound (H := { keep := some [1, 2], track := [1] }) (by rw [show vcFS Tryz.prog W { keep := some [1, 2], track := [1] } F.value_all_1 #[.agg #[.int .i64 v0, .int .i64 v1, .string v2]] R Φ J = Bvalue_all_1 v0 v1 v2 W R Φ J by kernel_rfl]; exact h) c
def Bvalue_Right (v0 : Int) (v1 : Int) (v2 : ByteArray) (W : World) (R : List Own) (Φ : PW) (J : Value → World → Prop) : Prop :=
  ∀ (b : Nat), Br (decide (v0 = 0)) (∃ R0 Φ1, Stable Φ1 ∧ Wk W R Φ R0 Φ1 ∧ ∀ w4 R5, Ctx W w4 (R ++ R5) Φ → Calls Tryz.prog F.value_Int #[.int .i64 v1] w4 fun e6 w7 => ∃ n8 n9 s10, e6 = .returned (Value.agg #[.int .i64 n8, .int .i64 n9, .string s10]) ∧ ∃ R11 Φ12, Stable Φ12 ∧ Ctx W w7 (R11 ++ R5) Φ12 ∧ Wk W R11 Φ12 R0 Φ1 ∧ okAgg Tryz.prog 78 = true ∧ ∀ w15 R16, Ctx W w15 (R11 ++ R16) Φ12 → J (.bool (decide (v0 = n8) && (decide (v1 = n9) && (decide (v2 = s10) && true)))) w15) (Br (decide (v0 = 1)) (∃ R17 Φ18, Stable Φ18 ∧ Wk W R Φ R17 Φ18 ∧ ∀ w21 R22, Ctx W w21 (R ++ R22) Φ → Calls Tryz.prog F.value_Text #[.string v2] w21 fun e23 w24 => ∃ n25 n26 s27, e23 = .returned (Value.agg #[.int .i64 n25, .int .i64 n26, .string s27]) ∧ ∃ R28 Φ29, Stable Φ29 ∧ Ctx W w24 (R28 ++ R22) Φ29 ∧ Wk W R28 Φ29 R17 Φ18 ∧ okAgg Tryz.prog 78 = true ∧ Br (decide (v0 = n25) && (decide (v1 = n26) && (decide (v2 =
  s27) && true))) (∀ w32 R33, Ctx W w32 (R28 ++ R33) Φ29 → J (.bool (decide ((↑v2.size : Int) ≤ 200))) w32) (∀ w34 R35, Ctx W w34 (R28 ++ R35) Φ29 → J (.bool false) w34)) (∃ R36 Φ37, Stable Φ37 ∧ Wk W R Φ R36 Φ37 ∧ ∀ w40 R41, Ctx W w40 (R ++ R41) Φ → Calls Tryz.prog F.value_Bool #[.bool false] w40 fun e42 w43 => ∃ n44 n45 s46, e42 = .returned (Value.agg #[.int .i64 n44, .int .i64 n45, .string s46]) ∧ ∃ R47 Φ48, Stable Φ48 ∧ Ctx W w43 (R47 ++ R41) Φ48 ∧ Wk W R47 Φ48 R36 Φ37 ∧ ∃ R51 Φ52, Stable Φ52 ∧ Wk W R47 Φ48 R51 Φ52 ∧ okAgg Tryz.prog 78 = true ∧ Br (decide (v0 = n44) && (decide (v1 = n45) && (decide (v2 = s46) && true))) (∀ w55 R56, Ctx W w55 (R47 ++ R56) Φ48 → J (.bool true) w55) (∀ w57 R58, Ctx W w57 (R47 ++ R58) Φ48 → Calls Tryz.prog F.value_Bool #[.bool true] w57 fun e59 w60 => ∃ n61 n62 s63, e59 = .returned (Value.agg #[.int .i64 n61, .int .i64 n62, .string s63]) ∧ ∃ R64 Φ65,
  Stable Φ65 ∧ Ctx W w60 (R64 ++ R58) Φ65 ∧ Wk W R64 Φ65 R51 Φ52 ∧ okAgg Tryz.prog 78 = true ∧ ∀ w68 R69, Ctx W w68 (R64 ++ R69) Φ65 → J (.bool (decide (v0 = n61) && (decide (v1 = n62) && (decide (v2 = s63) && true)))) w68)))
theorem Bvalue_Right_run (v0 : Int) (v1 : Int) (v2 : ByteArray) {W w : World} {R : List Own} {Φ : PW} [Stable Φ] {J : Value → World → Prop} (c : Ctx W w R Φ) (h : Bvalue_Right v0 v1 v2 W R Φ J) : Calls Tryz.prog F.value_Right #[.agg #[.int .i64 v0, .int .i64 v1, .string v2]] w fun e w' => ∃ v, e = .returned v ∧ J v w' :=
  vcFS_sound (H := { keep := some [1, 2, 4, 5, 12], track := [1], stages := [(3, [.held [(0, true), (1, true), (2, true), (3, false)], .stage [4, 5] none]), (5, [.held [(0, true), (1, true), (2, true), (3, false)], .stage [4, 5, 6, 7, 8, 9, 10, 11] none]), (6, [.held [(0, true), (1, false)], .held [(2, true), (3, true), (4, true), (5, false)], .stage [6, 7, 8] none])] }) (by rw [show vcFS Tryz.prog W { keep := some [1, 2, 4, 5, 12], track := [1], stages := [(3, [.held [(0, true), (1, true), (2, true), (3, false)], .stage [4, 5] none]), (5, [.held [(0, true), (1, true), (2, true), (3, false)], .stage [4, 5, 6, 7, 8, 9, 10, 11] none]), (6, [.held [(0, true), (1, false)], .held [(2, true), (3, true), (4, true), (5, false)], .stage [6, 7, 8] none])] } F.value_Right #[.agg #[.int .i64 v0, .int .i64 v1, .string v2]] R Φ J = Bvalue_Right v0 v1 v2 W R Φ J by kernel_rfl]; exact h) c
def Bslices_IndexFunc_api_Value_api_Value (sP : Option Addr) (sN sC : Nat) (fF : FuncId) (fC : Array Value) (W : World) (R : List Own) (Φ : PW) (J : Value → World → Prop) : Prop :=
  exI fun (I0 : Int → List Own → PW → Nat → Prop) => (∃ R1 Φ2 k3, Stable Φ2 ∧ Wk W R Φ R1 Φ2 ∧ I0 0 R1 Φ2 k3) ∧ ∀ n6 R7 I8 k9, Stable I8 → I0 n6 R7 I8 k9 → Br (decide (n6 < (↑sN : Int))) ((0 ≤ n6 ∧ n6 < (↑sN : Int)) ∧ ptrK none sP fun k10 k11 => ∀ w12 R13, Ctx W w12 (R7 ++ R13) I8 → ∃ n14 n15 s16, RowAt w12 k10 (k11 + n6.toNat * 3) [.int .i64 n14, .int .i64 n15, .string s16] ∧ ∀ w17 R18, Ctx W w17 (R7 ++ R18) I8 → okFun Tryz.prog fF = true ∧ Calls Tryz.prog fF (Array.mk (Value.agg #[.int .i64 n14, .int .i64 n15, .string s16] :: fC.toList)) w17 fun e19 w20 => ∃ c21, e19 = .returned (.bool c21) ∧ ∃ R22 Φ23, Stable Φ23 ∧ Ctx W w20 (R22 ++ R18) Φ23 ∧ Br c21 (∀ w24 R25, Ctx W w24 (R22 ++ R25) Φ23 → J (.int .i64 n6) w24) (I64 (n6 + 1) ∧ ∃ R26 Φ27 k28, Stable Φ27 ∧ Wk W R22 Φ23 R26 Φ27 ∧ I0 (n6 + 1) R26 Φ27 k28 ∧ k28 < k9)) (∀ w31 R32, Ctx W w31 (R7 ++ R32) I8 → J (.int .i64 (-1)) w31)
theorem Bslices_IndexFunc_api_Value_api_Value_run (sP : Option Addr) (sN sC : Nat) (fF : FuncId) (fC : Array Value) {W w : World} {R : List Own} {Φ : PW} [Stable Φ] {J : Value → World → Prop} (c : Ctx W w R Φ) (h : Bslices_IndexFunc_api_Value_api_Value sP sN sC fF fC W R Φ J) : Calls Tryz.prog F.slices_IndexFunc_api_Value_api_Value #[.slice sP sN sC, .func (.func fF) #[] fC] w fun e w' => ∃ v, e = .returned v ∧ J v w' :=
  vcFS_sound (H := { keep := some [0, 1, 4, 5, 7, 8, 9, 16], wrap := [16], loops := [(2, [(8, .one (.int .i64))], [])] }) (by rw [show vcFS Tryz.prog W { keep := some [0, 1, 4, 5, 7, 8, 9, 16], wrap := [16], loops := [(2, [(8, .one (.int .i64))], [])] } F.slices_IndexFunc_api_Value_api_Value #[.slice sP sN sC, .func (.func fF) #[] fC] R Φ J = Bslices_IndexFunc_api_Value_api_Value sP sN sC fF fC W R Φ J by kernel_rfl]; exact h) c
def Bvalue_Int (n : Int) (W : World) (R : List Own) (Φ : PW) (J : Value → World → Prop) : Prop :=
  ∀ (b : Nat) (w0 : World) (R1 : List Own), Ctx W w0 (R ++ R1) Φ → J (Value.agg #[.int .i64 0, Value.int IntKind.i64 n, Value.string (ByteArray.mk #[])]) w0
theorem Bvalue_Int_run (n : Int) {W w : World} {R : List Own} {Φ : PW} [Stable Φ] {J : Value → World → Prop} (c : Ctx W w R Φ) (h : Bvalue_Int n W R Φ J) : Calls Tryz.prog F.value_Int #[.int .i64 n] w fun e w' => ∃ v, e = .returned v ∧ J v w' :=
  vcFS_sound (H := { keep := some [0, 2], track := [2] }) (by rw [show vcFS Tryz.prog W { keep := some [0, 2], track := [2] } F.value_Int #[.int .i64 n] R Φ J = Bvalue_Int n W R Φ J by kernel_rfl]; exact h) c
def Bvalue_Text (s : ByteArray) (W : World) (R : List Own) (Φ : PW) (J : Value → World → Prop) : Prop :=
  ∀ (b : Nat) (w0 : World) (R1 : List Own), Ctx W w0 (R ++ R1) Φ → J (Value.agg #[.int .i64 1, .int .i64 0, .string s]) w0
theorem Bvalue_Text_run (s : ByteArray) {W w : World} {R : List Own} {Φ : PW} [Stable Φ] {J : Value → World → Prop} (c : Ctx W w R Φ) (h : Bvalue_Text s W R Φ J) : Calls Tryz.prog F.value_Text #[.string s] w fun e w' => ∃ v, e = .returned v ∧ J v w' :=
  vcFS_sound (H := { keep := some [0, 2], track := [2] }) (by rw [show vcFS Tryz.prog W { keep := some [0, 2], track := [2] } F.value_Text #[.string s] R Φ J = Bvalue_Text s W R Φ J by kernel_rfl]; exact h) c
def Bvalue_Bool (b : Bool) (W : World) (R : List Own) (Φ : PW) (J : Value → World → Prop) : Prop :=
  ∀ (b_1 : Nat), Br b (∀ w0 R1, Ctx W w0 (R ++ R1) Φ → J (Value.agg #[.int .i64 2, Value.int IntKind.i64 1, Value.string (ByteArray.mk #[])]) w0) (∀ w2 R3, Ctx W w2 (R ++ R3) Φ → J (Value.agg #[.int .i64 2, Value.int IntKind.i64 0, Value.string (ByteArray.mk #[])]) w2)
theorem Bvalue_Bool_run (b : Bool) {W w : World} {R : List Own} {Φ : PW} [Stable Φ] {J : Value → World → Prop} (c : Ctx W w R Φ) (h : Bvalue_Bool b W R Φ J) : Calls Tryz.prog F.value_Bool #[.bool b] w fun e w' => ∃ v, e = .returned v ∧ J v w' :=
  vcFS_sound (H := { keep := some [0, 2, 3], track := [2] }) (by rw [show vcFS Tryz.prog W { keep := some [0, 2, 3], track := [2] } F.value_Bool #[.bool b] R Φ J = Bvalue_Bool b W R Φ J by kernel_rfl]; exact h) c
end Go.Proofs.YtemhapmbcbbljaaGreatDoor
end

section
namespace Go.Proofs.YtemhapmbcbbljaaGreatDoor
open Go Go.RowKit Go.Vc
def Qslices_isNaN_int (x : Int) (w : World) (J : Value → World → Prop) : Prop :=
  J (Value.bool (decide (x ≠ x))) w
theorem Qslices_isNaN_int_run (x : Int) (w : World) (J : Value → World → Prop) (h : Qslices_isNaN_int x w J) : Calls Tryz.prog F.slices_isNaN_int #[.int .i64 x] w fun e w' => ∃ v, e = .returned v ∧ J v w' := by
  have h : J (Value.bool (decide (x ≠ x))) w := h
  go_enter Tryz.func68, Tryz.ntmps68
  go_wp2
  all_goals go_ret
  all_goals (first | exact ⟨_, rfl, h⟩ | exact ⟨_, rfl, by simpa using h⟩)
def Qcmp_isNaN_int (x : Int) (w : World) (J : Value → World → Prop) : Prop :=
  J (Value.bool (decide (x ≠ x))) w
theorem Qcmp_isNaN_int_run (x : Int) (w : World) (J : Value → World → Prop) (h : Qcmp_isNaN_int x w J) : Calls Tryz.prog F.cmp_isNaN_int #[.int .i64 x] w fun e w' => ∃ v, e = .returned v ∧ J v w' := by
  have h : J (Value.bool (decide (x ≠ x))) w := h
  go_enter Tryz.func97, Tryz.ntmps97
  go_wp2
  all_goals go_ret
  all_goals (first | exact ⟨_, rfl, h⟩ | exact ⟨_, rfl, by simpa using h⟩)
end Go.Proofs.YtemhapmbcbbljaaGreatDoor
end

section
namespace Go.Vc
section
variable {P : Program} {W w : World} {S F : List Own} {Φ Ψ : PW}
structure Quiet (P : Program) (f : FuncId) (args : Array Value) (v : Value) : Prop where
  go : ∀ w, Calls P f args w fun e w' => e = .returned v ∧ w' = w
structure Gives (P : Program) (f : FuncId) (args : Array Value) (v : Value) : Prop where
  go : ∀ (W w : World) (S : List Own) (Φ : PW), Stable Φ → Ctx W w S Φ → Calls P f args w fun e w' => e = .returned v ∧ Ctx W w' S Φ
theorem Quiet.at {f : FuncId} {args : Array Value} {v : Value} (h : Quiet P f args v) {w w0 : World} (e : w = w0) : Calls P f args w fun e w' => e = .returned v ∧ w' = w0 := by subst e; exact h.go w
theorem Quiet.gives {f : FuncId} {args : Array Value} {v : Value} (h : Quiet P f args v) : Gives P f args v :=
  ⟨fun W w S Φ _ c => (h.go w).mono fun e w' ⟨h1, h2⟩ => by subst h2; exact ⟨h1, c⟩⟩
theorem Gives.use {f : FuncId} {args : Array Value} {v : Value} (h : Gives P f args v) [hs : Stable Φ] (c : Ctx W w S Φ) {K : Ending → World → Prop} (hk : ∀ w', Ctx W w' S Φ → K (.returned v) w') : Calls P f args w K :=
  (h.go W w S Φ hs c).mono fun e w' ⟨he, c'⟩ => by subst he; exact hk w' c'
theorem gives_of {f : FuncId} {args : Array Value} {v : Value} {B : World → List Own → PW → (Value → World → Prop) → Prop}
    (run : ∀ {W w : World} {R : List Own} {Φ : PW} [Stable Φ] {J : Value → World → Prop}, Ctx W w R Φ → B W R Φ J → Calls P f args w fun e w' => ∃ v, e = .returned v ∧ J v w')
    (h : ∀ (W : World) (R : List Own) (Φ : PW), Stable Φ → B W R Φ fun u w' => u = v ∧ Ctx W w' R Φ) : Gives P f args v :=
  ⟨fun W w S Φ hs c => calls_of (run c (h W S Φ hs)) fun u w' ⟨h1, h2⟩ => ⟨by rw [h1], h2⟩⟩
structure GivesIn (Φ : PW) (P : Program) (f : FuncId) (args : Array Value) (v : Value) : Prop where
  go : ∀ (W w : World) (S : List Own), Ctx W w S Φ → Calls P f args w fun e w' => e = .returned v ∧ Ctx W w' S Φ
theorem GivesIn.use {f : FuncId} {args : Array Value} {v : Value} (h : GivesIn Φ P f args v) (c : Ctx W w S Φ) {K : Ending → World → Prop} (hk : ∀ w', Ctx W w' S Φ → K (.returned v) w') : Calls P f args w K :=
  (h.go W w S c).mono fun e w' ⟨he, c'⟩ => by subst he; exact hk w' c'
theorem Gives.in [hs : Stable Φ] {f : FuncId} {args : Array Value} {v : Value} (h : Gives P f args v) : GivesIn Φ P f args v := ⟨fun W w S c => h.go W w S Φ hs c⟩
theorem gives_in [Stable Φ] {f : FuncId} {args : Array Value} {v : Value} {B : World → List Own → PW → (Value → World → Prop) → Prop}
    (run : ∀ {W w : World} {R : List Own} {Φ : PW} [Stable Φ] {J : Value → World → Prop}, Ctx W w R Φ → B W R Φ J → Calls P f args w fun e w' => ∃ v, e = .returned v ∧ J v w')
    (h : ∀ (W : World) (R : List Own), B W R Φ fun u w' => u = v ∧ Ctx W w' R Φ) : GivesIn Φ P f args v :=
  ⟨fun W w S c => calls_of (run c (h W S)) fun u w' ⟨h1, h2⟩ => ⟨by rw [h1], h2⟩⟩
theorem Ctx.left [Stable Φ] (c : Ctx W w (S ++ F) Φ) : Ctx W w S Φ := c.sub (List.sublist_append_left _ _)
theorem Ctx.right [Stable Φ] (c : Ctx W w (S ++ F) Φ) : Ctx W w F Φ := c.sub (List.sublist_append_right _ _)
theorem Ctx.fst [Stable Φ] [Stable Ψ] (c : Ctx W w S (fun M w => Φ M w ∧ Ψ M w)) : Ctx W w S Φ := c.weak fun _ _ h => h.1
theorem rows_of {cs vs : List Value} {o : Nat} (h : (cs.drop o).take vs.length = vs) : ∀ j, (hj : j < vs.length) → cs[o + j]? = some vs[j] := by
  intro j hj
  have h1 : ((cs.drop o).take vs.length)[j]? = vs[j]? := by rw [h]
  rw [List.getElem?_take_of_lt hj, List.getElem?_drop] at h1
  rw [h1, List.getElem?_eq_getElem hj]
theorem quiet_of {f : FuncId} {args : Array Value} {v : Value} {B : World → (Value → World → Prop) → Prop}
    (run : ∀ (w : World) (J : Value → World → Prop), B w J → Calls P f args w fun e w' => ∃ v, e = .returned v ∧ J v w')
    (h : ∀ w, B w fun u w' => u = v ∧ w' = w) : Quiet P f args v :=
  ⟨fun w => calls_of (run w _ (h w)) fun u w' ⟨h1, h2⟩ => ⟨by rw [h1], h2⟩⟩
end
def Pin {α : Type} [Gv α] (b o : Nat) (cs : List (List Value)) (l : List α) (M : List Nat) (w : World) : Prop :=
  ∀ j, (hj : j < l.length) → b ∉ M ∧ RowAt w b (o + j * (Gv.ty α).size) (cs.getD j []) ∧ Gv.rep M w (cs.getD j []) l[j]
instance instStablePin {α : Type} [Gv α] (b o : Nat) (cs : List (List Value)) (l : List α) : Stable (fun M w => Pin b o cs l M w) := ⟨fun hs h j hj => by
  obtain ⟨h2, h3, h4⟩ := h j hj
  have hlt := row_lt h3 (by rw [Gv.len h4]; exact Gv.pos)
  exact ⟨fun hm => by rcases hs.sub b hm with h | h; exact h2 h; omega, hs.chg.row h3 h2, Gv.stable hs h4⟩⟩
theorem Sl.pin {α : Type} [Gv α] {M : List Nat} {w : World} {p : Option Addr} {l : List α} (h : Sl M w p l) : ∃ b o cs, (0 < l.length → p = some ⟨b, o, none⟩) ∧ Pin b o cs l M w := by
  by_cases h0 : 0 < l.length
  · obtain ⟨b, o, _, hp, _⟩ := h 0 h0
    have key : ∀ j, j < l.length → ∃ cs : List Value, ∀ hj : j < l.length, b ∉ M ∧ RowAt w b (o + j * (Gv.ty α).size) cs ∧ Gv.rep M w cs l[j] := by
      intro j hj
      obtain ⟨b', o', cs, h1, h2, h3, h4⟩ := h j hj
      rw [hp] at h1
      cases h1
      exact ⟨cs, fun _ => ⟨h2, h3, h4⟩⟩
    obtain ⟨cs, hl, hcs⟩ := list_build l.length key
    refine ⟨b, o, cs, fun _ => hp, fun j hj => ?_⟩
    have := hcs j (by omega) hj
    rw [show cs.getD j [] = cs[j] by simp [List.getD, show j < cs.length by omega]]
    exact this
  · exact ⟨0, 0, [], fun h => absurd h h0, fun j hj => by omega⟩
theorem Ctx.pin {W w : World} {S : List Own} {Φ : PW} (c : Ctx W w S Φ) {α : Type} [Gv α] {p : Option Addr} {l : List α} (h : Sl (dom S) w p l) :
    ∃ b o cs, (0 < l.length → p = some ⟨b, o, none⟩) ∧ Ctx W w S (fun M w => Φ M w ∧ Pin b o cs l M w) := by
  obtain ⟨b, o, cs, hp, hpin⟩ := h.pin
  exact ⟨b, o, cs, hp, c.add hpin⟩
theorem GivesIn.pinned {Φ : PW} [Stable Φ] {P : Program} {f : FuncId} {args : Array Value} {v : Value} {α : Type} [Gv α] {p : Option Addr} {l : List α} (hΦ : ∀ M w, Φ M w → Sl M w p l)
    (h : ∀ b o cs, (0 < l.length → p = some ⟨b, o, none⟩) → GivesIn (fun M w => Φ M w ∧ Pin b o cs l M w) P f args v) : GivesIn Φ P f args v :=
  ⟨fun W w S c => by
    obtain ⟨b, o, cs, hp, c'⟩ := c.pin (hΦ _ _ c.phi)
    exact ((h b o cs hp).go W w S c').mono fun e w' ⟨h1, h2⟩ => ⟨h1, h2.fst⟩⟩
end Go.Vc
end

section
namespace Go.Vc
section
variable {P : Program} {W w : World} {S F : List Own} {Φ Ψ : PW}
def Parked (W : World) (o : Own) (M : List Nat) (w : World) : Prop := o.at w ∧ ∀ b ∈ o.dom, b ∉ M ∧ W.heap.size ≤ b
instance instStableParked (W : World) (o : Own) : Stable (fun M w => Parked W o M w) := ⟨fun hs h =>
  ⟨Own.at_keep h.1 fun b hb => hs.chg.block b (Own.at_lt h.1 b hb) (h.2 b hb).1, fun b hb => ⟨fun hm => by
    rcases hs.sub b hm with h1 | h1
    · exact (h.2 b hb).1 h1
    · have := Own.at_lt h.1 b hb; omega, (h.2 b hb).2⟩⟩⟩
instance instStableMore (D : List Nat) (Φ : PW) [Stable Φ] : Stable (fun M w => Φ (D ++ M) w) := ⟨fun {M M' w w'} hs h =>
  Stable.step (Φ := Φ) (M := D ++ M) (M' := D ++ M') ⟨hs.chg.mono fun x hx => List.mem_append_right _ hx, fun b hb => by
    rcases List.mem_append.1 hb with h | h
    · exact .inl (List.mem_append_left _ h)
    · rcases hs.sub b h with h | h
      · exact .inl (List.mem_append_right _ h)
      · exact .inr h⟩ h⟩
theorem Own.nodup (o : Own) : o.dom.Nodup := by
  cases o with
  | blk => simp [Own.dom]
  | obj => simp [Own.dom]
  | buf p => cases p <;> simp [Own.dom]
theorem dom_cons (o : Own) (S : List Own) : dom (o :: S) = o.dom ++ dom S := rfl
theorem Ctx.park {o : Own} (c : Ctx W w (o :: S) Φ) : Ctx W w S (fun M w => Φ (o.dom ++ M) w ∧ Parked W o M w) :=
  ⟨c.chg, fun x hx => c.own x (List.mem_cons_of_mem _ hx), fun b hb => c.young b (by rw [dom_cons]; exact List.mem_append_right _ hb),
    (by have := c.nodup; rw [dom_cons, List.nodup_append] at this; exact this.2.1), c.phi, c.own o List.mem_cons_self, fun b hb =>
      ⟨fun hm => by have := c.nodup; rw [dom_cons, List.nodup_append] at this; exact this.2.2 b hb b hm rfl, c.young b (by rw [dom_cons]; exact List.mem_append_left _ hb)⟩⟩
def There (p : Option Addr) (n : Nat) : Prop := 0 < n → ∃ b o, p = some ⟨b, o, none⟩
theorem Sl.there {α : Type} [Gv α] {M : List Nat} {w : World} {p : Option Addr} {l : List α} (h : Sl M w p l) : There p l.length := fun h0 => by
  obtain ⟨b, o, _, h1, _⟩ := h 0 h0
  exact ⟨b, o, h1⟩
theorem Sl.nil {α : Type} [Gv α] {M : List Nat} {w : World} {p : Option Addr} : Sl M w p ([] : List α) := fun j hj => by simp at hj
theorem GivesIn.there {f : FuncId} {args : Array Value} {v : Value} {p : Option Addr} {n : Nat} (hΦ : ∀ M w, Φ M w → There p n) (h : There p n → GivesIn Φ P f args v) : GivesIn Φ P f args v :=
  ⟨fun W w S c => (h (hΦ _ _ c.phi)).go W w S c⟩
structure GivesSl (Φ : PW) (P : Program) (f : FuncId) (args : Array Value) {α : Type} [Gv α] (l : List α) (mk : Value → Value) : Prop where
  go : ∀ (W w : World) (S : List Own), Ctx W w S Φ → Calls P f args w fun e w' => ∃ p cap, e = .returned (mk (.slice p l.length cap)) ∧ l.length ≤ cap ∧ cap ≤ maxLen ∧ Ctx W w' S (fun M w => Φ M w ∧ Sl M w p l)
theorem GivesSl.use {f : FuncId} {args : Array Value} {α : Type} [Gv α] {l : List α} {mk : Value → Value} (h : GivesSl Φ P f args l mk) (c : Ctx W w S Φ) {K : Ending → World → Prop}
    (hk : ∀ p cap w', l.length ≤ cap → cap ≤ maxLen → Ctx W w' S (fun M w => Φ M w ∧ Sl M w p l) → K (.returned (mk (.slice p l.length cap))) w') : Calls P f args w K :=
  (h.go W w S c).mono fun e w' ⟨p, cap, he, h1, h2, c'⟩ => by subst he; exact hk p cap w' h1 h2 c'
theorem gives_sl [Stable Φ] {f : FuncId} {args : Array Value} {α : Type} [Gv α] {l : List α} {mk : Value → Value} {B : World → List Own → PW → (Value → World → Prop) → Prop}
    (run : ∀ {W w : World} {R : List Own} {Φ : PW} [Stable Φ] {J : Value → World → Prop}, Ctx W w R Φ → B W R Φ J → Calls P f args w fun e w' => ∃ v, e = .returned v ∧ J v w')
    (h : ∀ (W : World) (R : List Own), B W R Φ fun u w' => ∃ p cap, u = mk (.slice p l.length cap) ∧ l.length ≤ cap ∧ cap ≤ maxLen ∧ Ctx W w' R (fun M w => Φ M w ∧ Sl M w p l)) : GivesSl Φ P f args l mk :=
  ⟨fun W w S c => calls_of (run c (h W S)) fun u w' ⟨p, cap, h1, h2⟩ => ⟨p, cap, by rw [h1], h2⟩⟩
theorem GivesSl.there {f : FuncId} {args : Array Value} {α : Type} [Gv α] {l : List α} {mk : Value → Value} {p : Option Addr} {n : Nat} (hΦ : ∀ M w, Φ M w → There p n) (h : There p n → GivesSl Φ P f args l mk) : GivesSl Φ P f args l mk :=
  ⟨fun W w S c => (h (hΦ _ _ c.phi)).go W w S c⟩
def appB (P : Program) (ts t : TypeId) (size bytes : Nat) : Bool :=
  (match P.underlying ts with | some (.slice u) => decide (u = t) | _ => false) && (match P.info? t with
    | some i => (match i.zero with | some z => decide (z.cells.size = size) | none => false) && decide (i.size = size) && decide (i.bytes = bytes)
    | none => false)
theorem appB_out {ts t : TypeId} {size bytes : Nat} (h : appB P ts t size bytes = true) : ∃ i z, P.underlying ts = some (.slice t) ∧ P.info? t = some i ∧ i.zero = some z ∧ i.size = size ∧ z.cells.size = size ∧ i.bytes = bytes := by
  unfold appB at h
  rw [Bool.and_eq_true] at h
  obtain ⟨h1, h2⟩ := h
  split at h1
  · rename_i u hu
    have : u = t := by simpa using h1
    subst this
    split at h2
    · rename_i i hi
      simp only [Bool.and_eq_true] at h2
      obtain ⟨⟨h2, h3⟩, h4⟩ := h2
      split at h2
      · rename_i z hz
        exact ⟨i, z, hu, hi, hz, by simpa using h3, by simpa using h2, by simpa using h4⟩
      · cases h2
    · cases h2
  · cases h1
theorem run_app {ats : Array TypeId} {ty : TypeId} {cs : Array Bool} {args : Array Value} {v : Value} {w w' : World} (h : (Builtin.append_ ats ty args).run P w = .ok v w') : Sem.run P (builtin Builtin.append ats ty cs args) w = .ok (.value v) w' := by
  unfold builtin
  simp only [Sem.run_bind, h, Result.andThen, Sem.run_pure]
theorem Ctx.app1 [Stable Φ] {b : Nat} {news : List Value} {t' : TypeId} {p : Option Addr} {n cap : Nat} {cs : List Value} {t : TypeId} {size bytes : Nat} (c : Ctx W w (.blk b news t' :: .buf p n cap cs t size :: S) Φ)
    {ts ty : TypeId} {kb : Array Bool} (hb : appB P ts t size bytes = true) (h0 : 0 < size) (hl : news.length = size) (h1 : (news.all fun u => oneC u) = true) (hlen : n < 100000000) (hbytes : bytes ≤ 1000) :
    ∃ p' cap' w', Sem.run P (builtin Builtin.append #[ts, ts] ty kb #[.slice p n cap, .slice (some ⟨b, 0, none⟩) 1 1]) w = .ok (.value (.slice p' (n + 1) cap')) w' ∧ (∃ g, p' = some ⟨g, 0, none⟩) ∧ Ctx W w' (.buf p' (n + 1) cap' (cs ++ news) t size :: S) Φ := by
  obtain ⟨i, z, e1, e2, e3, e4, e5, e6⟩ := appB_out hb
  have hby : (n + 1) * i.bytes ≤ 100000000 * 1000 := Nat.mul_le_mul (by omega) (by omega)
  obtain ⟨p', cap', w', h2, c'⟩ := c.append 1 rfl (ty := ty) e1 e2 e3 e4 e5 (a := ⟨b, 0, none⟩) (m := 1) (c2 := 1) (news := news) (by omega) (by rw [hl, Nat.one_mul]) (fun j u hj => by rw [addr_add, Nat.zero_add]; exact c.get 0 rfl hj)
    (fun u hu => List.all_eq_true.1 h1 u hu) (by omega) (by omega)
  refine ⟨p', cap', w', run_app h2, ?_, c'.drop1⟩
  obtain ⟨g, hg, _⟩ := c'.bufCell 1 rfl (by rw [List.length_append]; omega)
  exact ⟨g, hg⟩
theorem Ctx.nobuf [Stable Φ] (c : Ctx W w S Φ) (t : TypeId) (size : Nat) : Ctx W w (.buf none 0 0 [] t size :: S) Φ := c.buf0 t size
theorem Sl.less {α : Type} [Gv α] {M D : List Nat} {w : World} {p : Option Addr} {l : List α} (h : Sl (D ++ M) w p l) : Sl M w p l :=
  h.stable ⟨Chg.refl _ _, fun b hb => .inl (List.mem_append_right _ hb)⟩
structure GivesBuf (Φ : PW) (P : Program) (f : FuncId) (args : Array Value) (n : Nat) (cells : List Value) (t : TypeId) (size : Nat) (mk : Value → Value) : Prop where
  go : ∀ (W w : World) (S : List Own), Ctx W w S Φ → Calls P f args w fun e w' => ∃ p cap, e = .returned (mk (.slice p n cap)) ∧ Ctx W w' (.buf p n cap cells t size :: S) Φ
theorem Parked.blkSl {α : Type} [Gv α] {M : List Nat} {b : Nat} {cs : List Value} {t : TypeId} {l : List α} (h : Parked W (.blk b cs t) M w) (he : Elems M w cs l) : Sl M w (some ⟨b, 0, none⟩) l := by
  obtain ⟨h1, h2⟩ := h
  have h1 : Blk w b cs t := h1
  intro j hj
  have hle : (j + 1) * (Gv.ty α).size ≤ cs.length := by rw [he.1]; exact Nat.mul_le_mul_right _ hj
  rw [Nat.add_mul, Nat.one_mul] at hle
  refine ⟨b, 0, (cs.drop (j * (Gv.ty α).size)).take (Gv.ty α).size, rfl, (h2 b (by simp [Own.dom])).1, fun i hi => ?_, he.2 j hj⟩
  simp only [List.length_take, List.length_drop] at hi
  rw [Nat.zero_add, List.getElem_take, List.getElem_drop]
  exact h1.cell_eq (List.getElem?_eq_getElem (by omega))
theorem Ctx.freezeBlk [Stable Φ] {α : Type} [Gv α] {b : Nat} {cs : List Value} {t : TypeId} {l : List α} (c : Ctx W w (.blk b cs t :: S) Φ) (he : Elems (dom (.blk b cs t :: S)) w cs l) : Ctx W w S Φ ∧ Sl (dom S) w (some ⟨b, 0, none⟩) l := by
  have c' := c.park
  refine ⟨c.drop1, c'.phi.2.blkSl ⟨he.1, fun j hj => ?_⟩⟩
  exact Gv.stable ⟨Chg.refl _ _, fun b hb => .inl (by rw [dom_cons]; exact List.mem_append_right _ hb)⟩ (he.2 j hj)
theorem Elems.two {α : Type} [Gv α] {M : List Nat} {cs ds : List Value} {x y : α} (h1 : Gv.rep M w cs x) (h2 : Gv.rep M w ds y) : Elems M w (cs ++ ds) [x, y] := Elems.snoc (l := [x]) (Elems.snoc (l := []) (cs := []) Elems.nil h1) h2
theorem Elems.one {α : Type} [Gv α] {M : List Nat} {cs : List Value} {x : α} (h1 : Gv.rep M w cs x) : Elems M w cs [x] := Elems.snoc (l := []) (cs := []) Elems.nil h1
end
end Go.Vc
end

section
namespace Go.Vc
section
variable {P : Program} {W w w' : World} {S S' F : List Own} {Φ Ψ : PW}
theorem Ctx.swap [Stable Φ] {a b : Own} (c : Ctx W w (a :: b :: S) Φ) : Ctx W w (b :: a :: S) Φ := c.perm (List.Perm.swap _ _ _)
theorem Ctx.bufBlk (c : Ctx W w S Φ) (k : Nat) {p : Option Addr} {n cap : Nat} {cs : List Value} {t : TypeId} {size : Nat} (hk : S[k]? = some (.buf p n cap cs t size)) (h0 : 0 < cs.length) :
    ∃ b cur, p = some ⟨b, 0, none⟩ ∧ Blk w b cur t ∧ cur.take (n * size) = cs ∧ n ≤ cap ∧ cap ≤ maxLen ∧ cur.length = cap * size ∧ cs.length = n * size := by
  obtain ⟨h1, h2⟩ := c.own _ (List.mem_of_getElem? hk)
  rcases h2 with ⟨e, rfl⟩ | ⟨g, cap', cur, e, _, hg, hnc, hcm, hcs, htake⟩
  · rw [Nat.zero_mul] at h1; omega
  · cases e
    exact ⟨g, cur.toList, rfl, by simpa [Blk] using hg, htake, hnc, hcm, by simpa using hcs, h1⟩
theorem Ctx.bufRow (c : Ctx W w S Φ) (k : Nat) {p : Option Addr} {n cap : Nat} {cs : List Value} {t : TypeId} {size : Nat} (hk : S[k]? = some (.buf p n cap cs t size)) {b o : Nat} (hp : p = some ⟨b, 0, none⟩) {vs : List Value}
    (hv : ∀ j, (hj : j < vs.length) → cs[o + j]? = some vs[j]) : RowAt w b o vs := by
  intro j hj
  have hlt : o + j < cs.length := (List.getElem?_eq_some_iff.1 (hv j hj)).1
  obtain ⟨b', h1, _, h2⟩ := c.bufCell k hk (by omega)
  rw [hp] at h1
  cases h1
  exact (h2 _ _ (hv j hj)).1
theorem Ctx.bufCan (c : Ctx W w S Φ) (k : Nat) {p : Option Addr} {n cap : Nat} {cs : List Value} {t : TypeId} {size : Nat} (hk : S[k]? = some (.buf p n cap cs t size)) {b o m : Nat} (hp : p = some ⟨b, 0, none⟩) (hm : o + m ≤ cs.length) : CanWrite w b o m := by
  intro j hj
  obtain ⟨b', h1, _, h2⟩ := c.bufCell k hk (by omega)
  rw [hp] at h1
  cases h1
  have := h2 (o + j) cs[o + j] (List.getElem?_eq_getElem (by omega))
  exact ⟨by rw [this.1]; rfl, this.2⟩
theorem setL_len : ∀ (vs : List Value) (cs : List Value) (o : Nat), (setL cs o vs).length = cs.length
  | [], _, _ => rfl
  | v :: r, cs, o => by unfold setL; rw [setL_len r]; simp
theorem setL_take : ∀ (vs : List Value) (cs : List Value) (o m : Nat), o + vs.length ≤ m → (setL cs o vs).take m = setL (cs.take m) o vs
  | [], _, _, _, _ => rfl
  | v :: r, cs, o, m, h => by
    unfold setL
    simp only [List.length_cons] at h
    rw [setL_take r _ _ _ (by omega), List.take_set]
theorem setL_get : ∀ (vs : List Value) (cs : List Value) (o i : Nat), (i < o ∨ o + vs.length ≤ i) → (setL cs o vs)[i]? = cs[i]?
  | [], _, _, _, _ => rfl
  | v :: r, cs, o, i, h => by
    unfold setL
    simp only [List.length_cons] at h
    rw [setL_get r _ _ _ (by omega), List.getElem?_set_ne (by omega)]
theorem setL_in : ∀ (vs : List Value) (cs : List Value) (o i : Nat), i < vs.length → o + vs.length ≤ cs.length → (setL cs o vs)[o + i]? = vs[i]?
  | [], _, _, _, h, _ => by simp at h
  | v :: r, cs, o, 0, h, hl => by
    unfold setL
    simp only [List.length_cons] at hl
    rw [setL_get r _ _ _ (by omega), Nat.add_zero, List.getElem?_set_self (by omega)]
    rfl
  | v :: r, cs, o, i + 1, h, hl => by
    unfold setL
    simp only [List.length_cons] at hl h
    rw [show o + (i + 1) = o + 1 + i by omega, setL_in r _ _ _ (by omega) (by simp; omega)]
    rfl
theorem Ctx.bufPuts [Stable Φ] (c : Ctx W w S Φ) (k : Nat) {p : Option Addr} {n cap : Nat} {cs vs : List Value} {t : TypeId} {size : Nat} (hk : S[k]? = some (.buf p n cap cs t size)) {b o : Nat} (hp : p = some ⟨b, 0, none⟩) (h0 : 0 < cs.length) (ho : o + vs.length ≤ cs.length)
    (e : w' = w.setCells b o vs) : Ctx W w' (S.set k (.buf p n cap (setL cs o vs) t size)) Φ := by
  obtain ⟨b', cur, h1, hb, htake, hnc, hcm, hcl, hl⟩ := c.bufBlk k hk h0
  rw [hp] at h1
  cases h1
  subst e
  refine c.upd hk ((Chg.refl _ _).setCells (by subst hp; simp [Own.dom]) o vs) (fun x hx => .inl (by subst hp; exact hx)) (by subst hp; simp [Own.dom]) ?_
  have hb' := Blk.sets vs o hb
  refine ⟨by rw [setL_len, hl], .inr ⟨b, cap, (setL cur o vs).toArray, by rw [hp], Nat.zero_le _, hb', hnc, hcm, by simp [setL_len, hcl], ?_⟩⟩
  rw [← htake, setL_take _ _ _ _ (by omega)]
theorem Elems.setAt {α : Type} [Gv α] {M : List Nat} {cs d : List Value} {l : List α} {x : α} (h : Elems M w cs l) (k : Nat) (hk : k < l.length) (hx : Gv.rep M w d x) : Elems M w (setL cs (k * (Gv.ty α).size) d) (l.set k x) := by
  have hd := Gv.len hx
  refine ⟨by rw [setL_len, h.1]; simp, fun j hj => ?_⟩
  have hj : j < l.length := by simpa using hj
  have hle : (k + 1) * (Gv.ty α).size ≤ cs.length := by rw [h.1]; exact Nat.mul_le_mul_right _ hk
  have hlj : (j + 1) * (Gv.ty α).size ≤ cs.length := by rw [h.1]; exact Nat.mul_le_mul_right _ hj
  rw [Nat.add_mul, Nat.one_mul] at hle hlj
  by_cases hjk : k = j
  · subst hjk
    rw [List.getElem_set_self]
    have : ((setL cs (k * (Gv.ty α).size) d).drop (k * (Gv.ty α).size)).take (Gv.ty α).size = d := by
      apply List.ext_getElem?
      intro i
      by_cases hi : i < (Gv.ty α).size
      · rw [List.getElem?_take_of_lt hi, List.getElem?_drop, setL_in _ _ _ _ (by omega) (by omega)]
      · rw [List.getElem?_eq_none (by simp; omega), List.getElem?_eq_none (by omega)]
    rw [this]
    exact hx
  · rw [List.getElem_set_ne hjk]
    have : ((setL cs (k * (Gv.ty α).size) d).drop (j * (Gv.ty α).size)).take (Gv.ty α).size = (cs.drop (j * (Gv.ty α).size)).take (Gv.ty α).size := by
      apply List.ext_getElem?
      intro i
      by_cases hi : i < (Gv.ty α).size
      · rw [List.getElem?_take_of_lt hi, List.getElem?_drop, List.getElem?_take_of_lt hi, List.getElem?_drop]
        refine setL_get _ _ _ _ ?_
        rw [hd]
        rcases Nat.lt_or_gt_of_ne hjk with hlt | hlt
        · right
          have := Nat.mul_le_mul_right (Gv.ty α).size (show k + 1 ≤ j from hlt)
          rw [Nat.add_mul, Nat.one_mul] at this
          omega
        · left
          have := Nat.mul_le_mul_right (Gv.ty α).size (show j + 1 ≤ k from hlt)
          rw [Nat.add_mul, Nat.one_mul] at this
          omega
      · rw [List.getElem?_eq_none (by simp [setL_len]; omega), List.getElem?_eq_none (by simp; omega)]
    rw [this]
    exact h.2 j hj
theorem Sl.cells {α : Type} [Gv α] {M : List Nat} {p : Option Addr} {l : List α} (h : Sl M w p l) (h1 : ∀ M w cs (x : α), Gv.rep M w cs x → (cs.all fun u => oneC u) = true) (h0 : 0 < l.length) :
    ∃ b o news, p = some ⟨b, o, none⟩ ∧ news.length = l.length * (Gv.ty α).size ∧ (∀ j u, news[j]? = some u → w.cell? ⟨b, o + j, none⟩ = some u) ∧ Elems M w news l ∧ (news.all fun u => oneC u) = true := by
  obtain ⟨b, o, _, hp, _⟩ := h 0 h0
  have key : ∀ k, k ≤ l.length → ∃ news : List Value, news.length = k * (Gv.ty α).size ∧ (∀ j u, news[j]? = some u → w.cell? ⟨b, o + j, none⟩ = some u) ∧ Elems M w news (l.take k) ∧ (news.all fun u => oneC u) = true := by
    intro k
    induction k with
    | zero => intro _; exact ⟨[], by simp, fun j u hj => by simp at hj, by rw [List.take_zero]; exact Elems.nil, rfl⟩
    | succ k ih =>
      intro hk
      obtain ⟨news, g1, g2, g3, g4⟩ := ih (by omega)
      obtain ⟨b', o', cs, e1, _, e3, e4⟩ := h k (by omega)
      rw [hp] at e1
      cases e1
      have hlen := Gv.len e4
      refine ⟨news ++ cs, by rw [List.length_append, g1, hlen, Nat.add_mul, Nat.one_mul], fun j u hj => ?_, ?_, by rw [List.all_append, g4, h1 _ _ _ _ e4]; rfl⟩
      · by_cases hlt : j < news.length
        · rw [List.getElem?_append_left hlt] at hj
          exact g2 j u hj
        · rw [List.getElem?_append_right (by omega)] at hj
          have hl2 : j - news.length < cs.length := (List.getElem?_eq_some_iff.1 hj).1
          have := e3 (j - news.length) hl2
          rw [show o + k * (Gv.ty α).size + (j - news.length) = o + j by omega] at this
          rw [this, ← hj, List.getElem?_eq_getElem hl2]
      · rw [List.take_succ_eq_append_getElem (by omega)]
        exact g3.snoc e4
  obtain ⟨news, g1, g2, g3, g4⟩ := key l.length (Nat.le_refl _)
  rw [List.take_length] at g3
  exact ⟨b, o, news, hp, g1, g2, g3, g4⟩
theorem Ctx.appSl [Stable Φ] {α : Type} [Gv α] {q : Option Addr} {l : List α} {c2 : Nat} {p : Option Addr} {n cap : Nat} {cs : List Value} {t : TypeId} {bytes : Nat} (c : Ctx W w (.buf p n cap cs t (Gv.ty α).size :: S) Φ)
    {ts ty : TypeId} {kb : Array Bool} (hb : appB P ts t (Gv.ty α).size bytes = true) (h1 : ∀ M w cs (x : α), Gv.rep M w cs x → (cs.all fun u => oneC u) = true) (hsl : ∀ M w, Φ M w → Sl M w q l) (h0 : 0 < l.length) (hlen : n + l.length < 100000000) (hbytes : bytes ≤ 1000) :
    ∃ p' cap' w' news, Sem.run P (builtin Builtin.append #[ts, ts] ty kb #[.slice p n cap, .slice q l.length c2]) w = .ok (.value (.slice p' (n + l.length) cap')) w' ∧ (∃ g, p' = some ⟨g, 0, none⟩) ∧
      Ctx W w' (.buf p' (n + l.length) cap' (cs ++ news) t (Gv.ty α).size :: S) (fun M w => Φ M w ∧ Elems M w news l) := by
  obtain ⟨i, z, e1, e2, e3, e4, e5, e6⟩ := appB_out hb
  have hby : (n + l.length) * i.bytes ≤ 100000000 * 1000 := Nat.mul_le_mul (by omega) (by omega)
  obtain ⟨b, o, news, hp, g1, g2, g3, g4⟩ := (hsl _ _ c.phi).cells h1 h0
  obtain ⟨p', cap', w', h2, c'⟩ := (c.add (Ψ := fun M w => Elems M w news l) g3).append 0 rfl (ty := ty) e1 e2 e3 e4 e5 (a := ⟨b, o, none⟩) (m := l.length) (c2 := c2) (news := news) h0 g1 (fun j u hj => by rw [addr_add]; exact g2 j u hj)
    (fun u hu => List.all_eq_true.1 g4 u hu) (by omega) (by omega)
  have hpos : 0 < (Gv.ty α).size := Gv.pos
  have hl2 : 0 < l.length * (Gv.ty α).size := Nat.mul_pos h0 hpos
  refine ⟨p', cap', w', news, by rw [hp]; exact run_app h2, ?_, c'⟩
  obtain ⟨g, hg, _⟩ := c'.bufCell 0 rfl (by rw [List.length_append]; omega)
  exact ⟨g, hg⟩
end
end Go.Vc
end

section
namespace Go.Vc
section
variable {P : Program} {W w w' : World} {S S' F : List Own} {Φ Ψ : PW}
theorem Stable.less {Φ : PW} [Stable Φ] {D M : List Nat} {w : World} (h : Φ (D ++ M) w) : Φ M w :=
  Stable.step (Φ := Φ) ⟨Chg.refl _ _, fun b hb => .inl (List.mem_append_right _ hb)⟩ h
structure GivesNew (Φ : PW) (P : Program) (f : FuncId) (args : Array Value) {α : Type} [Gv α] (l : List α) (t : TypeId) : Prop where
  go : ∀ (W w : World) (S : List Own), Ctx W w S Φ → Calls P f args w fun e w' => ∃ p cap cs, e = .returned (.slice p l.length cap) ∧ Ctx W w' (.buf p l.length cap cs t (Gv.ty α).size :: S) (fun M w => Φ M w ∧ Elems M w cs l)
theorem GivesNew.use {f : FuncId} {args : Array Value} {α : Type} [Gv α] {l : List α} {t : TypeId} (h : GivesNew Φ P f args l t) (c : Ctx W w S Φ) {K : Ending → World → Prop}
    (hk : ∀ p cap cs w', Ctx W w' (.buf p l.length cap cs t (Gv.ty α).size :: S) (fun M w => Φ M w ∧ Elems M w cs l) → K (.returned (.slice p l.length cap)) w') : Calls P f args w K :=
  (h.go W w S c).mono fun e w' ⟨p, cap, cs, he, c'⟩ => by subst he; exact hk p cap cs w' c'
theorem gives_new [Stable Φ] {f : FuncId} {args : Array Value} {α : Type} [Gv α] {l : List α} {t : TypeId} {B : World → List Own → PW → (Value → World → Prop) → Prop}
    (run : ∀ {W w : World} {R : List Own} {Φ : PW} [Stable Φ] {J : Value → World → Prop}, Ctx W w R Φ → B W R Φ J → Calls P f args w fun e w' => ∃ v, e = .returned v ∧ J v w')
    (h : ∀ (W : World) (R : List Own), B W R Φ fun u w' => ∃ p cap cs, u = .slice p l.length cap ∧ Ctx W w' (.buf p l.length cap cs t (Gv.ty α).size :: R) (fun M w => Φ M w ∧ Elems M w cs l)) : GivesNew Φ P f args l t :=
  ⟨fun W w S c => calls_of (run c (h W S)) fun u w' ⟨p, cap, cs, h1, h2⟩ => ⟨p, cap, cs, by rw [h1], h2⟩⟩
theorem GivesNew.there {f : FuncId} {args : Array Value} {α : Type} [Gv α] {l : List α} {t : TypeId} {p : Option Addr} {n : Nat} (hΦ : ∀ M w, Φ M w → There p n) (h : There p n → GivesNew Φ P f args l t) : GivesNew Φ P f args l t :=
  ⟨fun W w S c => (h (hΦ _ _ c.phi)).go W w S c⟩
theorem Ctx.cloned [Stable Φ] {α : Type} [Gv α] {q : Option Addr} {l : List α} {c2 : Nat} {k : Nat} {t : TypeId} {bytes : Nat} (c : Ctx W w (.blk k [] t :: S) Φ)
    {ts ty : TypeId} {kb : Array Bool} (hb : appB P ts t (Gv.ty α).size bytes = true) (h1 : ∀ M w cs (x : α), Gv.rep M w cs x → (cs.all fun u => oneC u) = true) (hsl : ∀ M w, Φ M w → Sl M w q l) (hlen : l.length < 100000000) (hbytes : bytes ≤ 1000) :
    ∃ p' cap' w' cs, Sem.run P (builtin Builtin.append #[ts, ts] ty kb #[.slice (some ⟨k, 0, none⟩) 0 0, .slice q l.length c2]) w = .ok (.value (.slice p' l.length cap')) w' ∧
      Ctx W w' (.buf p' l.length cap' cs t (Gv.ty α).size :: S) (fun M w => Φ M w ∧ Elems M w cs l) := by
  have c' : Ctx W w (.buf (some ⟨k, 0, none⟩) 0 0 [] t (Gv.ty α).size :: S) Φ := c.toBuf 0 0 (Gv.ty α).size rfl (by simp) (by simp [maxLen])
  rcases Nat.eq_zero_or_pos l.length with h0 | h0
  · obtain ⟨i, z, e1, e2, e3, e4, e5, e6⟩ := appB_out hb
    have hl : l = [] := List.eq_nil_of_length_eq_zero h0
    subst hl
    exact ⟨_, _, w, [], run_app (c'.append0 0 rfl e1 e2 q c2), c'.add Elems.nil⟩
  · obtain ⟨p', cap', w', news, h2, _, c3⟩ := c'.appSl (ty := ty) (kb := kb) (c2 := c2) hb h1 hsl h0 (by omega) hbytes
    rw [Nat.zero_add] at h2 c3
    exact ⟨p', cap', w', news, h2, c3⟩
def RowIn (b o : Nat) (vs : List Value) (M : List Nat) (w : World) : Prop := b ∉ M ∧ RowAt w b o vs ∧ b < w.heap.size
instance instStableRowIn (b o : Nat) (vs : List Value) : Stable (fun M w => RowIn b o vs M w) := ⟨fun hs h =>
  ⟨fun hm => by rcases hs.sub b hm with h1 | h1; exact h.1 h1; have := h.2.2; omega, hs.chg.row h.2.1 h.1, Nat.lt_of_lt_of_le h.2.2 hs.chg.size⟩⟩
def ParkedL (W : World) (Q : List Own) (M : List Nat) (w : World) : Prop := (∀ o ∈ Q, o.at w) ∧ (dom Q).Nodup ∧ ∀ b ∈ dom Q, b ∉ M ∧ W.heap.size ≤ b
instance instStableParkedL (W : World) (Q : List Own) : Stable (fun M w => ParkedL W Q M w) := ⟨fun hs h => by
  have hlt : ∀ b ∈ dom Q, b < _ := fun b hb => by
    obtain ⟨o, ho, hb⟩ := List.mem_flatMap.1 hb
    exact Own.at_lt (h.1 o ho) b hb
  exact ⟨fun o ho => Own.at_keep (h.1 o ho) fun b hb => hs.chg.block b (hlt b (mem_dom ho hb)) (h.2.2 b (mem_dom ho hb)).1, h.2.1, fun b hb => ⟨fun hm => by
    rcases hs.sub b hm with h1 | h1
    · exact (h.2.2 b hb).1 h1
    · have := hlt b hb; omega, (h.2.2 b hb).2⟩⟩⟩
def Aside (W : World) (Q : List Own) (Φ : PW) : PW := fun M w => Φ (dom Q ++ M) w ∧ ParkedL W Q M w
instance instStableAside (W : World) (Q : List Own) (Φ : PW) [Stable Φ] : Stable (Aside W Q Φ) :=
  have h1 : Stable (fun M w => Φ (dom Q ++ M) w) := instStableMore (dom Q) Φ
  instStableAnd (fun M w => Φ (dom Q ++ M) w) (fun M w => ParkedL W Q M w)
theorem Ctx.aside {Q : List Own} (c : Ctx W w (Q ++ S) Φ) : Ctx W w S (Aside W Q Φ) := by
  have hd := dom_app Q S
  have hn := c.nodup
  rw [hd, List.nodup_append] at hn
  refine ⟨c.chg, fun x hx => c.own x (List.mem_append_right _ hx), fun b hb => c.young b (by rw [hd]; exact List.mem_append_right _ hb), hn.2.1, ?_, fun o ho => c.own o (List.mem_append_left _ ho), hn.1, fun b hb => ⟨fun hm => hn.2.2 b hb b hm rfl, c.young b (by rw [hd]; exact List.mem_append_left _ hb)⟩⟩
  have := c.phi
  rw [hd] at this
  exact this
theorem Aside.less [Stable Φ] {Q : List Own} {M : List Nat} (h : Aside W Q Φ M w) : Φ M w := Stable.less h.1
theorem Ctx.re (c : Ctx W w S Φ) (e : S = S') : Ctx W w S' Φ := e ▸ c
theorem Ctx.dropF [Stable Φ] {Q T G : List Own} (c : Ctx W w (Q ++ T ++ G) Φ) : Ctx W w (T ++ G) Φ := Ctx.right (S := Q) (c.re (List.append_assoc _ _ _))
theorem Ctx.bufGet (c : Ctx W w S Φ) (k : Nat) {p : Option Addr} {n cap : Nat} {cs : List Value} {t : TypeId} {size : Nat} (hk : S[k]? = some (.buf p n cap cs t size)) {b i : Nat} {v : Value} (hp : p = some ⟨b, 0, none⟩) (hv : cs[i]? = some v) : w.cell? ⟨b, i, none⟩ = some v := by
  obtain ⟨b', h1, _, h2⟩ := c.bufCell k hk (by have := (List.getElem?_eq_some_iff.1 hv).1; omega)
  rw [hp] at h1
  cases h1
  exact (h2 _ _ hv).1
theorem addr_sub {α : Type} [Gv α] {M : List Nat} {p : Option Addr} {l : List α} {cap : Nat} (h : Sl M w p l) (k : Nat) (hc : l.length ≤ cap) : Sl M w (subPtr p (Gv.ty α).size k cap) (l.drop k) := by
  intro j hj
  rw [List.length_drop] at hj
  obtain ⟨b, o, cs, rfl, h2, h3, h4⟩ := h (k + j) (by omega)
  refine ⟨b, o + k * (Gv.ty α).size, cs, ?_, h2, ?_, ?_⟩
  · unfold subPtr
    rw [if_neg (by omega)]
    simp [Addr.add]
  · rw [show o + k * (Gv.ty α).size + j * (Gv.ty α).size = o + (k + j) * (Gv.ty α).size by rw [Nat.add_mul]; omega]
    exact h3
  · rw [List.getElem_drop]
    exact h4
end
end Go.Vc
end

section
namespace Go.Vc
section
variable {ε : Type} {le : ε → ε → Prop}
structure Ord (le : ε → ε → Prop) : Prop where
  total : ∀ x y, le x y ∨ le y x
  trans : ∀ x y z, le x y → le y z → le x z
theorem Ord.refl (h : Ord le) (x : ε) : le x x := (h.total x x).elim id id
abbrev Asc (le : ε → ε → Prop) (l : List ε) : Prop := l.Pairwise le
theorem asc_app {a b : List ε} (ha : Asc le a) (hb : Asc le b) (h : ∀ x ∈ a, ∀ y ∈ b, le x y) : Asc le (a ++ b) := List.pairwise_append.2 ⟨ha, hb, h⟩
theorem asc_get {l : List ε} (h : Asc le l) {i j : Nat} (hij : i < j) (hj : j < l.length) : le (l[i]'(by omega)) l[j] := List.pairwise_iff_getElem.1 h i j (by omega) hj hij
theorem asc_le (ho : Ord le) {l : List ε} (h : Asc le l) {i j : Nat} (hij : i ≤ j) (hj : j < l.length) : le (l[i]'(by omega)) l[j] := by
  rcases Nat.eq_or_lt_of_le hij with e | hlt
  · subst e; exact ho.refl _
  · exact asc_get h hlt hj
theorem asc_put {a b : List ε} {x : ε} (h : Asc le (a ++ b)) (h1 : ∀ y ∈ a, le y x) (h2 : ∀ y ∈ b, le x y) : Asc le (a ++ x :: b) := by
  obtain ⟨ha, hb, hab⟩ := List.pairwise_append.1 h
  refine asc_app ha (List.pairwise_cons.2 ⟨h2, hb⟩) fun y hy z hz => ?_
  rcases List.mem_cons.1 hz with rfl | hz
  · exact h1 y hy
  · exact hab y hy z hz
theorem sym_split (ho : Ord le) {x y : List ε} (hx : Asc le x) (hy : Asc le y) (s t : Nat) (hs : s ≤ x.length) (ht : t ≤ y.length)
    (h1 : ∀ (h0 : 0 < s) (ht' : t < y.length), le (x[s - 1]'(by omega)) y[t]) (h2 : ∀ (h0 : 0 < t) (hs' : s < x.length), le (y[t - 1]'(by omega)) x[s]) :
    ∀ a ∈ x.take s ++ y.take t, ∀ b ∈ x.drop s ++ y.drop t, le a b := by
  have xx : ∀ a ∈ x.take s, ∀ b ∈ x.drop s, le a b := by
    have := hx
    rw [← List.take_append_drop s x] at this
    exact (List.pairwise_append.1 this).2.2
  have yy : ∀ a ∈ y.take t, ∀ b ∈ y.drop t, le a b := by
    have := hy
    rw [← List.take_append_drop t y] at this
    exact (List.pairwise_append.1 this).2.2
  have xy : ∀ a ∈ x.take s, ∀ b ∈ y.drop t, le a b := fun a ha b hb => by
    obtain ⟨i, hi, rfl⟩ := List.getElem_of_mem ha
    obtain ⟨j, hj, rfl⟩ := List.getElem_of_mem hb
    rw [List.length_take] at hi
    rw [List.length_drop] at hj
    rw [List.getElem_take, List.getElem_drop]
    exact ho.trans _ _ _ (asc_le ho hx (i := i) (j := s - 1) (by omega) (by omega)) (ho.trans _ _ _ (h1 (by omega) (by omega)) (asc_le ho hy (i := t) (j := t + j) (by omega) (by omega)))
  have yx : ∀ a ∈ y.take t, ∀ b ∈ x.drop s, le a b := fun a ha b hb => by
    obtain ⟨i, hi, rfl⟩ := List.getElem_of_mem ha
    obtain ⟨j, hj, rfl⟩ := List.getElem_of_mem hb
    rw [List.length_take] at hi
    rw [List.length_drop] at hj
    rw [List.getElem_take, List.getElem_drop]
    exact ho.trans _ _ _ (asc_le ho hy (i := i) (j := t - 1) (by omega) (by omega)) (ho.trans _ _ _ (h2 (by omega) (by omega)) (asc_le ho hx (i := s) (j := s + j) (by omega) (by omega)))
  intro a ha b hb
  rcases List.mem_append.1 ha with ha | ha <;> rcases List.mem_append.1 hb with hb | hb
  · exact xx a ha b hb
  · exact xy a ha b hb
  · exact yx a ha b hb
  · exact yy a ha b hb
theorem asc_take {l : List ε} (h : Asc le l) (k : Nat) : Asc le (l.take k) := h.sublist (List.take_sublist k l)
theorem asc_drop {l : List ε} (h : Asc le l) (k : Nat) : Asc le (l.drop k) := h.sublist (List.drop_sublist k l)
def swp (l : List ε) (i j : Nat) : List ε := match l[i]?, l[j]? with
  | some x, some y => (l.set i y).set j x
  | _, _ => l
theorem swp_len (l : List ε) (i j : Nat) : (swp l i j).length = l.length := by
  unfold swp
  split <;> simp
theorem swp_eq {l : List ε} {i j : Nat} (hi : i < l.length) (hj : j < l.length) : swp l i j = (l.set i l[j]).set j l[i] := by
  unfold swp
  rw [List.getElem?_eq_getElem hi, List.getElem?_eq_getElem hj]
theorem swp_next (a : List ε) (x y : ε) (b : List ε) : swp (a ++ x :: y :: b) a.length (a.length + 1) = a ++ y :: x :: b := by
  rw [swp_eq (by simp) (by simp)]
  simp [List.getElem_append_right, List.set_append]
theorem swp_far (a : List ε) (x : ε) (b : List ε) (y : ε) (c : List ε) : swp (a ++ x :: (b ++ y :: c)) a.length (a.length + 1 + b.length) = a ++ y :: (b ++ x :: c) := by
  have e : a ++ x :: (b ++ y :: c) = (a ++ x :: b) ++ y :: c := by simp
  have h1 : a.length < (a ++ x :: (b ++ y :: c)).length := by simp
  have h2 : a.length + 1 + b.length < (a ++ x :: (b ++ y :: c)).length := by simp; omega
  rw [swp_eq h1 h2]
  have g1 : (a ++ x :: (b ++ y :: c))[a.length]'h1 = x := by simp
  have g2 : (a ++ x :: (b ++ y :: c))[a.length + 1 + b.length]'h2 = y := by
    have : (a ++ x :: (b ++ y :: c))[a.length + 1 + b.length]? = some y := by
      rw [e, List.getElem?_append_right (by simp; omega)]
      simp
      rw [show a.length + 1 + b.length - (a.length + (b.length + 1)) = 0 by omega]
      rfl
    rw [List.getElem?_eq_getElem h2] at this
    exact Option.some.inj this
  rw [g1, g2]
  apply List.ext_getElem?
  intro k
  by_cases hk : k = a.length + 1 + b.length
  · subst hk
    rw [List.getElem?_set_self (by simp; omega)]
    have e2 : a ++ y :: (b ++ x :: c) = (a ++ y :: b) ++ x :: c := by simp
    rw [e2, List.getElem?_append_right (by simp; omega)]
    simp
    rw [show a.length + 1 + b.length - (a.length + (b.length + 1)) = 0 by omega]
    rfl
  · rw [List.getElem?_set_ne (by omega)]
    by_cases hk2 : k = a.length
    · subst hk2
      rw [List.getElem?_set_self h1]
      simp
    · rw [List.getElem?_set_ne (by omega)]
      by_cases hk3 : k < a.length
      · rw [List.getElem?_append_left hk3, List.getElem?_append_left hk3]
      · rw [List.getElem?_append_right (by omega), List.getElem?_append_right (by omega)]
        obtain ⟨m, hm⟩ : ∃ m, k - a.length = m + 1 := ⟨k - a.length - 1, by omega⟩
        rw [hm, List.getElem?_cons_succ, List.getElem?_cons_succ]
        by_cases hm2 : m < b.length
        · rw [List.getElem?_append_left hm2, List.getElem?_append_left hm2]
        · rw [List.getElem?_append_right (by omega), List.getElem?_append_right (by omega)]
          obtain ⟨q, hq⟩ : ∃ q, m - b.length = q + 1 := ⟨m - b.length - 1, by omega⟩
          rw [hq, List.getElem?_cons_succ, List.getElem?_cons_succ]
structure Chunks (le : ε → ε → Prop) (bs : Nat) (cs : List (List ε)) (rest : List ε) : Prop where
  len : ∀ c ∈ cs, c.length = bs
  asc : ∀ c ∈ cs, Asc le c
  last : Asc le rest
  short : rest.length < bs
end
end Go.Vc
end

