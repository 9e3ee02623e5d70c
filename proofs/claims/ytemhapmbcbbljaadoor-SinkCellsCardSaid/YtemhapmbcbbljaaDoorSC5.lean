/-
  The conditions of the walks of some functions, one formula each; 'B<f>_run' says that they suffice. The formulas are printed by a program; the kernel compares them with the functions' code.
-/
import Derived.Test.YtemhapmbcbbljaaDoorSC4
import Derived.WalkKit
import Derived.Test.YtemhapmbcbbljaaDoorSC1
import Derived.Shelf.Strings.Builder1
import Derived.Shelf.Strconv.Itoa3
import Derived.Lib.AppendStr
import Derived.Lib.LaidTab
import Derived.LaidMore
import Derived.OpenShut
import Derived.Stop.Joined
import Derived.MapKept

set_option linter.unusedVariables false
set_option linter.unusedSimpArgs false
section
namespace Go.Proofs.YtemhapmbcbbljaaDoor
set_option maxRecDepth 100000
open Go.Vc
def Berratalaw43_small  (W : World) (R : List Own) (Φ : PW) (J : Value → World → Prop) : Prop :=
  ∀ w0 R1, Ctx W w0 (R ++ R1) Φ → Calls Tryd.prog F.sink_New #[.int .i64 2, .slice none 0 0] w0 fun e2 w3 => ∃ p4, e2 = .returned (.pointer p4) ∧ ∃ R5 Φ6, Stable Φ6 ∧ Ctx W w3 (R5 ++ R1) Φ6 ∧ ∀ w7 R8, Ctx W w7 (R5 ++ R8) Φ6 → Calls Tryd.prog F.sink_New #[.int .i64 2, .slice none 0 0] w7 fun e9 w10 => ∃ p11, e9 = .returned (.pointer p11) ∧ ∃ R12 Φ13, Stable Φ13 ∧ Ctx W w10 (R12 ++ R8) Φ13 ∧ ∀ w14 R15, Ctx W w14 (R12 ++ R15) Φ13 → Br (p4.isNone || p11.isNone) (∀ w16 R17, Ctx W w16 (R12 ++ R17) Φ13 → J (.bool false) w16) (∀ w18 R19, Ctx W w18 (R12 ++ R19) Φ13 → Calls Tryd.prog F.erratalaw43_line #[.int .i64 3, .int .i64 5] w18 fun e20 w21 => ∃ n22 n23 n24 p25 k26 k27 n28 n29 n30, e20 = .returned (Value.agg #[.int .i64 n22, .int .i64 n23, .int .i64 n24, .slice p25 k26 k27, .int .i64 n28, .int .i64 n29, .int .i64 n30]) ∧ ∃ R31 Φ32, Stable Φ32 ∧ Ctx W w21 (R31 ++ R19) Φ32 ∧ ∀ (k33 : Nat) (w34 :
  World) (R35 : List Own), Ctx W w34 (Own.blk k33 [.int .i64 n22, .int .i64 n23, .int .i64 n24, .slice p25 k26 k27, .int .i64 n28, .int .i64 n29, .int .i64 n30] 37 :: R31 ++ R35) Φ32 → Calls Tryd.prog F.sink_Sink_Deliver #[.pointer p4, .int .i64 5, .slice (some (Addr.mk k33 0 none)) 1 1] w34 fun e36 w37 => ∃ n38, e36 = .returned (.int .i64 n38) ∧ ∃ R39 Φ40, Stable Φ40 ∧ Ctx W w37 (R39 ++ R35) Φ40 ∧ ∀ w41 R42, Ctx W w41 (R39 ++ R42) Φ40 → Calls Tryd.prog F.erratalaw43_line #[.int .i64 1, .int .i64 3] w41 fun e43 w44 => ∃ n45 n46 n47 p48 k49 k50 n51 n52 n53, e43 = .returned (Value.agg #[.int .i64 n45, .int .i64 n46, .int .i64 n47, .slice p48 k49 k50, .int .i64 n51, .int .i64 n52, .int .i64 n53]) ∧ ∃ R54 Φ55, Stable Φ55 ∧ Ctx W w44 (R54 ++ R42) Φ55 ∧ ∀ w56 R57, Ctx W w56 (R54 ++ R57) Φ55 → Calls Tryd.prog F.erratalaw43_line #[.int .i64 2, .int .i64 3] w56 fun e58 w59 => ∃ n60 n61 n62 p63 k64
  k65 n66 n67 n68, e58 = .returned (Value.agg #[.int .i64 n60, .int .i64 n61, .int .i64 n62, .slice p63 k64 k65, .int .i64 n66, .int .i64 n67, .int .i64 n68]) ∧ ∃ R69 Φ70, Stable Φ70 ∧ Ctx W w59 (R69 ++ R57) Φ70 ∧ ∀ (k71 : Nat) (w72 : World) (R73 : List Own), Ctx W w72 (Own.blk k71 [.int .i64 n45, .int .i64 n46, .int .i64 n47, .slice p48 k49 k50, .int .i64 n51, .int .i64 n52, .int .i64 n53, .int .i64 n60, .int .i64 n61, .int .i64 n62, .slice p63 k64 k65, .int .i64 n66, .int .i64 n67, .int .i64 n68] 37 :: R69 ++ R73) Φ70 → Calls Tryd.prog F.sink_Sink_Deliver #[.pointer p4, .int .i64 3, .slice (some (Addr.mk k71 0 none)) 2 2] w72 fun e74 w75 => ∃ n76, e74 = .returned (.int .i64 n76) ∧ ∃ R77 Φ78, Stable Φ78 ∧ Ctx W w75 (R77 ++ R73) Φ78 ∧ ∀ w79 R80, Ctx W w79 (R77 ++ R80) Φ78 → Calls Tryd.prog F.erratalaw43_line #[.int .i64 1, .int .i64 3] w79 fun e81 w82 => ∃ n83 n84 n85 p86 k87 k88 n89 n90
  n91, e81 = .returned (Value.agg #[.int .i64 n83, .int .i64 n84, .int .i64 n85, .slice p86 k87 k88, .int .i64 n89, .int .i64 n90, .int .i64 n91]) ∧ ∃ R92 Φ93, Stable Φ93 ∧ Ctx W w82 (R92 ++ R80) Φ93 ∧ ∀ w94 R95, Ctx W w94 (R92 ++ R95) Φ93 → Calls Tryd.prog F.erratalaw43_line #[.int .i64 2, .int .i64 3] w94 fun e96 w97 => ∃ n98 n99 n100 p101 k102 k103 n104 n105 n106, e96 = .returned (Value.agg #[.int .i64 n98, .int .i64 n99, .int .i64 n100, .slice p101 k102 k103, .int .i64 n104, .int .i64 n105, .int .i64 n106]) ∧ ∃ R107 Φ108, Stable Φ108 ∧ Ctx W w97 (R107 ++ R95) Φ108 ∧ ∀ (k109 : Nat) (w110 : World) (R111 : List Own), Ctx W w110 (Own.blk k109 [.int .i64 n83, .int .i64 n84, .int .i64 n85, .slice p86 k87 k88, .int .i64 n89, .int .i64 n90, .int .i64 n91, .int .i64 n98, .int .i64 n99, .int .i64 n100, .slice p101 k102 k103, .int .i64 n104, .int .i64 n105, .int .i64 n106] 37 :: R107 ++ R111)
  Φ108 → Calls Tryd.prog F.sink_Sink_Deliver #[.pointer p11, .int .i64 3, .slice (some (Addr.mk k109 0 none)) 2 2] w110 fun e112 w113 => ∃ n114, e112 = .returned (.int .i64 n114) ∧ ∃ R115 Φ116, Stable Φ116 ∧ Ctx W w113 (R115 ++ R111) Φ116 ∧ ∀ w117 R118, Ctx W w117 (R115 ++ R118) Φ116 → Calls Tryd.prog F.erratalaw43_line #[.int .i64 3, .int .i64 5] w117 fun e119 w120 => ∃ n121 n122 n123 p124 k125 k126 n127 n128 n129, e119 = .returned (Value.agg #[.int .i64 n121, .int .i64 n122, .int .i64 n123, .slice p124 k125 k126, .int .i64 n127, .int .i64 n128, .int .i64 n129]) ∧ ∃ R130 Φ131, Stable Φ131 ∧ Ctx W w120 (R130 ++ R118) Φ131 ∧ ∀ (k132 : Nat) (w133 : World) (R134 : List Own), Ctx W w133 (Own.blk k132 [.int .i64 n121, .int .i64 n122, .int .i64 n123, .slice p124 k125 k126, .int .i64 n127, .int .i64 n128, .int .i64 n129] 37 :: R130 ++ R134) Φ131 → Calls Tryd.prog F.sink_Sink_Deliver #[.pointer
  p11, .int .i64 5, .slice (some (Addr.mk k132 0 none)) 1 1] w133 fun e135 w136 => ∃ n137, e135 = .returned (.int .i64 n137) ∧ ∃ R138 Φ139, Stable Φ139 ∧ Ctx W w136 (R138 ++ R134) Φ139 ∧ ∀ w140 R141, Ctx W w140 (R138 ++ R141) Φ139 → Calls Tryd.prog F.sink_Sink_Deliver #[.pointer p11, .int .i64 4, .slice none 0 0] w140 fun e142 w143 => ∃ n144, e142 = .returned (.int .i64 n144) ∧ ∃ R145 Φ146, Stable Φ146 ∧ Ctx W w143 (R145 ++ R141) Φ146 ∧ Br (decide (n38 = 25)) (Br (decide (n76 = 0)) (Br (decide (n114 = 0)) (Br (decide (n137 = 0)) (Br (decide (n144 = 25)) (∀ w147 R148, Ctx W w147 (R145 ++ R148) Φ146 → Calls Tryd.prog F.sink_Sink_Last #[.pointer p11] w147 fun e149 w150 => ∃ n151, e149 = .returned (.int .i64 n151) ∧ ∃ R152 Φ153, Stable Φ153 ∧ Ctx W w150 (R152 ++ R148) Φ153 ∧ Br (decide (n151 = 5)) (∀ w154 R155, Ctx W w154 (R152 ++ R155) Φ153 → Calls Tryd.prog F.sink_Sink_Lines #[.pointer p11]
  w154 fun e156 w157 => ∃ n158, e156 = .returned (.int .i64 n158) ∧ ∃ R159 Φ160, Stable Φ160 ∧ Ctx W w157 (R159 ++ R155) Φ160 ∧ ∀ w161 R162, Ctx W w161 (R159 ++ R162) Φ160 → J (.bool (decide (n158 = 3))) w161) (∀ w163 R164, Ctx W w163 (R152 ++ R164) Φ153 → J (.bool false) w163)) (∀ w165 R166, Ctx W w165 (R145 ++ R166) Φ146 → J (.bool false) w165)) (∀ w167 R168, Ctx W w167 (R145 ++ R168) Φ146 → J (.bool false) w167)) (∀ w169 R170, Ctx W w169 (R145 ++ R170) Φ146 → J (.bool false) w169)) (∀ w171 R172, Ctx W w171 (R145 ++ R172) Φ146 → J (.bool false) w171)) (∀ w173 R174, Ctx W w173 (R145 ++ R174) Φ146 → J (.bool false) w173))
theorem Berratalaw43_small_run  {W w : World} {R : List Own} {Φ : PW} [Stable Φ] {J : Value → World → Prop} (c : Ctx W w R Φ) (h : Berratalaw43_small  W R Φ J) : Calls Tryd.prog F.erratalaw43_small #[] w fun e w' => ∃ v, e = .returned v ∧ J v w' :=
  vcFS_sound (H := { keep := some [0, 1, 2, 3, 4, 5, 6, 7, 15], split := [10] }) (by rw [show vcFS Tryd.prog W { keep := some [0, 1, 2, 3, 4, 5, 6, 7, 15], split := [10] } F.erratalaw43_small #[] R Φ J = Berratalaw43_small  W R Φ J by kernel_rfl]; exact h) c
def Bsink_New (kind : Int) (keyP : Option Addr) (keyN keyC : Nat) (W : World) (R : List Own) (Φ : PW) (J : Value → World → Prop) : Prop :=
  Br (decide (kind < 0)) (∀ w0 R1, Ctx W w0 (R ++ R1) Φ → J (.pointer none) w0) (Br (decide (3 ≤ kind)) (∀ w2 R3, Ctx W w2 (R ++ R3) Φ → J (.pointer none) w2) (Br (decide (0 < (↑keyN : Int))) (Br (decide (kind ≠ 1)) (∀ w4 R5, Ctx W w4 (R ++ R5) Φ → J (.pointer none) w4) (∀ w6 R7, Ctx W w6 (R ++ R7) Φ → Calls Tryd.prog F.slices_Min_int_int #[.slice keyP keyN keyC] w6 fun e8 w9 => ∃ n10, e8 = .returned (.int .i64 n10) ∧ ∃ R11 Φ12, Stable Φ12 ∧ Ctx W w9 (R11 ++ R7) Φ12 ∧ Br (decide (n10 < 0)) (∀ w13 R14, Ctx W w13 (R11 ++ R14) Φ12 → J (.pointer none) w13) (∀ w15 R16, Ctx W w15 (R11 ++ R16) Φ12 → Calls Tryd.prog F.slices_Clone_int_int #[.slice keyP keyN keyC] w15 fun e17 w18 => ∃ p19 k20 k21, e17 = .returned (.slice p19 k20 k21) ∧ ∃ R22 Φ23, Stable Φ23 ∧ Ctx W w18 (R22 ++ R16) Φ23 ∧ ∀ (k24 : Nat) (w25 : World) (R26 : List Own), Ctx W w25 (Own.blk k24 [.int .i64 kind, .slice p19 k20 k21,
  .slice none 0 0, .slice none 0 0, .int .i64 0, .slice none 0 0] 53 :: R22 ++ R26) Φ23 → J (.pointer (some (Addr.mk k24 0 none))) w25))) (∀ w27 R28, Ctx W w27 (R ++ R28) Φ → Calls Tryd.prog F.slices_Clone_int_int #[.slice keyP keyN keyC] w27 fun e29 w30 => ∃ p31 k32 k33, e29 = .returned (.slice p31 k32 k33) ∧ ∃ R34 Φ35, Stable Φ35 ∧ Ctx W w30 (R34 ++ R28) Φ35 ∧ ∀ (k36 : Nat) (w37 : World) (R38 : List Own), Ctx W w37 (Own.blk k36 [.int .i64 kind, .slice p31 k32 k33, .slice none 0 0, .slice none 0 0, .int .i64 0, .slice none 0 0] 53 :: R34 ++ R38) Φ35 → J (.pointer (some (Addr.mk k36 0 none))) w37)))
theorem Bsink_New_run (kind : Int) (keyP : Option Addr) (keyN keyC : Nat) {W w : World} {R : List Own} {Φ : PW} [Stable Φ] {J : Value → World → Prop} (c : Ctx W w R Φ) (h : Bsink_New kind keyP keyN keyC W R Φ J) : Calls Tryd.prog F.sink_New #[.int .i64 kind, .slice keyP keyN keyC] w fun e w' => ∃ v, e = .returned v ∧ J v w' :=
  vcFS_sound (H := { keep := some [0, 1, 4, 24], split := [1] }) (by rw [show vcFS Tryd.prog W { keep := some [0, 1, 4, 24], split := [1] } F.sink_New #[.int .i64 kind, .slice keyP keyN keyC] R Φ J = Bsink_New kind keyP keyN keyC W R Φ J by kernel_rfl]; exact h) c
def Berratalaw43_few (lP : Option Addr) (lN lC : Nat) (n : Int) (W : World) (R : List Own) (Φ : PW) (J : Value → World → Prop) : Prop :=
  exI fun (I0 : Int → List Own → PW → Nat → Prop) => (∃ R1 Φ2 k3, Stable Φ2 ∧ Wk W R Φ R1 Φ2 ∧ I0 0 R1 Φ2 k3) ∧ ∀ n6 R7 I8 k9, Stable I8 → I0 n6 R7 I8 k9 → Br (decide (n6 < (↑lN : Int))) ((0 ≤ n6 ∧ n6 < (↑lN : Int)) ∧ ptrK none lP fun k10 k11 => ∀ w12 R13, Ctx W w12 (R7 ++ R13) I8 → ∃ p14 k15 k16, w12.cell? (Addr.mk k10 (k11 + n6.toNat * 3 + 2) none) = some (.slice p14 k15 k16) ∧ ∀ w17 R18, Ctx W w17 (R7 ++ R18) I8 → Calls Tryd.prog F.errataref43_Few #[.slice p14 k15 k16, .int .i64 8] w17 fun e19 w20 => ∃ c21, e19 = .returned (.bool c21) ∧ ∃ R22 Φ23, Stable Φ23 ∧ Ctx W w20 (R22 ++ R18) Φ23 ∧ Br (!c21) (∀ w24 R25, Ctx W w24 (R22 ++ R25) Φ23 → J (.bool false) w24) (I64 (n6 + 1) ∧ ∃ R26 Φ27 k28, Stable Φ27 ∧ Wk W R22 Φ23 R26 Φ27 ∧ I0 (n6 + 1) R26 Φ27 k28 ∧ k28 < k9)) (∀ w31 R32, Ctx W w31 (R7 ++ R32) I8 → J (.bool (decide ((↑lN : Int) ≤ n))) w31)
theorem Berratalaw43_few_run (lP : Option Addr) (lN lC : Nat) (n : Int) {W w : World} {R : List Own} {Φ : PW} [Stable Φ] {J : Value → World → Prop} (c : Ctx W w R Φ) (h : Berratalaw43_few lP lN lC n W R Φ J) : Calls Tryd.prog F.erratalaw43_few #[.slice lP lN lC, .int .i64 n] w fun e w' => ∃ v, e = .returned v ∧ J v w' :=
  vcFS_sound (H := { keep := some [0, 1, 4, 5, 9, 18], loops := [(2, [(5, .one (.int .i64))], [])] }) (by rw [show vcFS Tryd.prog W { keep := some [0, 1, 4, 5, 9, 18], loops := [(2, [(5, .one (.int .i64))], [])] } F.erratalaw43_few #[.slice lP lN lC, .int .i64 n] R Φ J = Berratalaw43_few lP lN lC n W R Φ J by kernel_rfl]; exact h) c
def Bsink_Sink_Has (sB sO : Nat) (batch : Int) (W : World) (R : List Own) (Φ : PW) (J : Value → World → Prop) : Prop :=
  ∀ w0 R1, Ctx W w0 (R ++ R1) Φ → ∃ p2 k3 k4, w0.cell? (Addr.mk sB (sO + 2) none) = some (.slice p2 k3 k4) ∧ ∀ w5 R6, Ctx W w5 (R ++ R6) Φ → Calls Tryd.prog F.slices_BinarySearch_int_int #[.slice p2 k3 k4, .int .i64 batch] w5 fun e7 w8 => ∃ n9 c10, e7 = .returned (Value.tuple #[.int .i64 n9, .bool c10]) ∧ ∃ R11 Φ12, Stable Φ12 ∧ Ctx W w8 (R11 ++ R6) Φ12 ∧ ∀ w13 R14, Ctx W w13 (R11 ++ R14) Φ12 → J (.bool c10) w13
theorem Bsink_Sink_Has_run (sB sO : Nat) (batch : Int) {W w : World} {R : List Own} {Φ : PW} [Stable Φ] {J : Value → World → Prop} (c : Ctx W w R Φ) (h : Bsink_Sink_Has sB sO batch W R Φ J) : Calls Tryd.prog F.sink_Sink_Has #[.pointer (some ⟨sB, sO, none⟩), .int .i64 batch] w fun e w' => ∃ v, e = .returned v ∧ J v w' :=
  vcFS_sound (H := { keep := some [0, 1, 4, 6] }) (by rw [show vcFS Tryd.prog W { keep := some [0, 1, 4, 6] } F.sink_Sink_Has #[.pointer (some ⟨sB, sO, none⟩), .int .i64 batch] R Φ J = Bsink_Sink_Has sB sO batch W R Φ J by kernel_rfl]; exact h) c
def Bsink_Sink_Deliver (sB sO : Nat) (batch : Int) (linesP : Option Addr) (linesN linesC : Nat) (W : World) (R : List Own) (Φ : PW) (J : Value → World → Prop) : Prop :=
  ∀ w0 R1, Ctx W w0 (R ++ R1) Φ → ∃ n2, w0.cell? (Addr.mk sB sO none) = some (.int .i64 n2) ∧ Br (decide (n2 = 0)) (∀ w3 R4, Ctx W w3 (R ++ R4) Φ → J (.int .i64 7) w3) (∀ w5 R6, Ctx W w5 (R ++ R6) Φ → Calls Tryd.prog F.sink_Sink_Has #[.pointer (some (Addr.mk sB sO none)), .int .i64 batch] w5 fun e7 w8 => ∃ c9, e7 = .returned (.bool c9) ∧ ∃ R10 Φ11, Stable Φ11 ∧ Ctx W w8 (R10 ++ R6) Φ11 ∧ Br c9 (∀ w12 R13, Ctx W w12 (R10 ++ R13) Φ11 → J (.int .i64 0) w12) (∀ w14 R15, Ctx W w14 (R10 ++ R15) Φ11 → Calls Tryd.prog F.sink_Sink_look #[.pointer (some (Addr.mk sB sO none)), .int .i64 batch, .slice linesP linesN linesC] w14 fun e16 w17 => ∃ n18, e16 = .returned (.int .i64 n18) ∧ ∃ R19 Φ20, Stable Φ20 ∧ Ctx W w17 (R19 ++ R15) Φ20 ∧ Br (decide (n18 ≠ 0)) (∀ w21 R22, Ctx W w21 (R19 ++ R22) Φ20 → J (.int .i64 n18) w21) (∀ w23 R24, Ctx W w23 (R19 ++ R24) Φ20 → Calls Tryd.prog F.sink_clone #[.slice
  linesP linesN linesC] w23 fun e25 w26 => ∃ p27 k28 k29, e25 = .returned (.slice p27 k28 k29) ∧ ∃ R30 Φ31, Stable Φ31 ∧ Ctx W w26 (R30 ++ R24) Φ31 ∧ ∀ w32 R33, Ctx W w32 (R30 ++ R33) Φ31 → Calls Tryd.prog F.sink_Sink_take #[.pointer (some (Addr.mk sB sO none)), .int .i64 batch, .slice p27 k28 k29] w32 fun e34 w35 => e34 = .returned (Value.tuple #[]) ∧ ∃ R36 Φ37, Stable Φ37 ∧ Ctx W w35 (R36 ++ R33) Φ37 ∧ ∀ w38 R39, Ctx W w38 (R36 ++ R39) Φ37 → J (.int .i64 0) w38)))
theorem Bsink_Sink_Deliver_run (sB sO : Nat) (batch : Int) (linesP : Option Addr) (linesN linesC : Nat) {W w : World} {R : List Own} {Φ : PW} [Stable Φ] {J : Value → World → Prop} (c : Ctx W w R Φ) (h : Bsink_Sink_Deliver sB sO batch linesP linesN linesC W R Φ J) : Calls Tryd.prog F.sink_Sink_Deliver #[.pointer (some ⟨sB, sO, none⟩), .int .i64 batch, .slice linesP linesN linesC] w fun e w' => ∃ v, e = .returned v ∧ J v w' :=
  vcFS_sound (H := { keep := some [0, 1, 2, 6, 7, 8, 14, 23] }) (by rw [show vcFS Tryd.prog W { keep := some [0, 1, 2, 6, 7, 8, 14, 23] } F.sink_Sink_Deliver #[.pointer (some ⟨sB, sO, none⟩), .int .i64 batch, .slice linesP linesN linesC] R Φ J = Bsink_Sink_Deliver sB sO batch linesP linesN linesC W R Φ J by kernel_rfl]; exact h) c
def Berratalaw43_line (no : Int) (batch : Int) (W : World) (R : List Own) (Φ : PW) (J : Value → World → Prop) : Prop :=
  ∀ (b k0 : Nat) (w1 : World) (R2 : List Own), Ctx W w1 (Own.blk k0 [Value.int IntKind.i64 0, Value.int IntKind.i64 no, Value.string (ByteArray.mk #[])] 44 :: R ++ R2) Φ → J (Value.agg #[.int .i64 no, .int .i64 batch, .int .i64 no, .slice (some (Addr.mk k0 0 none)) 1 1, .int .i64 1, .int .i64 0, .int .i64 0]) w1
theorem Berratalaw43_line_run (no : Int) (batch : Int) {W w : World} {R : List Own} {Φ : PW} [Stable Φ] {J : Value → World → Prop} (c : Ctx W w R Φ) (h : Berratalaw43_line no batch W R Φ J) : Calls Tryd.prog F.erratalaw43_line #[.int .i64 no, .int .i64 batch] w fun e w' => ∃ v, e = .returned v ∧ J v w' :=
  vcFS_sound (H := { keep := some [0, 1, 4], track := [4] }) (by rw [show vcFS Tryd.prog W { keep := some [0, 1, 4], track := [4] } F.erratalaw43_line #[.int .i64 no, .int .i64 batch] R Φ J = Berratalaw43_line no batch W R Φ J by kernel_rfl]; exact h) c
def Bsink_Sink_Last (sB sO : Nat) (W : World) (R : List Own) (Φ : PW) (J : Value → World → Prop) : Prop :=
  ∀ w0 R1, Ctx W w0 (R ++ R1) Φ → ∃ p2 k3 k4, w0.cell? (Addr.mk sB (sO + 2) none) = some (.slice p2 k3 k4) ∧ Br (decide ((↑k3 : Int) = 0)) (∀ w5 R6, Ctx W w5 (R ++ R6) Φ → J (.int .i64 0) w5) (∀ w7 R8, Ctx W w7 (R ++ R8) Φ → ∃ p9 k10 k11, w7.cell? (Addr.mk sB (sO + 2) none) = some (.slice p9 k10 k11) ∧ ∃ p12 k13 k14, w7.cell? (Addr.mk sB (sO + 2) none) = some (.slice p12 k13 k14) ∧ I64 ((↑k13 : Int) - 1) ∧ (0 ≤ (↑k13 : Int) - 1 ∧ (↑k13 : Int) - 1 < (↑k10 : Int)) ∧ ptrK none p9 fun k15 k16 => ∃ n17, w7.cell? (Addr.mk k15 (k16 + ((↑k13 : Int) - 1).toNat) none) = some (.int .i64 n17) ∧ ∀ w18 R19, Ctx W w18 (R ++ R19) Φ → J (.int .i64 n17) w18)
theorem Bsink_Sink_Last_run (sB sO : Nat) {W w : World} {R : List Own} {Φ : PW} [Stable Φ] {J : Value → World → Prop} (c : Ctx W w R Φ) (h : Bsink_Sink_Last sB sO W R Φ J) : Calls Tryd.prog F.sink_Sink_Last #[.pointer (some ⟨sB, sO, none⟩)] w fun e w' => ∃ v, e = .returned v ∧ J v w' :=
  vcFS_sound (H := { keep := some [0, 2, 8] }) (by rw [show vcFS Tryd.prog W { keep := some [0, 2, 8] } F.sink_Sink_Last #[.pointer (some ⟨sB, sO, none⟩)] R Φ J = Bsink_Sink_Last sB sO W R Φ J by kernel_rfl]; exact h) c
def Bsink_Sink_Lines (sB sO : Nat) (W : World) (R : List Own) (Φ : PW) (J : Value → World → Prop) : Prop :=
  ∀ w0 R1, Ctx W w0 (R ++ R1) Φ → ∃ p2 k3 k4, w0.cell? (Addr.mk sB (sO + 3) none) = some (.slice p2 k3 k4) ∧ ∀ w5 R6, Ctx W w5 (R ++ R6) Φ → J (.int .i64 (↑k3 : Int)) w5
theorem Bsink_Sink_Lines_run (sB sO : Nat) {W w : World} {R : List Own} {Φ : PW} [Stable Φ] {J : Value → World → Prop} (c : Ctx W w R Φ) (h : Bsink_Sink_Lines sB sO W R Φ J) : Calls Tryd.prog F.sink_Sink_Lines #[.pointer (some ⟨sB, sO, none⟩)] w fun e w' => ∃ v, e = .returned v ∧ J v w' :=
  vcFS_sound (H := { keep := some [0, 2] }) (by rw [show vcFS Tryd.prog W { keep := some [0, 2] } F.sink_Sink_Lines #[.pointer (some ⟨sB, sO, none⟩)] R Φ J = Bsink_Sink_Lines sB sO W R Φ J by kernel_rfl]; exact h) c
def Bslices_Min_int_int (xP : Option Addr) (xN xC : Nat) (W : World) (R : List Own) (Φ : PW) (J : Value → World → Prop) : Prop :=
  Br (decide ((↑xN : Int) < 1)) (∀ w0 R1, Ctx W w0 (R ++ R1) Φ → False) (((0 : Int) ≤ 0 ∧ 0 < (↑xN : Int)) ∧ ptrK none xP fun k2 k3 => ∀ w4 R5, Ctx W w4 (R ++ R5) Φ → ∃ n6, w4.cell? (Addr.mk k2 k3 none) = some (.int .i64 n6) ∧ exI fun (I7 : Int → Int → List Own → PW → Nat → Prop) => (∃ R8 Φ9 k10, Stable Φ9 ∧ Wk W R Φ R8 Φ9 ∧ I7 n6 1 R8 Φ9 k10) ∧ ∀ n13 n14 R15 I16 k17, Stable I16 → I7 n13 n14 R15 I16 k17 → Br (decide (n14 < (↑xN : Int))) ((0 ≤ n14 ∧ n14 < (↑xN : Int)) ∧ ptrK none xP fun k18 k19 => ∀ w20 R21, Ctx W w20 (R15 ++ R21) I16 → ∃ n22, w20.cell? (Addr.mk k18 (k19 + n14.toNat) none) = some (.int .i64 n22) ∧ I64 (n14 + 1) ∧ ∃ R23 Φ24 k25, Stable Φ24 ∧ Wk W R15 I16 R23 Φ24 ∧ I7 (min n13 n22) (n14 + 1) R23 Φ24 k25 ∧ k25 < k17) (∀ w28 R29, Ctx W w28 (R15 ++ R29) I16 → J (.int .i64 n13) w28))
theorem Bslices_Min_int_int_run (xP : Option Addr) (xN xC : Nat) {W w : World} {R : List Own} {Φ : PW} [Stable Φ] {J : Value → World → Prop} (c : Ctx W w R Φ) (h : Bslices_Min_int_int xP xN xC W R Φ J) : Calls Tryd.prog F.slices_Min_int_int #[.slice xP xN xC] w fun e w' => ∃ v, e = .returned v ∧ J v w' :=
  vcFS_sound (H := { keep := some [0, 2, 3, 4, 7, 15], loops := [(5, [(3, .one (.int .i64)), (4, .one (.int .i64))], [])] }) (by rw [show vcFS Tryd.prog W { keep := some [0, 2, 3, 4, 7, 15], loops := [(5, [(3, .one (.int .i64)), (4, .one (.int .i64))], [])] } F.slices_Min_int_int #[.slice xP xN xC] R Φ J = Bslices_Min_int_int xP xN xC W R Φ J by kernel_rfl]; exact h) c
def Bslices_Clone_int_int (sP : Option Addr) (sN sC : Nat) (W : World) (R : List Own) (Φ : PW) (J : Value → World → Prop) : Prop :=
  Br sP.isNone (∀ w0 R1, Ctx W w0 (R ++ R1) Φ → J (.slice none 0 0) w0) (∀ (k2 : Nat) (w3 : World) (R4 : List Own), Ctx W w3 (Own.blk k2 [] 3 :: R ++ R4) Φ → ∃ (p5 : Option Addr) (k6 k7 : Nat) (w8 : World), Sem.run Tryd.prog (builtin Builtin.append #[22, 22] 22 #[false, false] #[.slice (some (Addr.mk k2 0 none)) 0 0, .slice sP sN sC]) w3 = .ok (.value (.slice p5 k6 k7)) w8 ∧ ∃ R9 Φ10, Stable Φ10 ∧ Ctx W w8 (R9 ++ R4) Φ10 ∧ ∀ w11 R12, Ctx W w11 (R9 ++ R12) Φ10 → J (.slice p5 k6 k7) w11)
theorem Bslices_Clone_int_int_run (sP : Option Addr) (sN sC : Nat) {W w : World} {R : List Own} {Φ : PW} [Stable Φ] {J : Value → World → Prop} (c : Ctx W w R Φ) (h : Bslices_Clone_int_int sP sN sC W R Φ J) : Calls Tryd.prog F.slices_Clone_int_int #[.slice sP sN sC] w fun e w' => ∃ v, e = .returned v ∧ J v w' :=
  vcFS_sound (H := { keep := some [0, 2, 4] }) (by rw [show vcFS Tryd.prog W { keep := some [0, 2, 4] } F.slices_Clone_int_int #[.slice sP sN sC] R Φ J = Bslices_Clone_int_int sP sN sC W R Φ J by kernel_rfl]; exact h) c
def Berrataref43_Few (lP : Option Addr) (lN lC : Nat) (n : Int) (W : World) (R : List Own) (Φ : PW) (J : Value → World → Prop) : Prop :=
  exI fun (I0 : Int → List Own → PW → Nat → Prop) => (∃ R1 Φ2 k3, Stable Φ2 ∧ Wk W R Φ R1 Φ2 ∧ I0 0 R1 Φ2 k3) ∧ ∀ n6 R7 I8 k9, Stable I8 → I0 n6 R7 I8 k9 → ∀ w10 R11, Ctx W w10 (R7 ++ R11) I8 → Br (decide (n6 < (↑lN : Int)) && decide (n6 ≤ n)) ((0 ≤ n6 ∧ n6 < (↑lN : Int)) ∧ ptrK none lP fun k12 k13 => ∀ w14 R15, Ctx W w14 (R7 ++ R15) I8 → ∃ p16 k17 k18, w14.cell? (Addr.mk k12 (k13 + n6.toNat * 7 + 3) none) = some (.slice p16 k17 k18) ∧ Br (decide (12 < (↑k17 : Int))) (∀ w19 R20, Ctx W w19 (R7 ++ R20) I8 → J (.bool false) w19) (exI fun (I21 : Int → List Own → PW → Nat → Prop) => (∃ R22 Φ23 k24, Stable Φ23 ∧ Wk W R7 I8 R22 Φ23 ∧ I21 0 R22 Φ23 k24) ∧ ∀ n27 R28 I29 k30, Stable I29 → I21 n27 R28 I29 k30 → (0 ≤ n6 ∧ n6 < (↑lN : Int)) ∧ ptrK none lP fun k31 k32 => ∀ w33 R34, Ctx W w33 (R28 ++ R34) I29 → ∃ p35 k36 k37, w33.cell? (Addr.mk k31 (k32 + n6.toNat * 7 + 3) none) = some (.slice p35 k36
  k37) ∧ Br (decide (n27 < (↑k36 : Int))) ((0 ≤ n6 ∧ n6 < (↑lN : Int)) ∧ ptrK none lP fun k38 k39 => ∀ w40 R41, Ctx W w40 (R28 ++ R41) I29 → ∃ p42 k43 k44, w40.cell? (Addr.mk k38 (k39 + n6.toNat * 7 + 3) none) = some (.slice p42 k43 k44) ∧ (0 ≤ n27 ∧ n27 < (↑k43 : Int)) ∧ ptrK none p42 fun k45 k46 => ∀ w47 R48, Ctx W w47 (R28 ++ R48) I29 → ∃ s49, w47.cell? (Addr.mk k45 (k46 + n27.toNat * 3 + 2) none) = some (.string s49) ∧ Br (decide (210 < (↑s49.size : Int))) (∀ w50 R51, Ctx W w50 (R28 ++ R51) I29 → J (.bool false) w50) (I64 (n27 + 1) ∧ ∃ R52 Φ53 k54, Stable Φ53 ∧ Wk W R28 I29 R52 Φ53 ∧ I21 (n27 + 1) R52 Φ53 k54 ∧ k54 < k30)) (I64 (n6 + 1) ∧ ∃ R57 Φ58 k59, Stable Φ58 ∧ Wk W R28 I29 R57 Φ58 ∧ I0 (n6 + 1) R57 Φ58 k59 ∧ k59 < k9))) (∀ w62 R63, Ctx W w62 (R7 ++ R63) I8 → J (.bool (decide ((↑lN : Int) ≤ n))) w62)
theorem Berrataref43_Few_run (lP : Option Addr) (lN lC : Nat) (n : Int) {W w : World} {R : List Own} {Φ : PW} [Stable Φ] {J : Value → World → Prop} (c : Ctx W w R Φ) (h : Berrataref43_Few lP lN lC n W R Φ J) : Calls Tryd.prog F.errataref43_Few #[.slice lP lN lC, .int .i64 n] w fun e w' => ∃ v, e = .returned v ∧ J v w' :=
  vcFS_sound (H := { keep := some [0, 1, 4, 5, 6, 15, 24, 32, 45], loops := [(7, [(6, .one (.int .i64))], []), (2, [(5, .one (.int .i64))], [])] }) (by rw [show vcFS Tryd.prog W { keep := some [0, 1, 4, 5, 6, 15, 24, 32, 45], loops := [(7, [(6, .one (.int .i64))], []), (2, [(5, .one (.int .i64))], [])] } F.errataref43_Few #[.slice lP lN lC, .int .i64 n] R Φ J = Berrataref43_Few lP lN lC n W R Φ J by kernel_rfl]; exact h) c
def Bslices_BinarySearch_int_int (xP : Option Addr) (xN xC : Nat) (target : Int) (W : World) (R : List Own) (Φ : PW) (J : Value → World → Prop) : Prop :=
  exI fun (I0 : Int → Int → List Own → PW → Nat → Prop) => (∃ R1 Φ2 k3, Stable Φ2 ∧ Wk W R Φ R1 Φ2 ∧ I0 0 (↑xN : Int) R1 Φ2 k3) ∧ ∀ n6 n7 R8 I9 k10, Stable I9 → I0 n6 n7 R8 I9 k10 → Br (decide (n6 < n7)) (I64 (n6 + n7) ∧ ∃ (n11 : Int), (∀ (w12 : World), Sem.run Tryd.prog (binOp BinOp.shr 71 (Value.int IntKind.u64 (IntKind.u64.wrap (n6 + n7))) (Value.int IntKind.u64 1)) w12 = Result.ok (Value.int IntKind.u64 n11) w12) ∧ (0 ≤ IntKind.i64.wrap n11 ∧ IntKind.i64.wrap n11 < (↑xN : Int)) ∧ ptrK none xP fun k13 k14 => ∀ w15 R16, Ctx W w15 (R8 ++ R16) I9 → ∃ n17, w15.cell? (Addr.mk k13 (k14 + (IntKind.i64.wrap n11).toNat) none) = some (.int .i64 n17) ∧ ∀ w18 R19, Ctx W w18 (R8 ++ R19) I9 → Calls Tryd.prog F.cmp_Less_int #[.int .i64 n17, .int .i64 target] w18 fun e20 w21 => ∃ c22, e20 = .returned (.bool c22) ∧ ∃ R23 Φ24, Stable Φ24 ∧ Ctx W w21 (R23 ++ R19) Φ24 ∧ Br c22 (I64 (IntKind.i64.wrap n11 +
  1) ∧ ∃ R25 Φ26 k27, Stable Φ26 ∧ Wk W R23 Φ24 R25 Φ26 ∧ I0 (IntKind.i64.wrap n11 + 1) n7 R25 Φ26 k27 ∧ k27 < k10) (∃ R30 Φ31 k32, Stable Φ31 ∧ Wk W R23 Φ24 R30 Φ31 ∧ I0 n6 (IntKind.i64.wrap n11) R30 Φ31 k32 ∧ k32 < k10)) (∀ w35 R36, Ctx W w35 (R8 ++ R36) I9 → (decide (n6 < (↑xN : Int)) = true → 0 ≤ n6 ∧ n6 < (↑xN : Int)) ∧ ptrK (some (decide (n6 < (↑xN : Int)))) xP fun k37 k38 => ∃ (n39 : Int), (decide (n6 < (↑xN : Int)) = true → w35.cell? (Addr.mk k37 (k38 + n6.toNat) none) = some (.int .i64 n39)) ∧ ((decide (n6 < (↑xN : Int)) && !decide (n39 = target)) = true → 0 ≤ n6 ∧ n6 < (↑xN : Int)) ∧ ptrK (some (decide (n6 < (↑xN : Int)) && !decide (n39 = target))) xP fun k40 k41 => ∃ (n42 : Int), ((decide (n6 < (↑xN : Int)) && !decide (n39 = target)) = true → w35.cell? (Addr.mk k40 (k41 + n6.toNat) none) = some (.int .i64 n42)) ∧ ∃ (c43 : Bool), ((decide (n6 < (↑xN : Int)) && !decide (n39 =
  target)) = true → ∀ (w44 : World), w44 = w35 → Calls Tryd.prog F.slices_isNaN_int #[.int .i64 n42] w44 fun e45 w46 => e45 = .returned (.bool c43) ∧ w46 = w35) ∧ ∃ (c47 : Bool), ((decide (n6 < (↑xN : Int)) && !decide (n39 = target) && c43) = true → ∀ (w48 : World), w48 = w35 → Calls Tryd.prog F.slices_isNaN_int #[.int .i64 target] w48 fun e49 w50 => e49 = .returned (.bool c47) ∧ w50 = w35) ∧ ∀ w51 R52, Ctx W w51 (R8 ++ R52) I9 → J (Value.tuple #[.int .i64 n6, .bool (decide (n6 < (↑xN : Int)) && (decide (n39 = target) || c43 && c47))]) w51)
theorem Bslices_BinarySearch_int_int_run (xP : Option Addr) (xN xC : Nat) (target : Int) {W w : World} {R : List Own} {Φ : PW} [Stable Φ] {J : Value → World → Prop} (c : Ctx W w R Φ) (h : Bslices_BinarySearch_int_int xP xN xC target W R Φ J) : Calls Tryd.prog F.slices_BinarySearch_int_int #[.slice xP xN xC, .int .i64 target] w fun e w' => ∃ v, e = .returned v ∧ J v w' :=
  vcFS_sound (H := { keep := some [0, 1, 4, 5, 6, 7, 8, 9, 15, 27], loops := [(3, [(7, .one (.int .i64)), (8, .one (.int .i64))], [])] }) (by rw [show vcFS Tryd.prog W { keep := some [0, 1, 4, 5, 6, 7, 8, 9, 15, 27], loops := [(3, [(7, .one (.int .i64)), (8, .one (.int .i64))], [])] } F.slices_BinarySearch_int_int #[.slice xP xN xC, .int .i64 target] R Φ J = Bslices_BinarySearch_int_int xP xN xC target W R Φ J by kernel_rfl]; exact h) c
def Bsink_Sink_look (sB sO : Nat) (batch : Int) (linesP : Option Addr) (linesN linesC : Nat) (W : World) (R : List Own) (Φ : PW) (J : Value → World → Prop) : Prop :=
  Br (decide (batch < 1)) (∀ w0 R1, Ctx W w0 (R ++ R1) Φ → J (.int .i64 25) w0) (∀ w2 R3, Ctx W w2 (R ++ R3) Φ → Calls Tryd.prog F.sink_Sink_Last #[.pointer (some (Addr.mk sB sO none))] w2 fun e4 w5 => ∃ n6, e4 = .returned (.int .i64 n6) ∧ ∃ R7 Φ8, Stable Φ8 ∧ Ctx W w5 (R7 ++ R3) Φ8 ∧ Br (decide (batch ≤ n6)) (∀ w9 R10, Ctx W w9 (R7 ++ R10) Φ8 → J (.int .i64 25) w9) (exI fun (I11 : Int → List Own → PW → Nat → Prop) => (∃ R12 Φ13 k14, Stable Φ13 ∧ Wk W R7 Φ8 R12 Φ13 ∧ I11 0 R12 Φ13 k14) ∧ ∀ n17 R18 I19 k20, Stable I19 → I11 n17 R18 I19 k20 → Br (decide (n17 < (↑linesN : Int))) ((0 ≤ n17 ∧ n17 < (↑linesN : Int)) ∧ ptrK none linesP fun k21 k22 => ∀ w23 R24, Ctx W w23 (R18 ++ R24) I19 → ∃ n25 n26 n27 p28 k29 k30 n31 n32 n33, RowAt w23 k21 (k22 + n17.toNat * 7) [.int .i64 n25, .int .i64 n26, .int .i64 n27, .slice p28 k29 k30, .int .i64 n31, .int .i64 n32, .int .i64 n33] ∧ ∀ (k34 : Nat) (w35 :
  World) (R36 : List Own), Ctx W w35 (Own.blk k34 [.int .i64 0, .int .i64 0, .int .i64 0, .slice none 0 0, .int .i64 0, .int .i64 0, .int .i64 0] 37 :: R18 ++ R36) I19 → CanWrite w35 k34 0 7 ∧ ∀ (w37 : World), w37 = w35.setCells k34 0 [.int .i64 n25, .int .i64 n26, .int .i64 n27, .slice p28 k29 k30, .int .i64 n31, .int .i64 n32, .int .i64 n33] → ∃ R38 Φ39, Stable Φ39 ∧ Ctx W w37 (R38 ++ R36) Φ39 ∧ ∀ w40 R41, Ctx W w40 (R38 ++ R41) Φ39 → ∃ p42 k43 k44, w40.cell? (Addr.mk sB (sO + 1) none) = some (.slice p42 k43 k44) ∧ ∀ w45 R46, Ctx W w45 (R38 ++ R46) Φ39 → Calls Tryd.prog F.slices_ContainsFunc_int_int #[.slice p42 k43 k44, Value.func (Fn.func 39) #[] #[.pointer (some (Addr.mk k34 0 none))]] w45 fun e47 w48 => ∃ c49, e47 = .returned (.bool c49) ∧ ∃ R50 Φ51, Stable Φ51 ∧ Ctx W w48 (R50 ++ R46) Φ51 ∧ ∀ w52 R53, Ctx W w52 (R50 ++ R53) Φ51 → ∃ n54, w52.cell? (Addr.mk k34 1 none) = some (.int
  .i64 n54) ∧ Br (decide (n54 ≠ batch)) (∀ w55 R56, Ctx W w55 (R50 ++ R56) Φ51 → J (.int .i64 1) w55) (∀ w57 R58, Ctx W w57 (R50 ++ R58) Φ51 → ∃ n59, w57.cell? (Addr.mk k34 4 none) = some (.int .i64 n59) ∧ Br (decide (n59 = 0)) (∀ w60 R61, Ctx W w60 (R50 ++ R61) Φ51 → J (.int .i64 1) w60) (∀ w62 R63, Ctx W w62 (R50 ++ R63) Φ51 → ∃ p64 k65 k66, w62.cell? (Addr.mk k34 3 none) = some (.slice p64 k65 k66) ∧ ∀ w67 R68, Ctx W w67 (R50 ++ R68) Φ51 → Calls Tryd.prog F.value_RightRow #[.slice p64 k65 k66] w67 fun e69 w70 => ∃ c71, e69 = .returned (.bool c71) ∧ ∃ R72 Φ73, Stable Φ73 ∧ Ctx W w70 (R72 ++ R68) Φ73 ∧ Br (!c71) (∀ w74 R75, Ctx W w74 (R72 ++ R75) Φ73 → J (.int .i64 1) w74) (Br c49 (∀ w76 R77, Ctx W w76 (R72 ++ R77) Φ73 → J (.int .i64 1) w76) (I64 (n17 + 1) ∧ ∃ R78 Φ79 k80, Stable Φ79 ∧ Wk W R72 Φ73 R78 Φ79 ∧ I11 (n17 + 1) R78 Φ79 k80 ∧ k80 < k20))))) (exI fun (I83 : Int → List Own → PW →
  Nat → Prop) => (∃ R84 Φ85 k86, Stable Φ85 ∧ Wk W R18 I19 R84 Φ85 ∧ I83 0 R84 Φ85 k86) ∧ ∀ n89 R90 I91 k92, Stable I91 → I83 n89 R90 I91 k92 → Br (decide (n89 < (↑linesN : Int))) ((0 ≤ n89 ∧ n89 < (↑linesN : Int)) ∧ ptrK none linesP fun k93 k94 => ∀ w95 R96, Ctx W w95 (R90 ++ R96) I91 → ∃ n97 n98 n99 p100 k101 k102 n103 n104 n105, RowAt w95 k93 (k94 + n89.toNat * 7) [.int .i64 n97, .int .i64 n98, .int .i64 n99, .slice p100 k101 k102, .int .i64 n103, .int .i64 n104, .int .i64 n105] ∧ ∀ (b : Nat) (w106 : World) (R107 : List Own), Ctx W w106 (R90 ++ R107) I91 → ∃ p108 k109 k110, w106.cell? (Addr.mk sB (sO + 3) none) = some (.slice p108 k109 k110) ∧ I64 ((↑k109 : Int) + 1) ∧ I64 ((↑k109 : Int) + 1 + n89) ∧ Br (decide (n97 ≠ (↑k109 : Int) + 1 + n89)) (∀ w111 R112, Ctx W w111 (R90 ++ R112) I91 → J (.int .i64 25) w111) (I64 (n89 + 1) ∧ ∃ R113 Φ114 k115, Stable Φ114 ∧ Wk W R90 I91 R113 Φ114 ∧
  I83 (n89 + 1) R113 Φ114 k115 ∧ k115 < k92)) (∀ w118 R119, Ctx W w118 (R90 ++ R119) I91 → J (.int .i64 0) w118))))
theorem Bsink_Sink_look_run (sB sO : Nat) (batch : Int) (linesP : Option Addr) (linesN linesC : Nat) {W w : World} {R : List Own} {Φ : PW} [Stable Φ] {J : Value → World → Prop} (c : Ctx W w R Φ) (h : Bsink_Sink_look sB sO batch linesP linesN linesC W R Φ J) : Calls Tryd.prog F.sink_Sink_look #[.pointer (some ⟨sB, sO, none⟩), .int .i64 batch, .slice linesP linesN linesC] w fun e w' => ∃ v, e = .returned v ∧ J v w' :=
  vcFS_sound (H := { keep := some [0, 1, 2, 6, 8, 9, 10, 11, 19, 20, 21, 22, 23, 49, 51, 52, 53, 54, 68], track := [11], split := [1, 7], loops := [(11, [(53, .one (.int .i64))], []), (4, [(22, .one (.int .i64))], [])] }) (by rw [show vcFS Tryd.prog W { keep := some [0, 1, 2, 6, 8, 9, 10, 11, 19, 20, 21, 22, 23, 49, 51, 52, 53, 54, 68], track := [11], split := [1, 7], loops := [(11, [(53, .one (.int .i64))], []), (4, [(22, .one (.int .i64))], [])] } F.sink_Sink_look #[.pointer (some ⟨sB, sO, none⟩), .int .i64 batch, .slice linesP linesN linesC] R Φ J = Bsink_Sink_look sB sO batch linesP linesN linesC W R Φ J by kernel_rfl]; exact h) c
def Bsink_Sink_take (sB sO : Nat) (batch : Int) (linesP : Option Addr) (linesN linesC : Nat) (W : World) (R : List Own) (Φ : PW) (J : Value → World → Prop) : Prop :=
  ∀ w0 R1, Ctx W w0 (R ++ R1) Φ → ∃ p2 k3 k4, w0.cell? (Addr.mk sB (sO + 2) none) = some (.slice p2 k3 k4) ∧ ∀ (k5 : Nat) (w6 : World) (R7 : List Own), Ctx W w6 (Own.blk k5 [.int .i64 batch] 3 :: R ++ R7) Φ → ∃ (p8 : Option Addr) (k9 k10 : Nat) (w11 : World), Sem.run Tryd.prog (builtin Builtin.append #[22, 22] 22 #[false, false] #[.slice p2 k3 k4, .slice (some (Addr.mk k5 0 none)) 1 1]) w6 = .ok (.value (.slice p8 k9 k10)) w11 ∧ ∃ R12 Φ13, Stable Φ13 ∧ Ctx W w11 (R12 ++ R7) Φ13 ∧ ∀ w14 R15, Ctx W w14 (R12 ++ R15) Φ13 → CanWrite w14 sB (sO + 2) 1 ∧ ∀ (w16 : World), w16 = w14.setCell (Addr.mk sB (sO + 2) none) (Value.slice p8 k9 k10) → ∃ R17 Φ18, Stable Φ18 ∧ Ctx W w16 (R17 ++ R15) Φ18 ∧ ∀ w19 R20, Ctx W w19 (R17 ++ R20) Φ18 → ∃ p21 k22 k23, w19.cell? (Addr.mk sB (sO + 3) none) = some (.slice p21 k22 k23) ∧ ∀ w24 R25, Ctx W w24 (R17 ++ R25) Φ18 → ∃ (p26 : Option Addr) (k27 k28 : Nat) (w29 :
  World), Sem.run Tryd.prog (builtin Builtin.append #[30, 30] 30 #[false, false] #[.slice p21 k22 k23, .slice linesP linesN linesC]) w24 = .ok (.value (.slice p26 k27 k28)) w29 ∧ ∃ R30 Φ31, Stable Φ31 ∧ Ctx W w29 (R30 ++ R25) Φ31 ∧ ∀ w32 R33, Ctx W w32 (R30 ++ R33) Φ31 → CanWrite w32 sB (sO + 3) 1 ∧ ∀ (w34 : World), w34 = w32.setCell (Addr.mk sB (sO + 3) none) (Value.slice p26 k27 k28) → ∃ R35 Φ36, Stable Φ36 ∧ Ctx W w34 (R35 ++ R33) Φ36 ∧ ∀ w37 R38, Ctx W w37 (R35 ++ R38) Φ36 → J (Value.tuple #[]) w37
theorem Bsink_Sink_take_run (sB sO : Nat) (batch : Int) (linesP : Option Addr) (linesN linesC : Nat) {W w : World} {R : List Own} {Φ : PW} [Stable Φ] {J : Value → World → Prop} (c : Ctx W w R Φ) (h : Bsink_Sink_take sB sO batch linesP linesN linesC W R Φ J) : Calls Tryd.prog F.sink_Sink_take #[.pointer (some ⟨sB, sO, none⟩), .int .i64 batch, .slice linesP linesN linesC] w fun e w' => ∃ v, e = .returned v ∧ J v w' :=
  vcFS_sound (H := { keep := some [0, 2] }) (by rw [show vcFS Tryd.prog W { keep := some [0, 2] } F.sink_Sink_take #[.pointer (some ⟨sB, sO, none⟩), .int .i64 batch, .slice linesP linesN linesC] R Φ J = Bsink_Sink_take sB sO batch linesP linesN linesC W R Φ J by kernel_rfl]; exact h) c
def Bsink_clone (lP : Option Addr) (lN lC : Nat) (W : World) (R : List Own) (Φ : PW) (J : Value → World → Prop) : Prop :=
  ∀ w0 R1, Ctx W w0 (R ++ R1) Φ → Calls Tryd.prog F.slices_Clone_api_Line_api_Line #[.slice lP lN lC] w0 fun e2 w3 => ∃ p4 k5 k6, e2 = .returned (.slice p4 k5 k6) ∧ ∃ R7 Φ8, Stable Φ8 ∧ Ctx W w3 (R7 ++ R1) Φ8 ∧ exI fun (I9 : Int → List Own → PW → Nat → Prop) => (∃ R10 Φ11 k12, Stable Φ11 ∧ Wk W R7 Φ8 R10 Φ11 ∧ I9 0 R10 Φ11 k12) ∧ ∀ n15 R16 I17 k18, Stable I17 → I9 n15 R16 I17 k18 → Br (decide (n15 < (↑k5 : Int))) ((0 ≤ n15 ∧ n15 < (↑k5 : Int)) ∧ ptrK none p4 fun k19 k20 => ∀ w21 R22, Ctx W w21 (R16 ++ R22) I17 → ∃ n23 n24 n25 p26 k27 k28 n29 n30 n31, RowAt w21 k19 (k20 + n15.toNat * 7) [.int .i64 n23, .int .i64 n24, .int .i64 n25, .slice p26 k27 k28, .int .i64 n29, .int .i64 n30, .int .i64 n31] ∧ ∀ (b : Nat) (w32 : World) (R33 : List Own), Ctx W w32 (R16 ++ R33) I17 → Calls Tryd.prog F.slices_Clone_api_Value_api_Value #[.slice p26 k27 k28] w32 fun e34 w35 => ∃ p36 k37 k38, e34 = .returned
  (.slice p36 k37 k38) ∧ ∃ R39 Φ40, Stable Φ40 ∧ Ctx W w35 (R39 ++ R33) Φ40 ∧ (0 ≤ n15 ∧ n15 < (↑k5 : Int)) ∧ ptrK none p4 fun k41 k42 => ∀ w43 R44, Ctx W w43 (R39 ++ R44) Φ40 → CanWrite w43 k41 (k42 + n15.toNat * 7 + 3) 1 ∧ ∀ (w45 : World), w45 = w43.setCell (Addr.mk k41 (k42 + n15.toNat * 7 + 3) none) (Value.slice p36 k37 k38) → ∃ R46 Φ47, Stable Φ47 ∧ Ctx W w45 (R46 ++ R44) Φ47 ∧ I64 (n15 + 1) ∧ ∃ R48 Φ49 k50, Stable Φ49 ∧ Wk W R46 Φ47 R48 Φ49 ∧ I9 (n15 + 1) R48 Φ49 k50 ∧ k50 < k18) (∀ w53 R54, Ctx W w53 (R16 ++ R54) I17 → J (.slice p4 k5 k6) w53)
theorem Bsink_clone_run (lP : Option Addr) (lN lC : Nat) {W w : World} {R : List Own} {Φ : PW} [Stable Φ] {J : Value → World → Prop} (c : Ctx W w R Φ) (h : Bsink_clone lP lN lC W R Φ J) : Calls Tryd.prog F.sink_clone #[.slice lP lN lC] w fun e w' => ∃ v, e = .returned v ∧ J v w' :=
  vcFS_sound (H := { keep := some [0, 2, 3, 4, 5, 8, 9, 10, 11], track := [5], loops := [(3, [(10, .one (.int .i64))], [])] }) (by rw [show vcFS Tryd.prog W { keep := some [0, 2, 3, 4, 5, 8, 9, 10, 11], track := [5], loops := [(3, [(10, .one (.int .i64))], [])] } F.sink_clone #[.slice lP lN lC] R Φ J = Bsink_clone lP lN lC W R Φ J by kernel_rfl]; exact h) c
def Bcmp_Less_int (x : Int) (y : Int) (W : World) (R : List Own) (Φ : PW) (J : Value → World → Prop) : Prop :=
  ∀ w0 R1, Ctx W w0 (R ++ R1) Φ → ∃ (c2 : Bool), (∀ (w3 : World), w3 = w0 → Calls Tryd.prog F.cmp_isNaN_int #[.int .i64 x] w3 fun e4 w5 => e4 = .returned (.bool c2) ∧ w5 = w0) ∧ ∃ (c6 : Bool), (c2 = true → ∀ (w7 : World), w7 = w0 → Calls Tryd.prog F.cmp_isNaN_int #[.int .i64 y] w7 fun e8 w9 => e8 = .returned (.bool c6) ∧ w9 = w0) ∧ ∀ w10 R11, Ctx W w10 (R ++ R11) Φ → J (.bool (c2 && !c6 || decide (x < y))) w10
theorem Bcmp_Less_int_run (x : Int) (y : Int) {W w : World} {R : List Own} {Φ : PW} [Stable Φ] {J : Value → World → Prop} (c : Ctx W w R Φ) (h : Bcmp_Less_int x y W R Φ J) : Calls Tryd.prog F.cmp_Less_int #[.int .i64 x, .int .i64 y] w fun e w' => ∃ v, e = .returned v ∧ J v w' :=
  vcFS_sound (H := { keep := some [0, 1, 4] }) (by rw [show vcFS Tryd.prog W { keep := some [0, 1, 4] } F.cmp_Less_int #[.int .i64 x, .int .i64 y] R Φ J = Bcmp_Less_int x y W R Φ J by kernel_rfl]; exact h) c
def Bslices_ContainsFunc_int_int (sP : Option Addr) (sN sC : Nat) (fF : FuncId) (fC : Array Value) (W : World) (R : List Own) (Φ : PW) (J : Value → World → Prop) : Prop :=
  ∀ w0 R1, Ctx W w0 (R ++ R1) Φ → Calls Tryd.prog F.slices_IndexFunc_int_int #[.slice sP sN sC, Value.func (Fn.func fF) #[] fC] w0 fun e2 w3 => ∃ n4, e2 = .returned (.int .i64 n4) ∧ ∃ R5 Φ6, Stable Φ6 ∧ Ctx W w3 (R5 ++ R1) Φ6 ∧ ∀ w7 R8, Ctx W w7 (R5 ++ R8) Φ6 → J (.bool (decide (0 ≤ n4))) w7
theorem Bslices_ContainsFunc_int_int_run (sP : Option Addr) (sN sC : Nat) (fF : FuncId) (fC : Array Value) {W w : World} {R : List Own} {Φ : PW} [Stable Φ] {J : Value → World → Prop} (c : Ctx W w R Φ) (h : Bslices_ContainsFunc_int_int sP sN sC fF fC W R Φ J) : Calls Tryd.prog F.slices_ContainsFunc_int_int #[.slice sP sN sC, .func (.func fF) #[] fC] w fun e w' => ∃ v, e = .returned v ∧ J v w' :=
  vcFS_sound (H := { keep := some [0, 1, 4] }) (by rw [show vcFS Tryd.prog W { keep := some [0, 1, 4] } F.slices_ContainsFunc_int_int #[.slice sP sN sC, .func (.func fF) #[] fC] R Φ J = Bslices_ContainsFunc_int_int sP sN sC fF fC W R Φ J by kernel_rfl]; exact h) c
def Bsink_Sink_look_1 (k : Int) (kB kO : Nat) (W : World) (R : List Own) (Φ : PW) (J : Value → World → Prop) : Prop :=
  ∀ w0 R1, Ctx W w0 (R ++ R1) Φ → ∃ p2 k3 k4, w0.cell? (Addr.mk kB (kO + 3) none) = some (.slice p2 k3 k4) ∧ ∀ w5 R6, Ctx W w5 (R ++ R6) Φ → J (.bool (decide ((↑k3 : Int) ≤ k))) w5
theorem Bsink_Sink_look_1_run (k : Int) (kB kO : Nat) {W w : World} {R : List Own} {Φ : PW} [Stable Φ] {J : Value → World → Prop} (c : Ctx W w R Φ) (h : Bsink_Sink_look_1 k kB kO W R Φ J) : Calls Tryd.prog F.sink_Sink_look_1 #[.int .i64 k, .pointer (some ⟨kB, kO, none⟩)] w fun e w' => ∃ v, e = .returned v ∧ J v w' :=
  vcFS_sound (H := { keep := some [0, 1, 3] }) (by rw [show vcFS Tryd.prog W { keep := some [0, 1, 3] } F.sink_Sink_look_1 #[.int .i64 k, .pointer (some ⟨kB, kO, none⟩)] R Φ J = Bsink_Sink_look_1 k kB kO W R Φ J by kernel_rfl]; exact h) c
def Bvalue_RightRow (rP : Option Addr) (rN rC : Nat) (W : World) (R : List Own) (Φ : PW) (J : Value → World → Prop) : Prop :=
  Br (decide ((↑rN : Int) ≤ 12)) (∀ w0 R1, Ctx W w0 (R ++ R1) Φ → Calls Tryd.prog F.value_all #[.slice rP rN rC] w0 fun e2 w3 => ∃ c4, e2 = .returned (.bool c4) ∧ ∃ R5 Φ6, Stable Φ6 ∧ Ctx W w3 (R5 ++ R1) Φ6 ∧ ∀ w7 R8, Ctx W w7 (R5 ++ R8) Φ6 → J (.bool c4) w7) (∀ w9 R10, Ctx W w9 (R ++ R10) Φ → J (.bool false) w9)
theorem Bvalue_RightRow_run (rP : Option Addr) (rN rC : Nat) {W w : World} {R : List Own} {Φ : PW} [Stable Φ] {J : Value → World → Prop} (c : Ctx W w R Φ) (h : Bvalue_RightRow rP rN rC W R Φ J) : Calls Tryd.prog F.value_RightRow #[.slice rP rN rC] w fun e w' => ∃ v, e = .returned v ∧ J v w' :=
  vcFS_sound (H := { keep := some [0, 2], split := [1] }) (by rw [show vcFS Tryd.prog W { keep := some [0, 2], split := [1] } F.value_RightRow #[.slice rP rN rC] R Φ J = Bvalue_RightRow rP rN rC W R Φ J by kernel_rfl]; exact h) c
def Bslices_Clone_api_Line_api_Line (sP : Option Addr) (sN sC : Nat) (W : World) (R : List Own) (Φ : PW) (J : Value → World → Prop) : Prop :=
  Br sP.isNone (∀ w0 R1, Ctx W w0 (R ++ R1) Φ → J (.slice none 0 0) w0) (∀ (k2 : Nat) (w3 : World) (R4 : List Own), Ctx W w3 (Own.blk k2 [] 37 :: R ++ R4) Φ → ∃ (p5 : Option Addr) (k6 k7 : Nat) (w8 : World), Sem.run Tryd.prog (builtin Builtin.append #[30, 30] 30 #[false, false] #[.slice (some (Addr.mk k2 0 none)) 0 0, .slice sP sN sC]) w3 = .ok (.value (.slice p5 k6 k7)) w8 ∧ ∃ R9 Φ10, Stable Φ10 ∧ Ctx W w8 (R9 ++ R4) Φ10 ∧ ∀ w11 R12, Ctx W w11 (R9 ++ R12) Φ10 → J (.slice p5 k6 k7) w11)
theorem Bslices_Clone_api_Line_api_Line_run (sP : Option Addr) (sN sC : Nat) {W w : World} {R : List Own} {Φ : PW} [Stable Φ] {J : Value → World → Prop} (c : Ctx W w R Φ) (h : Bslices_Clone_api_Line_api_Line sP sN sC W R Φ J) : Calls Tryd.prog F.slices_Clone_api_Line_api_Line #[.slice sP sN sC] w fun e w' => ∃ v, e = .returned v ∧ J v w' :=
  vcFS_sound (H := { keep := some [0, 2, 4] }) (by rw [show vcFS Tryd.prog W { keep := some [0, 2, 4] } F.slices_Clone_api_Line_api_Line #[.slice sP sN sC] R Φ J = Bslices_Clone_api_Line_api_Line sP sN sC W R Φ J by kernel_rfl]; exact h) c
def Berrataref03_CompareRows (aP : Option Addr) (aN aC : Nat) (bP : Option Addr) (bN bC : Nat) (W : World) (R : List Own) (Φ : PW) (J : Value → World → Prop) : Prop :=
  exI fun (I0 : Int → List Own → PW → Nat → Prop) => (∃ R1 Φ2 k3, Stable Φ2 ∧ Wk W R Φ R1 Φ2 ∧ I0 0 R1 Φ2 k3) ∧ ∀ n6 R7 I8 k9, Stable I8 → I0 n6 R7 I8 k9 → ∀ w10 R11, Ctx W w10 (R7 ++ R11) I8 → Br (decide (n6 < (↑aN : Int)) && decide (n6 < (↑bN : Int))) (∃ R12 Φ13, Stable Φ13 ∧ Wk W R7 I8 R12 Φ13 ∧ (0 ≤ n6 ∧ n6 < (↑aN : Int)) ∧ ptrK none aP fun k16 k17 => (0 ≤ n6 ∧ n6 < (↑bN : Int)) ∧ ptrK none bP fun k18 k19 => ∃ (n20 n21 : Int) (s22 : ByteArray), (∀ w23 R24, Ctx W w23 (R12 ++ R24) Φ13 → ∃ n25 n26 s27, RowAt w23 k16 (k17 + n6.toNat * 3) [.int .i64 n25, .int .i64 n26, .string s27] ∧ Value.agg #[.int .i64 n25, .int .i64 n26, .string s27] = Value.agg #[.int .i64 n20, .int .i64 n21, .string s22]) ∧ ∃ (n28 n29 : Int) (s30 : ByteArray), (∀ w31 R32, Ctx W w31 (R12 ++ R32) Φ13 → ∃ n33 n34 s35, RowAt w31 k18 (k19 + n6.toNat * 3) [.int .i64 n33, .int .i64 n34, .string s35] ∧ Value.agg #[.int .i64
  n33, .int .i64 n34, .string s35] = Value.agg #[.int .i64 n28, .int .i64 n29, .string s30]) ∧ ∀ w36 R37, Ctx W w36 (R7 ++ R37) I8 → Calls Tryd.prog F.errataref03_Compare #[Value.agg #[.int .i64 n20, .int .i64 n21, .string s22], Value.agg #[.int .i64 n28, .int .i64 n29, .string s30]] w36 fun e38 w39 => ∃ n40, e38 = .returned (.int .i64 n40) ∧ ∃ R41 Φ42, Stable Φ42 ∧ Ctx W w39 (R41 ++ R37) Φ42 ∧ Br (decide (n40 ≠ 0)) (∀ w43 R44, Ctx W w43 (R41 ++ R44) Φ42 → J (.int .i64 n40) w43) (I64 (n6 + 1) ∧ ∃ R45 Φ46 k47, Stable Φ46 ∧ Wk W R41 Φ42 R45 Φ46 ∧ I0 (n6 + 1) R45 Φ46 k47 ∧ k47 < k9)) (Br (decide ((↑aN : Int) < (↑bN : Int))) (∀ w50 R51, Ctx W w50 (R7 ++ R51) I8 → J (.int .i64 (-1)) w50) (Br (decide ((↑bN : Int) < (↑aN : Int))) (∀ w52 R53, Ctx W w52 (R7 ++ R53) I8 → J (.int .i64 1) w52) (∀ w54 R55, Ctx W w54 (R7 ++ R55) I8 → J (.int .i64 0) w54)))
theorem Berrataref03_CompareRows_run (aP : Option Addr) (aN aC : Nat) (bP : Option Addr) (bN bC : Nat) {W w : World} {R : List Own} {Φ : PW} [Stable Φ] {J : Value → World → Prop} (c : Ctx W w R Φ) (h : Berrataref03_CompareRows aP aN aC bP bN bC W R Φ J) : Calls Tryd.prog F.errataref03_CompareRows #[.slice aP aN aC, .slice bP bN bC] w fun e w' => ∃ v, e = .returned v ∧ J v w' :=
  vcFS_sound (H := { keep := some [0, 1, 4, 5, 6, 16, 29, 35, 40], stages := [(4, [.held [(0, true), (1, true), (4, true), (5, true), (2, true), (6, true), (3, true), (7, true)], .stage [] (some 8), .stage [9] none])], loops := [(2, [(5, .one (.int .i64))], [])] }) (by rw [show vcFS Tryd.prog W { keep := some [0, 1, 4, 5, 6, 16, 29, 35, 40], stages := [(4, [.held [(0, true), (1, true), (4, true), (5, true), (2, true), (6, true), (3, true), (7, true)], .stage [] (some 8), .stage [9] none])], loops := [(2, [(5, .one (.int .i64))], [])] } F.errataref03_CompareRows #[.slice aP aN aC, .slice bP bN bC] R Φ J = Berrataref03_CompareRows aP aN aC bP bN bC W R Φ J by kernel_rfl]; exact h) c
def Bslices_IndexFunc_int_int (sP : Option Addr) (sN sC : Nat) (fF : FuncId) (fC : Array Value) (W : World) (R : List Own) (Φ : PW) (J : Value → World → Prop) : Prop :=
  exI fun (I0 : Int → List Own → PW → Nat → Prop) => (∃ R1 Φ2 k3, Stable Φ2 ∧ Wk W R Φ R1 Φ2 ∧ I0 0 R1 Φ2 k3) ∧ ∀ n6 R7 I8 k9, Stable I8 → I0 n6 R7 I8 k9 → Br (decide (n6 < (↑sN : Int))) ((0 ≤ n6 ∧ n6 < (↑sN : Int)) ∧ ptrK none sP fun k10 k11 => ∀ w12 R13, Ctx W w12 (R7 ++ R13) I8 → ∃ n14, w12.cell? (Addr.mk k10 (k11 + n6.toNat) none) = some (.int .i64 n14) ∧ ∀ w15 R16, Ctx W w15 (R7 ++ R16) I8 → okFun Tryd.prog fF = true ∧ Calls Tryd.prog fF (Array.mk (Value.int IntKind.i64 n14 :: fC.toList)) w15 fun e17 w18 => ∃ c19, e17 = .returned (.bool c19) ∧ ∃ R20 Φ21, Stable Φ21 ∧ Ctx W w18 (R20 ++ R16) Φ21 ∧ Br c19 (∀ w22 R23, Ctx W w22 (R20 ++ R23) Φ21 → J (.int .i64 n6) w22) (I64 (n6 + 1) ∧ ∃ R24 Φ25 k26, Stable Φ25 ∧ Wk W R20 Φ21 R24 Φ25 ∧ I0 (n6 + 1) R24 Φ25 k26 ∧ k26 < k9)) (∀ w29 R30, Ctx W w29 (R7 ++ R30) I8 → J (.int .i64 (-1)) w29)
theorem Bslices_IndexFunc_int_int_run (sP : Option Addr) (sN sC : Nat) (fF : FuncId) (fC : Array Value) {W w : World} {R : List Own} {Φ : PW} [Stable Φ] {J : Value → World → Prop} (c : Ctx W w R Φ) (h : Bslices_IndexFunc_int_int sP sN sC fF fC W R Φ J) : Calls Tryd.prog F.slices_IndexFunc_int_int #[.slice sP sN sC, .func (.func fF) #[] fC] w fun e w' => ∃ v, e = .returned v ∧ J v w' :=
  vcFS_sound (H := { keep := some [0, 1, 4, 5, 7, 8, 9, 16], wrap := [16], loops := [(2, [(8, .one (.int .i64))], [])] }) (by rw [show vcFS Tryd.prog W { keep := some [0, 1, 4, 5, 7, 8, 9, 16], wrap := [16], loops := [(2, [(8, .one (.int .i64))], [])] } F.slices_IndexFunc_int_int #[.slice sP sN sC, .func (.func fF) #[] fC] R Φ J = Bslices_IndexFunc_int_int sP sN sC fF fC W R Φ J by kernel_rfl]; exact h) c
def Bvalue_all (rP : Option Addr) (rN rC : Nat) (W : World) (R : List Own) (Φ : PW) (J : Value → World → Prop) : Prop :=
  ∀ w0 R1, Ctx W w0 (R ++ R1) Φ → Calls Tryd.prog F.slices_ContainsFunc_api_Value_api_Value #[.slice rP rN rC, Value.func (Fn.func 64) #[] #[]] w0 fun e2 w3 => ∃ c4, e2 = .returned (.bool c4) ∧ ∃ R5 Φ6, Stable Φ6 ∧ Ctx W w3 (R5 ++ R1) Φ6 ∧ ∀ w7 R8, Ctx W w7 (R5 ++ R8) Φ6 → J (.bool !c4) w7
theorem Bvalue_all_run (rP : Option Addr) (rN rC : Nat) {W w : World} {R : List Own} {Φ : PW} [Stable Φ] {J : Value → World → Prop} (c : Ctx W w R Φ) (h : Bvalue_all rP rN rC W R Φ J) : Calls Tryd.prog F.value_all #[.slice rP rN rC] w fun e w' => ∃ v, e = .returned v ∧ J v w' :=
  vcFS_sound (H := { keep := some [0, 2] }) (by rw [show vcFS Tryd.prog W { keep := some [0, 2] } F.value_all #[.slice rP rN rC] R Φ J = Bvalue_all rP rN rC W R Φ J by kernel_rfl]; exact h) c
def Berrataref03_Compare (a0 : Int) (a1 : Int) (a2 : ByteArray) (b0 : Int) (b1 : Int) (b2 : ByteArray) (W : World) (R : List Own) (Φ : PW) (J : Value → World → Prop) : Prop :=
  ∀ (b b : Nat), Br (decide (a0 < b0)) (∀ w0 R1, Ctx W w0 (R ++ R1) Φ → J (.int .i64 (-1)) w0) (Br (decide (b0 < a0)) (∀ w2 R3, Ctx W w2 (R ++ R3) Φ → J (.int .i64 1) w2) (Br (decide (a1 < b1)) (∀ w4 R5, Ctx W w4 (R ++ R5) Φ → J (.int .i64 (-1)) w4) (Br (decide (b1 < a1)) (∀ w6 R7, Ctx W w6 (R ++ R7) Φ → J (.int .i64 1) w6) (Br (Op.bytesLess (ByteArray.toList.loop a2 0 []) (ByteArray.toList.loop b2 0 [])) (∀ w8 R9, Ctx W w8 (R ++ R9) Φ → J (.int .i64 (-1)) w8) (∃ (c10 : Bool), (∀ (w11 : World), Sem.run Tryd.prog (binOp BinOp.gtr 9 (Value.string a2) (Value.string b2)) w11 = Result.ok (Value.bool c10) w11) ∧ Br c10 (∀ w12 R13, Ctx W w12 (R ++ R13) Φ → J (.int .i64 1) w12) (∀ w14 R15, Ctx W w14 (R ++ R15) Φ → J (.int .i64 0) w14))))))
theorem Berrataref03_Compare_run (a0 : Int) (a1 : Int) (a2 : ByteArray) (b0 : Int) (b1 : Int) (b2 : ByteArray) {W w : World} {R : List Own} {Φ : PW} [Stable Φ] {J : Value → World → Prop} (c : Ctx W w R Φ) (h : Berrataref03_Compare a0 a1 a2 b0 b1 b2 W R Φ J) : Calls Tryd.prog F.errataref03_Compare #[.agg #[.int .i64 a0, .int .i64 a1, .string a2], .agg #[.int .i64 b0, .int .i64 b1, .string b2]] w fun e w' => ∃ v, e = .returned v ∧ J v w' :=
  vcFS_sound (H := { keep := some [2, 3, 4, 9, 14, 19, 24, 29, 34], track := [2, 3] }) (by rw [show vcFS Tryd.prog W { keep := some [2, 3, 4, 9, 14, 19, 24, 29, 34], track := [2, 3] } F.errataref03_Compare #[.agg #[.int .i64 a0, .int .i64 a1, .string a2], .agg #[.int .i64 b0, .int .i64 b1, .string b2]] R Φ J = Berrataref03_Compare a0 a1 a2 b0 b1 b2 W R Φ J by kernel_rfl]; exact h) c
def Bslices_ContainsFunc_api_Value_api_Value (sP : Option Addr) (sN sC : Nat) (fF : FuncId) (fC : Array Value) (W : World) (R : List Own) (Φ : PW) (J : Value → World → Prop) : Prop :=
  ∀ w0 R1, Ctx W w0 (R ++ R1) Φ → Calls Tryd.prog F.slices_IndexFunc_api_Value_api_Value #[.slice sP sN sC, Value.func (Fn.func fF) #[] fC] w0 fun e2 w3 => ∃ n4, e2 = .returned (.int .i64 n4) ∧ ∃ R5 Φ6, Stable Φ6 ∧ Ctx W w3 (R5 ++ R1) Φ6 ∧ ∀ w7 R8, Ctx W w7 (R5 ++ R8) Φ6 → J (.bool (decide (0 ≤ n4))) w7
theorem Bslices_ContainsFunc_api_Value_api_Value_run (sP : Option Addr) (sN sC : Nat) (fF : FuncId) (fC : Array Value) {W w : World} {R : List Own} {Φ : PW} [Stable Φ] {J : Value → World → Prop} (c : Ctx W w R Φ) (h : Bslices_ContainsFunc_api_Value_api_Value sP sN sC fF fC W R Φ J) : Calls Tryd.prog F.slices_ContainsFunc_api_Value_api_Value #[.slice sP sN sC, .func (.func fF) #[] fC] w fun e w' => ∃ v, e = .returned v ∧ J v w' :=
  vcFS_sound (H := { keep := some [0, 1, 4] }) (by rw [show vcFS Tryd.prog W { keep := some [0, 1, 4] } F.slices_ContainsFunc_api_Value_api_Value #[.slice sP sN sC, .func (.func fF) #[] fC] R Φ J = Bslices_ContainsFunc_api_Value_api_Value sP sN sC fF fC W R Φ J by kernel_rfl]; exact h) c
def Bvalue_all_1 (v0 : Int) (v1 : Int) (v2 : ByteArray) (W : World) (R : List Own) (Φ : PW) (J : Value → World → Prop) : Prop :=
  ∀ (b : Nat) (w0 : World) (R1 : List Own), Ctx W w0 (R ++ R1) Φ → Calls Tryd.prog F.value_Right #[Value.agg #[.int .i64 v0, .int .i64 v1, .string v2]] w0 fun e2 w3 => ∃ c4, e2 = .returned (.bool c4) ∧ ∃ R5 Φ6, Stable Φ6 ∧ Ctx W w3 (R5 ++ R1) Φ6 ∧ ∀ w7 R8, Ctx W w7 (R5 ++ R8) Φ6 → J (.bool !c4) w7
theorem Bvalue_all_1_run (v0 : Int) (v1 : Int) (v2 : ByteArray) {W w : World} {R : List Own} {Φ : PW} [Stable Φ] {J : Value → World → Prop} (c : Ctx W w R Φ) (h : Bvalue_all_1 v0 v1 v2 W R Φ J) : Calls Tryd.prog F.value_all_1 #[.agg #[.int .i64 v0, .int .i64 v1, .string v2]] w fun e w' => ∃ v, e = .returned v ∧ J v w' :=
  vcFS_sound (H := { keep := some [1, 2], track := [1] }) (by rw [show vcFS Tryd.prog W { keep := some [1, 2], track := [1] } F.value_all_1 #[.agg #[.int .i64 v0, .int .i64 v1, .string v2]] R Φ J = Bvalue_all_1 v0 v1 v2 W R Φ J by kernel_rfl]; exact h) c
def Bvalue_Right (v0 : Int) (v1 : Int) (v2 : ByteArray) (W : World) (R : List Own) (Φ : PW) (J : Value → World → Prop) : Prop :=
  ∀ (b : Nat), Br (decide (v0 = 0)) (∃ R0 Φ1, Stable Φ1 ∧ Wk W R Φ R0 Φ1 ∧ ∀ w4 R5, Ctx W w4 (R ++ R5) Φ → Calls Tryd.prog F.value_Int #[.int .i64 v1] w4 fun e6 w7 => ∃ n8 n9 s10, e6 = .returned (Value.agg #[.int .i64 n8, .int .i64 n9, .string s10]) ∧ ∃ R11 Φ12, Stable Φ12 ∧ Ctx W w7 (R11 ++ R5) Φ12 ∧ Wk W R11 Φ12 R0 Φ1 ∧ okAgg Tryd.prog 44 = true ∧ ∀ w15 R16, Ctx W w15 (R11 ++ R16) Φ12 → J (.bool (decide (v0 = n8) && (decide (v1 = n9) && (decide (v2 = s10) && true)))) w15) (Br (decide (v0 = 1)) (∃ R17 Φ18, Stable Φ18 ∧ Wk W R Φ R17 Φ18 ∧ ∀ w21 R22, Ctx W w21 (R ++ R22) Φ → Calls Tryd.prog F.value_Text #[.string v2] w21 fun e23 w24 => ∃ n25 n26 s27, e23 = .returned (Value.agg #[.int .i64 n25, .int .i64 n26, .string s27]) ∧ ∃ R28 Φ29, Stable Φ29 ∧ Ctx W w24 (R28 ++ R22) Φ29 ∧ Wk W R28 Φ29 R17 Φ18 ∧ okAgg Tryd.prog 44 = true ∧ Br (decide (v0 = n25) && (decide (v1 = n26) && (decide (v2 =
  s27) && true))) (∀ w32 R33, Ctx W w32 (R28 ++ R33) Φ29 → J (.bool (decide ((↑v2.size : Int) ≤ 200))) w32) (∀ w34 R35, Ctx W w34 (R28 ++ R35) Φ29 → J (.bool false) w34)) (∃ R36 Φ37, Stable Φ37 ∧ Wk W R Φ R36 Φ37 ∧ ∀ w40 R41, Ctx W w40 (R ++ R41) Φ → Calls Tryd.prog F.value_Bool #[.bool false] w40 fun e42 w43 => ∃ n44 n45 s46, e42 = .returned (Value.agg #[.int .i64 n44, .int .i64 n45, .string s46]) ∧ ∃ R47 Φ48, Stable Φ48 ∧ Ctx W w43 (R47 ++ R41) Φ48 ∧ Wk W R47 Φ48 R36 Φ37 ∧ ∃ R51 Φ52, Stable Φ52 ∧ Wk W R47 Φ48 R51 Φ52 ∧ okAgg Tryd.prog 44 = true ∧ Br (decide (v0 = n44) && (decide (v1 = n45) && (decide (v2 = s46) && true))) (∀ w55 R56, Ctx W w55 (R47 ++ R56) Φ48 → J (.bool true) w55) (∀ w57 R58, Ctx W w57 (R47 ++ R58) Φ48 → Calls Tryd.prog F.value_Bool #[.bool true] w57 fun e59 w60 => ∃ n61 n62 s63, e59 = .returned (Value.agg #[.int .i64 n61, .int .i64 n62, .string s63]) ∧ ∃ R64 Φ65,
  Stable Φ65 ∧ Ctx W w60 (R64 ++ R58) Φ65 ∧ Wk W R64 Φ65 R51 Φ52 ∧ okAgg Tryd.prog 44 = true ∧ ∀ w68 R69, Ctx W w68 (R64 ++ R69) Φ65 → J (.bool (decide (v0 = n61) && (decide (v1 = n62) && (decide (v2 = s63) && true)))) w68)))
theorem Bvalue_Right_run (v0 : Int) (v1 : Int) (v2 : ByteArray) {W w : World} {R : List Own} {Φ : PW} [Stable Φ] {J : Value → World → Prop} (c : Ctx W w R Φ) (h : Bvalue_Right v0 v1 v2 W R Φ J) : Calls Tryd.prog F.value_Right #[.agg #[.int .i64 v0, .int .i64 v1, .string v2]] w fun e w' => ∃ v, e = .returned v ∧ J v w' :=
  vcFS_sound (H := { keep := some [1, 2, 4, 5, 12], track := [1], stages := [(3, [.held [(0, true), (1, true), (2, true), (3, false)], .stage [4, 5] none]), (5, [.held [(0, true), (1, true), (2, true), (3, false)], .stage [4, 5, 6, 7, 8, 9, 10, 11] none]), (6, [.held [(0, true), (1, false)], .held [(2, true), (3, true), (4, true), (5, false)], .stage [6, 7, 8] none])] }) (by rw [show vcFS Tryd.prog W { keep := some [1, 2, 4, 5, 12], track := [1], stages := [(3, [.held [(0, true), (1, true), (2, true), (3, false)], .stage [4, 5] none]), (5, [.held [(0, true), (1, true), (2, true), (3, false)], .stage [4, 5, 6, 7, 8, 9, 10, 11] none]), (6, [.held [(0, true), (1, false)], .held [(2, true), (3, true), (4, true), (5, false)], .stage [6, 7, 8] none])] } F.value_Right #[.agg #[.int .i64 v0, .int .i64 v1, .string v2]] R Φ J = Bvalue_Right v0 v1 v2 W R Φ J by kernel_rfl]; exact h) c
def Bslices_IndexFunc_api_Value_api_Value (sP : Option Addr) (sN sC : Nat) (fF : FuncId) (fC : Array Value) (W : World) (R : List Own) (Φ : PW) (J : Value → World → Prop) : Prop :=
  exI fun (I0 : Int → List Own → PW → Nat → Prop) => (∃ R1 Φ2 k3, Stable Φ2 ∧ Wk W R Φ R1 Φ2 ∧ I0 0 R1 Φ2 k3) ∧ ∀ n6 R7 I8 k9, Stable I8 → I0 n6 R7 I8 k9 → Br (decide (n6 < (↑sN : Int))) ((0 ≤ n6 ∧ n6 < (↑sN : Int)) ∧ ptrK none sP fun k10 k11 => ∀ w12 R13, Ctx W w12 (R7 ++ R13) I8 → ∃ n14 n15 s16, RowAt w12 k10 (k11 + n6.toNat * 3) [.int .i64 n14, .int .i64 n15, .string s16] ∧ ∀ w17 R18, Ctx W w17 (R7 ++ R18) I8 → okFun Tryd.prog fF = true ∧ Calls Tryd.prog fF (Array.mk (Value.agg #[.int .i64 n14, .int .i64 n15, .string s16] :: fC.toList)) w17 fun e19 w20 => ∃ c21, e19 = .returned (.bool c21) ∧ ∃ R22 Φ23, Stable Φ23 ∧ Ctx W w20 (R22 ++ R18) Φ23 ∧ Br c21 (∀ w24 R25, Ctx W w24 (R22 ++ R25) Φ23 → J (.int .i64 n6) w24) (I64 (n6 + 1) ∧ ∃ R26 Φ27 k28, Stable Φ27 ∧ Wk W R22 Φ23 R26 Φ27 ∧ I0 (n6 + 1) R26 Φ27 k28 ∧ k28 < k9)) (∀ w31 R32, Ctx W w31 (R7 ++ R32) I8 → J (.int .i64 (-1)) w31)
theorem Bslices_IndexFunc_api_Value_api_Value_run (sP : Option Addr) (sN sC : Nat) (fF : FuncId) (fC : Array Value) {W w : World} {R : List Own} {Φ : PW} [Stable Φ] {J : Value → World → Prop} (c : Ctx W w R Φ) (h : Bslices_IndexFunc_api_Value_api_Value sP sN sC fF fC W R Φ J) : Calls Tryd.prog F.slices_IndexFunc_api_Value_api_Value #[.slice sP sN sC, .func (.func fF) #[] fC] w fun e w' => ∃ v, e = .returned v ∧ J v w' :=
  vcFS_sound (H := { keep := some [0, 1, 4, 5, 7, 8, 9, 16], wrap := [16], loops := [(2, [(8, .one (.int .i64))], [])] }) (by rw [show vcFS Tryd.prog W { keep := some [0, 1, 4, 5, 7, 8, 9, 16], wrap := [16], loops := [(2, [(8, .one (.int .i64))], [])] } F.slices_IndexFunc_api_Value_api_Value #[.slice sP sN sC, .func (.func fF) #[] fC] R Φ J = Bslices_IndexFunc_api_Value_api_Value sP sN sC fF fC W R Φ J by kernel_rfl]; exact h) c
def Bvalue_Int (n : Int) (W : World) (R : List Own) (Φ : PW) (J : Value → World → Prop) : Prop :=
  ∀ (b : Nat) (w0 : World) (R1 : List Own), Ctx W w0 (R ++ R1) Φ → J (Value.agg #[.int .i64 0, Value.int IntKind.i64 n, Value.string (ByteArray.mk #[])]) w0
theorem Bvalue_Int_run (n : Int) {W w : World} {R : List Own} {Φ : PW} [Stable Φ] {J : Value → World → Prop} (c : Ctx W w R Φ) (h : Bvalue_Int n W R Φ J) : Calls Tryd.prog F.value_Int #[.int .i64 n] w fun e w' => ∃ v, e = .returned v ∧ J v w' :=
  vcFS_sound (H := { keep := some [0, 2], track := [2] }) (by rw [show vcFS Tryd.prog W { keep := some [0, 2], track := [2] } F.value_Int #[.int .i64 n] R Φ J = Bvalue_Int n W R Φ J by kernel_rfl]; exact h) c
def Bvalue_Text (s : ByteArray) (W : World) (R : List Own) (Φ : PW) (J : Value → World → Prop) : Prop :=
  ∀ (b : Nat) (w0 : World) (R1 : List Own), Ctx W w0 (R ++ R1) Φ → J (Value.agg #[.int .i64 1, .int .i64 0, .string s]) w0
theorem Bvalue_Text_run (s : ByteArray) {W w : World} {R : List Own} {Φ : PW} [Stable Φ] {J : Value → World → Prop} (c : Ctx W w R Φ) (h : Bvalue_Text s W R Φ J) : Calls Tryd.prog F.value_Text #[.string s] w fun e w' => ∃ v, e = .returned v ∧ J v w' :=
  vcFS_sound (H := { keep := some [0, 2], track := [2] }) (by rw [show vcFS Tryd.prog W { keep := some [0, 2], track := [2] } F.value_Text #[.string s] R Φ J = Bvalue_Text s W R Φ J by kernel_rfl]; exact h) c
def Bvalue_Bool (b : Bool) (W : World) (R : List Own) (Φ : PW) (J : Value → World → Prop) : Prop :=
  ∀ (b_1 : Nat), Br b (∀ w0 R1, Ctx W w0 (R ++ R1) Φ → J (Value.agg #[.int .i64 2, Value.int IntKind.i64 1, Value.string (ByteArray.mk #[])]) w0) (∀ w2 R3, Ctx W w2 (R ++ R3) Φ → J (Value.agg #[.int .i64 2, Value.int IntKind.i64 0, Value.string (ByteArray.mk #[])]) w2)
theorem Bvalue_Bool_run (b : Bool) {W w : World} {R : List Own} {Φ : PW} [Stable Φ] {J : Value → World → Prop} (c : Ctx W w R Φ) (h : Bvalue_Bool b W R Φ J) : Calls Tryd.prog F.value_Bool #[.bool b] w fun e w' => ∃ v, e = .returned v ∧ J v w' :=
  vcFS_sound (H := { keep := some [0, 2, 3], track := [2] }) (by rw [show vcFS Tryd.prog W { keep := some [0, 2, 3], track := [2] } F.value_Bool #[.bool b] R Φ J = Bvalue_Bool b W R Φ J by kernel_rfl]; exact h) c
end Go.Proofs.YtemhapmbcbbljaaDoor
end

section
namespace Go.Proofs.YtemhapmbcbbljaaDoor
open Go Go.RowKit Go.Vc
def Qslices_isNaN_int (x : Int) (w : World) (J : Value → World → Prop) : Prop :=
  J (Value.bool (decide (x ≠ x))) w
theorem Qslices_isNaN_int_run (x : Int) (w : World) (J : Value → World → Prop) (h : Qslices_isNaN_int x w J) : Calls Tryd.prog F.slices_isNaN_int #[.int .i64 x] w fun e w' => ∃ v, e = .returned v ∧ J v w' := by
  have h : J (Value.bool (decide (x ≠ x))) w := h
  go_enter Tryd.func37, Tryd.ntmps37
  go_wp2
  all_goals go_ret
  all_goals (first | exact ⟨_, rfl, h⟩ | exact ⟨_, rfl, by simpa using h⟩)
def Qcmp_isNaN_int (x : Int) (w : World) (J : Value → World → Prop) : Prop :=
  J (Value.bool (decide (x ≠ x))) w
theorem Qcmp_isNaN_int_run (x : Int) (w : World) (J : Value → World → Prop) (h : Qcmp_isNaN_int x w J) : Calls Tryd.prog F.cmp_isNaN_int #[.int .i64 x] w fun e w' => ∃ v, e = .returned v ∧ J v w' := by
  have h : J (Value.bool (decide (x ≠ x))) w := h
  go_enter Tryd.func54, Tryd.ntmps54
  go_wp2
  all_goals go_ret
  all_goals (first | exact ⟨_, rfl, h⟩ | exact ⟨_, rfl, by simpa using h⟩)
end Go.Proofs.YtemhapmbcbbljaaDoor
end

section
namespace Go.Vc
section
variable {P : Program} {W w : World} {S F : List Own} {Φ Ψ : PW}
structure Quiet (P : Program) (f : FuncId) (args : Array Value) (v : Value) : Prop where
  go : ∀ w, Calls P f args w fun e w' => e = .returned v ∧ w' = w
structure Gives (P : Program) (f : FuncId) (args : Array Value) (v : Value) : Prop where
  go : ∀ (W w : World) (S : List Own) (Φ : PW), Stable Φ → Ctx W w S Φ → Calls P f args w fun e w' => e = .returned v ∧ Ctx W w' S Φ
theorem Quiet.at {f : FuncId} {args : Array Value} {v : Value} (h : Quiet P f args v) {w w0 : World} (e : w = w0) : Calls P f args w fun e w' => e = .returned v ∧ w' = w0 := by subst e; exact h.go w
theorem Quiet.gives {f : FuncId} {args : Array Value} {v : Value} (h : Quiet P f args v) : Gives P f args v :=
  ⟨fun W w S Φ _ c => (h.go w).mono fun e w' ⟨h1, h2⟩ => by subst h2; exact ⟨h1, c⟩⟩
theorem Gives.use {f : FuncId} {args : Array Value} {v : Value} (h : Gives P f args v) [hs : Stable Φ] (c : Ctx W w S Φ) {K : Ending → World → Prop} (hk : ∀ w', Ctx W w' S Φ → K (.returned v) w') : Calls P f args w K :=
  (h.go W w S Φ hs c).mono fun e w' ⟨he, c'⟩ => by subst he; exact hk w' c'
theorem gives_of {f : FuncId} {args : Array Value} {v : Value} {B : World → List Own → PW → (Value → World → Prop) → Prop}
    (run : ∀ {W w : World} {R : List Own} {Φ : PW} [Stable Φ] {J : Value → World → Prop}, Ctx W w R Φ → B W R Φ J → Calls P f args w fun e w' => ∃ v, e = .returned v ∧ J v w')
    (h : ∀ (W : World) (R : List Own) (Φ : PW), Stable Φ → B W R Φ fun u w' => u = v ∧ Ctx W w' R Φ) : Gives P f args v :=
  ⟨fun W w S Φ hs c => calls_of (run c (h W S Φ hs)) fun u w' ⟨h1, h2⟩ => ⟨by rw [h1], h2⟩⟩
structure GivesIn (Φ : PW) (P : Program) (f : FuncId) (args : Array Value) (v : Value) : Prop where
  go : ∀ (W w : World) (S : List Own), Ctx W w S Φ → Calls P f args w fun e w' => e = .returned v ∧ Ctx W w' S Φ
theorem GivesIn.use {f : FuncId} {args : Array Value} {v : Value} (h : GivesIn Φ P f args v) (c : Ctx W w S Φ) {K : Ending → World → Prop} (hk : ∀ w', Ctx W w' S Φ → K (.returned v) w') : Calls P f args w K :=
  (h.go W w S c).mono fun e w' ⟨he, c'⟩ => by subst he; exact hk w' c'
theorem Gives.in [hs : Stable Φ] {f : FuncId} {args : Array Value} {v : Value} (h : Gives P f args v) : GivesIn Φ P f args v := ⟨fun W w S c => h.go W w S Φ hs c⟩
theorem gives_in [Stable Φ] {f : FuncId} {args : Array Value} {v : Value} {B : World → List Own → PW → (Value → World → Prop) → Prop}
    (run : ∀ {W w : World} {R : List Own} {Φ : PW} [Stable Φ] {J : Value → World → Prop}, Ctx W w R Φ → B W R Φ J → Calls P f args w fun e w' => ∃ v, e = .returned v ∧ J v w')
    (h : ∀ (W : World) (R : List Own), B W R Φ fun u w' => u = v ∧ Ctx W w' R Φ) : GivesIn Φ P f args v :=
  ⟨fun W w S c => calls_of (run c (h W S)) fun u w' ⟨h1, h2⟩ => ⟨by rw [h1], h2⟩⟩
theorem Ctx.left [Stable Φ] (c : Ctx W w (S ++ F) Φ) : Ctx W w S Φ := c.sub (List.sublist_append_left _ _)
theorem Ctx.right [Stable Φ] (c : Ctx W w (S ++ F) Φ) : Ctx W w F Φ := c.sub (List.sublist_append_right _ _)
theorem Ctx.fst [Stable Φ] [Stable Ψ] (c : Ctx W w S (fun M w => Φ M w ∧ Ψ M w)) : Ctx W w S Φ := c.weak fun _ _ h => h.1
theorem rows_of {cs vs : List Value} {o : Nat} (h : (cs.drop o).take vs.length = vs) : ∀ j, (hj : j < vs.length) → cs[o + j]? = some vs[j] := by
  intro j hj
  have h1 : ((cs.drop o).take vs.length)[j]? = vs[j]? := by rw [h]
  rw [List.getElem?_take_of_lt hj, List.getElem?_drop] at h1
  rw [h1, List.getElem?_eq_getElem hj]
theorem quiet_of {f : FuncId} {args : Array Value} {v : Value} {B : World → (Value → World → Prop) → Prop}
    (run : ∀ (w : World) (J : Value → World → Prop), B w J → Calls P f args w fun e w' => ∃ v, e = .returned v ∧ J v w')
    (h : ∀ w, B w fun u w' => u = v ∧ w' = w) : Quiet P f args v :=
  ⟨fun w => calls_of (run w _ (h w)) fun u w' ⟨h1, h2⟩ => ⟨by rw [h1], h2⟩⟩
end
def Pin {α : Type} [Gv α] (b o : Nat) (cs : List (List Value)) (l : List α) (M : List Nat) (w : World) : Prop :=
  ∀ j, (hj : j < l.length) → b ∉ M ∧ RowAt w b (o + j * (Gv.ty α).size) (cs.getD j []) ∧ Gv.rep M w (cs.getD j []) l[j]
instance instStablePin {α : Type} [Gv α] (b o : Nat) (cs : List (List Value)) (l : List α) : Stable (fun M w => Pin b o cs l M w) := ⟨fun hs h j hj => by
  obtain ⟨h2, h3, h4⟩ := h j hj
  have hlt := row_lt h3 (by rw [Gv.len h4]; exact Gv.pos)
  exact ⟨fun hm => by rcases hs.sub b hm with h | h; exact h2 h; omega, hs.chg.row h3 h2, Gv.stable hs h4⟩⟩
theorem Sl.pin {α : Type} [Gv α] {M : List Nat} {w : World} {p : Option Addr} {l : List α} (h : Sl M w p l) : ∃ b o cs, (0 < l.length → p = some ⟨b, o, none⟩) ∧ Pin b o cs l M w := by
  by_cases h0 : 0 < l.length
  · obtain ⟨b, o, _, hp, _⟩ := h 0 h0
    have key : ∀ j, j < l.length → ∃ cs : List Value, ∀ hj : j < l.length, b ∉ M ∧ RowAt w b (o + j * (Gv.ty α).size) cs ∧ Gv.rep M w cs l[j] := by
      intro j hj
      obtain ⟨b', o', cs, h1, h2, h3, h4⟩ := h j hj
      rw [hp] at h1
      cases h1
      exact ⟨cs, fun _ => ⟨h2, h3, h4⟩⟩
    obtain ⟨cs, hl, hcs⟩ := list_build l.length key
    refine ⟨b, o, cs, fun _ => hp, fun j hj => ?_⟩
    have := hcs j (by omega) hj
    rw [show cs.getD j [] = cs[j] by simp [List.getD, show j < cs.length by omega]]
    exact this
  · exact ⟨0, 0, [], fun h => absurd h h0, fun j hj => by omega⟩
theorem Ctx.pin {W w : World} {S : List Own} {Φ : PW} (c : Ctx W w S Φ) {α : Type} [Gv α] {p : Option Addr} {l : List α} (h : Sl (dom S) w p l) :
    ∃ b o cs, (0 < l.length → p = some ⟨b, o, none⟩) ∧ Ctx W w S (fun M w => Φ M w ∧ Pin b o cs l M w) := by
  obtain ⟨b, o, cs, hp, hpin⟩ := h.pin
  exact ⟨b, o, cs, hp, c.add hpin⟩
theorem GivesIn.pinned {Φ : PW} [Stable Φ] {P : Program} {f : FuncId} {args : Array Value} {v : Value} {α : Type} [Gv α] {p : Option Addr} {l : List α} (hΦ : ∀ M w, Φ M w → Sl M w p l)
    (h : ∀ b o cs, (0 < l.length → p = some ⟨b, o, none⟩) → GivesIn (fun M w => Φ M w ∧ Pin b o cs l M w) P f args v) : GivesIn Φ P f args v :=
  ⟨fun W w S c => by
    obtain ⟨b, o, cs, hp, c'⟩ := c.pin (hΦ _ _ c.phi)
    exact ((h b o cs hp).go W w S c').mono fun e w' ⟨h1, h2⟩ => ⟨h1, h2.fst⟩⟩
end Go.Vc
end

section
namespace Go.Vc
section
variable {P : Program} {W w : World} {S F : List Own} {Φ Ψ : PW}
def Parked (W : World) (o : Own) (M : List Nat) (w : World) : Prop := o.at w ∧ ∀ b ∈ o.dom, b ∉ M ∧ W.heap.size ≤ b
instance instStableParked (W : World) (o : Own) : Stable (fun M w => Parked W o M w) := ⟨fun hs h =>
  ⟨Own.at_keep h.1 fun b hb => hs.chg.block b (Own.at_lt h.1 b hb) (h.2 b hb).1, fun b hb => ⟨fun hm => by
    rcases hs.sub b hm with h1 | h1
    · exact (h.2 b hb).1 h1
    · have := Own.at_lt h.1 b hb; omega, (h.2 b hb).2⟩⟩⟩
instance instStableMore (D : List Nat) (Φ : PW) [Stable Φ] : Stable (fun M w => Φ (D ++ M) w) := ⟨fun {M M' w w'} hs h =>
  Stable.step (Φ := Φ) (M := D ++ M) (M' := D ++ M') ⟨hs.chg.mono fun x hx => List.mem_append_right _ hx, fun b hb => by
    rcases List.mem_append.1 hb with h | h
    · exact .inl (List.mem_append_left _ h)
    · rcases hs.sub b h with h | h
      · exact .inl (List.mem_append_right _ h)
      · exact .inr h⟩ h⟩
theorem Own.nodup (o : Own) : o.dom.Nodup := by
  cases o with
  | blk => simp [Own.dom]
  | obj => simp [Own.dom]
  | buf p => cases p <;> simp [Own.dom]
theorem dom_cons (o : Own) (S : List Own) : dom (o :: S) = o.dom ++ dom S := rfl
theorem Ctx.park {o : Own} (c : Ctx W w (o :: S) Φ) : Ctx W w S (fun M w => Φ (o.dom ++ M) w ∧ Parked W o M w) :=
  ⟨c.chg, fun x hx => c.own x (List.mem_cons_of_mem _ hx), fun b hb => c.young b (by rw [dom_cons]; exact List.mem_append_right _ hb),
    (by have := c.nodup; rw [dom_cons, List.nodup_append] at this; exact this.2.1), c.phi, c.own o List.mem_cons_self, fun b hb =>
      ⟨fun hm => by have := c.nodup; rw [dom_cons, List.nodup_append] at this; exact this.2.2 b hb b hm rfl, c.young b (by rw [dom_cons]; exact List.mem_append_left _ hb)⟩⟩
def There (p : Option Addr) (n : Nat) : Prop := 0 < n → ∃ b o, p = some ⟨b, o, none⟩
theorem Sl.there {α : Type} [Gv α] {M : List Nat} {w : World} {p : Option Addr} {l : List α} (h : Sl M w p l) : There p l.length := fun h0 => by
  obtain ⟨b, o, _, h1, _⟩ := h 0 h0
  exact ⟨b, o, h1⟩
theorem Sl.nil {α : Type} [Gv α] {M : List Nat} {w : World} {p : Option Addr} : Sl M w p ([] : List α) := fun j hj => by simp at hj
theorem GivesIn.there {f : FuncId} {args : Array Value} {v : Value} {p : Option Addr} {n : Nat} (hΦ : ∀ M w, Φ M w → There p n) (h : There p n → GivesIn Φ P f args v) : GivesIn Φ P f args v :=
  ⟨fun W w S c => (h (hΦ _ _ c.phi)).go W w S c⟩
structure GivesSl (Φ : PW) (P : Program) (f : FuncId) (args : Array Value) {α : Type} [Gv α] (l : List α) (mk : Value → Value) : Prop where
  go : ∀ (W w : World) (S : List Own), Ctx W w S Φ → Calls P f args w fun e w' => ∃ p cap, e = .returned (mk (.slice p l.length cap)) ∧ l.length ≤ cap ∧ cap ≤ maxLen ∧ Ctx W w' S (fun M w => Φ M w ∧ Sl M w p l)
theorem GivesSl.use {f : FuncId} {args : Array Value} {α : Type} [Gv α] {l : List α} {mk : Value → Value} (h : GivesSl Φ P f args l mk) (c : Ctx W w S Φ) {K : Ending → World → Prop}
    (hk : ∀ p cap w', l.length ≤ cap → cap ≤ maxLen → Ctx W w' S (fun M w => Φ M w ∧ Sl M w p l) → K (.returned (mk (.slice p l.length cap))) w') : Calls P f args w K :=
  (h.go W w S c).mono fun e w' ⟨p, cap, he, h1, h2, c'⟩ => by subst he; exact hk p cap w' h1 h2 c'
theorem GivesSl.there {f : FuncId} {args : Array Value} {α : Type} [Gv α] {l : List α} {mk : Value → Value} {p : Option Addr} {n : Nat} (hΦ : ∀ M w, Φ M w → There p n) (h : There p n → GivesSl Φ P f args l mk) : GivesSl Φ P f args l mk :=
  ⟨fun W w S c => (h (hΦ _ _ c.phi)).go W w S c⟩
def appB (P : Program) (ts t : TypeId) (size bytes : Nat) : Bool :=
  (match P.underlying ts with | some (.slice u) => decide (u = t) | _ => false) && (match P.info? t with
    | some i => (match i.zero with | some z => decide (z.cells.size = size) | none => false) && decide (i.size = size) && decide (i.bytes = bytes)
    | none => false)
theorem appB_out {ts t : TypeId} {size bytes : Nat} (h : appB P ts t size bytes = true) : ∃ i z, P.underlying ts = some (.slice t) ∧ P.info? t = some i ∧ i.zero = some z ∧ i.size = size ∧ z.cells.size = size ∧ i.bytes = bytes := by
  unfold appB at h
  rw [Bool.and_eq_true] at h
  obtain ⟨h1, h2⟩ := h
  split at h1
  · rename_i u hu
    have : u = t := by simpa using h1
    subst this
    split at h2
    · rename_i i hi
      simp only [Bool.and_eq_true] at h2
      obtain ⟨⟨h2, h3⟩, h4⟩ := h2
      split at h2
      · rename_i z hz
        exact ⟨i, z, hu, hi, hz, by simpa using h3, by simpa using h2, by simpa using h4⟩
      · cases h2
    · cases h2
  · cases h1
theorem run_app {ats : Array TypeId} {ty : TypeId} {cs : Array Bool} {args : Array Value} {v : Value} {w w' : World} (h : (Builtin.append_ ats ty args).run P w = .ok v w') : Sem.run P (builtin Builtin.append ats ty cs args) w = .ok (.value v) w' := by
  unfold builtin
  simp only [Sem.run_bind, h, Result.andThen, Sem.run_pure]
theorem Ctx.app1 [Stable Φ] {b : Nat} {news : List Value} {t' : TypeId} {p : Option Addr} {n cap : Nat} {cs : List Value} {t : TypeId} {size bytes : Nat} (c : Ctx W w (.blk b news t' :: .buf p n cap cs t size :: S) Φ)
    {ts ty : TypeId} {kb : Array Bool} (hb : appB P ts t size bytes = true) (h0 : 0 < size) (hl : news.length = size) (h1 : (news.all fun u => oneC u) = true) (hlen : n < 100000000) (hbytes : bytes ≤ 1000) :
    ∃ p' cap' w', Sem.run P (builtin Builtin.append #[ts, ts] ty kb #[.slice p n cap, .slice (some ⟨b, 0, none⟩) 1 1]) w = .ok (.value (.slice p' (n + 1) cap')) w' ∧ (∃ g, p' = some ⟨g, 0, none⟩) ∧ Ctx W w' (.buf p' (n + 1) cap' (cs ++ news) t size :: S) Φ := by
  obtain ⟨i, z, e1, e2, e3, e4, e5, e6⟩ := appB_out hb
  have hby : (n + 1) * i.bytes ≤ 100000000 * 1000 := Nat.mul_le_mul (by omega) (by omega)
  obtain ⟨p', cap', w', h2, c'⟩ := c.append 1 rfl (ty := ty) e1 e2 e3 e4 e5 (a := ⟨b, 0, none⟩) (m := 1) (c2 := 1) (news := news) (by omega) (by rw [hl, Nat.one_mul]) (fun j u hj => by rw [addr_add, Nat.zero_add]; exact c.get 0 rfl hj)
    (fun u hu => List.all_eq_true.1 h1 u hu) (by omega) (by omega)
  refine ⟨p', cap', w', run_app h2, ?_, c'.drop1⟩
  obtain ⟨g, hg, _⟩ := c'.bufCell 1 rfl (by rw [List.length_append]; omega)
  exact ⟨g, hg⟩
theorem Ctx.nobuf [Stable Φ] (c : Ctx W w S Φ) (t : TypeId) (size : Nat) : Ctx W w (.buf none 0 0 [] t size :: S) Φ := c.buf0 t size
theorem Sl.less {α : Type} [Gv α] {M D : List Nat} {w : World} {p : Option Addr} {l : List α} (h : Sl (D ++ M) w p l) : Sl M w p l :=
  h.stable ⟨Chg.refl _ _, fun b hb => .inl (List.mem_append_right _ hb)⟩
structure GivesBuf (Φ : PW) (P : Program) (f : FuncId) (args : Array Value) (n : Nat) (cells : List Value) (t : TypeId) (size : Nat) (mk : Value → Value) : Prop where
  go : ∀ (W w : World) (S : List Own), Ctx W w S Φ → Calls P f args w fun e w' => ∃ p cap, e = .returned (mk (.slice p n cap)) ∧ Ctx W w' (.buf p n cap cells t size :: S) Φ
theorem Parked.blkSl {α : Type} [Gv α] {M : List Nat} {b : Nat} {cs : List Value} {t : TypeId} {l : List α} (h : Parked W (.blk b cs t) M w) (he : Elems M w cs l) : Sl M w (some ⟨b, 0, none⟩) l := by
  obtain ⟨h1, h2⟩ := h
  have h1 : Blk w b cs t := h1
  intro j hj
  have hle : (j + 1) * (Gv.ty α).size ≤ cs.length := by rw [he.1]; exact Nat.mul_le_mul_right _ hj
  rw [Nat.add_mul, Nat.one_mul] at hle
  refine ⟨b, 0, (cs.drop (j * (Gv.ty α).size)).take (Gv.ty α).size, rfl, (h2 b (by simp [Own.dom])).1, fun i hi => ?_, he.2 j hj⟩
  simp only [List.length_take, List.length_drop] at hi
  rw [Nat.zero_add, List.getElem_take, List.getElem_drop]
  exact h1.cell_eq (List.getElem?_eq_getElem (by omega))
theorem Ctx.freezeBlk [Stable Φ] {α : Type} [Gv α] {b : Nat} {cs : List Value} {t : TypeId} {l : List α} (c : Ctx W w (.blk b cs t :: S) Φ) (he : Elems (dom (.blk b cs t :: S)) w cs l) : Ctx W w S Φ ∧ Sl (dom S) w (some ⟨b, 0, none⟩) l := by
  have c' := c.park
  refine ⟨c.drop1, c'.phi.2.blkSl ⟨he.1, fun j hj => ?_⟩⟩
  exact Gv.stable ⟨Chg.refl _ _, fun b hb => .inl (by rw [dom_cons]; exact List.mem_append_right _ hb)⟩ (he.2 j hj)
theorem Elems.two {α : Type} [Gv α] {M : List Nat} {cs ds : List Value} {x y : α} (h1 : Gv.rep M w cs x) (h2 : Gv.rep M w ds y) : Elems M w (cs ++ ds) [x, y] := Elems.snoc (l := [x]) (Elems.snoc (l := []) (cs := []) Elems.nil h1) h2
theorem Elems.one {α : Type} [Gv α] {M : List Nat} {cs : List Value} {x : α} (h1 : Gv.rep M w cs x) : Elems M w cs [x] := Elems.snoc (l := []) (cs := []) Elems.nil h1
end
end Go.Vc
end

section
namespace Go.Vc
section
variable {P : Program} {W w w' : World} {S S' F : List Own} {Φ Ψ : PW}
theorem Ctx.swap [Stable Φ] {a b : Own} (c : Ctx W w (a :: b :: S) Φ) : Ctx W w (b :: a :: S) Φ := c.perm (List.Perm.swap _ _ _)
theorem Ctx.bufBlk (c : Ctx W w S Φ) (k : Nat) {p : Option Addr} {n cap : Nat} {cs : List Value} {t : TypeId} {size : Nat} (hk : S[k]? = some (.buf p n cap cs t size)) (h0 : 0 < cs.length) :
    ∃ b cur, p = some ⟨b, 0, none⟩ ∧ Blk w b cur t ∧ cur.take (n * size) = cs ∧ n ≤ cap ∧ cap ≤ maxLen ∧ cur.length = cap * size ∧ cs.length = n * size := by
  obtain ⟨h1, h2⟩ := c.own _ (List.mem_of_getElem? hk)
  rcases h2 with ⟨e, rfl⟩ | ⟨g, cap', cur, e, _, hg, hnc, hcm, hcs, htake⟩
  · rw [Nat.zero_mul] at h1; omega
  · cases e
    exact ⟨g, cur.toList, rfl, by simpa [Blk] using hg, htake, hnc, hcm, by simpa using hcs, h1⟩
theorem Ctx.bufRow (c : Ctx W w S Φ) (k : Nat) {p : Option Addr} {n cap : Nat} {cs : List Value} {t : TypeId} {size : Nat} (hk : S[k]? = some (.buf p n cap cs t size)) {b o : Nat} (hp : p = some ⟨b, 0, none⟩) {vs : List Value}
    (hv : ∀ j, (hj : j < vs.length) → cs[o + j]? = some vs[j]) : RowAt w b o vs := by
  intro j hj
  have hlt : o + j < cs.length := (List.getElem?_eq_some_iff.1 (hv j hj)).1
  obtain ⟨b', h1, _, h2⟩ := c.bufCell k hk (by omega)
  rw [hp] at h1
  cases h1
  exact (h2 _ _ (hv j hj)).1
theorem Ctx.bufCan (c : Ctx W w S Φ) (k : Nat) {p : Option Addr} {n cap : Nat} {cs : List Value} {t : TypeId} {size : Nat} (hk : S[k]? = some (.buf p n cap cs t size)) {b o m : Nat} (hp : p = some ⟨b, 0, none⟩) (hm : o + m ≤ cs.length) : CanWrite w b o m := by
  intro j hj
  obtain ⟨b', h1, _, h2⟩ := c.bufCell k hk (by omega)
  rw [hp] at h1
  cases h1
  have := h2 (o + j) cs[o + j] (List.getElem?_eq_getElem (by omega))
  exact ⟨by rw [this.1]; rfl, this.2⟩
theorem setL_len : ∀ (vs : List Value) (cs : List Value) (o : Nat), (setL cs o vs).length = cs.length
  | [], _, _ => rfl
  | v :: r, cs, o => by unfold setL; rw [setL_len r]; simp
theorem setL_take : ∀ (vs : List Value) (cs : List Value) (o m : Nat), o + vs.length ≤ m → (setL cs o vs).take m = setL (cs.take m) o vs
  | [], _, _, _, _ => rfl
  | v :: r, cs, o, m, h => by
    unfold setL
    simp only [List.length_cons] at h
    rw [setL_take r _ _ _ (by omega), List.take_set]
theorem setL_get : ∀ (vs : List Value) (cs : List Value) (o i : Nat), (i < o ∨ o + vs.length ≤ i) → (setL cs o vs)[i]? = cs[i]?
  | [], _, _, _, _ => rfl
  | v :: r, cs, o, i, h => by
    unfold setL
    simp only [List.length_cons] at h
    rw [setL_get r _ _ _ (by omega), List.getElem?_set_ne (by omega)]
theorem setL_in : ∀ (vs : List Value) (cs : List Value) (o i : Nat), i < vs.length → o + vs.length ≤ cs.length → (setL cs o vs)[o + i]? = vs[i]?
  | [], _, _, _, h, _ => by simp at h
  | v :: r, cs, o, 0, h, hl => by
    unfold setL
    simp only [List.length_cons] at hl
    rw [setL_get r _ _ _ (by omega), Nat.add_zero, List.getElem?_set_self (by omega)]
    rfl
  | v :: r, cs, o, i + 1, h, hl => by
    unfold setL
    simp only [List.length_cons] at hl h
    rw [show o + (i + 1) = o + 1 + i by omega, setL_in r _ _ _ (by omega) (by simp; omega)]
    rfl
theorem Ctx.bufPuts [Stable Φ] (c : Ctx W w S Φ) (k : Nat) {p : Option Addr} {n cap : Nat} {cs vs : List Value} {t : TypeId} {size : Nat} (hk : S[k]? = some (.buf p n cap cs t size)) {b o : Nat} (hp : p = some ⟨b, 0, none⟩) (h0 : 0 < cs.length) (ho : o + vs.length ≤ cs.length)
    (e : w' = w.setCells b o vs) : Ctx W w' (S.set k (.buf p n cap (setL cs o vs) t size)) Φ := by
  obtain ⟨b', cur, h1, hb, htake, hnc, hcm, hcl, hl⟩ := c.bufBlk k hk h0
  rw [hp] at h1
  cases h1
  subst e
  refine c.upd hk ((Chg.refl _ _).setCells (by subst hp; simp [Own.dom]) o vs) (fun x hx => .inl (by subst hp; exact hx)) (by subst hp; simp [Own.dom]) ?_
  have hb' := Blk.sets vs o hb
  refine ⟨by rw [setL_len, hl], .inr ⟨b, cap, (setL cur o vs).toArray, by rw [hp], Nat.zero_le _, hb', hnc, hcm, by simp [setL_len, hcl], ?_⟩⟩
  rw [← htake, setL_take _ _ _ _ (by omega)]
theorem Elems.setAt {α : Type} [Gv α] {M : List Nat} {cs d : List Value} {l : List α} {x : α} (h : Elems M w cs l) (k : Nat) (hk : k < l.length) (hx : Gv.rep M w d x) : Elems M w (setL cs (k * (Gv.ty α).size) d) (l.set k x) := by
  have hd := Gv.len hx
  refine ⟨by rw [setL_len, h.1]; simp, fun j hj => ?_⟩
  have hj : j < l.length := by simpa using hj
  have hle : (k + 1) * (Gv.ty α).size ≤ cs.length := by rw [h.1]; exact Nat.mul_le_mul_right _ hk
  have hlj : (j + 1) * (Gv.ty α).size ≤ cs.length := by rw [h.1]; exact Nat.mul_le_mul_right _ hj
  rw [Nat.add_mul, Nat.one_mul] at hle hlj
  by_cases hjk : k = j
  · subst hjk
    rw [List.getElem_set_self]
    have : ((setL cs (k * (Gv.ty α).size) d).drop (k * (Gv.ty α).size)).take (Gv.ty α).size = d := by
      apply List.ext_getElem?
      intro i
      by_cases hi : i < (Gv.ty α).size
      · rw [List.getElem?_take_of_lt hi, List.getElem?_drop, setL_in _ _ _ _ (by omega) (by omega)]
      · rw [List.getElem?_eq_none (by simp; omega), List.getElem?_eq_none (by omega)]
    rw [this]
    exact hx
  · rw [List.getElem_set_ne hjk]
    have : ((setL cs (k * (Gv.ty α).size) d).drop (j * (Gv.ty α).size)).take (Gv.ty α).size = (cs.drop (j * (Gv.ty α).size)).take (Gv.ty α).size := by
      apply List.ext_getElem?
      intro i
      by_cases hi : i < (Gv.ty α).size
      · rw [List.getElem?_take_of_lt hi, List.getElem?_drop, List.getElem?_take_of_lt hi, List.getElem?_drop]
        refine setL_get _ _ _ _ ?_
        rw [hd]
        rcases Nat.lt_or_gt_of_ne hjk with hlt | hlt
        · right
          have := Nat.mul_le_mul_right (Gv.ty α).size (show k + 1 ≤ j from hlt)
          rw [Nat.add_mul, Nat.one_mul] at this
          omega
        · left
          have := Nat.mul_le_mul_right (Gv.ty α).size (show j + 1 ≤ k from hlt)
          rw [Nat.add_mul, Nat.one_mul] at this
          omega
      · rw [List.getElem?_eq_none (by simp [setL_len]; omega), List.getElem?_eq_none (by simp; omega)]
    rw [this]
    exact h.2 j hj
theorem Sl.cells {α : Type} [Gv α] {M : List Nat} {p : Option Addr} {l : List α} (h : Sl M w p l) (h1 : ∀ M w cs (x : α), Gv.rep M w cs x → (cs.all fun u => oneC u) = true) (h0 : 0 < l.length) :
    ∃ b o news, p = some ⟨b, o, none⟩ ∧ news.length = l.length * (Gv.ty α).size ∧ (∀ j u, news[j]? = some u → w.cell? ⟨b, o + j, none⟩ = some u) ∧ Elems M w news l ∧ (news.all fun u => oneC u) = true := by
  obtain ⟨b, o, _, hp, _⟩ := h 0 h0
  have key : ∀ k, k ≤ l.length → ∃ news : List Value, news.length = k * (Gv.ty α).size ∧ (∀ j u, news[j]? = some u → w.cell? ⟨b, o + j, none⟩ = some u) ∧ Elems M w news (l.take k) ∧ (news.all fun u => oneC u) = true := by
    intro k
    induction k with
    | zero => intro _; exact ⟨[], by simp, fun j u hj => by simp at hj, by rw [List.take_zero]; exact Elems.nil, rfl⟩
    | succ k ih =>
      intro hk
      obtain ⟨news, g1, g2, g3, g4⟩ := ih (by omega)
      obtain ⟨b', o', cs, e1, _, e3, e4⟩ := h k (by omega)
      rw [hp] at e1
      cases e1
      have hlen := Gv.len e4
      refine ⟨news ++ cs, by rw [List.length_append, g1, hlen, Nat.add_mul, Nat.one_mul], fun j u hj => ?_, ?_, by rw [List.all_append, g4, h1 _ _ _ _ e4]; rfl⟩
      · by_cases hlt : j < news.length
        · rw [List.getElem?_append_left hlt] at hj
          exact g2 j u hj
        · rw [List.getElem?_append_right (by omega)] at hj
          have hl2 : j - news.length < cs.length := (List.getElem?_eq_some_iff.1 hj).1
          have := e3 (j - news.length) hl2
          rw [show o + k * (Gv.ty α).size + (j - news.length) = o + j by omega] at this
          rw [this, ← hj, List.getElem?_eq_getElem hl2]
      · rw [List.take_succ_eq_append_getElem (by omega)]
        exact g3.snoc e4
  obtain ⟨news, g1, g2, g3, g4⟩ := key l.length (Nat.le_refl _)
  rw [List.take_length] at g3
  exact ⟨b, o, news, hp, g1, g2, g3, g4⟩
theorem Ctx.appSl [Stable Φ] {α : Type} [Gv α] {q : Option Addr} {l : List α} {c2 : Nat} {p : Option Addr} {n cap : Nat} {cs : List Value} {t : TypeId} {bytes : Nat} (c : Ctx W w (.buf p n cap cs t (Gv.ty α).size :: S) Φ)
    {ts ty : TypeId} {kb : Array Bool} (hb : appB P ts t (Gv.ty α).size bytes = true) (h1 : ∀ M w cs (x : α), Gv.rep M w cs x → (cs.all fun u => oneC u) = true) (hsl : ∀ M w, Φ M w → Sl M w q l) (h0 : 0 < l.length) (hlen : n + l.length < 100000000) (hbytes : bytes ≤ 1000) :
    ∃ p' cap' w' news, Sem.run P (builtin Builtin.append #[ts, ts] ty kb #[.slice p n cap, .slice q l.length c2]) w = .ok (.value (.slice p' (n + l.length) cap')) w' ∧ (∃ g, p' = some ⟨g, 0, none⟩) ∧
      Ctx W w' (.buf p' (n + l.length) cap' (cs ++ news) t (Gv.ty α).size :: S) (fun M w => Φ M w ∧ Elems M w news l) := by
  obtain ⟨i, z, e1, e2, e3, e4, e5, e6⟩ := appB_out hb
  have hby : (n + l.length) * i.bytes ≤ 100000000 * 1000 := Nat.mul_le_mul (by omega) (by omega)
  obtain ⟨b, o, news, hp, g1, g2, g3, g4⟩ := (hsl _ _ c.phi).cells h1 h0
  obtain ⟨p', cap', w', h2, c'⟩ := (c.add (Ψ := fun M w => Elems M w news l) g3).append 0 rfl (ty := ty) e1 e2 e3 e4 e5 (a := ⟨b, o, none⟩) (m := l.length) (c2 := c2) (news := news) h0 g1 (fun j u hj => by rw [addr_add]; exact g2 j u hj)
    (fun u hu => List.all_eq_true.1 g4 u hu) (by omega) (by omega)
  have hpos : 0 < (Gv.ty α).size := Gv.pos
  have hl2 : 0 < l.length * (Gv.ty α).size := Nat.mul_pos h0 hpos
  refine ⟨p', cap', w', news, by rw [hp]; exact run_app h2, ?_, c'⟩
  obtain ⟨g, hg, _⟩ := c'.bufCell 0 rfl (by rw [List.length_append]; omega)
  exact ⟨g, hg⟩
end
end Go.Vc
end

section
namespace Go.Vc
section
variable {P : Program} {W w w' : World} {S S' F : List Own} {Φ Ψ : PW}
theorem Stable.less {Φ : PW} [Stable Φ] {D M : List Nat} {w : World} (h : Φ (D ++ M) w) : Φ M w :=
  Stable.step (Φ := Φ) ⟨Chg.refl _ _, fun b hb => .inl (List.mem_append_right _ hb)⟩ h
structure GivesNew (Φ : PW) (P : Program) (f : FuncId) (args : Array Value) {α : Type} [Gv α] (l : List α) (t : TypeId) : Prop where
  go : ∀ (W w : World) (S : List Own), Ctx W w S Φ → Calls P f args w fun e w' => ∃ p cap cs, e = .returned (.slice p l.length cap) ∧ Ctx W w' (.buf p l.length cap cs t (Gv.ty α).size :: S) (fun M w => Φ M w ∧ Elems M w cs l)
theorem GivesNew.use {f : FuncId} {args : Array Value} {α : Type} [Gv α] {l : List α} {t : TypeId} (h : GivesNew Φ P f args l t) (c : Ctx W w S Φ) {K : Ending → World → Prop}
    (hk : ∀ p cap cs w', Ctx W w' (.buf p l.length cap cs t (Gv.ty α).size :: S) (fun M w => Φ M w ∧ Elems M w cs l) → K (.returned (.slice p l.length cap)) w') : Calls P f args w K :=
  (h.go W w S c).mono fun e w' ⟨p, cap, cs, he, c'⟩ => by subst he; exact hk p cap cs w' c'
theorem gives_new [Stable Φ] {f : FuncId} {args : Array Value} {α : Type} [Gv α] {l : List α} {t : TypeId} {B : World → List Own → PW → (Value → World → Prop) → Prop}
    (run : ∀ {W w : World} {R : List Own} {Φ : PW} [Stable Φ] {J : Value → World → Prop}, Ctx W w R Φ → B W R Φ J → Calls P f args w fun e w' => ∃ v, e = .returned v ∧ J v w')
    (h : ∀ (W : World) (R : List Own), B W R Φ fun u w' => ∃ p cap cs, u = .slice p l.length cap ∧ Ctx W w' (.buf p l.length cap cs t (Gv.ty α).size :: R) (fun M w => Φ M w ∧ Elems M w cs l)) : GivesNew Φ P f args l t :=
  ⟨fun W w S c => calls_of (run c (h W S)) fun u w' ⟨p, cap, cs, h1, h2⟩ => ⟨p, cap, cs, by rw [h1], h2⟩⟩
theorem GivesNew.there {f : FuncId} {args : Array Value} {α : Type} [Gv α] {l : List α} {t : TypeId} {p : Option Addr} {n : Nat} (hΦ : ∀ M w, Φ M w → There p n) (h : There p n → GivesNew Φ P f args l t) : GivesNew Φ P f args l t :=
  ⟨fun W w S c => (h (hΦ _ _ c.phi)).go W w S c⟩
theorem Ctx.cloned [Stable Φ] {α : Type} [Gv α] {q : Option Addr} {l : List α} {c2 : Nat} {k : Nat} {t : TypeId} {bytes : Nat} (c : Ctx W w (.blk k [] t :: S) Φ)
    {ts ty : TypeId} {kb : Array Bool} (hb : appB P ts t (Gv.ty α).size bytes = true) (h1 : ∀ M w cs (x : α), Gv.rep M w cs x → (cs.all fun u => oneC u) = true) (hsl : ∀ M w, Φ M w → Sl M w q l) (hlen : l.length < 100000000) (hbytes : bytes ≤ 1000) :
    ∃ p' cap' w' cs, Sem.run P (builtin Builtin.append #[ts, ts] ty kb #[.slice (some ⟨k, 0, none⟩) 0 0, .slice q l.length c2]) w = .ok (.value (.slice p' l.length cap')) w' ∧
      Ctx W w' (.buf p' l.length cap' cs t (Gv.ty α).size :: S) (fun M w => Φ M w ∧ Elems M w cs l) := by
  have c' : Ctx W w (.buf (some ⟨k, 0, none⟩) 0 0 [] t (Gv.ty α).size :: S) Φ := c.toBuf 0 0 (Gv.ty α).size rfl (by simp) (by simp [maxLen])
  rcases Nat.eq_zero_or_pos l.length with h0 | h0
  · obtain ⟨i, z, e1, e2, e3, e4, e5, e6⟩ := appB_out hb
    have hl : l = [] := List.eq_nil_of_length_eq_zero h0
    subst hl
    exact ⟨_, _, w, [], run_app (c'.append0 0 rfl e1 e2 q c2), c'.add Elems.nil⟩
  · obtain ⟨p', cap', w', news, h2, _, c3⟩ := c'.appSl (ty := ty) (kb := kb) (c2 := c2) hb h1 hsl h0 (by omega) hbytes
    rw [Nat.zero_add] at h2 c3
    exact ⟨p', cap', w', news, h2, c3⟩
def RowIn (b o : Nat) (vs : List Value) (M : List Nat) (w : World) : Prop := b ∉ M ∧ RowAt w b o vs ∧ b < w.heap.size
instance instStableRowIn (b o : Nat) (vs : List Value) : Stable (fun M w => RowIn b o vs M w) := ⟨fun hs h =>
  ⟨fun hm => by rcases hs.sub b hm with h1 | h1; exact h.1 h1; have := h.2.2; omega, hs.chg.row h.2.1 h.1, Nat.lt_of_lt_of_le h.2.2 hs.chg.size⟩⟩
def ParkedL (W : World) (Q : List Own) (M : List Nat) (w : World) : Prop := (∀ o ∈ Q, o.at w) ∧ (dom Q).Nodup ∧ ∀ b ∈ dom Q, b ∉ M ∧ W.heap.size ≤ b
instance instStableParkedL (W : World) (Q : List Own) : Stable (fun M w => ParkedL W Q M w) := ⟨fun hs h => by
  have hlt : ∀ b ∈ dom Q, b < _ := fun b hb => by
    obtain ⟨o, ho, hb⟩ := List.mem_flatMap.1 hb
    exact Own.at_lt (h.1 o ho) b hb
  exact ⟨fun o ho => Own.at_keep (h.1 o ho) fun b hb => hs.chg.block b (hlt b (mem_dom ho hb)) (h.2.2 b (mem_dom ho hb)).1, h.2.1, fun b hb => ⟨fun hm => by
    rcases hs.sub b hm with h1 | h1
    · exact (h.2.2 b hb).1 h1
    · have := hlt b hb; omega, (h.2.2 b hb).2⟩⟩⟩
def Aside (W : World) (Q : List Own) (Φ : PW) : PW := fun M w => Φ (dom Q ++ M) w ∧ ParkedL W Q M w
instance instStableAside (W : World) (Q : List Own) (Φ : PW) [Stable Φ] : Stable (Aside W Q Φ) :=
  have h1 : Stable (fun M w => Φ (dom Q ++ M) w) := instStableMore (dom Q) Φ
  instStableAnd (fun M w => Φ (dom Q ++ M) w) (fun M w => ParkedL W Q M w)
theorem Ctx.aside {Q : List Own} (c : Ctx W w (Q ++ S) Φ) : Ctx W w S (Aside W Q Φ) := by
  have hd := dom_app Q S
  have hn := c.nodup
  rw [hd, List.nodup_append] at hn
  refine ⟨c.chg, fun x hx => c.own x (List.mem_append_right _ hx), fun b hb => c.young b (by rw [hd]; exact List.mem_append_right _ hb), hn.2.1, ?_, fun o ho => c.own o (List.mem_append_left _ ho), hn.1, fun b hb => ⟨fun hm => hn.2.2 b hb b hm rfl, c.young b (by rw [hd]; exact List.mem_append_left _ hb)⟩⟩
  have := c.phi
  rw [hd] at this
  exact this
theorem Aside.less [Stable Φ] {Q : List Own} {M : List Nat} (h : Aside W Q Φ M w) : Φ M w := Stable.less h.1
theorem Ctx.re (c : Ctx W w S Φ) (e : S = S') : Ctx W w S' Φ := e ▸ c
theorem Ctx.bufGet (c : Ctx W w S Φ) (k : Nat) {p : Option Addr} {n cap : Nat} {cs : List Value} {t : TypeId} {size : Nat} (hk : S[k]? = some (.buf p n cap cs t size)) {b i : Nat} {v : Value} (hp : p = some ⟨b, 0, none⟩) (hv : cs[i]? = some v) : w.cell? ⟨b, i, none⟩ = some v := by
  obtain ⟨b', h1, _, h2⟩ := c.bufCell k hk (by have := (List.getElem?_eq_some_iff.1 hv).1; omega)
  rw [hp] at h1
  cases h1
  exact (h2 _ _ hv).1
end
end Go.Vc
end

section
namespace Go.Vc
open Go.ChangeShapes Go.WideShapes Go.RowKit
section
variable {H : Type} {enc : TypeId × Value → H} {P : Program} {W : World}
theorem open_gv {α : Type} [Gv α] (d : Nat) {t : TypeId} {v : Value} {x : DataW H} {ps : List MemPlace} (hty : Ty.is P d (Gv.ty α) t = true) (h : DataW.Trod enc P W 0 (fun _ => true) true t v x ps) : ∃ y : α, Gv.rep [] W v.cells.toList y := by
  obtain ⟨fuel, h⟩ := h
  exact Gv.opens.ap hty h
theorem open_sl {α : Type} [Gv α] (d : Nat) {t e : TypeId} {v : Value} {r : Reach} {base : Nat} {x : DataW H} {ps : List MemPlace} (ht : P.underlying t = some (.slice e)) (hv : Value.okWide P W r base t v) (hty : Ty.is P d (Gv.ty (List α)) t = true)
    (h : DataW.Trod enc P W 0 (fun _ => true) true t v x ps) : ∃ (p : Option Addr) (cap : Nat) (l : List α), v = .slice p l.length cap ∧ l.length ≤ cap ∧ cap ≤ maxLen ∧ Sl [] W p l := by
  obtain ⟨a, len, cap, rfl⟩ := okWide_slice ht hv
  obtain ⟨l, hl⟩ := open_gv (α := List α) d hty h
  obtain ⟨p, c, e, h1, h2, h3⟩ := rep_list.1 hl
  simp only [Value.cells, List.cons.injEq, Value.slice.injEq, and_true] at e
  obtain ⟨rfl, rfl, rfl⟩ := e
  exact ⟨a, cap, l, rfl, h1, h2, h3⟩
theorem GivesIn.law {Φ : PW} {f : FuncId} {args : Array Value} (h : GivesIn Φ P f args (.bool true)) (h0 : Φ [] W) : Calls P f args W fun e W' => ∃ u, e = .returned u ∧ (u = .bool true ∧ Chg [] W W') :=
  (h.go W W [] (Ctx.start W h0)).mono fun e w' ⟨h1, h2⟩ => ⟨_, h1, rfl, h2.chg⟩
end
end Go.Vc
end

section
namespace Go.Vc
open Go.RowKit Go.Shelf
section
variable {P : Program} {W w w' : World} {S R F : List Own} {Φ Ψ : PW}
theorem Ctx.lose [Stable Φ] (c : Ctx W w (R ++ S) Φ) (h : Chg (dom R) w w') : Ctx W w' S Φ := by
  have hn := c.nodup
  rw [dom_app, List.nodup_append] at hn
  refine c.go ⟨h.mono fun x hx => by rw [dom_app]; exact List.mem_append_left _ hx, fun b hb => .inl (by rw [dom_app]; exact List.mem_append_right _ hb)⟩ (fun o ho => ?_) hn.2.1
  exact Own.at_keep (c.own o (List.mem_append_right _ ho)) fun b hb => h.block b (c.lt (mem_dom (List.mem_append_right _ ho) hb)) fun hm => hn.2.2 b hm b (mem_dom ho hb) rfl
theorem Ctx.appStr [Stable Φ] {p : Option Addr} {n cap : Nat} {cs : List Value} {e : TypeId} (c : Ctx W w (.buf p n cap cs e 1 :: S) Φ) {t u ty : TypeId} {kb : Array Bool} {i : TypeInfo}
    (ht : P.underlying t = some (.slice e)) (hu : P.underlying u = some .string) (hi : P.info? e = some i) (hz : i.zero = some (.int .u8 0)) (hsize : i.size = 1) (hby : i.bytes = 1) (s : ByteArray)
    (hb : n + s.size ≤ 140737488355328) (h63 : n + s.size ≤ maxLen) :
    ∃ p' cap' w', Sem.run P (builtin Builtin.append #[t, u] ty kb #[.slice p n cap, .string s]) w = .ok (.value (.slice p' (n + s.size) cap')) w' ∧ Ctx W w' (.buf p' (n + s.size) cap' (cs ++ Lib.strCells s) e 1 :: S) Φ := by
  have hown := c.own _ (List.mem_cons_self)
  obtain ⟨hcl, hown⟩ := hown
  have hxl : cs.length = n := by simpa using hcl
  have hlen : (cs ++ Lib.strCells s).length = (n + s.size) * 1 := by rw [List.length_append, hxl, Lib.strCells_length, Nat.mul_one]
  have grown : ∀ (old : Nat), old < n + s.size →
      Ctx W (w.drew.alloc (.cells (cs.toArray ++ (Lib.strCells s).toArray ++ Builtin.zeroCells (Value.int .u8 0).cells (grownCap w (n + s.size) old e - (n + s.size))) e))
        (.buf (some ⟨w.heap.size, 0, none⟩) (n + s.size) (grownCap w (n + s.size) old e) (cs ++ Lib.strCells s) e 1 :: S) Φ := by
    intro old ho
    have hge := grownCap_ge w (n + s.size) old e
    have hcm : grownCap w (n + s.size) old e ≤ maxLen := grownCap_le_maxLen w (n + s.size) old e h63
    have h := c.upd (k := 0) (o' := .buf (some ⟨w.heap.size, 0, none⟩) (n + s.size) (grownCap w (n + s.size) old e) (cs ++ Lib.strCells s) e 1) rfl (((Chg.refl _ _).drewN 1).alloc (.cells (cs.toArray ++ (Lib.strCells s).toArray ++ Builtin.zeroCells (Value.int .u8 0).cells (grownCap w (n + s.size) old e - (n + s.size))) e)) (by simp [Own.dom]) (by simp [Own.dom])
      ⟨hlen, .inr ⟨w.heap.size, _, _, rfl, Nat.zero_le _, hp_alloc_new w.drew _, hge, hcm, ?_, ?_⟩⟩
    · exact h
    · have hz1 : (Value.int IntKind.u8 0).cells.size = 1 := rfl
      simp only [Array.size_append, List.size_toArray, size_zeroCells, hz1, hxl, Lib.strCells_length]
      omega
    · simp only [Array.toList_append, List.append_assoc]
      rw [← List.append_assoc, ← hlen]
      exact List.take_left
  rcases hown with ⟨e1, rfl⟩ | ⟨g, cap', cur, e1, _, hg, hnc, hcm, hcs, htake⟩
  · cases e1
    have hx : cs = [] := List.eq_nil_of_length_eq_zero hxl
    subst hx
    by_cases hm : s.size = 0
    · have hn : Lib.strCells s = [] := List.eq_nil_of_length_eq_zero (by rw [Lib.strCells_length]; exact hm)
      refine ⟨none, 0, w, run_app ?_, by rw [hm, hn]; exact c⟩
      have hf := Lib.run_firstCells_string (P := P) w 1 s
      rw [hm] at hf
      simp [Builtin.append_, run_underlying ht, run_underlying hu, sizeOf, typeInfo, hi, hsize, Builtin.lenOf, hm, hf]
    · have hr := run_append_nil_string (P := P) w t u ty e i (.int .u8 0) ht hu hi hz s (by omega) (by omega) (by rw [hby]; omega)
      have hgr := grown 0 (by omega)
      simp only [Nat.zero_add, List.nil_append, Array.empty_append] at hgr ⊢
      have e1 : (s.data.map fun b => Value.int .u8 b.toNat) = (Lib.strCells s).toArray := by
        apply Array.ext'
        simp [Lib.strCells]
      rw [e1] at hr
      exact ⟨_, _, _, run_app hr, hgr⟩
  · cases e1
    have hcs' : cur.size = cap := by simpa using hcs
    have ht' : cur.toList.take n = cs := by simpa using htake
    by_cases hroom : n + s.size ≤ cap
    · have hr := Lib.run_append_room_string (P := P) w t u ty e i ht hu hi hsize g n cap cur hg s hroom (by omega)
      refine ⟨_, _, _, run_app hr, ?_⟩
      have h := c.upd (k := 0) (w' := w.setRow g (cur.toList.take n ++ Lib.strCells s ++ cur.toList.drop (n + s.size)).toArray) (o' := .buf (some ⟨g, 0, none⟩) (n + s.size) cap (cs ++ Lib.strCells s) e 1) rfl ⟨rfl, rfl, rfl, by simp, fun b _ hb => setRow_other w g b _ (by simpa [Own.dom] using hb)⟩ (by simp [Own.dom]) (by simp [Own.dom])
        ⟨hlen, .inr ⟨g, cap, _, rfl, Nat.zero_le _, setRow_heap w g cur _ e _ hg, hroom, hcm, ?_, ?_⟩⟩
      · exact h
      · simp only [List.size_toArray, List.length_append, List.length_take, List.length_drop, Array.length_toList, Lib.strCells_length]
        omega
      · rw [ht', ← hlen]
        exact List.take_left
    · have holds : ∀ j u, cs[j]? = some u → w.cell? ((⟨g, 0, none⟩ : Addr).add j) = some u := by
        intro j u hj
        have hlt : j < cs.length := (List.getElem?_eq_some_iff.1 hj).1
        have h2 : cur[j]? = some u := by
          rw [← ht', List.getElem?_take_of_lt (by omega)] at hj
          simpa using hj
        rw [addr_add, Nat.zero_add]
        simp [World.cell?, hg, h2]
      have hr := Lib.run_append_grow_string (P := P) w t u ty e i (.int .u8 0) ht hu hi hz ⟨g, 0, none⟩ n cap cs (by rw [hsize]; simpa using hxl) holds s (by omega) (by omega) (by rw [hby]; exact growslice_fits (by omega) (by omega))
      exact ⟨_, _, _, run_app hr, grown cap (by omega)⟩
def Bd (T e : TypeId) (b : Nat) (l : List UInt8) (R : List Own) : Prop :=
  ∃ (pa : Value) (p : Option Addr) (cap : Nat), (pa = .pointer none ∨ pa = .pointer (some ⟨b, 0, none⟩)) ∧ R = [.blk b [pa, .slice p l.length cap] T, .buf p l.length cap (Lib.byteCells l) e 1]
theorem Bd.fresh [Stable Φ] {T e : TypeId} {b : Nat} (c : Ctx W w (.blk b [.pointer none, .slice none 0 0] T :: S) Φ) : Ctx W w ([.blk b [.pointer none, .slice none 0 0] T, .buf none 0 0 [] e 1] ++ S) Φ :=
  ((c.buf0 e 1).perm (List.Perm.swap _ _ _))
theorem Bd.nil {T e : TypeId} {b : Nat} : Bd T e b [] [.blk b [.pointer none, .slice none 0 0] T, .buf none 0 0 [] e 1] := ⟨.pointer none, none, 0, .inl rfl, rfl⟩
end
section
open Go.Proofs
variable {P : Program} {ρ : Ren}
theorem chg_freeze {a w : World} {D : List Nat} (h : Chg D a w) {p : Addr} (hp : p.block ∈ D) (n : Nat) : Chg D a (w.freeze p n) := by
  refine h.trans (T := D) ?_ (fun x hx => .inl hx)
  unfold World.freeze
  split
  · exact Chg.refl _ _
  · refine ⟨rfl, rfl, rfl, by simp, fun k hk hn => ?_⟩
    simp only [Array.getElem?_modify]
    rw [if_neg (fun e => hn (by rw [← e]; exact hp))]
set_option maxHeartbeats 1000000 in
set_option maxRecDepth 100000 in
theorem builder_String_some (L : Lays.n169 P ρ) (X : Builder.Extra P ρ) (b g cap : Nat) (pa : Value) (l : List UInt8) (w : World) (h0 : l ≠ []) (hbk : w.heap[b]? = some (.cells #[pa, .slice (some ⟨g, 0, none⟩) l.length cap] (ρ.t 72) (0, 0)))
    (hown : w.ownsRow 0 (ρ.t 5) 1 (.slice (some ⟨g, 0, none⟩) l.length cap) l.length (Lib.byteCells l)) :
    Calls P (ρ.f 169) #[.pointer (some ⟨b, 0, none⟩)] w fun e w' => e = .returned (.string ⟨l.toArray⟩) ∧ Chg [g] w w' := by
  have hl0 : l.length ≠ 0 := by simpa using h0
  obtain ⟨cur, hg, hnc, hcm, hcs, htake⟩ : ∃ cur, w.heap[g]? = some (.cells cur (ρ.t 5) (0, 0)) ∧ l.length ≤ cap ∧ cap ≤ maxLen ∧ cur.size = cap * 1 ∧ cur.toList.take (l.length * 1) = Lib.byteCells l := by
    rcases hown.2 with ⟨hv, _⟩ | ⟨g', cap', cur, hv, _, r⟩
    · cases hv
    · cases hv; exact ⟨cur, r⟩
  have c1 : w.drew.cell? ⟨b, 1, none⟩ = some (.slice (some ⟨g, 0, none⟩) l.length cap) := by
    have : w.drew.heap[b]? = some (.cells #[pa, .slice (some ⟨g, 0, none⟩) l.length cap] (ρ.t 72) (0, 0)) := hbk
    rw [Lib.cell_of_heap this]; rfl
  have hSD : (Builtin.unsafeSliceData_ #[(ρ.t 37)] (ρ.t 127) #[.slice (some ⟨g, 0, none⟩) l.length cap]).run P w.drew = .ok (.pointer (some ⟨g, 0, none⟩)) w.drew :=
    Lib.run_unsafeSliceData_row _ _ _ _ _ _ (by omega)
  have hUS : (Builtin.unsafeString_ #[(ρ.t 127), (ρ.t 3)] (ρ.t 9) #[.pointer (some ⟨g, 0, none⟩), .int .i64 l.length]).run P w.drew = .ok (.string ⟨l.toArray⟩) (w.drew.freeze ⟨g, 0, none⟩ l.length) := by
    refine Lib.run_unsafeString_row w.drew (ρ.t 127) (ρ.t 3) (ρ.t 9) (ρ.t 5) L.t127 X.cellsByte g cur.size (by have hg' : w.drew.heap[g]? = some (.cells cur (ρ.t 5) (0, 0)) := hg; simp [World.shape?, hg']) l h0 (by omega) (by unfold maxLen at hcm; omega) ?_
    intro j x hx
    have := hown.cells (g := g) rfl j (.int .u8 x.toNat) (by simp [Lib.byteCells, hx])
    exact this
  have mixed := L.mixed
  have t72 := L.t72; have a72 := L.a72; have z72 := L.z72; have v72 := L.v72; have u72 := run_underlying L.t72
  have t70 := L.t70; have a70 := L.a70; have z70 := L.z70; have v70 := L.v70; have u70 := run_underlying L.t70
  have t37 := L.t37; have a37 := L.a37; have z37 := L.z37; have v37 := L.v37; have u37 := run_underlying L.t37
  have t127 := L.t127; have a127 := L.a127; have z127 := L.z127; have v127 := L.v127; have u127 := run_underlying L.t127
  have t3 := L.t3; have a3 := L.a3; have z3 := L.z3; have v3 := L.v3; have u3 := run_underlying L.t3
  have t9 := L.t9; have a9 := L.a9; have z9 := L.z9; have v9 := L.v9; have u9 := run_underlying L.t9
  have t5 := X.t5; have a5 := X.a5; have z5 := X.z5; have v5 := X.v5; have u5 := run_underlying X.t5
  go_enter L.f169, Body.n169_ntmps ρ
  go_wp2
  go_region_o
  all_goals (go_wp2; go_ret; exact ⟨rfl, chg_freeze ((Chg.refl _ _).drewN 1) (p := ⟨g, 0, none⟩) (by simp) _⟩)
set_option maxHeartbeats 2000000 in
set_option maxRecDepth 100000 in
theorem builder_String_nil (L : Lays.n169 P ρ) (X : Builder.Extra P ρ) (b : Nat) (p : Value) (w : World) (hbk : w.heap[b]? = some (.cells #[p, .slice none 0 0] (ρ.t 72) (0, 0))) :
    Calls P (ρ.f 169) #[.pointer (some ⟨b, 0, none⟩)] w fun e w' => e = .returned (.string ⟨#[]⟩) ∧ Chg [] w w' := by
  have hUS := Any.unsafeString_none L X
  have c1 : w.drew.cell? ⟨b, 1, none⟩ = some (.slice none 0 0) := by
    have : w.drew.heap[b]? = some (.cells #[p, .slice none 0 0] (ρ.t 72) (0, 0)) := hbk
    rw [Lib.cell_of_heap this]; rfl
  have hSD : (Builtin.unsafeSliceData_ #[(ρ.t 37)] (ρ.t 127) #[.slice none 0 0]).run P w.drew = .ok (.pointer none) w.drew := rfl
  have mixed := L.mixed
  have t72 := L.t72; have a72 := L.a72; have z72 := L.z72; have v72 := L.v72; have u72 := run_underlying L.t72
  have t70 := L.t70; have a70 := L.a70; have z70 := L.z70; have v70 := L.v70; have u70 := run_underlying L.t70
  have t37 := L.t37; have a37 := L.a37; have z37 := L.z37; have v37 := L.v37; have u37 := run_underlying L.t37
  have t127 := L.t127; have a127 := L.a127; have z127 := L.z127; have v127 := L.v127; have u127 := run_underlying L.t127
  have t3 := L.t3; have a3 := L.a3; have z3 := L.z3; have v3 := L.v3; have u3 := run_underlying L.t3
  have t9 := L.t9; have a9 := L.a9; have z9 := L.z9; have v9 := L.v9; have u9 := run_underlying L.t9
  have t5 := X.t5; have a5 := X.a5; have z5 := X.z5; have v5 := X.v5; have u5 := run_underlying X.t5
  go_enter L.f169, Body.n169_ntmps ρ
  go_wp2
  go_region_o
  all_goals (go_wp2; go_ret; exact ⟨rfl, (Chg.refl _ _).drewN 1⟩)
set_option maxHeartbeats 2000000 in
set_option maxRecDepth 100000 in
theorem builder_String_noroom (L : Lays.n169 P ρ) (X : Builder.Extra P ρ) (b g : Nat) (p : Value) (cur : Array Value) (w : World) (hbk : w.heap[b]? = some (.cells #[p, .slice (some ⟨g, 0, none⟩) 0 0] (ρ.t 72) (0, 0))) (hg : w.heap[g]? = some (.cells cur (ρ.t 5) (0, 0))) :
    Calls P (ρ.f 169) #[.pointer (some ⟨b, 0, none⟩)] w fun e w' => e = .returned (.string ⟨#[]⟩) ∧ Chg [] w w' := by
  have hUS := Any.unsafeString_none L X
  have hlt : b < w.heap.size := by
    rcases Nat.lt_or_ge b w.heap.size with h' | h'
    · exact h'
    · simp [Array.getElem?_eq_none h'] at hbk
  have c1 : w.drew.cell? ⟨b, 1, none⟩ = some (.slice (some ⟨g, 0, none⟩) 0 0) := by
    have : w.drew.heap[b]? = some (.cells #[p, .slice (some ⟨g, 0, none⟩) 0 0] (ρ.t 72) (0, 0)) := hbk
    rw [Lib.cell_of_heap this]; rfl
  have hSD : (Builtin.unsafeSliceData_ #[(ρ.t 37)] (ρ.t 127) #[.slice (some ⟨g, 0, none⟩) 0 0]).run P w.drew = .ok (.pointer (some ⟨w.drew.heap.size, 0, none⟩)) (w.drew.alloc (.view ⟨g, 0, none⟩ (ρ.t 5))) :=
    Lib.run_unsafeSliceData_zero w.drew _ _ (ρ.t 5) L.t127 ⟨g, 0, none⟩ 0 ((ρ.t 5), cur.size) (by have hg' : w.drew.heap[g]? = some (.cells cur (ρ.t 5) (0, 0)) := hg; simp [World.shape?, hg'])
  have c2 : (w.drew.alloc (.view ⟨g, 0, none⟩ (ρ.t 5))).cell? ⟨b, 1, none⟩ = some (.slice (some ⟨g, 0, none⟩) 0 0) := by
    have : (w.drew.alloc (.view ⟨g, 0, none⟩ (ρ.t 5))).heap[b]? = _ := (Lib.alloc_old w.drew _ b hlt).trans hbk
    rw [Lib.cell_of_heap this]; rfl
  have c3 : (w.alloc (.view ⟨g, 0, none⟩ (ρ.t 5))).drew.cell? ⟨b, 1, none⟩ = some (.slice (some ⟨g, 0, none⟩) 0 0) := c2
  have c0 : w.cell? ⟨b, 1, none⟩ = some (.slice (some ⟨g, 0, none⟩) 0 0) := c1
  have mixed := L.mixed
  have t72 := L.t72; have a72 := L.a72; have z72 := L.z72; have v72 := L.v72; have u72 := run_underlying L.t72
  have t70 := L.t70; have a70 := L.a70; have z70 := L.z70; have v70 := L.v70; have u70 := run_underlying L.t70
  have t37 := L.t37; have a37 := L.a37; have z37 := L.z37; have v37 := L.v37; have u37 := run_underlying L.t37
  have t127 := L.t127; have a127 := L.a127; have z127 := L.z127; have v127 := L.v127; have u127 := run_underlying L.t127
  have t3 := L.t3; have a3 := L.a3; have z3 := L.z3; have v3 := L.v3; have u3 := run_underlying L.t3
  have t9 := L.t9; have a9 := L.a9; have z9 := L.z9; have v9 := L.v9; have u9 := run_underlying L.t9
  have t5 := X.t5; have a5 := X.a5; have z5 := X.z5; have v5 := X.v5; have u5 := run_underlying X.t5
  go_enter L.f169, Body.n169_ntmps ρ
  go_wp2
  go_region_o
  all_goals (go_wp2; go_ret; exact ⟨rfl, ((Chg.refl _ _).drewN 1).alloc _⟩)
set_option maxHeartbeats 2000000 in
set_option maxRecDepth 100000 in
theorem builder_String_room (L : Lays.n169 P ρ) (X : Builder.Extra P ρ) (b g cap : Nat) (p : Value) (w : World) (hc0 : cap ≠ 0) (hbk : w.heap[b]? = some (.cells #[p, .slice (some ⟨g, 0, none⟩) 0 cap] (ρ.t 72) (0, 0))) :
    Calls P (ρ.f 169) #[.pointer (some ⟨b, 0, none⟩)] w fun e w' => e = .returned (.string ⟨#[]⟩) ∧ Chg [] w w' := by
  have hUS := Any.unsafeString_none L X
  have c1 : w.drew.cell? ⟨b, 1, none⟩ = some (.slice (some ⟨g, 0, none⟩) 0 cap) := by
    have : w.drew.heap[b]? = some (.cells #[p, .slice (some ⟨g, 0, none⟩) 0 cap] (ρ.t 72) (0, 0)) := hbk
    rw [Lib.cell_of_heap this]; rfl
  have hSD : (Builtin.unsafeSliceData_ #[(ρ.t 37)] (ρ.t 127) #[.slice (some ⟨g, 0, none⟩) 0 cap]).run P w.drew = .ok (.pointer (some ⟨g, 0, none⟩)) w.drew :=
    Lib.run_unsafeSliceData_row _ _ _ _ _ _ hc0
  clear hc0
  have mixed := L.mixed
  have t72 := L.t72; have a72 := L.a72; have z72 := L.z72; have v72 := L.v72; have u72 := run_underlying L.t72
  have t70 := L.t70; have a70 := L.a70; have z70 := L.z70; have v70 := L.v70; have u70 := run_underlying L.t70
  have t37 := L.t37; have a37 := L.a37; have z37 := L.z37; have v37 := L.v37; have u37 := run_underlying L.t37
  have t127 := L.t127; have a127 := L.a127; have z127 := L.z127; have v127 := L.v127; have u127 := run_underlying L.t127
  have t3 := L.t3; have a3 := L.a3; have z3 := L.z3; have v3 := L.v3; have u3 := run_underlying L.t3
  have t9 := L.t9; have a9 := L.a9; have z9 := L.z9; have v9 := L.v9; have u9 := run_underlying L.t9
  have t5 := X.t5; have a5 := X.a5; have z5 := X.z5; have v5 := X.v5; have u5 := run_underlying X.t5
  go_enter L.f169, Body.n169_ntmps ρ
  go_wp2
  go_region_o
  all_goals (go_wp2; go_ret; exact ⟨rfl, (Chg.refl _ _).drewN 1⟩)
theorem Bd.string {W w : World} {S R : List Own} {Φ : PW} [Stable Φ] {b : Nat} {l : List UInt8} (L : Lays.n169 P ρ) (X : Builder.Extra P ρ) (h : Bd (ρ.t 72) (ρ.t 5) b l R) (c : Ctx W w (R ++ S) Φ) {K : Ending → World → Prop}
    (hk : ∀ w', Ctx W w' S Φ → K (.returned (.string ⟨l.toArray⟩)) w') : Calls P (ρ.f 169) #[.pointer (some ⟨b, 0, none⟩)] w K := by
  obtain ⟨pa, p, cap, hpa, rfl⟩ := h
  have hbk : w.heap[b]? = some (.cells #[pa, .slice p l.length cap] (ρ.t 72) (0, 0)) := c.blk 0 rfl
  have hown : w.ownsRow 0 (ρ.t 5) 1 (.slice p l.length cap) l.length (Lib.byteCells l) := c.own _ (List.mem_cons_of_mem _ List.mem_cons_self)
  by_cases h0 : l = []
  · subst h0
    rcases hown.2 with ⟨e, _⟩ | ⟨g, cap', cur, e, _, hg, _⟩
    · cases e
      exact (builder_String_nil L X b pa w hbk).mono fun e w' ⟨he, hc⟩ => by subst he; exact hk w' (c.lose (hc.mono (by simp)))
    · cases e
      by_cases hc0 : cap = 0
      · subst hc0
        exact (builder_String_noroom L X b g pa cur w hbk hg).mono fun e w' ⟨he, hc⟩ => by subst he; exact hk w' (c.lose (hc.mono (by simp)))
      · exact (builder_String_room L X b g cap pa w hc0 hbk).mono fun e w' ⟨he, hc⟩ => by subst he; exact hk w' (c.lose (hc.mono (by simp)))
  · have hl0 : l.length ≠ 0 := by simpa using h0
    obtain ⟨g, rfl⟩ : ∃ g, p = some ⟨g, 0, none⟩ := by
      rcases hown.2 with ⟨_, hz⟩ | ⟨g, cap', cur, hv, _⟩
      · exact absurd hz hl0
      · cases hv; exact ⟨g, rfl⟩
    exact (builder_String_some L X b g cap pa l w h0 hbk hown).mono fun e w' ⟨he, hc⟩ => by subst he; exact hk w' (c.lose (hc.mono (by simp [dom, Own.dom])))
end
def Tab (P : Program) (name : String) (k : IntKind) (zs : List Int) : PW := fun M w => Lib.TabIs P w name k zs ∧ ∀ g, P.globalNamed name = some g → g ∉ M
instance instStableTab (P : Program) (name : String) (k : IntKind) (zs : List Int) : Stable (Tab P name k zs) := ⟨fun {M M' w w'} hs h => by
  obtain ⟨h1, h2⟩ := h
  unfold Lib.TabIs World.var? at h1
  cases hg : P.globalNamed name with
  | none => simp [hg] at h1
  | some g =>
    simp only [hg, Option.bind_some] at h1
    have hlt : g < w.heap.size := by
      rcases Nat.lt_or_ge g w.heap.size with h' | h'
      · exact h'
      · rw [Array.getElem?_eq_none h'] at h1; simp at h1
    refine ⟨?_, fun g' hg' hm => ?_⟩
    · unfold Lib.TabIs World.var?
      simp only [hg, Option.bind_some]
      rw [hs.chg.block g hlt (h2 g hg)]
      exact h1
    · rw [hg] at hg'
      cases hg'
      rcases hs.sub g hm with h | h
      · exact h2 g hg h
      · omega⟩
theorem Tab.start {P : Program} {name : String} {k : IntKind} {zs : List Int} {w : World} (h : Lib.TabIs P w name k zs) : Tab P name k zs [] w := ⟨h, fun _ _ => by simp⟩
theorem chg_grow {w : World} {k : Nat} {os : Array Obj} : Chg [] w (Sort.grow (w.drewN k) os) :=
  ⟨rfl, rfl, rfl, by show w.heap.size ≤ (w.heap ++ os).size; rw [Array.size_append]; omega, fun j hj _ => by
    show (w.heap ++ os)[j]? = w.heap[j]?
    rw [Array.getElem?_append_left hj]⟩
theorem itoa_in {P : Program} {f : FuncId} {Φ : PW} [Stable Φ] {name : String} (hI : ∀ (n : Int), -9223372036854775808 ≤ n → n ≤ 9223372036854775807 → ∀ w, Lib.TabIs P w name .u64 Lib.pow10Tab →
      Calls P f #[.int .i64 n] w fun e w' => e = .returned (.string ⟨(Lib.itoa n).toArray⟩) ∧ ∃ k os, w' = Sort.grow (w.drewN k) os)
    (hΦ : ∀ M w, Φ M w → Tab P name .u64 Lib.pow10Tab M w) (n : Int) (h : I64 n) : GivesIn Φ P f #[.int .i64 n] (.string ⟨(Lib.itoa n).toArray⟩) :=
  ⟨fun W w S c => (hI n (by unfold I64 at h; omega) (by unfold I64 at h; omega) w (hΦ _ _ c.phi).1).mono fun e w' ⟨he, k, os, hw⟩ => ⟨he, by rw [hw]; exact c.call chg_grow⟩⟩
open Go.ChangeShapes Go.WideShapes Go.ChangeAt
end Go.Vc
end

section
namespace Go.Vc
section
variable {P : Program} {W w : World} {R G : List Own} {Φ Ψ : PW} {f : FuncId} {args : Array Value}
class Has (Φ Ψ : PW) : Prop where
  go : ∀ M w, Φ M w → Ψ M w
instance (priority := 2000) hasRefl (Φ : PW) : Has Φ Φ := ⟨fun _ _ h => h⟩
instance (priority := 900) hasL (A B Ψ : PW) [h : Has A Ψ] : Has (fun M w => A M w ∧ B M w) Ψ := ⟨fun M w x => h.go M w x.1⟩
instance (priority := 1000) hasR (A B Ψ : PW) [h : Has B Ψ] : Has (fun M w => A M w ∧ B M w) Ψ := ⟨fun M w x => h.go M w x.2⟩
instance hasTrue (Φ : PW) : Has Φ (fun _ _ => True) := ⟨fun _ _ _ => trivial⟩
instance (priority := 800) hasAnd (Φ A B : PW) [h : Has Φ A] [k : Has Φ B] : Has Φ (fun M w => A M w ∧ B M w) := ⟨fun M w x => ⟨h.go M w x, k.go M w x⟩⟩
theorem Ctx.has (c : Ctx W w R Φ) [h : Has Φ Ψ] : Ctx W w R Ψ := c.weak h.go
theorem GivesSl.to [Stable Φ] {α : Type} [Gv α] {l : List α} (h : GivesSl Φ P f args l id) (c : Ctx W w (R ++ G) Φ) {K : Option Addr → Nat → Nat → List Own → PW → Prop}
    (hk : ∀ p cap, l.length ≤ cap → cap ≤ maxLen → Stable (fun M w => Φ M w ∧ Sl M w p l) → K p l.length cap R (fun M w => Φ M w ∧ Sl M w p l)) :
    Calls P f args w fun e w' => ∃ p n c, e = .returned (.slice p n c) ∧ ∃ R' Φ', Stable Φ' ∧ Ctx W w' (R' ++ G) Φ' ∧ K p n c R' Φ' :=
  h.use c fun p cap w' h1 h2 c => ⟨p, _, cap, rfl, R, _, inferInstance, c, hk p cap h1 h2 inferInstance⟩
theorem GivesIn.toB [Stable Φ] {b : Bool} (h : GivesIn Φ P f args (.bool b)) (c : Ctx W w (R ++ G) Φ) {K : Bool → List Own → PW → Prop} (hk : K b R Φ) :
    Calls P f args w fun e w' => ∃ c, e = .returned (.bool c) ∧ ∃ R' Φ', Stable Φ' ∧ Ctx W w' (R' ++ G) Φ' ∧ K c R' Φ' :=
  h.use c fun w' c => ⟨b, rfl, R, Φ, inferInstance, c, hk⟩
theorem GivesIn.toI [Stable Φ] {n : Int} {k : IntKind} (h : GivesIn Φ P f args (.int k n)) (c : Ctx W w (R ++ G) Φ) {K : Int → List Own → PW → Prop} (hk : K n R Φ) :
    Calls P f args w fun e w' => ∃ c, e = .returned (.int k c) ∧ ∃ R' Φ', Stable Φ' ∧ Ctx W w' (R' ++ G) Φ' ∧ K c R' Φ' :=
  h.use c fun w' c => ⟨n, rfl, R, Φ, inferInstance, c, hk⟩
theorem GivesIn.toS [Stable Φ] {s : ByteArray} (h : GivesIn Φ P f args (.string s)) (c : Ctx W w (R ++ G) Φ) {K : ByteArray → List Own → PW → Prop} (hk : K s R Φ) :
    Calls P f args w fun e w' => ∃ c, e = .returned (.string c) ∧ ∃ R' Φ', Stable Φ' ∧ Ctx W w' (R' ++ G) Φ' ∧ K c R' Φ' :=
  h.use c fun w' c => ⟨s, rfl, R, Φ, inferInstance, c, hk⟩
theorem fin [Stable Φ] [Stable Ψ] [hw : Has Ψ Φ] {v : Value} (c : Ctx W w (R ++ G) Ψ) : v = v ∧ Ctx W w R Φ := ⟨rfl, (Ctx.has c).left⟩
end
end Go.Vc
end

section
namespace Go.Vc
structure MEnt where
  key : Int × ByteArray
  val : Int
  born : Nat
abbrev keyV (k : Int × ByteArray) : Value := .agg #[.int .i64 k.1, .string k.2]
def MEnt.m (e : MEnt) : MapEntry := ⟨keyV e.key, .int .i64 e.val, e.born⟩
def getM : List MEnt → Int × ByteArray → Int
  | [], _ => 0
  | e :: es, k => if k = e.key then e.val else getM es k
structure MapOk (es : List MEnt) (clock : Nat) : Prop where
  keys : es.Pairwise fun a b => a.key ≠ b.key
  borns : es.Pairwise fun a b => a.born ≠ b.born
  lt : ∀ e ∈ es, e.born < clock
structure KeyTy (P : Program) (t k e : TypeId) : Prop where
  map : P.underlying t = some (.map k e)
  str : ∃ fs, P.underlying k = some (.struct fs)
  chk : ∀ b x w, (Instr.checkKey b 10000 k (keyV x)).run P w = .ok () w
  eq : ∀ x y w, (Op.equal k (keyV x) (keyV y)).run P w = .ok (decide (x = y)) w
  zero : ∀ w, (zeroValue e).run P w = .ok (.int .i64 0) w
section
variable {P : Program} {t k e : TypeId} (T : KeyTy P t k e)
include T
end
section
variable {P : Program} {W w : World} {Q R G : List Own} {Φ Ψ : PW} {f : FuncId} {args : Array Value}
structure GivesQ (Q : List Own) (Φ : PW) (P : Program) (f : FuncId) (args : Array Value) (v : Value) : Prop where
  go : ∀ (W w : World) (S : List Own), Ctx W w (Q ++ S) Φ → Calls P f args w fun e w' => e = .returned v ∧ Ctx W w' (Q ++ S) Φ
structure GivesQSl (Q : List Own) (Φ : PW) (P : Program) (f : FuncId) (args : Array Value) {α : Type} [Gv α] (l : List α) : Prop where
  go : ∀ (W w : World) (S : List Own), Ctx W w (Q ++ S) Φ → Calls P f args w fun e w' => ∃ p cap, e = .returned (.slice p l.length cap) ∧ l.length ≤ cap ∧ cap ≤ maxLen ∧ Ctx W w' (Q ++ S) (fun M w => Φ M w ∧ Sl M w p l)
theorem gives_q [Stable Φ] {v : Value} {B : World → List Own → PW → (Value → World → Prop) → Prop}
    (run : ∀ {W w : World} {R : List Own} {Φ : PW} [Stable Φ] {J : Value → World → Prop}, Ctx W w R Φ → B W R Φ J → Calls P f args w fun e w' => ∃ v, e = .returned v ∧ J v w')
    (h : ∀ (W : World) (R : List Own), B W (Q ++ R) Φ fun u w' => u = v ∧ Ctx W w' (Q ++ R) Φ) : GivesQ Q Φ P f args v :=
  ⟨fun W w S c => calls_of (run c (h W S)) fun u w' ⟨h1, h2⟩ => ⟨by rw [h1], h2⟩⟩
theorem gives_qsl [Stable Φ] {α : Type} [Gv α] {l : List α} {B : World → List Own → PW → (Value → World → Prop) → Prop}
    (run : ∀ {W w : World} {R : List Own} {Φ : PW} [Stable Φ] {J : Value → World → Prop}, Ctx W w R Φ → B W R Φ J → Calls P f args w fun e w' => ∃ v, e = .returned v ∧ J v w')
    (h : ∀ (W : World) (R : List Own), B W (Q ++ R) Φ fun u w' => ∃ p cap, u = .slice p l.length cap ∧ l.length ≤ cap ∧ cap ≤ maxLen ∧ Ctx W w' (Q ++ R) (fun M w => Φ M w ∧ Sl M w p l)) : GivesQSl Q Φ P f args l :=
  ⟨fun W w S c => calls_of (run c (h W S)) fun u w' ⟨p, cap, h1, h2⟩ => ⟨p, cap, by rw [h1], h2⟩⟩
theorem Ctx.inl (c : Ctx W w ((Q ++ R) ++ G) Φ) : Ctx W w (Q ++ (R ++ G)) Φ := c.re (List.append_assoc _ _ _)
theorem Ctx.outl (c : Ctx W w (Q ++ (R ++ G)) Φ) : Ctx W w ((Q ++ R) ++ G) Φ := c.re (List.append_assoc _ _ _).symm
theorem GivesQ.toB [Stable Φ] {b : Bool} (h : GivesQ Q Φ P f args (.bool b)) (c : Ctx W w ((Q ++ R) ++ G) Φ) {K : Bool → List Own → PW → Prop} (hk : K b (Q ++ R) Φ) :
    Calls P f args w fun e w' => ∃ c, e = .returned (.bool c) ∧ ∃ R' Φ', Stable Φ' ∧ Ctx W w' (R' ++ G) Φ' ∧ K c R' Φ' :=
  (h.go W w (R ++ G) c.inl).mono fun e w' ⟨he, c'⟩ => ⟨b, he, Q ++ R, Φ, inferInstance, c'.outl, hk⟩
theorem GivesQ.toI [Stable Φ] {n : Int} {k : IntKind} (h : GivesQ Q Φ P f args (.int k n)) (c : Ctx W w ((Q ++ R) ++ G) Φ) {K : Int → List Own → PW → Prop} (hk : K n (Q ++ R) Φ) :
    Calls P f args w fun e w' => ∃ n, e = .returned (.int k n) ∧ ∃ R' Φ', Stable Φ' ∧ Ctx W w' (R' ++ G) Φ' ∧ K n R' Φ' :=
  (h.go W w (R ++ G) c.inl).mono fun e w' ⟨he, c'⟩ => ⟨n, he, Q ++ R, Φ, inferInstance, c'.outl, hk⟩
theorem GivesQSl.tot [Stable Φ] {α : Type} [Gv α] {l : List α} (h : GivesQSl Q Φ P f args l) (c : Ctx W w ((Q ++ R) ++ G) Φ) {K : Option Addr → Nat → Nat → List Own → PW → Prop}
    (hk : ∀ p cap, l.length ≤ cap → cap ≤ maxLen → There p l.length → Stable (fun M w => Φ M w ∧ Sl M w p l) → K p l.length cap (Q ++ R) (fun M w => Φ M w ∧ Sl M w p l)) :
    Calls P f args w fun e w' => ∃ p n c, e = .returned (.slice p n c) ∧ ∃ R' Φ', Stable Φ' ∧ Ctx W w' (R' ++ G) Φ' ∧ K p n c R' Φ' :=
  (h.go W w (R ++ G) c.inl).mono fun e w' ⟨p, cap, he, h1, h2, c'⟩ => ⟨p, _, cap, he, Q ++ R, _, inferInstance, c'.outl, hk p cap h1 h2 c'.phi.2.there inferInstance⟩
end
end Go.Vc
end

section
namespace Go.Vc
variable {κ ν : Type} [DecidableEq κ] {kv : κ → Value} {vv : ν → Value} {z : ν}
structure GEnt (κ ν : Type) where
  key : κ
  val : ν
  born : Nat
def GEnt.m (kv : κ → Value) (vv : ν → Value) (e : GEnt κ ν) : MapEntry := ⟨kv e.key, vv e.val, e.born⟩
def gObj (kv : κ → Value) (vv : ν → Value) (es : List (GEnt κ ν)) (clock : Nat) : Obj := .map (es.map (GEnt.m kv vv)).toArray clock
def getG (z : ν) : List (GEnt κ ν) → κ → ν
  | [], _ => z
  | e :: es, k => if k = e.key then e.val else getG z es k
def findG (vv : ν → Value) : List (GEnt κ ν) → κ → Nat → Option (Nat × Value)
  | [], _, _ => none
  | e :: es, k, i => if k = e.key then some (i, vv e.val) else findG vv es k (i + 1)
structure GOk (es : List (GEnt κ ν)) (clock : Nat) : Prop where
  keys : es.Pairwise fun a b => a.key ≠ b.key
  borns : es.Pairwise fun a b => a.born ≠ b.born
  lt : ∀ e ∈ es, e.born < clock
structure GTy (P : Program) (t k e : TypeId) (kv : κ → Value) (vv : ν → Value) (z : ν) : Prop where
  map : P.underlying t = some (.map k e)
  find : ∀ (x : κ) (es : List (GEnt κ ν)) w, (Instr.findKey k (kv x) (es.map (GEnt.m kv vv))).run P w = .ok (findG vv es x 0) w
  chk : ∀ b x w, (Instr.checkKey b 10000 k (kv x)).run P w = .ok () w
  stays : ∀ x w, (Instr.keyThatStays (kv x) (kv x)).run P w = .ok (kv x) w
  zero : ∀ w, (zeroValue e).run P w = .ok (vv z) w
theorem findG_none : ∀ {es : List (GEnt κ ν)} {k : κ} {i : Nat}, findG vv es k i = none → ∀ e ∈ es, e.key ≠ k
  | [], _, _, _, e, he => by cases he
  | x :: es, k, i, h, e, he => by
    unfold findG at h
    split at h
    · cases h
    · rename_i hk
      rcases List.mem_cons.1 he with rfl | he
      · exact fun e => hk e.symm
      · exact findG_none h e he
theorem getG_none : ∀ {es : List (GEnt κ ν)} {k : κ}, (∀ e ∈ es, e.key ≠ k) → getG z es k = z
  | [], _, _ => rfl
  | x :: es, k, h => by
    unfold getG
    rw [if_neg fun e => h x (by simp) e.symm]
    exact getG_none fun e he => h e (by simp [he])
theorem findG_some : ∀ {es : List (GEnt κ ν)} {k : κ} {i j : Nat} {v : Value}, findG vv es k i = some (j, v) → ∃ n e, j = i + n ∧ es[n]? = some e ∧ e.key = k ∧ v = vv e.val ∧ getG z es k = e.val
  | [], _, _, _, _, h => by cases h
  | x :: es, k, i, j, v, h => by
    unfold findG at h
    split at h
    · rename_i hk
      cases h
      exact ⟨0, x, rfl, rfl, hk.symm, rfl, by unfold getG; rw [if_pos hk]⟩
    · rename_i hk
      obtain ⟨n, e, h1, h2, h3, h4, h5⟩ := findG_some h
      exact ⟨n + 1, e, by omega, by simpa using h2, h3, h4, by unfold getG; rw [if_neg hk]; exact h5⟩
section
variable {P : Program} {t k e : TypeId} (T : GTy P t k e kv vv z)
include T
theorem run_lookupG {w : World} {b : Nat} {es : List (GEnt κ ν)} {clock : Nat} (hb : w.heap[b]? = some (gObj kv vv es clock)) (x : κ) :
    Sem.run P (Instr.lookup t (.map (some b)) (kv x) false) w = .ok (vv (getG z es x)) w := by
  have h1 := T.find x es w
  unfold gObj at hb
  unfold Instr.lookup
  simp only [Sem.run_bind, run_underlying T.map, MapKept.run_getObj_map hb, Result.andThen, T.chk, Sem.run_pure, h1]
  cases hf : findG vv es x 0 with
  | none => simp only [Sem.run_bind, T.zero, Result.andThen, Sem.run_pure, getG_none (findG_none hf)]; rfl
  | some r =>
    obtain ⟨j, v⟩ := r
    obtain ⟨n, e', _, _, _, hv, hg⟩ := findG_some (z := z) hf
    simp only [Sem.run_pure, Result.andThen]
    rw [hg, hv]; rfl
end
section
variable {P : Program} {t k e : TypeId} (T : GTy P t k e kv vv z)
omit [DecidableEq κ] in
theorem setG_keys (n : Nat) (v : ν) : ∀ (es : List (GEnt κ ν)), (es.modify n fun a => { a with val := v }).map GEnt.key = es.map GEnt.key := fun es => by
  apply List.ext_getElem?
  intro i
  rw [List.getElem?_map, List.getElem?_map, List.getElem?_modify]
  cases es[i]? with
  | none => rfl
  | some a => by_cases h : n = i <;> simp [h]
omit [DecidableEq κ] in
theorem setG_borns (n : Nat) (v : ν) : ∀ (es : List (GEnt κ ν)), (es.modify n fun a => { a with val := v }).map GEnt.born = es.map GEnt.born := fun es => by
  apply List.ext_getElem?
  intro i
  rw [List.getElem?_map, List.getElem?_map, List.getElem?_modify]
  cases es[i]? with
  | none => rfl
  | some a => by_cases h : n = i <;> simp [h]
theorem getG_snoc {x : κ} {v : ν} {b : Nat} : ∀ {es : List (GEnt κ ν)}, (∀ a ∈ es, a.key ≠ x) → ∀ y, getG z (es ++ [⟨x, v, b⟩]) y = if y = x then v else getG z es y
  | [], _, y => by simp [getG]
  | a :: es, h, y => by
    have ih := getG_snoc (v := v) (b := b) (es := es) (fun a ha => h a (by simp [ha])) y
    rw [List.cons_append]
    unfold getG
    by_cases h1 : y = a.key
    · rw [if_pos h1, if_pos h1, if_neg fun e => h a (by simp) (h1.symm.trans e)]
    · rw [if_neg h1, if_neg h1, ih]
theorem getG_set {x : κ} {v : ν} : ∀ {es : List (GEnt κ ν)} {n : Nat} {a : GEnt κ ν}, es.Pairwise (fun a b => a.key ≠ b.key) → es[n]? = some a → a.key = x → ∀ y, getG z (es.modify n fun a => { a with val := v }) y = if y = x then v else getG z es y
  | [], _, _, _, h, _, _ => by simp at h
  | c :: es, 0, a, hp, h, hk, y => by
    have : c = a := by simpa using h
    subst this
    rw [List.modify_zero_cons]
    unfold getG
    by_cases hy : y = x
    · rw [if_pos (hy.trans hk.symm), if_pos hy]
    · rw [if_neg fun e => hy (e.trans hk), if_neg hy]
      cases es <;> simp [getG, hk, hy]
  | c :: es, n + 1, a, hp, h, hk, y => by
    obtain ⟨h1, h2⟩ := List.pairwise_cons.1 hp
    have h' : es[n]? = some a := by simpa using h
    have ih := getG_set (v := v) h2 h' hk y
    rw [List.modify_succ_cons]
    unfold getG
    by_cases hy : y = c.key
    · rw [if_pos hy, if_pos hy, if_neg]
      intro e
      exact h1 a (List.mem_of_getElem? h') (hy.symm.trans (e.trans hk.symm))
    · rw [if_neg hy, if_neg hy]
      exact ih
include T
theorem run_updateG {w : World} {b : Nat} {es : List (GEnt κ ν)} {clock : Nat} (ok : GOk es clock) (hb : w.heap[b]? = some (gObj kv vv es clock)) (x : κ) (v : ν) :
    ∃ es1 clock1, Sem.run P (Instr.mapUpdate t (.map (some b)) (kv x) (vv v)) w = .ok () (setB w b (gObj kv vv es1 clock1)) ∧ GOk es1 clock1 ∧ ∀ y, getG z es1 y = if y = x then v else getG z es y := by
  have h1 := T.find x es w
  unfold gObj at hb
  cases hf : findG vv es x 0 with
  | none =>
    have hn := findG_none hf
    refine ⟨es ++ [⟨x, v, clock⟩], clock + 1, ?_, ⟨?_, ?_, ?_⟩, getG_snoc hn⟩
    · have h3 := MapKept.run_setObj_map (P := P) (.map ((es.map (GEnt.m kv vv)).toArray.push ⟨kv x, vv v, clock⟩) (clock + 1)) hb
      unfold Instr.mapUpdate
      rw [hf] at h1
      simp only [Sem.run_bind, run_underlying T.map, MapKept.run_getObj_map hb, Result.andThen, T.chk, Sem.run_pure, h1, h3]
      unfold gObj
      simp [GEnt.m]
      rfl
    · exact List.pairwise_append.2 ⟨ok.keys, by simp, fun a ha c hc => by rw [List.mem_singleton.1 hc]; exact hn a ha⟩
    · exact List.pairwise_append.2 ⟨ok.borns, by simp, fun a ha c hc => by rw [List.mem_singleton.1 hc]; exact Nat.ne_of_lt (ok.lt a ha)⟩
    · intro a ha
      rcases List.mem_append.1 ha with ha | ha
      · have := ok.lt a ha; omega
      · rw [List.mem_singleton.1 ha]; exact Nat.lt_succ_self _
  | some r =>
    obtain ⟨j, u⟩ := r
    obtain ⟨n, a, hj, ha, hk, hv, hg⟩ := findG_some (z := z) hf
    have hj : j = n := by omega
    subst hj
    have ha2 : (es.map (GEnt.m kv vv)).toArray[j]? = some (GEnt.m kv vv a) := by simp [ha]
    have h3 := MapKept.run_setObj_map (P := P) (.map ((es.map (GEnt.m kv vv)).toArray.modify j fun e => { e with key := kv x, val := vv v }) clock) hb
    refine ⟨es.modify j fun a => { a with val := v }, clock, ?_, ⟨?_, ?_, ?_⟩, getG_set ok.keys ha hk⟩
    · unfold Instr.mapUpdate
      rw [hf] at h1
      simp only [Sem.run_bind, run_underlying T.map, MapKept.run_getObj_map hb, Result.andThen, T.chk, Sem.run_pure, h1, ha2, Option.map_some, Option.getD_some]
      rw [show (GEnt.m kv vv a).key = kv x by rw [← hk]; rfl, T.stays x w]
      simp only [h3]
      congr 2
      unfold gObj
      refine congrArg (fun a => w.heap.setIfInBounds b (Obj.map a clock)) ?_
      apply Array.ext'
      apply List.ext_getElem?
      intro i
      simp only [Array.toList_modify, List.getElem?_modify, List.getElem?_map]
      by_cases h : j = i
      · subst h
        rw [ha]
        simp [GEnt.m, hk]
      · simp [h]
    · have := List.pairwise_map.2 ok.keys
      exact List.pairwise_map.1 (by rw [setG_keys]; exact List.pairwise_map.2 ok.keys)
    · exact List.pairwise_map.1 (by rw [setG_borns]; exact List.pairwise_map.2 ok.borns)
    · intro c hc
      have hm : c.born ∈ (es.modify j fun a => { a with val := v }).map GEnt.born := List.mem_map.2 ⟨c, hc, rfl⟩
      rw [setG_borns] at hm
      obtain ⟨d, hd, he⟩ := List.mem_map.1 hm
      rw [← he]; exact ok.lt d hd
end
section
variable {P : Program} {t k e : TypeId}
theorem findNow_str (x : ByteArray) : ∀ (es : List (GEnt ByteArray ν)) (i : Nat), Instr.findNow .string (.string x) (es.map (GEnt.m Value.string vv)) i = some (findG vv es x i)
  | [], _ => rfl
  | a :: es, i => by
    rw [List.map_cons]
    unfold Instr.findNow
    have e1 : Instr.sameNow .string (.string x) (GEnt.m Value.string vv a).key = some (x == a.key) := rfl
    rw [e1]
    unfold findG
    by_cases h : x = a.key
    · rw [if_pos h, show (x == a.key) = true from (MapKept.bytes_beq _ _).2 h]; rfl
    · rw [if_neg h, show (x == a.key) = false from Bool.eq_false_iff.2 fun hb => h ((MapKept.bytes_beq _ _).1 hb)]
      exact findNow_str x es (i + 1)
theorem GTy.ofStr (hm : P.underlying t = some (.map k e)) (hk : P.underlying k = some .string) (hc : ∀ b (x : ByteArray) w, (Instr.checkKey b 10000 k (.string x)).run P w = .ok () w) (hz : ∀ w, (zeroValue e).run P w = .ok (vv z) w) : GTy P t k e Value.string vv z where
  map := hm
  chk := hc
  zero := hz
  stays x w := by
    have : Instr.sameBits 10000 (.string x) (.string x) = true := by
      unfold Instr.sameBits
      simp [Instr.sameBits, MapKept.bytes_beq]
    unfold Instr.keyThatStays
    rw [if_pos this]; rfl
  find x es w := by
    unfold Instr.findKey
    simp only [Sem.run_bind, run_underlying hk, Result.andThen, findNow_str]
    rfl
end
end Go.Vc
end

section
namespace Go.Vc
open Go.ChangeShapes Go.WideShapes Go.ChangeAt Go.RowKit
section
variable {P : Program} {W w : World} {S : List Own} {Φ : PW}
theorem Ctx.appSlW [Stable Φ] {α : Type} [Gv α] {q : Option Addr} {l : List α} {c2 : Nat} {p : Option Addr} {n cap : Nat} {cs : List Value} {t : TypeId} {bytes : Nat} (c : Ctx W w (.buf p n cap cs t (Gv.ty α).size :: S) Φ)
    {ts ty : TypeId} {kb : Array Bool} (hb : appB P ts t (Gv.ty α).size bytes = true) (h1 : ∀ M w cs (x : α), Gv.rep M w cs x → (cs.all fun u => oneC u) = true) (hsl : ∀ M w, Φ M w → Sl M w q l) (h0 : 0 < l.length) (hlen : n + l.length ≤ 140737488355328) (hbytes : (n + l.length) * bytes ≤ 140737488355328) :
    ∃ p' cap' w' news, Sem.run P (builtin Builtin.append #[ts, ts] ty kb #[.slice p n cap, .slice q l.length c2]) w = .ok (.value (.slice p' (n + l.length) cap')) w' ∧ (∃ g, p' = some ⟨g, 0, none⟩) ∧
      Ctx W w' (.buf p' (n + l.length) cap' (cs ++ news) t (Gv.ty α).size :: S) (fun M w => Φ M w ∧ Elems M w news l) := by
  obtain ⟨i, z, e1, e2, e3, e4, e5, e6⟩ := appB_out hb
  have hby : (n + l.length) * i.bytes ≤ 140737488355328 := Nat.le_trans (Nat.mul_le_mul_left _ (by omega)) hbytes
  obtain ⟨b, o, news, hp, g1, g2, g3, g4⟩ := (hsl _ _ c.phi).cells h1 h0
  obtain ⟨p', cap', w', h2, c'⟩ := (c.add (Ψ := fun M w => Elems M w news l) g3).append 0 rfl (ty := ty) e1 e2 e3 e4 e5 (a := ⟨b, o, none⟩) (m := l.length) (c2 := c2) (news := news) h0 g1 (fun j u hj => by rw [addr_add]; exact g2 j u hj)
    (fun u hu => List.all_eq_true.1 g4 u hu) hby hlen
  have hpos : 0 < (Gv.ty α).size := Gv.pos
  have hl2 : 0 < l.length * (Gv.ty α).size := Nat.mul_pos h0 hpos
  refine ⟨p', cap', w', news, by rw [hp]; exact run_app h2, ?_, c'⟩
  obtain ⟨g, hg, _⟩ := c'.bufCell 0 rfl (by rw [List.length_append]; omega)
  exact ⟨g, hg⟩
theorem Ctx.clonedW [Stable Φ] {α : Type} [Gv α] {q : Option Addr} {l : List α} {c2 : Nat} {k : Nat} {t : TypeId} {bytes : Nat} (c : Ctx W w (.blk k [] t :: S) Φ)
    {ts ty : TypeId} {kb : Array Bool} (hb : appB P ts t (Gv.ty α).size bytes = true) (h1 : ∀ M w cs (x : α), Gv.rep M w cs x → (cs.all fun u => oneC u) = true) (hsl : ∀ M w, Φ M w → Sl M w q l) (hlen : l.length ≤ 140737488355328) (hbytes : l.length * bytes ≤ 140737488355328) :
    ∃ p' cap' w' cs, Sem.run P (builtin Builtin.append #[ts, ts] ty kb #[.slice (some ⟨k, 0, none⟩) 0 0, .slice q l.length c2]) w = .ok (.value (.slice p' l.length cap')) w' ∧
      Ctx W w' (.buf p' l.length cap' cs t (Gv.ty α).size :: S) (fun M w => Φ M w ∧ Elems M w cs l) := by
  have c' : Ctx W w (.buf (some ⟨k, 0, none⟩) 0 0 [] t (Gv.ty α).size :: S) Φ := c.toBuf 0 0 (Gv.ty α).size rfl (by simp) (by simp [maxLen])
  rcases Nat.eq_zero_or_pos l.length with h0 | h0
  · obtain ⟨i, z, e1, e2, e3, e4, e5, e6⟩ := appB_out hb
    have hl : l = [] := List.eq_nil_of_length_eq_zero h0
    subst hl
    exact ⟨_, _, w, [], run_app (c'.append0 0 rfl e1 e2 q c2), c'.add Elems.nil⟩
  · obtain ⟨p', cap', w', news, h2, _, c3⟩ := c'.appSlW (ty := ty) (kb := kb) (c2 := c2) hb h1 hsl h0 (by omega) (by rw [Nat.zero_add]; exact hbytes)
    rw [Nat.zero_add] at h2 c3
    exact ⟨p', cap', w', news, h2, c3⟩
end
theorem sl_weight {H : Type} {enc : TypeId × Value → H} {P : Program} {w : World} {base : Nat} {sp : Nat → Bool} {held : Bool} {t e : TypeId} {p : Option Addr} {n c : Nat} {d : DataW H} {ps : List MemPlace} (ht : P.underlying t = some (.slice e))
    (h : DataW.Trod enc P w base sp held t (.slice p n c) d ps) (hw : (d.weights P t).all (· ≤ reachBytes) = true) : n * P.bytesOf e ≤ reachBytes := by
  obtain ⟨fuel, h⟩ := h
  rcases DataW.trod_slice ht h with ⟨hcs, _⟩ | ⟨a, len, cap, elems, rest, m, _, hcs, hx, _, _, _, hlen, _⟩
  · have : Value.slice p n c = .slice none 0 0 := by simpa [Value.cells] using hcs
    cases this
    simp
  · have he : Value.slice p n c = .slice (some a) len cap := by simpa [Value.cells] using hcs
    cases he
    simp only [Prod.mk.injEq] at hx
    rw [hx.1] at hw
    unfold DataW.weights at hw
    rw [ht] at hw
    simp only [List.all_cons, Bool.and_eq_true, decide_eq_true_eq, List.length_map] at hw
    have h1 := hw.1
    rw [hlen] at h1
    exact Nat.le_trans (Nat.mul_le_mul_right _ (Nat.le_add_right _ _)) h1
theorem lawTrueLaidW {H : Type} {enc : TypeId × Value → H} {C : Checked} {os : Os} {f : FuncId} {fn : Func} {s : ChangeSpec} {conds : List PathCond} {apart fresh handsOn : Bool} {tb : TypeId} {ld : List (String × DataW Unit)}
    (own : ownKnob C.prog.godebug = none) (started : os.Started) (noInit : C.prog.inits.idxOf? f = none) (hfn : C.prog.funcs[f]? = some fn)
    (laid : laidOutB C.prog = true) (hvars : s.vars = []) (hspec : ∀ ds : List (DataW H), ds.length = fn.params.toList.length → (s.fn H (ds ++ [])).results = [.lit (.bool true)] ∧ (s.fn H (ds ++ [])).args = ds ∧ (s.fn H (ds ++ [])).vars = [])
    (hres : fn.resultTypes = #[tb]) (htb : C.prog.underlying tb = some .bool)
    (types : (fn.params.toList.all fun t => C.prog.readableRec t && decide (t < C.prog.types.size)) = true)
    (witness : ∃ (w : World) (tape : Tape) (i : Input), w.os = os ∧ (w.forCall tape i).Shaped C.prog ∧ i.vars = [] ∧ Input.okWide C.prog (w.forCall tape i) .any w.heap.size f i ∧
      ((s.pre enc C.prog fn conds apart (w.forCall tape i).memory i.args ∧ laidMetH C.prog ld (w.forCall tape i).memory) ∧ sizedMet enc C.prog fn (OpenSpec.ofChange s) apart (w.forCall tape i).memory i.args) ∧ Assume.holds {} C.prog (lone (Frame.enter C.prog f i.args .normal) [] (w.forCall tape i)))
    (contract : ∀ (W : World) (base : Nat) (args : Array Value) (ds : List (DataW H)) (p : List MemPlace),
      (∀ (j : Nat) t v, fn.params[j]? = some t → args[j]? = some v → Value.okWide C.prog W .any base t v) →
      DataW.TrodAll enc C.prog W 0 (fun _ => true) true fn.params.toList args.toList ds p →
      conds.all (PathCond.test C.prog ⟨fn.params.toList, ds, s.plain.varTypes C.prog, []⟩) = true → laidMetH C.prog ld W →
      (DataW.weightsEach C.prog (fn.params.toList ++ s.plain.varTypes C.prog) ds).all (· ≤ reachBytes) = true →
      Calls C.prog f args W fun e W' => ∃ u, e = .returned u ∧ (u = .bool true ∧ Chg [] W W')) :
    ReturnsInHanded {} C os f .any (fun w args => (s.pre enc C.prog fn conds apart w args ∧ laidMetH C.prog ld w) ∧ sizedMet enc C.prog fn (OpenSpec.ofChange s) apart w args) (s.post enc C.prog fn apart fresh handsOn false) := by
  refine returnsInHanded_of_change_and (X := fun w _ => laidMetH C.prog ld w) (fun _ _ _ hh h => h.of_heap hh) own started noInit hfn witness ?_
  intro W base args ds gs before hval hW hcnd hwt hL _
  have hW' := hW
  obtain ⟨p, q, hA, hV, rfl, _, _⟩ := hW
  rw [hvars] at hV
  obtain ⟨rfl, rfl⟩ := trodVars_none hV
  simp only [List.append_nil] at hW' hwt
  refine (contract W base args ds p hval hA hcnd hL hwt).mono fun e W' ⟨u, he, hu, hc⟩ => ?_
  subst he; subst hu
  have hb : Below W.heap.size W W' := hc.below (Nat.le_refl _) (by simp)
  obtain ⟨e1, e2, e3⟩ := hspec ds (trodAll_length hA).2
  refine ⟨_, rfl, ds, [], p, [], p, [], hW', ?_, ?_, ?_, hb.frame _, fun h => by cases h⟩
  · rw [e1, hres]
    exact trodAll_mk1 (t := tb) (v := .bool true) ⟨1, by simp [DataW.trod, Value.cells, htb]⟩
  · rw [e2]
    exact trodAll_below laid hb types hA (fun x hx => by simpa using hW'.lt x hx)
  · rw [e3, hvars]
    rfl
end Go.Vc
end

section
namespace Go.Vc
section
variable {ε : Type} {le : ε → ε → Prop}
structure Ord (le : ε → ε → Prop) : Prop where
  total : ∀ x y, le x y ∨ le y x
  trans : ∀ x y z, le x y → le y z → le x z
theorem Ord.refl (h : Ord le) (x : ε) : le x x := (h.total x x).elim id id
abbrev Asc (le : ε → ε → Prop) (l : List ε) : Prop := l.Pairwise le
theorem asc_app {a b : List ε} (ha : Asc le a) (hb : Asc le b) (h : ∀ x ∈ a, ∀ y ∈ b, le x y) : Asc le (a ++ b) := List.pairwise_append.2 ⟨ha, hb, h⟩
theorem asc_get {l : List ε} (h : Asc le l) {i j : Nat} (hij : i < j) (hj : j < l.length) : le (l[i]'(by omega)) l[j] := List.pairwise_iff_getElem.1 h i j (by omega) hj hij
theorem asc_le (ho : Ord le) {l : List ε} (h : Asc le l) {i j : Nat} (hij : i ≤ j) (hj : j < l.length) : le (l[i]'(by omega)) l[j] := by
  rcases Nat.eq_or_lt_of_le hij with e | hlt
  · subst e; exact ho.refl _
  · exact asc_get h hlt hj
theorem asc_put {a b : List ε} {x : ε} (h : Asc le (a ++ b)) (h1 : ∀ y ∈ a, le y x) (h2 : ∀ y ∈ b, le x y) : Asc le (a ++ x :: b) := by
  obtain ⟨ha, hb, hab⟩ := List.pairwise_append.1 h
  refine asc_app ha (List.pairwise_cons.2 ⟨h2, hb⟩) fun y hy z hz => ?_
  rcases List.mem_cons.1 hz with rfl | hz
  · exact h1 y hy
  · exact hab y hy z hz
theorem sym_split (ho : Ord le) {x y : List ε} (hx : Asc le x) (hy : Asc le y) (s t : Nat) (hs : s ≤ x.length) (ht : t ≤ y.length)
    (h1 : ∀ (h0 : 0 < s) (ht' : t < y.length), le (x[s - 1]'(by omega)) y[t]) (h2 : ∀ (h0 : 0 < t) (hs' : s < x.length), le (y[t - 1]'(by omega)) x[s]) :
    ∀ a ∈ x.take s ++ y.take t, ∀ b ∈ x.drop s ++ y.drop t, le a b := by
  have xx : ∀ a ∈ x.take s, ∀ b ∈ x.drop s, le a b := by
    have := hx
    rw [← List.take_append_drop s x] at this
    exact (List.pairwise_append.1 this).2.2
  have yy : ∀ a ∈ y.take t, ∀ b ∈ y.drop t, le a b := by
    have := hy
    rw [← List.take_append_drop t y] at this
    exact (List.pairwise_append.1 this).2.2
  have xy : ∀ a ∈ x.take s, ∀ b ∈ y.drop t, le a b := fun a ha b hb => by
    obtain ⟨i, hi, rfl⟩ := List.getElem_of_mem ha
    obtain ⟨j, hj, rfl⟩ := List.getElem_of_mem hb
    rw [List.length_take] at hi
    rw [List.length_drop] at hj
    rw [List.getElem_take, List.getElem_drop]
    exact ho.trans _ _ _ (asc_le ho hx (i := i) (j := s - 1) (by omega) (by omega)) (ho.trans _ _ _ (h1 (by omega) (by omega)) (asc_le ho hy (i := t) (j := t + j) (by omega) (by omega)))
  have yx : ∀ a ∈ y.take t, ∀ b ∈ x.drop s, le a b := fun a ha b hb => by
    obtain ⟨i, hi, rfl⟩ := List.getElem_of_mem ha
    obtain ⟨j, hj, rfl⟩ := List.getElem_of_mem hb
    rw [List.length_take] at hi
    rw [List.length_drop] at hj
    rw [List.getElem_take, List.getElem_drop]
    exact ho.trans _ _ _ (asc_le ho hy (i := i) (j := t - 1) (by omega) (by omega)) (ho.trans _ _ _ (h2 (by omega) (by omega)) (asc_le ho hx (i := s) (j := s + j) (by omega) (by omega)))
  intro a ha b hb
  rcases List.mem_append.1 ha with ha | ha <;> rcases List.mem_append.1 hb with hb | hb
  · exact xx a ha b hb
  · exact xy a ha b hb
  · exact yx a ha b hb
  · exact yy a ha b hb
theorem asc_take {l : List ε} (h : Asc le l) (k : Nat) : Asc le (l.take k) := h.sublist (List.take_sublist k l)
theorem asc_drop {l : List ε} (h : Asc le l) (k : Nat) : Asc le (l.drop k) := h.sublist (List.drop_sublist k l)
def swp (l : List ε) (i j : Nat) : List ε := match l[i]?, l[j]? with
  | some x, some y => (l.set i y).set j x
  | _, _ => l
theorem swp_len (l : List ε) (i j : Nat) : (swp l i j).length = l.length := by
  unfold swp
  split <;> simp
theorem swp_eq {l : List ε} {i j : Nat} (hi : i < l.length) (hj : j < l.length) : swp l i j = (l.set i l[j]).set j l[i] := by
  unfold swp
  rw [List.getElem?_eq_getElem hi, List.getElem?_eq_getElem hj]
theorem swp_next (a : List ε) (x y : ε) (b : List ε) : swp (a ++ x :: y :: b) a.length (a.length + 1) = a ++ y :: x :: b := by
  rw [swp_eq (by simp) (by simp)]
  simp [List.getElem_append_right, List.set_append]
theorem swp_far (a : List ε) (x : ε) (b : List ε) (y : ε) (c : List ε) : swp (a ++ x :: (b ++ y :: c)) a.length (a.length + 1 + b.length) = a ++ y :: (b ++ x :: c) := by
  have e : a ++ x :: (b ++ y :: c) = (a ++ x :: b) ++ y :: c := by simp
  have h1 : a.length < (a ++ x :: (b ++ y :: c)).length := by simp
  have h2 : a.length + 1 + b.length < (a ++ x :: (b ++ y :: c)).length := by simp; omega
  rw [swp_eq h1 h2]
  have g1 : (a ++ x :: (b ++ y :: c))[a.length]'h1 = x := by simp
  have g2 : (a ++ x :: (b ++ y :: c))[a.length + 1 + b.length]'h2 = y := by
    have : (a ++ x :: (b ++ y :: c))[a.length + 1 + b.length]? = some y := by
      rw [e, List.getElem?_append_right (by simp; omega)]
      simp
      rw [show a.length + 1 + b.length - (a.length + (b.length + 1)) = 0 by omega]
      rfl
    rw [List.getElem?_eq_getElem h2] at this
    exact Option.some.inj this
  rw [g1, g2]
  apply List.ext_getElem?
  intro k
  by_cases hk : k = a.length + 1 + b.length
  · subst hk
    rw [List.getElem?_set_self (by simp; omega)]
    have e2 : a ++ y :: (b ++ x :: c) = (a ++ y :: b) ++ x :: c := by simp
    rw [e2, List.getElem?_append_right (by simp; omega)]
    simp
    rw [show a.length + 1 + b.length - (a.length + (b.length + 1)) = 0 by omega]
    rfl
  · rw [List.getElem?_set_ne (by omega)]
    by_cases hk2 : k = a.length
    · subst hk2
      rw [List.getElem?_set_self h1]
      simp
    · rw [List.getElem?_set_ne (by omega)]
      by_cases hk3 : k < a.length
      · rw [List.getElem?_append_left hk3, List.getElem?_append_left hk3]
      · rw [List.getElem?_append_right (by omega), List.getElem?_append_right (by omega)]
        obtain ⟨m, hm⟩ : ∃ m, k - a.length = m + 1 := ⟨k - a.length - 1, by omega⟩
        rw [hm, List.getElem?_cons_succ, List.getElem?_cons_succ]
        by_cases hm2 : m < b.length
        · rw [List.getElem?_append_left hm2, List.getElem?_append_left hm2]
        · rw [List.getElem?_append_right (by omega), List.getElem?_append_right (by omega)]
          obtain ⟨q, hq⟩ : ∃ q, m - b.length = q + 1 := ⟨m - b.length - 1, by omega⟩
          rw [hq, List.getElem?_cons_succ, List.getElem?_cons_succ]
structure Chunks (le : ε → ε → Prop) (bs : Nat) (cs : List (List ε)) (rest : List ε) : Prop where
  len : ∀ c ∈ cs, c.length = bs
  asc : ∀ c ∈ cs, Asc le c
  last : Asc le rest
  short : rest.length < bs
end
end Go.Vc
end

