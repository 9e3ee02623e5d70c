/-
  The conditions of the walks of some functions, one formula each; 'B<f>_run' says that they suffice. The formulas are printed by a program; the kernel compares them with the functions' code.
-/
import Derived.Test.YtjlfpkgjcffilaaGreatDoorSB4
import Derived.Test.YtjlfpkgjcffilaaGreatDoorSB3

section
namespace Go.Proofs.YtjlfpkgjcffilaaGreatDoor
set_option linter.unusedVariables false
set_option linter.unusedSimpArgs false
set_option maxRecDepth 100000
open Go.Vc

/-- erratalaw43.small -/
def Berratalaw43_small  (W : World) (R : List Own) (Φ : PW) (J : Value → World → Prop) : Prop :=
  ∀ (w0 : World) (R1 : List Own), Ctx W w0 (R ++ R1) Φ → Calls Tryz.prog F.sink_New #[Value.int IntKind.i64 2, Value.slice none 0 0] w0 fun (e2 : Ending) (w3 : World) => ∃ (p4 : Option Addr),
  e2 = Ending.returned (Value.pointer p4) ∧ ∃ (R5 : List Own), ∃ (Φ6 : PW), Stable Φ6 ∧ Ctx W w3 (R5 ++ R1) Φ6 ∧ ∀ (w7 : World) (R8 : List Own), Ctx W w7 (R5 ++ R8) Φ6 → Calls Tryz.prog
  F.sink_New #[Value.int IntKind.i64 2, Value.slice none 0 0] w7 fun (e9 : Ending) (w10 : World) => ∃ (p11 : Option Addr), e9 = Ending.returned (Value.pointer p11) ∧ ∃ (R12 : List Own), ∃
  (Φ13 : PW), Stable Φ13 ∧ Ctx W w10 (R12 ++ R8) Φ13 ∧ ∀ (w14 : World) (R15 : List Own), Ctx W w14 (R12 ++ R15) Φ13 → Br (p4.isNone || p11.isNone) (∀ (w16 : World) (R17 : List Own), Ctx W w16
  (R12 ++ R17) Φ13 → J (Value.bool false) w16) (∀ (w18 : World) (R19 : List Own), Ctx W w18 (R12 ++ R19) Φ13 → Calls Tryz.prog F.erratalaw43_line #[Value.int IntKind.i64 3, Value.int
  IntKind.i64 5] w18 fun (e20 : Ending) (w21 : World) => ∃ (n22 : Int), ∃ (n23 : Int), ∃ (n24 : Int), ∃ (p25 : Option Addr), ∃ (k26 : Nat), ∃ (k27 : Nat), ∃ (n28 : Int), ∃ (n29 : Int), ∃ (n30
  : Int), e20 = Ending.returned (Value.agg #[Value.int IntKind.i64 n22, Value.int IntKind.i64 n23, Value.int IntKind.i64 n24, Value.slice p25 k26 k27, Value.int IntKind.i64 n28, Value.int
  IntKind.i64 n29, Value.int IntKind.i64 n30]) ∧ ∃ (R31 : List Own), ∃ (Φ32 : PW), Stable Φ32 ∧ Ctx W w21 (R31 ++ R19) Φ32 ∧ ∀ (k33 : Nat) (w34 : World) (R35 : List Own), Ctx W w34 (Own.blk
  k33 [Value.int IntKind.i64 n22, Value.int IntKind.i64 n23, Value.int IntKind.i64 n24, Value.slice p25 k26 k27, Value.int IntKind.i64 n28, Value.int IntKind.i64 n29, Value.int IntKind.i64
  n30] 46 :: R31 ++ R35) Φ32 → Calls Tryz.prog F.sink_Sink_Deliver #[Value.pointer p4, Value.int IntKind.i64 5, Value.slice (some (Addr.mk k33 0 none)) 1 1] w34 fun (e36 : Ending) (w37 :
  World) => ∃ (n38 : Int), e36 = Ending.returned (Value.int IntKind.i64 n38) ∧ ∃ (R39 : List Own), ∃ (Φ40 : PW), Stable Φ40 ∧ Ctx W w37 (R39 ++ R35) Φ40 ∧ ∀ (w41 : World) (R42 : List Own),
  Ctx W w41 (R39 ++ R42) Φ40 → Calls Tryz.prog F.erratalaw43_line #[Value.int IntKind.i64 1, Value.int IntKind.i64 3] w41 fun (e43 : Ending) (w44 : World) => ∃ (n45 : Int), ∃ (n46 : Int), ∃
  (n47 : Int), ∃ (p48 : Option Addr), ∃ (k49 : Nat), ∃ (k50 : Nat), ∃ (n51 : Int), ∃ (n52 : Int), ∃ (n53 : Int), e43 = Ending.returned (Value.agg #[Value.int IntKind.i64 n45, Value.int
  IntKind.i64 n46, Value.int IntKind.i64 n47, Value.slice p48 k49 k50, Value.int IntKind.i64 n51, Value.int IntKind.i64 n52, Value.int IntKind.i64 n53]) ∧ ∃ (R54 : List Own), ∃ (Φ55 : PW),
  Stable Φ55 ∧ Ctx W w44 (R54 ++ R42) Φ55 ∧ ∀ (w56 : World) (R57 : List Own), Ctx W w56 (R54 ++ R57) Φ55 → Calls Tryz.prog F.erratalaw43_line #[Value.int IntKind.i64 2, Value.int IntKind.i64
  3] w56 fun (e58 : Ending) (w59 : World) => ∃ (n60 : Int), ∃ (n61 : Int), ∃ (n62 : Int), ∃ (p63 : Option Addr), ∃ (k64 : Nat), ∃ (k65 : Nat), ∃ (n66 : Int), ∃ (n67 : Int), ∃ (n68 : Int), e58
  = Ending.returned (Value.agg #[Value.int IntKind.i64 n60, Value.int IntKind.i64 n61, Value.int IntKind.i64 n62, Value.slice p63 k64 k65, Value.int IntKind.i64 n66, Value.int IntKind.i64
  n67, Value.int IntKind.i64 n68]) ∧ ∃ (R69 : List Own), ∃ (Φ70 : PW), Stable Φ70 ∧ Ctx W w59 (R69 ++ R57) Φ70 ∧ ∀ (k71 : Nat) (w72 : World) (R73 : List Own), Ctx W w72 (Own.blk k71
  [Value.int IntKind.i64 n45, Value.int IntKind.i64 n46, Value.int IntKind.i64 n47, Value.slice p48 k49 k50, Value.int IntKind.i64 n51, Value.int IntKind.i64 n52, Value.int IntKind.i64 n53,
  Value.int IntKind.i64 n60, Value.int IntKind.i64 n61, Value.int IntKind.i64 n62, Value.slice p63 k64 k65, Value.int IntKind.i64 n66, Value.int IntKind.i64 n67, Value.int IntKind.i64 n68] 46
  :: R69 ++ R73) Φ70 → Calls Tryz.prog F.sink_Sink_Deliver #[Value.pointer p4, Value.int IntKind.i64 3, Value.slice (some (Addr.mk k71 0 none)) 2 2] w72 fun (e74 : Ending) (w75 : World) => ∃
  (n76 : Int), e74 = Ending.returned (Value.int IntKind.i64 n76) ∧ ∃ (R77 : List Own), ∃ (Φ78 : PW), Stable Φ78 ∧ Ctx W w75 (R77 ++ R73) Φ78 ∧ ∀ (w79 : World) (R80 : List Own), Ctx W w79 (R77
  ++ R80) Φ78 → Calls Tryz.prog F.erratalaw43_line #[Value.int IntKind.i64 1, Value.int IntKind.i64 3] w79 fun (e81 : Ending) (w82 : World) => ∃ (n83 : Int), ∃ (n84 : Int), ∃ (n85 : Int), ∃
  (p86 : Option Addr), ∃ (k87 : Nat), ∃ (k88 : Nat), ∃ (n89 : Int), ∃ (n90 : Int), ∃ (n91 : Int), e81 = Ending.returned (Value.agg #[Value.int IntKind.i64 n83, Value.int IntKind.i64 n84,
  Value.int IntKind.i64 n85, Value.slice p86 k87 k88, Value.int IntKind.i64 n89, Value.int IntKind.i64 n90, Value.int IntKind.i64 n91]) ∧ ∃ (R92 : List Own), ∃ (Φ93 : PW), Stable Φ93 ∧ Ctx W
  w82 (R92 ++ R80) Φ93 ∧ ∀ (w94 : World) (R95 : List Own), Ctx W w94 (R92 ++ R95) Φ93 → Calls Tryz.prog F.erratalaw43_line #[Value.int IntKind.i64 2, Value.int IntKind.i64 3] w94 fun (e96 :
  Ending) (w97 : World) => ∃ (n98 : Int), ∃ (n99 : Int), ∃ (n100 : Int), ∃ (p101 : Option Addr), ∃ (k102 : Nat), ∃ (k103 : Nat), ∃ (n104 : Int), ∃ (n105 : Int), ∃ (n106 : Int), e96 =
  Ending.returned (Value.agg #[Value.int IntKind.i64 n98, Value.int IntKind.i64 n99, Value.int IntKind.i64 n100, Value.slice p101 k102 k103, Value.int IntKind.i64 n104, Value.int IntKind.i64
  n105, Value.int IntKind.i64 n106]) ∧ ∃ (R107 : List Own), ∃ (Φ108 : PW), Stable Φ108 ∧ Ctx W w97 (R107 ++ R95) Φ108 ∧ ∀ (k109 : Nat) (w110 : World) (R111 : List Own), Ctx W w110 (Own.blk
  k109 [Value.int IntKind.i64 n83, Value.int IntKind.i64 n84, Value.int IntKind.i64 n85, Value.slice p86 k87 k88, Value.int IntKind.i64 n89, Value.int IntKind.i64 n90, Value.int IntKind.i64
  n91, Value.int IntKind.i64 n98, Value.int IntKind.i64 n99, Value.int IntKind.i64 n100, Value.slice p101 k102 k103, Value.int IntKind.i64 n104, Value.int IntKind.i64 n105, Value.int
  IntKind.i64 n106] 46 :: R107 ++ R111) Φ108 → Calls Tryz.prog F.sink_Sink_Deliver #[Value.pointer p11, Value.int IntKind.i64 3, Value.slice (some (Addr.mk k109 0 none)) 2 2] w110 fun (e112 :
  Ending) (w113 : World) => ∃ (n114 : Int), e112 = Ending.returned (Value.int IntKind.i64 n114) ∧ ∃ (R115 : List Own), ∃ (Φ116 : PW), Stable Φ116 ∧ Ctx W w113 (R115 ++ R111) Φ116 ∧ ∀ (w117 :
  World) (R118 : List Own), Ctx W w117 (R115 ++ R118) Φ116 → Calls Tryz.prog F.erratalaw43_line #[Value.int IntKind.i64 3, Value.int IntKind.i64 5] w117 fun (e119 : Ending) (w120 : World) =>
  ∃ (n121 : Int), ∃ (n122 : Int), ∃ (n123 : Int), ∃ (p124 : Option Addr), ∃ (k125 : Nat), ∃ (k126 : Nat), ∃ (n127 : Int), ∃ (n128 : Int), ∃ (n129 : Int), e119 = Ending.returned (Value.agg
  #[Value.int IntKind.i64 n121, Value.int IntKind.i64 n122, Value.int IntKind.i64 n123, Value.slice p124 k125 k126, Value.int IntKind.i64 n127, Value.int IntKind.i64 n128, Value.int
  IntKind.i64 n129]) ∧ ∃ (R130 : List Own), ∃ (Φ131 : PW), Stable Φ131 ∧ Ctx W w120 (R130 ++ R118) Φ131 ∧ ∀ (k132 : Nat) (w133 : World) (R134 : List Own), Ctx W w133 (Own.blk k132 [Value.int
  IntKind.i64 n121, Value.int IntKind.i64 n122, Value.int IntKind.i64 n123, Value.slice p124 k125 k126, Value.int IntKind.i64 n127, Value.int IntKind.i64 n128, Value.int IntKind.i64 n129] 46
  :: R130 ++ R134) Φ131 → Calls Tryz.prog F.sink_Sink_Deliver #[Value.pointer p11, Value.int IntKind.i64 5, Value.slice (some (Addr.mk k132 0 none)) 1 1] w133 fun (e135 : Ending) (w136 :
  World) => ∃ (n137 : Int), e135 = Ending.returned (Value.int IntKind.i64 n137) ∧ ∃ (R138 : List Own), ∃ (Φ139 : PW), Stable Φ139 ∧ Ctx W w136 (R138 ++ R134) Φ139 ∧ ∀ (w140 : World) (R141 :
  List Own), Ctx W w140 (R138 ++ R141) Φ139 → Calls Tryz.prog F.sink_Sink_Deliver #[Value.pointer p11, Value.int IntKind.i64 4, Value.slice none 0 0] w140 fun (e142 : Ending) (w143 : World)
  => ∃ (n144 : Int), e142 = Ending.returned (Value.int IntKind.i64 n144) ∧ ∃ (R145 : List Own), ∃ (Φ146 : PW), Stable Φ146 ∧ Ctx W w143 (R145 ++ R141) Φ146 ∧ Br (decide (n38 = 25)) (Br
  (decide (n76 = 0)) (Br (decide (n114 = 0)) (Br (decide (n137 = 0)) (Br (decide (n144 = 25)) (∀ (w147 : World) (R148 : List Own), Ctx W w147 (R145 ++ R148) Φ146 → Calls Tryz.prog
  F.sink_Sink_Last #[Value.pointer p11] w147 fun (e149 : Ending) (w150 : World) => ∃ (n151 : Int), e149 = Ending.returned (Value.int IntKind.i64 n151) ∧ ∃ (R152 : List Own), ∃ (Φ153 : PW),
  Stable Φ153 ∧ Ctx W w150 (R152 ++ R148) Φ153 ∧ Br (decide (n151 = 5)) (∀ (w154 : World) (R155 : List Own), Ctx W w154 (R152 ++ R155) Φ153 → Calls Tryz.prog F.sink_Sink_Lines #[Value.pointer
  p11] w154 fun (e156 : Ending) (w157 : World) => ∃ (n158 : Int), e156 = Ending.returned (Value.int IntKind.i64 n158) ∧ ∃ (R159 : List Own), ∃ (Φ160 : PW), Stable Φ160 ∧ Ctx W w157 (R159 ++
  R155) Φ160 ∧ ∀ (w161 : World) (R162 : List Own), Ctx W w161 (R159 ++ R162) Φ160 → J (Value.bool (decide (n158 = 3))) w161) (∀ (w163 : World) (R164 : List Own), Ctx W w163 (R152 ++ R164)
  Φ153 → J (Value.bool false) w163)) (∀ (w165 : World) (R166 : List Own), Ctx W w165 (R145 ++ R166) Φ146 → J (Value.bool false) w165)) (∀ (w167 : World) (R168 : List Own), Ctx W w167 (R145 ++
  R168) Φ146 → J (Value.bool false) w167)) (∀ (w169 : World) (R170 : List Own), Ctx W w169 (R145 ++ R170) Φ146 → J (Value.bool false) w169)) (∀ (w171 : World) (R172 : List Own), Ctx W w171
  (R145 ++ R172) Φ146 → J (Value.bool false) w171)) (∀ (w173 : World) (R174 : List Own), Ctx W w173 (R145 ++ R174) Φ146 → J (Value.bool false) w173))

theorem Berratalaw43_small_run  {W w : World} {R : List Own} {Φ : PW} [Stable Φ] {J : Value → World → Prop} (c : Ctx W w R Φ) (h : Berratalaw43_small  W R Φ J) : Calls Tryz.prog F.erratalaw43_small #[] w fun e w' => ∃ v, e = .returned v ∧ J v w' :=
  vcFS_sound (H := { keep := some [0, 1, 2, 3, 4, 5, 6, 7, 15], split := [10] }) (by rw [show vcFS Tryz.prog W { keep := some [0, 1, 2, 3, 4, 5, 6, 7, 15], split := [10] } F.erratalaw43_small #[] R Φ J = Berratalaw43_small  W R Φ J by kernel_rfl]; exact h) c

/-- erratalaw43.few -/
-- loop at region 2: 5 i; blocks 
def Berratalaw43_few (lP : Option Addr) (lN lC : Nat) (n : Int) (W : World) (R : List Own) (Φ : PW) (J : Value → World → Prop) : Prop :=
  exI fun (I0 : Int → List Own → PW → Nat → Prop) => (∃ (R1 : List Own), ∃ (Φ2 : PW), ∃ (k3 : Nat), Stable Φ2 ∧ (∀ (w4 : World) (R5 : List Own), Ctx W w4 (R ++ R5) Φ → Ctx W w4 (R1 ++ R5) Φ2)
  ∧ I0 0 R1 Φ2 k3) ∧ ∀ (n6 : Int) (R7 : List Own) (I8 : List Nat → World → Prop) (k9 : Nat), Stable I8 → I0 n6 R7 I8 k9 → Br (decide (n6 < (↑lN : Int))) ((0 ≤ n6 ∧ n6 < (↑lN : Int)) ∧ ptrK
  none lP fun (k10 k11 : Nat) => ∀ (w12 : World) (R13 : List Own), Ctx W w12 (R7 ++ R13) I8 → ∃ (p14 : Option Addr), ∃ (k15 : Nat), ∃ (k16 : Nat), w12.cell? (Addr.mk k10 (k11 + n6.toNat * 3 +
  2) none) = some (Value.slice p14 k15 k16) ∧ ∀ (w17 : World) (R18 : List Own), Ctx W w17 (R7 ++ R18) I8 → Calls Tryz.prog F.errataref43_Few #[Value.slice p14 k15 k16, Value.int IntKind.i64
  8] w17 fun (e19 : Ending) (w20 : World) => ∃ (c21 : Bool), e19 = Ending.returned (Value.bool c21) ∧ ∃ (R22 : List Own), ∃ (Φ23 : PW), Stable Φ23 ∧ Ctx W w20 (R22 ++ R18) Φ23 ∧ Br (!c21) (∀
  (w24 : World) (R25 : List Own), Ctx W w24 (R22 ++ R25) Φ23 → J (Value.bool false) w24) (I64 (n6 + 1) ∧ ∃ (R26 : List Own), ∃ (Φ27 : PW), ∃ (k28 : Nat), Stable Φ27 ∧ (∀ (w29 : World) (R30 :
  List Own), Ctx W w29 (R22 ++ R30) Φ23 → Ctx W w29 (R26 ++ R30) Φ27) ∧ I0 (n6 + 1) R26 Φ27 k28 ∧ k28 < k9)) (∀ (w31 : World) (R32 : List Own), Ctx W w31 (R7 ++ R32) I8 → J (Value.bool
  (decide ((↑lN : Int) ≤ n))) w31)

theorem Berratalaw43_few_run (lP : Option Addr) (lN lC : Nat) (n : Int) {W w : World} {R : List Own} {Φ : PW} [Stable Φ] {J : Value → World → Prop} (c : Ctx W w R Φ) (h : Berratalaw43_few lP lN lC n W R Φ J) : Calls Tryz.prog F.erratalaw43_few #[.slice lP lN lC, .int .i64 n] w fun e w' => ∃ v, e = .returned v ∧ J v w' :=
  vcFS_sound (H := { keep := some [0, 1, 4, 5, 9, 18], loops := [(2, [(5, .one (.int .i64))], [])] }) (by rw [show vcFS Tryz.prog W { keep := some [0, 1, 4, 5, 9, 18], loops := [(2, [(5, .one (.int .i64))], [])] } F.erratalaw43_few #[.slice lP lN lC, .int .i64 n] R Φ J = Berratalaw43_few lP lN lC n W R Φ J by kernel_rfl]; exact h) c

/-- sink.Read -/
-- loop at region 24: 92 ; blocks 
-- loop at region 16: 15 n; blocks 
-- loop at region 13: 8 l, 54 ; blocks 
def Bsink_Read (x : ByteArray) (W : World) (R : List Own) (Φ : PW) (J : Value → World → Prop) : Prop :=
  ∀ (w0 : World) (R1 : List Own), Ctx W w0 (R ++ R1) Φ → Calls Tryz.prog F.wire_Open #[Value.string x] w0 fun (e2 : Ending) (w3 : World) => ∃ (p4 : Option Addr), e2 = Ending.returned
  (Value.pointer p4) ∧ ∃ (R5 : List Own), ∃ (Φ6 : PW), Stable Φ6 ∧ Ctx W w3 (R5 ++ R1) Φ6 ∧ ∀ (w7 : World) (R8 : List Own), Ctx W w7 (R5 ++ R8) Φ6 → Calls Tryz.prog F.wire_Reader_Int
  #[Value.pointer p4] w7 fun (e9 : Ending) (w10 : World) => ∃ (n11 : Int), e9 = Ending.returned (Value.int IntKind.i64 n11) ∧ ∃ (R12 : List Own), ∃ (Φ13 : PW), Stable Φ13 ∧ Ctx W w10 (R12 ++
  R8) Φ13 ∧ ∀ (w14 : World) (R15 : List Own), Ctx W w14 (R12 ++ R15) Φ13 → Calls Tryz.prog F.wire_Reader_Nums #[Value.pointer p4] w14 fun (e16 : Ending) (w17 : World) => ∃ (p18 : Option
  Addr), ∃ (k19 : Nat), ∃ (k20 : Nat), e16 = Ending.returned (Value.slice p18 k19 k20) ∧ ∃ (R21 : List Own), ∃ (Φ22 : PW), Stable Φ22 ∧ Ctx W w17 (R21 ++ R15) Φ22 ∧ ∀ (w23 : World) (R24 :
  List Own), Ctx W w23 (R21 ++ R24) Φ22 → Calls Tryz.prog F.sink_New #[Value.int IntKind.i64 n11, Value.slice p18 k19 k20] w23 fun (e25 : Ending) (w26 : World) => ∃ (p27 : Option Addr), e25 =
  Ending.returned (Value.pointer p27) ∧ ∃ (R28 : List Own), ∃ (Φ29 : PW), Stable Φ29 ∧ Ctx W w26 (R28 ++ R24) Φ29 ∧ Br p27.isNone (∀ (w30 : World) (R31 : List Own), Ctx W w30 (R28 ++ R31) Φ29
  → J (Value.tuple #[Value.pointer none, Value.bool false]) w30) (∀ (w32 : World) (R33 : List Own), Ctx W w32 (R28 ++ R33) Φ29 → Calls Tryz.prog F.wire_Reader_Nums #[Value.pointer p4] w32 fun
  (e34 : Ending) (w35 : World) => ∃ (p36 : Option Addr), ∃ (k37 : Nat), ∃ (k38 : Nat), e34 = Ending.returned (Value.slice p36 k37 k38) ∧ ∃ (R39 : List Own), ∃ (Φ40 : PW), Stable Φ40 ∧ Ctx W
  w35 (R39 ++ R33) Φ40 ∧ ∀ (w41 : World) (R42 : List Own), Ctx W w41 (R39 ++ R42) Φ40 → Calls Tryz.prog F.sink_readLines #[Value.pointer p4] w41 fun (e43 : Ending) (w44 : World) => ∃ (p45 :
  Option Addr), ∃ (k46 : Nat), ∃ (k47 : Nat), ∃ (c48 : Bool), e43 = Ending.returned (Value.tuple #[Value.slice p45 k46 k47, Value.bool c48]) ∧ ∃ (R49 : List Own), ∃ (Φ50 : PW), Stable Φ50 ∧
  Ctx W w44 (R49 ++ R42) Φ50 ∧ ∀ (w51 : World) (R52 : List Own), Ctx W w51 (R49 ++ R52) Φ50 → Calls Tryz.prog F.wire_Reader_Int #[Value.pointer p4] w51 fun (e53 : Ending) (w54 : World) => ∃
  (n55 : Int), e53 = Ending.returned (Value.int IntKind.i64 n55) ∧ ∃ (R56 : List Own), ∃ (Φ57 : PW), Stable Φ57 ∧ Ctx W w54 (R56 ++ R52) Φ57 ∧ ∀ (w58 : World) (R59 : List Own), Ctx W w58 (R56
  ++ R59) Φ57 → Calls Tryz.prog F.sink_readLines #[Value.pointer p4] w58 fun (e60 : Ending) (w61 : World) => ∃ (p62 : Option Addr), ∃ (k63 : Nat), ∃ (k64 : Nat), ∃ (c65 : Bool), e60 =
  Ending.returned (Value.tuple #[Value.slice p62 k63 k64, Value.bool c65]) ∧ ∃ (R66 : List Own), ∃ (Φ67 : PW), Stable Φ67 ∧ Ctx W w61 (R66 ++ R59) Φ67 ∧ Br (!c48) (∀ (w68 : World) (R69 : List
  Own), Ctx W w68 (R66 ++ R69) Φ67 → J (Value.tuple #[Value.pointer none, Value.bool false]) w68) (Br (!c65) (∀ (w70 : World) (R71 : List Own), Ctx W w70 (R66 ++ R71) Φ67 → J (Value.tuple
  #[Value.pointer none, Value.bool false]) w70) (∀ (w72 : World) (R73 : List Own), Ctx W w72 (R66 ++ R73) Φ67 → Calls Tryz.prog F.wire_Reader_Done #[Value.pointer p4] w72 fun (e74 : Ending)
  (w75 : World) => ∃ (c76 : Bool), e74 = Ending.returned (Value.bool c76) ∧ ∃ (R77 : List Own), ∃ (Φ78 : PW), Stable Φ78 ∧ Ctx W w75 (R77 ++ R73) Φ78 ∧ Br (!c76) (∀ (w79 : World) (R80 : List
  Own), Ctx W w79 (R77 ++ R80) Φ78 → J (Value.tuple #[Value.pointer none, Value.bool false]) w79) (exI fun (I81 : Option Addr → Nat → Nat → Int → List Own → PW → Nat → Prop) => (∃ (R82 : List
  Own), ∃ (Φ83 : PW), ∃ (k84 : Nat), Stable Φ83 ∧ (∀ (w85 : World) (R86 : List Own), Ctx W w85 (R77 ++ R86) Φ78 → Ctx W w85 (R82 ++ R86) Φ83) ∧ I81 p45 k46 k47 0 R82 Φ83 k84) ∧ ∀ (p87 :
  Option Addr) (k88 k89 : Nat) (n90 : Int) (R91 : List Own) (I92 : List Nat → World → Prop) (k93 : Nat), Stable I92 → I81 p87 k88 k89 n90 R91 I92 k93 → Br (decide (n90 < (↑k37 : Int))) ((0 ≤
  n90 ∧ n90 < (↑k37 : Int)) ∧ ptrK none p36 fun (k94 k95 : Nat) => ∀ (w96 : World) (R97 : List Own), Ctx W w96 (R91 ++ R97) I92 → ∃ (n98 : Int), w96.cell? (Addr.mk k94 (k95 + n90.toNat) none)
  = some (Value.int IntKind.i64 n98) ∧ exI fun (I99 : Int → List Own → PW → Nat → Prop) => (∃ (R100 : List Own), ∃ (Φ101 : PW), ∃ (k102 : Nat), Stable Φ101 ∧ (∀ (w103 : World) (R104 : List
  Own), Ctx W w103 (R91 ++ R104) I92 → Ctx W w103 (R100 ++ R104) Φ101) ∧ I99 0 R100 Φ101 k102) ∧ ∀ (n105 : Int) (R106 : List Own) (I107 : List Nat → World → Prop) (k108 : Nat), Stable I107 →
  I99 n105 R106 I107 k108 → ∀ (w109 : World) (R110 : List Own), Ctx W w109 (R106 ++ R110) I107 → (decide (n105 < (↑k88 : Int)) = true → 0 ≤ n105 ∧ n105 < (↑k88 : Int)) ∧ ptrK (some (decide
  (n105 < (↑k88 : Int)))) p87 fun (k111 k112 : Nat) => ∃ (n113 : Int), (decide (n105 < (↑k88 : Int)) = true → w109.cell? (Addr.mk k111 (k112 + n105.toNat * 7 + 1) none) = some (Value.int
  IntKind.i64 n113)) ∧ Br (decide (n105 < (↑k88 : Int)) && decide (n113 = n98)) (I64 (n105 + 1) ∧ ∃ (R114 : List Own), ∃ (Φ115 : PW), ∃ (k116 : Nat), Stable Φ115 ∧ (∀ (w117 : World) (R118 :
  List Own), Ctx W w117 (R106 ++ R118) I107 → Ctx W w117 (R114 ++ R118) Φ115) ∧ I99 (n105 + 1) R114 Φ115 k116 ∧ k116 < k108) ((0 ≤ n105 ∧ n105 ≤ (↑k89 : Int)) ∧ ∀ (w119 : World) (R120 : List
  Own), Ctx W w119 (R106 ++ R120) I107 → Calls Tryz.prog F.sink_Sink_look #[Value.pointer p27, Value.int IntKind.i64 n98, Value.slice (subPtr p87 7 0 k89) n105.toNat k89] w119 fun (e121 :
  Ending) (w122 : World) => ∃ (n123 : Int), e121 = Ending.returned (Value.int IntKind.i64 n123) ∧ ∃ (R124 : List Own), ∃ (Φ125 : PW), Stable Φ125 ∧ Ctx W w122 (R124 ++ R120) Φ125 ∧ Br (decide
  (n123 ≠ 0)) (∀ (w126 : World) (R127 : List Own), Ctx W w126 (R124 ++ R127) Φ125 → J (Value.tuple #[Value.pointer none, Value.bool false]) w126) ((0 ≤ n105 ∧ n105 ≤ (↑k89 : Int)) ∧ ∀ (w128 :
  World) (R129 : List Own), Ctx W w128 (R124 ++ R129) Φ125 → Calls Tryz.prog F.sink_Sink_take #[Value.pointer p27, Value.int IntKind.i64 n98, Value.slice (subPtr p87 7 0 k89) n105.toNat k89]
  w128 fun (e130 : Ending) (w131 : World) => e130 = Ending.returned (Value.tuple #[]) ∧ ∃ (R132 : List Own), ∃ (Φ133 : PW), Stable Φ133 ∧ Ctx W w131 (R132 ++ R129) Φ133 ∧ (0 ≤ n105 ∧ n105 ≤
  (↑k88 : Int) ∧ k88 ≤ k89) ∧ I64 (n90 + 1) ∧ ∃ (R134 : List Own), ∃ (Φ135 : PW), ∃ (k136 : Nat), Stable Φ135 ∧ (∀ (w137 : World) (R138 : List Own), Ctx W w137 (R132 ++ R138) Φ133 → Ctx W
  w137 (R134 ++ R138) Φ135) ∧ I81 (subPtr p87 7 n105.toNat k89) (k88 - n105.toNat) (k89 - n105.toNat) (n90 + 1) R134 Φ135 k136 ∧ k136 < k93))) (exI fun (I139 : Int → List Own → PW → Nat →
  Prop) => (∃ (R140 : List Own), ∃ (Φ141 : PW), ∃ (k142 : Nat), Stable Φ141 ∧ (∀ (w143 : World) (R144 : List Own), Ctx W w143 (R91 ++ R144) I92 → Ctx W w143 (R140 ++ R144) Φ141) ∧ I139 0 R140
  Φ141 k142) ∧ ∀ (n145 : Int) (R146 : List Own) (I147 : List Nat → World → Prop) (k148 : Nat), Stable I147 → I139 n145 R146 I147 k148 → Br (decide (n145 < (↑k63 : Int))) ((0 ≤ n145 ∧ n145 <
  (↑k63 : Int)) ∧ ptrK none p62 fun (k149 k150 : Nat) => ptrK none p27 fun (k151 k152 : Nat) => ∀ (w153 : World) (R154 : List Own), Ctx W w153 (R146 ++ R154) I147 → ∃ (n155 : Int), w153.cell?
  (Addr.mk k149 (k150 + n145.toNat * 7) none) = some (Value.int IntKind.i64 n155) ∧ ∀ (w156 : World) (R157 : List Own), Ctx W w156 (R146 ++ R157) I147 → ∃ (p158 : Option Addr), ∃ (k159 :
  Nat), ∃ (k160 : Nat), w156.cell? (Addr.mk k151 (k152 + 3) none) = some (Value.slice p158 k159 k160) ∧ I64 (n155 + (↑k159 : Int)) ∧ (0 ≤ n145 ∧ n145 < (↑k63 : Int)) ∧ ptrK none p62 fun (k161
  k162 : Nat) => ∀ (w163 : World) (R164 : List Own), Ctx W w163 (R146 ++ R164) I147 → CanWrite w163 k161 (k162 + n145.toNat * 7) 1 ∧ ∀ (w165 : World), w165 = w163.setCell (Addr.mk k161 (k162
  + n145.toNat * 7) none) (Value.int IntKind.i64 (n155 + (↑k159 : Int))) → ∃ (R166 : List Own), ∃ (Φ167 : PW), Stable Φ167 ∧ Ctx W w165 (R166 ++ R164) Φ167 ∧ I64 (n145 + 1) ∧ ∃ (R168 : List
  Own), ∃ (Φ169 : PW), ∃ (k170 : Nat), Stable Φ169 ∧ (∀ (w171 : World) (R172 : List Own), Ctx W w171 (R166 ++ R172) Φ167 → Ctx W w171 (R168 ++ R172) Φ169) ∧ I139 (n145 + 1) R168 Φ169 k170 ∧
  k170 < k148) (Br (decide (n55 ≠ 0)) (∀ (w173 : World) (R174 : List Own), Ctx W w173 (R146 ++ R174) I147 → Calls Tryz.prog F.sink_Sink_Prepare #[Value.pointer p27, Value.int IntKind.i64 n55,
  Value.slice p62 k63 k64] w173 fun (e175 : Ending) (w176 : World) => ∃ (n177 : Int), e175 = Ending.returned (Value.int IntKind.i64 n177) ∧ ∃ (R178 : List Own), ∃ (Φ179 : PW), Stable Φ179 ∧
  Ctx W w176 (R178 ++ R174) Φ179 ∧ Br (decide (n177 ≠ 0)) (∀ (w180 : World) (R181 : List Own), Ctx W w180 (R178 ++ R181) Φ179 → J (Value.tuple #[Value.pointer none, Value.bool false]) w180)
  (ptrK none p27 fun (k182 k183 : Nat) => ∀ (w184 : World) (R185 : List Own), Ctx W w184 (R178 ++ R185) Φ179 → ∃ (n186 : Int), w184.cell? (Addr.mk k182 (k183 + 4) none) = some (Value.int
  IntKind.i64 n186) ∧ Br (decide (n186 ≠ n55)) (∀ (w187 : World) (R188 : List Own), Ctx W w187 (R178 ++ R188) Φ179 → J (Value.tuple #[Value.pointer none, Value.bool false]) w187) (∀ (w189 :
  World) (R190 : List Own), Ctx W w189 (R178 ++ R190) Φ179 → Calls Tryz.prog F.sink_Sink_Bytes #[Value.pointer p27] w189 fun (e191 : Ending) (w192 : World) => ∃ (s193 : ByteArray), e191 =
  Ending.returned (Value.string s193) ∧ ∃ (R194 : List Own), ∃ (Φ195 : PW), Stable Φ195 ∧ Ctx W w192 (R194 ++ R190) Φ195 ∧ Br (decide (s193 ≠ x)) (∀ (w196 : World) (R197 : List Own), Ctx W
  w196 (R194 ++ R197) Φ195 → J (Value.tuple #[Value.pointer none, Value.bool false]) w196) (∀ (w198 : World) (R199 : List Own), Ctx W w198 (R194 ++ R199) Φ195 → J (Value.tuple #[Value.pointer
  p27, Value.bool true]) w198)))) (ptrK none p27 fun (k200 k201 : Nat) => ∀ (w202 : World) (R203 : List Own), Ctx W w202 (R146 ++ R203) I147 → ∃ (n204 : Int), w202.cell? (Addr.mk k200 (k201 +
  4) none) = some (Value.int IntKind.i64 n204) ∧ Br (decide (n204 ≠ n55)) (∀ (w205 : World) (R206 : List Own), Ctx W w205 (R146 ++ R206) I147 → J (Value.tuple #[Value.pointer none, Value.bool
  false]) w205) (∀ (w207 : World) (R208 : List Own), Ctx W w207 (R146 ++ R208) I147 → Calls Tryz.prog F.sink_Sink_Bytes #[Value.pointer p27] w207 fun (e209 : Ending) (w210 : World) => ∃ (s211
  : ByteArray), e209 = Ending.returned (Value.string s211) ∧ ∃ (R212 : List Own), ∃ (Φ213 : PW), Stable Φ213 ∧ Ctx W w210 (R212 ++ R208) Φ213 ∧ Br (decide (s211 ≠ x)) (∀ (w214 : World) (R215
  : List Own), Ctx W w214 (R212 ++ R215) Φ213 → J (Value.tuple #[Value.pointer none, Value.bool false]) w214) (∀ (w216 : World) (R217 : List Own), Ctx W w216 (R212 ++ R217) Φ213 → J
  (Value.tuple #[Value.pointer p27, Value.bool true]) w216)))))))))

theorem Bsink_Read_run (x : ByteArray) {W w : World} {R : List Own} {Φ : PW} [Stable Φ] {J : Value → World → Prop} (c : Ctx W w R Φ) (h : Bsink_Read x W R Φ J) : Calls Tryz.prog F.sink_Read #[.string x] w fun e w' => ∃ v, e = .returned v ∧ J v w' :=
  vcFS_sound (H := { keep := some [0, 2, 3, 4, 5, 6, 7, 8, 9, 10, 11, 12, 14, 15, 16, 26, 51, 52, 53, 54, 55, 70, 79, 91, 92, 93, 131], stages := [(26, [.stage [0, 1, 5, 2, 6, 3, 7, 4, 8, 9, 10] none, .stage [11] none, .stage [12] (some 13)])], split := [10, 28], loops := [(24, [(92, .one (.int .i64))], []), (16, [(15, .one (.int .i64))], []), (13, [(8, .one (.slice)), (54, .one (.int .i64))], [])] }) (by rw [show vcFS Tryz.prog W { keep := some [0, 2, 3, 4, 5, 6, 7, 8, 9, 10, 11, 12, 14, 15, 16, 26, 51, 52, 53, 54, 55, 70, 79, 91, 92, 93, 131], stages := [(26, [.stage [0, 1, 5, 2, 6, 3, 7, 4, 8, 9, 10] none, .stage [11] none, .stage [12] (some 13)])], split := [10, 28], loops := [(24, [(92, .one (.int .i64))], []), (16, [(15, .one (.int .i64))], []), (13, [(8, .one (.slice)), (54, .one (.int .i64))], [])] } F.sink_Read #[.string x] R Φ J = Bsink_Read x W R Φ J by kernel_rfl]; exact h) c

/-- (*sink.Sink).Copy -/
def Bsink_Sink_Copy (sB sO : Nat) (W : World) (R : List Own) (Φ : PW) (J : Value → World → Prop) : Prop :=
  ∀ (w0 : World) (R1 : List Own), Ctx W w0 (R ++ R1) Φ → ∃ (n2 : Int), ∃ (p3 : Option Addr), ∃ (k4 : Nat), ∃ (k5 : Nat), ∃ (p6 : Option Addr), ∃ (k7 : Nat), ∃ (k8 : Nat), ∃ (p9 : Option
  Addr), ∃ (k10 : Nat), ∃ (k11 : Nat), ∃ (n12 : Int), ∃ (p13 : Option Addr), ∃ (k14 : Nat), ∃ (k15 : Nat), RowAt w0 sB sO [Value.int IntKind.i64 n2, Value.slice p3 k4 k5, Value.slice p6 k7
  k8, Value.slice p9 k10 k11, Value.int IntKind.i64 n12, Value.slice p13 k14 k15] ∧ ∀ (k16 : Nat) (w17 : World) (R18 : List Own), Ctx W w17 (Own.blk k16 [Value.int IntKind.i64 0, Value.slice
  none 0 0, Value.slice none 0 0, Value.slice none 0 0, Value.int IntKind.i64 0, Value.slice none 0 0] 69 :: R ++ R18) Φ → CanWrite w17 k16 0 6 ∧ ∀ (w19 : World), w19 = w17.setCells k16 0
  [Value.int IntKind.i64 n2, Value.slice p3 k4 k5, Value.slice p6 k7 k8, Value.slice p9 k10 k11, Value.int IntKind.i64 n12, Value.slice p13 k14 k15] → ∃ (R20 : List Own), ∃ (Φ21 : PW), Stable
  Φ21 ∧ Ctx W w19 (R20 ++ R18) Φ21 ∧ ∃ (R22 : List Own), ∃ (Φ23 : PW), Stable Φ23 ∧ (∀ (w24 : World) (R25 : List Own), Ctx W w24 (R20 ++ R25) Φ21 → Ctx W w24 (R22 ++ R25) Φ23) ∧ ∃ (p26 :
  Option Addr), ∃ (k27 : Nat), ∃ (k28 : Nat), (∀ (w29 : World) (R30 : List Own), Ctx W w29 (R22 ++ R30) Φ23 → ∃ (p31 : Option Addr), ∃ (k32 : Nat), ∃ (k33 : Nat), w29.cell? (Addr.mk sB (sO +
  1) none) = some (Value.slice p31 k32 k33) ∧ Value.slice p31 k32 k33 = Value.slice p26 k27 k28) ∧ ∃ (p34 : Option Addr), ∃ (k35 : Nat), ∃ (k36 : Nat), (∀ (w37 : World) (R38 : List Own), Ctx
  W w37 (R22 ++ R38) Φ23 → ∃ (p39 : Option Addr), ∃ (k40 : Nat), ∃ (k41 : Nat), w37.cell? (Addr.mk sB (sO + 2) none) = some (Value.slice p39 k40 k41) ∧ Value.slice p39 k40 k41 = Value.slice
  p34 k35 k36) ∧ ∃ (p42 : Option Addr), ∃ (k43 : Nat), ∃ (k44 : Nat), (∀ (w45 : World) (R46 : List Own), Ctx W w45 (R22 ++ R46) Φ23 → ∃ (p47 : Option Addr), ∃ (k48 : Nat), ∃ (k49 : Nat),
  w45.cell? (Addr.mk sB (sO + 3) none) = some (Value.slice p47 k48 k49) ∧ Value.slice p47 k48 k49 = Value.slice p42 k43 k44) ∧ ∃ (p50 : Option Addr), ∃ (k51 : Nat), ∃ (k52 : Nat), (∀ (w53 :
  World) (R54 : List Own), Ctx W w53 (R22 ++ R54) Φ23 → ∃ (p55 : Option Addr), ∃ (k56 : Nat), ∃ (k57 : Nat), w53.cell? (Addr.mk sB (sO + 5) none) = some (Value.slice p55 k56 k57) ∧
  Value.slice p55 k56 k57 = Value.slice p50 k51 k52) ∧ ∀ (w58 : World) (R59 : List Own), Ctx W w58 (R20 ++ R59) Φ21 → Calls Tryz.prog F.slices_Clone_int_int #[Value.slice p26 k27 k28] w58 fun
  (e60 : Ending) (w61 : World) => ∃ (p62 : Option Addr), ∃ (k63 : Nat), ∃ (k64 : Nat), e60 = Ending.returned (Value.slice p62 k63 k64) ∧ ∃ (R65 : List Own), ∃ (Φ66 : PW), Stable Φ66 ∧ Ctx W
  w61 (R65 ++ R59) Φ66 ∧ (∀ (w67 : World) (R68 : List Own), Ctx W w67 (R65 ++ R68) Φ66 → Ctx W w67 (R22 ++ R68) Φ23) ∧ ∀ (w69 : World) (R70 : List Own), Ctx W w69 (R65 ++ R70) Φ66 → Calls
  Tryz.prog F.slices_Clone_int_int #[Value.slice p34 k35 k36] w69 fun (e71 : Ending) (w72 : World) => ∃ (p73 : Option Addr), ∃ (k74 : Nat), ∃ (k75 : Nat), e71 = Ending.returned (Value.slice
  p73 k74 k75) ∧ ∃ (R76 : List Own), ∃ (Φ77 : PW), Stable Φ77 ∧ Ctx W w72 (R76 ++ R70) Φ77 ∧ (∀ (w78 : World) (R79 : List Own), Ctx W w78 (R76 ++ R79) Φ77 → Ctx W w78 (R22 ++ R79) Φ23) ∧ ∀
  (w80 : World) (R81 : List Own), Ctx W w80 (R76 ++ R81) Φ77 → Calls Tryz.prog F.slices_Clone_api_Line_api_Line #[Value.slice p42 k43 k44] w80 fun (e82 : Ending) (w83 : World) => ∃ (p84 :
  Option Addr), ∃ (k85 : Nat), ∃ (k86 : Nat), e82 = Ending.returned (Value.slice p84 k85 k86) ∧ ∃ (R87 : List Own), ∃ (Φ88 : PW), Stable Φ88 ∧ Ctx W w83 (R87 ++ R81) Φ88 ∧ (∀ (w89 : World)
  (R90 : List Own), Ctx W w89 (R87 ++ R90) Φ88 → Ctx W w89 (R22 ++ R90) Φ23) ∧ ∀ (w91 : World) (R92 : List Own), Ctx W w91 (R87 ++ R92) Φ88 → Calls Tryz.prog F.slices_Clone_api_Line_api_Line
  #[Value.slice p50 k51 k52] w91 fun (e93 : Ending) (w94 : World) => ∃ (p95 : Option Addr), ∃ (k96 : Nat), ∃ (k97 : Nat), e93 = Ending.returned (Value.slice p95 k96 k97) ∧ ∃ (R98 : List Own),
  ∃ (Φ99 : PW), Stable Φ99 ∧ Ctx W w94 (R98 ++ R92) Φ99 ∧ ∀ (w100 : World) (R101 : List Own), Ctx W w100 (R98 ++ R101) Φ99 → CanWrite w100 k16 1 1 ∧ ∀ (w102 : World), w102 = w100.setCell
  (Addr.mk k16 1 none) (Value.slice p62 k63 k64) → ∃ (R103 : List Own), ∃ (Φ104 : PW), Stable Φ104 ∧ Ctx W w102 (R103 ++ R101) Φ104 ∧ ∀ (w105 : World) (R106 : List Own), Ctx W w105 (R103 ++
  R106) Φ104 → CanWrite w105 k16 2 1 ∧ ∀ (w107 : World), w107 = w105.setCell (Addr.mk k16 2 none) (Value.slice p73 k74 k75) → ∃ (R108 : List Own), ∃ (Φ109 : PW), Stable Φ109 ∧ Ctx W w107
  (R108 ++ R106) Φ109 ∧ ∀ (w110 : World) (R111 : List Own), Ctx W w110 (R108 ++ R111) Φ109 → CanWrite w110 k16 3 1 ∧ ∀ (w112 : World), w112 = w110.setCell (Addr.mk k16 3 none) (Value.slice
  p84 k85 k86) → ∃ (R113 : List Own), ∃ (Φ114 : PW), Stable Φ114 ∧ Ctx W w112 (R113 ++ R111) Φ114 ∧ ∀ (w115 : World) (R116 : List Own), Ctx W w115 (R113 ++ R116) Φ114 → CanWrite w115 k16 5 1
  ∧ ∀ (w117 : World), w117 = w115.setCell (Addr.mk k16 5 none) (Value.slice p95 k96 k97) → ∃ (R118 : List Own), ∃ (Φ119 : PW), Stable Φ119 ∧ Ctx W w117 (R118 ++ R116) Φ119 ∧ ∀ (w120 : World)
  (R121 : List Own), Ctx W w120 (R118 ++ R121) Φ119 → J (Value.pointer (some (Addr.mk k16 0 none))) w120

theorem Bsink_Sink_Copy_run (sB sO : Nat) {W w : World} {R : List Own} {Φ : PW} [Stable Φ] {J : Value → World → Prop} (c : Ctx W w R Φ) (h : Bsink_Sink_Copy sB sO W R Φ J) : Calls Tryz.prog F.sink_Sink_Copy #[.pointer (some ⟨sB, sO, none⟩)] w fun e w' => ∃ v, e = .returned v ∧ J v w' :=
  vcFS_sound (H := { keep := some [0, 2, 3], stages := [(2, [.held [(0, true), (5, true), (10, true), (15, true), (1, true), (6, true), (11, true), (16, true), (2, true), (7, true), (12, true), (17, true), (3, true), (8, true), (13, true), (18, true), (4, false), (9, false), (14, false)], .stage [] (some 19), .stage [20] (some 21), .stage [22] (some 23), .stage [24] (some 25), .stage [26] (some 27)])] }) (by rw [show vcFS Tryz.prog W { keep := some [0, 2, 3], stages := [(2, [.held [(0, true), (5, true), (10, true), (15, true), (1, true), (6, true), (11, true), (16, true), (2, true), (7, true), (12, true), (17, true), (3, true), (8, true), (13, true), (18, true), (4, false), (9, false), (14, false)], .stage [] (some 19), .stage [20] (some 21), .stage [22] (some 23), .stage [24] (some 25), .stage [26] (some 27)])] } F.sink_Sink_Copy #[.pointer (some ⟨sB, sO, none⟩)] R Φ J = Bsink_Sink_Copy sB sO W R Φ J by kernel_rfl]; exact h) c

/-- (*sink.Sink).Bytes -/
def Bsink_Sink_Bytes (sB sO : Nat) (W : World) (R : List Own) (Φ : PW) (J : Value → World → Prop) : Prop :=
  ∃ (R0 : List Own), ∃ (Φ1 : PW), Stable Φ1 ∧ (∀ (w2 : World) (R3 : List Own), Ctx W w2 (R ++ R3) Φ → Ctx W w2 (R0 ++ R3) Φ1) ∧ ∃ (n4 : Int), (∀ (w5 : World) (R6 : List Own), Ctx W w5 (R0 ++
  R6) Φ1 → ∃ (n7 : Int), w5.cell? (Addr.mk sB sO none) = some (Value.int IntKind.i64 n7) ∧ Value.int IntKind.i64 n7 = Value.int IntKind.i64 n4) ∧ ∃ (p8 : Option Addr), ∃ (k9 : Nat), ∃ (k10 :
  Nat), (∀ (w11 : World) (R12 : List Own), Ctx W w11 (R0 ++ R12) Φ1 → ∃ (p13 : Option Addr), ∃ (k14 : Nat), ∃ (k15 : Nat), w11.cell? (Addr.mk sB (sO + 1) none) = some (Value.slice p13 k14
  k15) ∧ Value.slice p13 k14 k15 = Value.slice p8 k9 k10) ∧ ∃ (p16 : Option Addr), ∃ (k17 : Nat), ∃ (k18 : Nat), (∀ (w19 : World) (R20 : List Own), Ctx W w19 (R0 ++ R20) Φ1 → ∃ (p21 : Option
  Addr), ∃ (k22 : Nat), ∃ (k23 : Nat), w19.cell? (Addr.mk sB (sO + 2) none) = some (Value.slice p21 k22 k23) ∧ Value.slice p21 k22 k23 = Value.slice p16 k17 k18) ∧ ∃ (p24 : Option Addr), ∃
  (k25 : Nat), ∃ (k26 : Nat), (∀ (w27 : World) (R28 : List Own), Ctx W w27 (R0 ++ R28) Φ1 → ∃ (p29 : Option Addr), ∃ (k30 : Nat), ∃ (k31 : Nat), w27.cell? (Addr.mk sB (sO + 3) none) = some
  (Value.slice p29 k30 k31) ∧ Value.slice p29 k30 k31 = Value.slice p24 k25 k26) ∧ ∃ (n32 : Int), (∀ (w33 : World) (R34 : List Own), Ctx W w33 (R0 ++ R34) Φ1 → ∃ (n35 : Int), w33.cell?
  (Addr.mk sB (sO + 4) none) = some (Value.int IntKind.i64 n35) ∧ Value.int IntKind.i64 n35 = Value.int IntKind.i64 n32) ∧ ∃ (p36 : Option Addr), ∃ (k37 : Nat), ∃ (k38 : Nat), (∀ (w39 :
  World) (R40 : List Own), Ctx W w39 (R0 ++ R40) Φ1 → ∃ (p41 : Option Addr), ∃ (k42 : Nat), ∃ (k43 : Nat), w39.cell? (Addr.mk sB (sO + 5) none) = some (Value.slice p41 k42 k43) ∧ Value.slice
  p41 k42 k43 = Value.slice p36 k37 k38) ∧ ∀ (w44 : World) (R45 : List Own), Ctx W w44 (R ++ R45) Φ → Calls Tryz.prog F.wire_Int #[Value.int IntKind.i64 n4] w44 fun (e46 : Ending) (w47 :
  World) => ∃ (s48 : ByteArray), e46 = Ending.returned (Value.string s48) ∧ ∃ (R49 : List Own), ∃ (Φ50 : PW), Stable Φ50 ∧ Ctx W w47 (R49 ++ R45) Φ50 ∧ (∀ (w51 : World) (R52 : List Own), Ctx
  W w51 (R49 ++ R52) Φ50 → Ctx W w51 (R0 ++ R52) Φ1) ∧ ∀ (w53 : World) (R54 : List Own), Ctx W w53 (R49 ++ R54) Φ50 → Calls Tryz.prog F.wire_Nums #[Value.slice p8 k9 k10] w53 fun (e55 :
  Ending) (w56 : World) => ∃ (s57 : ByteArray), e55 = Ending.returned (Value.string s57) ∧ ∃ (R58 : List Own), ∃ (Φ59 : PW), Stable Φ59 ∧ Ctx W w56 (R58 ++ R54) Φ59 ∧ (∀ (w60 : World) (R61 :
  List Own), Ctx W w60 (R58 ++ R61) Φ59 → Ctx W w60 (R0 ++ R61) Φ1) ∧ (s48.size + s57.size).le 9223372036854775807 ∧ ∀ (w62 : World) (R63 : List Own), Ctx W w62 (R58 ++ R63) Φ59 → Calls
  Tryz.prog F.wire_Nums #[Value.slice p16 k17 k18] w62 fun (e64 : Ending) (w65 : World) => ∃ (s66 : ByteArray), e64 = Ending.returned (Value.string s66) ∧ ∃ (R67 : List Own), ∃ (Φ68 : PW),
  Stable Φ68 ∧ Ctx W w65 (R67 ++ R63) Φ68 ∧ (∀ (w69 : World) (R70 : List Own), Ctx W w69 (R67 ++ R70) Φ68 → Ctx W w69 (R0 ++ R70) Φ1) ∧ ((s48 ++ s57).size + s66.size).le 9223372036854775807 ∧
  ∀ (w71 : World) (R72 : List Own), Ctx W w71 (R67 ++ R72) Φ68 → Calls Tryz.prog F.sink_linesBytes #[Value.slice p24 k25 k26] w71 fun (e73 : Ending) (w74 : World) => ∃ (s75 : ByteArray), e73
  = Ending.returned (Value.string s75) ∧ ∃ (R76 : List Own), ∃ (Φ77 : PW), Stable Φ77 ∧ Ctx W w74 (R76 ++ R72) Φ77 ∧ (∀ (w78 : World) (R79 : List Own), Ctx W w78 (R76 ++ R79) Φ77 → Ctx W w78
  (R0 ++ R79) Φ1) ∧ ((s48 ++ s57 ++ s66).size + s75.size).le 9223372036854775807 ∧ ∀ (w80 : World) (R81 : List Own), Ctx W w80 (R76 ++ R81) Φ77 → Calls Tryz.prog F.wire_Int #[Value.int
  IntKind.i64 n32] w80 fun (e82 : Ending) (w83 : World) => ∃ (s84 : ByteArray), e82 = Ending.returned (Value.string s84) ∧ ∃ (R85 : List Own), ∃ (Φ86 : PW), Stable Φ86 ∧ Ctx W w83 (R85 ++
  R81) Φ86 ∧ (∀ (w87 : World) (R88 : List Own), Ctx W w87 (R85 ++ R88) Φ86 → Ctx W w87 (R0 ++ R88) Φ1) ∧ ((s48 ++ s57 ++ s66 ++ s75).size + s84.size).le 9223372036854775807 ∧ ∀ (w89 : World)
  (R90 : List Own), Ctx W w89 (R85 ++ R90) Φ86 → Calls Tryz.prog F.sink_linesBytes #[Value.slice p36 k37 k38] w89 fun (e91 : Ending) (w92 : World) => ∃ (s93 : ByteArray), e91 =
  Ending.returned (Value.string s93) ∧ ∃ (R94 : List Own), ∃ (Φ95 : PW), Stable Φ95 ∧ Ctx W w92 (R94 ++ R90) Φ95 ∧ (∀ (w96 : World) (R97 : List Own), Ctx W w96 (R94 ++ R97) Φ95 → Ctx W w96
  (R0 ++ R97) Φ1) ∧ ((s48 ++ s57 ++ s66 ++ s75 ++ s84).size + s93.size).le 9223372036854775807 ∧ ∀ (w98 : World) (R99 : List Own), Ctx W w98 (R94 ++ R99) Φ95 → J (Value.string (s48 ++ s57 ++
  s66 ++ s75 ++ s84 ++ s93)) w98

theorem Bsink_Sink_Bytes_run (sB sO : Nat) {W w : World} {R : List Own} {Φ : PW} [Stable Φ] {J : Value → World → Prop} (c : Ctx W w R Φ) (h : Bsink_Sink_Bytes sB sO W R Φ J) : Calls Tryz.prog F.sink_Sink_Bytes #[.pointer (some ⟨sB, sO, none⟩)] w fun e w' => ∃ v, e = .returned v ∧ J v w' :=
  vcFS_sound (H := { keep := some [0, 2], stages := [(1, [.held [(0, true), (5, true), (11, true), (17, true), (23, true), (29, true), (1, true), (6, true), (12, true), (18, true), (24, true), (30, true), (2, true), (7, true), (13, true), (19, true), (25, true), (31, true), (3, true), (8, true), (14, true), (20, true), (26, true), (32, true), (4, false), (9, false), (10, true), (15, false), (16, true), (21, false), (22, true), (27, false), (28, true), (33, false)], .stage [34, 35] none])] }) (by rw [show vcFS Tryz.prog W { keep := some [0, 2], stages := [(1, [.held [(0, true), (5, true), (11, true), (17, true), (23, true), (29, true), (1, true), (6, true), (12, true), (18, true), (24, true), (30, true), (2, true), (7, true), (13, true), (19, true), (25, true), (31, true), (3, true), (8, true), (14, true), (20, true), (26, true), (32, true), (4, false), (9, false), (10, true), (15, false), (16, true), (21, false), (22, true), (27, false), (28, true), (33, false)], .stage [34, 35] none])] } F.sink_Sink_Bytes #[.pointer (some ⟨sB, sO, none⟩)] R Φ J = Bsink_Sink_Bytes sB sO W R Φ J by kernel_rfl]; exact h) c

/-- erratalaw43.do -/
-- known blocks: 3 x
def Berratalaw43_do (sB sO : Nat) (x0 : Int) (x1 : Int) (x2P : Option Addr) (x2N x2C : Nat) (W : World) (R : List Own) (Φ : PW) (J : Value → World → Prop) : Prop :=
  ∀ (b : Nat), ∃ (n0 : Int), (∀ (w1 : World), Sem.run Tryz.prog (binOp BinOp.and 3 (Value.int IntKind.i64 x0) (Value.int IntKind.i64 7)) w1 = Result.ok (Value.int IntKind.i64 n0) w1) ∧ Br
  (decide (n0 = 0)) (Br (decide (n0 = 0)) (∀ (w2 : World) (R3 : List Own), Ctx W w2 (R ++ R3) Φ → Calls Tryz.prog F.sink_Sink_Prepare #[Value.pointer (some (Addr.mk sB sO none)), Value.int
  IntKind.i64 x1, Value.slice x2P x2N x2C] w2 fun (e4 : Ending) (w5 : World) => ∃ (n6 : Int), e4 = Ending.returned (Value.int IntKind.i64 n6) ∧ ∃ (R7 : List Own), ∃ (Φ8 : PW), Stable Φ8 ∧ Ctx
  W w5 (R7 ++ R3) Φ8 ∧ ∀ (w9 : World) (R10 : List Own), Ctx W w9 (R7 ++ R10) Φ8 → J (Value.tuple #[Value.pointer (some (Addr.mk sB sO none)), Value.int IntKind.i64 n6]) w9) (Br (decide (n0 =
  2)) (∀ (w11 : World) (R12 : List Own), Ctx W w11 (R ++ R12) Φ → Calls Tryz.prog F.sink_Sink_Commit #[Value.pointer (some (Addr.mk sB sO none)), Value.int IntKind.i64 x1] w11 fun (e13 :
  Ending) (w14 : World) => ∃ (n15 : Int), e13 = Ending.returned (Value.int IntKind.i64 n15) ∧ ∃ (R16 : List Own), ∃ (Φ17 : PW), Stable Φ17 ∧ Ctx W w14 (R16 ++ R12) Φ17 ∧ ∀ (w18 : World) (R19
  : List Own), Ctx W w18 (R16 ++ R19) Φ17 → J (Value.tuple #[Value.pointer (some (Addr.mk sB sO none)), Value.int IntKind.i64 n15]) w18) (Br (decide (n0 = 3)) (∀ (w20 : World) (R21 : List
  Own), Ctx W w20 (R ++ R21) Φ → Calls Tryz.prog F.sink_Sink_Abort #[Value.pointer (some (Addr.mk sB sO none)), Value.int IntKind.i64 x1] w20 fun (e22 : Ending) (w23 : World) => ∃ (n24 :
  Int), e22 = Ending.returned (Value.int IntKind.i64 n24) ∧ ∃ (R25 : List Own), ∃ (Φ26 : PW), Stable Φ26 ∧ Ctx W w23 (R25 ++ R21) Φ26 ∧ ∀ (w27 : World) (R28 : List Own), Ctx W w27 (R25 ++
  R28) Φ26 → J (Value.tuple #[Value.pointer (some (Addr.mk sB sO none)), Value.int IntKind.i64 n24]) w27) (Br (decide (n0 = 6)) (∀ (w29 : World) (R30 : List Own), Ctx W w29 (R ++ R30) Φ →
  Calls Tryz.prog F.sink_Sink_Copy #[Value.pointer (some (Addr.mk sB sO none))] w29 fun (e31 : Ending) (w32 : World) => ∃ (p33 : Option Addr), e31 = Ending.returned (Value.pointer p33) ∧ ∃
  (R34 : List Own), ∃ (Φ35 : PW), Stable Φ35 ∧ Ctx W w32 (R34 ++ R30) Φ35 ∧ ∀ (w36 : World) (R37 : List Own), Ctx W w36 (R34 ++ R37) Φ35 → J (Value.tuple #[Value.pointer p33, Value.int
  IntKind.i64 0]) w36) (Br (decide (n0 = 7)) (∀ (w38 : World) (R39 : List Own), Ctx W w38 (R ++ R39) Φ → Calls Tryz.prog F.sink_Sink_Bytes #[Value.pointer (some (Addr.mk sB sO none))] w38 fun
  (e40 : Ending) (w41 : World) => ∃ (s42 : ByteArray), e40 = Ending.returned (Value.string s42) ∧ ∃ (R43 : List Own), ∃ (Φ44 : PW), Stable Φ44 ∧ Ctx W w41 (R43 ++ R39) Φ44 ∧ ∀ (w45 : World)
  (R46 : List Own), Ctx W w45 (R43 ++ R46) Φ44 → Calls Tryz.prog F.sink_Read #[Value.string s42] w45 fun (e47 : Ending) (w48 : World) => ∃ (p49 : Option Addr), ∃ (c50 : Bool), e47 =
  Ending.returned (Value.tuple #[Value.pointer p49, Value.bool c50]) ∧ ∃ (R51 : List Own), ∃ (Φ52 : PW), Stable Φ52 ∧ Ctx W w48 (R51 ++ R46) Φ52 ∧ Br (!c50) (∀ (w53 : World) (R54 : List Own),
  Ctx W w53 (R51 ++ R54) Φ52 → J (Value.tuple #[Value.pointer none, Value.int IntKind.i64 0]) w53) (∀ (w55 : World) (R56 : List Own), Ctx W w55 (R51 ++ R56) Φ52 → J (Value.tuple
  #[Value.pointer p49, Value.int IntKind.i64 0]) w55)) (∀ (w57 : World) (R58 : List Own), Ctx W w57 (R ++ R58) Φ → Calls Tryz.prog F.sink_Sink_Deliver #[Value.pointer (some (Addr.mk sB sO
  none)), Value.int IntKind.i64 x1, Value.slice x2P x2N x2C] w57 fun (e59 : Ending) (w60 : World) => ∃ (n61 : Int), e59 = Ending.returned (Value.int IntKind.i64 n61) ∧ ∃ (R62 : List Own), ∃
  (Φ63 : PW), Stable Φ63 ∧ Ctx W w60 (R62 ++ R58) Φ63 ∧ ∀ (w64 : World) (R65 : List Own), Ctx W w64 (R62 ++ R65) Φ63 → J (Value.tuple #[Value.pointer (some (Addr.mk sB sO none)), Value.int
  IntKind.i64 n61]) w64)))))) (Br (decide (n0 = 1)) (∀ (w66 : World) (R67 : List Own), Ctx W w66 (R ++ R67) Φ → Calls Tryz.prog F.sink_Sink_Prepare #[Value.pointer (some (Addr.mk sB sO
  none)), Value.int IntKind.i64 x1, Value.slice x2P x2N x2C] w66 fun (e68 : Ending) (w69 : World) => ∃ (n70 : Int), e68 = Ending.returned (Value.int IntKind.i64 n70) ∧ ∃ (R71 : List Own), ∃
  (Φ72 : PW), Stable Φ72 ∧ Ctx W w69 (R71 ++ R67) Φ72 ∧ ∀ (w73 : World) (R74 : List Own), Ctx W w73 (R71 ++ R74) Φ72 → J (Value.tuple #[Value.pointer (some (Addr.mk sB sO none)), Value.int
  IntKind.i64 n70]) w73) (Br (decide (n0 = 2)) (∀ (w75 : World) (R76 : List Own), Ctx W w75 (R ++ R76) Φ → Calls Tryz.prog F.sink_Sink_Commit #[Value.pointer (some (Addr.mk sB sO none)),
  Value.int IntKind.i64 x1] w75 fun (e77 : Ending) (w78 : World) => ∃ (n79 : Int), e77 = Ending.returned (Value.int IntKind.i64 n79) ∧ ∃ (R80 : List Own), ∃ (Φ81 : PW), Stable Φ81 ∧ Ctx W w78
  (R80 ++ R76) Φ81 ∧ ∀ (w82 : World) (R83 : List Own), Ctx W w82 (R80 ++ R83) Φ81 → J (Value.tuple #[Value.pointer (some (Addr.mk sB sO none)), Value.int IntKind.i64 n79]) w82) (Br (decide
  (n0 = 3)) (∀ (w84 : World) (R85 : List Own), Ctx W w84 (R ++ R85) Φ → Calls Tryz.prog F.sink_Sink_Abort #[Value.pointer (some (Addr.mk sB sO none)), Value.int IntKind.i64 x1] w84 fun (e86 :
  Ending) (w87 : World) => ∃ (n88 : Int), e86 = Ending.returned (Value.int IntKind.i64 n88) ∧ ∃ (R89 : List Own), ∃ (Φ90 : PW), Stable Φ90 ∧ Ctx W w87 (R89 ++ R85) Φ90 ∧ ∀ (w91 : World) (R92
  : List Own), Ctx W w91 (R89 ++ R92) Φ90 → J (Value.tuple #[Value.pointer (some (Addr.mk sB sO none)), Value.int IntKind.i64 n88]) w91) (Br (decide (n0 = 6)) (∀ (w93 : World) (R94 : List
  Own), Ctx W w93 (R ++ R94) Φ → Calls Tryz.prog F.sink_Sink_Copy #[Value.pointer (some (Addr.mk sB sO none))] w93 fun (e95 : Ending) (w96 : World) => ∃ (p97 : Option Addr), e95 =
  Ending.returned (Value.pointer p97) ∧ ∃ (R98 : List Own), ∃ (Φ99 : PW), Stable Φ99 ∧ Ctx W w96 (R98 ++ R94) Φ99 ∧ ∀ (w100 : World) (R101 : List Own), Ctx W w100 (R98 ++ R101) Φ99 → J
  (Value.tuple #[Value.pointer p97, Value.int IntKind.i64 0]) w100) (Br (decide (n0 = 7)) (∀ (w102 : World) (R103 : List Own), Ctx W w102 (R ++ R103) Φ → Calls Tryz.prog F.sink_Sink_Bytes
  #[Value.pointer (some (Addr.mk sB sO none))] w102 fun (e104 : Ending) (w105 : World) => ∃ (s106 : ByteArray), e104 = Ending.returned (Value.string s106) ∧ ∃ (R107 : List Own), ∃ (Φ108 :
  PW), Stable Φ108 ∧ Ctx W w105 (R107 ++ R103) Φ108 ∧ ∀ (w109 : World) (R110 : List Own), Ctx W w109 (R107 ++ R110) Φ108 → Calls Tryz.prog F.sink_Read #[Value.string s106] w109 fun (e111 :
  Ending) (w112 : World) => ∃ (p113 : Option Addr), ∃ (c114 : Bool), e111 = Ending.returned (Value.tuple #[Value.pointer p113, Value.bool c114]) ∧ ∃ (R115 : List Own), ∃ (Φ116 : PW), Stable
  Φ116 ∧ Ctx W w112 (R115 ++ R110) Φ116 ∧ Br (!c114) (∀ (w117 : World) (R118 : List Own), Ctx W w117 (R115 ++ R118) Φ116 → J (Value.tuple #[Value.pointer none, Value.int IntKind.i64 0]) w117)
  (∀ (w119 : World) (R120 : List Own), Ctx W w119 (R115 ++ R120) Φ116 → J (Value.tuple #[Value.pointer p113, Value.int IntKind.i64 0]) w119)) (∀ (w121 : World) (R122 : List Own), Ctx W w121
  (R ++ R122) Φ → Calls Tryz.prog F.sink_Sink_Deliver #[Value.pointer (some (Addr.mk sB sO none)), Value.int IntKind.i64 x1, Value.slice x2P x2N x2C] w121 fun (e123 : Ending) (w124 : World)
  => ∃ (n125 : Int), e123 = Ending.returned (Value.int IntKind.i64 n125) ∧ ∃ (R126 : List Own), ∃ (Φ127 : PW), Stable Φ127 ∧ Ctx W w124 (R126 ++ R122) Φ127 ∧ ∀ (w128 : World) (R129 : List
  Own), Ctx W w128 (R126 ++ R129) Φ127 → J (Value.tuple #[Value.pointer (some (Addr.mk sB sO none)), Value.int IntKind.i64 n125]) w128))))))

theorem Berratalaw43_do_run (sB sO : Nat) (x0 : Int) (x1 : Int) (x2P : Option Addr) (x2N x2C : Nat) {W w : World} {R : List Own} {Φ : PW} [Stable Φ] {J : Value → World → Prop} (c : Ctx W w R Φ) (h : Berratalaw43_do sB sO x0 x1 x2P x2N x2C W R Φ J) : Calls Tryz.prog F.erratalaw43_do #[.pointer (some ⟨sB, sO, none⟩), .agg #[.int .i64 x0, .int .i64 x1, .slice x2P x2N x2C]] w fun e w' => ∃ v, e = .returned v ∧ J v w' :=
  vcFS_sound (H := { keep := some [0, 3, 4, 5, 6, 7, 10, 11, 21, 28, 35, 39, 48], track := [3] }) (by rw [show vcFS Tryz.prog W { keep := some [0, 3, 4, 5, 6, 7, 10, 11, 21, 28, 35, 39, 48], track := [3] } F.erratalaw43_do #[.pointer (some ⟨sB, sO, none⟩), .agg #[.int .i64 x0, .int .i64 x1, .slice x2P x2N x2C]] R Φ J = Berratalaw43_do sB sO x0 x1 x2P x2N x2C W R Φ J by kernel_rfl]; exact h) c

/-- sink.New -/
def Bsink_New (kind : Int) (keyP : Option Addr) (keyN keyC : Nat) (W : World) (R : List Own) (Φ : PW) (J : Value → World → Prop) : Prop :=
  Br (decide (kind < 0)) (∀ (w0 : World) (R1 : List Own), Ctx W w0 (R ++ R1) Φ → J (Value.pointer none) w0) (Br (decide (3 ≤ kind)) (∀ (w2 : World) (R3 : List Own), Ctx W w2 (R ++ R3) Φ → J
  (Value.pointer none) w2) (Br (decide (0 < (↑keyN : Int))) (Br (decide (kind ≠ 1)) (∀ (w4 : World) (R5 : List Own), Ctx W w4 (R ++ R5) Φ → J (Value.pointer none) w4) (∀ (w6 : World) (R7 :
  List Own), Ctx W w6 (R ++ R7) Φ → Calls Tryz.prog F.slices_Min_int_int #[Value.slice keyP keyN keyC] w6 fun (e8 : Ending) (w9 : World) => ∃ (n10 : Int), e8 = Ending.returned (Value.int
  IntKind.i64 n10) ∧ ∃ (R11 : List Own), ∃ (Φ12 : PW), Stable Φ12 ∧ Ctx W w9 (R11 ++ R7) Φ12 ∧ Br (decide (n10 < 0)) (∀ (w13 : World) (R14 : List Own), Ctx W w13 (R11 ++ R14) Φ12 → J
  (Value.pointer none) w13) (∀ (w15 : World) (R16 : List Own), Ctx W w15 (R11 ++ R16) Φ12 → Calls Tryz.prog F.slices_Clone_int_int #[Value.slice keyP keyN keyC] w15 fun (e17 : Ending) (w18 :
  World) => ∃ (p19 : Option Addr), ∃ (k20 : Nat), ∃ (k21 : Nat), e17 = Ending.returned (Value.slice p19 k20 k21) ∧ ∃ (R22 : List Own), ∃ (Φ23 : PW), Stable Φ23 ∧ Ctx W w18 (R22 ++ R16) Φ23 ∧
  ∀ (k24 : Nat) (w25 : World) (R26 : List Own), Ctx W w25 (Own.blk k24 [Value.int IntKind.i64 kind, Value.slice p19 k20 k21, Value.slice none 0 0, Value.slice none 0 0, Value.int IntKind.i64
  0, Value.slice none 0 0] 69 :: R22 ++ R26) Φ23 → J (Value.pointer (some (Addr.mk k24 0 none))) w25))) (∀ (w27 : World) (R28 : List Own), Ctx W w27 (R ++ R28) Φ → Calls Tryz.prog
  F.slices_Clone_int_int #[Value.slice keyP keyN keyC] w27 fun (e29 : Ending) (w30 : World) => ∃ (p31 : Option Addr), ∃ (k32 : Nat), ∃ (k33 : Nat), e29 = Ending.returned (Value.slice p31 k32
  k33) ∧ ∃ (R34 : List Own), ∃ (Φ35 : PW), Stable Φ35 ∧ Ctx W w30 (R34 ++ R28) Φ35 ∧ ∀ (k36 : Nat) (w37 : World) (R38 : List Own), Ctx W w37 (Own.blk k36 [Value.int IntKind.i64 kind,
  Value.slice p31 k32 k33, Value.slice none 0 0, Value.slice none 0 0, Value.int IntKind.i64 0, Value.slice none 0 0] 69 :: R34 ++ R38) Φ35 → J (Value.pointer (some (Addr.mk k36 0 none)))
  w37)))

theorem Bsink_New_run (kind : Int) (keyP : Option Addr) (keyN keyC : Nat) {W w : World} {R : List Own} {Φ : PW} [Stable Φ] {J : Value → World → Prop} (c : Ctx W w R Φ) (h : Bsink_New kind keyP keyN keyC W R Φ J) : Calls Tryz.prog F.sink_New #[.int .i64 kind, .slice keyP keyN keyC] w fun e w' => ∃ v, e = .returned v ∧ J v w' :=
  vcFS_sound (H := { keep := some [0, 1, 4, 24], split := [1] }) (by rw [show vcFS Tryz.prog W { keep := some [0, 1, 4, 24], split := [1] } F.sink_New #[.int .i64 kind, .slice keyP keyN keyC] R Φ J = Bsink_New kind keyP keyN keyC W R Φ J by kernel_rfl]; exact h) c

/-- (*sink.Sink).Last -/
def Bsink_Sink_Last (sB sO : Nat) (W : World) (R : List Own) (Φ : PW) (J : Value → World → Prop) : Prop :=
  ∀ (w0 : World) (R1 : List Own), Ctx W w0 (R ++ R1) Φ → ∃ (p2 : Option Addr), ∃ (k3 : Nat), ∃ (k4 : Nat), w0.cell? (Addr.mk sB (sO + 2) none) = some (Value.slice p2 k3 k4) ∧ Br (decide ((↑k3
  : Int) = 0)) (∀ (w5 : World) (R6 : List Own), Ctx W w5 (R ++ R6) Φ → J (Value.int IntKind.i64 0) w5) (∀ (w7 : World) (R8 : List Own), Ctx W w7 (R ++ R8) Φ → ∃ (p9 : Option Addr), ∃ (k10 :
  Nat), ∃ (k11 : Nat), w7.cell? (Addr.mk sB (sO + 2) none) = some (Value.slice p9 k10 k11) ∧ ∃ (p12 : Option Addr), ∃ (k13 : Nat), ∃ (k14 : Nat), w7.cell? (Addr.mk sB (sO + 2) none) = some
  (Value.slice p12 k13 k14) ∧ I64 ((↑k13 : Int) - 1) ∧ (0 ≤ (↑k13 : Int) - 1 ∧ (↑k13 : Int) - 1 < (↑k10 : Int)) ∧ ptrK none p9 fun (k15 k16 : Nat) => ∃ (n17 : Int), w7.cell? (Addr.mk k15 (k16
  + ((↑k13 : Int) - 1).toNat) none) = some (Value.int IntKind.i64 n17) ∧ ∀ (w18 : World) (R19 : List Own), Ctx W w18 (R ++ R19) Φ → J (Value.int IntKind.i64 n17) w18)

theorem Bsink_Sink_Last_run (sB sO : Nat) {W w : World} {R : List Own} {Φ : PW} [Stable Φ] {J : Value → World → Prop} (c : Ctx W w R Φ) (h : Bsink_Sink_Last sB sO W R Φ J) : Calls Tryz.prog F.sink_Sink_Last #[.pointer (some ⟨sB, sO, none⟩)] w fun e w' => ∃ v, e = .returned v ∧ J v w' :=
  vcFS_sound (H := { keep := some [0, 2, 8] }) (by rw [show vcFS Tryz.prog W { keep := some [0, 2, 8] } F.sink_Sink_Last #[.pointer (some ⟨sB, sO, none⟩)] R Φ J = Bsink_Sink_Last sB sO W R Φ J by kernel_rfl]; exact h) c

/-- (*sink.Sink).Lines -/
def Bsink_Sink_Lines (sB sO : Nat) (W : World) (R : List Own) (Φ : PW) (J : Value → World → Prop) : Prop :=
  ∀ (w0 : World) (R1 : List Own), Ctx W w0 (R ++ R1) Φ → ∃ (p2 : Option Addr), ∃ (k3 : Nat), ∃ (k4 : Nat), w0.cell? (Addr.mk sB (sO + 3) none) = some (Value.slice p2 k3 k4) ∧ ∀ (w5 : World)
  (R6 : List Own), Ctx W w5 (R ++ R6) Φ → J (Value.int IntKind.i64 (↑k3 : Int)) w5

theorem Bsink_Sink_Lines_run (sB sO : Nat) {W w : World} {R : List Own} {Φ : PW} [Stable Φ] {J : Value → World → Prop} (c : Ctx W w R Φ) (h : Bsink_Sink_Lines sB sO W R Φ J) : Calls Tryz.prog F.sink_Sink_Lines #[.pointer (some ⟨sB, sO, none⟩)] w fun e w' => ∃ v, e = .returned v ∧ J v w' :=
  vcFS_sound (H := { keep := some [0, 2] }) (by rw [show vcFS Tryz.prog W { keep := some [0, 2] } F.sink_Sink_Lines #[.pointer (some ⟨sB, sO, none⟩)] R Φ J = Bsink_Sink_Lines sB sO W R Φ J by kernel_rfl]; exact h) c

/-- (*sink.Sink).Has -/
def Bsink_Sink_Has (sB sO : Nat) (batch : Int) (W : World) (R : List Own) (Φ : PW) (J : Value → World → Prop) : Prop :=
  ∀ (w0 : World) (R1 : List Own), Ctx W w0 (R ++ R1) Φ → ∃ (p2 : Option Addr), ∃ (k3 : Nat), ∃ (k4 : Nat), w0.cell? (Addr.mk sB (sO + 2) none) = some (Value.slice p2 k3 k4) ∧ ∀ (w5 : World)
  (R6 : List Own), Ctx W w5 (R ++ R6) Φ → Calls Tryz.prog F.slices_BinarySearch_int_int #[Value.slice p2 k3 k4, Value.int IntKind.i64 batch] w5 fun (e7 : Ending) (w8 : World) => ∃ (n9 : Int),
  ∃ (c10 : Bool), e7 = Ending.returned (Value.tuple #[Value.int IntKind.i64 n9, Value.bool c10]) ∧ ∃ (R11 : List Own), ∃ (Φ12 : PW), Stable Φ12 ∧ Ctx W w8 (R11 ++ R6) Φ12 ∧ ∀ (w13 : World)
  (R14 : List Own), Ctx W w13 (R11 ++ R14) Φ12 → J (Value.bool c10) w13

theorem Bsink_Sink_Has_run (sB sO : Nat) (batch : Int) {W w : World} {R : List Own} {Φ : PW} [Stable Φ] {J : Value → World → Prop} (c : Ctx W w R Φ) (h : Bsink_Sink_Has sB sO batch W R Φ J) : Calls Tryz.prog F.sink_Sink_Has #[.pointer (some ⟨sB, sO, none⟩), .int .i64 batch] w fun e w' => ∃ v, e = .returned v ∧ J v w' :=
  vcFS_sound (H := { keep := some [0, 1, 4, 6] }) (by rw [show vcFS Tryz.prog W { keep := some [0, 1, 4, 6] } F.sink_Sink_Has #[.pointer (some ⟨sB, sO, none⟩), .int .i64 batch] R Φ J = Bsink_Sink_Has sB sO batch W R Φ J by kernel_rfl]; exact h) c

/-- (*sink.Sink).Deliver -/
def Bsink_Sink_Deliver (sB sO : Nat) (batch : Int) (linesP : Option Addr) (linesN linesC : Nat) (W : World) (R : List Own) (Φ : PW) (J : Value → World → Prop) : Prop :=
  ∀ (w0 : World) (R1 : List Own), Ctx W w0 (R ++ R1) Φ → ∃ (n2 : Int), w0.cell? (Addr.mk sB sO none) = some (Value.int IntKind.i64 n2) ∧ Br (decide (n2 = 0)) (∀ (w3 : World) (R4 : List Own),
  Ctx W w3 (R ++ R4) Φ → J (Value.int IntKind.i64 7) w3) (∀ (w5 : World) (R6 : List Own), Ctx W w5 (R ++ R6) Φ → Calls Tryz.prog F.sink_Sink_Has #[Value.pointer (some (Addr.mk sB sO none)),
  Value.int IntKind.i64 batch] w5 fun (e7 : Ending) (w8 : World) => ∃ (c9 : Bool), e7 = Ending.returned (Value.bool c9) ∧ ∃ (R10 : List Own), ∃ (Φ11 : PW), Stable Φ11 ∧ Ctx W w8 (R10 ++ R6)
  Φ11 ∧ Br c9 (∀ (w12 : World) (R13 : List Own), Ctx W w12 (R10 ++ R13) Φ11 → J (Value.int IntKind.i64 0) w12) (∀ (w14 : World) (R15 : List Own), Ctx W w14 (R10 ++ R15) Φ11 → Calls Tryz.prog
  F.sink_Sink_look #[Value.pointer (some (Addr.mk sB sO none)), Value.int IntKind.i64 batch, Value.slice linesP linesN linesC] w14 fun (e16 : Ending) (w17 : World) => ∃ (n18 : Int), e16 =
  Ending.returned (Value.int IntKind.i64 n18) ∧ ∃ (R19 : List Own), ∃ (Φ20 : PW), Stable Φ20 ∧ Ctx W w17 (R19 ++ R15) Φ20 ∧ Br (decide (n18 ≠ 0)) (∀ (w21 : World) (R22 : List Own), Ctx W w21
  (R19 ++ R22) Φ20 → J (Value.int IntKind.i64 n18) w21) (∀ (w23 : World) (R24 : List Own), Ctx W w23 (R19 ++ R24) Φ20 → Calls Tryz.prog F.sink_clone #[Value.slice linesP linesN linesC] w23
  fun (e25 : Ending) (w26 : World) => ∃ (p27 : Option Addr), ∃ (k28 : Nat), ∃ (k29 : Nat), e25 = Ending.returned (Value.slice p27 k28 k29) ∧ ∃ (R30 : List Own), ∃ (Φ31 : PW), Stable Φ31 ∧ Ctx
  W w26 (R30 ++ R24) Φ31 ∧ ∀ (w32 : World) (R33 : List Own), Ctx W w32 (R30 ++ R33) Φ31 → Calls Tryz.prog F.sink_Sink_take #[Value.pointer (some (Addr.mk sB sO none)), Value.int IntKind.i64
  batch, Value.slice p27 k28 k29] w32 fun (e34 : Ending) (w35 : World) => e34 = Ending.returned (Value.tuple #[]) ∧ ∃ (R36 : List Own), ∃ (Φ37 : PW), Stable Φ37 ∧ Ctx W w35 (R36 ++ R33) Φ37 ∧
  ∀ (w38 : World) (R39 : List Own), Ctx W w38 (R36 ++ R39) Φ37 → J (Value.int IntKind.i64 0) w38)))

theorem Bsink_Sink_Deliver_run (sB sO : Nat) (batch : Int) (linesP : Option Addr) (linesN linesC : Nat) {W w : World} {R : List Own} {Φ : PW} [Stable Φ] {J : Value → World → Prop} (c : Ctx W w R Φ) (h : Bsink_Sink_Deliver sB sO batch linesP linesN linesC W R Φ J) : Calls Tryz.prog F.sink_Sink_Deliver #[.pointer (some ⟨sB, sO, none⟩), .int .i64 batch, .slice linesP linesN linesC] w fun e w' => ∃ v, e = .returned v ∧ J v w' :=
  vcFS_sound (H := { keep := some [0, 1, 2, 6, 7, 8, 14, 23] }) (by rw [show vcFS Tryz.prog W { keep := some [0, 1, 2, 6, 7, 8, 14, 23] } F.sink_Sink_Deliver #[.pointer (some ⟨sB, sO, none⟩), .int .i64 batch, .slice linesP linesN linesC] R Φ J = Bsink_Sink_Deliver sB sO batch linesP linesN linesC W R Φ J by kernel_rfl]; exact h) c

/-- erratalaw43.line -/
-- known blocks: 4 
def Berratalaw43_line (no : Int) (batch : Int) (W : World) (R : List Own) (Φ : PW) (J : Value → World → Prop) : Prop :=
  ∀ (b k0 : Nat) (w1 : World) (R2 : List Own), Ctx W w1 (Own.blk k0 [Value.int IntKind.i64 0, Value.int IntKind.i64 no, Value.string (ByteArray.mk #[])] 94 :: R ++ R2) Φ → J (Value.agg
  #[Value.int IntKind.i64 no, Value.int IntKind.i64 batch, Value.int IntKind.i64 no, Value.slice (some (Addr.mk k0 0 none)) 1 1, Value.int IntKind.i64 1, Value.int IntKind.i64 0, Value.int
  IntKind.i64 0]) w1

theorem Berratalaw43_line_run (no : Int) (batch : Int) {W w : World} {R : List Own} {Φ : PW} [Stable Φ] {J : Value → World → Prop} (c : Ctx W w R Φ) (h : Berratalaw43_line no batch W R Φ J) : Calls Tryz.prog F.erratalaw43_line #[.int .i64 no, .int .i64 batch] w fun e w' => ∃ v, e = .returned v ∧ J v w' :=
  vcFS_sound (H := { keep := some [0, 1, 4], track := [4] }) (by rw [show vcFS Tryz.prog W { keep := some [0, 1, 4], track := [4] } F.erratalaw43_line #[.int .i64 no, .int .i64 batch] R Φ J = Berratalaw43_line no batch W R Φ J by kernel_rfl]; exact h) c

/-- errataref43.Few -/
-- loop at region 7: 6 k; blocks 
-- loop at region 2: 5 i; blocks 
def Berrataref43_Few (lP : Option Addr) (lN lC : Nat) (n : Int) (W : World) (R : List Own) (Φ : PW) (J : Value → World → Prop) : Prop :=
  exI fun (I0 : Int → List Own → PW → Nat → Prop) => (∃ (R1 : List Own), ∃ (Φ2 : PW), ∃ (k3 : Nat), Stable Φ2 ∧ (∀ (w4 : World) (R5 : List Own), Ctx W w4 (R ++ R5) Φ → Ctx W w4 (R1 ++ R5) Φ2)
  ∧ I0 0 R1 Φ2 k3) ∧ ∀ (n6 : Int) (R7 : List Own) (I8 : List Nat → World → Prop) (k9 : Nat), Stable I8 → I0 n6 R7 I8 k9 → ∀ (w10 : World) (R11 : List Own), Ctx W w10 (R7 ++ R11) I8 → Br
  (decide (n6 < (↑lN : Int)) && decide (n6 ≤ n)) ((0 ≤ n6 ∧ n6 < (↑lN : Int)) ∧ ptrK none lP fun (k12 k13 : Nat) => ∀ (w14 : World) (R15 : List Own), Ctx W w14 (R7 ++ R15) I8 → ∃ (p16 :
  Option Addr), ∃ (k17 : Nat), ∃ (k18 : Nat), w14.cell? (Addr.mk k12 (k13 + n6.toNat * 7 + 3) none) = some (Value.slice p16 k17 k18) ∧ Br (decide (12 < (↑k17 : Int))) (∀ (w19 : World) (R20 :
  List Own), Ctx W w19 (R7 ++ R20) I8 → J (Value.bool false) w19) (exI fun (I21 : Int → List Own → PW → Nat → Prop) => (∃ (R22 : List Own), ∃ (Φ23 : PW), ∃ (k24 : Nat), Stable Φ23 ∧ (∀ (w25 :
  World) (R26 : List Own), Ctx W w25 (R7 ++ R26) I8 → Ctx W w25 (R22 ++ R26) Φ23) ∧ I21 0 R22 Φ23 k24) ∧ ∀ (n27 : Int) (R28 : List Own) (I29 : List Nat → World → Prop) (k30 : Nat), Stable I29
  → I21 n27 R28 I29 k30 → (0 ≤ n6 ∧ n6 < (↑lN : Int)) ∧ ptrK none lP fun (k31 k32 : Nat) => ∀ (w33 : World) (R34 : List Own), Ctx W w33 (R28 ++ R34) I29 → ∃ (p35 : Option Addr), ∃ (k36 :
  Nat), ∃ (k37 : Nat), w33.cell? (Addr.mk k31 (k32 + n6.toNat * 7 + 3) none) = some (Value.slice p35 k36 k37) ∧ Br (decide (n27 < (↑k36 : Int))) ((0 ≤ n6 ∧ n6 < (↑lN : Int)) ∧ ptrK none lP
  fun (k38 k39 : Nat) => ∀ (w40 : World) (R41 : List Own), Ctx W w40 (R28 ++ R41) I29 → ∃ (p42 : Option Addr), ∃ (k43 : Nat), ∃ (k44 : Nat), w40.cell? (Addr.mk k38 (k39 + n6.toNat * 7 + 3)
  none) = some (Value.slice p42 k43 k44) ∧ (0 ≤ n27 ∧ n27 < (↑k43 : Int)) ∧ ptrK none p42 fun (k45 k46 : Nat) => ∀ (w47 : World) (R48 : List Own), Ctx W w47 (R28 ++ R48) I29 → ∃ (s49 :
  ByteArray), w47.cell? (Addr.mk k45 (k46 + n27.toNat * 3 + 2) none) = some (Value.string s49) ∧ Br (decide (210 < (↑s49.size : Int))) (∀ (w50 : World) (R51 : List Own), Ctx W w50 (R28 ++
  R51) I29 → J (Value.bool false) w50) (I64 (n27 + 1) ∧ ∃ (R52 : List Own), ∃ (Φ53 : PW), ∃ (k54 : Nat), Stable Φ53 ∧ (∀ (w55 : World) (R56 : List Own), Ctx W w55 (R28 ++ R56) I29 → Ctx W w55
  (R52 ++ R56) Φ53) ∧ I21 (n27 + 1) R52 Φ53 k54 ∧ k54 < k30)) (I64 (n6 + 1) ∧ ∃ (R57 : List Own), ∃ (Φ58 : PW), ∃ (k59 : Nat), Stable Φ58 ∧ (∀ (w60 : World) (R61 : List Own), Ctx W w60 (R28
  ++ R61) I29 → Ctx W w60 (R57 ++ R61) Φ58) ∧ I0 (n6 + 1) R57 Φ58 k59 ∧ k59 < k9))) (∀ (w62 : World) (R63 : List Own), Ctx W w62 (R7 ++ R63) I8 → J (Value.bool (decide ((↑lN : Int) ≤ n)))
  w62)

theorem Berrataref43_Few_run (lP : Option Addr) (lN lC : Nat) (n : Int) {W w : World} {R : List Own} {Φ : PW} [Stable Φ] {J : Value → World → Prop} (c : Ctx W w R Φ) (h : Berrataref43_Few lP lN lC n W R Φ J) : Calls Tryz.prog F.errataref43_Few #[.slice lP lN lC, .int .i64 n] w fun e w' => ∃ v, e = .returned v ∧ J v w' :=
  vcFS_sound (H := { keep := some [0, 1, 4, 5, 6, 15, 24, 32, 45], loops := [(7, [(6, .one (.int .i64))], []), (2, [(5, .one (.int .i64))], [])] }) (by rw [show vcFS Tryz.prog W { keep := some [0, 1, 4, 5, 6, 15, 24, 32, 45], loops := [(7, [(6, .one (.int .i64))], []), (2, [(5, .one (.int .i64))], [])] } F.errataref43_Few #[.slice lP lN lC, .int .i64 n] R Φ J = Berrataref43_Few lP lN lC n W R Φ J by kernel_rfl]; exact h) c

/-- sink.readLines -/
-- loop at region 3: 4 out; blocks 
-- known blocks: 6 x
def Bsink_readLines (rB rO : Nat) (W : World) (R : List Own) (Φ : PW) (J : Value → World → Prop) : Prop :=
  ∀ (w0 : World) (R1 : List Own), Ctx W w0 (R ++ R1) Φ → Calls Tryz.prog F.wire_Reader_Num #[Value.pointer (some (Addr.mk rB rO none))] w0 fun (e2 : Ending) (w3 : World) => ∃ (n4 : Int), e2 =
  Ending.returned (Value.int IntKind.i64 n4) ∧ ∃ (R5 : List Own), ∃ (Φ6 : PW), Stable Φ6 ∧ Ctx W w3 (R5 ++ R1) Φ6 ∧ exI fun (I7 : Option Addr → Nat → Nat → List Own → PW → Nat → Prop) => (∃
  (R8 : List Own), ∃ (Φ9 : PW), ∃ (k10 : Nat), Stable Φ9 ∧ (∀ (w11 : World) (R12 : List Own), Ctx W w11 (R5 ++ R12) Φ6 → Ctx W w11 (R8 ++ R12) Φ9) ∧ I7 none 0 0 R8 Φ9 k10) ∧ ∀ (p13 : Option
  Addr) (k14 k15 : Nat) (R16 : List Own) (I17 : List Nat → World → Prop) (k18 : Nat), Stable I17 → I7 p13 k14 k15 R16 I17 k18 → Br (decide ((↑k14 : Int) < n4)) (I64 ((↑k14 : Int) + 1) ∧ ∀
  (w19 : World) (R20 : List Own), Ctx W w19 (R16 ++ R20) I17 → Calls Tryz.prog F.wire_Reader_Int #[Value.pointer (some (Addr.mk rB rO none))] w19 fun (e21 : Ending) (w22 : World) => ∃ (n23 :
  Int), e21 = Ending.returned (Value.int IntKind.i64 n23) ∧ ∃ (R24 : List Own), ∃ (Φ25 : PW), Stable Φ25 ∧ Ctx W w22 (R24 ++ R20) Φ25 ∧ ∀ (w26 : World) (R27 : List Own), Ctx W w26 (R24 ++
  R27) Φ25 → Calls Tryz.prog F.wire_Reader_Int #[Value.pointer (some (Addr.mk rB rO none))] w26 fun (e28 : Ending) (w29 : World) => ∃ (n30 : Int), e28 = Ending.returned (Value.int IntKind.i64
  n30) ∧ ∃ (R31 : List Own), ∃ (Φ32 : PW), Stable Φ32 ∧ Ctx W w29 (R31 ++ R27) Φ32 ∧ ∀ (b : Nat) (w33 : World) (R34 : List Own), Ctx W w33 (R31 ++ R34) Φ32 → Calls Tryz.prog
  F.wire_Reader_Text #[Value.pointer (some (Addr.mk rB rO none))] w33 fun (e35 : Ending) (w36 : World) => ∃ (s37 : ByteArray), e35 = Ending.returned (Value.string s37) ∧ ∃ (R38 : List Own), ∃
  (Φ39 : PW), Stable Φ39 ∧ Ctx W w36 (R38 ++ R34) Φ39 ∧ ∀ (w40 : World) (R41 : List Own), Ctx W w40 (R38 ++ R41) Φ39 → Calls Tryz.prog F.value_ReadRow #[Value.string s37] w40 fun (e42 :
  Ending) (w43 : World) => ∃ (p44 : Option Addr), ∃ (k45 : Nat), ∃ (k46 : Nat), ∃ (c47 : Bool), e42 = Ending.returned (Value.tuple #[Value.slice p44 k45 k46, Value.bool c47]) ∧ ∃ (R48 : List
  Own), ∃ (Φ49 : PW), Stable Φ49 ∧ Ctx W w43 (R48 ++ R41) Φ49 ∧ Br (!c47) (∀ (w50 : World) (R51 : List Own), Ctx W w50 (R48 ++ R51) Φ49 → J (Value.tuple #[Value.slice none 0 0, Value.bool
  false]) w50) (∀ (w52 : World) (R53 : List Own), Ctx W w52 (R48 ++ R53) Φ49 → Calls Tryz.prog F.wire_Reader_Int #[Value.pointer (some (Addr.mk rB rO none))] w52 fun (e54 : Ending) (w55 :
  World) => ∃ (n56 : Int), e54 = Ending.returned (Value.int IntKind.i64 n56) ∧ ∃ (R57 : List Own), ∃ (Φ58 : PW), Stable Φ58 ∧ Ctx W w55 (R57 ++ R53) Φ58 ∧ ∀ (w59 : World) (R60 : List Own),
  Ctx W w59 (R57 ++ R60) Φ58 → Calls Tryz.prog F.wire_Reader_Int #[Value.pointer (some (Addr.mk rB rO none))] w59 fun (e61 : Ending) (w62 : World) => ∃ (n63 : Int), e61 = Ending.returned
  (Value.int IntKind.i64 n63) ∧ ∃ (R64 : List Own), ∃ (Φ65 : PW), Stable Φ65 ∧ Ctx W w62 (R64 ++ R60) Φ65 ∧ ∀ (w66 : World) (R67 : List Own), Ctx W w66 (R64 ++ R67) Φ65 → Calls Tryz.prog
  F.wire_Reader_Int #[Value.pointer (some (Addr.mk rB rO none))] w66 fun (e68 : Ending) (w69 : World) => ∃ (n70 : Int), e68 = Ending.returned (Value.int IntKind.i64 n70) ∧ ∃ (R71 : List Own),
  ∃ (Φ72 : PW), Stable Φ72 ∧ Ctx W w69 (R71 ++ R67) Φ72 ∧ ∀ (k73 : Nat) (w74 : World) (R75 : List Own), Ctx W w74 (Own.blk k73 [Value.int IntKind.i64 ((↑k14 : Int) + 1), Value.int IntKind.i64
  n23, Value.int IntKind.i64 n30, Value.slice p44 k45 k46, Value.int IntKind.i64 n56, Value.int IntKind.i64 n63, Value.int IntKind.i64 n70] 46 :: R71 ++ R75) Φ72 → ∃ (p76 : Option Addr), ∃
  (k77 : Nat), ∃ (k78 : Nat), ∃ (w79 : World), Sem.run Tryz.prog (builtin Builtin.append #[33, 33] 33 #[false, false] #[Value.slice p13 k14 k15, Value.slice (some (Addr.mk k73 0 none)) 1 1])
  w74 = Result.ok (Next.value (Value.slice p76 k77 k78)) w79 ∧ ∃ (R80 : List Own), ∃ (Φ81 : PW), Stable Φ81 ∧ Ctx W w79 (R80 ++ R75) Φ81 ∧ ∃ (R82 : List Own), ∃ (Φ83 : PW), ∃ (k84 : Nat),
  Stable Φ83 ∧ (∀ (w85 : World) (R86 : List Own), Ctx W w85 (R80 ++ R86) Φ81 → Ctx W w85 (R82 ++ R86) Φ83) ∧ I7 p76 k77 k78 R82 Φ83 k84 ∧ k84 < k18)) (∀ (w87 : World) (R88 : List Own), Ctx W
  w87 (R16 ++ R88) I17 → J (Value.tuple #[Value.slice p13 k14 k15, Value.bool true]) w87)

theorem Bsink_readLines_run (rB rO : Nat) {W w : World} {R : List Own} {Φ : PW} [Stable Φ] {J : Value → World → Prop} (c : Ctx W w R Φ) (h : Bsink_readLines rB rO W R Φ J) : Calls Tryz.prog F.sink_readLines #[.pointer (some ⟨rB, rO, none⟩)] w fun e w' => ∃ v, e = .returned v ∧ J v w' :=
  vcFS_sound (H := { keep := some [0, 2, 3, 4, 5, 6, 7, 8, 14, 30], track := [6], loops := [(3, [(4, .one (.slice))], [])] }) (by rw [show vcFS Tryz.prog W { keep := some [0, 2, 3, 4, 5, 6, 7, 8, 14, 30], track := [6], loops := [(3, [(4, .one (.slice))], [])] } F.sink_readLines #[.pointer (some ⟨rB, rO, none⟩)] R Φ J = Bsink_readLines rB rO W R Φ J by kernel_rfl]; exact h) c

/-- (*sink.Sink).look -/
-- loop at region 11: 53 ; blocks 
-- loop at region 4: 22 ; blocks 
-- known blocks: 11 x
def Bsink_Sink_look (sB sO : Nat) (batch : Int) (linesP : Option Addr) (linesN linesC : Nat) (W : World) (R : List Own) (Φ : PW) (J : Value → World → Prop) : Prop :=
  Br (decide (batch < 1)) (∀ (w0 : World) (R1 : List Own), Ctx W w0 (R ++ R1) Φ → J (Value.int IntKind.i64 25) w0) (∀ (w2 : World) (R3 : List Own), Ctx W w2 (R ++ R3) Φ → Calls Tryz.prog
  F.sink_Sink_Last #[Value.pointer (some (Addr.mk sB sO none))] w2 fun (e4 : Ending) (w5 : World) => ∃ (n6 : Int), e4 = Ending.returned (Value.int IntKind.i64 n6) ∧ ∃ (R7 : List Own), ∃ (Φ8 :
  PW), Stable Φ8 ∧ Ctx W w5 (R7 ++ R3) Φ8 ∧ Br (decide (batch ≤ n6)) (∀ (w9 : World) (R10 : List Own), Ctx W w9 (R7 ++ R10) Φ8 → J (Value.int IntKind.i64 25) w9) (exI fun (I11 : Int → List
  Own → PW → Nat → Prop) => (∃ (R12 : List Own), ∃ (Φ13 : PW), ∃ (k14 : Nat), Stable Φ13 ∧ (∀ (w15 : World) (R16 : List Own), Ctx W w15 (R7 ++ R16) Φ8 → Ctx W w15 (R12 ++ R16) Φ13) ∧ I11 0
  R12 Φ13 k14) ∧ ∀ (n17 : Int) (R18 : List Own) (I19 : List Nat → World → Prop) (k20 : Nat), Stable I19 → I11 n17 R18 I19 k20 → Br (decide (n17 < (↑linesN : Int))) ((0 ≤ n17 ∧ n17 < (↑linesN
  : Int)) ∧ ptrK none linesP fun (k21 k22 : Nat) => ∀ (w23 : World) (R24 : List Own), Ctx W w23 (R18 ++ R24) I19 → ∃ (n25 : Int), ∃ (n26 : Int), ∃ (n27 : Int), ∃ (p28 : Option Addr), ∃ (k29 :
  Nat), ∃ (k30 : Nat), ∃ (n31 : Int), ∃ (n32 : Int), ∃ (n33 : Int), RowAt w23 k21 (k22 + n17.toNat * 7) [Value.int IntKind.i64 n25, Value.int IntKind.i64 n26, Value.int IntKind.i64 n27,
  Value.slice p28 k29 k30, Value.int IntKind.i64 n31, Value.int IntKind.i64 n32, Value.int IntKind.i64 n33] ∧ ∀ (k34 : Nat) (w35 : World) (R36 : List Own), Ctx W w35 (Own.blk k34 [Value.int
  IntKind.i64 0, Value.int IntKind.i64 0, Value.int IntKind.i64 0, Value.slice none 0 0, Value.int IntKind.i64 0, Value.int IntKind.i64 0, Value.int IntKind.i64 0] 46 :: R18 ++ R36) I19 →
  CanWrite w35 k34 0 7 ∧ ∀ (w37 : World), w37 = w35.setCells k34 0 [Value.int IntKind.i64 n25, Value.int IntKind.i64 n26, Value.int IntKind.i64 n27, Value.slice p28 k29 k30, Value.int
  IntKind.i64 n31, Value.int IntKind.i64 n32, Value.int IntKind.i64 n33] → ∃ (R38 : List Own), ∃ (Φ39 : PW), Stable Φ39 ∧ Ctx W w37 (R38 ++ R36) Φ39 ∧ ∀ (w40 : World) (R41 : List Own), Ctx W
  w40 (R38 ++ R41) Φ39 → ∃ (p42 : Option Addr), ∃ (k43 : Nat), ∃ (k44 : Nat), w40.cell? (Addr.mk sB (sO + 1) none) = some (Value.slice p42 k43 k44) ∧ ∀ (w45 : World) (R46 : List Own), Ctx W
  w45 (R38 ++ R46) Φ39 → Calls Tryz.prog F.slices_ContainsFunc_int_int #[Value.slice p42 k43 k44, Value.func (Fn.func 84) #[] #[Value.pointer (some (Addr.mk k34 0 none))]] w45 fun (e47 :
  Ending) (w48 : World) => ∃ (c49 : Bool), e47 = Ending.returned (Value.bool c49) ∧ ∃ (R50 : List Own), ∃ (Φ51 : PW), Stable Φ51 ∧ Ctx W w48 (R50 ++ R46) Φ51 ∧ ∀ (w52 : World) (R53 : List
  Own), Ctx W w52 (R50 ++ R53) Φ51 → ∃ (n54 : Int), w52.cell? (Addr.mk k34 1 none) = some (Value.int IntKind.i64 n54) ∧ Br (decide (n54 ≠ batch)) (∀ (w55 : World) (R56 : List Own), Ctx W w55
  (R50 ++ R56) Φ51 → J (Value.int IntKind.i64 1) w55) (∀ (w57 : World) (R58 : List Own), Ctx W w57 (R50 ++ R58) Φ51 → ∃ (n59 : Int), w57.cell? (Addr.mk k34 4 none) = some (Value.int
  IntKind.i64 n59) ∧ Br (decide (n59 = 0)) (∀ (w60 : World) (R61 : List Own), Ctx W w60 (R50 ++ R61) Φ51 → J (Value.int IntKind.i64 1) w60) (∀ (w62 : World) (R63 : List Own), Ctx W w62 (R50
  ++ R63) Φ51 → ∃ (p64 : Option Addr), ∃ (k65 : Nat), ∃ (k66 : Nat), w62.cell? (Addr.mk k34 3 none) = some (Value.slice p64 k65 k66) ∧ ∀ (w67 : World) (R68 : List Own), Ctx W w67 (R50 ++ R68)
  Φ51 → Calls Tryz.prog F.value_RightRow #[Value.slice p64 k65 k66] w67 fun (e69 : Ending) (w70 : World) => ∃ (c71 : Bool), e69 = Ending.returned (Value.bool c71) ∧ ∃ (R72 : List Own), ∃ (Φ73
  : PW), Stable Φ73 ∧ Ctx W w70 (R72 ++ R68) Φ73 ∧ Br (!c71) (∀ (w74 : World) (R75 : List Own), Ctx W w74 (R72 ++ R75) Φ73 → J (Value.int IntKind.i64 1) w74) (Br c49 (∀ (w76 : World) (R77 :
  List Own), Ctx W w76 (R72 ++ R77) Φ73 → J (Value.int IntKind.i64 1) w76) (I64 (n17 + 1) ∧ ∃ (R78 : List Own), ∃ (Φ79 : PW), ∃ (k80 : Nat), Stable Φ79 ∧ (∀ (w81 : World) (R82 : List Own),
  Ctx W w81 (R72 ++ R82) Φ73 → Ctx W w81 (R78 ++ R82) Φ79) ∧ I11 (n17 + 1) R78 Φ79 k80 ∧ k80 < k20))))) (exI fun (I83 : Int → List Own → PW → Nat → Prop) => (∃ (R84 : List Own), ∃ (Φ85 : PW),
  ∃ (k86 : Nat), Stable Φ85 ∧ (∀ (w87 : World) (R88 : List Own), Ctx W w87 (R18 ++ R88) I19 → Ctx W w87 (R84 ++ R88) Φ85) ∧ I83 0 R84 Φ85 k86) ∧ ∀ (n89 : Int) (R90 : List Own) (I91 : List Nat
  → World → Prop) (k92 : Nat), Stable I91 → I83 n89 R90 I91 k92 → Br (decide (n89 < (↑linesN : Int))) ((0 ≤ n89 ∧ n89 < (↑linesN : Int)) ∧ ptrK none linesP fun (k93 k94 : Nat) => ∀ (w95 :
  World) (R96 : List Own), Ctx W w95 (R90 ++ R96) I91 → ∃ (n97 : Int), ∃ (n98 : Int), ∃ (n99 : Int), ∃ (p100 : Option Addr), ∃ (k101 : Nat), ∃ (k102 : Nat), ∃ (n103 : Int), ∃ (n104 : Int), ∃
  (n105 : Int), RowAt w95 k93 (k94 + n89.toNat * 7) [Value.int IntKind.i64 n97, Value.int IntKind.i64 n98, Value.int IntKind.i64 n99, Value.slice p100 k101 k102, Value.int IntKind.i64 n103,
  Value.int IntKind.i64 n104, Value.int IntKind.i64 n105] ∧ ∀ (b : Nat) (w106 : World) (R107 : List Own), Ctx W w106 (R90 ++ R107) I91 → ∃ (p108 : Option Addr), ∃ (k109 : Nat), ∃ (k110 :
  Nat), w106.cell? (Addr.mk sB (sO + 3) none) = some (Value.slice p108 k109 k110) ∧ I64 ((↑k109 : Int) + 1) ∧ I64 ((↑k109 : Int) + 1 + n89) ∧ Br (decide (n97 ≠ (↑k109 : Int) + 1 + n89)) (∀
  (w111 : World) (R112 : List Own), Ctx W w111 (R90 ++ R112) I91 → J (Value.int IntKind.i64 25) w111) (I64 (n89 + 1) ∧ ∃ (R113 : List Own), ∃ (Φ114 : PW), ∃ (k115 : Nat), Stable Φ114 ∧ (∀
  (w116 : World) (R117 : List Own), Ctx W w116 (R90 ++ R117) I91 → Ctx W w116 (R113 ++ R117) Φ114) ∧ I83 (n89 + 1) R113 Φ114 k115 ∧ k115 < k92)) (∀ (w118 : World) (R119 : List Own), Ctx W
  w118 (R90 ++ R119) I91 → J (Value.int IntKind.i64 0) w118))))

theorem Bsink_Sink_look_run (sB sO : Nat) (batch : Int) (linesP : Option Addr) (linesN linesC : Nat) {W w : World} {R : List Own} {Φ : PW} [Stable Φ] {J : Value → World → Prop} (c : Ctx W w R Φ) (h : Bsink_Sink_look sB sO batch linesP linesN linesC W R Φ J) : Calls Tryz.prog F.sink_Sink_look #[.pointer (some ⟨sB, sO, none⟩), .int .i64 batch, .slice linesP linesN linesC] w fun e w' => ∃ v, e = .returned v ∧ J v w' :=
  vcFS_sound (H := { keep := some [0, 1, 2, 6, 8, 9, 10, 11, 19, 20, 21, 22, 23, 49, 51, 52, 53, 54, 68], track := [11], split := [1, 7], loops := [(11, [(53, .one (.int .i64))], []), (4, [(22, .one (.int .i64))], [])] }) (by rw [show vcFS Tryz.prog W { keep := some [0, 1, 2, 6, 8, 9, 10, 11, 19, 20, 21, 22, 23, 49, 51, 52, 53, 54, 68], track := [11], split := [1, 7], loops := [(11, [(53, .one (.int .i64))], []), (4, [(22, .one (.int .i64))], [])] } F.sink_Sink_look #[.pointer (some ⟨sB, sO, none⟩), .int .i64 batch, .slice linesP linesN linesC] R Φ J = Bsink_Sink_look sB sO batch linesP linesN linesC W R Φ J by kernel_rfl]; exact h) c

/-- (*sink.Sink).take -/
def Bsink_Sink_take (sB sO : Nat) (batch : Int) (linesP : Option Addr) (linesN linesC : Nat) (W : World) (R : List Own) (Φ : PW) (J : Value → World → Prop) : Prop :=
  ∀ (w0 : World) (R1 : List Own), Ctx W w0 (R ++ R1) Φ → ∃ (p2 : Option Addr), ∃ (k3 : Nat), ∃ (k4 : Nat), w0.cell? (Addr.mk sB (sO + 2) none) = some (Value.slice p2 k3 k4) ∧ ∀ (k5 : Nat) (w6
  : World) (R7 : List Own), Ctx W w6 (Own.blk k5 [Value.int IntKind.i64 batch] 3 :: R ++ R7) Φ → ∃ (p8 : Option Addr), ∃ (k9 : Nat), ∃ (k10 : Nat), ∃ (w11 : World), Sem.run Tryz.prog (builtin
  Builtin.append #[50, 50] 50 #[false, false] #[Value.slice p2 k3 k4, Value.slice (some (Addr.mk k5 0 none)) 1 1]) w6 = Result.ok (Next.value (Value.slice p8 k9 k10)) w11 ∧ ∃ (R12 : List
  Own), ∃ (Φ13 : PW), Stable Φ13 ∧ Ctx W w11 (R12 ++ R7) Φ13 ∧ ∀ (w14 : World) (R15 : List Own), Ctx W w14 (R12 ++ R15) Φ13 → CanWrite w14 sB (sO + 2) 1 ∧ ∀ (w16 : World), w16 = w14.setCell
  (Addr.mk sB (sO + 2) none) (Value.slice p8 k9 k10) → ∃ (R17 : List Own), ∃ (Φ18 : PW), Stable Φ18 ∧ Ctx W w16 (R17 ++ R15) Φ18 ∧ ∀ (w19 : World) (R20 : List Own), Ctx W w19 (R17 ++ R20) Φ18
  → ∃ (p21 : Option Addr), ∃ (k22 : Nat), ∃ (k23 : Nat), w19.cell? (Addr.mk sB (sO + 3) none) = some (Value.slice p21 k22 k23) ∧ ∀ (w24 : World) (R25 : List Own), Ctx W w24 (R17 ++ R25) Φ18 →
  ∃ (p26 : Option Addr), ∃ (k27 : Nat), ∃ (k28 : Nat), ∃ (w29 : World), Sem.run Tryz.prog (builtin Builtin.append #[33, 33] 33 #[false, false] #[Value.slice p21 k22 k23, Value.slice linesP
  linesN linesC]) w24 = Result.ok (Next.value (Value.slice p26 k27 k28)) w29 ∧ ∃ (R30 : List Own), ∃ (Φ31 : PW), Stable Φ31 ∧ Ctx W w29 (R30 ++ R25) Φ31 ∧ ∀ (w32 : World) (R33 : List Own),
  Ctx W w32 (R30 ++ R33) Φ31 → CanWrite w32 sB (sO + 3) 1 ∧ ∀ (w34 : World), w34 = w32.setCell (Addr.mk sB (sO + 3) none) (Value.slice p26 k27 k28) → ∃ (R35 : List Own), ∃ (Φ36 : PW), Stable
  Φ36 ∧ Ctx W w34 (R35 ++ R33) Φ36 ∧ ∀ (w37 : World) (R38 : List Own), Ctx W w37 (R35 ++ R38) Φ36 → J (Value.tuple #[]) w37

theorem Bsink_Sink_take_run (sB sO : Nat) (batch : Int) (linesP : Option Addr) (linesN linesC : Nat) {W w : World} {R : List Own} {Φ : PW} [Stable Φ] {J : Value → World → Prop} (c : Ctx W w R Φ) (h : Bsink_Sink_take sB sO batch linesP linesN linesC W R Φ J) : Calls Tryz.prog F.sink_Sink_take #[.pointer (some ⟨sB, sO, none⟩), .int .i64 batch, .slice linesP linesN linesC] w fun e w' => ∃ v, e = .returned v ∧ J v w' :=
  vcFS_sound (H := { keep := some [0, 2] }) (by rw [show vcFS Tryz.prog W { keep := some [0, 2] } F.sink_Sink_take #[.pointer (some ⟨sB, sO, none⟩), .int .i64 batch, .slice linesP linesN linesC] R Φ J = Bsink_Sink_take sB sO batch linesP linesN linesC W R Φ J by kernel_rfl]; exact h) c

/-- (*sink.Sink).Prepare -/
def Bsink_Sink_Prepare (sB sO : Nat) (batch : Int) (linesP : Option Addr) (linesN linesC : Nat) (W : World) (R : List Own) (Φ : PW) (J : Value → World → Prop) : Prop :=
  ∀ (w0 : World) (R1 : List Own), Ctx W w0 (R ++ R1) Φ → ∃ (n2 : Int), w0.cell? (Addr.mk sB sO none) = some (Value.int IntKind.i64 n2) ∧ Br (decide (n2 ≠ 0)) (∀ (w3 : World) (R4 : List Own),
  Ctx W w3 (R ++ R4) Φ → J (Value.int IntKind.i64 7) w3) (∀ (w5 : World) (R6 : List Own), Ctx W w5 (R ++ R6) Φ → Calls Tryz.prog F.sink_Sink_Has #[Value.pointer (some (Addr.mk sB sO none)),
  Value.int IntKind.i64 batch] w5 fun (e7 : Ending) (w8 : World) => ∃ (c9 : Bool), e7 = Ending.returned (Value.bool c9) ∧ ∃ (R10 : List Own), ∃ (Φ11 : PW), Stable Φ11 ∧ Ctx W w8 (R10 ++ R6)
  Φ11 ∧ Br c9 (∀ (w12 : World) (R13 : List Own), Ctx W w12 (R10 ++ R13) Φ11 → J (Value.int IntKind.i64 0) w12) (∀ (w14 : World) (R15 : List Own), Ctx W w14 (R10 ++ R15) Φ11 → Calls Tryz.prog
  F.sink_Sink_look #[Value.pointer (some (Addr.mk sB sO none)), Value.int IntKind.i64 batch, Value.slice linesP linesN linesC] w14 fun (e16 : Ending) (w17 : World) => ∃ (n18 : Int), e16 =
  Ending.returned (Value.int IntKind.i64 n18) ∧ ∃ (R19 : List Own), ∃ (Φ20 : PW), Stable Φ20 ∧ Ctx W w17 (R19 ++ R15) Φ20 ∧ Br (decide (n18 ≠ 0)) (∀ (w21 : World) (R22 : List Own), Ctx W w21
  (R19 ++ R22) Φ20 → J (Value.int IntKind.i64 n18) w21) (∀ (w23 : World) (R24 : List Own), Ctx W w23 (R19 ++ R24) Φ20 → Calls Tryz.prog F.sink_clone #[Value.slice linesP linesN linesC] w23
  fun (e25 : Ending) (w26 : World) => ∃ (p27 : Option Addr), ∃ (k28 : Nat), ∃ (k29 : Nat), e25 = Ending.returned (Value.slice p27 k28 k29) ∧ ∃ (R30 : List Own), ∃ (Φ31 : PW), Stable Φ31 ∧ Ctx
  W w26 (R30 ++ R24) Φ31 ∧ ∀ (w32 : World) (R33 : List Own), Ctx W w32 (R30 ++ R33) Φ31 → CanWrite w32 sB (sO + 4) 1 ∧ ∀ (w34 : World), w34 = w32.setCell (Addr.mk sB (sO + 4) none) (Value.int
  IntKind.i64 batch) → ∃ (R35 : List Own), ∃ (Φ36 : PW), Stable Φ36 ∧ Ctx W w34 (R35 ++ R33) Φ36 ∧ ∀ (w37 : World) (R38 : List Own), Ctx W w37 (R35 ++ R38) Φ36 → CanWrite w37 sB (sO + 5) 1 ∧
  ∀ (w39 : World), w39 = w37.setCell (Addr.mk sB (sO + 5) none) (Value.slice p27 k28 k29) → ∃ (R40 : List Own), ∃ (Φ41 : PW), Stable Φ41 ∧ Ctx W w39 (R40 ++ R38) Φ41 ∧ ∀ (w42 : World) (R43 :
  List Own), Ctx W w42 (R40 ++ R43) Φ41 → J (Value.int IntKind.i64 0) w42)))

theorem Bsink_Sink_Prepare_run (sB sO : Nat) (batch : Int) (linesP : Option Addr) (linesN linesC : Nat) {W w : World} {R : List Own} {Φ : PW} [Stable Φ] {J : Value → World → Prop} (c : Ctx W w R Φ) (h : Bsink_Sink_Prepare sB sO batch linesP linesN linesC W R Φ J) : Calls Tryz.prog F.sink_Sink_Prepare #[.pointer (some ⟨sB, sO, none⟩), .int .i64 batch, .slice linesP linesN linesC] w fun e w' => ∃ v, e = .returned v ∧ J v w' :=
  vcFS_sound (H := { keep := some [0, 1, 2, 6, 7, 8, 14, 23] }) (by rw [show vcFS Tryz.prog W { keep := some [0, 1, 2, 6, 7, 8, 14, 23] } F.sink_Sink_Prepare #[.pointer (some ⟨sB, sO, none⟩), .int .i64 batch, .slice linesP linesN linesC] R Φ J = Bsink_Sink_Prepare sB sO batch linesP linesN linesC W R Φ J by kernel_rfl]; exact h) c

/-- slices.Clone[[]int,int] -/
def Bslices_Clone_int_int (sP : Option Addr) (sN sC : Nat) (W : World) (R : List Own) (Φ : PW) (J : Value → World → Prop) : Prop :=
  Br sP.isNone (∀ (w0 : World) (R1 : List Own), Ctx W w0 (R ++ R1) Φ → J (Value.slice none 0 0) w0) (∀ (k2 : Nat) (w3 : World) (R4 : List Own), Ctx W w3 (Own.blk k2 [] 3 :: R ++ R4) Φ → ∃ (p5
  : Option Addr), ∃ (k6 : Nat), ∃ (k7 : Nat), ∃ (w8 : World), Sem.run Tryz.prog (builtin Builtin.append #[50, 50] 50 #[false, false] #[Value.slice (some (Addr.mk k2 0 none)) 0 0, Value.slice
  sP sN sC]) w3 = Result.ok (Next.value (Value.slice p5 k6 k7)) w8 ∧ ∃ (R9 : List Own), ∃ (Φ10 : PW), Stable Φ10 ∧ Ctx W w8 (R9 ++ R4) Φ10 ∧ ∀ (w11 : World) (R12 : List Own), Ctx W w11 (R9 ++
  R12) Φ10 → J (Value.slice p5 k6 k7) w11)

theorem Bslices_Clone_int_int_run (sP : Option Addr) (sN sC : Nat) {W w : World} {R : List Own} {Φ : PW} [Stable Φ] {J : Value → World → Prop} (c : Ctx W w R Φ) (h : Bslices_Clone_int_int sP sN sC W R Φ J) : Calls Tryz.prog F.slices_Clone_int_int #[.slice sP sN sC] w fun e w' => ∃ v, e = .returned v ∧ J v w' :=
  vcFS_sound (H := { keep := some [0, 2, 4] }) (by rw [show vcFS Tryz.prog W { keep := some [0, 2, 4] } F.slices_Clone_int_int #[.slice sP sN sC] R Φ J = Bslices_Clone_int_int sP sN sC W R Φ J by kernel_rfl]; exact h) c

/-- slices.Clone[[]api.Line,api.Line] -/
def Bslices_Clone_api_Line_api_Line (sP : Option Addr) (sN sC : Nat) (W : World) (R : List Own) (Φ : PW) (J : Value → World → Prop) : Prop :=
  Br sP.isNone (∀ (w0 : World) (R1 : List Own), Ctx W w0 (R ++ R1) Φ → J (Value.slice none 0 0) w0) (∀ (k2 : Nat) (w3 : World) (R4 : List Own), Ctx W w3 (Own.blk k2 [] 46 :: R ++ R4) Φ → ∃
  (p5 : Option Addr), ∃ (k6 : Nat), ∃ (k7 : Nat), ∃ (w8 : World), Sem.run Tryz.prog (builtin Builtin.append #[33, 33] 33 #[false, false] #[Value.slice (some (Addr.mk k2 0 none)) 0 0,
  Value.slice sP sN sC]) w3 = Result.ok (Next.value (Value.slice p5 k6 k7)) w8 ∧ ∃ (R9 : List Own), ∃ (Φ10 : PW), Stable Φ10 ∧ Ctx W w8 (R9 ++ R4) Φ10 ∧ ∀ (w11 : World) (R12 : List Own), Ctx
  W w11 (R9 ++ R12) Φ10 → J (Value.slice p5 k6 k7) w11)

theorem Bslices_Clone_api_Line_api_Line_run (sP : Option Addr) (sN sC : Nat) {W w : World} {R : List Own} {Φ : PW} [Stable Φ] {J : Value → World → Prop} (c : Ctx W w R Φ) (h : Bslices_Clone_api_Line_api_Line sP sN sC W R Φ J) : Calls Tryz.prog F.slices_Clone_api_Line_api_Line #[.slice sP sN sC] w fun e w' => ∃ v, e = .returned v ∧ J v w' :=
  vcFS_sound (H := { keep := some [0, 2, 4] }) (by rw [show vcFS Tryz.prog W { keep := some [0, 2, 4] } F.slices_Clone_api_Line_api_Line #[.slice sP sN sC] R Φ J = Bslices_Clone_api_Line_api_Line sP sN sC W R Φ J by kernel_rfl]; exact h) c

/-- sink.linesBytes -/
-- loop at region 4: 12 ; blocks 
-- known blocks: 5 x
def Bsink_linesBytes (lP : Option Addr) (lN lC : Nat) (W : World) (R : List Own) (Φ : PW) (J : Value → World → Prop) : Prop :=
  ∀ (k0 : Nat) (w1 : World) (R2 : List Own), Ctx W w1 (Own.blk k0 [Value.pointer none, Value.slice none 0 0] 111 :: R ++ R2) Φ → Calls Tryz.prog F.wire_Num #[Value.int IntKind.i64 (↑lN :
  Int)] w1 fun (e3 : Ending) (w4 : World) => ∃ (s5 : ByteArray), e3 = Ending.returned (Value.string s5) ∧ ∃ (R6 : List Own), ∃ (Φ7 : PW), Stable Φ7 ∧ Ctx W w4 (R6 ++ R2) Φ7 ∧ ∀ (w8 : World)
  (R9 : List Own), Ctx W w8 (R6 ++ R9) Φ7 → Calls Tryz.prog F.strings_Builder_WriteString #[Value.pointer (some (Addr.mk k0 0 none)), Value.string s5] w8 fun (e10 : Ending) (w11 : World) => ∃
  (n12 : Int), ∃ (v13 : Value), e10 = Ending.returned (Value.tuple #[Value.int IntKind.i64 n12, v13]) ∧ ∃ (R14 : List Own), ∃ (Φ15 : PW), Stable Φ15 ∧ Ctx W w11 (R14 ++ R9) Φ15 ∧ exI fun (I16
  : Int → List Own → PW → Nat → Prop) => (∃ (R17 : List Own), ∃ (Φ18 : PW), ∃ (k19 : Nat), Stable Φ18 ∧ (∀ (w20 : World) (R21 : List Own), Ctx W w20 (R14 ++ R21) Φ15 → Ctx W w20 (R17 ++ R21)
  Φ18) ∧ I16 0 R17 Φ18 k19) ∧ ∀ (n22 : Int) (R23 : List Own) (I24 : List Nat → World → Prop) (k25 : Nat), Stable I24 → I16 n22 R23 I24 k25 → Br (decide (n22 < (↑lN : Int))) ((0 ≤ n22 ∧ n22 <
  (↑lN : Int)) ∧ ptrK none lP fun (k26 k27 : Nat) => ∀ (w28 : World) (R29 : List Own), Ctx W w28 (R23 ++ R29) I24 → ∃ (n30 : Int), ∃ (n31 : Int), ∃ (n32 : Int), ∃ (p33 : Option Addr), ∃ (k34
  : Nat), ∃ (k35 : Nat), ∃ (n36 : Int), ∃ (n37 : Int), ∃ (n38 : Int), RowAt w28 k26 (k27 + n22.toNat * 7) [Value.int IntKind.i64 n30, Value.int IntKind.i64 n31, Value.int IntKind.i64 n32,
  Value.slice p33 k34 k35, Value.int IntKind.i64 n36, Value.int IntKind.i64 n37, Value.int IntKind.i64 n38] ∧ ∀ (b : Nat), ∃ (R39 : List Own), ∃ (Φ40 : PW), Stable Φ40 ∧ (∀ (w41 : World) (R42
  : List Own), Ctx W w41 (R23 ++ R42) I24 → Ctx W w41 (R39 ++ R42) Φ40) ∧ ∀ (w43 : World) (R44 : List Own), Ctx W w43 (R23 ++ R44) I24 → Calls Tryz.prog F.wire_Int #[Value.int IntKind.i64
  n31] w43 fun (e45 : Ending) (w46 : World) => ∃ (s47 : ByteArray), e45 = Ending.returned (Value.string s47) ∧ ∃ (R48 : List Own), ∃ (Φ49 : PW), Stable Φ49 ∧ Ctx W w46 (R48 ++ R44) Φ49 ∧ (∀
  (w50 : World) (R51 : List Own), Ctx W w50 (R48 ++ R51) Φ49 → Ctx W w50 (R39 ++ R51) Φ40) ∧ ∀ (w52 : World) (R53 : List Own), Ctx W w52 (R48 ++ R53) Φ49 → Calls Tryz.prog F.wire_Int
  #[Value.int IntKind.i64 n32] w52 fun (e54 : Ending) (w55 : World) => ∃ (s56 : ByteArray), e54 = Ending.returned (Value.string s56) ∧ ∃ (R57 : List Own), ∃ (Φ58 : PW), Stable Φ58 ∧ Ctx W w55
  (R57 ++ R53) Φ58 ∧ (∀ (w59 : World) (R60 : List Own), Ctx W w59 (R57 ++ R60) Φ58 → Ctx W w59 (R39 ++ R60) Φ40) ∧ (s47.size + s56.size).le 9223372036854775807 ∧ ∀ (w61 : World) (R62 : List
  Own), Ctx W w61 (R57 ++ R62) Φ58 → Calls Tryz.prog F.value_RowBytes #[Value.slice p33 k34 k35] w61 fun (e63 : Ending) (w64 : World) => ∃ (s65 : ByteArray), e63 = Ending.returned
  (Value.string s65) ∧ ∃ (R66 : List Own), ∃ (Φ67 : PW), Stable Φ67 ∧ Ctx W w64 (R66 ++ R62) Φ67 ∧ (∀ (w68 : World) (R69 : List Own), Ctx W w68 (R66 ++ R69) Φ67 → Ctx W w68 (R39 ++ R69) Φ40)
  ∧ ∀ (w70 : World) (R71 : List Own), Ctx W w70 (R66 ++ R71) Φ67 → Calls Tryz.prog F.wire_Text #[Value.string s65] w70 fun (e72 : Ending) (w73 : World) => ∃ (s74 : ByteArray), e72 =
  Ending.returned (Value.string s74) ∧ ∃ (R75 : List Own), ∃ (Φ76 : PW), Stable Φ76 ∧ Ctx W w73 (R75 ++ R71) Φ76 ∧ (∀ (w77 : World) (R78 : List Own), Ctx W w77 (R75 ++ R78) Φ76 → Ctx W w77
  (R39 ++ R78) Φ40) ∧ ((s47 ++ s56).size + s74.size).le 9223372036854775807 ∧ ∀ (w79 : World) (R80 : List Own), Ctx W w79 (R75 ++ R80) Φ76 → Calls Tryz.prog F.wire_Int #[Value.int IntKind.i64
  n36] w79 fun (e81 : Ending) (w82 : World) => ∃ (s83 : ByteArray), e81 = Ending.returned (Value.string s83) ∧ ∃ (R84 : List Own), ∃ (Φ85 : PW), Stable Φ85 ∧ Ctx W w82 (R84 ++ R80) Φ85 ∧ (∀
  (w86 : World) (R87 : List Own), Ctx W w86 (R84 ++ R87) Φ85 → Ctx W w86 (R39 ++ R87) Φ40) ∧ ((s47 ++ s56 ++ s74).size + s83.size).le 9223372036854775807 ∧ ∀ (w88 : World) (R89 : List Own),
  Ctx W w88 (R84 ++ R89) Φ85 → Calls Tryz.prog F.wire_Int #[Value.int IntKind.i64 n37] w88 fun (e90 : Ending) (w91 : World) => ∃ (s92 : ByteArray), e90 = Ending.returned (Value.string s92) ∧
  ∃ (R93 : List Own), ∃ (Φ94 : PW), Stable Φ94 ∧ Ctx W w91 (R93 ++ R89) Φ94 ∧ (∀ (w95 : World) (R96 : List Own), Ctx W w95 (R93 ++ R96) Φ94 → Ctx W w95 (R39 ++ R96) Φ40) ∧ ((s47 ++ s56 ++ s74
  ++ s83).size + s92.size).le 9223372036854775807 ∧ ∀ (w97 : World) (R98 : List Own), Ctx W w97 (R93 ++ R98) Φ94 → Calls Tryz.prog F.wire_Int #[Value.int IntKind.i64 n38] w97 fun (e99 :
  Ending) (w100 : World) => ∃ (s101 : ByteArray), e99 = Ending.returned (Value.string s101) ∧ ∃ (R102 : List Own), ∃ (Φ103 : PW), Stable Φ103 ∧ Ctx W w100 (R102 ++ R98) Φ103 ∧ (∀ (w104 :
  World) (R105 : List Own), Ctx W w104 (R102 ++ R105) Φ103 → Ctx W w104 (R39 ++ R105) Φ40) ∧ ((s47 ++ s56 ++ s74 ++ s83 ++ s92).size + s101.size).le 9223372036854775807 ∧ ∀ (w106 : World)
  (R107 : List Own), Ctx W w106 (R102 ++ R107) Φ103 → Calls Tryz.prog F.strings_Builder_WriteString #[Value.pointer (some (Addr.mk k0 0 none)), Value.string (s47 ++ s56 ++ s74 ++ s83 ++ s92
  ++ s101)] w106 fun (e108 : Ending) (w109 : World) => ∃ (n110 : Int), ∃ (v111 : Value), e108 = Ending.returned (Value.tuple #[Value.int IntKind.i64 n110, v111]) ∧ ∃ (R112 : List Own), ∃
  (Φ113 : PW), Stable Φ113 ∧ Ctx W w109 (R112 ++ R107) Φ113 ∧ I64 (n22 + 1) ∧ ∃ (R114 : List Own), ∃ (Φ115 : PW), ∃ (k116 : Nat), Stable Φ115 ∧ (∀ (w117 : World) (R118 : List Own), Ctx W w117
  (R112 ++ R118) Φ113 → Ctx W w117 (R114 ++ R118) Φ115) ∧ I16 (n22 + 1) R114 Φ115 k116 ∧ k116 < k25) (∀ (w119 : World) (R120 : List Own), Ctx W w119 (R23 ++ R120) I24 → Calls Tryz.prog
  F.strings_Builder_String #[Value.pointer (some (Addr.mk k0 0 none))] w119 fun (e121 : Ending) (w122 : World) => ∃ (s123 : ByteArray), e121 = Ending.returned (Value.string s123) ∧ ∃ (R124 :
  List Own), ∃ (Φ125 : PW), Stable Φ125 ∧ Ctx W w122 (R124 ++ R120) Φ125 ∧ ∀ (w126 : World) (R127 : List Own), Ctx W w126 (R124 ++ R127) Φ125 → J (Value.string s123) w126)

theorem Bsink_linesBytes_run (lP : Option Addr) (lN lC : Nat) {W w : World} {R : List Own} {Φ : PW} [Stable Φ] {J : Value → World → Prop} (c : Ctx W w R Φ) (h : Bsink_linesBytes lP lN lC W R Φ J) : Calls Tryz.prog F.sink_linesBytes #[.slice lP lN lC] w fun e w' => ∃ v, e = .returned v ∧ J v w' :=
  vcFS_sound (H := { keep := some [0, 2, 3, 5, 10, 11, 12, 13], track := [5], stages := [(6, [.held [(0, true), (3, true), (7, true), (12, true), (16, true), (20, true), (1, true), (4, true), (8, true), (13, true), (17, true), (21, true), (2, false), (5, false), (6, true), (9, false), (10, false), (11, true), (14, false), (15, true), (18, false), (19, true), (22, false)], .stage [23] (some 24)])], loops := [(4, [(12, .one (.int .i64))], [])] }) (by rw [show vcFS Tryz.prog W { keep := some [0, 2, 3, 5, 10, 11, 12, 13], track := [5], stages := [(6, [.held [(0, true), (3, true), (7, true), (12, true), (16, true), (20, true), (1, true), (4, true), (8, true), (13, true), (17, true), (21, true), (2, false), (5, false), (6, true), (9, false), (10, false), (11, true), (14, false), (15, true), (18, false), (19, true), (22, false)], .stage [23] (some 24)])], loops := [(4, [(12, .one (.int .i64))], [])] } F.sink_linesBytes #[.slice lP lN lC] R Φ J = Bsink_linesBytes lP lN lC W R Φ J by kernel_rfl]; exact h) c

/-- (*sink.Sink).Commit -/
def Bsink_Sink_Commit (sB sO : Nat) (batch : Int) (W : World) (R : List Own) (Φ : PW) (J : Value → World → Prop) : Prop :=
  ∀ (w0 : World) (R1 : List Own), Ctx W w0 (R ++ R1) Φ → ∃ (n2 : Int), w0.cell? (Addr.mk sB sO none) = some (Value.int IntKind.i64 n2) ∧ Br (decide (n2 ≠ 0)) (∀ (w3 : World) (R4 : List Own),
  Ctx W w3 (R ++ R4) Φ → J (Value.int IntKind.i64 7) w3) (∀ (w5 : World) (R6 : List Own), Ctx W w5 (R ++ R6) Φ → Calls Tryz.prog F.sink_Sink_Has #[Value.pointer (some (Addr.mk sB sO none)),
  Value.int IntKind.i64 batch] w5 fun (e7 : Ending) (w8 : World) => ∃ (c9 : Bool), e7 = Ending.returned (Value.bool c9) ∧ ∃ (R10 : List Own), ∃ (Φ11 : PW), Stable Φ11 ∧ Ctx W w8 (R10 ++ R6)
  Φ11 ∧ Br c9 (∀ (w12 : World) (R13 : List Own), Ctx W w12 (R10 ++ R13) Φ11 → J (Value.int IntKind.i64 0) w12) (∀ (w14 : World) (R15 : List Own), Ctx W w14 (R10 ++ R15) Φ11 → ∃ (n16 : Int),
  ((!decide (batch < 1)) = true → w14.cell? (Addr.mk sB (sO + 4) none) = some (Value.int IntKind.i64 n16)) ∧ Br (decide (batch < 1) || decide (batch ≠ n16)) (∀ (w17 : World) (R18 : List Own),
  Ctx W w17 (R10 ++ R18) Φ11 → J (Value.int IntKind.i64 4) w17) (∀ (w19 : World) (R20 : List Own), Ctx W w19 (R10 ++ R20) Φ11 → ∃ (p21 : Option Addr), ∃ (k22 : Nat), ∃ (k23 : Nat), w19.cell?
  (Addr.mk sB (sO + 5) none) = some (Value.slice p21 k22 k23) ∧ ∀ (w24 : World) (R25 : List Own), Ctx W w24 (R10 ++ R25) Φ11 → Calls Tryz.prog F.sink_Sink_take #[Value.pointer (some (Addr.mk
  sB sO none)), Value.int IntKind.i64 batch, Value.slice p21 k22 k23] w24 fun (e26 : Ending) (w27 : World) => e26 = Ending.returned (Value.tuple #[]) ∧ ∃ (R28 : List Own), ∃ (Φ29 : PW),
  Stable Φ29 ∧ Ctx W w27 (R28 ++ R25) Φ29 ∧ ∀ (w30 : World) (R31 : List Own), Ctx W w30 (R28 ++ R31) Φ29 → CanWrite w30 sB (sO + 4) 1 ∧ ∀ (w32 : World), w32 = w30.setCell (Addr.mk sB (sO + 4)
  none) (Value.int IntKind.i64 0) → ∃ (R33 : List Own), ∃ (Φ34 : PW), Stable Φ34 ∧ Ctx W w32 (R33 ++ R31) Φ34 ∧ ∀ (w35 : World) (R36 : List Own), Ctx W w35 (R33 ++ R36) Φ34 → CanWrite w35 sB
  (sO + 5) 1 ∧ ∀ (w37 : World), w37 = w35.setCell (Addr.mk sB (sO + 5) none) (Value.slice none 0 0) → ∃ (R38 : List Own), ∃ (Φ39 : PW), Stable Φ39 ∧ Ctx W w37 (R38 ++ R36) Φ39 ∧ ∀ (w40 :
  World) (R41 : List Own), Ctx W w40 (R38 ++ R41) Φ39 → J (Value.int IntKind.i64 0) w40)))

theorem Bsink_Sink_Commit_run (sB sO : Nat) (batch : Int) {W w : World} {R : List Own} {Φ : PW} [Stable Φ] {J : Value → World → Prop} (c : Ctx W w R Φ) (h : Bsink_Sink_Commit sB sO batch W R Φ J) : Calls Tryz.prog F.sink_Sink_Commit #[.pointer (some ⟨sB, sO, none⟩), .int .i64 batch] w fun e w' => ∃ v, e = .returned v ∧ J v w' :=
  vcFS_sound (H := { keep := some [0, 1, 4, 5, 11, 15] }) (by rw [show vcFS Tryz.prog W { keep := some [0, 1, 4, 5, 11, 15] } F.sink_Sink_Commit #[.pointer (some ⟨sB, sO, none⟩), .int .i64 batch] R Φ J = Bsink_Sink_Commit sB sO batch W R Φ J by kernel_rfl]; exact h) c

/-- (*sink.Sink).Abort -/
def Bsink_Sink_Abort (sB sO : Nat) (batch : Int) (W : World) (R : List Own) (Φ : PW) (J : Value → World → Prop) : Prop :=
  ∀ (w0 : World) (R1 : List Own), Ctx W w0 (R ++ R1) Φ → ∃ (n2 : Int), w0.cell? (Addr.mk sB sO none) = some (Value.int IntKind.i64 n2) ∧ Br (decide (n2 ≠ 0)) (∀ (w3 : World) (R4 : List Own),
  Ctx W w3 (R ++ R4) Φ → J (Value.int IntKind.i64 7) w3) (∀ (w5 : World) (R6 : List Own), Ctx W w5 (R ++ R6) Φ → Calls Tryz.prog F.sink_Sink_Has #[Value.pointer (some (Addr.mk sB sO none)),
  Value.int IntKind.i64 batch] w5 fun (e7 : Ending) (w8 : World) => ∃ (c9 : Bool), e7 = Ending.returned (Value.bool c9) ∧ ∃ (R10 : List Own), ∃ (Φ11 : PW), Stable Φ11 ∧ Ctx W w8 (R10 ++ R6)
  Φ11 ∧ Br c9 (∀ (w12 : World) (R13 : List Own), Ctx W w12 (R10 ++ R13) Φ11 → J (Value.int IntKind.i64 7) w12) (∀ (w14 : World) (R15 : List Own), Ctx W w14 (R10 ++ R15) Φ11 → ∃ (n16 : Int),
  ((!decide (batch < 1)) = true → w14.cell? (Addr.mk sB (sO + 4) none) = some (Value.int IntKind.i64 n16)) ∧ Br (decide (batch < 1) || decide (batch ≠ n16)) (∀ (w17 : World) (R18 : List Own),
  Ctx W w17 (R10 ++ R18) Φ11 → J (Value.int IntKind.i64 4) w17) (∀ (w19 : World) (R20 : List Own), Ctx W w19 (R10 ++ R20) Φ11 → CanWrite w19 sB (sO + 4) 1 ∧ ∀ (w21 : World), w21 = w19.setCell
  (Addr.mk sB (sO + 4) none) (Value.int IntKind.i64 0) → ∃ (R22 : List Own), ∃ (Φ23 : PW), Stable Φ23 ∧ Ctx W w21 (R22 ++ R20) Φ23 ∧ ∀ (w24 : World) (R25 : List Own), Ctx W w24 (R22 ++ R25)
  Φ23 → CanWrite w24 sB (sO + 5) 1 ∧ ∀ (w26 : World), w26 = w24.setCell (Addr.mk sB (sO + 5) none) (Value.slice none 0 0) → ∃ (R27 : List Own), ∃ (Φ28 : PW), Stable Φ28 ∧ Ctx W w26 (R27 ++
  R25) Φ28 ∧ ∀ (w29 : World) (R30 : List Own), Ctx W w29 (R27 ++ R30) Φ28 → J (Value.int IntKind.i64 0) w29)))

theorem Bsink_Sink_Abort_run (sB sO : Nat) (batch : Int) {W w : World} {R : List Own} {Φ : PW} [Stable Φ] {J : Value → World → Prop} (c : Ctx W w R Φ) (h : Bsink_Sink_Abort sB sO batch W R Φ J) : Calls Tryz.prog F.sink_Sink_Abort #[.pointer (some ⟨sB, sO, none⟩), .int .i64 batch] w fun e w' => ∃ v, e = .returned v ∧ J v w' :=
  vcFS_sound (H := { keep := some [0, 1, 4, 5, 16], split := [1] }) (by rw [show vcFS Tryz.prog W { keep := some [0, 1, 4, 5, 16], split := [1] } F.sink_Sink_Abort #[.pointer (some ⟨sB, sO, none⟩), .int .i64 batch] R Φ J = Bsink_Sink_Abort sB sO batch W R Φ J by kernel_rfl]; exact h) c

/-- slices.Min[[]int,int] -/
-- loop at region 5: 3 m, 4 i; blocks 
def Bslices_Min_int_int (xP : Option Addr) (xN xC : Nat) (W : World) (R : List Own) (Φ : PW) (J : Value → World → Prop) : Prop :=
  Br (decide ((↑xN : Int) < 1)) (∀ (w0 : World) (R1 : List Own), Ctx W w0 (R ++ R1) Φ → False) (((0 : Int) ≤ 0 ∧ 0 < (↑xN : Int)) ∧ ptrK none xP fun (k2 k3 : Nat) => ∀ (w4 : World) (R5 : List
  Own), Ctx W w4 (R ++ R5) Φ → ∃ (n6 : Int), w4.cell? (Addr.mk k2 k3 none) = some (Value.int IntKind.i64 n6) ∧ exI fun (I7 : Int → Int → List Own → PW → Nat → Prop) => (∃ (R8 : List Own), ∃
  (Φ9 : PW), ∃ (k10 : Nat), Stable Φ9 ∧ (∀ (w11 : World) (R12 : List Own), Ctx W w11 (R ++ R12) Φ → Ctx W w11 (R8 ++ R12) Φ9) ∧ I7 n6 1 R8 Φ9 k10) ∧ ∀ (n13 n14 : Int) (R15 : List Own) (I16 :
  List Nat → World → Prop) (k17 : Nat), Stable I16 → I7 n13 n14 R15 I16 k17 → Br (decide (n14 < (↑xN : Int))) ((0 ≤ n14 ∧ n14 < (↑xN : Int)) ∧ ptrK none xP fun (k18 k19 : Nat) => ∀ (w20 :
  World) (R21 : List Own), Ctx W w20 (R15 ++ R21) I16 → ∃ (n22 : Int), w20.cell? (Addr.mk k18 (k19 + n14.toNat) none) = some (Value.int IntKind.i64 n22) ∧ I64 (n14 + 1) ∧ ∃ (R23 : List Own),
  ∃ (Φ24 : PW), ∃ (k25 : Nat), Stable Φ24 ∧ (∀ (w26 : World) (R27 : List Own), Ctx W w26 (R15 ++ R27) I16 → Ctx W w26 (R23 ++ R27) Φ24) ∧ I7 (min n13 n22) (n14 + 1) R23 Φ24 k25 ∧ k25 < k17)
  (∀ (w28 : World) (R29 : List Own), Ctx W w28 (R15 ++ R29) I16 → J (Value.int IntKind.i64 n13) w28))

theorem Bslices_Min_int_int_run (xP : Option Addr) (xN xC : Nat) {W w : World} {R : List Own} {Φ : PW} [Stable Φ] {J : Value → World → Prop} (c : Ctx W w R Φ) (h : Bslices_Min_int_int xP xN xC W R Φ J) : Calls Tryz.prog F.slices_Min_int_int #[.slice xP xN xC] w fun e w' => ∃ v, e = .returned v ∧ J v w' :=
  vcFS_sound (H := { keep := some [0, 2, 3, 4, 7, 15], loops := [(5, [(3, .one (.int .i64)), (4, .one (.int .i64))], [])] }) (by rw [show vcFS Tryz.prog W { keep := some [0, 2, 3, 4, 7, 15], loops := [(5, [(3, .one (.int .i64)), (4, .one (.int .i64))], [])] } F.slices_Min_int_int #[.slice xP xN xC] R Φ J = Bslices_Min_int_int xP xN xC W R Φ J by kernel_rfl]; exact h) c

/-- sink.clone -/
-- loop at region 3: 10 ; blocks 
-- known blocks: 5 x
def Bsink_clone (lP : Option Addr) (lN lC : Nat) (W : World) (R : List Own) (Φ : PW) (J : Value → World → Prop) : Prop :=
  ∀ (w0 : World) (R1 : List Own), Ctx W w0 (R ++ R1) Φ → Calls Tryz.prog F.slices_Clone_api_Line_api_Line #[Value.slice lP lN lC] w0 fun (e2 : Ending) (w3 : World) => ∃ (p4 : Option Addr), ∃
  (k5 : Nat), ∃ (k6 : Nat), e2 = Ending.returned (Value.slice p4 k5 k6) ∧ ∃ (R7 : List Own), ∃ (Φ8 : PW), Stable Φ8 ∧ Ctx W w3 (R7 ++ R1) Φ8 ∧ exI fun (I9 : Int → List Own → PW → Nat → Prop)
  => (∃ (R10 : List Own), ∃ (Φ11 : PW), ∃ (k12 : Nat), Stable Φ11 ∧ (∀ (w13 : World) (R14 : List Own), Ctx W w13 (R7 ++ R14) Φ8 → Ctx W w13 (R10 ++ R14) Φ11) ∧ I9 0 R10 Φ11 k12) ∧ ∀ (n15 :
  Int) (R16 : List Own) (I17 : List Nat → World → Prop) (k18 : Nat), Stable I17 → I9 n15 R16 I17 k18 → Br (decide (n15 < (↑k5 : Int))) ((0 ≤ n15 ∧ n15 < (↑k5 : Int)) ∧ ptrK none p4 fun (k19
  k20 : Nat) => ∀ (w21 : World) (R22 : List Own), Ctx W w21 (R16 ++ R22) I17 → ∃ (n23 : Int), ∃ (n24 : Int), ∃ (n25 : Int), ∃ (p26 : Option Addr), ∃ (k27 : Nat), ∃ (k28 : Nat), ∃ (n29 : Int),
  ∃ (n30 : Int), ∃ (n31 : Int), RowAt w21 k19 (k20 + n15.toNat * 7) [Value.int IntKind.i64 n23, Value.int IntKind.i64 n24, Value.int IntKind.i64 n25, Value.slice p26 k27 k28, Value.int
  IntKind.i64 n29, Value.int IntKind.i64 n30, Value.int IntKind.i64 n31] ∧ ∀ (b : Nat) (w32 : World) (R33 : List Own), Ctx W w32 (R16 ++ R33) I17 → Calls Tryz.prog
  F.slices_Clone_api_Value_api_Value #[Value.slice p26 k27 k28] w32 fun (e34 : Ending) (w35 : World) => ∃ (p36 : Option Addr), ∃ (k37 : Nat), ∃ (k38 : Nat), e34 = Ending.returned (Value.slice
  p36 k37 k38) ∧ ∃ (R39 : List Own), ∃ (Φ40 : PW), Stable Φ40 ∧ Ctx W w35 (R39 ++ R33) Φ40 ∧ (0 ≤ n15 ∧ n15 < (↑k5 : Int)) ∧ ptrK none p4 fun (k41 k42 : Nat) => ∀ (w43 : World) (R44 : List
  Own), Ctx W w43 (R39 ++ R44) Φ40 → CanWrite w43 k41 (k42 + n15.toNat * 7 + 3) 1 ∧ ∀ (w45 : World), w45 = w43.setCell (Addr.mk k41 (k42 + n15.toNat * 7 + 3) none) (Value.slice p36 k37 k38) →
  ∃ (R46 : List Own), ∃ (Φ47 : PW), Stable Φ47 ∧ Ctx W w45 (R46 ++ R44) Φ47 ∧ I64 (n15 + 1) ∧ ∃ (R48 : List Own), ∃ (Φ49 : PW), ∃ (k50 : Nat), Stable Φ49 ∧ (∀ (w51 : World) (R52 : List Own),
  Ctx W w51 (R46 ++ R52) Φ47 → Ctx W w51 (R48 ++ R52) Φ49) ∧ I9 (n15 + 1) R48 Φ49 k50 ∧ k50 < k18) (∀ (w53 : World) (R54 : List Own), Ctx W w53 (R16 ++ R54) I17 → J (Value.slice p4 k5 k6)
  w53)

theorem Bsink_clone_run (lP : Option Addr) (lN lC : Nat) {W w : World} {R : List Own} {Φ : PW} [Stable Φ] {J : Value → World → Prop} (c : Ctx W w R Φ) (h : Bsink_clone lP lN lC W R Φ J) : Calls Tryz.prog F.sink_clone #[.slice lP lN lC] w fun e w' => ∃ v, e = .returned v ∧ J v w' :=
  vcFS_sound (H := { keep := some [0, 2, 3, 4, 5, 8, 9, 10, 11], track := [5], loops := [(3, [(10, .one (.int .i64))], [])] }) (by rw [show vcFS Tryz.prog W { keep := some [0, 2, 3, 4, 5, 8, 9, 10, 11], track := [5], loops := [(3, [(10, .one (.int .i64))], [])] } F.sink_clone #[.slice lP lN lC] R Φ J = Bsink_clone lP lN lC W R Φ J by kernel_rfl]; exact h) c

/-- slices.BinarySearch[[]int,int] -/
-- loop at region 3: 7 i, 8 j; blocks 
def Bslices_BinarySearch_int_int (xP : Option Addr) (xN xC : Nat) (target : Int) (W : World) (R : List Own) (Φ : PW) (J : Value → World → Prop) : Prop :=
  exI fun (I0 : Int → Int → List Own → PW → Nat → Prop) => (∃ (R1 : List Own), ∃ (Φ2 : PW), ∃ (k3 : Nat), Stable Φ2 ∧ (∀ (w4 : World) (R5 : List Own), Ctx W w4 (R ++ R5) Φ → Ctx W w4 (R1 ++
  R5) Φ2) ∧ I0 0 (↑xN : Int) R1 Φ2 k3) ∧ ∀ (n6 n7 : Int) (R8 : List Own) (I9 : List Nat → World → Prop) (k10 : Nat), Stable I9 → I0 n6 n7 R8 I9 k10 → Br (decide (n6 < n7)) (I64 (n6 + n7) ∧ ∃
  (n11 : Int), (∀ (w12 : World), Sem.run Tryz.prog (binOp BinOp.shr 119 (Value.int IntKind.u64 (IntKind.u64.wrap (n6 + n7))) (Value.int IntKind.u64 1)) w12 = Result.ok (Value.int IntKind.u64
  n11) w12) ∧ (0 ≤ IntKind.i64.wrap n11 ∧ IntKind.i64.wrap n11 < (↑xN : Int)) ∧ ptrK none xP fun (k13 k14 : Nat) => ∀ (w15 : World) (R16 : List Own), Ctx W w15 (R8 ++ R16) I9 → ∃ (n17 : Int),
  w15.cell? (Addr.mk k13 (k14 + (IntKind.i64.wrap n11).toNat) none) = some (Value.int IntKind.i64 n17) ∧ ∀ (w18 : World) (R19 : List Own), Ctx W w18 (R8 ++ R19) I9 → Calls Tryz.prog
  F.cmp_Less_int #[Value.int IntKind.i64 n17, Value.int IntKind.i64 target] w18 fun (e20 : Ending) (w21 : World) => ∃ (c22 : Bool), e20 = Ending.returned (Value.bool c22) ∧ ∃ (R23 : List
  Own), ∃ (Φ24 : PW), Stable Φ24 ∧ Ctx W w21 (R23 ++ R19) Φ24 ∧ Br c22 (I64 (IntKind.i64.wrap n11 + 1) ∧ ∃ (R25 : List Own), ∃ (Φ26 : PW), ∃ (k27 : Nat), Stable Φ26 ∧ (∀ (w28 : World) (R29 :
  List Own), Ctx W w28 (R23 ++ R29) Φ24 → Ctx W w28 (R25 ++ R29) Φ26) ∧ I0 (IntKind.i64.wrap n11 + 1) n7 R25 Φ26 k27 ∧ k27 < k10) (∃ (R30 : List Own), ∃ (Φ31 : PW), ∃ (k32 : Nat), Stable Φ31
  ∧ (∀ (w33 : World) (R34 : List Own), Ctx W w33 (R23 ++ R34) Φ24 → Ctx W w33 (R30 ++ R34) Φ31) ∧ I0 n6 (IntKind.i64.wrap n11) R30 Φ31 k32 ∧ k32 < k10)) (∀ (w35 : World) (R36 : List Own), Ctx
  W w35 (R8 ++ R36) I9 → (decide (n6 < (↑xN : Int)) = true → 0 ≤ n6 ∧ n6 < (↑xN : Int)) ∧ ptrK (some (decide (n6 < (↑xN : Int)))) xP fun (k37 k38 : Nat) => ∃ (n39 : Int), (decide (n6 < (↑xN :
  Int)) = true → w35.cell? (Addr.mk k37 (k38 + n6.toNat) none) = some (Value.int IntKind.i64 n39)) ∧ ((decide (n6 < (↑xN : Int)) && !decide (n39 = target)) = true → 0 ≤ n6 ∧ n6 < (↑xN : Int))
  ∧ ptrK (some (decide (n6 < (↑xN : Int)) && !decide (n39 = target))) xP fun (k40 k41 : Nat) => ∃ (n42 : Int), ((decide (n6 < (↑xN : Int)) && !decide (n39 = target)) = true → w35.cell?
  (Addr.mk k40 (k41 + n6.toNat) none) = some (Value.int IntKind.i64 n42)) ∧ ∃ (c43 : Bool), ((decide (n6 < (↑xN : Int)) && !decide (n39 = target)) = true → ∀ (w44 : World), w44 = w35 → Calls
  Tryz.prog F.slices_isNaN_int #[Value.int IntKind.i64 n42] w44 fun (e45 : Ending) (w46 : World) => e45 = Ending.returned (Value.bool c43) ∧ w46 = w35) ∧ ∃ (c47 : Bool), ((decide (n6 < (↑xN :
  Int)) && !decide (n39 = target) && c43) = true → ∀ (w48 : World), w48 = w35 → Calls Tryz.prog F.slices_isNaN_int #[Value.int IntKind.i64 target] w48 fun (e49 : Ending) (w50 : World) => e49
  = Ending.returned (Value.bool c47) ∧ w50 = w35) ∧ ∀ (w51 : World) (R52 : List Own), Ctx W w51 (R8 ++ R52) I9 → J (Value.tuple #[Value.int IntKind.i64 n6, Value.bool (decide (n6 < (↑xN :
  Int)) && (decide (n39 = target) || c43 && c47))]) w51)

theorem Bslices_BinarySearch_int_int_run (xP : Option Addr) (xN xC : Nat) (target : Int) {W w : World} {R : List Own} {Φ : PW} [Stable Φ] {J : Value → World → Prop} (c : Ctx W w R Φ) (h : Bslices_BinarySearch_int_int xP xN xC target W R Φ J) : Calls Tryz.prog F.slices_BinarySearch_int_int #[.slice xP xN xC, .int .i64 target] w fun e w' => ∃ v, e = .returned v ∧ J v w' :=
  vcFS_sound (H := { keep := some [0, 1, 4, 5, 6, 7, 8, 9, 15, 27], loops := [(3, [(7, .one (.int .i64)), (8, .one (.int .i64))], [])] }) (by rw [show vcFS Tryz.prog W { keep := some [0, 1, 4, 5, 6, 7, 8, 9, 15, 27], loops := [(3, [(7, .one (.int .i64)), (8, .one (.int .i64))], [])] } F.slices_BinarySearch_int_int #[.slice xP xN xC, .int .i64 target] R Φ J = Bslices_BinarySearch_int_int xP xN xC target W R Φ J by kernel_rfl]; exact h) c

/-- slices.ContainsFunc[[]int,int] -/
def Bslices_ContainsFunc_int_int (sP : Option Addr) (sN sC : Nat) (fF : FuncId) (fC : Array Value) (W : World) (R : List Own) (Φ : PW) (J : Value → World → Prop) : Prop :=
  ∀ (w0 : World) (R1 : List Own), Ctx W w0 (R ++ R1) Φ → Calls Tryz.prog F.slices_IndexFunc_int_int #[Value.slice sP sN sC, Value.func (Fn.func fF) #[] fC] w0 fun (e2 : Ending) (w3 : World)
  => ∃ (n4 : Int), e2 = Ending.returned (Value.int IntKind.i64 n4) ∧ ∃ (R5 : List Own), ∃ (Φ6 : PW), Stable Φ6 ∧ Ctx W w3 (R5 ++ R1) Φ6 ∧ ∀ (w7 : World) (R8 : List Own), Ctx W w7 (R5 ++ R8)
  Φ6 → J (Value.bool (decide (0 ≤ n4))) w7

theorem Bslices_ContainsFunc_int_int_run (sP : Option Addr) (sN sC : Nat) (fF : FuncId) (fC : Array Value) {W w : World} {R : List Own} {Φ : PW} [Stable Φ] {J : Value → World → Prop} (c : Ctx W w R Φ) (h : Bslices_ContainsFunc_int_int sP sN sC fF fC W R Φ J) : Calls Tryz.prog F.slices_ContainsFunc_int_int #[.slice sP sN sC, .func (.func fF) #[] fC] w fun e w' => ∃ v, e = .returned v ∧ J v w' :=
  vcFS_sound (H := { keep := some [0, 1, 4] }) (by rw [show vcFS Tryz.prog W { keep := some [0, 1, 4] } F.slices_ContainsFunc_int_int #[.slice sP sN sC, .func (.func fF) #[] fC] R Φ J = Bslices_ContainsFunc_int_int sP sN sC fF fC W R Φ J by kernel_rfl]; exact h) c

/-- (*sink.Sink).look$1 -/
def Bsink_Sink_look_1 (k : Int) (kB kO : Nat) (W : World) (R : List Own) (Φ : PW) (J : Value → World → Prop) : Prop :=
  ∀ (w0 : World) (R1 : List Own), Ctx W w0 (R ++ R1) Φ → ∃ (p2 : Option Addr), ∃ (k3 : Nat), ∃ (k4 : Nat), w0.cell? (Addr.mk kB (kO + 3) none) = some (Value.slice p2 k3 k4) ∧ ∀ (w5 : World)
  (R6 : List Own), Ctx W w5 (R ++ R6) Φ → J (Value.bool (decide ((↑k3 : Int) ≤ k))) w5

theorem Bsink_Sink_look_1_run (k : Int) (kB kO : Nat) {W w : World} {R : List Own} {Φ : PW} [Stable Φ] {J : Value → World → Prop} (c : Ctx W w R Φ) (h : Bsink_Sink_look_1 k kB kO W R Φ J) : Calls Tryz.prog F.sink_Sink_look_1 #[.int .i64 k, .pointer (some ⟨kB, kO, none⟩)] w fun e w' => ∃ v, e = .returned v ∧ J v w' :=
  vcFS_sound (H := { keep := some [0, 1, 3] }) (by rw [show vcFS Tryz.prog W { keep := some [0, 1, 3] } F.sink_Sink_look_1 #[.int .i64 k, .pointer (some ⟨kB, kO, none⟩)] R Φ J = Bsink_Sink_look_1 k kB kO W R Φ J by kernel_rfl]; exact h) c

/-- value.RightRow -/
def Bvalue_RightRow (rP : Option Addr) (rN rC : Nat) (W : World) (R : List Own) (Φ : PW) (J : Value → World → Prop) : Prop :=
  Br (decide ((↑rN : Int) ≤ 12)) (∀ (w0 : World) (R1 : List Own), Ctx W w0 (R ++ R1) Φ → Calls Tryz.prog F.value_all #[Value.slice rP rN rC] w0 fun (e2 : Ending) (w3 : World) => ∃ (c4 :
  Bool), e2 = Ending.returned (Value.bool c4) ∧ ∃ (R5 : List Own), ∃ (Φ6 : PW), Stable Φ6 ∧ Ctx W w3 (R5 ++ R1) Φ6 ∧ ∀ (w7 : World) (R8 : List Own), Ctx W w7 (R5 ++ R8) Φ6 → J (Value.bool c4)
  w7) (∀ (w9 : World) (R10 : List Own), Ctx W w9 (R ++ R10) Φ → J (Value.bool false) w9)

theorem Bvalue_RightRow_run (rP : Option Addr) (rN rC : Nat) {W w : World} {R : List Own} {Φ : PW} [Stable Φ] {J : Value → World → Prop} (c : Ctx W w R Φ) (h : Bvalue_RightRow rP rN rC W R Φ J) : Calls Tryz.prog F.value_RightRow #[.slice rP rN rC] w fun e w' => ∃ v, e = .returned v ∧ J v w' :=
  vcFS_sound (H := { keep := some [0, 2], split := [1] }) (by rw [show vcFS Tryz.prog W { keep := some [0, 2], split := [1] } F.value_RightRow #[.slice rP rN rC] R Φ J = Bvalue_RightRow rP rN rC W R Φ J by kernel_rfl]; exact h) c

/-- cmp.Less[int] -/
def Bcmp_Less_int (x : Int) (y : Int) (W : World) (R : List Own) (Φ : PW) (J : Value → World → Prop) : Prop :=
  ∀ (w0 : World) (R1 : List Own), Ctx W w0 (R ++ R1) Φ → ∃ (c2 : Bool), (∀ (w3 : World), w3 = w0 → Calls Tryz.prog F.cmp_isNaN_int #[Value.int IntKind.i64 x] w3 fun (e4 : Ending) (w5 : World)
  => e4 = Ending.returned (Value.bool c2) ∧ w5 = w0) ∧ ∃ (c6 : Bool), (c2 = true → ∀ (w7 : World), w7 = w0 → Calls Tryz.prog F.cmp_isNaN_int #[Value.int IntKind.i64 y] w7 fun (e8 : Ending)
  (w9 : World) => e8 = Ending.returned (Value.bool c6) ∧ w9 = w0) ∧ ∀ (w10 : World) (R11 : List Own), Ctx W w10 (R ++ R11) Φ → J (Value.bool (c2 && !c6 || decide (x < y))) w10

theorem Bcmp_Less_int_run (x : Int) (y : Int) {W w : World} {R : List Own} {Φ : PW} [Stable Φ] {J : Value → World → Prop} (c : Ctx W w R Φ) (h : Bcmp_Less_int x y W R Φ J) : Calls Tryz.prog F.cmp_Less_int #[.int .i64 x, .int .i64 y] w fun e w' => ∃ v, e = .returned v ∧ J v w' :=
  vcFS_sound (H := { keep := some [0, 1, 4] }) (by rw [show vcFS Tryz.prog W { keep := some [0, 1, 4] } F.cmp_Less_int #[.int .i64 x, .int .i64 y] R Φ J = Bcmp_Less_int x y W R Φ J by kernel_rfl]; exact h) c

/-- slices.IndexFunc[[]int,int] -/
-- loop at region 2: 8 ; blocks 
def Bslices_IndexFunc_int_int (sP : Option Addr) (sN sC : Nat) (fF : FuncId) (fC : Array Value) (W : World) (R : List Own) (Φ : PW) (J : Value → World → Prop) : Prop :=
  exI fun (I0 : Int → List Own → PW → Nat → Prop) => (∃ (R1 : List Own), ∃ (Φ2 : PW), ∃ (k3 : Nat), Stable Φ2 ∧ (∀ (w4 : World) (R5 : List Own), Ctx W w4 (R ++ R5) Φ → Ctx W w4 (R1 ++ R5) Φ2)
  ∧ I0 0 R1 Φ2 k3) ∧ ∀ (n6 : Int) (R7 : List Own) (I8 : List Nat → World → Prop) (k9 : Nat), Stable I8 → I0 n6 R7 I8 k9 → Br (decide (n6 < (↑sN : Int))) ((0 ≤ n6 ∧ n6 < (↑sN : Int)) ∧ ptrK
  none sP fun (k10 k11 : Nat) => ∀ (w12 : World) (R13 : List Own), Ctx W w12 (R7 ++ R13) I8 → ∃ (n14 : Int), w12.cell? (Addr.mk k10 (k11 + n6.toNat) none) = some (Value.int IntKind.i64 n14) ∧
  ∀ (w15 : World) (R16 : List Own), Ctx W w15 (R7 ++ R16) I8 → okFun Tryz.prog fF = true ∧ Calls Tryz.prog fF (Array.mk (Value.int IntKind.i64 n14 :: fC.toList)) w15 fun (e17 : Ending) (w18 :
  World) => ∃ (c19 : Bool), e17 = Ending.returned (Value.bool c19) ∧ ∃ (R20 : List Own), ∃ (Φ21 : PW), Stable Φ21 ∧ Ctx W w18 (R20 ++ R16) Φ21 ∧ Br c19 (∀ (w22 : World) (R23 : List Own), Ctx
  W w22 (R20 ++ R23) Φ21 → J (Value.int IntKind.i64 n6) w22) (I64 (n6 + 1) ∧ ∃ (R24 : List Own), ∃ (Φ25 : PW), ∃ (k26 : Nat), Stable Φ25 ∧ (∀ (w27 : World) (R28 : List Own), Ctx W w27 (R20 ++
  R28) Φ21 → Ctx W w27 (R24 ++ R28) Φ25) ∧ I0 (n6 + 1) R24 Φ25 k26 ∧ k26 < k9)) (∀ (w29 : World) (R30 : List Own), Ctx W w29 (R7 ++ R30) I8 → J (Value.int IntKind.i64 (-1)) w29)

theorem Bslices_IndexFunc_int_int_run (sP : Option Addr) (sN sC : Nat) (fF : FuncId) (fC : Array Value) {W w : World} {R : List Own} {Φ : PW} [Stable Φ] {J : Value → World → Prop} (c : Ctx W w R Φ) (h : Bslices_IndexFunc_int_int sP sN sC fF fC W R Φ J) : Calls Tryz.prog F.slices_IndexFunc_int_int #[.slice sP sN sC, .func (.func fF) #[] fC] w fun e w' => ∃ v, e = .returned v ∧ J v w' :=
  vcFS_sound (H := { keep := some [0, 1, 4, 5, 7, 8, 9, 16], wrap := [16], loops := [(2, [(8, .one (.int .i64))], [])] }) (by rw [show vcFS Tryz.prog W { keep := some [0, 1, 4, 5, 7, 8, 9, 16], wrap := [16], loops := [(2, [(8, .one (.int .i64))], [])] } F.slices_IndexFunc_int_int #[.slice sP sN sC, .func (.func fF) #[] fC] R Φ J = Bslices_IndexFunc_int_int sP sN sC fF fC W R Φ J by kernel_rfl]; exact h) c

/-- value.all -/
def Bvalue_all (rP : Option Addr) (rN rC : Nat) (W : World) (R : List Own) (Φ : PW) (J : Value → World → Prop) : Prop :=
  ∀ (w0 : World) (R1 : List Own), Ctx W w0 (R ++ R1) Φ → Calls Tryz.prog F.slices_ContainsFunc_api_Value_api_Value #[Value.slice rP rN rC, Value.func (Fn.func 137) #[] #[]] w0 fun (e2 :
  Ending) (w3 : World) => ∃ (c4 : Bool), e2 = Ending.returned (Value.bool c4) ∧ ∃ (R5 : List Own), ∃ (Φ6 : PW), Stable Φ6 ∧ Ctx W w3 (R5 ++ R1) Φ6 ∧ ∀ (w7 : World) (R8 : List Own), Ctx W w7
  (R5 ++ R8) Φ6 → J (Value.bool !c4) w7

theorem Bvalue_all_run (rP : Option Addr) (rN rC : Nat) {W w : World} {R : List Own} {Φ : PW} [Stable Φ] {J : Value → World → Prop} (c : Ctx W w R Φ) (h : Bvalue_all rP rN rC W R Φ J) : Calls Tryz.prog F.value_all #[.slice rP rN rC] w fun e w' => ∃ v, e = .returned v ∧ J v w' :=
  vcFS_sound (H := { keep := some [0, 2] }) (by rw [show vcFS Tryz.prog W { keep := some [0, 2] } F.value_all #[.slice rP rN rC] R Φ J = Bvalue_all rP rN rC W R Φ J by kernel_rfl]; exact h) c

/-- slices.ContainsFunc[[]api.Value,api.Value] -/
def Bslices_ContainsFunc_api_Value_api_Value (sP : Option Addr) (sN sC : Nat) (fF : FuncId) (fC : Array Value) (W : World) (R : List Own) (Φ : PW) (J : Value → World → Prop) : Prop :=
  ∀ (w0 : World) (R1 : List Own), Ctx W w0 (R ++ R1) Φ → Calls Tryz.prog F.slices_IndexFunc_api_Value_api_Value #[Value.slice sP sN sC, Value.func (Fn.func fF) #[] fC] w0 fun (e2 : Ending)
  (w3 : World) => ∃ (n4 : Int), e2 = Ending.returned (Value.int IntKind.i64 n4) ∧ ∃ (R5 : List Own), ∃ (Φ6 : PW), Stable Φ6 ∧ Ctx W w3 (R5 ++ R1) Φ6 ∧ ∀ (w7 : World) (R8 : List Own), Ctx W w7
  (R5 ++ R8) Φ6 → J (Value.bool (decide (0 ≤ n4))) w7

theorem Bslices_ContainsFunc_api_Value_api_Value_run (sP : Option Addr) (sN sC : Nat) (fF : FuncId) (fC : Array Value) {W w : World} {R : List Own} {Φ : PW} [Stable Φ] {J : Value → World → Prop} (c : Ctx W w R Φ) (h : Bslices_ContainsFunc_api_Value_api_Value sP sN sC fF fC W R Φ J) : Calls Tryz.prog F.slices_ContainsFunc_api_Value_api_Value #[.slice sP sN sC, .func (.func fF) #[] fC] w fun e w' => ∃ v, e = .returned v ∧ J v w' :=
  vcFS_sound (H := { keep := some [0, 1, 4] }) (by rw [show vcFS Tryz.prog W { keep := some [0, 1, 4] } F.slices_ContainsFunc_api_Value_api_Value #[.slice sP sN sC, .func (.func fF) #[] fC] R Φ J = Bslices_ContainsFunc_api_Value_api_Value sP sN sC fF fC W R Φ J by kernel_rfl]; exact h) c

/-- value.all$1 -/
-- known blocks: 1 v
def Bvalue_all_1 (v0 : Int) (v1 : Int) (v2 : ByteArray) (W : World) (R : List Own) (Φ : PW) (J : Value → World → Prop) : Prop :=
  ∀ (b : Nat) (w0 : World) (R1 : List Own), Ctx W w0 (R ++ R1) Φ → Calls Tryz.prog F.value_Right #[Value.agg #[Value.int IntKind.i64 v0, Value.int IntKind.i64 v1, Value.string v2]] w0 fun (e2
  : Ending) (w3 : World) => ∃ (c4 : Bool), e2 = Ending.returned (Value.bool c4) ∧ ∃ (R5 : List Own), ∃ (Φ6 : PW), Stable Φ6 ∧ Ctx W w3 (R5 ++ R1) Φ6 ∧ ∀ (w7 : World) (R8 : List Own), Ctx W w7
  (R5 ++ R8) Φ6 → J (Value.bool !c4) w7

theorem Bvalue_all_1_run (v0 : Int) (v1 : Int) (v2 : ByteArray) {W w : World} {R : List Own} {Φ : PW} [Stable Φ] {J : Value → World → Prop} (c : Ctx W w R Φ) (h : Bvalue_all_1 v0 v1 v2 W R Φ J) : Calls Tryz.prog F.value_all_1 #[.agg #[.int .i64 v0, .int .i64 v1, .string v2]] w fun e w' => ∃ v, e = .returned v ∧ J v w' :=
  vcFS_sound (H := { keep := some [1, 2], track := [1] }) (by rw [show vcFS Tryz.prog W { keep := some [1, 2], track := [1] } F.value_all_1 #[.agg #[.int .i64 v0, .int .i64 v1, .string v2]] R Φ J = Bvalue_all_1 v0 v1 v2 W R Φ J by kernel_rfl]; exact h) c

/-- value.Right -/
-- known blocks: 1 v
def Bvalue_Right (v0 : Int) (v1 : Int) (v2 : ByteArray) (W : World) (R : List Own) (Φ : PW) (J : Value → World → Prop) : Prop :=
  ∀ (b : Nat), Br (decide (v0 = 0)) (∃ (R0 : List Own), ∃ (Φ1 : PW), Stable Φ1 ∧ (∀ (w2 : World) (R3 : List Own), Ctx W w2 (R ++ R3) Φ → Ctx W w2 (R0 ++ R3) Φ1) ∧ ∀ (w4 : World) (R5 : List
  Own), Ctx W w4 (R ++ R5) Φ → Calls Tryz.prog F.value_Int #[Value.int IntKind.i64 v1] w4 fun (e6 : Ending) (w7 : World) => ∃ (n8 : Int), ∃ (n9 : Int), ∃ (s10 : ByteArray), e6 =
  Ending.returned (Value.agg #[Value.int IntKind.i64 n8, Value.int IntKind.i64 n9, Value.string s10]) ∧ ∃ (R11 : List Own), ∃ (Φ12 : PW), Stable Φ12 ∧ Ctx W w7 (R11 ++ R5) Φ12 ∧ (∀ (w13 :
  World) (R14 : List Own), Ctx W w13 (R11 ++ R14) Φ12 → Ctx W w13 (R0 ++ R14) Φ1) ∧ okAgg Tryz.prog 94 = true ∧ ∀ (w15 : World) (R16 : List Own), Ctx W w15 (R11 ++ R16) Φ12 → J (Value.bool
  (decide (v0 = n8) && (decide (v1 = n9) && (decide (v2 = s10) && true)))) w15) (Br (decide (v0 = 1)) (∃ (R17 : List Own), ∃ (Φ18 : PW), Stable Φ18 ∧ (∀ (w19 : World) (R20 : List Own), Ctx W
  w19 (R ++ R20) Φ → Ctx W w19 (R17 ++ R20) Φ18) ∧ ∀ (w21 : World) (R22 : List Own), Ctx W w21 (R ++ R22) Φ → Calls Tryz.prog F.value_Text #[Value.string v2] w21 fun (e23 : Ending) (w24 :
  World) => ∃ (n25 : Int), ∃ (n26 : Int), ∃ (s27 : ByteArray), e23 = Ending.returned (Value.agg #[Value.int IntKind.i64 n25, Value.int IntKind.i64 n26, Value.string s27]) ∧ ∃ (R28 : List
  Own), ∃ (Φ29 : PW), Stable Φ29 ∧ Ctx W w24 (R28 ++ R22) Φ29 ∧ (∀ (w30 : World) (R31 : List Own), Ctx W w30 (R28 ++ R31) Φ29 → Ctx W w30 (R17 ++ R31) Φ18) ∧ okAgg Tryz.prog 94 = true ∧ Br
  (decide (v0 = n25) && (decide (v1 = n26) && (decide (v2 = s27) && true))) (∀ (w32 : World) (R33 : List Own), Ctx W w32 (R28 ++ R33) Φ29 → J (Value.bool (decide ((↑v2.size : Int) ≤ 200)))
  w32) (∀ (w34 : World) (R35 : List Own), Ctx W w34 (R28 ++ R35) Φ29 → J (Value.bool false) w34)) (∃ (R36 : List Own), ∃ (Φ37 : PW), Stable Φ37 ∧ (∀ (w38 : World) (R39 : List Own), Ctx W w38
  (R ++ R39) Φ → Ctx W w38 (R36 ++ R39) Φ37) ∧ ∀ (w40 : World) (R41 : List Own), Ctx W w40 (R ++ R41) Φ → Calls Tryz.prog F.value_Bool #[Value.bool false] w40 fun (e42 : Ending) (w43 : World)
  => ∃ (n44 : Int), ∃ (n45 : Int), ∃ (s46 : ByteArray), e42 = Ending.returned (Value.agg #[Value.int IntKind.i64 n44, Value.int IntKind.i64 n45, Value.string s46]) ∧ ∃ (R47 : List Own), ∃
  (Φ48 : PW), Stable Φ48 ∧ Ctx W w43 (R47 ++ R41) Φ48 ∧ (∀ (w49 : World) (R50 : List Own), Ctx W w49 (R47 ++ R50) Φ48 → Ctx W w49 (R36 ++ R50) Φ37) ∧ ∃ (R51 : List Own), ∃ (Φ52 : PW), Stable
  Φ52 ∧ (∀ (w53 : World) (R54 : List Own), Ctx W w53 (R47 ++ R54) Φ48 → Ctx W w53 (R51 ++ R54) Φ52) ∧ okAgg Tryz.prog 94 = true ∧ Br (decide (v0 = n44) && (decide (v1 = n45) && (decide (v2 =
  s46) && true))) (∀ (w55 : World) (R56 : List Own), Ctx W w55 (R47 ++ R56) Φ48 → J (Value.bool true) w55) (∀ (w57 : World) (R58 : List Own), Ctx W w57 (R47 ++ R58) Φ48 → Calls Tryz.prog
  F.value_Bool #[Value.bool true] w57 fun (e59 : Ending) (w60 : World) => ∃ (n61 : Int), ∃ (n62 : Int), ∃ (s63 : ByteArray), e59 = Ending.returned (Value.agg #[Value.int IntKind.i64 n61,
  Value.int IntKind.i64 n62, Value.string s63]) ∧ ∃ (R64 : List Own), ∃ (Φ65 : PW), Stable Φ65 ∧ Ctx W w60 (R64 ++ R58) Φ65 ∧ (∀ (w66 : World) (R67 : List Own), Ctx W w66 (R64 ++ R67) Φ65 →
  Ctx W w66 (R51 ++ R67) Φ52) ∧ okAgg Tryz.prog 94 = true ∧ ∀ (w68 : World) (R69 : List Own), Ctx W w68 (R64 ++ R69) Φ65 → J (Value.bool (decide (v0 = n61) && (decide (v1 = n62) && (decide
  (v2 = s63) && true)))) w68)))

theorem Bvalue_Right_run (v0 : Int) (v1 : Int) (v2 : ByteArray) {W w : World} {R : List Own} {Φ : PW} [Stable Φ] {J : Value → World → Prop} (c : Ctx W w R Φ) (h : Bvalue_Right v0 v1 v2 W R Φ J) : Calls Tryz.prog F.value_Right #[.agg #[.int .i64 v0, .int .i64 v1, .string v2]] w fun e w' => ∃ v, e = .returned v ∧ J v w' :=
  vcFS_sound (H := { keep := some [1, 2, 4, 5, 12], track := [1], stages := [(3, [.held [(0, true), (1, true), (2, true), (3, false)], .stage [4, 5] none]), (5, [.held [(0, true), (1, true), (2, true), (3, false)], .stage [4, 5, 6, 7, 8, 9, 10, 11] none]), (6, [.held [(0, true), (1, false)], .held [(2, true), (3, true), (4, true), (5, false)], .stage [6, 7, 8] none])] }) (by rw [show vcFS Tryz.prog W { keep := some [1, 2, 4, 5, 12], track := [1], stages := [(3, [.held [(0, true), (1, true), (2, true), (3, false)], .stage [4, 5] none]), (5, [.held [(0, true), (1, true), (2, true), (3, false)], .stage [4, 5, 6, 7, 8, 9, 10, 11] none]), (6, [.held [(0, true), (1, false)], .held [(2, true), (3, true), (4, true), (5, false)], .stage [6, 7, 8] none])] } F.value_Right #[.agg #[.int .i64 v0, .int .i64 v1, .string v2]] R Φ J = Bvalue_Right v0 v1 v2 W R Φ J by kernel_rfl]; exact h) c

/-- slices.IndexFunc[[]api.Value,api.Value] -/
-- loop at region 2: 8 ; blocks 
def Bslices_IndexFunc_api_Value_api_Value (sP : Option Addr) (sN sC : Nat) (fF : FuncId) (fC : Array Value) (W : World) (R : List Own) (Φ : PW) (J : Value → World → Prop) : Prop :=
  exI fun (I0 : Int → List Own → PW → Nat → Prop) => (∃ (R1 : List Own), ∃ (Φ2 : PW), ∃ (k3 : Nat), Stable Φ2 ∧ (∀ (w4 : World) (R5 : List Own), Ctx W w4 (R ++ R5) Φ → Ctx W w4 (R1 ++ R5) Φ2)
  ∧ I0 0 R1 Φ2 k3) ∧ ∀ (n6 : Int) (R7 : List Own) (I8 : List Nat → World → Prop) (k9 : Nat), Stable I8 → I0 n6 R7 I8 k9 → Br (decide (n6 < (↑sN : Int))) ((0 ≤ n6 ∧ n6 < (↑sN : Int)) ∧ ptrK
  none sP fun (k10 k11 : Nat) => ∀ (w12 : World) (R13 : List Own), Ctx W w12 (R7 ++ R13) I8 → ∃ (n14 : Int), ∃ (n15 : Int), ∃ (s16 : ByteArray), RowAt w12 k10 (k11 + n6.toNat * 3) [Value.int
  IntKind.i64 n14, Value.int IntKind.i64 n15, Value.string s16] ∧ ∀ (w17 : World) (R18 : List Own), Ctx W w17 (R7 ++ R18) I8 → okFun Tryz.prog fF = true ∧ Calls Tryz.prog fF (Array.mk
  (Value.agg #[Value.int IntKind.i64 n14, Value.int IntKind.i64 n15, Value.string s16] :: fC.toList)) w17 fun (e19 : Ending) (w20 : World) => ∃ (c21 : Bool), e19 = Ending.returned (Value.bool
  c21) ∧ ∃ (R22 : List Own), ∃ (Φ23 : PW), Stable Φ23 ∧ Ctx W w20 (R22 ++ R18) Φ23 ∧ Br c21 (∀ (w24 : World) (R25 : List Own), Ctx W w24 (R22 ++ R25) Φ23 → J (Value.int IntKind.i64 n6) w24)
  (I64 (n6 + 1) ∧ ∃ (R26 : List Own), ∃ (Φ27 : PW), ∃ (k28 : Nat), Stable Φ27 ∧ (∀ (w29 : World) (R30 : List Own), Ctx W w29 (R22 ++ R30) Φ23 → Ctx W w29 (R26 ++ R30) Φ27) ∧ I0 (n6 + 1) R26
  Φ27 k28 ∧ k28 < k9)) (∀ (w31 : World) (R32 : List Own), Ctx W w31 (R7 ++ R32) I8 → J (Value.int IntKind.i64 (-1)) w31)

theorem Bslices_IndexFunc_api_Value_api_Value_run (sP : Option Addr) (sN sC : Nat) (fF : FuncId) (fC : Array Value) {W w : World} {R : List Own} {Φ : PW} [Stable Φ] {J : Value → World → Prop} (c : Ctx W w R Φ) (h : Bslices_IndexFunc_api_Value_api_Value sP sN sC fF fC W R Φ J) : Calls Tryz.prog F.slices_IndexFunc_api_Value_api_Value #[.slice sP sN sC, .func (.func fF) #[] fC] w fun e w' => ∃ v, e = .returned v ∧ J v w' :=
  vcFS_sound (H := { keep := some [0, 1, 4, 5, 7, 8, 9, 16], wrap := [16], loops := [(2, [(8, .one (.int .i64))], [])] }) (by rw [show vcFS Tryz.prog W { keep := some [0, 1, 4, 5, 7, 8, 9, 16], wrap := [16], loops := [(2, [(8, .one (.int .i64))], [])] } F.slices_IndexFunc_api_Value_api_Value #[.slice sP sN sC, .func (.func fF) #[] fC] R Φ J = Bslices_IndexFunc_api_Value_api_Value sP sN sC fF fC W R Φ J by kernel_rfl]; exact h) c

/-- value.Int -/
-- known blocks: 2 
def Bvalue_Int (n : Int) (W : World) (R : List Own) (Φ : PW) (J : Value → World → Prop) : Prop :=
  ∀ (b : Nat) (w0 : World) (R1 : List Own), Ctx W w0 (R ++ R1) Φ → J (Value.agg #[Value.int IntKind.i64 0, Value.int IntKind.i64 n, Value.string (ByteArray.mk #[])]) w0

theorem Bvalue_Int_run (n : Int) {W w : World} {R : List Own} {Φ : PW} [Stable Φ] {J : Value → World → Prop} (c : Ctx W w R Φ) (h : Bvalue_Int n W R Φ J) : Calls Tryz.prog F.value_Int #[.int .i64 n] w fun e w' => ∃ v, e = .returned v ∧ J v w' :=
  vcFS_sound (H := { keep := some [0, 2], track := [2] }) (by rw [show vcFS Tryz.prog W { keep := some [0, 2], track := [2] } F.value_Int #[.int .i64 n] R Φ J = Bvalue_Int n W R Φ J by kernel_rfl]; exact h) c

/-- value.Text -/
-- known blocks: 2 
def Bvalue_Text (s : ByteArray) (W : World) (R : List Own) (Φ : PW) (J : Value → World → Prop) : Prop :=
  ∀ (b : Nat) (w0 : World) (R1 : List Own), Ctx W w0 (R ++ R1) Φ → J (Value.agg #[Value.int IntKind.i64 1, Value.int IntKind.i64 0, Value.string s]) w0

theorem Bvalue_Text_run (s : ByteArray) {W w : World} {R : List Own} {Φ : PW} [Stable Φ] {J : Value → World → Prop} (c : Ctx W w R Φ) (h : Bvalue_Text s W R Φ J) : Calls Tryz.prog F.value_Text #[.string s] w fun e w' => ∃ v, e = .returned v ∧ J v w' :=
  vcFS_sound (H := { keep := some [0, 2], track := [2] }) (by rw [show vcFS Tryz.prog W { keep := some [0, 2], track := [2] } F.value_Text #[.string s] R Φ J = Bvalue_Text s W R Φ J by kernel_rfl]; exact h) c

/-- value.Bool -/
-- known blocks: 2 
def Bvalue_Bool (b : Bool) (W : World) (R : List Own) (Φ : PW) (J : Value → World → Prop) : Prop :=
  ∀ (b_1 : Nat), Br b (∀ (w0 : World) (R1 : List Own), Ctx W w0 (R ++ R1) Φ → J (Value.agg #[Value.int IntKind.i64 2, Value.int IntKind.i64 1, Value.string (ByteArray.mk #[])]) w0) (∀ (w2 :
  World) (R3 : List Own), Ctx W w2 (R ++ R3) Φ → J (Value.agg #[Value.int IntKind.i64 2, Value.int IntKind.i64 0, Value.string (ByteArray.mk #[])]) w2)

theorem Bvalue_Bool_run (b : Bool) {W w : World} {R : List Own} {Φ : PW} [Stable Φ] {J : Value → World → Prop} (c : Ctx W w R Φ) (h : Bvalue_Bool b W R Φ J) : Calls Tryz.prog F.value_Bool #[.bool b] w fun e w' => ∃ v, e = .returned v ∧ J v w' :=
  vcFS_sound (H := { keep := some [0, 2, 3], track := [2] }) (by rw [show vcFS Tryz.prog W { keep := some [0, 2, 3], track := [2] } F.value_Bool #[.bool b] R Φ J = Bvalue_Bool b W R Φ J by kernel_rfl]; exact h) c

end Go.Proofs.YtjlfpkgjcffilaaGreatDoor
end

section
namespace Go.Proofs.YtjlfpkgjcffilaaGreatDoor
set_option linter.unusedVariables false
set_option linter.unusedSimpArgs false
open Go.Vc

/-- slices.isNaN[int] -/
def Qslices_isNaN_int (x : Int) (w : World) (J : Value → World → Prop) : Prop :=
  J (Value.bool (decide (x ≠ x))) w

theorem Qslices_isNaN_int_run (x : Int) (w : World) (J : Value → World → Prop) (h : Qslices_isNaN_int x w J) : Calls Tryz.prog F.slices_isNaN_int #[.int .i64 x] w fun e w' => ∃ v, e = .returned v ∧ J v w' :=
  vcF_sound (H := { keep := some [0, 2] }) (by rw [show vcF Tryz.prog { keep := some [0, 2] } F.slices_isNaN_int #[.int .i64 x] w J = Qslices_isNaN_int x w J by kernel_rfl]; exact h)

/-- cmp.isNaN[int] -/
def Qcmp_isNaN_int (x : Int) (w : World) (J : Value → World → Prop) : Prop :=
  J (Value.bool (decide (x ≠ x))) w

theorem Qcmp_isNaN_int_run (x : Int) (w : World) (J : Value → World → Prop) (h : Qcmp_isNaN_int x w J) : Calls Tryz.prog F.cmp_isNaN_int #[.int .i64 x] w fun e w' => ∃ v, e = .returned v ∧ J v w' :=
  vcF_sound (H := { keep := some [0, 2] }) (by rw [show vcF Tryz.prog { keep := some [0, 2] } F.cmp_isNaN_int #[.int .i64 x] w J = Qcmp_isNaN_int x w J by kernel_rfl]; exact h)

end Go.Proofs.YtjlfpkgjcffilaaGreatDoor
end

/-
  CONTRACTS over what a walk owns: a function that hands back a plain value, or plain data.
-/
section
set_option linter.unusedVariables false
set_option linter.unusedSimpArgs false
namespace Go.Vc

section
variable {P : Program} {W w : World} {S F : List Own} {Φ Ψ : PW}

/-- the function only looks: it hands back v, and the world is as it was -/
structure Quiet (P : Program) (f : FuncId) (args : Array Value) (v : Value) : Prop where
  go : ∀ w, Calls P f args w fun e w' => e = .returned v ∧ w' = w

/-- the function hands back v; all that is owned or known stays -/
structure Gives (P : Program) (f : FuncId) (args : Array Value) (v : Value) : Prop where
  go : ∀ (W w : World) (S : List Own) (Φ : PW), Stable Φ → Ctx W w S Φ → Calls P f args w fun e w' => e = .returned v ∧ Ctx W w' S Φ

theorem Quiet.at {f : FuncId} {args : Array Value} {v : Value} (h : Quiet P f args v) {w w0 : World} (e : w = w0) : Calls P f args w fun e w' => e = .returned v ∧ w' = w0 := by subst e; exact h.go w
theorem Quiet.gives {f : FuncId} {args : Array Value} {v : Value} (h : Quiet P f args v) : Gives P f args v :=
  ⟨fun W w S Φ _ c => (h.go w).mono fun e w' ⟨h1, h2⟩ => by subst h2; exact ⟨h1, c⟩⟩

theorem Gives.use {f : FuncId} {args : Array Value} {v : Value} (h : Gives P f args v) [hs : Stable Φ] (c : Ctx W w S Φ) {K : Ending → World → Prop} (hk : ∀ w', Ctx W w' S Φ → K (.returned v) w') : Calls P f args w K :=
  (h.go W w S Φ hs c).mono fun e w' ⟨he, c'⟩ => by subst he; exact hk w' c'

theorem gives_of {f : FuncId} {args : Array Value} {v : Value} {B : World → List Own → PW → (Value → World → Prop) → Prop}
    (run : ∀ {W w : World} {R : List Own} {Φ : PW} [Stable Φ] {J : Value → World → Prop}, Ctx W w R Φ → B W R Φ J → Calls P f args w fun e w' => ∃ v, e = .returned v ∧ J v w')
    (h : ∀ (W : World) (R : List Own) (Φ : PW), Stable Φ → B W R Φ fun u w' => u = v ∧ Ctx W w' R Φ) : Gives P f args v :=
  ⟨fun W w S Φ hs c => calls_of (run c (h W S Φ hs)) fun u w' ⟨h1, h2⟩ => ⟨by rw [h1], h2⟩⟩

/-- .. where Φ is known -/
structure GivesIn (Φ : PW) (P : Program) (f : FuncId) (args : Array Value) (v : Value) : Prop where
  go : ∀ (W w : World) (S : List Own), Ctx W w S Φ → Calls P f args w fun e w' => e = .returned v ∧ Ctx W w' S Φ

theorem GivesIn.use {f : FuncId} {args : Array Value} {v : Value} (h : GivesIn Φ P f args v) (c : Ctx W w S Φ) {K : Ending → World → Prop} (hk : ∀ w', Ctx W w' S Φ → K (.returned v) w') : Calls P f args w K :=
  (h.go W w S c).mono fun e w' ⟨he, c'⟩ => by subst he; exact hk w' c'

theorem Gives.in [hs : Stable Φ] {f : FuncId} {args : Array Value} {v : Value} (h : Gives P f args v) : GivesIn Φ P f args v := ⟨fun W w S c => h.go W w S Φ hs c⟩

theorem gives_in [Stable Φ] {f : FuncId} {args : Array Value} {v : Value} {B : World → List Own → PW → (Value → World → Prop) → Prop}
    (run : ∀ {W w : World} {R : List Own} {Φ : PW} [Stable Φ] {J : Value → World → Prop}, Ctx W w R Φ → B W R Φ J → Calls P f args w fun e w' => ∃ v, e = .returned v ∧ J v w')
    (h : ∀ (W : World) (R : List Own), B W R Φ fun u w' => u = v ∧ Ctx W w' R Φ) : GivesIn Φ P f args v :=
  ⟨fun W w S c => calls_of (run c (h W S)) fun u w' ⟨h1, h2⟩ => ⟨by rw [h1], h2⟩⟩

/-- without the frame -/
theorem Ctx.left [Stable Φ] (c : Ctx W w (S ++ F) Φ) : Ctx W w S Φ := c.sub (List.sublist_append_left _ _)
theorem Ctx.right [Stable Φ] (c : Ctx W w (S ++ F) Φ) : Ctx W w F Φ := c.sub (List.sublist_append_right _ _)
theorem Ctx.fst [Stable Φ] [Stable Ψ] (c : Ctx W w S (fun M w => Φ M w ∧ Ψ M w)) : Ctx W w S Φ := c.weak fun _ _ h => h.1

/-- a row out of cells that are written out -/
theorem rows_of {cs vs : List Value} {o : Nat} (h : (cs.drop o).take vs.length = vs) : ∀ j, (hj : j < vs.length) → cs[o + j]? = some vs[j] := by
  intro j hj
  have h1 : ((cs.drop o).take vs.length)[j]? = vs[j]? := by rw [h]
  rw [List.getElem?_take_of_lt hj, List.getElem?_drop] at h1
  rw [h1, List.getElem?_eq_getElem hj]

theorem quiet_of {f : FuncId} {args : Array Value} {v : Value} {B : World → (Value → World → Prop) → Prop}
    (run : ∀ (w : World) (J : Value → World → Prop), B w J → Calls P f args w fun e w' => ∃ v, e = .returned v ∧ J v w')
    (h : ∀ w, B w fun u w' => u = v ∧ w' = w) : Quiet P f args v :=
  ⟨fun w => calls_of (run w _ (h w)) fun u w' ⟨h1, h2⟩ => ⟨by rw [h1], h2⟩⟩

end

/-! ### data that is read at several points: its cells are named -/
/-- the cells of the elements, at this place -/
def Pin {α : Type} [Gv α] (b o : Nat) (cs : List (List Value)) (l : List α) (M : List Nat) (w : World) : Prop :=
  ∀ j, (hj : j < l.length) → b ∉ M ∧ RowAt w b (o + j * (Gv.ty α).size) (cs.getD j []) ∧ Gv.rep M w (cs.getD j []) l[j]

instance instStablePin {α : Type} [Gv α] (b o : Nat) (cs : List (List Value)) (l : List α) : Stable (fun M w => Pin b o cs l M w) := ⟨fun hs h j hj => by
  obtain ⟨h2, h3, h4⟩ := h j hj
  have hlt := row_lt h3 (by rw [Gv.len h4]; exact Gv.pos)
  exact ⟨fun hm => by rcases hs.sub b hm with h | h; exact h2 h; omega, hs.chg.row h3 h2, Gv.stable hs h4⟩⟩

theorem Sl.pin {α : Type} [Gv α] {M : List Nat} {w : World} {p : Option Addr} {l : List α} (h : Sl M w p l) : ∃ b o cs, (0 < l.length → p = some ⟨b, o, none⟩) ∧ Pin b o cs l M w := by
  by_cases h0 : 0 < l.length
  · obtain ⟨b, o, _, hp, _⟩ := h 0 h0
    have key : ∀ j, j < l.length → ∃ cs : List Value, ∀ hj : j < l.length, b ∉ M ∧ RowAt w b (o + j * (Gv.ty α).size) cs ∧ Gv.rep M w cs l[j] := by
      intro j hj
      obtain ⟨b', o', cs, h1, h2, h3, h4⟩ := h j hj
      rw [hp] at h1
      cases h1
      exact ⟨cs, fun _ => ⟨h2, h3, h4⟩⟩
    obtain ⟨cs, hl, hcs⟩ := list_build l.length key
    refine ⟨b, o, cs, fun _ => hp, fun j hj => ?_⟩
    have := hcs j (by omega) hj
    rw [show cs.getD j [] = cs[j] by simp [List.getD, show j < cs.length by omega]]
    exact this
  · exact ⟨0, 0, [], fun h => absurd h h0, fun j hj => by omega⟩

theorem Ctx.pin {W w : World} {S : List Own} {Φ : PW} (c : Ctx W w S Φ) {α : Type} [Gv α] {p : Option Addr} {l : List α} (h : Sl (dom S) w p l) :
    ∃ b o cs, (0 < l.length → p = some ⟨b, o, none⟩) ∧ Ctx W w S (fun M w => Φ M w ∧ Pin b o cs l M w) := by
  obtain ⟨b, o, cs, hp, hpin⟩ := h.pin
  exact ⟨b, o, cs, hp, c.add hpin⟩

theorem GivesIn.pinned {Φ : PW} [Stable Φ] {P : Program} {f : FuncId} {args : Array Value} {v : Value} {α : Type} [Gv α] {p : Option Addr} {l : List α} (hΦ : ∀ M w, Φ M w → Sl M w p l)
    (h : ∀ b o cs, (0 < l.length → p = some ⟨b, o, none⟩) → GivesIn (fun M w => Φ M w ∧ Pin b o cs l M w) P f args v) : GivesIn Φ P f args v :=
  ⟨fun W w S c => by
    obtain ⟨b, o, cs, hp, c'⟩ := c.pin (hΦ _ _ c.phi)
    exact ((h b o cs hp).go W w S c').mono fun e w' ⟨h1, h2⟩ => ⟨h1, h2.fst⟩⟩

end Go.Vc
end

/-
  What is owned is laid aside while a call reads it; functions that hand back a slice of plain data.
-/
section
set_option linter.unusedVariables false
set_option linter.unusedSimpArgs false
namespace Go.Vc

section
variable {P : Program} {W w : World} {S F : List Own} {Φ Ψ : PW}

/-- what is owned, laid aside: nobody writes it -/
def Parked (W : World) (o : Own) (M : List Nat) (w : World) : Prop := o.at w ∧ ∀ b ∈ o.dom, b ∉ M ∧ W.heap.size ≤ b

instance instStableParked (W : World) (o : Own) : Stable (fun M w => Parked W o M w) := ⟨fun hs h =>
  ⟨Own.at_keep h.1 fun b hb => hs.chg.block b (Own.at_lt h.1 b hb) (h.2 b hb).1, fun b hb => ⟨fun hm => by
    rcases hs.sub b hm with h1 | h1
    · exact (h.2 b hb).1 h1
    · have := Own.at_lt h.1 b hb; omega, (h.2 b hb).2⟩⟩⟩

instance instStableMore (D : List Nat) (Φ : PW) [Stable Φ] : Stable (fun M w => Φ (D ++ M) w) := ⟨fun {M M' w w'} hs h =>
  Stable.step (Φ := Φ) (M := D ++ M) (M' := D ++ M') ⟨hs.chg.mono fun x hx => List.mem_append_right _ hx, fun b hb => by
    rcases List.mem_append.1 hb with h | h
    · exact .inl (List.mem_append_left _ h)
    · rcases hs.sub b h with h | h
      · exact .inl (List.mem_append_right _ h)
      · exact .inr h⟩ h⟩

theorem Own.nodup (o : Own) : o.dom.Nodup := by
  cases o with
  | blk => simp [Own.dom]
  | obj => simp [Own.dom]
  | buf p => cases p <;> simp [Own.dom]

theorem dom_cons (o : Own) (S : List Own) : dom (o :: S) = o.dom ++ dom S := rfl

theorem Ctx.park {o : Own} (c : Ctx W w (o :: S) Φ) : Ctx W w S (fun M w => Φ (o.dom ++ M) w ∧ Parked W o M w) :=
  ⟨c.chg, fun x hx => c.own x (List.mem_cons_of_mem _ hx), fun b hb => c.young b (by rw [dom_cons]; exact List.mem_append_right _ hb),
    (by have := c.nodup; rw [dom_cons, List.nodup_append] at this; exact this.2.1), c.phi, c.own o List.mem_cons_self, fun b hb =>
      ⟨fun hm => by have := c.nodup; rw [dom_cons, List.nodup_append] at this; exact this.2.2 b hb b hm rfl, c.young b (by rw [dom_cons]; exact List.mem_append_left _ hb)⟩⟩

/-- the slice that is laid aside is plain data -/
theorem Parked.sl {α : Type} [Gv α] {M D : List Nat} {p : Option Addr} {n cap : Nat} {cs : List Value} {t : TypeId} {l : List α} (h : Parked W (.buf p n cap cs t (Gv.ty α).size) M w)
    (he : Elems (D ++ M) w cs l) : Sl M w p l := by
  obtain ⟨⟨h1, h2⟩, h3⟩ := h
  have hpos : 0 < (Gv.ty α).size := Gv.pos
  intro j hj
  have hle : (j + 1) * (Gv.ty α).size ≤ cs.length := by rw [he.1]; exact Nat.mul_le_mul_right _ hj
  rw [Nat.add_mul, Nat.one_mul] at hle
  rcases h2 with ⟨e, rfl⟩ | ⟨g, cap', cur, e, _, hg, hnc, hcm, hcs, htake⟩
  · rw [Nat.zero_mul] at h1; omega
  · cases e
    refine ⟨g, 0, (cs.drop (j * (Gv.ty α).size)).take (Gv.ty α).size, rfl, (h3 g (by simp [Own.dom])).1, fun i hi => ?_, ?_⟩
    · rw [Nat.zero_add]
      simp only [List.length_take, List.length_drop] at hi
      rw [List.getElem_take, List.getElem_drop]
      have hlt : j * (Gv.ty α).size + i < cs.length := by omega
      have h2 : ∀ k v, k < cs.length → cs[k]? = some v → cur[k]? = some v := by
        intro k v hk hv
        rw [← htake, List.getElem?_take_of_lt (by omega)] at hv
        simpa using hv
      have h2 := h2 _ _ hlt (List.getElem?_eq_getElem hlt)
      simp [World.cell?, hg, h2]
    · exact Gv.stable ⟨Chg.refl _ _, fun b hb => .inl (List.mem_append_right _ hb)⟩ (he.2 j hj)

/-- a slice with elements lies somewhere -/
def There (p : Option Addr) (n : Nat) : Prop := 0 < n → ∃ b o, p = some ⟨b, o, none⟩
theorem Sl.there {α : Type} [Gv α] {M : List Nat} {w : World} {p : Option Addr} {l : List α} (h : Sl M w p l) : There p l.length := fun h0 => by
  obtain ⟨b, o, _, h1, _⟩ := h 0 h0
  exact ⟨b, o, h1⟩
theorem Sl.nil {α : Type} [Gv α] {M : List Nat} {w : World} {p : Option Addr} : Sl M w p ([] : List α) := fun j hj => by simp at hj

theorem GivesIn.there {f : FuncId} {args : Array Value} {v : Value} {p : Option Addr} {n : Nat} (hΦ : ∀ M w, Φ M w → There p n) (h : There p n → GivesIn Φ P f args v) : GivesIn Φ P f args v :=
  ⟨fun W w S c => (h (hΦ _ _ c.phi)).go W w S c⟩

/-- the function hands back a slice of plain data, inside mk -/
structure GivesSl (Φ : PW) (P : Program) (f : FuncId) (args : Array Value) {α : Type} [Gv α] (l : List α) (mk : Value → Value) : Prop where
  go : ∀ (W w : World) (S : List Own), Ctx W w S Φ → Calls P f args w fun e w' => ∃ p cap, e = .returned (mk (.slice p l.length cap)) ∧ l.length ≤ cap ∧ cap ≤ maxLen ∧ Ctx W w' S (fun M w => Φ M w ∧ Sl M w p l)

theorem GivesSl.use {f : FuncId} {args : Array Value} {α : Type} [Gv α] {l : List α} {mk : Value → Value} (h : GivesSl Φ P f args l mk) (c : Ctx W w S Φ) {K : Ending → World → Prop}
    (hk : ∀ p cap w', l.length ≤ cap → cap ≤ maxLen → Ctx W w' S (fun M w => Φ M w ∧ Sl M w p l) → K (.returned (mk (.slice p l.length cap))) w') : Calls P f args w K :=
  (h.go W w S c).mono fun e w' ⟨p, cap, he, h1, h2, c'⟩ => by subst he; exact hk p cap w' h1 h2 c'

theorem gives_sl [Stable Φ] {f : FuncId} {args : Array Value} {α : Type} [Gv α] {l : List α} {mk : Value → Value} {B : World → List Own → PW → (Value → World → Prop) → Prop}
    (run : ∀ {W w : World} {R : List Own} {Φ : PW} [Stable Φ] {J : Value → World → Prop}, Ctx W w R Φ → B W R Φ J → Calls P f args w fun e w' => ∃ v, e = .returned v ∧ J v w')
    (h : ∀ (W : World) (R : List Own), B W R Φ fun u w' => ∃ p cap, u = mk (.slice p l.length cap) ∧ l.length ≤ cap ∧ cap ≤ maxLen ∧ Ctx W w' R (fun M w => Φ M w ∧ Sl M w p l)) : GivesSl Φ P f args l mk :=
  ⟨fun W w S c => calls_of (run c (h W S)) fun u w' ⟨p, cap, h1, h2⟩ => ⟨p, cap, by rw [h1], h2⟩⟩

theorem GivesSl.there {f : FuncId} {args : Array Value} {α : Type} [Gv α] {l : List α} {mk : Value → Value} {p : Option Addr} {n : Nat} (hΦ : ∀ M w, Φ M w → There p n) (h : There p n → GivesSl Φ P f args l mk) : GivesSl Φ P f args l mk :=
  ⟨fun W w S c => (h (hΦ _ _ c.phi)).go W w S c⟩

theorem GivesSl.pinned [Stable Φ] {f : FuncId} {args : Array Value} {β : Type} [Gv β] {r : List β} {mk : Value → Value} {α : Type} [Gv α] {p : Option Addr} {l : List α} (hΦ : ∀ M w, Φ M w → Sl M w p l)
    (h : ∀ b o cs, (0 < l.length → p = some ⟨b, o, none⟩) → GivesSl (fun M w => Φ M w ∧ Pin b o cs l M w) P f args r mk) : GivesSl Φ P f args r mk :=
  ⟨fun W w S c => by
    obtain ⟨b, o, cs, hp, c'⟩ := c.pin (hΦ _ _ c.phi)
    exact ((h b o cs hp).go W w S c').mono fun e w' ⟨p, cap, h1, h2, h3, h4⟩ => ⟨p, cap, h1, h2, h3, h4.weak fun _ _ h => ⟨h.1.1, h.2⟩⟩⟩

/-! ### append -/
def appB (P : Program) (ts t : TypeId) (size bytes : Nat) : Bool :=
  (match P.underlying ts with | some (.slice u) => decide (u = t) | _ => false) && (match P.info? t with
    | some i => (match i.zero with | some z => decide (z.cells.size = size) | none => false) && decide (i.size = size) && decide (i.bytes = bytes)
    | none => false)

theorem appB_out {ts t : TypeId} {size bytes : Nat} (h : appB P ts t size bytes = true) : ∃ i z, P.underlying ts = some (.slice t) ∧ P.info? t = some i ∧ i.zero = some z ∧ i.size = size ∧ z.cells.size = size ∧ i.bytes = bytes := by
  unfold appB at h
  rw [Bool.and_eq_true] at h
  obtain ⟨h1, h2⟩ := h
  split at h1
  · rename_i u hu
    have : u = t := by simpa using h1
    subst this
    split at h2
    · rename_i i hi
      simp only [Bool.and_eq_true] at h2
      obtain ⟨⟨h2, h3⟩, h4⟩ := h2
      split at h2
      · rename_i z hz
        exact ⟨i, z, hu, hi, hz, by simpa using h3, by simpa using h2, by simpa using h4⟩
      · cases h2
    · cases h2
  · cases h1

theorem run_app {ats : Array TypeId} {ty : TypeId} {cs : Array Bool} {args : Array Value} {v : Value} {w w' : World} (h : (Builtin.append_ ats ty args).run P w = .ok v w') : Sem.run P (builtin Builtin.append ats ty cs args) w = .ok (.value v) w' := by
  unfold builtin
  simp only [Sem.run_bind, h, Result.andThen, Sem.run_pure]

/-- append one element that was just made -/
theorem Ctx.app1 [Stable Φ] {b : Nat} {news : List Value} {t' : TypeId} {p : Option Addr} {n cap : Nat} {cs : List Value} {t : TypeId} {size bytes : Nat} (c : Ctx W w (.blk b news t' :: .buf p n cap cs t size :: S) Φ)
    {ts ty : TypeId} {kb : Array Bool} (hb : appB P ts t size bytes = true) (h0 : 0 < size) (hl : news.length = size) (h1 : (news.all fun u => oneC u) = true) (hlen : n < 100000000) (hbytes : bytes ≤ 1000) :
    ∃ p' cap' w', Sem.run P (builtin Builtin.append #[ts, ts] ty kb #[.slice p n cap, .slice (some ⟨b, 0, none⟩) 1 1]) w = .ok (.value (.slice p' (n + 1) cap')) w' ∧ (∃ g, p' = some ⟨g, 0, none⟩) ∧ Ctx W w' (.buf p' (n + 1) cap' (cs ++ news) t size :: S) Φ := by
  obtain ⟨i, z, e1, e2, e3, e4, e5, e6⟩ := appB_out hb
  have hby : (n + 1) * i.bytes ≤ 100000000 * 1000 := Nat.mul_le_mul (by omega) (by omega)
  obtain ⟨p', cap', w', h2, c'⟩ := c.append 1 rfl (ty := ty) e1 e2 e3 e4 e5 (a := ⟨b, 0, none⟩) (m := 1) (c2 := 1) (news := news) (by omega) (by rw [hl, Nat.one_mul]) (fun j u hj => by rw [addr_add, Nat.zero_add]; exact c.get 0 rfl hj)
    (fun u hu => List.all_eq_true.1 h1 u hu) (by omega) (by omega)
  refine ⟨p', cap', w', run_app h2, ?_, c'.drop1⟩
  obtain ⟨g, hg, _⟩ := c'.bufCell 1 rfl (by rw [List.length_append]; omega)
  exact ⟨g, hg⟩

/-- nothing is owned for an empty slice -/
theorem Ctx.nobuf [Stable Φ] (c : Ctx W w S Φ) (t : TypeId) (size : Nat) : Ctx W w (.buf none 0 0 [] t size :: S) Φ := c.buf0 t size

theorem Sl.less {α : Type} [Gv α] {M D : List Nat} {w : World} {p : Option Addr} {l : List α} (h : Sl (D ++ M) w p l) : Sl M w p l :=
  h.stable ⟨Chg.refl _ _, fun b hb => .inl (List.mem_append_right _ hb)⟩

/-- the function hands back a slice that it made, inside mk: the caller owns it -/
structure GivesBuf (Φ : PW) (P : Program) (f : FuncId) (args : Array Value) (n : Nat) (cells : List Value) (t : TypeId) (size : Nat) (mk : Value → Value) : Prop where
  go : ∀ (W w : World) (S : List Own), Ctx W w S Φ → Calls P f args w fun e w' => ∃ p cap, e = .returned (mk (.slice p n cap)) ∧ Ctx W w' (.buf p n cap cells t size :: S) Φ

theorem GivesBuf.use {f : FuncId} {args : Array Value} {n : Nat} {cells : List Value} {t : TypeId} {size : Nat} {mk : Value → Value} (h : GivesBuf Φ P f args n cells t size mk) (c : Ctx W w S Φ) {K : Ending → World → Prop}
    (hk : ∀ p cap w', Ctx W w' (.buf p n cap cells t size :: S) Φ → K (.returned (mk (.slice p n cap))) w') : Calls P f args w K :=
  (h.go W w S c).mono fun e w' ⟨p, cap, he, c'⟩ => by subst he; exact hk p cap w' c'

theorem GivesBuf.sl [Stable Φ] {f : FuncId} {args : Array Value} {α : Type} [Gv α] {l : List α} {cells : List Value} {t : TypeId} {mk : Value → Value} (h : GivesBuf Φ P f args l.length cells t (Gv.ty α).size mk)
    (he : ∀ M w, Φ M w → Elems M w cells l) : GivesSl Φ P f args l mk :=
  ⟨fun W w S c => (h.go W w S c).mono fun e w' ⟨p, cap, h1, c'⟩ => by
    obtain ⟨c2, hs, _, h2, h3⟩ := Ctx.freeze c' (he _ _ c'.phi)
    exact ⟨p, cap, h1, h2, h3, c2.add hs⟩⟩

theorem GivesBuf.pinned [Stable Φ] {f : FuncId} {args : Array Value} {n : Nat} {cells : List Value} {t : TypeId} {size : Nat} {mk : Value → Value} {α : Type} [Gv α] {p : Option Addr} {l : List α} (hΦ : ∀ M w, Φ M w → Sl M w p l)
    (h : ∀ b o cs, (0 < l.length → p = some ⟨b, o, none⟩) → GivesBuf (fun M w => Φ M w ∧ Pin b o cs l M w) P f args n cells t size mk) : GivesBuf Φ P f args n cells t size mk :=
  ⟨fun W w S c => by
    obtain ⟨b, o, cs, hp, c'⟩ := c.pin (hΦ _ _ c.phi)
    exact ((h b o cs hp).go W w S c').mono fun e w' ⟨p, cap, h1, h4⟩ => ⟨p, cap, h1, h4.fst⟩⟩

/-- a block that is laid aside is plain data -/
theorem Parked.blkSl {α : Type} [Gv α] {M : List Nat} {b : Nat} {cs : List Value} {t : TypeId} {l : List α} (h : Parked W (.blk b cs t) M w) (he : Elems M w cs l) : Sl M w (some ⟨b, 0, none⟩) l := by
  obtain ⟨h1, h2⟩ := h
  have h1 : Blk w b cs t := h1
  intro j hj
  have hle : (j + 1) * (Gv.ty α).size ≤ cs.length := by rw [he.1]; exact Nat.mul_le_mul_right _ hj
  rw [Nat.add_mul, Nat.one_mul] at hle
  refine ⟨b, 0, (cs.drop (j * (Gv.ty α).size)).take (Gv.ty α).size, rfl, (h2 b (by simp [Own.dom])).1, fun i hi => ?_, he.2 j hj⟩
  simp only [List.length_take, List.length_drop] at hi
  rw [Nat.zero_add, List.getElem_take, List.getElem_drop]
  exact h1.cell_eq (List.getElem?_eq_getElem (by omega))

/-- a block that is written no more is plain data -/
theorem Ctx.freezeBlk [Stable Φ] {α : Type} [Gv α] {b : Nat} {cs : List Value} {t : TypeId} {l : List α} (c : Ctx W w (.blk b cs t :: S) Φ) (he : Elems (dom (.blk b cs t :: S)) w cs l) : Ctx W w S Φ ∧ Sl (dom S) w (some ⟨b, 0, none⟩) l := by
  have c' := c.park
  refine ⟨c.drop1, c'.phi.2.blkSl ⟨he.1, fun j hj => ?_⟩⟩
  exact Gv.stable ⟨Chg.refl _ _, fun b hb => .inl (by rw [dom_cons]; exact List.mem_append_right _ hb)⟩ (he.2 j hj)

theorem Elems.two {α : Type} [Gv α] {M : List Nat} {cs ds : List Value} {x y : α} (h1 : Gv.rep M w cs x) (h2 : Gv.rep M w ds y) : Elems M w (cs ++ ds) [x, y] := Elems.snoc (l := [x]) (Elems.snoc (l := []) (cs := []) Elems.nil h1) h2
theorem Elems.one {α : Type} [Gv α] {M : List Nat} {cs : List Value} {x : α} (h1 : Gv.rep M w cs x) : Elems M w cs [x] := Elems.snoc (l := []) (cs := []) Elems.nil h1

end

end Go.Vc
end

