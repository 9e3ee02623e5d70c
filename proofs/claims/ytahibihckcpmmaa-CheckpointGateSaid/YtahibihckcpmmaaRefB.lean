/-
  The conditions of the walks of some functions, one formula each; 'B<f>_run' says that they suffice. The formulas are printed by a program; the kernel compares them with the functions' code.
-/
import Derived.Test.YtahibihckcpmmaaVcG
import Derived.Test.YtahibihckcpmmaaRows
namespace Go.Proofs.Ytahibihckcpmmaa
open Go.Vc

/-- erratalaw39.CheckpointGate -/
-- loop at region 25: 10 k
-- loop at region 9: 6 g, 8 i
def B4 (n : Int) (lP : Option Addr) (lN lC : Nat) (w : World) (J : Value → World → Prop) : Prop :=
  Calls Try.prog 5 #[] w fun (e0 : Ending) (w1 : World) => ∃ (c2 : Bool), e0 = Ending.returned (Value.bool c2) ∧ Br (decide (6 < n) || decide (60 < (↑lN : Int))) (J (Value.bool c2) w1) (Calls
  Try.prog 6 #[Value.int IntKind.i64 n] w1 fun (e3 : Ending) (w4 : World) => ∃ (p5 : Option Addr), e3 = Ending.returned (Value.pointer p5) ∧ Calls Try.prog 13 #[Value.int IntKind.i64 n] w4
  fun (e6 : Ending) (w7 : World) => ∃ (p8 : Option Addr), e6 = Ending.returned (Value.pointer p8) ∧ Br p5.isNone (J (Value.bool false) w7) (exI fun (I9 : Option Addr → Int → World → Prop) =>
  exI fun (I10 : Option Addr → Int → World → Nat) => I9 p5 0 w7 ∧ ∀ (p11 : Option Addr) (n12 : Int) (w13 : World), I9 p11 n12 w13 → Br (decide (n12 < (↑lN : Int))) ((0 ≤ n12 ∧ n12 < (↑lN :
  Int)) ∧ ptrK none lP fun (k14 k15 : Nat) => ∃ (n16 : Int), ∃ (n17 : Int), ∃ (n18 : Int), ∃ (n19 : Int), ∃ (n20 : Int), ∃ (n21 : Int), ∃ (n22 : Int), ∃ (n23 : Int), ∃ (p24 : Option Addr), ∃
  (k25 : Nat), ∃ (k26 : Nat), RowAt w13 k14 (k15 + n12.toNat * 9) [Value.int IntKind.i64 n16, Value.int IntKind.i64 n17, Value.int IntKind.i64 n18, Value.int IntKind.i64 n19, Value.int
  IntKind.i64 n20, Value.int IntKind.i64 n21, Value.int IntKind.i64 n22, Value.int IntKind.i64 n23, Value.slice p24 k25 k26] ∧ ∀ (w27 : World), w27 = w13.alloc (Obj.cells #[Value.int
  IntKind.i64 0, Value.int IntKind.i64 0, Value.int IntKind.i64 0, Value.int IntKind.i64 0, Value.int IntKind.i64 0, Value.int IntKind.i64 0, Value.int IntKind.i64 0, Value.int IntKind.i64 0,
  Value.slice none 0 0] 38) → CanWrite w27 w13.heap.size 0 9 ∧ ∀ (w28 : World), w28 = w27.setCells w13.heap.size 0 [Value.int IntKind.i64 n16, Value.int IntKind.i64 n17, Value.int IntKind.i64
  n18, Value.int IntKind.i64 n19, Value.int IntKind.i64 n20, Value.int IntKind.i64 n21, Value.int IntKind.i64 n22, Value.int IntKind.i64 n23, Value.slice p24 k25 k26] → exI fun (I29 : Option
  Addr → World → Prop) => (∃ (n30 : Int), w28.cell? (Addr.mk w13.heap.size 0 none) = some (Value.int IntKind.i64 n30) ∧ ∃ (n31 : Int), (∀ (w32 : World), Sem.run Try.prog (binOp BinOp.and 3
  (Value.int IntKind.i64 n30) (Value.int IntKind.i64 7)) w32 = Result.ok (Value.int IntKind.i64 n31) w32) ∧ Br (decide (n31 = 6)) (Calls Try.prog 14 #[Value.pointer p11] w28 fun (e33 :
  Ending) (w34 : World) => e33 = Ending.returned (Value.tuple #[]) ∧ Calls Try.prog 15 #[Value.pointer p8] w34 fun (e35 : Ending) (w36 : World) => e35 = Ending.returned (Value.tuple #[]) ∧
  I29 p11 w36) (Br (decide (n31 = 7)) (Calls Try.prog 16 #[Value.pointer p11] w28 fun (e37 : Ending) (w38 : World) => ∃ (p39 : Option Addr), e37 = Ending.returned (Value.pointer p39) ∧ Br
  p39.isNone (J (Value.bool false) w38) (I29 p39 w38)) (exI fun (I40 : World → Prop) => ∀ (w41 : World), w41 = w28.drewN 1 → I40 w41 ∧ ∃ (n42 : Int), (∀ (w43 : World), I40 w43 → ∃ (n44 :
  Int), w43.cell? (Addr.mk w13.heap.size 1 none) = some (Value.int IntKind.i64 n44) ∧ Value.int IntKind.i64 n44 = Value.int IntKind.i64 n42) ∧ ∃ (n45 : Int), ∃ (n46 : Int), ∃ (n47 : Int), ∃
  (n48 : Int), ∃ (n49 : Int), ∃ (p50 : Option Addr), ∃ (k51 : Nat), ∃ (k52 : Nat), (∀ (w53 : World), I40 w53 → ∃ (n54 : Int), ∃ (n55 : Int), ∃ (n56 : Int), ∃ (n57 : Int), ∃ (n58 : Int), ∃
  (p59 : Option Addr), ∃ (k60 : Nat), ∃ (k61 : Nat), RowAt w53 w13.heap.size 3 [Value.int IntKind.i64 n54, Value.int IntKind.i64 n55, Value.int IntKind.i64 n56, Value.int IntKind.i64 n57,
  Value.int IntKind.i64 n58, Value.slice p59 k60 k61] ∧ Value.agg #[Value.int IntKind.i64 n54, Value.int IntKind.i64 n55, Value.int IntKind.i64 n56, Value.int IntKind.i64 n57, Value.int
  IntKind.i64 n58, Value.slice p59 k60 k61] = Value.agg #[Value.int IntKind.i64 n45, Value.int IntKind.i64 n46, Value.int IntKind.i64 n47, Value.int IntKind.i64 n48, Value.int IntKind.i64
  n49, Value.slice p50 k51 k52]) ∧ ∃ (n62 : Int), (∀ (w63 : World), I40 w63 → ∃ (n64 : Int), w63.cell? (Addr.mk w13.heap.size 2 none) = some (Value.int IntKind.i64 n64) ∧ Value.int
  IntKind.i64 n64 = Value.int IntKind.i64 n62) ∧ ∃ (n65 : Int), (∀ (w66 : World), I40 w66 → ∃ (n67 : Int), w66.cell? (Addr.mk w13.heap.size 1 none) = some (Value.int IntKind.i64 n67) ∧
  Value.int IntKind.i64 n67 = Value.int IntKind.i64 n65) ∧ ∃ (n68 : Int), ∃ (n69 : Int), ∃ (n70 : Int), ∃ (n71 : Int), ∃ (n72 : Int), ∃ (p73 : Option Addr), ∃ (k74 : Nat), ∃ (k75 : Nat), (∀
  (w76 : World), I40 w76 → ∃ (n77 : Int), ∃ (n78 : Int), ∃ (n79 : Int), ∃ (n80 : Int), ∃ (n81 : Int), ∃ (p82 : Option Addr), ∃ (k83 : Nat), ∃ (k84 : Nat), RowAt w76 w13.heap.size 3 [Value.int
  IntKind.i64 n77, Value.int IntKind.i64 n78, Value.int IntKind.i64 n79, Value.int IntKind.i64 n80, Value.int IntKind.i64 n81, Value.slice p82 k83 k84] ∧ Value.agg #[Value.int IntKind.i64
  n77, Value.int IntKind.i64 n78, Value.int IntKind.i64 n79, Value.int IntKind.i64 n80, Value.int IntKind.i64 n81, Value.slice p82 k83 k84] = Value.agg #[Value.int IntKind.i64 n68, Value.int
  IntKind.i64 n69, Value.int IntKind.i64 n70, Value.int IntKind.i64 n71, Value.int IntKind.i64 n72, Value.slice p73 k74 k75]) ∧ ∃ (n85 : Int), (∀ (w86 : World), I40 w86 → ∃ (n87 : Int),
  w86.cell? (Addr.mk w13.heap.size 2 none) = some (Value.int IntKind.i64 n87) ∧ Value.int IntKind.i64 n87 = Value.int IntKind.i64 n85) ∧ Calls Try.prog 10 #[Value.pointer p11, Value.int
  IntKind.i64 n42, Value.agg #[Value.int IntKind.i64 n45, Value.int IntKind.i64 n46, Value.int IntKind.i64 n47, Value.int IntKind.i64 n48, Value.int IntKind.i64 n49, Value.slice p50 k51 k52],
  Value.int IntKind.i64 n62] w41 fun (e88 : Ending) (w89 : World) => ∃ (n90 : Int), e88 = Ending.returned (Value.int IntKind.i64 n90) ∧ I40 w89 ∧ Calls Try.prog 17 #[Value.pointer p8,
  Value.int IntKind.i64 n65, Value.agg #[Value.int IntKind.i64 n68, Value.int IntKind.i64 n69, Value.int IntKind.i64 n70, Value.int IntKind.i64 n71, Value.int IntKind.i64 n72, Value.slice p73
  k74 k75], Value.int IntKind.i64 n85] w89 fun (e91 : Ending) (w92 : World) => ∃ (n93 : Int), e91 = Ending.returned (Value.int IntKind.i64 n93) ∧ I40 w92 ∧ Br (decide (n90 ≠ n93)) (J
  (Value.bool false) w92) (I29 p11 w92)))) ∧ ∀ (p94 : Option Addr) (w95 : World), I29 p94 w95 → ∃ (c96 : Bool), (∀ (w97 : World), (∃ (k98 : Nat), w97 = w95.drewN k98) → Calls Try.prog 11
  #[Value.pointer p94] w97 fun (e99 : Ending) (w100 : World) => e99 = Ending.returned (Value.bool c96) ∧ ∃ (k101 : Nat), w100 = w95.drewN k101) ∧ ptrK none p8 fun (k102 k103 : Nat) => ∃ (n104
  : Int), w95.cell? (Addr.mk k102 (k103 + 1) none) = some (Value.int IntKind.i64 n104) ∧ ∃ (n105 : Int), ((!c96 != decide (0 < n104)) = true → ∀ (w106 : World), (∃ (k107 : Nat), w106 =
  w95.drewN k107) → Calls Try.prog 12 #[Value.pointer p94] w106 fun (e108 : Ending) (w109 : World) => e108 = Ending.returned (Value.int IntKind.i64 n105) ∧ ∃ (k110 : Nat), w109 = w95.drewN
  k110) ∧ ptrK (some !c96 != decide (0 < n104)) p8 fun (k111 k112 : Nat) => ∃ (n113 : Int), ((!c96 != decide (0 < n104)) = true → w95.cell? (Addr.mk k111 (k112 + 1) none) = some (Value.int
  IntKind.i64 n113)) ∧ ∀ (k114 : Nat), Br (c96 != decide (0 < n104) || decide (n105 ≠ n113)) (J (Value.bool false) (w95.drewN k114)) (exI fun (I115 : Int → World → Prop) => exI fun (I116 :
  Int → World → Nat) => I115 0 (w95.drewN k114) ∧ ∀ (n117 : Int) (w118 : World), I115 n117 w118 → ptrK none p8 fun (k119 k120 : Nat) => ∃ (p121 : Option Addr), ∃ (k122 : Nat), ∃ (k123 : Nat),
  w118.cell? (Addr.mk k119 k120 none) = some (Value.slice p121 k122 k123) ∧ Br (decide (n117 < (↑k122 : Int))) (∃ (c124 : Bool), (∀ (w125 : World), (∃ (k126 : Nat), w125 = w118.drewN k126) →
  Calls Try.prog 18 #[Value.pointer p94, Value.int IntKind.i64 n117] w125 fun (e127 : Ending) (w128 : World) => e127 = Ending.returned (Value.bool c124) ∧ ∃ (k129 : Nat), w128 = w118.drewN
  k129) ∧ ptrK none p8 fun (k130 k131 : Nat) => ∃ (p132 : Option Addr), ∃ (k133 : Nat), ∃ (k134 : Nat), w118.cell? (Addr.mk k130 k131 none) = some (Value.slice p132 k133 k134) ∧ (0 ≤ n117 ∧
  n117 < (↑k133 : Int)) ∧ ptrK none p132 fun (k135 k136 : Nat) => ∃ (c137 : Bool), w118.cell? (Addr.mk k135 (k136 + n117.toNat) none) = some (Value.bool c137) ∧ ∀ (k138 : Nat), Br (c124 !=
  c137) (J (Value.bool false) (w118.drewN k138)) (I64 (n117 + 1) ∧ I115 (n117 + 1) (w118.drewN k138) ∧ I116 (n117 + 1) (w118.drewN k138) < I116 n117 w118)) (∃ (c139 : Bool), (∀ (w140 :
  World), w140 = w118 → Calls Try.prog 18 #[Value.pointer p94, Value.int IntKind.i64 (-1)] w140 fun (e141 : Ending) (w142 : World) => e141 = Ending.returned (Value.bool c139) ∧ w142 = w118) ∧
  ptrK (some !c139) p8 fun (k143 k144 : Nat) => ∃ (p145 : Option Addr), ∃ (k146 : Nat), ∃ (k147 : Nat), ((!c139) = true → w118.cell? (Addr.mk k143 k144 none) = some (Value.slice p145 k146
  k147)) ∧ ∃ (c148 : Bool), ((!c139) = true → ∀ (w149 : World), w149 = w118 → Calls Try.prog 18 #[Value.pointer p94, Value.int IntKind.i64 (↑k146 : Int)] w149 fun (e150 : Ending) (w151 :
  World) => e150 = Ending.returned (Value.bool c148) ∧ w151 = w118) ∧ Br (c139 || c148) (J (Value.bool false) w118) (I64 (n12 + 1) ∧ I9 p94 (n12 + 1) w118 ∧ I10 p94 (n12 + 1) w118 < I10 p11
  n12 w13)))) (J (Value.bool c2) w13)))

theorem B4_run (n : Int) (lP : Option Addr) (lN lC : Nat) (w : World) (J : Value → World → Prop) (h : B4 n lP lN lC w J) : Calls Try.prog 4 #[.int .i64 n, .slice lP lN lC] w fun e w' => ∃ v, e = .returned v ∧ J v w' :=
  vcF_sound (H := { keep := some [0, 1, 4, 5, 6, 7, 8, 9, 10, 18, 25, 29, 38, 55, 56, 62, 67, 84, 91, 104, 115], held := [(13, [(0, true), (1, true), (2, true), (3, true), (4, true), (5, true), (6, true), (8, true), (9, true), (10, true), (11, true), (12, true), (13, true), (14, true), (7, false), (15, false), (16, true)])], loops := [(25, [(10, .one (.int .i64))]), (9, [(6, .one (.ptr)), (8, .one (.int .i64))])], cuts := [(22, [(6, .one (.ptr))])] }) (by rw [show vcF Try.prog { keep := some [0, 1, 4, 5, 6, 7, 8, 9, 10, 18, 25, 29, 38, 55, 56, 62, 67, 84, 91, 104, 115], held := [(13, [(0, true), (1, true), (2, true), (3, true), (4, true), (5, true), (6, true), (8, true), (9, true), (10, true), (11, true), (12, true), (13, true), (14, true), (7, false), (15, false), (16, true)])], loops := [(25, [(10, .one (.int .i64))]), (9, [(6, .one (.ptr)), (8, .one (.int .i64))])], cuts := [(22, [(6, .one (.ptr))])] } 4 #[.int .i64 n, .slice lP lN lC] w J = B4 n lP lN lC w J by kernel_rfl]; exact h)

/-- errataref39.NewGate -/
def B13 (n : Int) (w : World) (J : Value → World → Prop) : Prop :=
  (0 ≤ max 0 n ∧ max 0 n ≤ max 0 n ∧ 1 * max 0 n ≤ 281474976710656 ∧ max 0 n ≤ 9223372036854775807) ∧ ∀ (w0 : World), w0 = w.alloc (Obj.cells (Array.mk (List.replicate (max 0 n).toNat
  (Value.bool false))) 4) → ∀ (w1 : World), w1 = w0.alloc (Obj.cells #[Value.slice (some (Addr.mk w.heap.size 0 none)) (max 0 n).toNat (max 0 n).toNat, Value.int IntKind.i64 0, Value.int
  IntKind.i64 0] 42) → J (Value.pointer (some (Addr.mk w0.heap.size 0 none))) w1

theorem B13_run (n : Int) (w : World) (J : Value → World → Prop) (h : B13 n w J) : Calls Try.prog 13 #[.int .i64 n] w fun e w' => ∃ v, e = .returned v ∧ J v w' :=
  vcF_sound (H := { keep := some [0, 2] }) (by rw [show vcF Try.prog { keep := some [0, 2] } 13 #[.int .i64 n] w J = B13 n w J by kernel_rfl]; exact h)

/-- (*errataref39.Gate).Cancel -/
def B15 (gB gO : Nat) (w : World) (J : Value → World → Prop) : Prop :=
  CanWrite w gB (gO + 1) 1 ∧ ∀ (w0 : World), w0 = w.setCell (Addr.mk gB (gO + 1) none) (Value.int IntKind.i64 0) → ∃ (p1 : Option Addr), ∃ (k2 : Nat), ∃ (k3 : Nat), w0.cell? (Addr.mk gB gO
  none) = some (Value.slice p1 k2 k3) ∧ (0 ≤ (↑k2 : Int) ∧ (↑k2 : Int) ≤ (↑k2 : Int) ∧ 1 * (↑k2 : Int) ≤ 281474976710656 ∧ (↑k2 : Int) ≤ 9223372036854775807) ∧ ∀ (w4 : World), w4 = w0.alloc
  (Obj.cells (Array.mk (List.replicate (↑k2 : Int).toNat (Value.bool false))) 4) → CanWrite w4 gB gO 1 ∧ ∀ (w5 : World), w5 = w4.setCell (Addr.mk gB gO none) (Value.slice (some (Addr.mk
  w0.heap.size 0 none)) (↑k2 : Int).toNat (↑k2 : Int).toNat) → J (Value.tuple #[]) w5

theorem B15_run (gB gO : Nat) (w : World) (J : Value → World → Prop) (h : B15 gB gO w J) : Calls Try.prog 15 #[.pointer (some ⟨gB, gO, none⟩)] w fun e w' => ∃ v, e = .returned v ∧ J v w' :=
  vcF_sound (H := { keep := some [0] }) (by rw [show vcF Try.prog { keep := some [0] } 15 #[.pointer (some ⟨gB, gO, none⟩)] w J = B15 gB gO w J by kernel_rfl]; exact h)

/-- (*checkpoint.Gate).Copy -/
-- loop at region 4: 
def B16 (gB gO : Nat) (w : World) (J : Value → World → Prop) : Prop :=
  ∃ (n0 : Int), ∃ (p1 : Option Nat), ∃ (n2 : Int), ∃ (n3 : Int), RowAt w gB gO [Value.int IntKind.i64 n0, Value.map p1, Value.int IntKind.i64 n2, Value.int IntKind.i64 n3] ∧ ∀ (w4 : World),
  w4 = w.alloc (Obj.cells #[Value.int IntKind.i64 0, Value.map none, Value.int IntKind.i64 0, Value.int IntKind.i64 0] 47) → CanWrite w4 w.heap.size 0 4 ∧ ∀ (w5 : World), w5 = w4.setCells
  w.heap.size 0 [Value.int IntKind.i64 n0, Value.map p1, Value.int IntKind.i64 n2, Value.int IntKind.i64 n3] → ∀ (w6 : World), w6 = w5.alloc (Obj.map #[] 0) → CanWrite w6 w.heap.size 1 1 ∧ ∀
  (w7 : World), w7 = w6.setCell (Addr.mk w.heap.size 1 none) (Value.map (some w5.heap.size)) → ∃ (p8 : Option Nat), w7.cell? (Addr.mk gB (gO + 1) none) = some (Value.map p8) ∧ ∃ (p9 : Option
  Addr), ∃ (w10 : World), Sem.run Try.prog (Instr.range 45 (Value.map p8)) w7 = Result.ok (Value.pointer p9) w10 ∧ exI fun (I11 : World → Prop) => exI fun (I12 : World → Nat) => I11 w10 ∧ ∀
  (w13 : World), I11 w13 → (∃ (w14 : World), Sem.run Try.prog (Instr.next (Value.pointer p9) false 0) w13 = Result.ok (Value.tuple #[Value.bool false]) w14 ∧ J (Value.pointer (some (Addr.mk
  w.heap.size 0 none))) w14) ∨ ∃ (v15 : Value), ∃ (v16 : Value), ∃ (w17 : World), Sem.run Try.prog (Instr.next (Value.pointer p9) false 0) w13 = Result.ok (Value.tuple #[Value.bool true, v15,
  v16]) w17 ∧ ∃ (n18 : Int), ∃ (v19 : Value), ∃ (w20 : World), Sem.run Try.prog (Instr.entry (Value.pointer p9)) w17 = Result.ok (Value.tuple #[Value.int IntKind.i64 n18, v19]) w20 ∧ ∃ (p21 :
  Option Nat), w20.cell? (Addr.mk w.heap.size 1 none) = some (Value.map p21) ∧ ∃ (w22 : World), Sem.run Try.prog (Instr.mapUpdate 45 (Value.map p21) (Value.int IntKind.i64 n18) (Value.bool
  true)) w20 = Result.ok () w22 ∧ I11 w22 ∧ I12 w22 < I12 w13

theorem B16_run (gB gO : Nat) (w : World) (J : Value → World → Prop) (h : B16 gB gO w J) : Calls Try.prog 16 #[.pointer (some ⟨gB, gO, none⟩)] w fun e w' => ∃ v, e = .returned v ∧ J v w' :=
  vcF_sound (H := { keep := some [0, 2, 3, 4, 14, 16], loops := [(4, [])] }) (by rw [show vcF Try.prog { keep := some [0, 2, 3, 4, 14, 16], loops := [(4, [])] } 16 #[.pointer (some ⟨gB, gO, none⟩)] w J = B16 gB gO w J by kernel_rfl]; exact h)

/-- (*errataref39.Gate).Arrive -/
-- loop at region 17: 10 all, 11 k
def B17 (gB gO : Nat) (i : Int) (m0 : Int) (m1 : Int) (m2 : Int) (m3 : Int) (m4 : Int) (m5P : Option Addr) (m5N m5C : Nat) (kind : Int) (w : World) (J : Value → World → Prop) : Prop :=
  ∀ (w0 : World), w0 = w.alloc (Obj.cells #[Value.int IntKind.i64 m0, Value.int IntKind.i64 m1, Value.int IntKind.i64 m2, Value.int IntKind.i64 m3, Value.int IntKind.i64 m4, Value.slice m5P
  m5N m5C] 29) → ∃ (p1 : Option Addr), ∃ (k2 : Nat), ∃ (k3 : Nat), ((!decide (i < 0)) = true → w0.cell? (Addr.mk gB gO none) = some (Value.slice p1 k2 k3)) ∧ Br (decide (i < 0) || decide
  ((↑k2 : Int) ≤ i) || decide (kind ≠ 0) && decide (kind ≠ 1)) (J (Value.int IntKind.i64 (-1)) w0) (∃ (n4 : Int), w0.cell? (Addr.mk gB (gO + 1) none) = some (Value.int IntKind.i64 n4) ∧ ∃ (n5
  : Int), (decide (0 < n4) = true → w0.cell? (Addr.mk gB (gO + 2) none) = some (Value.int IntKind.i64 n5)) ∧ ∃ (p6 : Option Addr), ∃ (k7 : Nat), ∃ (k8 : Nat), ((decide (0 < n4) && decide (n5
  = 0)) = true → w0.cell? (Addr.mk gB gO none) = some (Value.slice p6 k7 k8)) ∧ ((decide (0 < n4) && decide (n5 = 0)) = true → 0 ≤ i ∧ i < (↑k7 : Int)) ∧ ptrK (some (decide (0 < n4) && decide
  (n5 = 0))) p6 fun (k9 k10 : Nat) => ∃ (c11 : Bool), ((decide (0 < n4) && decide (n5 = 0)) = true → w0.cell? (Addr.mk k9 (k10 + i.toNat) none) = some (Value.bool c11)) ∧ Br (decide (0 < n4)
  && decide (n5 = 0) && c11) (J (Value.int IntKind.i64 0) w0) (∃ (n12 : Int), w0.cell? (Addr.mk w.heap.size 0 none) = some (Value.int IntKind.i64 n12) ∧ Br (decide (n12 ≠ 1)) (∃ (n13 : Int),
  w0.cell? (Addr.mk gB (gO + 1) none) = some (Value.int IntKind.i64 n13) ∧ ∃ (n14 : Int), (decide (0 < n13) = true → w0.cell? (Addr.mk gB (gO + 2) none) = some (Value.int IntKind.i64 n14)) ∧
  ∃ (p15 : Option Addr), ∃ (k16 : Nat), ∃ (k17 : Nat), ((decide (0 < n13) && decide (n14 = 1)) = true → w0.cell? (Addr.mk gB gO none) = some (Value.slice p15 k16 k17)) ∧ ((decide (0 < n13) &&
  decide (n14 = 1)) = true → 0 ≤ i ∧ i < (↑k16 : Int)) ∧ ptrK (some (decide (0 < n13) && decide (n14 = 1))) p15 fun (k18 k19 : Nat) => ∃ (c20 : Bool), ((decide (0 < n13) && decide (n14 = 1))
  = true → w0.cell? (Addr.mk k18 (k19 + i.toNat) none) = some (Value.bool c20)) ∧ Br (decide (0 < n13) && decide (n14 = 1) && !c20) (J (Value.int IntKind.i64 2) w0) (J (Value.int IntKind.i64
  1) w0)) (∃ (n21 : Int), w0.cell? (Addr.mk w.heap.size 4 none) = some (Value.int IntKind.i64 n21) ∧ ∃ (n22 : Int), ((!decide (n21 < 1)) = true → w0.cell? (Addr.mk gB (gO + 1) none) = some
  (Value.int IntKind.i64 n22)) ∧ ∃ (n23 : Int), ((!decide (n21 < 1) && decide (0 < n22)) = true → w0.cell? (Addr.mk w.heap.size 4 none) = some (Value.int IntKind.i64 n23)) ∧ ∃ (n24 : Int),
  ((!decide (n21 < 1) && decide (0 < n22)) = true → w0.cell? (Addr.mk gB (gO + 1) none) = some (Value.int IntKind.i64 n24)) ∧ ∃ (n25 : Int), ((!decide (n21 < 1) && decide (0 < n22) && !decide
  (n23 ≠ n24)) = true → w0.cell? (Addr.mk gB (gO + 2) none) = some (Value.int IntKind.i64 n25)) ∧ ∃ (p26 : Option Addr), ∃ (k27 : Nat), ∃ (k28 : Nat), ((!decide (n21 < 1) && decide (0 < n22)
  && !(decide (n23 ≠ n24) || decide (kind ≠ n25))) = true → w0.cell? (Addr.mk gB gO none) = some (Value.slice p26 k27 k28)) ∧ ((!decide (n21 < 1) && decide (0 < n22) && !(decide (n23 ≠ n24)
  || decide (kind ≠ n25))) = true → 0 ≤ i ∧ i < (↑k27 : Int)) ∧ ptrK (some (!decide (n21 < 1) && decide (0 < n22) && !(decide (n23 ≠ n24) || decide (kind ≠ n25)))) p26 fun (k29 k30 : Nat) =>
  ∃ (c31 : Bool), ((!decide (n21 < 1) && decide (0 < n22) && !(decide (n23 ≠ n24) || decide (kind ≠ n25))) = true → w0.cell? (Addr.mk k29 (k30 + i.toNat) none) = some (Value.bool c31)) ∧ ∀
  (k32 : Nat), Br (decide (n21 < 1) || decide (0 < n22) && (decide (n23 ≠ n24) || decide (kind ≠ n25) || c31)) (J (Value.int IntKind.i64 (-1)) (w0.drewN k32)) (∃ (n33 : Int), (w0.drewN
  k32).cell? (Addr.mk gB (gO + 1) none) = some (Value.int IntKind.i64 n33) ∧ ∃ (n34 : Int), (w0.drewN k32).cell? (Addr.mk w.heap.size 4 none) = some (Value.int IntKind.i64 n34) ∧ CanWrite
  (w0.drewN k32) gB (gO + 1) 1 ∧ ∀ (w35 : World), w35 = (w0.drewN k32).setCell (Addr.mk gB (gO + 1) none) (Value.int IntKind.i64 n34) → CanWrite w35 gB (gO + 2) 1 ∧ ∀ (w36 : World), w36 =
  w35.setCell (Addr.mk gB (gO + 2) none) (Value.int IntKind.i64 kind) → ∃ (p37 : Option Addr), ∃ (k38 : Nat), ∃ (k39 : Nat), w36.cell? (Addr.mk gB gO none) = some (Value.slice p37 k38 k39) ∧
  (0 ≤ i ∧ i < (↑k38 : Int)) ∧ ptrK none p37 fun (k40 k41 : Nat) => CanWrite w36 k40 (k41 + i.toNat) 1 ∧ ∀ (w42 : World), w42 = w36.setCell (Addr.mk k40 (k41 + i.toNat) none) (Value.bool
  true) → exI fun (I43 : Bool → Int → World → Prop) => exI fun (I44 : Bool → Int → World → Nat) => I43 true 0 w42 ∧ ∀ (c45 : Bool) (n46 : Int) (w47 : World), I43 c45 n46 w47 → ∃ (p48 : Option
  Addr), ∃ (k49 : Nat), ∃ (k50 : Nat), w47.cell? (Addr.mk gB gO none) = some (Value.slice p48 k49 k50) ∧ Br (decide (n46 < (↑k49 : Int))) (∃ (p51 : Option Addr), ∃ (k52 : Nat), ∃ (k53 : Nat),
  (c45 = true → w47.cell? (Addr.mk gB gO none) = some (Value.slice p51 k52 k53)) ∧ (c45 = true → 0 ≤ n46 ∧ n46 < (↑k52 : Int)) ∧ ptrK (some c45) p51 fun (k54 k55 : Nat) => ∃ (c56 : Bool),
  (c45 = true → w47.cell? (Addr.mk k54 (k55 + n46.toNat) none) = some (Value.bool c56)) ∧ I64 (n46 + 1) ∧ I43 (c45 && c56) (n46 + 1) w47 ∧ I44 (c45 && c56) (n46 + 1) w47 < I44 c45 n46 w47)
  (Br c45 (Calls Try.prog 15 #[Value.pointer (some (Addr.mk gB gO none))] w47 fun (e57 : Ending) (w58 : World) => e57 = Ending.returned (Value.tuple #[]) ∧ Br (decide (kind = 0) && c45 ||
  decide (kind = 1) && decide (n33 = 0)) (J (Value.int IntKind.i64 4) w58) (J (Value.int IntKind.i64 3) w58)) (Br (decide (kind = 0) && c45 || decide (kind = 1) && decide (n33 = 0)) (J
  (Value.int IntKind.i64 4) w47) (J (Value.int IntKind.i64 3) w47)))))))

theorem B17_run (gB gO : Nat) (i : Int) (m0 : Int) (m1 : Int) (m2 : Int) (m3 : Int) (m4 : Int) (m5P : Option Addr) (m5N m5C : Nat) (kind : Int) (w : World) (J : Value → World → Prop) (h : B17 gB gO i m0 m1 m2 m3 m4 m5P m5N m5C kind w J) : Calls Try.prog 17 #[.pointer (some ⟨gB, gO, none⟩), .int .i64 i, .agg #[.int .i64 m0, .int .i64 m1, .int .i64 m2, .int .i64 m3, .int .i64 m4, .slice m5P m5N m5C], .int .i64 kind] w fun e w' => ∃ v, e = .returned v ∧ J v w' :=
  vcF_sound (H := { keep := some [0, 1, 3, 6, 8, 9, 10, 11, 30, 51, 54, 76, 112, 139, 152, 166], loops := [(17, [(10, .one (.bool)), (11, .one (.int .i64))])] }) (by rw [show vcF Try.prog { keep := some [0, 1, 3, 6, 8, 9, 10, 11, 30, 51, 54, 76, 112, 139, 152, 166], loops := [(17, [(10, .one (.bool)), (11, .one (.int .i64))])] } 17 #[.pointer (some ⟨gB, gO, none⟩), .int .i64 i, .agg #[.int .i64 m0, .int .i64 m1, .int .i64 m2, .int .i64 m3, .int .i64 m4, .slice m5P m5N m5C], .int .i64 kind] w J = B17 gB gO i m0 m1 m2 m3 m4 m5P m5N m5C kind w J by kernel_rfl]; exact h)

/-- (*checkpoint.Gate).Came -/
def B18 (gB gO : Nat) (i : Int) (w : World) (J : Value → World → Prop) : Prop :=
  ∃ (p0 : Option Nat), w.cell? (Addr.mk gB (gO + 1) none) = some (Value.map p0) ∧ ∃ (c1 : Bool), (∀ (w2 : World), w2.heap = w.heap → Sem.run Try.prog (Instr.lookup 45 (Value.map p0)
  (Value.int IntKind.i64 i) false) w2 = Result.ok (Value.bool c1) w2) ∧ J (Value.bool c1) w

theorem B18_run (gB gO : Nat) (i : Int) (w : World) (J : Value → World → Prop) (h : B18 gB gO i w J) : Calls Try.prog 18 #[.pointer (some ⟨gB, gO, none⟩), .int .i64 i] w fun e w' => ∃ v, e = .returned v ∧ J v w' :=
  vcF_sound (H := { keep := some [0, 1, 4] }) (by rw [show vcF Try.prog { keep := some [0, 1, 4] } 18 #[.pointer (some ⟨gB, gO, none⟩), .int .i64 i] w J = B18 gB gO i w J by kernel_rfl]; exact h)

end Go.Proofs.Ytahibihckcpmmaa
