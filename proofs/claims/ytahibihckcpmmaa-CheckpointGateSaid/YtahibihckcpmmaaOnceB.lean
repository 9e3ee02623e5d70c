/-
  The conditions of the walks of some functions, one formula each; 'B<f>_run' says that they suffice. The formulas are printed by a program; the kernel compares them with the functions' code.
-/
import Derived.Test.YtahibihckcpmmaaVcG
import Derived.Test.YtahibihckcpmmaaRows
namespace Go.Proofs.Ytahibihckcpmmaa
open Go.Vc

/-- erratalaw39.CheckpointOnce -/
-- loop at region 15: 13 came, 14 snaps, 15 i
-- loop at region 9: 12 i
def B3 (n : Int) (kind : Int) (beforeP : Option Addr) (beforeN beforeC : Nat) (lP : Option Addr) (lN lC : Nat) (w : World) (J : Value → World → Prop) : Prop :=
  Calls Try.prog 5 #[] w fun (e0 : Ending) (w1 : World) => ∃ (c2 : Bool), e0 = Ending.returned (Value.bool c2) ∧ Br (decide (n < 1) || decide (6 < n) || decide (kind ≠ 0) && decide (kind ≠ 1)
  || decide (100 < (↑lN : Int)) || decide ((↑beforeN : Int) ≠ n)) (J (Value.bool c2) w1) (Calls Try.prog 6 #[Value.int IntKind.i64 n] w1 fun (e3 : Ending) (w4 : World) => ∃ (p5 : Option
  Addr), e3 = Ending.returned (Value.pointer p5) ∧ Br p5.isNone (J (Value.bool false) w4) ((0 ≤ n ∧ n ≤ n ∧ 8 * n ≤ 281474976710656 ∧ n ≤ 9223372036854775807) ∧ ∀ (w6 : World), w6 = w4.alloc
  (Obj.cells (Array.mk (List.replicate n.toNat (Value.int IntKind.i64 0))) 3) → exI fun (I7 : Int → World → Prop) => exI fun (I8 : Int → World → Nat) => I7 0 w6 ∧ ∀ (n9 : Int) (w10 : World),
  I7 n9 w10 → Br (decide (n9 < n)) ((0 ≤ n9 ∧ n9 < (↑beforeN : Int)) ∧ ptrK none beforeP fun (k11 k12 : Nat) => ∃ (n13 : Int), w10.cell? (Addr.mk k11 (k12 + n9.toNat) none) = some (Value.int
  IntKind.i64 n13) ∧ Calls Try.prog 7 #[Value.int IntKind.i64 n13, Value.int IntKind.i64 5] w10 fun (e14 : Ending) (w15 : World) => ∃ (n16 : Int), e14 = Ending.returned (Value.int IntKind.i64
  n16) ∧ (0 ≤ n9 ∧ n9 < (↑n.toNat : Int)) ∧ CanWrite w15 w4.heap.size (0 + n9.toNat) 1 ∧ ∀ (w17 : World), w17 = w15.setCell (Addr.mk w4.heap.size (0 + n9.toNat) none) (Value.int IntKind.i64
  n16) → I64 (n9 + 1) ∧ I7 (n9 + 1) w17 ∧ I8 (n9 + 1) w17 < I8 n9 w10) (exI fun (I18 : Int → Int → Int → World → Prop) => exI fun (I19 : Int → Int → Int → World → Nat) => I18 0 0 0 w10 ∧ ∀
  (n20 n21 n22 : Int) (w23 : World), I18 n20 n21 n22 w23 → I64 (6 * n) ∧ I64 ((↑lN : Int) + 6 * n) ∧ Br (decide (n22 < (↑lN : Int) + 6 * n)) ((n = 0 → False) ∧ exI fun (I24 : Int → World →
  Prop) => Br (decide (n22 < (↑lN : Int))) ((0 ≤ n22 ∧ n22 < (↑lN : Int)) ∧ ptrK none lP fun (k25 k26 : Nat) => ∃ (n27 : Int), w23.cell? (Addr.mk k25 (k26 + n22.toNat) none) = some (Value.int
  IntKind.i64 n27) ∧ Calls Try.prog 7 #[Value.int IntKind.i64 n27, Value.int IntKind.i64 n] w23 fun (e28 : Ending) (w29 : World) => ∃ (n30 : Int), e28 = Ending.returned (Value.int IntKind.i64
  n30) ∧ I24 n30 w29) (I24 (n22.tmod n) w23) ∧ ∀ (n31 : Int) (w32 : World), I24 n31 w32 → Calls Try.prog 8 #[Value.int IntKind.i64 1] w32 fun (e33 : Ending) (w34 : World) => ∃ (n35 : Int), ∃
  (n36 : Int), ∃ (n37 : Int), ∃ (n38 : Int), ∃ (n39 : Int), ∃ (p40 : Option Addr), ∃ (k41 : Nat), ∃ (k42 : Nat), e33 = Ending.returned (Value.agg #[Value.int IntKind.i64 n35, Value.int
  IntKind.i64 n36, Value.int IntKind.i64 n37, Value.int IntKind.i64 n38, Value.int IntKind.i64 n39, Value.slice p40 k41 k42]) ∧ ∀ (w43 : World), w43 = w34.alloc (Obj.cells #[Value.int
  IntKind.i64 0, Value.int IntKind.i64 0, Value.int IntKind.i64 0, Value.int IntKind.i64 0, Value.int IntKind.i64 0, Value.slice none 0 0] 29) → CanWrite w43 w34.heap.size 0 6 ∧ ∀ (w44 :
  World), w44 = w43.setCells w34.heap.size 0 [Value.int IntKind.i64 n35, Value.int IntKind.i64 n36, Value.int IntKind.i64 n37, Value.int IntKind.i64 n38, Value.int IntKind.i64 n39,
  Value.slice p40 k41 k42] → exI fun (I45 : World → Prop) => ((0 ≤ n31 ∧ n31 < (↑n.toNat : Int)) ∧ ∃ (n46 : Int), w44.cell? (Addr.mk w4.heap.size (0 + n31.toNat) none) = some (Value.int
  IntKind.i64 n46) ∧ Br (decide (n46 = 0)) (Calls Try.prog 9 #[Value.int IntKind.i64 3] w44 fun (e47 : Ending) (w48 : World) => ∃ (n49 : Int), ∃ (n50 : Int), ∃ (n51 : Int), ∃ (n52 : Int), ∃
  (n53 : Int), ∃ (p54 : Option Addr), ∃ (k55 : Nat), ∃ (k56 : Nat), e47 = Ending.returned (Value.agg #[Value.int IntKind.i64 n49, Value.int IntKind.i64 n50, Value.int IntKind.i64 n51,
  Value.int IntKind.i64 n52, Value.int IntKind.i64 n53, Value.slice p54 k55 k56]) ∧ CanWrite w48 w34.heap.size 0 6 ∧ ∀ (w57 : World), w57 = w48.setCells w34.heap.size 0 [Value.int IntKind.i64
  n49, Value.int IntKind.i64 n50, Value.int IntKind.i64 n51, Value.int IntKind.i64 n52, Value.int IntKind.i64 n53, Value.slice p54 k55 k56] → I45 w57) (I45 w44)) ∧ ∀ (w58 : World), I45 w58 →
  ∃ (n59 : Int), ∃ (n60 : Int), ∃ (n61 : Int), ∃ (n62 : Int), ∃ (n63 : Int), ∃ (p64 : Option Addr), ∃ (k65 : Nat), ∃ (k66 : Nat), RowAt w58 w34.heap.size 0 [Value.int IntKind.i64 n59,
  Value.int IntKind.i64 n60, Value.int IntKind.i64 n61, Value.int IntKind.i64 n62, Value.int IntKind.i64 n63, Value.slice p64 k65 k66] ∧ Calls Try.prog 10 #[Value.pointer p5, Value.int
  IntKind.i64 n31, Value.agg #[Value.int IntKind.i64 n59, Value.int IntKind.i64 n60, Value.int IntKind.i64 n61, Value.int IntKind.i64 n62, Value.int IntKind.i64 n63, Value.slice p64 k65 k66],
  Value.int IntKind.i64 kind] w58 fun (e67 : Ending) (w68 : World) => ∃ (n69 : Int), e67 = Ending.returned (Value.int IntKind.i64 n69) ∧ exI fun (I70 : Int → Int → Int → World → Prop) => ((0
  ≤ n31 ∧ n31 < (↑n.toNat : Int)) ∧ ∃ (n71 : Int), w68.cell? (Addr.mk w4.heap.size (0 + n31.toNat) none) = some (Value.int IntKind.i64 n71) ∧ Br (decide (n71 = 0)) (I64 (n20 + 1) ∧ Br (decide
  (kind = 0) && decide (n20 + 1 = n) || decide (kind = 1) && decide (n20 + 1 = 1)) (I64 (n21 + 1) ∧ I70 (n20 + 1) (n21 + 1) 4 w68) (I70 (n20 + 1) n21 3 w68)) ((0 ≤ n31 ∧ n31 < (↑n.toNat :
  Int)) ∧ ∃ (n72 : Int), w68.cell? (Addr.mk w4.heap.size (0 + n31.toNat) none) = some (Value.int IntKind.i64 n72) ∧ Br (decide (n72 < 0) && decide (kind = 0) && decide (n20 < n)) (I70 n20 n21
  0 w68) ((0 ≤ n31 ∧ n31 < (↑n.toNat : Int)) ∧ ∃ (n73 : Int), w68.cell? (Addr.mk w4.heap.size (0 + n31.toNat) none) = some (Value.int IntKind.i64 n73) ∧ Br (decide (0 < n73) && decide (kind =
  1) && decide (0 < n20)) (I70 n20 n21 2 w68) (I70 n20 n21 1 w68)))) ∧ ∀ (n74 n75 n76 : Int) (w77 : World), I70 n74 n75 n76 w77 → ∃ (c78 : Bool), ((!decide (n69 ≠ n76)) = true → ∀ (w79 :
  World), w79 = w77 → Calls Try.prog 11 #[Value.pointer p5] w79 fun (e80 : Ending) (w81 : World) => e80 = Ending.returned (Value.bool c78) ∧ w81 = w77) ∧ Br (decide (n69 ≠ n76) || c78 !=
  (decide (0 < n74) && decide (n74 < n))) (J (Value.bool false) w77) ((0 ≤ n31 ∧ n31 < (↑n.toNat : Int)) ∧ ∃ (n82 : Int), w77.cell? (Addr.mk w4.heap.size (0 + n31.toNat) none) = some
  (Value.int IntKind.i64 n82) ∧ I64 (n82 - 1) ∧ (0 ≤ n31 ∧ n31 < (↑n.toNat : Int)) ∧ CanWrite w77 w4.heap.size (0 + n31.toNat) 1 ∧ ∀ (w83 : World), w83 = w77.setCell (Addr.mk w4.heap.size (0
  + n31.toNat) none) (Value.int IntKind.i64 (max (-1) (n82 - 1))) → I64 (n22 + 1) ∧ I18 n74 n75 (n22 + 1) w83 ∧ I19 n74 n75 (n22 + 1) w83 < I19 n20 n21 n22 w23)) (∃ (n84 : Int), ((c2 &&
  decide (n20 = n) && decide (n21 = 1)) = true → ∀ (w85 : World), w85 = w23 → Calls Try.prog 12 #[Value.pointer p5] w85 fun (e86 : Ending) (w87 : World) => e86 = Ending.returned (Value.int
  IntKind.i64 n84) ∧ w87 = w23) ∧ J (Value.bool (c2 && decide (n20 = n) && decide (n21 = 1) && decide (n84 = 0))) w23))))

theorem B3_run (n : Int) (kind : Int) (beforeP : Option Addr) (beforeN beforeC : Nat) (lP : Option Addr) (lN lC : Nat) (w : World) (J : Value → World → Prop) (h : B3 n kind beforeP beforeN beforeC lP lN lC w J) : Calls Try.prog 3 #[.int .i64 n, .int .i64 kind, .slice beforeP beforeN beforeC, .slice lP lN lC] w fun e w' => ∃ v, e = .returned v ∧ J v w' :=
  vcF_sound (H := { keep := some [0, 1, 2, 3, 8, 9, 10, 11, 12, 13, 14, 15, 16, 17, 18, 19, 45, 50, 55, 72, 81, 93, 100, 122, 125, 140, 168], loops := [(15, [(13, .one (.int .i64)), (14, .one (.int .i64)), (15, .one (.int .i64))]), (9, [(12, .one (.int .i64))])], cuts := [(20, [(16, .one (.int .i64))]), (23, []), (35, [(13, .one (.int .i64)), (14, .one (.int .i64)), (19, .one (.int .i64))])] }) (by rw [show vcF Try.prog { keep := some [0, 1, 2, 3, 8, 9, 10, 11, 12, 13, 14, 15, 16, 17, 18, 19, 45, 50, 55, 72, 81, 93, 100, 122, 125, 140, 168], loops := [(15, [(13, .one (.int .i64)), (14, .one (.int .i64)), (15, .one (.int .i64))]), (9, [(12, .one (.int .i64))])], cuts := [(20, [(16, .one (.int .i64))]), (23, []), (35, [(13, .one (.int .i64)), (14, .one (.int .i64)), (19, .one (.int .i64))])] } 3 #[.int .i64 n, .int .i64 kind, .slice beforeP beforeN beforeC, .slice lP lN lC] w J = B3 n kind beforeP beforeN beforeC lP lN lC w J by kernel_rfl]; exact h)

end Go.Proofs.Ytahibihckcpmmaa
