/-
  The conditions of the walks of some functions, one formula each; 'B<f>_run' says that they suffice. The formulas are printed by a program; the kernel compares them with the functions' code.
-/
import Derived.Test.YtahibihckcpmmaaVcG
import Derived.Test.YtahibihckcpmmaaRows
namespace Go.Proofs.Ytahibihckcpmmaa
open Go.Vc

/-- erratalaw39.small -/
def B5  (w : World) (J : Value → World → Prop) : Prop :=
  Calls Try.prog 6 #[Value.int IntKind.i64 2] w fun (e0 : Ending) (w1 : World) => ∃ (p2 : Option Addr), e0 = Ending.returned (Value.pointer p2) ∧ Calls Try.prog 6 #[Value.int IntKind.i64 2]
  w1 fun (e3 : Ending) (w4 : World) => ∃ (p5 : Option Addr), e3 = Ending.returned (Value.pointer p5) ∧ Br (p2.isNone || p5.isNone) (J (Value.bool false) w4) (Calls Try.prog 9 #[Value.int
  IntKind.i64 1] w4 fun (e6 : Ending) (w7 : World) => ∃ (n8 : Int), ∃ (n9 : Int), ∃ (n10 : Int), ∃ (n11 : Int), ∃ (n12 : Int), ∃ (p13 : Option Addr), ∃ (k14 : Nat), ∃ (k15 : Nat), e6 =
  Ending.returned (Value.agg #[Value.int IntKind.i64 n8, Value.int IntKind.i64 n9, Value.int IntKind.i64 n10, Value.int IntKind.i64 n11, Value.int IntKind.i64 n12, Value.slice p13 k14 k15]) ∧
  Calls Try.prog 10 #[Value.pointer p2, Value.int IntKind.i64 0, Value.agg #[Value.int IntKind.i64 n8, Value.int IntKind.i64 n9, Value.int IntKind.i64 n10, Value.int IntKind.i64 n11,
  Value.int IntKind.i64 n12, Value.slice p13 k14 k15], Value.int IntKind.i64 0] w7 fun (e16 : Ending) (w17 : World) => ∃ (n18 : Int), e16 = Ending.returned (Value.int IntKind.i64 n18) ∧
  decide (n18 = 3) = true ∧ true = true ∧ Calls Try.prog 8 #[Value.int IntKind.i64 5] w17 fun (e19 : Ending) (w20 : World) => ∃ (n21 : Int), ∃ (n22 : Int), ∃ (n23 : Int), ∃ (n24 : Int), ∃
  (n25 : Int), ∃ (p26 : Option Addr), ∃ (k27 : Nat), ∃ (k28 : Nat), e19 = Ending.returned (Value.agg #[Value.int IntKind.i64 n21, Value.int IntKind.i64 n22, Value.int IntKind.i64 n23,
  Value.int IntKind.i64 n24, Value.int IntKind.i64 n25, Value.slice p26 k27 k28]) ∧ true = true ∧ Calls Try.prog 10 #[Value.pointer p2, Value.int IntKind.i64 0, Value.agg #[Value.int
  IntKind.i64 n21, Value.int IntKind.i64 n22, Value.int IntKind.i64 n23, Value.int IntKind.i64 n24, Value.int IntKind.i64 n25, Value.slice p26 k27 k28], Value.int IntKind.i64 0] w20 fun (e29
  : Ending) (w30 : World) => ∃ (n31 : Int), e29 = Ending.returned (Value.int IntKind.i64 n31) ∧ true = true ∧ Calls Try.prog 8 #[Value.int IntKind.i64 5] w30 fun (e32 : Ending) (w33 : World)
  => ∃ (n34 : Int), ∃ (n35 : Int), ∃ (n36 : Int), ∃ (n37 : Int), ∃ (n38 : Int), ∃ (p39 : Option Addr), ∃ (k40 : Nat), ∃ (k41 : Nat), e32 = Ending.returned (Value.agg #[Value.int IntKind.i64
  n34, Value.int IntKind.i64 n35, Value.int IntKind.i64 n36, Value.int IntKind.i64 n37, Value.int IntKind.i64 n38, Value.slice p39 k40 k41]) ∧ Calls Try.prog 10 #[Value.pointer p2, Value.int
  IntKind.i64 1, Value.agg #[Value.int IntKind.i64 n34, Value.int IntKind.i64 n35, Value.int IntKind.i64 n36, Value.int IntKind.i64 n37, Value.int IntKind.i64 n38, Value.slice p39 k40 k41],
  Value.int IntKind.i64 0] w33 fun (e42 : Ending) (w43 : World) => ∃ (n44 : Int), e42 = Ending.returned (Value.int IntKind.i64 n44) ∧ decide (n44 = 1) = true ∧ true = true ∧ Calls Try.prog 9
  #[Value.int IntKind.i64 1] w43 fun (e45 : Ending) (w46 : World) => ∃ (n47 : Int), ∃ (n48 : Int), ∃ (n49 : Int), ∃ (n50 : Int), ∃ (n51 : Int), ∃ (p52 : Option Addr), ∃ (k53 : Nat), ∃ (k54 :
  Nat), e45 = Ending.returned (Value.agg #[Value.int IntKind.i64 n47, Value.int IntKind.i64 n48, Value.int IntKind.i64 n49, Value.int IntKind.i64 n50, Value.int IntKind.i64 n51, Value.slice
  p52 k53 k54]) ∧ true = true ∧ Calls Try.prog 10 #[Value.pointer p2, Value.int IntKind.i64 1, Value.agg #[Value.int IntKind.i64 n47, Value.int IntKind.i64 n48, Value.int IntKind.i64 n49,
  Value.int IntKind.i64 n50, Value.int IntKind.i64 n51, Value.slice p52 k53 k54], Value.int IntKind.i64 0] w46 fun (e55 : Ending) (w56 : World) => ∃ (n57 : Int), e55 = Ending.returned
  (Value.int IntKind.i64 n57) ∧ true = true ∧ Calls Try.prog 9 #[Value.int IntKind.i64 1] w56 fun (e58 : Ending) (w59 : World) => ∃ (n60 : Int), ∃ (n61 : Int), ∃ (n62 : Int), ∃ (n63 : Int), ∃
  (n64 : Int), ∃ (p65 : Option Addr), ∃ (k66 : Nat), ∃ (k67 : Nat), e58 = Ending.returned (Value.agg #[Value.int IntKind.i64 n60, Value.int IntKind.i64 n61, Value.int IntKind.i64 n62,
  Value.int IntKind.i64 n63, Value.int IntKind.i64 n64, Value.slice p65 k66 k67]) ∧ Calls Try.prog 10 #[Value.pointer p5, Value.int IntKind.i64 0, Value.agg #[Value.int IntKind.i64 n60,
  Value.int IntKind.i64 n61, Value.int IntKind.i64 n62, Value.int IntKind.i64 n63, Value.int IntKind.i64 n64, Value.slice p65 k66 k67], Value.int IntKind.i64 1] w59 fun (e68 : Ending) (w69 :
  World) => ∃ (n70 : Int), e68 = Ending.returned (Value.int IntKind.i64 n70) ∧ decide (n70 = 4) = true ∧ true = true ∧ Calls Try.prog 8 #[Value.int IntKind.i64 5] w69 fun (e71 : Ending) (w72
  : World) => ∃ (n73 : Int), ∃ (n74 : Int), ∃ (n75 : Int), ∃ (n76 : Int), ∃ (n77 : Int), ∃ (p78 : Option Addr), ∃ (k79 : Nat), ∃ (k80 : Nat), e71 = Ending.returned (Value.agg #[Value.int
  IntKind.i64 n73, Value.int IntKind.i64 n74, Value.int IntKind.i64 n75, Value.int IntKind.i64 n76, Value.int IntKind.i64 n77, Value.slice p78 k79 k80]) ∧ true = true ∧ Calls Try.prog 10
  #[Value.pointer p5, Value.int IntKind.i64 0, Value.agg #[Value.int IntKind.i64 n73, Value.int IntKind.i64 n74, Value.int IntKind.i64 n75, Value.int IntKind.i64 n76, Value.int IntKind.i64
  n77, Value.slice p78 k79 k80], Value.int IntKind.i64 1] w72 fun (e81 : Ending) (w82 : World) => ∃ (n83 : Int), e81 = Ending.returned (Value.int IntKind.i64 n83) ∧ true = true ∧ Calls
  Try.prog 8 #[Value.int IntKind.i64 5] w82 fun (e84 : Ending) (w85 : World) => ∃ (n86 : Int), ∃ (n87 : Int), ∃ (n88 : Int), ∃ (n89 : Int), ∃ (n90 : Int), ∃ (p91 : Option Addr), ∃ (k92 :
  Nat), ∃ (k93 : Nat), e84 = Ending.returned (Value.agg #[Value.int IntKind.i64 n86, Value.int IntKind.i64 n87, Value.int IntKind.i64 n88, Value.int IntKind.i64 n89, Value.int IntKind.i64
  n90, Value.slice p91 k92 k93]) ∧ Calls Try.prog 10 #[Value.pointer p5, Value.int IntKind.i64 1, Value.agg #[Value.int IntKind.i64 n86, Value.int IntKind.i64 n87, Value.int IntKind.i64 n88,
  Value.int IntKind.i64 n89, Value.int IntKind.i64 n90, Value.slice p91 k92 k93], Value.int IntKind.i64 1] w85 fun (e94 : Ending) (w95 : World) => ∃ (n96 : Int), e94 = Ending.returned
  (Value.int IntKind.i64 n96) ∧ decide (n96 = 2) = true ∧ true = true ∧ Calls Try.prog 9 #[Value.int IntKind.i64 1] w95 fun (e97 : Ending) (w98 : World) => ∃ (n99 : Int), ∃ (n100 : Int), ∃
  (n101 : Int), ∃ (n102 : Int), ∃ (n103 : Int), ∃ (p104 : Option Addr), ∃ (k105 : Nat), ∃ (k106 : Nat), e97 = Ending.returned (Value.agg #[Value.int IntKind.i64 n99, Value.int IntKind.i64
  n100, Value.int IntKind.i64 n101, Value.int IntKind.i64 n102, Value.int IntKind.i64 n103, Value.slice p104 k105 k106]) ∧ true = true ∧ Calls Try.prog 10 #[Value.pointer p5, Value.int
  IntKind.i64 1, Value.agg #[Value.int IntKind.i64 n99, Value.int IntKind.i64 n100, Value.int IntKind.i64 n101, Value.int IntKind.i64 n102, Value.int IntKind.i64 n103, Value.slice p104 k105
  k106], Value.int IntKind.i64 1] w98 fun (e107 : Ending) (w108 : World) => ∃ (n109 : Int), e107 = Ending.returned (Value.int IntKind.i64 n109) ∧ true = true ∧ ∃ (c110 : Bool), ((decide (n31
  = 0) && decide (n57 = 4) && decide (n83 = 1) && decide (n109 = 3)) = true → ∀ (w111 : World), w111 = w108 → Calls Try.prog 11 #[Value.pointer p2] w111 fun (e112 : Ending) (w113 : World) =>
  e112 = Ending.returned (Value.bool c110) ∧ w113 = w108) ∧ ∃ (c114 : Bool), ((decide (n31 = 0) && decide (n57 = 4) && decide (n83 = 1) && decide (n109 = 3) && !c110) = true → ∀ (w115 :
  World), w115 = w108 → Calls Try.prog 11 #[Value.pointer p5] w115 fun (e116 : Ending) (w117 : World) => e116 = Ending.returned (Value.bool c114) ∧ w117 = w108) ∧ J (Value.bool (decide (n31 =
  0) && decide (n57 = 4) && decide (n83 = 1) && decide (n109 = 3) && !c110 && !c114)) w108)

theorem B5_run  (w : World) (J : Value → World → Prop) (h : B5  w J) : Calls Try.prog 5 #[] w fun e w' => ∃ v, e = .returned v ∧ J v w' :=
  vcF_sound (H := { keep := some [0, 1, 2, 3, 4, 5, 6, 14], sure := [5, 6, 7, 8] }) (by rw [show vcF Try.prog { keep := some [0, 1, 2, 3, 4, 5, 6, 14], sure := [5, 6, 7, 8] } 5 #[] w J = B5  w J by kernel_rfl]; exact h)

/-- checkpoint.NewGate -/
def B6 (n : Int) (w : World) (J : Value → World → Prop) : Prop :=
  ∀ (w0 : World), w0 = w.alloc (Obj.map #[] 0) → ∀ (w1 : World), w1 = w0.alloc (Obj.cells #[Value.int IntKind.i64 (max n 0), Value.map (some w.heap.size), Value.int IntKind.i64 0, Value.int
  IntKind.i64 0] 47) → J (Value.pointer (some (Addr.mk w0.heap.size 0 none))) w1

theorem B6_run (n : Int) (w : World) (J : Value → World → Prop) (h : B6 n w J) : Calls Try.prog 6 #[.int .i64 n] w fun e w' => ∃ v, e = .returned v ∧ J v w' :=
  vcF_sound (H := { keep := some [0, 2] }) (by rw [show vcF Try.prog { keep := some [0, 2] } 6 #[.int .i64 n] w J = B6 n w J by kernel_rfl]; exact h)

/-- erratalaw39.mod -/
def B7 (n : Int) (m : Int) (w : World) (J : Value → World → Prop) : Prop :=
  Br (decide (m < 1)) (J (Value.int IntKind.i64 0) w) ((m = 0 → False) ∧ Br (decide (n.tmod m < 0)) (I64 (n.tmod m + m) ∧ J (Value.int IntKind.i64 (n.tmod m + m)) w) (J (Value.int IntKind.i64
  (n.tmod m)) w))

theorem B7_run (n : Int) (m : Int) (w : World) (J : Value → World → Prop) (h : B7 n m w J) : Calls Try.prog 7 #[.int .i64 n, .int .i64 m] w fun e w' => ∃ v, e = .returned v ∧ J v w' :=
  vcF_sound (H := { keep := some [0, 1, 4, 6, 11] }) (by rw [show vcF Try.prog { keep := some [0, 1, 4, 6, 11] } 7 #[.int .i64 n, .int .i64 m] w J = B7 n m w J by kernel_rfl]; exact h)

/-- erratalaw39.mark -/
def B8 (n : Int) (w : World) (J : Value → World → Prop) : Prop :=
  ∀ (w0 : World), w0 = w.alloc (Obj.cells #[Value.int IntKind.i64 0, Value.int IntKind.i64 0, Value.int IntKind.i64 0, Value.int IntKind.i64 0, Value.int IntKind.i64 0, Value.slice none 0 0]
  29) → CanWrite w0 w.heap.size 0 6 ∧ ∀ (w1 : World), w1 = w0.setCells w.heap.size 0 [Value.int IntKind.i64 2, Value.int IntKind.i64 0, Value.int IntKind.i64 0, Value.int IntKind.i64 0,
  Value.int IntKind.i64 n, Value.slice none 0 0] → ∃ (n2 : Int), ∃ (n3 : Int), ∃ (n4 : Int), ∃ (n5 : Int), ∃ (n6 : Int), ∃ (p7 : Option Addr), ∃ (k8 : Nat), ∃ (k9 : Nat), RowAt w1 w.heap.size
  0 [Value.int IntKind.i64 n2, Value.int IntKind.i64 n3, Value.int IntKind.i64 n4, Value.int IntKind.i64 n5, Value.int IntKind.i64 n6, Value.slice p7 k8 k9] ∧ J (Value.agg #[Value.int
  IntKind.i64 n2, Value.int IntKind.i64 n3, Value.int IntKind.i64 n4, Value.int IntKind.i64 n5, Value.int IntKind.i64 n6, Value.slice p7 k8 k9]) w1

theorem B8_run (n : Int) (w : World) (J : Value → World → Prop) (h : B8 n w J) : Calls Try.prog 8 #[.int .i64 n] w fun e w' => ∃ v, e = .returned v ∧ J v w' :=
  vcF_sound (H := { keep := some [0, 2] }) (by rw [show vcF Try.prog { keep := some [0, 2] } 8 #[.int .i64 n] w J = B8 n w J by kernel_rfl]; exact h)

/-- erratalaw39.barrier -/
def B9 (n : Int) (w : World) (J : Value → World → Prop) : Prop :=
  ∀ (w0 : World), w0 = w.alloc (Obj.cells #[Value.int IntKind.i64 0, Value.int IntKind.i64 0, Value.int IntKind.i64 0, Value.int IntKind.i64 0, Value.int IntKind.i64 0, Value.slice none 0 0]
  29) → CanWrite w0 w.heap.size 0 6 ∧ ∀ (w1 : World), w1 = w0.setCells w.heap.size 0 [Value.int IntKind.i64 1, Value.int IntKind.i64 0, Value.int IntKind.i64 0, Value.int IntKind.i64 0,
  Value.int IntKind.i64 n, Value.slice none 0 0] → ∃ (n2 : Int), ∃ (n3 : Int), ∃ (n4 : Int), ∃ (n5 : Int), ∃ (n6 : Int), ∃ (p7 : Option Addr), ∃ (k8 : Nat), ∃ (k9 : Nat), RowAt w1 w.heap.size
  0 [Value.int IntKind.i64 n2, Value.int IntKind.i64 n3, Value.int IntKind.i64 n4, Value.int IntKind.i64 n5, Value.int IntKind.i64 n6, Value.slice p7 k8 k9] ∧ J (Value.agg #[Value.int
  IntKind.i64 n2, Value.int IntKind.i64 n3, Value.int IntKind.i64 n4, Value.int IntKind.i64 n5, Value.int IntKind.i64 n6, Value.slice p7 k8 k9]) w1

theorem B9_run (n : Int) (w : World) (J : Value → World → Prop) (h : B9 n w J) : Calls Try.prog 9 #[.int .i64 n] w fun e w' => ∃ v, e = .returned v ∧ J v w' :=
  vcF_sound (H := { keep := some [0, 2] }) (by rw [show vcF Try.prog { keep := some [0, 2] } 9 #[.int .i64 n] w J = B9 n w J by kernel_rfl]; exact h)

/-- (*checkpoint.Gate).Arrive -/
def B10 (gB gO : Nat) (i : Int) (m0 : Int) (m1 : Int) (m2 : Int) (m3 : Int) (m4 : Int) (m5P : Option Addr) (m5N m5C : Nat) (kind : Int) (w : World) (J : Value → World → Prop) : Prop :=
  ∀ (w0 : World), w0 = w.alloc (Obj.cells #[Value.int IntKind.i64 m0, Value.int IntKind.i64 m1, Value.int IntKind.i64 m2, Value.int IntKind.i64 m3, Value.int IntKind.i64 m4, Value.slice m5P
  m5N m5C] 29) → ∃ (c1 : Bool), (∀ (w2 : World), w2 = w0 → Calls Try.prog 11 #[Value.pointer (some (Addr.mk gB gO none))] w2 fun (e3 : Ending) (w4 : World) => e3 = Ending.returned (Value.bool
  c1) ∧ w4 = w0) ∧ ∃ (n5 : Int), (c1 = true → w0.cell? (Addr.mk gB (gO + 3) none) = some (Value.int IntKind.i64 n5)) ∧ ∃ (n6 : Int), ((!decide (i < 0)) = true → w0.cell? (Addr.mk gB gO none)
  = some (Value.int IntKind.i64 n6)) ∧ Br (decide (i < 0) || decide (n6 ≤ i) || decide (kind ≠ 0) && decide (kind ≠ 1)) (J (Value.int IntKind.i64 (-1)) w0) (∃ (c7 : Bool), (∀ (w8 : World), w8
  = w0 → Calls Try.prog 11 #[Value.pointer (some (Addr.mk gB gO none))] w8 fun (e9 : Ending) (w10 : World) => e9 = Ending.returned (Value.bool c7) ∧ w10 = w0) ∧ ∃ (p11 : Option Nat), ((c7 &&
  !(c1 && decide (n5 = 1))) = true → w0.cell? (Addr.mk gB (gO + 1) none) = some (Value.map p11)) ∧ ∃ (c12 : Bool), ((c7 && !(c1 && decide (n5 = 1))) = true → ∀ (w13 : World), w13.heap =
  w0.heap → Sem.run Try.prog (Instr.lookup 45 (Value.map p11) (Value.int IntKind.i64 i) false) w13 = Result.ok (Value.bool c12) w13) ∧ Br (c7 && !(c1 && decide (n5 = 1)) && c12) (J (Value.int
  IntKind.i64 0) w0) (∃ (n14 : Int), w0.cell? (Addr.mk w.heap.size 0 none) = some (Value.int IntKind.i64 n14) ∧ ∃ (p15 : Option Nat), ((decide (n14 ≠ 1) && (c1 && decide (n5 = 1))) = true →
  w0.cell? (Addr.mk gB (gO + 1) none) = some (Value.map p15)) ∧ ∃ (c16 : Bool), ((decide (n14 ≠ 1) && (c1 && decide (n5 = 1))) = true → ∀ (w17 : World), w17.heap = w0.heap → Sem.run Try.prog
  (Instr.lookup 45 (Value.map p15) (Value.int IntKind.i64 i) false) w17 = Result.ok (Value.bool c16) w17) ∧ Br (decide (n14 ≠ 1) && (c1 && decide (n5 = 1)) && !c16) (J (Value.int IntKind.i64
  2) w0) (∃ (n18 : Int), w0.cell? (Addr.mk w.heap.size 0 none) = some (Value.int IntKind.i64 n18) ∧ Br (decide (n18 ≠ 1)) (J (Value.int IntKind.i64 1) w0) (∃ (n19 : Int), w0.cell? (Addr.mk
  w.heap.size 4 none) = some (Value.int IntKind.i64 n19) ∧ ∃ (c20 : Bool), ((!decide (n19 < 1)) = true → ∀ (w21 : World), (∃ (k22 : Nat), w21 = w0.drewN k22) → Calls Try.prog 11
  #[Value.pointer (some (Addr.mk gB gO none))] w21 fun (e23 : Ending) (w24 : World) => e23 = Ending.returned (Value.bool c20) ∧ ∃ (k25 : Nat), w24 = w0.drewN k25) ∧ ∃ (n26 : Int), ((!decide
  (n19 < 1) && c20) = true → w0.cell? (Addr.mk w.heap.size 4 none) = some (Value.int IntKind.i64 n26)) ∧ ∃ (n27 : Int), ((!decide (n19 < 1) && c20) = true → w0.cell? (Addr.mk gB (gO + 2)
  none) = some (Value.int IntKind.i64 n27)) ∧ ∃ (n28 : Int), ((!decide (n19 < 1) && c20 && !decide (n26 ≠ n27)) = true → w0.cell? (Addr.mk gB (gO + 3) none) = some (Value.int IntKind.i64
  n28)) ∧ ∃ (p29 : Option Nat), ((!decide (n19 < 1) && c20 && !(decide (n26 ≠ n27) || decide (kind ≠ n28))) = true → w0.cell? (Addr.mk gB (gO + 1) none) = some (Value.map p29)) ∧ ∃ (c30 :
  Bool), ((!decide (n19 < 1) && c20 && !(decide (n26 ≠ n27) || decide (kind ≠ n28))) = true → ∀ (w31 : World), w31.heap = w0.heap → Sem.run Try.prog (Instr.lookup 45 (Value.map p29)
  (Value.int IntKind.i64 i) false) w31 = Result.ok (Value.bool c30) w31) ∧ ∀ (k32 : Nat), Br (decide (n19 < 1) || c20 && (decide (n26 ≠ n27) || decide (kind ≠ n28) || c30)) (J (Value.int
  IntKind.i64 (-1)) (w0.drewN k32)) (∃ (n33 : Int), (w0.drewN k32).cell? (Addr.mk w.heap.size 4 none) = some (Value.int IntKind.i64 n33) ∧ Calls Try.prog 19 #[Value.pointer (some (Addr.mk gB
  gO none)), Value.int IntKind.i64 i, Value.int IntKind.i64 n33, Value.int IntKind.i64 kind] (w0.drewN k32) fun (e34 : Ending) (w35 : World) => ∃ (n36 : Int), e34 = Ending.returned (Value.int
  IntKind.i64 n36) ∧ J (Value.int IntKind.i64 n36) w35)))))

theorem B10_run (gB gO : Nat) (i : Int) (m0 : Int) (m1 : Int) (m2 : Int) (m3 : Int) (m4 : Int) (m5P : Option Addr) (m5N m5C : Nat) (kind : Int) (w : World) (J : Value → World → Prop) (h : B10 gB gO i m0 m1 m2 m3 m4 m5P m5N m5C kind w J) : Calls Try.prog 10 #[.pointer (some ⟨gB, gO, none⟩), .int .i64 i, .agg #[.int .i64 m0, .int .i64 m1, .int .i64 m2, .int .i64 m3, .int .i64 m4, .slice m5P m5N m5C], .int .i64 kind] w fun e w' => ∃ v, e = .returned v ∧ J v w' :=
  vcF_sound (H := { keep := some [0, 1, 3, 6, 8, 9, 19, 38, 53, 69, 73] }) (by rw [show vcF Try.prog { keep := some [0, 1, 3, 6, 8, 9, 19, 38, 53, 69, 73] } 10 #[.pointer (some ⟨gB, gO, none⟩), .int .i64 i, .agg #[.int .i64 m0, .int .i64 m1, .int .i64 m2, .int .i64 m3, .int .i64 m4, .slice m5P m5N m5C], .int .i64 kind] w J = B10 gB gO i m0 m1 m2 m3 m4 m5P m5N m5C kind w J by kernel_rfl]; exact h)

/-- (*checkpoint.Gate).Busy -/
def B11 (gB gO : Nat) (w : World) (J : Value → World → Prop) : Prop :=
  ∃ (n0 : Int), w.cell? (Addr.mk gB (gO + 2) none) = some (Value.int IntKind.i64 n0) ∧ J (Value.bool (decide (0 < n0))) w

theorem B11_run (gB gO : Nat) (w : World) (J : Value → World → Prop) (h : B11 gB gO w J) : Calls Try.prog 11 #[.pointer (some ⟨gB, gO, none⟩)] w fun e w' => ∃ v, e = .returned v ∧ J v w' :=
  vcF_sound (H := { keep := some [0, 2] }) (by rw [show vcF Try.prog { keep := some [0, 2] } 11 #[.pointer (some ⟨gB, gO, none⟩)] w J = B11 gB gO w J by kernel_rfl]; exact h)

/-- (*checkpoint.Gate).Number -/
def B12 (gB gO : Nat) (w : World) (J : Value → World → Prop) : Prop :=
  ∃ (n0 : Int), w.cell? (Addr.mk gB (gO + 2) none) = some (Value.int IntKind.i64 n0) ∧ J (Value.int IntKind.i64 n0) w

theorem B12_run (gB gO : Nat) (w : World) (J : Value → World → Prop) (h : B12 gB gO w J) : Calls Try.prog 12 #[.pointer (some ⟨gB, gO, none⟩)] w fun e w' => ∃ v, e = .returned v ∧ J v w' :=
  vcF_sound (H := { keep := some [0, 2] }) (by rw [show vcF Try.prog { keep := some [0, 2] } 12 #[.pointer (some ⟨gB, gO, none⟩)] w J = B12 gB gO w J by kernel_rfl]; exact h)

/-- (*checkpoint.Gate).Cancel -/
def B14 (gB gO : Nat) (w : World) (J : Value → World → Prop) : Prop :=
  ∀ (w0 : World), w0 = w.alloc (Obj.map #[] 0) → CanWrite w0 gB (gO + 2) 1 ∧ ∀ (w1 : World), w1 = w0.setCell (Addr.mk gB (gO + 2) none) (Value.int IntKind.i64 0) → CanWrite w1 gB (gO + 1) 1 ∧
  ∀ (w2 : World), w2 = w1.setCell (Addr.mk gB (gO + 1) none) (Value.map (some w.heap.size)) → J (Value.tuple #[]) w2

theorem B14_run (gB gO : Nat) (w : World) (J : Value → World → Prop) (h : B14 gB gO w J) : Calls Try.prog 14 #[.pointer (some ⟨gB, gO, none⟩)] w fun e w' => ∃ v, e = .returned v ∧ J v w' :=
  vcF_sound (H := { keep := some [] }) (by rw [show vcF Try.prog { keep := some [] } 14 #[.pointer (some ⟨gB, gO, none⟩)] w J = B14 gB gO w J by kernel_rfl]; exact h)

/-- (*checkpoint.Gate).barrier -/
def B19 (gB gO : Nat) (i : Int) (n : Int) (kind : Int) (w : World) (J : Value → World → Prop) : Prop :=
  Calls Try.prog 11 #[Value.pointer (some (Addr.mk gB gO none))] w fun (e0 : Ending) (w1 : World) => ∃ (c2 : Bool), e0 = Ending.returned (Value.bool c2) ∧ ∃ (p3 : Option Nat), w1.cell?
  (Addr.mk gB (gO + 1) none) = some (Value.map p3) ∧ CanWrite w1 gB (gO + 2) 1 ∧ ∀ (w4 : World), w4 = w1.setCell (Addr.mk gB (gO + 2) none) (Value.int IntKind.i64 n) → CanWrite w4 gB (gO + 3)
  1 ∧ ∀ (w5 : World), w5 = w4.setCell (Addr.mk gB (gO + 3) none) (Value.int IntKind.i64 kind) → ∃ (c6 : Bool), ∃ (n7 : Int), ∃ (w8 : World), Sem.run Try.prog (Instr.mapEntry 45 (Value.map p3)
  (Value.int IntKind.i64 i)) w5 = Result.ok (Value.tuple #[Value.bool c6, Value.int IntKind.i64 n7]) w8 ∧ ∃ (w9 : World), Sem.run Try.prog (Instr.entryStore 45 (Value.map p3) (Value.int
  IntKind.i64 n7) (Value.bool true)) w8 = Result.ok () w9 ∧ ∃ (p10 : Option Nat), w9.cell? (Addr.mk gB (gO + 1) none) = some (Value.map p10) ∧ ∃ (n11 : Int), (∀ (w12 : World), w12.heap =
  w9.heap → Sem.run Try.prog (Builtin.len_ #[45] 3 #[Value.map p10]) w12 = Result.ok (Value.int IntKind.i64 n11) w12) ∧ ∃ (n13 : Int), w9.cell? (Addr.mk gB gO none) = some (Value.int
  IntKind.i64 n13) ∧ ∀ (k14 : Nat), Br (decide (n11 = n13)) (Calls Try.prog 14 #[Value.pointer (some (Addr.mk gB gO none))] (w9.drewN k14) fun (e15 : Ending) (w16 : World) => e15 =
  Ending.returned (Value.tuple #[]) ∧ Br (decide (kind = 0) && decide (n11 = n13) || decide (kind = 1) && !c2) (J (Value.int IntKind.i64 4) w16) (J (Value.int IntKind.i64 3) w16)) (Br (decide
  (kind = 0) && decide (n11 = n13) || decide (kind = 1) && !c2) (J (Value.int IntKind.i64 4) (w9.drewN k14)) (J (Value.int IntKind.i64 3) (w9.drewN k14)))

theorem B19_run (gB gO : Nat) (i : Int) (n : Int) (kind : Int) (w : World) (J : Value → World → Prop) (h : B19 gB gO i n kind w J) : Calls Try.prog 19 #[.pointer (some ⟨gB, gO, none⟩), .int .i64 i, .int .i64 n, .int .i64 kind] w fun e w' => ∃ v, e = .returned v ∧ J v w' :=
  vcF_sound (H := { keep := some [0, 1, 2, 3, 8, 9, 10, 39, 53] }) (by rw [show vcF Try.prog { keep := some [0, 1, 2, 3, 8, 9, 10, 39, 53] } 19 #[.pointer (some ⟨gB, gO, none⟩), .int .i64 i, .int .i64 n, .int .i64 kind] w J = B19 gB gO i n kind w J by kernel_rfl]; exact h)

end Go.Proofs.Ytahibihckcpmmaa
