/-
  The conditions of the walks of some functions, one formula each; 'B<f>_run' says that they suffice. The formulas are printed by a program; the kernel compares them with the functions' code.
-/
import Derived.Test.YtbkpfhhhbhaecaaGreatDoorLT4

section
namespace Go.Proofs.YtbkpfhhhbhaecaaGreatDoor
set_option linter.unusedVariables false
set_option linter.unusedSimpArgs false
set_option maxRecDepth 100000
open Go.Vc

def Berratalaw41_small  (W : World) (R : List Own) (Φ : PW) (J : Value → World → Prop) : Prop :=
  ∀ (w0 : World) (R1 : List Own), Ctx W w0 (R ++ R1) Φ → Calls Tryz.prog F.ledger_New #[] w0 fun (e2 : Ending) (w3 : World) => ∃ (p4 : Option Addr), e2 = Ending.returned (Value.pointer p4) ∧
  ∃ (R5 : List Own), ∃ (Φ6 : PW), Stable Φ6 ∧ Ctx W w3 (R5 ++ R1) Φ6 ∧ Br p4.isNone (∀ (w7 : World) (R8 : List Own), Ctx W w7 (R5 ++ R8) Φ6 → J (Value.bool false) w7) (∀ (k9 k10 k11 : Nat)
  (w12 : World) (R13 : List Own), Ctx W w12 (Own.blk k11 [Value.int IntKind.i64 1, Value.int IntKind.i64 1, Value.int IntKind.i64 5, Value.slice (some (Addr.mk k9 0 none)) 1 1, Value.int
  IntKind.i64 2, Value.int IntKind.i64 0, Value.int IntKind.i64 0] 51 :: Own.blk k10 [Value.int IntKind.i64 0, Value.int IntKind.i64 8, Value.string (ByteArray.mk #[])] 71 :: Own.blk k9
  [Value.int IntKind.i64 0, Value.int IntKind.i64 7, Value.string (ByteArray.mk #[])] 71 :: R5 ++ R13) Φ6 → Calls Tryz.prog F.ledger_Ledger_Append #[Value.pointer p4, Value.int IntKind.i64 1,
  Value.int IntKind.i64 10, Value.slice (some (Addr.mk k11 0 none)) 1 1] w12 fun (e14 : Ending) (w15 : World) => ∃ (n16 : Int), e14 = Ending.returned (Value.int IntKind.i64 n16) ∧ ∃ (R17 :
  List Own), ∃ (Φ18 : PW), Stable Φ18 ∧ Ctx W w15 (R17 ++ R13) Φ18 ∧ ∀ (k19 : Nat) (w20 : World) (R21 : List Own), Ctx W w20 (Own.blk k19 [Value.int IntKind.i64 2, Value.int IntKind.i64 3,
  Value.int IntKind.i64 5, Value.slice (some (Addr.mk k9 0 none)) 1 1, Value.int IntKind.i64 (-1), Value.int IntKind.i64 1, Value.int IntKind.i64 0, Value.int IntKind.i64 3, Value.int
  IntKind.i64 3, Value.int IntKind.i64 12, Value.slice (some (Addr.mk k10 0 none)) 1 1, Value.int IntKind.i64 1, Value.int IntKind.i64 0, Value.int IntKind.i64 0] 51 :: R17 ++ R21) Φ18 →
  Calls Tryz.prog F.ledger_Ledger_Append #[Value.pointer p4, Value.int IntKind.i64 3, Value.int IntKind.i64 20, Value.slice (some (Addr.mk k19 0 none)) 2 2] w20 fun (e22 : Ending) (w23 :
  World) => ∃ (n24 : Int), e22 = Ending.returned (Value.int IntKind.i64 n24) ∧ ∃ (R25 : List Own), ∃ (Φ26 : PW), Stable Φ26 ∧ Ctx W w23 (R25 ++ R21) Φ26 ∧ ∀ (k27 : Nat) (w28 : World) (R29 :
  List Own), Ctx W w28 (Own.blk k27 [Value.int IntKind.i64 4, Value.int IntKind.i64 4, Value.int IntKind.i64 5, Value.slice (some (Addr.mk k9 0 none)) 1 1, Value.int IntKind.i64 (-2),
  Value.int IntKind.i64 1, Value.int IntKind.i64 0] 51 :: R25 ++ R29) Φ26 → Calls Tryz.prog F.ledger_Ledger_Append #[Value.pointer p4, Value.int IntKind.i64 4, Value.int IntKind.i64 20,
  Value.slice (some (Addr.mk k27 0 none)) 1 1] w28 fun (e30 : Ending) (w31 : World) => ∃ (n32 : Int), e30 = Ending.returned (Value.int IntKind.i64 n32) ∧ ∃ (R33 : List Own), ∃ (Φ34 : PW),
  Stable Φ34 ∧ Ctx W w31 (R33 ++ R29) Φ34 ∧ ∀ (w35 : World) (R36 : List Own), Ctx W w35 (R33 ++ R36) Φ34 → Calls Tryz.prog F.ledger_Ledger_Causes #[Value.pointer p4] w35 fun (e37 : Ending)
  (w38 : World) => ∃ (n39 : Int), ∃ (n40 : Int), ∃ (n41 : Int), e37 = Ending.returned (Value.tuple #[Value.int IntKind.i64 n39, Value.int IntKind.i64 n40, Value.int IntKind.i64 n41]) ∧ ∃ (R42
  : List Own), ∃ (Φ43 : PW), Stable Φ43 ∧ Ctx W w38 (R42 ++ R36) Φ43 ∧ Br (decide (n16 = 0)) (Br (decide (n24 = 0)) (Br (decide (n32 = 7)) (∀ (w44 : World) (R45 : List Own), Ctx W w44 (R42 ++
  R45) Φ43 → Calls Tryz.prog F.ledger_Ledger_Count #[Value.pointer p4, Value.int IntKind.i64 5, Value.slice (some (Addr.mk k9 0 none)) 1 1] w44 fun (e46 : Ending) (w47 : World) => ∃ (n48 :
  Int), e46 = Ending.returned (Value.int IntKind.i64 n48) ∧ ∃ (R49 : List Own), ∃ (Φ50 : PW), Stable Φ50 ∧ Ctx W w47 (R49 ++ R45) Φ50 ∧ Br (decide (n48 = 1)) (Br (decide (n39 = 2)) (Br
  (decide (n40 = 1)) (Br (decide (n41 = 0)) (∀ (w51 : World) (R52 : List Own), Ctx W w51 (R49 ++ R52) Φ50 → Calls Tryz.prog F.ledger_Ledger_Net #[Value.pointer p4] w51 fun (e53 : Ending) (w54
  : World) => ∃ (p55 : Option Addr), ∃ (k56 : Nat), ∃ (k57 : Nat), e53 = Ending.returned (Value.slice p55 k56 k57) ∧ ∃ (R58 : List Own), ∃ (Φ59 : PW), Stable Φ59 ∧ Ctx W w54 (R58 ++ R52) Φ59
  ∧ ∀ (k60 : Nat) (w61 : World) (R62 : List Own), Ctx W w61 (Own.blk k60 [Value.int IntKind.i64 5, Value.slice (some (Addr.mk k9 0 none)) 1 1, Value.int IntKind.i64 1, Value.int IntKind.i64
  12, Value.slice (some (Addr.mk k10 0 none)) 1 1, Value.int IntKind.i64 1] 73 :: R58 ++ R62) Φ59 → Calls Tryz.prog F.errataref28_Equal #[Value.slice p55 k56 k57, Value.slice (some (Addr.mk
  k60 0 none)) 2 2] w61 fun (e63 : Ending) (w64 : World) => ∃ (c65 : Bool), e63 = Ending.returned (Value.bool c65) ∧ ∃ (R66 : List Own), ∃ (Φ67 : PW), Stable Φ67 ∧ Ctx W w64 (R66 ++ R62) Φ67
  ∧ Br c65 (∀ (w68 : World) (R69 : List Own), Ctx W w68 (R66 ++ R69) Φ67 → Calls Tryz.prog F.ledger_Ledger_At #[Value.pointer p4, Value.int IntKind.i64 1] w68 fun (e70 : Ending) (w71 : World)
  => ∃ (p72 : Option Addr), ∃ (k73 : Nat), ∃ (k74 : Nat), e70 = Ending.returned (Value.slice p72 k73 k74) ∧ ∃ (R75 : List Own), ∃ (Φ76 : PW), Stable Φ76 ∧ Ctx W w71 (R75 ++ R69) Φ76 ∧ ∀ (k77
  : Nat) (w78 : World) (R79 : List Own), Ctx W w78 (Own.blk k77 [Value.int IntKind.i64 5, Value.slice (some (Addr.mk k9 0 none)) 1 1, Value.int IntKind.i64 2] 73 :: R75 ++ R79) Φ76 → Calls
  Tryz.prog F.errataref28_Equal #[Value.slice p72 k73 k74, Value.slice (some (Addr.mk k77 0 none)) 1 1] w78 fun (e80 : Ending) (w81 : World) => ∃ (c82 : Bool), e80 = Ending.returned
  (Value.bool c82) ∧ ∃ (R83 : List Own), ∃ (Φ84 : PW), Stable Φ84 ∧ Ctx W w81 (R83 ++ R79) Φ84 ∧ ∀ (w85 : World) (R86 : List Own), Ctx W w85 (R83 ++ R86) Φ84 → J (Value.bool c82) w85) (∀ (w87
  : World) (R88 : List Own), Ctx W w87 (R66 ++ R88) Φ67 → J (Value.bool false) w87)) (∀ (w89 : World) (R90 : List Own), Ctx W w89 (R49 ++ R90) Φ50 → J (Value.bool false) w89)) (∀ (w91 :
  World) (R92 : List Own), Ctx W w91 (R49 ++ R92) Φ50 → J (Value.bool false) w91)) (∀ (w93 : World) (R94 : List Own), Ctx W w93 (R49 ++ R94) Φ50 → J (Value.bool false) w93)) (∀ (w95 : World)
  (R96 : List Own), Ctx W w95 (R49 ++ R96) Φ50 → J (Value.bool false) w95)) (∀ (w97 : World) (R98 : List Own), Ctx W w97 (R42 ++ R98) Φ43 → J (Value.bool false) w97)) (∀ (w99 : World) (R100 :
  List Own), Ctx W w99 (R42 ++ R100) Φ43 → J (Value.bool false) w99)) (∀ (w101 : World) (R102 : List Own), Ctx W w101 (R42 ++ R102) Φ43 → J (Value.bool false) w101))

theorem Berratalaw41_small_run  {W w : World} {R : List Own} {Φ : PW} [Stable Φ] {J : Value → World → Prop} (c : Ctx W w R Φ) (h : Berratalaw41_small  W R Φ J) : Calls Tryz.prog F.erratalaw41_small #[] w fun e w' => ∃ v, e = .returned v ∧ J v w' :=
  vcFS_sound (H := { keep := some [0, 1, 2, 3, 4, 5, 6, 7, 8, 9, 10, 13], split := [10, 11] }) (by rw [show vcFS Tryz.prog W { keep := some [0, 1, 2, 3, 4, 5, 6, 7, 8, 9, 10, 13], split := [10, 11] } F.erratalaw41_small #[] R Φ J = Berratalaw41_small  W R Φ J by kernel_rfl]; exact h) c

-- loop at region 2: 5 i; blocks 
def Berratalaw41_few (lP : Option Addr) (lN lC : Nat) (n : Int) (W : World) (R : List Own) (Φ : PW) (J : Value → World → Prop) : Prop :=
  exI fun (I0 : Int → List Own → PW → Nat → Prop) => (∃ (R1 : List Own), ∃ (Φ2 : PW), ∃ (k3 : Nat), Stable Φ2 ∧ (∀ (w4 : World) (R5 : List Own), Ctx W w4 (R ++ R5) Φ → Ctx W w4 (R1 ++ R5) Φ2)
  ∧ I0 0 R1 Φ2 k3) ∧ ∀ (n6 : Int) (R7 : List Own) (I8 : List Nat → World → Prop) (k9 : Nat), Stable I8 → I0 n6 R7 I8 k9 → Br (decide (n6 < (↑lN : Int))) ((0 ≤ n6 ∧ n6 < (↑lN : Int)) ∧ ptrK
  none lP fun (k10 k11 : Nat) => ∀ (w12 : World) (R13 : List Own), Ctx W w12 (R7 ++ R13) I8 → ∃ (p14 : Option Addr), ∃ (k15 : Nat), ∃ (k16 : Nat), w12.cell? (Addr.mk k10 (k11 + n6.toNat * 4 +
  2) none) = some (Value.slice p14 k15 k16) ∧ ∀ (w17 : World) (R18 : List Own), Ctx W w17 (R7 ++ R18) I8 → Calls Tryz.prog F.errataref41_Short #[Value.slice p14 k15 k16, Value.int IntKind.i64
  12] w17 fun (e19 : Ending) (w20 : World) => ∃ (c21 : Bool), e19 = Ending.returned (Value.bool c21) ∧ ∃ (R22 : List Own), ∃ (Φ23 : PW), Stable Φ23 ∧ Ctx W w20 (R22 ++ R18) Φ23 ∧ Br (!c21) (∀
  (w24 : World) (R25 : List Own), Ctx W w24 (R22 ++ R25) Φ23 → J (Value.bool false) w24) (I64 (n6 + 1) ∧ ∃ (R26 : List Own), ∃ (Φ27 : PW), ∃ (k28 : Nat), Stable Φ27 ∧ (∀ (w29 : World) (R30 :
  List Own), Ctx W w29 (R22 ++ R30) Φ23 → Ctx W w29 (R26 ++ R30) Φ27) ∧ I0 (n6 + 1) R26 Φ27 k28 ∧ k28 < k9)) (∀ (w31 : World) (R32 : List Own), Ctx W w31 (R7 ++ R32) I8 → J (Value.bool
  (decide ((↑lN : Int) ≤ n))) w31)

theorem Berratalaw41_few_run (lP : Option Addr) (lN lC : Nat) (n : Int) {W w : World} {R : List Own} {Φ : PW} [Stable Φ] {J : Value → World → Prop} (c : Ctx W w R Φ) (h : Berratalaw41_few lP lN lC n W R Φ J) : Calls Tryz.prog F.erratalaw41_few #[.slice lP lN lC, .int .i64 n] w fun e w' => ∃ v, e = .returned v ∧ J v w' :=
  vcFS_sound (H := { keep := some [0, 1, 4, 5, 9, 18], loops := [(2, [(5, .one (.int .i64))], [])] }) (by rw [show vcFS Tryz.prog W { keep := some [0, 1, 4, 5, 9, 18], loops := [(2, [(5, .one (.int .i64))], [])] } F.erratalaw41_few #[.slice lP lN lC, .int .i64 n] R Φ J = Berratalaw41_few lP lN lC n W R Φ J by kernel_rfl]; exact h) c

def Bledger_New  (W : World) (R : List Own) (Φ : PW) (J : Value → World → Prop) : Prop :=
  ∀ (k0 k1 : Nat) (w2 : World) (R3 : List Own), Ctx W w2 (Own.blk k1 [Value.slice none 0 0, Value.slice none 0 0, Value.map (some k0), Value.int IntKind.i64 0, Value.int IntKind.i64 0,
  Value.int IntKind.i64 0] 79 :: Own.obj k0 (Obj.map #[] 0) :: R ++ R3) Φ → J (Value.pointer (some (Addr.mk k1 0 none))) w2

theorem Bledger_New_run  {W w : World} {R : List Own} {Φ : PW} [Stable Φ] {J : Value → World → Prop} (c : Ctx W w R Φ) (h : Bledger_New  W R Φ J) : Calls Tryz.prog F.ledger_New #[] w fun e w' => ∃ v, e = .returned v ∧ J v w' :=
  vcFS_sound (H := { keep := some [0] }) (by rw [show vcFS Tryz.prog W { keep := some [0] } F.ledger_New #[] R Φ J = Bledger_New  W R Φ J by kernel_rfl]; exact h) c

def Berrataref41_New  (W : World) (R : List Own) (Φ : PW) (J : Value → World → Prop) : Prop :=
  ∀ (k0 : Nat) (w1 : World) (R2 : List Own), Ctx W w1 (Own.blk k0 [Value.slice none 0 0] 59 :: R ++ R2) Φ → J (Value.pointer (some (Addr.mk k0 0 none))) w1

theorem Berrataref41_New_run  {W w : World} {R : List Own} {Φ : PW} [Stable Φ] {J : Value → World → Prop} (c : Ctx W w R Φ) (h : Berrataref41_New  W R Φ J) : Calls Tryz.prog F.errataref41_New #[] w fun e w' => ∃ v, e = .returned v ∧ J v w' :=
  vcFS_sound (H := { keep := some [0] }) (by rw [show vcFS Tryz.prog W { keep := some [0] } F.errataref41_New #[] R Φ J = Berrataref41_New  W R Φ J by kernel_rfl]; exact h) c

-- loop at region 7: 10 i; blocks 
-- known blocks: 4 x, 8 
def Berratalaw41_fitted (x0 : Int) (x1 : Int) (x2P : Option Addr) (x2N x2C : Nat) (x3 : Bool) (last : Int) (mark : Int) (next : Int) (W : World) (R : List Own) (Φ : PW) (J : Value → World → Prop) : Prop :=
  ∀ (b b : Nat), Br (!x3) (∀ (w0 : World) (R1 : List Own), Ctx W w0 (R ++ R1) Φ → J (Value.agg #[Value.int IntKind.i64 x0, Value.int IntKind.i64 x1, Value.slice x2P x2N x2C, Value.bool x3])
  w0) (∀ (w2 : World) (R3 : List Own), Ctx W w2 (R ++ R3) Φ → Calls Tryz.prog F.erratalaw41_mod #[Value.int IntKind.i64 x0, Value.int IntKind.i64 3] w2 fun (e4 : Ending) (w5 : World) => ∃ (n6
  : Int), e4 = Ending.returned (Value.int IntKind.i64 n6) ∧ ∃ (R7 : List Own), ∃ (Φ8 : PW), Stable Φ8 ∧ Ctx W w5 (R7 ++ R3) Φ8 ∧ ∀ (w9 : World) (R10 : List Own), Ctx W w9 (R7 ++ R10) Φ8 →
  Calls Tryz.prog F.erratalaw41_mod #[Value.int IntKind.i64 x1, Value.int IntKind.i64 20] w9 fun (e11 : Ending) (w12 : World) => ∃ (n13 : Int), e11 = Ending.returned (Value.int IntKind.i64
  n13) ∧ ∃ (R14 : List Own), ∃ (Φ15 : PW), Stable Φ15 ∧ Ctx W w12 (R14 ++ R10) Φ15 ∧ I64 (mark + n13) ∧ ∀ (k16 : Nat) (w17 : World) (R18 : List Own), Ctx W w17 (Own.blk k16 [] 51 :: R14 ++
  R18) Φ15 → ∃ (p19 : Option Addr), ∃ (k20 : Nat), ∃ (k21 : Nat), ∃ (w22 : World), Sem.run Tryz.prog (builtin Builtin.append #[31, 31] 31 #[false, false] #[Value.slice (some (Addr.mk k16 0
  none)) 0 0, Value.slice x2P x2N x2C]) w17 = Result.ok (Next.value (Value.slice p19 k20 k21)) w22 ∧ ∃ (R23 : List Own), ∃ (Φ24 : PW), Stable Φ24 ∧ Ctx W w22 (R23 ++ R18) Φ24 ∧ exI fun (I25 :
  Int → List Own → PW → Nat → Prop) => (∃ (R26 : List Own), ∃ (Φ27 : PW), ∃ (k28 : Nat), Stable Φ27 ∧ (∀ (w29 : World) (R30 : List Own), Ctx W w29 (R23 ++ R30) Φ24 → Ctx W w29 (R26 ++ R30)
  Φ27) ∧ I25 0 R26 Φ27 k28) ∧ ∀ (n31 : Int) (R32 : List Own) (I33 : List Nat → World → Prop) (k34 : Nat), Stable I33 → I25 n31 R32 I33 k34 → Br (decide (n31 < (↑k20 : Int))) (I64 (next + n31)
  ∧ (0 ≤ n31 ∧ n31 < (↑k20 : Int)) ∧ ptrK none p19 fun (k35 k36 : Nat) => ∀ (w37 : World) (R38 : List Own), Ctx W w37 (R32 ++ R38) I33 → CanWrite w37 k35 (k36 + n31.toNat * 7) 1 ∧ ∀ (w39 :
  World), w39 = w37.setCell (Addr.mk k35 (k36 + n31.toNat * 7) none) (Value.int IntKind.i64 (next + n31)) → ∃ (R40 : List Own), ∃ (Φ41 : PW), Stable Φ41 ∧ Ctx W w39 (R40 ++ R38) Φ41 ∧ (0 ≤
  n31 ∧ n31 < (↑k20 : Int)) ∧ ptrK none p19 fun (k42 k43 : Nat) => ∀ (w44 : World) (R45 : List Own), Ctx W w44 (R40 ++ R45) Φ41 → CanWrite w44 k42 (k43 + n31.toNat * 7 + 1) 1 ∧ ∀ (w46 :
  World), w46 = w44.setCell (Addr.mk k42 (k43 + n31.toNat * 7 + 1) none) (Value.int IntKind.i64 (IntKind.i64.wrap (IntKind.i64.wrap (last + 1) + n6))) → ∃ (R47 : List Own), ∃ (Φ48 : PW),
  Stable Φ48 ∧ Ctx W w46 (R47 ++ R45) Φ48 ∧ ∃ (R49 : List Own), ∃ (Φ50 : PW), Stable Φ50 ∧ (∀ (w51 : World) (R52 : List Own), Ctx W w51 (R47 ++ R52) Φ48 → Ctx W w51 (R49 ++ R52) Φ50) ∧ (0 ≤
  n31 ∧ n31 < (↑k20 : Int)) ∧ ptrK none p19 fun (k53 k54 : Nat) => I64 (mark + n13 + 1) ∧ ∃ (n55 : Int), (∀ (w56 : World) (R57 : List Own), Ctx W w56 (R49 ++ R57) Φ50 → ∃ (n58 : Int),
  w56.cell? (Addr.mk k53 (k54 + n31.toNat * 7 + 2) none) = some (Value.int IntKind.i64 n58) ∧ Value.int IntKind.i64 n58 = Value.int IntKind.i64 n55) ∧ ∀ (w59 : World) (R60 : List Own), Ctx W
  w59 (R47 ++ R60) Φ48 → Calls Tryz.prog F.erratalaw41_mod #[Value.int IntKind.i64 n55, Value.int IntKind.i64 (max (mark + n13 + 1) 1)] w59 fun (e61 : Ending) (w62 : World) => ∃ (n63 : Int),
  e61 = Ending.returned (Value.int IntKind.i64 n63) ∧ ∃ (R64 : List Own), ∃ (Φ65 : PW), Stable Φ65 ∧ Ctx W w62 (R64 ++ R60) Φ65 ∧ (∀ (w66 : World) (R67 : List Own), Ctx W w66 (R64 ++ R67) Φ65
  → Ctx W w66 (R49 ++ R67) Φ50) ∧ (0 ≤ n31 ∧ n31 < (↑k20 : Int)) ∧ ptrK none p19 fun (k68 k69 : Nat) => ∀ (w70 : World) (R71 : List Own), Ctx W w70 (R64 ++ R71) Φ65 → CanWrite w70 k68 (k69 +
  n31.toNat * 7 + 2) 1 ∧ ∀ (w72 : World), w72 = w70.setCell (Addr.mk k68 (k69 + n31.toNat * 7 + 2) none) (Value.int IntKind.i64 n63) → ∃ (R73 : List Own), ∃ (Φ74 : PW), Stable Φ74 ∧ Ctx W w72
  (R73 ++ R71) Φ74 ∧ (0 ≤ n31 ∧ n31 < (↑k20 : Int)) ∧ ptrK none p19 fun (k75 k76 : Nat) => ∀ (w77 : World) (R78 : List Own), Ctx W w77 (R73 ++ R78) Φ74 → ∃ (n79 : Int), w77.cell? (Addr.mk k75
  (k76 + n31.toNat * 7 + 5) none) = some (Value.int IntKind.i64 n79) ∧ Br (decide (n79 ≠ 2)) ((0 ≤ n31 ∧ n31 < (↑k20 : Int)) ∧ ptrK none p19 fun (k80 k81 : Nat) => ∀ (w82 : World) (R83 : List
  Own), Ctx W w82 (R73 ++ R83) Φ74 → CanWrite w82 k80 (k81 + n31.toNat * 7 + 5) 1 ∧ ∀ (w84 : World), w84 = w82.setCell (Addr.mk k80 (k81 + n31.toNat * 7 + 5) none) (Value.int IntKind.i64 0) →
  ∃ (R85 : List Own), ∃ (Φ86 : PW), Stable Φ86 ∧ Ctx W w84 (R85 ++ R83) Φ86 ∧ (0 ≤ n31 ∧ n31 < (↑k20 : Int)) ∧ ptrK none p19 fun (k87 k88 : Nat) => ∀ (w89 : World) (R90 : List Own), Ctx W w89
  (R85 ++ R90) Φ86 → ∃ (n91 : Int), w89.cell? (Addr.mk k87 (k88 + n31.toNat * 7 + 2) none) = some (Value.int IntKind.i64 n91) ∧ Br (decide (n91 ≤ mark)) ((0 ≤ n31 ∧ n31 < (↑k20 : Int)) ∧ ptrK
  none p19 fun (k92 k93 : Nat) => ∀ (w94 : World) (R95 : List Own), Ctx W w94 (R85 ++ R95) Φ86 → CanWrite w94 k92 (k93 + n31.toNat * 7 + 5) 1 ∧ ∀ (w96 : World), w96 = w94.setCell (Addr.mk k92
  (k93 + n31.toNat * 7 + 5) none) (Value.int IntKind.i64 1) → ∃ (R97 : List Own), ∃ (Φ98 : PW), Stable Φ98 ∧ Ctx W w96 (R97 ++ R95) Φ98 ∧ I64 (n31 + 1) ∧ ∃ (R99 : List Own), ∃ (Φ100 : PW), ∃
  (k101 : Nat), Stable Φ100 ∧ (∀ (w102 : World) (R103 : List Own), Ctx W w102 (R97 ++ R103) Φ98 → Ctx W w102 (R99 ++ R103) Φ100) ∧ I25 (n31 + 1) R99 Φ100 k101 ∧ k101 < k34) (I64 (n31 + 1) ∧ ∃
  (R104 : List Own), ∃ (Φ105 : PW), ∃ (k106 : Nat), Stable Φ105 ∧ (∀ (w107 : World) (R108 : List Own), Ctx W w107 (R85 ++ R108) Φ86 → Ctx W w107 (R104 ++ R108) Φ105) ∧ I25 (n31 + 1) R104 Φ105
  k106 ∧ k106 < k34)) (I64 (n31 + 1) ∧ ∃ (R109 : List Own), ∃ (Φ110 : PW), ∃ (k111 : Nat), Stable Φ110 ∧ (∀ (w112 : World) (R113 : List Own), Ctx W w112 (R73 ++ R113) Φ74 → Ctx W w112 (R109
  ++ R113) Φ110) ∧ I25 (n31 + 1) R109 Φ110 k111 ∧ k111 < k34)) (∀ (w114 : World) (R115 : List Own), Ctx W w114 (R32 ++ R115) I33 → J (Value.agg #[Value.int IntKind.i64 (IntKind.i64.wrap
  (IntKind.i64.wrap (last + 1) + n6)), Value.int IntKind.i64 (mark + n13), Value.slice p19 k20 k21, Value.bool x3]) w114))

theorem Berratalaw41_fitted_run (x0 : Int) (x1 : Int) (x2P : Option Addr) (x2N x2C : Nat) (x3 : Bool) (last : Int) (mark : Int) (next : Int) {W w : World} {R : List Own} {Φ : PW} [Stable Φ] {J : Value → World → Prop} (c : Ctx W w R Φ) (h : Berratalaw41_fitted x0 x1 x2P x2N x2C x3 last mark next W R Φ J) : Calls Tryz.prog F.erratalaw41_fitted #[.agg #[.int .i64 x0, .int .i64 x1, .slice x2P x2N x2C, .bool x3], .int .i64 last, .int .i64 mark, .int .i64 next] w fun e w' => ∃ v, e = .returned v ∧ J v w' :=
  vcFS_sound (H := { keep := some [1, 2, 3, 4, 8, 9, 10, 13, 35, 70, 81], wrap := [16, 20], track := [4, 8], stages := [(11, [.held [(0, true), (1, true), (2, true), (3, true), (7, true), (4, true), (8, true), (5, true), (9, true), (6, true), (10, true), (11, false)], .stage [12] none, .stage [13] (some 14)])], loops := [(7, [(10, .one (.int .i64))], [])] }) (by rw [show vcFS Tryz.prog W { keep := some [1, 2, 3, 4, 8, 9, 10, 13, 35, 70, 81], wrap := [16, 20], track := [4, 8], stages := [(11, [.held [(0, true), (1, true), (2, true), (3, true), (7, true), (4, true), (8, true), (5, true), (9, true), (6, true), (10, true), (11, false)], .stage [12] none, .stage [13] (some 14)])], loops := [(7, [(10, .one (.int .i64))], [])] } F.erratalaw41_fitted #[.agg #[.int .i64 x0, .int .i64 x1, .slice x2P x2N x2C, .bool x3], .int .i64 last, .int .i64 mark, .int .i64 next] R Φ J = Berratalaw41_fitted x0 x1 x2P x2N x2C x3 last mark next W R Φ J by kernel_rfl]; exact h) c

def Berrataref41_Ledger_Last (lB lO : Nat) (W : World) (R : List Own) (Φ : PW) (J : Value → World → Prop) : Prop :=
  ∀ (w0 : World) (R1 : List Own), Ctx W w0 (R ++ R1) Φ → ∃ (p2 : Option Addr), ∃ (k3 : Nat), ∃ (k4 : Nat), w0.cell? (Addr.mk lB lO none) = some (Value.slice p2 k3 k4) ∧ Br (decide ((↑k3 :
  Int) = 0)) (∀ (w5 : World) (R6 : List Own), Ctx W w5 (R ++ R6) Φ → J (Value.int IntKind.i64 0) w5) (∀ (w7 : World) (R8 : List Own), Ctx W w7 (R ++ R8) Φ → ∃ (p9 : Option Addr), ∃ (k10 :
  Nat), ∃ (k11 : Nat), w7.cell? (Addr.mk lB lO none) = some (Value.slice p9 k10 k11) ∧ ∃ (p12 : Option Addr), ∃ (k13 : Nat), ∃ (k14 : Nat), w7.cell? (Addr.mk lB lO none) = some (Value.slice
  p12 k13 k14) ∧ I64 ((↑k13 : Int) - 1) ∧ (0 ≤ (↑k13 : Int) - 1 ∧ (↑k13 : Int) - 1 < (↑k10 : Int)) ∧ ptrK none p9 fun (k15 k16 : Nat) => ∃ (n17 : Int), w7.cell? (Addr.mk k15 (k16 + ((↑k13 :
  Int) - 1).toNat * 3) none) = some (Value.int IntKind.i64 n17) ∧ ∀ (w18 : World) (R19 : List Own), Ctx W w18 (R ++ R19) Φ → J (Value.int IntKind.i64 n17) w18)

theorem Berrataref41_Ledger_Last_run (lB lO : Nat) {W w : World} {R : List Own} {Φ : PW} [Stable Φ] {J : Value → World → Prop} (c : Ctx W w R Φ) (h : Berrataref41_Ledger_Last lB lO W R Φ J) : Calls Tryz.prog F.errataref41_Ledger_Last #[.pointer (some ⟨lB, lO, none⟩)] w fun e w' => ∃ v, e = .returned v ∧ J v w' :=
  vcFS_sound (H := { keep := some [0, 2, 8] }) (by rw [show vcFS Tryz.prog W { keep := some [0, 2, 8] } F.errataref41_Ledger_Last #[.pointer (some ⟨lB, lO, none⟩)] R Φ J = Berrataref41_Ledger_Last lB lO W R Φ J by kernel_rfl]; exact h) c

def Berrataref41_Ledger_Mark (lB lO : Nat) (W : World) (R : List Own) (Φ : PW) (J : Value → World → Prop) : Prop :=
  ∀ (w0 : World) (R1 : List Own), Ctx W w0 (R ++ R1) Φ → ∃ (p2 : Option Addr), ∃ (k3 : Nat), ∃ (k4 : Nat), w0.cell? (Addr.mk lB lO none) = some (Value.slice p2 k3 k4) ∧ Br (decide ((↑k3 :
  Int) = 0)) (∀ (w5 : World) (R6 : List Own), Ctx W w5 (R ++ R6) Φ → J (Value.int IntKind.i64 (-1)) w5) (∀ (w7 : World) (R8 : List Own), Ctx W w7 (R ++ R8) Φ → ∃ (p9 : Option Addr), ∃ (k10 :
  Nat), ∃ (k11 : Nat), w7.cell? (Addr.mk lB lO none) = some (Value.slice p9 k10 k11) ∧ ∃ (p12 : Option Addr), ∃ (k13 : Nat), ∃ (k14 : Nat), w7.cell? (Addr.mk lB lO none) = some (Value.slice
  p12 k13 k14) ∧ I64 ((↑k13 : Int) - 1) ∧ (0 ≤ (↑k13 : Int) - 1 ∧ (↑k13 : Int) - 1 < (↑k10 : Int)) ∧ ptrK none p9 fun (k15 k16 : Nat) => ∃ (n17 : Int), w7.cell? (Addr.mk k15 (k16 + ((↑k13 :
  Int) - 1).toNat * 3 + 1) none) = some (Value.int IntKind.i64 n17) ∧ ∀ (w18 : World) (R19 : List Own), Ctx W w18 (R ++ R19) Φ → J (Value.int IntKind.i64 n17) w18)

theorem Berrataref41_Ledger_Mark_run (lB lO : Nat) {W w : World} {R : List Own} {Φ : PW} [Stable Φ] {J : Value → World → Prop} (c : Ctx W w R Φ) (h : Berrataref41_Ledger_Mark lB lO W R Φ J) : Calls Tryz.prog F.errataref41_Ledger_Mark #[.pointer (some ⟨lB, lO, none⟩)] w fun e w' => ∃ v, e = .returned v ∧ J v w' :=
  vcFS_sound (H := { keep := some [0, 2, 8] }) (by rw [show vcFS Tryz.prog W { keep := some [0, 2, 8] } F.errataref41_Ledger_Mark #[.pointer (some ⟨lB, lO, none⟩)] R Φ J = Berrataref41_Ledger_Mark lB lO W R Φ J by kernel_rfl]; exact h) c

-- loop at region 3: 3 out, 4 i; blocks 
def Berrataref41_Ledger_Lines (lB lO : Nat) (W : World) (R : List Own) (Φ : PW) (J : Value → World → Prop) : Prop :=
  exI fun (I0 : Option Addr → Nat → Nat → Int → List Own → PW → Nat → Prop) => (∃ (R1 : List Own), ∃ (Φ2 : PW), ∃ (k3 : Nat), Stable Φ2 ∧ (∀ (w4 : World) (R5 : List Own), Ctx W w4 (R ++ R5) Φ
  → Ctx W w4 (R1 ++ R5) Φ2) ∧ I0 none 0 0 0 R1 Φ2 k3) ∧ ∀ (p6 : Option Addr) (k7 k8 : Nat) (n9 : Int) (R10 : List Own) (I11 : List Nat → World → Prop) (k12 : Nat), Stable I11 → I0 p6 k7 k8 n9
  R10 I11 k12 → ∀ (w13 : World) (R14 : List Own), Ctx W w13 (R10 ++ R14) I11 → ∃ (p15 : Option Addr), ∃ (k16 : Nat), ∃ (k17 : Nat), w13.cell? (Addr.mk lB lO none) = some (Value.slice p15 k16
  k17) ∧ Br (decide (n9 < (↑k16 : Int))) (∀ (w18 : World) (R19 : List Own), Ctx W w18 (R10 ++ R19) I11 → ∃ (p20 : Option Addr), ∃ (k21 : Nat), ∃ (k22 : Nat), w18.cell? (Addr.mk lB lO none) =
  some (Value.slice p20 k21 k22) ∧ (0 ≤ n9 ∧ n9 < (↑k21 : Int)) ∧ ptrK none p20 fun (k23 k24 : Nat) => ∀ (w25 : World) (R26 : List Own), Ctx W w25 (R10 ++ R26) I11 → ∃ (p27 : Option Addr), ∃
  (k28 : Nat), ∃ (k29 : Nat), w25.cell? (Addr.mk k23 (k24 + n9.toNat * 3 + 2) none) = some (Value.slice p27 k28 k29) ∧ ∀ (w30 : World) (R31 : List Own), Ctx W w30 (R10 ++ R31) I11 → ∃ (p32 :
  Option Addr), ∃ (k33 : Nat), ∃ (k34 : Nat), ∃ (w35 : World), Sem.run Tryz.prog (builtin Builtin.append #[31, 31] 31 #[false, false] #[Value.slice p6 k7 k8, Value.slice p27 k28 k29]) w30 =
  Result.ok (Next.value (Value.slice p32 k33 k34)) w35 ∧ ∃ (R36 : List Own), ∃ (Φ37 : PW), Stable Φ37 ∧ Ctx W w35 (R36 ++ R31) Φ37 ∧ I64 (n9 + 1) ∧ ∃ (R38 : List Own), ∃ (Φ39 : PW), ∃ (k40 :
  Nat), Stable Φ39 ∧ (∀ (w41 : World) (R42 : List Own), Ctx W w41 (R36 ++ R42) Φ37 → Ctx W w41 (R38 ++ R42) Φ39) ∧ I0 p32 k33 k34 (n9 + 1) R38 Φ39 k40 ∧ k40 < k12) (∀ (w43 : World) (R44 :
  List Own), Ctx W w43 (R10 ++ R44) I11 → J (Value.slice p6 k7 k8) w43)

theorem Berrataref41_Ledger_Lines_run (lB lO : Nat) {W w : World} {R : List Own} {Φ : PW} [Stable Φ] {J : Value → World → Prop} (c : Ctx W w R Φ) (h : Berrataref41_Ledger_Lines lB lO W R Φ J) : Calls Tryz.prog F.errataref41_Ledger_Lines #[.pointer (some ⟨lB, lO, none⟩)] w fun e w' => ∃ v, e = .returned v ∧ J v w' :=
  vcFS_sound (H := { keep := some [0, 2, 3, 4, 11], loops := [(3, [(3, .one (.slice)), (4, .one (.int .i64))], [])] }) (by rw [show vcFS Tryz.prog W { keep := some [0, 2, 3, 4, 11], loops := [(3, [(3, .one (.slice)), (4, .one (.int .i64))], [])] } F.errataref41_Ledger_Lines #[.pointer (some ⟨lB, lO, none⟩)] R Φ J = Berrataref41_Ledger_Lines lB lO W R Φ J by kernel_rfl]; exact h) c

-- loop at region 5: 23 ; blocks 
-- known blocks: 11 x, 12 p
def Bledger_Ledger_Append (lB lO : Nat) (no : Int) (mark : Int) (linesP : Option Addr) (linesN linesC : Nat) (W : World) (R : List Own) (Φ : PW) (J : Value → World → Prop) : Prop :=
  ∀ (w0 : World) (R1 : List Own), Ctx W w0 (R ++ R1) Φ → Calls Tryz.prog F.ledger_Ledger_check #[Value.pointer (some (Addr.mk lB lO none)), Value.int IntKind.i64 no, Value.int IntKind.i64
  mark, Value.slice linesP linesN linesC] w0 fun (e2 : Ending) (w3 : World) => ∃ (n4 : Int), e2 = Ending.returned (Value.int IntKind.i64 n4) ∧ ∃ (R5 : List Own), ∃ (Φ6 : PW), Stable Φ6 ∧ Ctx
  W w3 (R5 ++ R1) Φ6 ∧ Br (decide (n4 ≠ 0)) (∀ (w7 : World) (R8 : List Own), Ctx W w7 (R5 ++ R8) Φ6 → J (Value.int IntKind.i64 n4) w7) (exI fun (I9 : Int → List Own → PW → Nat → Prop) => (∃
  (R10 : List Own), ∃ (Φ11 : PW), ∃ (k12 : Nat), Stable Φ11 ∧ (∀ (w13 : World) (R14 : List Own), Ctx W w13 (R5 ++ R14) Φ6 → Ctx W w13 (R10 ++ R14) Φ11) ∧ I9 0 R10 Φ11 k12) ∧ ∀ (n15 : Int)
  (R16 : List Own) (I17 : List Nat → World → Prop) (k18 : Nat), Stable I17 → I9 n15 R16 I17 k18 → Br (decide (n15 < (↑linesN : Int))) ((0 ≤ n15 ∧ n15 < (↑linesN : Int)) ∧ ptrK none linesP fun
  (k19 k20 : Nat) => ∀ (w21 : World) (R22 : List Own), Ctx W w21 (R16 ++ R22) I17 → ∃ (n23 : Int), ∃ (n24 : Int), ∃ (n25 : Int), ∃ (p26 : Option Addr), ∃ (k27 : Nat), ∃ (k28 : Nat), ∃ (n29 :
  Int), ∃ (n30 : Int), ∃ (n31 : Int), RowAt w21 k19 (k20 + n15.toNat * 7) [Value.int IntKind.i64 n23, Value.int IntKind.i64 n24, Value.int IntKind.i64 n25, Value.slice p26 k27 k28, Value.int
  IntKind.i64 n29, Value.int IntKind.i64 n30, Value.int IntKind.i64 n31] ∧ ∀ (b : Nat) (w32 : World) (R33 : List Own), Ctx W w32 (R16 ++ R33) I17 → Calls Tryz.prog F.ledger_at #[Value.agg
  #[Value.int IntKind.i64 n23, Value.int IntKind.i64 n24, Value.int IntKind.i64 n25, Value.slice p26 k27 k28, Value.int IntKind.i64 n29, Value.int IntKind.i64 n30, Value.int IntKind.i64 n31]]
  w32 fun (e34 : Ending) (w35 : World) => ∃ (n36 : Int), ∃ (s37 : ByteArray), e34 = Ending.returned (Value.agg #[Value.int IntKind.i64 n36, Value.string s37]) ∧ ∃ (R38 : List Own), ∃ (Φ39 :
  PW), Stable Φ39 ∧ Ctx W w35 (R38 ++ R33) Φ39 ∧ ∀ (b : Nat), ∃ (R40 : List Own), ∃ (Φ41 : PW), Stable Φ41 ∧ (∀ (w42 : World) (R43 : List Own), Ctx W w42 (R38 ++ R43) Φ39 → Ctx W w42 (R40 ++
  R43) Φ41) ∧ ∃ (p44 : Option Nat), (∀ (w45 : World) (R46 : List Own), Ctx W w45 (R40 ++ R46) Φ41 → ∃ (p47 : Option Nat), w45.cell? (Addr.mk lB (lO + 2) none) = some (Value.map p47) ∧
  Value.map p47 = Value.map p44) ∧ ∃ (n48 : Int), (∀ (w49 : World) (R50 : List Own), Ctx W w49 (R40 ++ R50) Φ41 → ∃ (n51 : Int), (∀ (w52 : World), w52.heap = w49.heap → Sem.run Tryz.prog
  (Instr.lookup 75 (Value.map p44) (Value.agg #[Value.int IntKind.i64 n36, Value.string s37]) false) w52 = Result.ok (Value.int IntKind.i64 n51) w52) ∧ Value.int IntKind.i64 n51 = Value.int
  IntKind.i64 n48) ∧ I64 (n48 + n29) ∧ ∀ (w53 : World) (R54 : List Own), Ctx W w53 (R38 ++ R54) Φ39 → ∃ (n55 : Int), ∃ (n56 : Int), ∃ (w57 : World), Sem.run Tryz.prog (Instr.mapEntry 75
  (Value.map p44) (Value.agg #[Value.int IntKind.i64 n36, Value.string s37])) w53 = Result.ok (Value.tuple #[Value.int IntKind.i64 n55, Value.int IntKind.i64 n56]) w57 ∧ ∃ (R58 : List Own), ∃
  (Φ59 : PW), Stable Φ59 ∧ Ctx W w57 (R58 ++ R54) Φ59 ∧ (∀ (w60 : World) (R61 : List Own), Ctx W w60 (R58 ++ R61) Φ59 → Ctx W w60 (R40 ++ R61) Φ41) ∧ ∀ (w62 : World) (R63 : List Own), Ctx W
  w62 (R58 ++ R63) Φ59 → ∃ (w64 : World), Sem.run Tryz.prog (Instr.entryStore 75 (Value.map p44) (Value.int IntKind.i64 n56) (Value.int IntKind.i64 (n48 + n29))) w62 = Result.ok () w64 ∧ ∃
  (R65 : List Own), ∃ (Φ66 : PW), Stable Φ66 ∧ Ctx W w64 (R65 ++ R63) Φ66 ∧ ∀ (w67 : World) (R68 : List Own), Ctx W w67 (R65 ++ R68) Φ66 → ∃ (p69 : Option Nat), w67.cell? (Addr.mk lB (lO + 2)
  none) = some (Value.map p69) ∧ ∃ (n70 : Int), (∀ (w71 : World), w71.heap = w67.heap → Sem.run Tryz.prog (Instr.lookup 75 (Value.map p69) (Value.agg #[Value.int IntKind.i64 n36, Value.string
  s37]) false) w71 = Result.ok (Value.int IntKind.i64 n70) w71) ∧ Br (decide (n70 = 0)) (∃ (R72 : List Own), ∃ (Φ73 : PW), Stable Φ73 ∧ (∀ (w74 : World) (R75 : List Own), Ctx W w74 (R65 ++
  R75) Φ66 → Ctx W w74 (R72 ++ R75) Φ73) ∧ ∃ (p76 : Option Nat), (∀ (w77 : World) (R78 : List Own), Ctx W w77 (R72 ++ R78) Φ73 → ∃ (p79 : Option Nat), w77.cell? (Addr.mk lB (lO + 2) none) =
  some (Value.map p79) ∧ Value.map p79 = Value.map p76) ∧ ∀ (w80 : World) (R81 : List Own), Ctx W w80 (R65 ++ R81) Φ66 → ∃ (w82 : World), Sem.run Tryz.prog (builtin Builtin.delete #[75, 82] 0
  #[false, false] #[Value.map p76, Value.agg #[Value.int IntKind.i64 n36, Value.string s37]]) w80 = Result.ok (Next.value (Value.tuple #[])) w82 ∧ ∃ (R83 : List Own), ∃ (Φ84 : PW), Stable Φ84
  ∧ Ctx W w82 (R83 ++ R81) Φ84 ∧ ∃ (R85 : List Own), ∃ (Φ86 : PW), Stable Φ86 ∧ (∀ (w87 : World) (R88 : List Own), Ctx W w87 (R83 ++ R88) Φ84 → Ctx W w87 (R85 ++ R88) Φ86) ∧ (0 ≤ n30 ∧ n30 <
  3) ∧ ∃ (n89 : Int), (∀ (w90 : World) (R91 : List Own), Ctx W w90 (R85 ++ R91) Φ86 → ∃ (n92 : Int), w90.cell? (Addr.mk lB (lO + 3 + n30.toNat) none) = some (Value.int IntKind.i64 n92) ∧
  Value.int IntKind.i64 n92 = Value.int IntKind.i64 n89) ∧ I64 (n89 + 1) ∧ (0 ≤ n30 ∧ n30 < 3) ∧ ∀ (w93 : World) (R94 : List Own), Ctx W w93 (R83 ++ R94) Φ84 → CanWrite w93 lB (lO + 3 +
  n30.toNat) 1 ∧ ∀ (w95 : World), w95 = w93.setCell (Addr.mk lB (lO + 3 + n30.toNat) none) (Value.int IntKind.i64 (n89 + 1)) → ∃ (R96 : List Own), ∃ (Φ97 : PW), Stable Φ97 ∧ Ctx W w95 (R96 ++
  R94) Φ97 ∧ I64 (n15 + 1) ∧ ∃ (R98 : List Own), ∃ (Φ99 : PW), ∃ (k100 : Nat), Stable Φ99 ∧ (∀ (w101 : World) (R102 : List Own), Ctx W w101 (R96 ++ R102) Φ97 → Ctx W w101 (R98 ++ R102) Φ99) ∧
  I9 (n15 + 1) R98 Φ99 k100 ∧ k100 < k18) (∃ (R103 : List Own), ∃ (Φ104 : PW), Stable Φ104 ∧ (∀ (w105 : World) (R106 : List Own), Ctx W w105 (R65 ++ R106) Φ66 → Ctx W w105 (R103 ++ R106)
  Φ104) ∧ (0 ≤ n30 ∧ n30 < 3) ∧ ∃ (n107 : Int), (∀ (w108 : World) (R109 : List Own), Ctx W w108 (R103 ++ R109) Φ104 → ∃ (n110 : Int), w108.cell? (Addr.mk lB (lO + 3 + n30.toNat) none) = some
  (Value.int IntKind.i64 n110) ∧ Value.int IntKind.i64 n110 = Value.int IntKind.i64 n107) ∧ I64 (n107 + 1) ∧ (0 ≤ n30 ∧ n30 < 3) ∧ ∀ (w111 : World) (R112 : List Own), Ctx W w111 (R65 ++ R112)
  Φ66 → CanWrite w111 lB (lO + 3 + n30.toNat) 1 ∧ ∀ (w113 : World), w113 = w111.setCell (Addr.mk lB (lO + 3 + n30.toNat) none) (Value.int IntKind.i64 (n107 + 1)) → ∃ (R114 : List Own), ∃
  (Φ115 : PW), Stable Φ115 ∧ Ctx W w113 (R114 ++ R112) Φ115 ∧ I64 (n15 + 1) ∧ ∃ (R116 : List Own), ∃ (Φ117 : PW), ∃ (k118 : Nat), Stable Φ117 ∧ (∀ (w119 : World) (R120 : List Own), Ctx W w119
  (R114 ++ R120) Φ115 → Ctx W w119 (R116 ++ R120) Φ117) ∧ I9 (n15 + 1) R116 Φ117 k118 ∧ k118 < k18)) (∃ (R121 : List Own), ∃ (Φ122 : PW), Stable Φ122 ∧ (∀ (w123 : World) (R124 : List Own),
  Ctx W w123 (R16 ++ R124) I17 → Ctx W w123 (R121 ++ R124) Φ122) ∧ ∃ (p125 : Option Addr), ∃ (k126 : Nat), ∃ (k127 : Nat), (∀ (w128 : World) (R129 : List Own), Ctx W w128 (R121 ++ R129) Φ122
  → ∃ (p130 : Option Addr), ∃ (k131 : Nat), ∃ (k132 : Nat), w128.cell? (Addr.mk lB lO none) = some (Value.slice p130 k131 k132) ∧ Value.slice p130 k131 k132 = Value.slice p125 k126 k127) ∧ ∀
  (w133 : World) (R134 : List Own), Ctx W w133 (R16 ++ R134) I17 → Calls Tryz.prog F.ledger_cloned #[Value.slice linesP linesN linesC] w133 fun (e135 : Ending) (w136 : World) => ∃ (p137 :
  Option Addr), ∃ (k138 : Nat), ∃ (k139 : Nat), e135 = Ending.returned (Value.slice p137 k138 k139) ∧ ∃ (R140 : List Own), ∃ (Φ141 : PW), Stable Φ141 ∧ Ctx W w136 (R140 ++ R134) Φ141 ∧ (∀
  (w142 : World) (R143 : List Own), Ctx W w142 (R140 ++ R143) Φ141 → Ctx W w142 (R121 ++ R143) Φ122) ∧ ∀ (w144 : World) (R145 : List Own), Ctx W w144 (R140 ++ R145) Φ141 → ∃ (p146 : Option
  Addr), ∃ (k147 : Nat), ∃ (k148 : Nat), ∃ (w149 : World), Sem.run Tryz.prog (builtin Builtin.append #[31, 31] 31 #[false, false] #[Value.slice p125 k126 k127, Value.slice p137 k138 k139])
  w144 = Result.ok (Next.value (Value.slice p146 k147 k148)) w149 ∧ ∃ (R150 : List Own), ∃ (Φ151 : PW), Stable Φ151 ∧ Ctx W w149 (R150 ++ R145) Φ151 ∧ (∀ (w152 : World) (R153 : List Own), Ctx
  W w152 (R150 ++ R153) Φ151 → Ctx W w152 (R121 ++ R153) Φ122) ∧ ∀ (w154 : World) (R155 : List Own), Ctx W w154 (R150 ++ R155) Φ151 → CanWrite w154 lB lO 1 ∧ ∀ (w156 : World), w156 =
  w154.setCell (Addr.mk lB lO none) (Value.slice p146 k147 k148) → ∃ (R157 : List Own), ∃ (Φ158 : PW), Stable Φ158 ∧ Ctx W w156 (R157 ++ R155) Φ158 ∧ ∃ (R159 : List Own), ∃ (Φ160 : PW),
  Stable Φ160 ∧ (∀ (w161 : World) (R162 : List Own), Ctx W w161 (R157 ++ R162) Φ158 → Ctx W w161 (R159 ++ R162) Φ160) ∧ ∃ (p163 : Option Addr), ∃ (k164 : Nat), ∃ (k165 : Nat), (∀ (w166 :
  World) (R167 : List Own), Ctx W w166 (R159 ++ R167) Φ160 → ∃ (p168 : Option Addr), ∃ (k169 : Nat), ∃ (k170 : Nat), w166.cell? (Addr.mk lB (lO + 1) none) = some (Value.slice p168 k169 k170)
  ∧ Value.slice p168 k169 k170 = Value.slice p163 k164 k165) ∧ ∃ (p171 : Option Addr), ∃ (k172 : Nat), ∃ (k173 : Nat), (∀ (w174 : World) (R175 : List Own), Ctx W w174 (R159 ++ R175) Φ160 → ∃
  (p176 : Option Addr), ∃ (k177 : Nat), ∃ (k178 : Nat), w174.cell? (Addr.mk lB lO none) = some (Value.slice p176 k177 k178) ∧ Value.slice p176 k177 k178 = Value.slice p171 k172 k173) ∧ ∀
  (k179 : Nat), (∀ (w180 : World) (R181 : List Own), Ctx W w180 (Own.blk k179 [Value.int IntKind.i64 no, Value.int IntKind.i64 mark, Value.int IntKind.i64 (↑k172 : Int)] 86 :: R157 ++ R181)
  Φ158 → Ctx W w180 (R159 ++ R181) Φ160) ∧ ∀ (w182 : World) (R183 : List Own), Ctx W w182 (Own.blk k179 [Value.int IntKind.i64 no, Value.int IntKind.i64 mark, Value.int IntKind.i64 (↑k172 :
  Int)] 86 :: R157 ++ R183) Φ158 → ∃ (p184 : Option Addr), ∃ (k185 : Nat), ∃ (k186 : Nat), ∃ (w187 : World), Sem.run Tryz.prog (builtin Builtin.append #[76, 76] 76 #[false, false]
  #[Value.slice p163 k164 k165, Value.slice (some (Addr.mk k179 0 none)) 1 1]) w182 = Result.ok (Next.value (Value.slice p184 k185 k186)) w187 ∧ ∃ (R188 : List Own), ∃ (Φ189 : PW), Stable
  Φ189 ∧ Ctx W w187 (R188 ++ R183) Φ189 ∧ (∀ (w190 : World) (R191 : List Own), Ctx W w190 (R188 ++ R191) Φ189 → Ctx W w190 (R159 ++ R191) Φ160) ∧ ∀ (w192 : World) (R193 : List Own), Ctx W
  w192 (R188 ++ R193) Φ189 → CanWrite w192 lB (lO + 1) 1 ∧ ∀ (w194 : World), w194 = w192.setCell (Addr.mk lB (lO + 1) none) (Value.slice p184 k185 k186) → ∃ (R195 : List Own), ∃ (Φ196 : PW),
  Stable Φ196 ∧ Ctx W w194 (R195 ++ R193) Φ196 ∧ ∀ (w197 : World) (R198 : List Own), Ctx W w197 (R195 ++ R198) Φ196 → J (Value.int IntKind.i64 0) w197))

theorem Bledger_Ledger_Append_run (lB lO : Nat) (no : Int) (mark : Int) (linesP : Option Addr) (linesN linesC : Nat) {W w : World} {R : List Own} {Φ : PW} [Stable Φ] {J : Value → World → Prop} (c : Ctx W w R Φ) (h : Bledger_Ledger_Append lB lO no mark linesP linesN linesC W R Φ J) : Calls Tryz.prog F.ledger_Ledger_Append #[.pointer (some ⟨lB, lO, none⟩), .int .i64 no, .int .i64 mark, .slice linesP linesN linesC] w fun e w' => ∃ v, e = .returned v ∧ J v w' :=
  vcFS_sound (H := { keep := some [0, 1, 2, 3, 8, 9, 11, 12, 19, 21, 22, 23, 24, 46], track := [11, 12], stages := [(8, [.held [(0, true), (4, true), (6, true), (1, true), (7, true), (2, true), (3, true), (5, true), (8, true), (9, false), (10, true)], .stage [] (some 11)]), (10, [.held [(0, true), (4, true), (1, true), (2, true), (3, true)], .stage [] (some 5)]), (11, [.held [(0, true), (1, true), (2, true), (3, true), (8, true), (4, true), (9, true), (5, true), (6, true), (7, true), (10, true)], .stage [] (some 11)]), (13, [.held [(0, true), (1, true), (5, true), (2, true), (3, true), (4, true), (6, false), (7, false)], .stage [8] none, .stage [9] (some 10)]), (14, [.held [(0, true), (1, true), (5, true), (6, true), (7, true), (2, true), (8, true), (3, true), (9, true), (4, true), (10, true), (11, true), (12, true), (13, false), (14, false)], .stage [15] none, .stage [16] (some 17)])], loops := [(5, [(23, .one (.int .i64))], [])] }) (by rw [show vcFS Tryz.prog W { keep := some [0, 1, 2, 3, 8, 9, 11, 12, 19, 21, 22, 23, 24, 46], track := [11, 12], stages := [(8, [.held [(0, true), (4, true), (6, true), (1, true), (7, true), (2, true), (3, true), (5, true), (8, true), (9, false), (10, true)], .stage [] (some 11)]), (10, [.held [(0, true), (4, true), (1, true), (2, true), (3, true)], .stage [] (some 5)]), (11, [.held [(0, true), (1, true), (2, true), (3, true), (8, true), (4, true), (9, true), (5, true), (6, true), (7, true), (10, true)], .stage [] (some 11)]), (13, [.held [(0, true), (1, true), (5, true), (2, true), (3, true), (4, true), (6, false), (7, false)], .stage [8] none, .stage [9] (some 10)]), (14, [.held [(0, true), (1, true), (5, true), (6, true), (7, true), (2, true), (8, true), (3, true), (9, true), (4, true), (10, true), (11, true), (12, true), (13, false), (14, false)], .stage [15] none, .stage [16] (some 17)])], loops := [(5, [(23, .one (.int .i64))], [])] } F.ledger_Ledger_Append #[.pointer (some ⟨lB, lO, none⟩), .int .i64 no, .int .i64 mark, .slice linesP linesN linesC] R Φ J = Bledger_Ledger_Append lB lO no mark linesP linesN linesC W R Φ J by kernel_rfl]; exact h) c

-- loop at region 20: 14 i; blocks 
-- loop at region 15: 13 i; blocks 
-- loop at region 5: 10 i; blocks 
-- known blocks: 11 x, 12 y
def Berrataref41_Ledger_Append (lB lO : Nat) (no : Int) (mark : Int) (linesP : Option Addr) (linesN linesC : Nat) (W : World) (R : List Own) (Φ : PW) (J : Value → World → Prop) : Prop :=
  ∀ (w0 : World) (R1 : List Own), Ctx W w0 (R ++ R1) Φ → Calls Tryz.prog F.errataref41_Ledger_Last #[Value.pointer (some (Addr.mk lB lO none))] w0 fun (e2 : Ending) (w3 : World) => ∃ (n4 :
  Int), e2 = Ending.returned (Value.int IntKind.i64 n4) ∧ ∃ (R5 : List Own), ∃ (Φ6 : PW), Stable Φ6 ∧ Ctx W w3 (R5 ++ R1) Φ6 ∧ Br (decide (no ≤ n4)) (∀ (w7 : World) (R8 : List Own), Ctx W w7
  (R5 ++ R8) Φ6 → J (Value.int IntKind.i64 25) w7) (∀ (w9 : World) (R10 : List Own), Ctx W w9 (R5 ++ R10) Φ6 → Calls Tryz.prog F.errataref41_Ledger_Mark #[Value.pointer (some (Addr.mk lB lO
  none))] w9 fun (e11 : Ending) (w12 : World) => ∃ (n13 : Int), e11 = Ending.returned (Value.int IntKind.i64 n13) ∧ ∃ (R14 : List Own), ∃ (Φ15 : PW), Stable Φ15 ∧ Ctx W w12 (R14 ++ R10) Φ15 ∧
  Br (decide (mark < n13)) (∀ (w16 : World) (R17 : List Own), Ctx W w16 (R14 ++ R17) Φ15 → J (Value.int IntKind.i64 25) w16) (Br (decide (1099511627776 < mark)) (∀ (w18 : World) (R19 : List
  Own), Ctx W w18 (R14 ++ R19) Φ15 → J (Value.int IntKind.i64 25) w18) (∀ (w20 : World) (R21 : List Own), Ctx W w20 (R14 ++ R21) Φ15 → Calls Tryz.prog F.errataref41_Ledger_Lines
  #[Value.pointer (some (Addr.mk lB lO none))] w20 fun (e22 : Ending) (w23 : World) => ∃ (p24 : Option Addr), ∃ (k25 : Nat), ∃ (k26 : Nat), e22 = Ending.returned (Value.slice p24 k25 k26) ∧ ∃
  (R27 : List Own), ∃ (Φ28 : PW), Stable Φ28 ∧ Ctx W w23 (R27 ++ R21) Φ28 ∧ exI fun (I29 : Int → List Own → PW → Nat → Prop) => (∃ (R30 : List Own), ∃ (Φ31 : PW), ∃ (k32 : Nat), Stable Φ31 ∧
  (∀ (w33 : World) (R34 : List Own), Ctx W w33 (R27 ++ R34) Φ28 → Ctx W w33 (R30 ++ R34) Φ31) ∧ I29 0 R30 Φ31 k32) ∧ ∀ (n35 : Int) (R36 : List Own) (I37 : List Nat → World → Prop) (k38 :
  Nat), Stable I37 → I29 n35 R36 I37 k38 → Br (decide (n35 < (↑linesN : Int))) ((0 ≤ n35 ∧ n35 < (↑linesN : Int)) ∧ ptrK none linesP fun (k39 k40 : Nat) => ∀ (w41 : World) (R42 : List Own),
  Ctx W w41 (R36 ++ R42) I37 → ∃ (n43 : Int), ∃ (n44 : Int), ∃ (n45 : Int), ∃ (p46 : Option Addr), ∃ (k47 : Nat), ∃ (k48 : Nat), ∃ (n49 : Int), ∃ (n50 : Int), ∃ (n51 : Int), RowAt w41 k39
  (k40 + n35.toNat * 7) [Value.int IntKind.i64 n43, Value.int IntKind.i64 n44, Value.int IntKind.i64 n45, Value.slice p46 k47 k48, Value.int IntKind.i64 n49, Value.int IntKind.i64 n50,
  Value.int IntKind.i64 n51] ∧ ∀ (b : Nat), ∃ (R52 : List Own), ∃ (Φ53 : PW), Stable Φ53 ∧ (∀ (w54 : World) (R55 : List Own), Ctx W w54 (R36 ++ R55) I37 → Ctx W w54 (R52 ++ R55) Φ53) ∧ I64
  ((↑k25 : Int) + 1) ∧ I64 ((↑k25 : Int) + 1 + n35) ∧ Br (decide (n43 ≠ (↑k25 : Int) + 1 + n35)) (∀ (w56 : World) (R57 : List Own), Ctx W w56 (R36 ++ R57) I37 → J (Value.int IntKind.i64 1)
  w56) (Br (decide (n44 ≠ no)) (∀ (w58 : World) (R59 : List Own), Ctx W w58 (R36 ++ R59) I37 → J (Value.int IntKind.i64 1) w58) (Br (decide (n45 < 0)) (∀ (w60 : World) (R61 : List Own), Ctx W
  w60 (R36 ++ R61) I37 → J (Value.int IntKind.i64 1) w60) (Br (decide (mark < n45)) (∀ (w62 : World) (R63 : List Own), Ctx W w62 (R36 ++ R63) I37 → J (Value.int IntKind.i64 1) w62) (Br
  (decide (n49 = 0)) (∀ (w64 : World) (R65 : List Own), Ctx W w64 (R36 ++ R65) I37 → J (Value.int IntKind.i64 1) w64) (∀ (w66 : World) (R67 : List Own), Ctx W w66 (R36 ++ R67) I37 → Calls
  Tryz.prog F.errataref41_Ledger_Mark #[Value.pointer (some (Addr.mk lB lO none))] w66 fun (e68 : Ending) (w69 : World) => ∃ (n70 : Int), e68 = Ending.returned (Value.int IntKind.i64 n70) ∧ ∃
  (R71 : List Own), ∃ (Φ72 : PW), Stable Φ72 ∧ Ctx W w69 (R71 ++ R67) Φ72 ∧ (∀ (w73 : World) (R74 : List Own), Ctx W w73 (R71 ++ R74) Φ72 → Ctx W w73 (R52 ++ R74) Φ53) ∧ ∀ (w75 : World) (R76
  : List Own), Ctx W w75 (R71 ++ R76) Φ72 → Calls Tryz.prog F.errataref41_caused #[Value.agg #[Value.int IntKind.i64 n43, Value.int IntKind.i64 n44, Value.int IntKind.i64 n45, Value.slice p46
  k47 k48, Value.int IntKind.i64 n49, Value.int IntKind.i64 n50, Value.int IntKind.i64 n51], Value.int IntKind.i64 n70] w75 fun (e77 : Ending) (w78 : World) => ∃ (c79 : Bool), e77 =
  Ending.returned (Value.bool c79) ∧ ∃ (R80 : List Own), ∃ (Φ81 : PW), Stable Φ81 ∧ Ctx W w78 (R80 ++ R76) Φ81 ∧ Br (!c79) (∀ (w82 : World) (R83 : List Own), Ctx W w82 (R80 ++ R83) Φ81 → J
  (Value.int IntKind.i64 1) w82) (Br (decide (0 < n35)) (I64 (n35 - 1) ∧ (0 ≤ n35 - 1 ∧ n35 - 1 < (↑linesN : Int)) ∧ ptrK none linesP fun (k84 k85 : Nat) => ∀ (w86 : World) (R87 : List Own),
  Ctx W w86 (R80 ++ R87) Φ81 → ∃ (n88 : Int), ∃ (n89 : Int), ∃ (n90 : Int), ∃ (p91 : Option Addr), ∃ (k92 : Nat), ∃ (k93 : Nat), ∃ (n94 : Int), ∃ (n95 : Int), ∃ (n96 : Int), RowAt w86 k84
  (k85 + (n35 - 1).toNat * 7) [Value.int IntKind.i64 n88, Value.int IntKind.i64 n89, Value.int IntKind.i64 n90, Value.slice p91 k92 k93, Value.int IntKind.i64 n94, Value.int IntKind.i64 n95,
  Value.int IntKind.i64 n96] ∧ ∀ (b : Nat), Br (decide (n45 < n90)) (∀ (w97 : World) (R98 : List Own), Ctx W w97 (R80 ++ R98) Φ81 → J (Value.int IntKind.i64 1) w97) (Br (decide (n90 = n45))
  (∀ (w99 : World) (R100 : List Own), Ctx W w99 (R80 ++ R100) Φ81 → Calls Tryz.prog F.errataref03_CompareRows #[Value.slice p91 k92 k93, Value.slice p46 k47 k48] w99 fun (e101 : Ending) (w102
  : World) => ∃ (n103 : Int), e101 = Ending.returned (Value.int IntKind.i64 n103) ∧ ∃ (R104 : List Own), ∃ (Φ105 : PW), Stable Φ105 ∧ Ctx W w102 (R104 ++ R100) Φ105 ∧ Br (decide (0 ≤ n103))
  (∀ (w106 : World) (R107 : List Own), Ctx W w106 (R104 ++ R107) Φ105 → J (Value.int IntKind.i64 1) w106) (I64 (n35 + 1) ∧ ∃ (R108 : List Own), ∃ (Φ109 : PW), ∃ (k110 : Nat), Stable Φ109 ∧ (∀
  (w111 : World) (R112 : List Own), Ctx W w111 (R104 ++ R112) Φ105 → Ctx W w111 (R108 ++ R112) Φ109) ∧ I29 (n35 + 1) R108 Φ109 k110 ∧ k110 < k38)) (I64 (n35 + 1) ∧ ∃ (R113 : List Own), ∃
  (Φ114 : PW), ∃ (k115 : Nat), Stable Φ114 ∧ (∀ (w116 : World) (R117 : List Own), Ctx W w116 (R80 ++ R117) Φ81 → Ctx W w116 (R113 ++ R117) Φ114) ∧ I29 (n35 + 1) R113 Φ114 k115 ∧ k115 < k38)))
  (I64 (n35 + 1) ∧ ∃ (R118 : List Own), ∃ (Φ119 : PW), ∃ (k120 : Nat), Stable Φ119 ∧ (∀ (w121 : World) (R122 : List Own), Ctx W w121 (R80 ++ R122) Φ81 → Ctx W w121 (R118 ++ R122) Φ119) ∧ I29
  (n35 + 1) R118 Φ119 k120 ∧ k120 < k38)))))))) (exI fun (I123 : Int → List Own → PW → Nat → Prop) => (∃ (R124 : List Own), ∃ (Φ125 : PW), ∃ (k126 : Nat), Stable Φ125 ∧ (∀ (w127 : World)
  (R128 : List Own), Ctx W w127 (R36 ++ R128) I37 → Ctx W w127 (R124 ++ R128) Φ125) ∧ I123 0 R124 Φ125 k126) ∧ ∀ (n129 : Int) (R130 : List Own) (I131 : List Nat → World → Prop) (k132 : Nat),
  Stable I131 → I123 n129 R130 I131 k132 → Br (decide (n129 < (↑linesN : Int))) ((0 ≤ n129 ∧ n129 < (↑linesN : Int)) ∧ ptrK none linesP fun (k133 k134 : Nat) => ∀ (w135 : World) (R136 : List
  Own), Ctx W w135 (R130 ++ R136) I131 → ∃ (p137 : Option Addr), ∃ (k138 : Nat), ∃ (k139 : Nat), w135.cell? (Addr.mk k133 (k134 + n129.toNat * 7 + 3) none) = some (Value.slice p137 k138 k139)
  ∧ ∀ (w140 : World) (R141 : List Own), Ctx W w140 (R130 ++ R141) I131 → Calls Tryz.prog F.errataref03_RightRow #[Value.slice p137 k138 k139] w140 fun (e142 : Ending) (w143 : World) => ∃
  (c144 : Bool), e142 = Ending.returned (Value.bool c144) ∧ ∃ (R145 : List Own), ∃ (Φ146 : PW), Stable Φ146 ∧ Ctx W w143 (R145 ++ R141) Φ146 ∧ Br (!c144) (∀ (w147 : World) (R148 : List Own),
  Ctx W w147 (R145 ++ R148) Φ146 → J (Value.int IntKind.i64 16) w147) (I64 (n129 + 1) ∧ ∃ (R149 : List Own), ∃ (Φ150 : PW), ∃ (k151 : Nat), Stable Φ150 ∧ (∀ (w152 : World) (R153 : List Own),
  Ctx W w152 (R145 ++ R153) Φ146 → Ctx W w152 (R149 ++ R153) Φ150) ∧ I123 (n129 + 1) R149 Φ150 k151 ∧ k151 < k132)) (exI fun (I154 : Int → List Own → PW → Nat → Prop) => (∃ (R155 : List Own),
  ∃ (Φ156 : PW), ∃ (k157 : Nat), Stable Φ156 ∧ (∀ (w158 : World) (R159 : List Own), Ctx W w158 (R130 ++ R159) I131 → Ctx W w158 (R155 ++ R159) Φ156) ∧ I154 0 R155 Φ156 k157) ∧ ∀ (n160 : Int)
  (R161 : List Own) (I162 : List Nat → World → Prop) (k163 : Nat), Stable I162 → I154 n160 R161 I162 k163 → Br (decide (n160 < (↑linesN : Int))) (∃ (R164 : List Own), ∃ (Φ165 : PW), Stable
  Φ165 ∧ (∀ (w166 : World) (R167 : List Own), Ctx W w166 (R161 ++ R167) I162 → Ctx W w166 (R164 ++ R167) Φ165) ∧ (0 ≤ n160 ∧ n160 < (↑linesN : Int)) ∧ ptrK none linesP fun (k168 k169 : Nat)
  => (0 ≤ n160 ∧ n160 < (↑linesN : Int)) ∧ ptrK none linesP fun (k170 k171 : Nat) => ∃ (n172 : Int), (∀ (w173 : World) (R174 : List Own), Ctx W w173 (R164 ++ R174) Φ165 → ∃ (n175 : Int),
  w173.cell? (Addr.mk k168 (k169 + n160.toNat * 7 + 2) none) = some (Value.int IntKind.i64 n175) ∧ Value.int IntKind.i64 n175 = Value.int IntKind.i64 n172) ∧ ∃ (p176 : Option Addr), ∃ (k177 :
  Nat), ∃ (k178 : Nat), (∀ (w179 : World) (R180 : List Own), Ctx W w179 (R164 ++ R180) Φ165 → ∃ (p181 : Option Addr), ∃ (k182 : Nat), ∃ (k183 : Nat), w179.cell? (Addr.mk k170 (k171 +
  n160.toNat * 7 + 3) none) = some (Value.slice p181 k182 k183) ∧ Value.slice p181 k182 k183 = Value.slice p176 k177 k178) ∧ ∀ (w184 : World) (R185 : List Own), Ctx W w184 (R161 ++ R185) I162
  → Calls Tryz.prog F.errataref41_Ledger_Count #[Value.pointer (some (Addr.mk lB lO none)), Value.int IntKind.i64 n172, Value.slice p176 k177 k178] w184 fun (e186 : Ending) (w187 : World) =>
  ∃ (n188 : Int), e186 = Ending.returned (Value.int IntKind.i64 n188) ∧ ∃ (R189 : List Own), ∃ (Φ190 : PW), Stable Φ190 ∧ Ctx W w187 (R189 ++ R185) Φ190 ∧ ∀ (w191 : World) (R192 : List Own),
  Ctx W w191 (R189 ++ R192) Φ190 → (0 ≤ n160 ∧ n160 < (↑linesN : Int)) ∧ ptrK none linesP fun (k193 k194 : Nat) => ∃ (n195 : Int), w191.cell? (Addr.mk k193 (k194 + n160.toNat * 7 + 4) none) =
  some (Value.int IntKind.i64 n195) ∧ I64 (0 - n188) ∧ ((!decide (n195 < 0 - n188)) = true → 0 ≤ n160 ∧ n160 < (↑linesN : Int)) ∧ ptrK (some !decide (n195 < 0 - n188)) linesP fun (k196 k197 :
  Nat) => ∃ (n198 : Int), ((!decide (n195 < 0 - n188)) = true → w191.cell? (Addr.mk k196 (k197 + n160.toNat * 7 + 4) none) = some (Value.int IntKind.i64 n198)) ∧ ((!decide (n195 < 0 - n188))
  = true → I64 (1152921504606846976 - n188)) ∧ Br (decide (n195 < 0 - n188) || decide (1152921504606846976 - n188 < n198)) (∀ (w199 : World) (R200 : List Own), Ctx W w199 (R189 ++ R200) Φ190
  → J (Value.int IntKind.i64 7) w199) (I64 (n160 + 1) ∧ ∃ (R201 : List Own), ∃ (Φ202 : PW), ∃ (k203 : Nat), Stable Φ202 ∧ (∀ (w204 : World) (R205 : List Own), Ctx W w204 (R189 ++ R205) Φ190 →
  Ctx W w204 (R201 ++ R205) Φ202) ∧ I154 (n160 + 1) R201 Φ202 k203 ∧ k203 < k163)) (∃ (R206 : List Own), ∃ (Φ207 : PW), Stable Φ207 ∧ (∀ (w208 : World) (R209 : List Own), Ctx W w208 (R161 ++
  R209) I162 → Ctx W w208 (R206 ++ R209) Φ207) ∧ ∃ (p210 : Option Addr), ∃ (k211 : Nat), ∃ (k212 : Nat), (∀ (w213 : World) (R214 : List Own), Ctx W w213 (R206 ++ R214) Φ207 → ∃ (p215 : Option
  Addr), ∃ (k216 : Nat), ∃ (k217 : Nat), w213.cell? (Addr.mk lB lO none) = some (Value.slice p215 k216 k217) ∧ Value.slice p215 k216 k217 = Value.slice p210 k211 k212) ∧ ∀ (k218 : Nat), (∀
  (w219 : World) (R220 : List Own), Ctx W w219 (Own.blk k218 [] 51 :: R161 ++ R220) I162 → Ctx W w219 (R206 ++ R220) Φ207) ∧ ∀ (w221 : World) (R222 : List Own), Ctx W w221 (Own.blk k218 [] 51
  :: R161 ++ R222) I162 → ∃ (p223 : Option Addr), ∃ (k224 : Nat), ∃ (k225 : Nat), ∃ (w226 : World), Sem.run Tryz.prog (builtin Builtin.append #[31, 31] 31 #[false, false] #[Value.slice (some
  (Addr.mk k218 0 none)) 0 0, Value.slice linesP linesN linesC]) w221 = Result.ok (Next.value (Value.slice p223 k224 k225)) w226 ∧ ∃ (R227 : List Own), ∃ (Φ228 : PW), Stable Φ228 ∧ Ctx W w226
  (R227 ++ R222) Φ228 ∧ (∀ (w229 : World) (R230 : List Own), Ctx W w229 (R227 ++ R230) Φ228 → Ctx W w229 (R206 ++ R230) Φ207) ∧ ∀ (k231 : Nat), (∀ (w232 : World) (R233 : List Own), Ctx W w232
  (Own.blk k231 [Value.int IntKind.i64 no, Value.int IntKind.i64 mark, Value.slice p223 k224 k225] 61 :: R227 ++ R233) Φ228 → Ctx W w232 (R206 ++ R233) Φ207) ∧ ∀ (w234 : World) (R235 : List
  Own), Ctx W w234 (Own.blk k231 [Value.int IntKind.i64 no, Value.int IntKind.i64 mark, Value.slice p223 k224 k225] 61 :: R227 ++ R235) Φ228 → ∃ (p236 : Option Addr), ∃ (k237 : Nat), ∃ (k238
  : Nat), ∃ (w239 : World), Sem.run Tryz.prog (builtin Builtin.append #[57, 57] 57 #[false, false] #[Value.slice p210 k211 k212, Value.slice (some (Addr.mk k231 0 none)) 1 1]) w234 =
  Result.ok (Next.value (Value.slice p236 k237 k238)) w239 ∧ ∃ (R240 : List Own), ∃ (Φ241 : PW), Stable Φ241 ∧ Ctx W w239 (R240 ++ R235) Φ241 ∧ (∀ (w242 : World) (R243 : List Own), Ctx W w242
  (R240 ++ R243) Φ241 → Ctx W w242 (R206 ++ R243) Φ207) ∧ ∀ (w244 : World) (R245 : List Own), Ctx W w244 (R240 ++ R245) Φ241 → CanWrite w244 lB lO 1 ∧ ∀ (w246 : World), w246 = w244.setCell
  (Addr.mk lB lO none) (Value.slice p236 k237 k238) → ∃ (R247 : List Own), ∃ (Φ248 : PW), Stable Φ248 ∧ Ctx W w246 (R247 ++ R245) Φ248 ∧ ∀ (w249 : World) (R250 : List Own), Ctx W w249 (R247
  ++ R250) Φ248 → J (Value.int IntKind.i64 0) w249))))))

theorem Berrataref41_Ledger_Append_run (lB lO : Nat) (no : Int) (mark : Int) (linesP : Option Addr) (linesN linesC : Nat) {W w : World} {R : List Own} {Φ : PW} [Stable Φ] {J : Value → World → Prop} (c : Ctx W w R Φ) (h : Berrataref41_Ledger_Append lB lO no mark linesP linesN linesC W R Φ J) : Calls Tryz.prog F.errataref41_Ledger_Append #[.pointer (some ⟨lB, lO, none⟩), .int .i64 no, .int .i64 mark, .slice linesP linesN linesC] w fun e w' => ∃ v, e = .returned v ∧ J v w' :=
  vcFS_sound (H := { keep := some [0, 1, 2, 3, 8, 9, 10, 11, 12, 13, 14, 15, 29, 35, 78, 80, 105, 109, 118, 122, 154], track := [11, 12], stages := [(8, [.held [(0, true), (2, true), (5, true), (1, true), (3, true), (4, true), (6, true), (7, true), (8, true), (9, true), (11, true), (10, true), (12, true), (13, true), (14, true), (15, true), (16, true), (17, true), (18, true), (19, true), (20, true), (22, true), (21, true), (23, true), (24, true), (25, true), (26, true), (27, true), (28, true), (29, true), (30, true), (31, true), (32, true), (33, false)], .stage [] (some 34), .stage [35, 36] none]), (22, [.held [(0, true), (1, true), (2, true), (6, true), (7, true), (3, true), (8, true), (4, true), (9, true), (5, true), (10, true)], .stage [] (some 11), .stage [12] none]), (25, [.held [(0, true), (1, true), (5, true), (6, true), (8, true), (2, true), (3, true), (4, true), (7, false), (9, false), (10, true), (11, false), (12, false)], .stage [13] none, .stage [14] (some 15)])], split := [1, 12], loops := [(20, [(14, .one (.int .i64))], []), (15, [(13, .one (.int .i64))], []), (5, [(10, .one (.int .i64))], [])] }) (by rw [show vcFS Tryz.prog W { keep := some [0, 1, 2, 3, 8, 9, 10, 11, 12, 13, 14, 15, 29, 35, 78, 80, 105, 109, 118, 122, 154], track := [11, 12], stages := [(8, [.held [(0, true), (2, true), (5, true), (1, true), (3, true), (4, true), (6, true), (7, true), (8, true), (9, true), (11, true), (10, true), (12, true), (13, true), (14, true), (15, true), (16, true), (17, true), (18, true), (19, true), (20, true), (22, true), (21, true), (23, true), (24, true), (25, true), (26, true), (27, true), (28, true), (29, true), (30, true), (31, true), (32, true), (33, false)], .stage [] (some 34), .stage [35, 36] none]), (22, [.held [(0, true), (1, true), (2, true), (6, true), (7, true), (3, true), (8, true), (4, true), (9, true), (5, true), (10, true)], .stage [] (some 11), .stage [12] none]), (25, [.held [(0, true), (1, true), (5, true), (6, true), (8, true), (2, true), (3, true), (4, true), (7, false), (9, false), (10, true), (11, false), (12, false)], .stage [13] none, .stage [14] (some 15)])], split := [1, 12], loops := [(20, [(14, .one (.int .i64))], []), (15, [(13, .one (.int .i64))], []), (5, [(10, .one (.int .i64))], [])] } F.errataref41_Ledger_Append #[.pointer (some ⟨lB, lO, none⟩), .int .i64 no, .int .i64 mark, .slice linesP linesN linesC] R Φ J = Berrataref41_Ledger_Append lB lO no mark linesP linesN linesC W R Φ J by kernel_rfl]; exact h) c

def Bledger_Ledger_Last (lB lO : Nat) (W : World) (R : List Own) (Φ : PW) (J : Value → World → Prop) : Prop :=
  ∀ (w0 : World) (R1 : List Own), Ctx W w0 (R ++ R1) Φ → Calls Tryz.prog F.ledger_Ledger_last #[Value.pointer (some (Addr.mk lB lO none))] w0 fun (e2 : Ending) (w3 : World) => ∃ (n4 : Int), ∃
  (n5 : Int), ∃ (n6 : Int), e2 = Ending.returned (Value.agg #[Value.int IntKind.i64 n4, Value.int IntKind.i64 n5, Value.int IntKind.i64 n6]) ∧ ∃ (R7 : List Own), ∃ (Φ8 : PW), Stable Φ8 ∧ Ctx
  W w3 (R7 ++ R1) Φ8 ∧ ∀ (w9 : World) (R10 : List Own), Ctx W w9 (R7 ++ R10) Φ8 → J (Value.int IntKind.i64 n4) w9

theorem Bledger_Ledger_Last_run (lB lO : Nat) {W w : World} {R : List Own} {Φ : PW} [Stable Φ] {J : Value → World → Prop} (c : Ctx W w R Φ) (h : Bledger_Ledger_Last lB lO W R Φ J) : Calls Tryz.prog F.ledger_Ledger_Last #[.pointer (some ⟨lB, lO, none⟩)] w fun e w' => ∃ v, e = .returned v ∧ J v w' :=
  vcFS_sound (H := { keep := some [0, 2] }) (by rw [show vcFS Tryz.prog W { keep := some [0, 2] } F.ledger_Ledger_Last #[.pointer (some ⟨lB, lO, none⟩)] R Φ J = Bledger_Ledger_Last lB lO W R Φ J by kernel_rfl]; exact h) c

def Bledger_Ledger_Mark (lB lO : Nat) (W : World) (R : List Own) (Φ : PW) (J : Value → World → Prop) : Prop :=
  ∀ (w0 : World) (R1 : List Own), Ctx W w0 (R ++ R1) Φ → Calls Tryz.prog F.ledger_Ledger_last #[Value.pointer (some (Addr.mk lB lO none))] w0 fun (e2 : Ending) (w3 : World) => ∃ (n4 : Int), ∃
  (n5 : Int), ∃ (n6 : Int), e2 = Ending.returned (Value.agg #[Value.int IntKind.i64 n4, Value.int IntKind.i64 n5, Value.int IntKind.i64 n6]) ∧ ∃ (R7 : List Own), ∃ (Φ8 : PW), Stable Φ8 ∧ Ctx
  W w3 (R7 ++ R1) Φ8 ∧ ∀ (w9 : World) (R10 : List Own), Ctx W w9 (R7 ++ R10) Φ8 → J (Value.int IntKind.i64 n5) w9

theorem Bledger_Ledger_Mark_run (lB lO : Nat) {W w : World} {R : List Own} {Φ : PW} [Stable Φ] {J : Value → World → Prop} (c : Ctx W w R Φ) (h : Bledger_Ledger_Mark lB lO W R Φ J) : Calls Tryz.prog F.ledger_Ledger_Mark #[.pointer (some ⟨lB, lO, none⟩)] w fun e w' => ∃ v, e = .returned v ∧ J v w' :=
  vcFS_sound (H := { keep := some [0, 2] }) (by rw [show vcFS Tryz.prog W { keep := some [0, 2] } F.ledger_Ledger_Mark #[.pointer (some ⟨lB, lO, none⟩)] R Φ J = Bledger_Ledger_Mark lB lO W R Φ J by kernel_rfl]; exact h) c

def Bledger_Ledger_Next (lB lO : Nat) (W : World) (R : List Own) (Φ : PW) (J : Value → World → Prop) : Prop :=
  ∀ (w0 : World) (R1 : List Own), Ctx W w0 (R ++ R1) Φ → ∃ (p2 : Option Addr), ∃ (k3 : Nat), ∃ (k4 : Nat), w0.cell? (Addr.mk lB lO none) = some (Value.slice p2 k3 k4) ∧ I64 ((↑k3 : Int) + 1)
  ∧ ∀ (w5 : World) (R6 : List Own), Ctx W w5 (R ++ R6) Φ → J (Value.int IntKind.i64 ((↑k3 : Int) + 1)) w5

theorem Bledger_Ledger_Next_run (lB lO : Nat) {W w : World} {R : List Own} {Φ : PW} [Stable Φ] {J : Value → World → Prop} (c : Ctx W w R Φ) (h : Bledger_Ledger_Next lB lO W R Φ J) : Calls Tryz.prog F.ledger_Ledger_Next #[.pointer (some ⟨lB, lO, none⟩)] w fun e w' => ∃ v, e = .returned v ∧ J v w' :=
  vcFS_sound (H := { keep := some [0, 2] }) (by rw [show vcFS Tryz.prog W { keep := some [0, 2] } F.ledger_Ledger_Next #[.pointer (some ⟨lB, lO, none⟩)] R Φ J = Bledger_Ledger_Next lB lO W R Φ J by kernel_rfl]; exact h) c

def Bledger_Ledger_Causes (lB lO : Nat) (W : World) (R : List Own) (Φ : PW) (J : Value → World → Prop) : Prop :=
  ∀ (w0 : World) (R1 : List Own), Ctx W w0 (R ++ R1) Φ → ((0 : Int) ≤ 0 ∧ (0 : Int) < 3) ∧ ∃ (n2 : Int), w0.cell? (Addr.mk lB (lO + 2).succ none) = some (Value.int IntKind.i64 n2) ∧ ((0 :
  Int) ≤ 1 ∧ (1 : Int) < 3) ∧ ∃ (n3 : Int), w0.cell? (Addr.mk lB (lO + 3).succ none) = some (Value.int IntKind.i64 n3) ∧ ((0 : Int) ≤ 2 ∧ (2 : Int) < 3) ∧ ∃ (n4 : Int), w0.cell? (Addr.mk lB
  (lO + 4).succ none) = some (Value.int IntKind.i64 n4) ∧ ∀ (w5 : World) (R6 : List Own), Ctx W w5 (R ++ R6) Φ → J (Value.tuple #[Value.int IntKind.i64 n2, Value.int IntKind.i64 n3, Value.int
  IntKind.i64 n4]) w5

theorem Bledger_Ledger_Causes_run (lB lO : Nat) {W w : World} {R : List Own} {Φ : PW} [Stable Φ] {J : Value → World → Prop} (c : Ctx W w R Φ) (h : Bledger_Ledger_Causes lB lO W R Φ J) : Calls Tryz.prog F.ledger_Ledger_Causes #[.pointer (some ⟨lB, lO, none⟩)] w fun e w' => ∃ v, e = .returned v ∧ J v w' :=
  vcFS_sound (H := { keep := some [0, 2, 3, 4] }) (by rw [show vcFS Tryz.prog W { keep := some [0, 2, 3, 4] } F.ledger_Ledger_Causes #[.pointer (some ⟨lB, lO, none⟩)] R Φ J = Bledger_Ledger_Causes lB lO W R Φ J by kernel_rfl]; exact h) c

-- loop at region 4: 5 n, 7 i; blocks 
def Berrataref41_Ledger_Caused (lB lO : Nat) (cause : Int) (W : World) (R : List Own) (Φ : PW) (J : Value → World → Prop) : Prop :=
  ∀ (w0 : World) (R1 : List Own), Ctx W w0 (R ++ R1) Φ → Calls Tryz.prog F.errataref41_Ledger_Lines #[Value.pointer (some (Addr.mk lB lO none))] w0 fun (e2 : Ending) (w3 : World) => ∃ (p4 :
  Option Addr), ∃ (k5 : Nat), ∃ (k6 : Nat), e2 = Ending.returned (Value.slice p4 k5 k6) ∧ ∃ (R7 : List Own), ∃ (Φ8 : PW), Stable Φ8 ∧ Ctx W w3 (R7 ++ R1) Φ8 ∧ exI fun (I9 : Int → Int → List
  Own → PW → Nat → Prop) => (∃ (R10 : List Own), ∃ (Φ11 : PW), ∃ (k12 : Nat), Stable Φ11 ∧ (∀ (w13 : World) (R14 : List Own), Ctx W w13 (R7 ++ R14) Φ8 → Ctx W w13 (R10 ++ R14) Φ11) ∧ I9 0 0
  R10 Φ11 k12) ∧ ∀ (n15 n16 : Int) (R17 : List Own) (I18 : List Nat → World → Prop) (k19 : Nat), Stable I18 → I9 n15 n16 R17 I18 k19 → Br (decide (n16 < (↑k5 : Int))) ((0 ≤ n16 ∧ n16 < (↑k5 :
  Int)) ∧ ptrK none p4 fun (k20 k21 : Nat) => ∀ (w22 : World) (R23 : List Own), Ctx W w22 (R17 ++ R23) I18 → ∃ (n24 : Int), w22.cell? (Addr.mk k20 (k21 + n16.toNat * 7 + 5) none) = some
  (Value.int IntKind.i64 n24) ∧ Br (decide (n24 = cause)) (I64 (n15 + 1) ∧ I64 (n16 + 1) ∧ ∃ (R25 : List Own), ∃ (Φ26 : PW), ∃ (k27 : Nat), Stable Φ26 ∧ (∀ (w28 : World) (R29 : List Own), Ctx
  W w28 (R17 ++ R29) I18 → Ctx W w28 (R25 ++ R29) Φ26) ∧ I9 (n15 + 1) (n16 + 1) R25 Φ26 k27 ∧ k27 < k19) (I64 (n16 + 1) ∧ ∃ (R30 : List Own), ∃ (Φ31 : PW), ∃ (k32 : Nat), Stable Φ31 ∧ (∀ (w33
  : World) (R34 : List Own), Ctx W w33 (R17 ++ R34) I18 → Ctx W w33 (R30 ++ R34) Φ31) ∧ I9 n15 (n16 + 1) R30 Φ31 k32 ∧ k32 < k19)) (∀ (w35 : World) (R36 : List Own), Ctx W w35 (R17 ++ R36)
  I18 → J (Value.int IntKind.i64 n15) w35)

theorem Berrataref41_Ledger_Caused_run (lB lO : Nat) (cause : Int) {W w : World} {R : List Own} {Φ : PW} [Stable Φ] {J : Value → World → Prop} (c : Ctx W w R Φ) (h : Berrataref41_Ledger_Caused lB lO cause W R Φ J) : Calls Tryz.prog F.errataref41_Ledger_Caused #[.pointer (some ⟨lB, lO, none⟩), .int .i64 cause] w fun e w' => ∃ v, e = .returned v ∧ J v w' :=
  vcFS_sound (H := { keep := some [0, 1, 4, 5, 6, 7, 13, 22], loops := [(4, [(5, .one (.int .i64)), (7, .one (.int .i64))], [])] }) (by rw [show vcFS Tryz.prog W { keep := some [0, 1, 4, 5, 6, 7, 13, 22], loops := [(4, [(5, .one (.int .i64)), (7, .one (.int .i64))], [])] } F.errataref41_Ledger_Caused #[.pointer (some ⟨lB, lO, none⟩), .int .i64 cause] R Φ J = Berrataref41_Ledger_Caused lB lO cause W R Φ J by kernel_rfl]; exact h) c

-- loop at region 4: 5 i; blocks 
def Berrataref41_SameLines (aP : Option Addr) (aN aC : Nat) (bP : Option Addr) (bN bC : Nat) (W : World) (R : List Own) (Φ : PW) (J : Value → World → Prop) : Prop :=
  Br (decide ((↑aN : Int) ≠ (↑bN : Int))) (∀ (w0 : World) (R1 : List Own), Ctx W w0 (R ++ R1) Φ → J (Value.bool false) w0) (exI fun (I2 : Int → List Own → PW → Nat → Prop) => (∃ (R3 : List
  Own), ∃ (Φ4 : PW), ∃ (k5 : Nat), Stable Φ4 ∧ (∀ (w6 : World) (R7 : List Own), Ctx W w6 (R ++ R7) Φ → Ctx W w6 (R3 ++ R7) Φ4) ∧ I2 0 R3 Φ4 k5) ∧ ∀ (n8 : Int) (R9 : List Own) (I10 : List Nat
  → World → Prop) (k11 : Nat), Stable I10 → I2 n8 R9 I10 k11 → Br (decide (n8 < (↑aN : Int))) (∃ (R12 : List Own), ∃ (Φ13 : PW), Stable Φ13 ∧ (∀ (w14 : World) (R15 : List Own), Ctx W w14 (R9
  ++ R15) I10 → Ctx W w14 (R12 ++ R15) Φ13) ∧ (0 ≤ n8 ∧ n8 < (↑aN : Int)) ∧ ptrK none aP fun (k16 k17 : Nat) => (0 ≤ n8 ∧ n8 < (↑bN : Int)) ∧ ptrK none bP fun (k18 k19 : Nat) => ∃ (n20 :
  Int), ∃ (n21 : Int), ∃ (n22 : Int), ∃ (p23 : Option Addr), ∃ (k24 : Nat), ∃ (k25 : Nat), ∃ (n26 : Int), ∃ (n27 : Int), ∃ (n28 : Int), (∀ (w29 : World) (R30 : List Own), Ctx W w29 (R12 ++
  R30) Φ13 → ∃ (n31 : Int), ∃ (n32 : Int), ∃ (n33 : Int), ∃ (p34 : Option Addr), ∃ (k35 : Nat), ∃ (k36 : Nat), ∃ (n37 : Int), ∃ (n38 : Int), ∃ (n39 : Int), RowAt w29 k16 (k17 + n8.toNat * 7)
  [Value.int IntKind.i64 n31, Value.int IntKind.i64 n32, Value.int IntKind.i64 n33, Value.slice p34 k35 k36, Value.int IntKind.i64 n37, Value.int IntKind.i64 n38, Value.int IntKind.i64 n39] ∧
  Value.agg #[Value.int IntKind.i64 n31, Value.int IntKind.i64 n32, Value.int IntKind.i64 n33, Value.slice p34 k35 k36, Value.int IntKind.i64 n37, Value.int IntKind.i64 n38, Value.int
  IntKind.i64 n39] = Value.agg #[Value.int IntKind.i64 n20, Value.int IntKind.i64 n21, Value.int IntKind.i64 n22, Value.slice p23 k24 k25, Value.int IntKind.i64 n26, Value.int IntKind.i64
  n27, Value.int IntKind.i64 n28]) ∧ ∃ (n40 : Int), ∃ (n41 : Int), ∃ (n42 : Int), ∃ (p43 : Option Addr), ∃ (k44 : Nat), ∃ (k45 : Nat), ∃ (n46 : Int), ∃ (n47 : Int), ∃ (n48 : Int), (∀ (w49 :
  World) (R50 : List Own), Ctx W w49 (R12 ++ R50) Φ13 → ∃ (n51 : Int), ∃ (n52 : Int), ∃ (n53 : Int), ∃ (p54 : Option Addr), ∃ (k55 : Nat), ∃ (k56 : Nat), ∃ (n57 : Int), ∃ (n58 : Int), ∃ (n59
  : Int), RowAt w49 k18 (k19 + n8.toNat * 7) [Value.int IntKind.i64 n51, Value.int IntKind.i64 n52, Value.int IntKind.i64 n53, Value.slice p54 k55 k56, Value.int IntKind.i64 n57, Value.int
  IntKind.i64 n58, Value.int IntKind.i64 n59] ∧ Value.agg #[Value.int IntKind.i64 n51, Value.int IntKind.i64 n52, Value.int IntKind.i64 n53, Value.slice p54 k55 k56, Value.int IntKind.i64
  n57, Value.int IntKind.i64 n58, Value.int IntKind.i64 n59] = Value.agg #[Value.int IntKind.i64 n40, Value.int IntKind.i64 n41, Value.int IntKind.i64 n42, Value.slice p43 k44 k45, Value.int
  IntKind.i64 n46, Value.int IntKind.i64 n47, Value.int IntKind.i64 n48]) ∧ ∀ (w60 : World) (R61 : List Own), Ctx W w60 (R9 ++ R61) I10 → Calls Tryz.prog F.errataref41_SameLine #[Value.agg
  #[Value.int IntKind.i64 n20, Value.int IntKind.i64 n21, Value.int IntKind.i64 n22, Value.slice p23 k24 k25, Value.int IntKind.i64 n26, Value.int IntKind.i64 n27, Value.int IntKind.i64 n28],
  Value.agg #[Value.int IntKind.i64 n40, Value.int IntKind.i64 n41, Value.int IntKind.i64 n42, Value.slice p43 k44 k45, Value.int IntKind.i64 n46, Value.int IntKind.i64 n47, Value.int
  IntKind.i64 n48]] w60 fun (e62 : Ending) (w63 : World) => ∃ (c64 : Bool), e62 = Ending.returned (Value.bool c64) ∧ ∃ (R65 : List Own), ∃ (Φ66 : PW), Stable Φ66 ∧ Ctx W w63 (R65 ++ R61) Φ66
  ∧ Br (!c64) (∀ (w67 : World) (R68 : List Own), Ctx W w67 (R65 ++ R68) Φ66 → J (Value.bool false) w67) (I64 (n8 + 1) ∧ ∃ (R69 : List Own), ∃ (Φ70 : PW), ∃ (k71 : Nat), Stable Φ70 ∧ (∀ (w72 :
  World) (R73 : List Own), Ctx W w72 (R65 ++ R73) Φ66 → Ctx W w72 (R69 ++ R73) Φ70) ∧ I2 (n8 + 1) R69 Φ70 k71 ∧ k71 < k11)) (∀ (w74 : World) (R75 : List Own), Ctx W w74 (R9 ++ R75) I10 → J
  (Value.bool true) w74))

theorem Berrataref41_SameLines_run (aP : Option Addr) (aN aC : Nat) (bP : Option Addr) (bN bC : Nat) {W w : World} {R : List Own} {Φ : PW} [Stable Φ] {J : Value → World → Prop} (c : Ctx W w R Φ) (h : Berrataref41_SameLines aP aN aC bP bN bC W R Φ J) : Calls Tryz.prog F.errataref41_SameLines #[.slice aP aN aC, .slice bP bN bC] w fun e w' => ∃ v, e = .returned v ∧ J v w' :=
  vcFS_sound (H := { keep := some [0, 1, 4, 5, 10, 14, 26], stages := [(6, [.held [(0, true), (1, true), (4, true), (5, true), (2, true), (6, true), (3, true), (7, true)], .stage [] (some 8), .stage [9] none])], loops := [(4, [(5, .one (.int .i64))], [])] }) (by rw [show vcFS Tryz.prog W { keep := some [0, 1, 4, 5, 10, 14, 26], stages := [(6, [.held [(0, true), (1, true), (4, true), (5, true), (2, true), (6, true), (3, true), (7, true)], .stage [] (some 8), .stage [9] none])], loops := [(4, [(5, .one (.int .i64))], [])] } F.errataref41_SameLines #[.slice aP aN aC, .slice bP bN bC] R Φ J = Berrataref41_SameLines aP aN aC bP bN bC W R Φ J by kernel_rfl]; exact h) c

def Bledger_Ledger_Lines (lB lO : Nat) (W : World) (R : List Own) (Φ : PW) (J : Value → World → Prop) : Prop :=
  ∀ (w0 : World) (R1 : List Own), Ctx W w0 (R ++ R1) Φ → ∃ (p2 : Option Addr), ∃ (k3 : Nat), ∃ (k4 : Nat), w0.cell? (Addr.mk lB lO none) = some (Value.slice p2 k3 k4) ∧ ∀ (w5 : World) (R6 :
  List Own), Ctx W w5 (R ++ R6) Φ → Calls Tryz.prog F.ledger_cloned #[Value.slice p2 k3 k4] w5 fun (e7 : Ending) (w8 : World) => ∃ (p9 : Option Addr), ∃ (k10 : Nat), ∃ (k11 : Nat), e7 =
  Ending.returned (Value.slice p9 k10 k11) ∧ ∃ (R12 : List Own), ∃ (Φ13 : PW), Stable Φ13 ∧ Ctx W w8 (R12 ++ R6) Φ13 ∧ ∀ (w14 : World) (R15 : List Own), Ctx W w14 (R12 ++ R15) Φ13 → J
  (Value.slice p9 k10 k11) w14

theorem Bledger_Ledger_Lines_run (lB lO : Nat) {W w : World} {R : List Own} {Φ : PW} [Stable Φ] {J : Value → World → Prop} (c : Ctx W w R Φ) (h : Bledger_Ledger_Lines lB lO W R Φ J) : Calls Tryz.prog F.ledger_Ledger_Lines #[.pointer (some ⟨lB, lO, none⟩)] w fun e w' => ∃ v, e = .returned v ∧ J v w' :=
  vcFS_sound (H := { keep := some [0, 2] }) (by rw [show vcFS Tryz.prog W { keep := some [0, 2] } F.ledger_Ledger_Lines #[.pointer (some ⟨lB, lO, none⟩)] R Φ J = Bledger_Ledger_Lines lB lO W R Φ J by kernel_rfl]; exact h) c

-- loop at region 9: 48 ; blocks 
-- loop at region 5: 4 begin, 21 ; blocks 
-- known blocks: 6 x, 8 y
def Bledger_Ledger_Bytes (lB lO : Nat) (W : World) (R : List Own) (Φ : PW) (J : Value → World → Prop) : Prop :=
  ∀ (k0 : Nat) (w1 : World) (R2 : List Own), Ctx W w1 (Own.blk k0 [Value.pointer none, Value.slice none 0 0] 93 :: R ++ R2) Φ → ∃ (p3 : Option Addr), ∃ (k4 : Nat), ∃ (k5 : Nat), w1.cell?
  (Addr.mk lB (lO + 1) none) = some (Value.slice p3 k4 k5) ∧ ∀ (w6 : World) (R7 : List Own), Ctx W w6 (Own.blk k0 [Value.pointer none, Value.slice none 0 0] 93 :: R ++ R7) Φ → Calls Tryz.prog
  F.wire_Num #[Value.int IntKind.i64 (↑k4 : Int)] w6 fun (e8 : Ending) (w9 : World) => ∃ (s10 : ByteArray), e8 = Ending.returned (Value.string s10) ∧ ∃ (R11 : List Own), ∃ (Φ12 : PW), Stable
  Φ12 ∧ Ctx W w9 (R11 ++ R7) Φ12 ∧ ∀ (w13 : World) (R14 : List Own), Ctx W w13 (R11 ++ R14) Φ12 → Calls Tryz.prog F.strings_Builder_WriteString #[Value.pointer (some (Addr.mk k0 0 none)),
  Value.string s10] w13 fun (e15 : Ending) (w16 : World) => ∃ (n17 : Int), ∃ (v18 : Value), e15 = Ending.returned (Value.tuple #[Value.int IntKind.i64 n17, v18]) ∧ ∃ (R19 : List Own), ∃ (Φ20
  : PW), Stable Φ20 ∧ Ctx W w16 (R19 ++ R14) Φ20 ∧ ∀ (w21 : World) (R22 : List Own), Ctx W w21 (R19 ++ R22) Φ20 → ∃ (p23 : Option Addr), ∃ (k24 : Nat), ∃ (k25 : Nat), w21.cell? (Addr.mk lB
  (lO + 1) none) = some (Value.slice p23 k24 k25) ∧ exI fun (I26 : Int → Int → List Own → PW → Nat → Prop) => (∃ (R27 : List Own), ∃ (Φ28 : PW), ∃ (k29 : Nat), Stable Φ28 ∧ (∀ (w30 : World)
  (R31 : List Own), Ctx W w30 (R19 ++ R31) Φ20 → Ctx W w30 (R27 ++ R31) Φ28) ∧ I26 0 0 R27 Φ28 k29) ∧ ∀ (n32 n33 : Int) (R34 : List Own) (I35 : List Nat → World → Prop) (k36 : Nat), Stable
  I35 → I26 n32 n33 R34 I35 k36 → Br (decide (n33 < (↑k24 : Int))) ((0 ≤ n33 ∧ n33 < (↑k24 : Int)) ∧ ptrK none p23 fun (k37 k38 : Nat) => ∀ (w39 : World) (R40 : List Own), Ctx W w39 (R34 ++
  R40) I35 → ∃ (n41 : Int), ∃ (n42 : Int), ∃ (n43 : Int), RowAt w39 k37 (k38 + n33.toNat * 3) [Value.int IntKind.i64 n41, Value.int IntKind.i64 n42, Value.int IntKind.i64 n43] ∧ ∀ (b : Nat),
  ∃ (R44 : List Own), ∃ (Φ45 : PW), Stable Φ45 ∧ (∀ (w46 : World) (R47 : List Own), Ctx W w46 (R34 ++ R47) I35 → Ctx W w46 (R44 ++ R47) Φ45) ∧ I64 (n43 - n32) ∧ ∀ (w48 : World) (R49 : List
  Own), Ctx W w48 (R34 ++ R49) I35 → Calls Tryz.prog F.wire_Int #[Value.int IntKind.i64 n41] w48 fun (e50 : Ending) (w51 : World) => ∃ (s52 : ByteArray), e50 = Ending.returned (Value.string
  s52) ∧ ∃ (R53 : List Own), ∃ (Φ54 : PW), Stable Φ54 ∧ Ctx W w51 (R53 ++ R49) Φ54 ∧ (∀ (w55 : World) (R56 : List Own), Ctx W w55 (R53 ++ R56) Φ54 → Ctx W w55 (R44 ++ R56) Φ45) ∧ ∀ (w57 :
  World) (R58 : List Own), Ctx W w57 (R53 ++ R58) Φ54 → Calls Tryz.prog F.wire_Int #[Value.int IntKind.i64 n42] w57 fun (e59 : Ending) (w60 : World) => ∃ (s61 : ByteArray), e59 =
  Ending.returned (Value.string s61) ∧ ∃ (R62 : List Own), ∃ (Φ63 : PW), Stable Φ63 ∧ Ctx W w60 (R62 ++ R58) Φ63 ∧ (∀ (w64 : World) (R65 : List Own), Ctx W w64 (R62 ++ R65) Φ63 → Ctx W w64
  (R44 ++ R65) Φ45) ∧ (s52.size + s61.size).le 9223372036854775807 ∧ ∀ (w66 : World) (R67 : List Own), Ctx W w66 (R62 ++ R67) Φ63 → Calls Tryz.prog F.wire_Num #[Value.int IntKind.i64 (n43 -
  n32)] w66 fun (e68 : Ending) (w69 : World) => ∃ (s70 : ByteArray), e68 = Ending.returned (Value.string s70) ∧ ∃ (R71 : List Own), ∃ (Φ72 : PW), Stable Φ72 ∧ Ctx W w69 (R71 ++ R67) Φ72 ∧ (∀
  (w73 : World) (R74 : List Own), Ctx W w73 (R71 ++ R74) Φ72 → Ctx W w73 (R44 ++ R74) Φ45) ∧ ((s52 ++ s61).size + s70.size).le 9223372036854775807 ∧ ∀ (w75 : World) (R76 : List Own), Ctx W
  w75 (R71 ++ R76) Φ72 → Calls Tryz.prog F.strings_Builder_WriteString #[Value.pointer (some (Addr.mk k0 0 none)), Value.string (s52 ++ s61 ++ s70)] w75 fun (e77 : Ending) (w78 : World) => ∃
  (n79 : Int), ∃ (v80 : Value), e77 = Ending.returned (Value.tuple #[Value.int IntKind.i64 n79, v80]) ∧ ∃ (R81 : List Own), ∃ (Φ82 : PW), Stable Φ82 ∧ Ctx W w78 (R81 ++ R76) Φ82 ∧ ∀ (w83 :
  World) (R84 : List Own), Ctx W w83 (R81 ++ R84) Φ82 → ∃ (p85 : Option Addr), ∃ (k86 : Nat), ∃ (k87 : Nat), w83.cell? (Addr.mk lB lO none) = some (Value.slice p85 k86 k87) ∧ (0 ≤ n32 ∧ n32 ≤
  n43 ∧ n43 ≤ (↑k87 : Int)) ∧ exI fun (I88 : Int → List Own → PW → Nat → Prop) => (∃ (R89 : List Own), ∃ (Φ90 : PW), ∃ (k91 : Nat), Stable Φ90 ∧ (∀ (w92 : World) (R93 : List Own), Ctx W w92
  (R81 ++ R93) Φ82 → Ctx W w92 (R89 ++ R93) Φ90) ∧ I88 0 R89 Φ90 k91) ∧ ∀ (n94 : Int) (R95 : List Own) (I96 : List Nat → World → Prop) (k97 : Nat), Stable I96 → I88 n94 R95 I96 k97 → Br
  (decide (n94 < (↑(n43.toNat - n32.toNat) : Int))) ((0 ≤ n94 ∧ n94 < (↑(n43.toNat - n32.toNat) : Int)) ∧ ptrK none (subPtr p85 7 n32.toNat k87) fun (k98 k99 : Nat) => ∀ (w100 : World) (R101
  : List Own), Ctx W w100 (R95 ++ R101) I96 → ∃ (n102 : Int), ∃ (n103 : Int), ∃ (n104 : Int), ∃ (p105 : Option Addr), ∃ (k106 : Nat), ∃ (k107 : Nat), ∃ (n108 : Int), ∃ (n109 : Int), ∃ (n110 :
  Int), RowAt w100 k98 (k99 + n94.toNat * 7) [Value.int IntKind.i64 n102, Value.int IntKind.i64 n103, Value.int IntKind.i64 n104, Value.slice p105 k106 k107, Value.int IntKind.i64 n108,
  Value.int IntKind.i64 n109, Value.int IntKind.i64 n110] ∧ ∀ (b : Nat), ∃ (R111 : List Own), ∃ (Φ112 : PW), Stable Φ112 ∧ (∀ (w113 : World) (R114 : List Own), Ctx W w113 (R95 ++ R114) I96 →
  Ctx W w113 (R111 ++ R114) Φ112) ∧ ∀ (w115 : World) (R116 : List Own), Ctx W w115 (R95 ++ R116) I96 → Calls Tryz.prog F.wire_Int #[Value.int IntKind.i64 n104] w115 fun (e117 : Ending) (w118
  : World) => ∃ (s119 : ByteArray), e117 = Ending.returned (Value.string s119) ∧ ∃ (R120 : List Own), ∃ (Φ121 : PW), Stable Φ121 ∧ Ctx W w118 (R120 ++ R116) Φ121 ∧ (∀ (w122 : World) (R123 :
  List Own), Ctx W w122 (R120 ++ R123) Φ121 → Ctx W w122 (R111 ++ R123) Φ112) ∧ ∀ (w124 : World) (R125 : List Own), Ctx W w124 (R120 ++ R125) Φ121 → Calls Tryz.prog F.value_RowBytes
  #[Value.slice p105 k106 k107] w124 fun (e126 : Ending) (w127 : World) => ∃ (s128 : ByteArray), e126 = Ending.returned (Value.string s128) ∧ ∃ (R129 : List Own), ∃ (Φ130 : PW), Stable Φ130 ∧
  Ctx W w127 (R129 ++ R125) Φ130 ∧ (∀ (w131 : World) (R132 : List Own), Ctx W w131 (R129 ++ R132) Φ130 → Ctx W w131 (R111 ++ R132) Φ112) ∧ ∀ (w133 : World) (R134 : List Own), Ctx W w133 (R129
  ++ R134) Φ130 → Calls Tryz.prog F.wire_Text #[Value.string s128] w133 fun (e135 : Ending) (w136 : World) => ∃ (s137 : ByteArray), e135 = Ending.returned (Value.string s137) ∧ ∃ (R138 : List
  Own), ∃ (Φ139 : PW), Stable Φ139 ∧ Ctx W w136 (R138 ++ R134) Φ139 ∧ (∀ (w140 : World) (R141 : List Own), Ctx W w140 (R138 ++ R141) Φ139 → Ctx W w140 (R111 ++ R141) Φ112) ∧ (s119.size +
  s137.size).le 9223372036854775807 ∧ ∀ (w142 : World) (R143 : List Own), Ctx W w142 (R138 ++ R143) Φ139 → Calls Tryz.prog F.wire_Int #[Value.int IntKind.i64 n108] w142 fun (e144 : Ending)
  (w145 : World) => ∃ (s146 : ByteArray), e144 = Ending.returned (Value.string s146) ∧ ∃ (R147 : List Own), ∃ (Φ148 : PW), Stable Φ148 ∧ Ctx W w145 (R147 ++ R143) Φ148 ∧ (∀ (w149 : World)
  (R150 : List Own), Ctx W w149 (R147 ++ R150) Φ148 → Ctx W w149 (R111 ++ R150) Φ112) ∧ ((s119 ++ s137).size + s146.size).le 9223372036854775807 ∧ ∀ (w151 : World) (R152 : List Own), Ctx W
  w151 (R147 ++ R152) Φ148 → Calls Tryz.prog F.wire_Int #[Value.int IntKind.i64 n109] w151 fun (e153 : Ending) (w154 : World) => ∃ (s155 : ByteArray), e153 = Ending.returned (Value.string
  s155) ∧ ∃ (R156 : List Own), ∃ (Φ157 : PW), Stable Φ157 ∧ Ctx W w154 (R156 ++ R152) Φ157 ∧ (∀ (w158 : World) (R159 : List Own), Ctx W w158 (R156 ++ R159) Φ157 → Ctx W w158 (R111 ++ R159)
  Φ112) ∧ ((s119 ++ s137 ++ s146).size + s155.size).le 9223372036854775807 ∧ ∀ (w160 : World) (R161 : List Own), Ctx W w160 (R156 ++ R161) Φ157 → Calls Tryz.prog F.wire_Int #[Value.int
  IntKind.i64 n110] w160 fun (e162 : Ending) (w163 : World) => ∃ (s164 : ByteArray), e162 = Ending.returned (Value.string s164) ∧ ∃ (R165 : List Own), ∃ (Φ166 : PW), Stable Φ166 ∧ Ctx W w163
  (R165 ++ R161) Φ166 ∧ (∀ (w167 : World) (R168 : List Own), Ctx W w167 (R165 ++ R168) Φ166 → Ctx W w167 (R111 ++ R168) Φ112) ∧ ((s119 ++ s137 ++ s146 ++ s155).size + s164.size).le
  9223372036854775807 ∧ ∀ (w169 : World) (R170 : List Own), Ctx W w169 (R165 ++ R170) Φ166 → Calls Tryz.prog F.strings_Builder_WriteString #[Value.pointer (some (Addr.mk k0 0 none)),
  Value.string (s119 ++ s137 ++ s146 ++ s155 ++ s164)] w169 fun (e171 : Ending) (w172 : World) => ∃ (n173 : Int), ∃ (v174 : Value), e171 = Ending.returned (Value.tuple #[Value.int IntKind.i64
  n173, v174]) ∧ ∃ (R175 : List Own), ∃ (Φ176 : PW), Stable Φ176 ∧ Ctx W w172 (R175 ++ R170) Φ176 ∧ I64 (n94 + 1) ∧ ∃ (R177 : List Own), ∃ (Φ178 : PW), ∃ (k179 : Nat), Stable Φ178 ∧ (∀ (w180
  : World) (R181 : List Own), Ctx W w180 (R175 ++ R181) Φ176 → Ctx W w180 (R177 ++ R181) Φ178) ∧ I88 (n94 + 1) R177 Φ178 k179 ∧ k179 < k97) (I64 (n33 + 1) ∧ ∃ (R182 : List Own), ∃ (Φ183 :
  PW), ∃ (k184 : Nat), Stable Φ183 ∧ (∀ (w185 : World) (R186 : List Own), Ctx W w185 (R95 ++ R186) I96 → Ctx W w185 (R182 ++ R186) Φ183) ∧ I26 n43 (n33 + 1) R182 Φ183 k184 ∧ k184 < k36)) (∀
  (w187 : World) (R188 : List Own), Ctx W w187 (R34 ++ R188) I35 → Calls Tryz.prog F.strings_Builder_String #[Value.pointer (some (Addr.mk k0 0 none))] w187 fun (e189 : Ending) (w190 : World)
  => ∃ (s191 : ByteArray), e189 = Ending.returned (Value.string s191) ∧ ∃ (R192 : List Own), ∃ (Φ193 : PW), Stable Φ193 ∧ Ctx W w190 (R192 ++ R188) Φ193 ∧ ∀ (w194 : World) (R195 : List Own),
  Ctx W w194 (R192 ++ R195) Φ193 → J (Value.string s191) w194)

theorem Bledger_Ledger_Bytes_run (lB lO : Nat) {W w : World} {R : List Own} {Φ : PW} [Stable Φ] {J : Value → World → Prop} (c : Ctx W w R Φ) (h : Bledger_Ledger_Bytes lB lO W R Φ J) : Calls Tryz.prog F.ledger_Ledger_Bytes #[.pointer (some ⟨lB, lO, none⟩)] w fun e w' => ∃ v, e = .returned v ∧ J v w' :=
  vcFS_sound (H := { keep := some [0, 2, 3, 4, 6, 8, 19, 20, 21, 22, 46, 47, 48, 49], track := [6, 8], stages := [(7, [.held [(0, true), (3, true), (7, true), (9, true), (1, true), (4, true), (8, true), (10, true), (2, false), (5, false), (6, true), (11, false)], .stage [12] (some 13)]), (11, [.held [(0, true), (3, true), (8, true), (12, true), (16, true), (1, true), (4, true), (9, true), (13, true), (17, true), (2, false), (5, false), (6, false), (7, true), (10, false), (11, true), (14, false), (15, true), (18, false)], .stage [19] (some 20)])], loops := [(9, [(48, .one (.int .i64))], []), (5, [(4, .one (.int .i64)), (21, .one (.int .i64))], [])] }) (by rw [show vcFS Tryz.prog W { keep := some [0, 2, 3, 4, 6, 8, 19, 20, 21, 22, 46, 47, 48, 49], track := [6, 8], stages := [(7, [.held [(0, true), (3, true), (7, true), (9, true), (1, true), (4, true), (8, true), (10, true), (2, false), (5, false), (6, true), (11, false)], .stage [12] (some 13)]), (11, [.held [(0, true), (3, true), (8, true), (12, true), (16, true), (1, true), (4, true), (9, true), (13, true), (17, true), (2, false), (5, false), (6, false), (7, true), (10, false), (11, true), (14, false), (15, true), (18, false)], .stage [19] (some 20)])], loops := [(9, [(48, .one (.int .i64))], []), (5, [(4, .one (.int .i64)), (21, .one (.int .i64))], [])] } F.ledger_Ledger_Bytes #[.pointer (some ⟨lB, lO, none⟩)] R Φ J = Bledger_Ledger_Bytes lB lO W R Φ J by kernel_rfl]; exact h) c

-- loop at region 8: 3 s, 6 k; blocks 
-- loop at region 3: 3 s, 4 i; blocks 
-- known blocks: 5 b, 7 x
def Berrataref41_Ledger_Bytes (lB lO : Nat) (W : World) (R : List Own) (Φ : PW) (J : Value → World → Prop) : Prop :=
  ∀ (w0 : World) (R1 : List Own), Ctx W w0 (R ++ R1) Φ → ∃ (p2 : Option Addr), ∃ (k3 : Nat), ∃ (k4 : Nat), w0.cell? (Addr.mk lB lO none) = some (Value.slice p2 k3 k4) ∧ ∀ (w5 : World) (R6 :
  List Own), Ctx W w5 (R ++ R6) Φ → Calls Tryz.prog F.errataref01_Num #[Value.int IntKind.i64 (↑k3 : Int)] w5 fun (e7 : Ending) (w8 : World) => ∃ (s9 : ByteArray), e7 = Ending.returned
  (Value.string s9) ∧ ∃ (R10 : List Own), ∃ (Φ11 : PW), Stable Φ11 ∧ Ctx W w8 (R10 ++ R6) Φ11 ∧ exI fun (I12 : ByteArray → Int → List Own → PW → Nat → Prop) => (∃ (R13 : List Own), ∃ (Φ14 :
  PW), ∃ (k15 : Nat), Stable Φ14 ∧ (∀ (w16 : World) (R17 : List Own), Ctx W w16 (R10 ++ R17) Φ11 → Ctx W w16 (R13 ++ R17) Φ14) ∧ I12 s9 0 R13 Φ14 k15) ∧ ∀ (s18 : ByteArray) (n19 : Int) (R20 :
  List Own) (I21 : List Nat → World → Prop) (k22 : Nat), Stable I21 → I12 s18 n19 R20 I21 k22 → ∀ (w23 : World) (R24 : List Own), Ctx W w23 (R20 ++ R24) I21 → ∃ (p25 : Option Addr), ∃ (k26 :
  Nat), ∃ (k27 : Nat), w23.cell? (Addr.mk lB lO none) = some (Value.slice p25 k26 k27) ∧ Br (decide (n19 < (↑k26 : Int))) (∀ (w28 : World) (R29 : List Own), Ctx W w28 (R20 ++ R29) I21 → ∃
  (p30 : Option Addr), ∃ (k31 : Nat), ∃ (k32 : Nat), w28.cell? (Addr.mk lB lO none) = some (Value.slice p30 k31 k32) ∧ (0 ≤ n19 ∧ n19 < (↑k31 : Int)) ∧ ptrK none p30 fun (k33 k34 : Nat) => ∀
  (w35 : World) (R36 : List Own), Ctx W w35 (R20 ++ R36) I21 → ∃ (n37 : Int), ∃ (n38 : Int), ∃ (p39 : Option Addr), ∃ (k40 : Nat), ∃ (k41 : Nat), RowAt w35 k33 (k34 + n19.toNat * 3)
  [Value.int IntKind.i64 n37, Value.int IntKind.i64 n38, Value.slice p39 k40 k41] ∧ ∀ (b : Nat), ∃ (R42 : List Own), ∃ (Φ43 : PW), Stable Φ43 ∧ (∀ (w44 : World) (R45 : List Own), Ctx W w44
  (R20 ++ R45) I21 → Ctx W w44 (R42 ++ R45) Φ43) ∧ ∀ (w46 : World) (R47 : List Own), Ctx W w46 (R20 ++ R47) I21 → Calls Tryz.prog F.errataref01_Int #[Value.int IntKind.i64 n37] w46 fun (e48 :
  Ending) (w49 : World) => ∃ (s50 : ByteArray), e48 = Ending.returned (Value.string s50) ∧ ∃ (R51 : List Own), ∃ (Φ52 : PW), Stable Φ52 ∧ Ctx W w49 (R51 ++ R47) Φ52 ∧ (∀ (w53 : World) (R54 :
  List Own), Ctx W w53 (R51 ++ R54) Φ52 → Ctx W w53 (R42 ++ R54) Φ43) ∧ (s18.size + s50.size).le 9223372036854775807 ∧ ∀ (w55 : World) (R56 : List Own), Ctx W w55 (R51 ++ R56) Φ52 → Calls
  Tryz.prog F.errataref01_Int #[Value.int IntKind.i64 n38] w55 fun (e57 : Ending) (w58 : World) => ∃ (s59 : ByteArray), e57 = Ending.returned (Value.string s59) ∧ ∃ (R60 : List Own), ∃ (Φ61 :
  PW), Stable Φ61 ∧ Ctx W w58 (R60 ++ R56) Φ61 ∧ (∀ (w62 : World) (R63 : List Own), Ctx W w62 (R60 ++ R63) Φ61 → Ctx W w62 (R42 ++ R63) Φ43) ∧ ((s18 ++ s50).size + s59.size).le
  9223372036854775807 ∧ ∀ (w64 : World) (R65 : List Own), Ctx W w64 (R60 ++ R65) Φ61 → Calls Tryz.prog F.errataref01_Num #[Value.int IntKind.i64 (↑k40 : Int)] w64 fun (e66 : Ending) (w67 :
  World) => ∃ (s68 : ByteArray), e66 = Ending.returned (Value.string s68) ∧ ∃ (R69 : List Own), ∃ (Φ70 : PW), Stable Φ70 ∧ Ctx W w67 (R69 ++ R65) Φ70 ∧ (∀ (w71 : World) (R72 : List Own), Ctx
  W w71 (R69 ++ R72) Φ70 → Ctx W w71 (R42 ++ R72) Φ43) ∧ ((s18 ++ s50 ++ s59).size + s68.size).le 9223372036854775807 ∧ exI fun (I73 : ByteArray → Int → List Own → PW → Nat → Prop) => (∃ (R74
  : List Own), ∃ (Φ75 : PW), ∃ (k76 : Nat), Stable Φ75 ∧ (∀ (w77 : World) (R78 : List Own), Ctx W w77 (R69 ++ R78) Φ70 → Ctx W w77 (R74 ++ R78) Φ75) ∧ I73 (s18 ++ s50 ++ s59 ++ s68) 0 R74 Φ75
  k76) ∧ ∀ (s79 : ByteArray) (n80 : Int) (R81 : List Own) (I82 : List Nat → World → Prop) (k83 : Nat), Stable I82 → I73 s79 n80 R81 I82 k83 → Br (decide (n80 < (↑k40 : Int))) ((0 ≤ n80 ∧ n80
  < (↑k40 : Int)) ∧ ptrK none p39 fun (k84 k85 : Nat) => ∀ (w86 : World) (R87 : List Own), Ctx W w86 (R81 ++ R87) I82 → ∃ (n88 : Int), ∃ (n89 : Int), ∃ (n90 : Int), ∃ (p91 : Option Addr), ∃
  (k92 : Nat), ∃ (k93 : Nat), ∃ (n94 : Int), ∃ (n95 : Int), ∃ (n96 : Int), RowAt w86 k84 (k85 + n80.toNat * 7) [Value.int IntKind.i64 n88, Value.int IntKind.i64 n89, Value.int IntKind.i64
  n90, Value.slice p91 k92 k93, Value.int IntKind.i64 n94, Value.int IntKind.i64 n95, Value.int IntKind.i64 n96] ∧ ∀ (b : Nat), ∃ (R97 : List Own), ∃ (Φ98 : PW), Stable Φ98 ∧ (∀ (w99 : World)
  (R100 : List Own), Ctx W w99 (R81 ++ R100) I82 → Ctx W w99 (R97 ++ R100) Φ98) ∧ ∀ (w101 : World) (R102 : List Own), Ctx W w101 (R81 ++ R102) I82 → Calls Tryz.prog F.errataref01_Int
  #[Value.int IntKind.i64 n90] w101 fun (e103 : Ending) (w104 : World) => ∃ (s105 : ByteArray), e103 = Ending.returned (Value.string s105) ∧ ∃ (R106 : List Own), ∃ (Φ107 : PW), Stable Φ107 ∧
  Ctx W w104 (R106 ++ R102) Φ107 ∧ (∀ (w108 : World) (R109 : List Own), Ctx W w108 (R106 ++ R109) Φ107 → Ctx W w108 (R97 ++ R109) Φ98) ∧ (s79.size + s105.size).le 9223372036854775807 ∧ ∀
  (w110 : World) (R111 : List Own), Ctx W w110 (R106 ++ R111) Φ107 → Calls Tryz.prog F.errataref03_RowBytes #[Value.slice p91 k92 k93] w110 fun (e112 : Ending) (w113 : World) => ∃ (s114 :
  ByteArray), e112 = Ending.returned (Value.string s114) ∧ ∃ (R115 : List Own), ∃ (Φ116 : PW), Stable Φ116 ∧ Ctx W w113 (R115 ++ R111) Φ116 ∧ (∀ (w117 : World) (R118 : List Own), Ctx W w117
  (R115 ++ R118) Φ116 → Ctx W w117 (R97 ++ R118) Φ98) ∧ ∀ (w119 : World) (R120 : List Own), Ctx W w119 (R115 ++ R120) Φ116 → Calls Tryz.prog F.errataref01_Text #[Value.string s114] w119 fun
  (e121 : Ending) (w122 : World) => ∃ (s123 : ByteArray), e121 = Ending.returned (Value.string s123) ∧ ∃ (R124 : List Own), ∃ (Φ125 : PW), Stable Φ125 ∧ Ctx W w122 (R124 ++ R120) Φ125 ∧ (∀
  (w126 : World) (R127 : List Own), Ctx W w126 (R124 ++ R127) Φ125 → Ctx W w126 (R97 ++ R127) Φ98) ∧ ((s79 ++ s105).size + s123.size).le 9223372036854775807 ∧ ∀ (w128 : World) (R129 : List
  Own), Ctx W w128 (R124 ++ R129) Φ125 → Calls Tryz.prog F.errataref01_Int #[Value.int IntKind.i64 n94] w128 fun (e130 : Ending) (w131 : World) => ∃ (s132 : ByteArray), e130 = Ending.returned
  (Value.string s132) ∧ ∃ (R133 : List Own), ∃ (Φ134 : PW), Stable Φ134 ∧ Ctx W w131 (R133 ++ R129) Φ134 ∧ (∀ (w135 : World) (R136 : List Own), Ctx W w135 (R133 ++ R136) Φ134 → Ctx W w135
  (R97 ++ R136) Φ98) ∧ ((s79 ++ s105 ++ s123).size + s132.size).le 9223372036854775807 ∧ ∀ (w137 : World) (R138 : List Own), Ctx W w137 (R133 ++ R138) Φ134 → Calls Tryz.prog F.errataref01_Int
  #[Value.int IntKind.i64 n95] w137 fun (e139 : Ending) (w140 : World) => ∃ (s141 : ByteArray), e139 = Ending.returned (Value.string s141) ∧ ∃ (R142 : List Own), ∃ (Φ143 : PW), Stable Φ143 ∧
  Ctx W w140 (R142 ++ R138) Φ143 ∧ (∀ (w144 : World) (R145 : List Own), Ctx W w144 (R142 ++ R145) Φ143 → Ctx W w144 (R97 ++ R145) Φ98) ∧ ((s79 ++ s105 ++ s123 ++ s132).size + s141.size).le
  9223372036854775807 ∧ ∀ (w146 : World) (R147 : List Own), Ctx W w146 (R142 ++ R147) Φ143 → Calls Tryz.prog F.errataref01_Int #[Value.int IntKind.i64 n96] w146 fun (e148 : Ending) (w149 :
  World) => ∃ (s150 : ByteArray), e148 = Ending.returned (Value.string s150) ∧ ∃ (R151 : List Own), ∃ (Φ152 : PW), Stable Φ152 ∧ Ctx W w149 (R151 ++ R147) Φ152 ∧ (∀ (w153 : World) (R154 :
  List Own), Ctx W w153 (R151 ++ R154) Φ152 → Ctx W w153 (R97 ++ R154) Φ98) ∧ ((s79 ++ s105 ++ s123 ++ s132 ++ s141).size + s150.size).le 9223372036854775807 ∧ I64 (n80 + 1) ∧ ∃ (R155 : List
  Own), ∃ (Φ156 : PW), ∃ (k157 : Nat), Stable Φ156 ∧ (∀ (w158 : World) (R159 : List Own), Ctx W w158 (R151 ++ R159) Φ152 → Ctx W w158 (R155 ++ R159) Φ156) ∧ I73 (s79 ++ s105 ++ s123 ++ s132
  ++ s141 ++ s150) (n80 + 1) R155 Φ156 k157 ∧ k157 < k83) (I64 (n19 + 1) ∧ ∃ (R160 : List Own), ∃ (Φ161 : PW), ∃ (k162 : Nat), Stable Φ161 ∧ (∀ (w163 : World) (R164 : List Own), Ctx W w163
  (R81 ++ R164) I82 → Ctx W w163 (R160 ++ R164) Φ161) ∧ I12 s79 (n19 + 1) R160 Φ161 k162 ∧ k162 < k22)) (∀ (w165 : World) (R166 : List Own), Ctx W w165 (R20 ++ R166) I21 → J (Value.string
  s18) w165)

theorem Berrataref41_Ledger_Bytes_run (lB lO : Nat) {W w : World} {R : List Own} {Φ : PW} [Stable Φ] {J : Value → World → Prop} (c : Ctx W w R Φ) (h : Berrataref41_Ledger_Bytes lB lO W R Φ J) : Calls Tryz.prog F.errataref41_Ledger_Bytes #[.pointer (some ⟨lB, lO, none⟩)] w fun e w' => ∃ v, e = .returned v ∧ J v w' :=
  vcFS_sound (H := { keep := some [0, 2, 3, 4, 5, 6, 7, 20, 48], track := [5, 7], stages := [(6, [.held [(0, true), (1, true), (5, true), (9, true), (2, true), (6, true), (10, true), (11, true), (3, false), (4, true), (7, false), (8, true), (12, false)], .stage [13, 14] none]), (11, [.held [(0, true), (1, true), (5, true), (10, true), (14, true), (18, true), (2, true), (6, true), (11, true), (15, true), (19, true), (3, false), (4, true), (7, false), (8, false), (9, true), (12, false), (13, true), (16, false), (17, true), (20, false)], .stage [21, 22] none])], loops := [(8, [(3, .one (.str)), (6, .one (.int .i64))], []), (3, [(3, .one (.str)), (4, .one (.int .i64))], [])] }) (by rw [show vcFS Tryz.prog W { keep := some [0, 2, 3, 4, 5, 6, 7, 20, 48], track := [5, 7], stages := [(6, [.held [(0, true), (1, true), (5, true), (9, true), (2, true), (6, true), (10, true), (11, true), (3, false), (4, true), (7, false), (8, true), (12, false)], .stage [13, 14] none]), (11, [.held [(0, true), (1, true), (5, true), (10, true), (14, true), (18, true), (2, true), (6, true), (11, true), (15, true), (19, true), (3, false), (4, true), (7, false), (8, false), (9, true), (12, false), (13, true), (16, false), (17, true), (20, false)], .stage [21, 22] none])], loops := [(8, [(3, .one (.str)), (6, .one (.int .i64))], []), (3, [(3, .one (.str)), (4, .one (.int .i64))], [])] } F.errataref41_Ledger_Bytes #[.pointer (some ⟨lB, lO, none⟩)] R Φ J = Berrataref41_Ledger_Bytes lB lO W R Φ J by kernel_rfl]; exact h) c

-- loop at region 3: 3 out, 4 i; blocks 
def Berrataref41_Net (linesP : Option Addr) (linesN linesC : Nat) (W : World) (R : List Own) (Φ : PW) (J : Value → World → Prop) : Prop :=
  exI fun (I0 : Option Addr → Nat → Nat → Int → List Own → PW → Nat → Prop) => (∃ (R1 : List Own), ∃ (Φ2 : PW), ∃ (k3 : Nat), Stable Φ2 ∧ (∀ (w4 : World) (R5 : List Own), Ctx W w4 (R ++ R5) Φ
  → Ctx W w4 (R1 ++ R5) Φ2) ∧ I0 none 0 0 0 R1 Φ2 k3) ∧ ∀ (p6 : Option Addr) (k7 k8 : Nat) (n9 : Int) (R10 : List Own) (I11 : List Nat → World → Prop) (k12 : Nat), Stable I11 → I0 p6 k7 k8 n9
  R10 I11 k12 → Br (decide (n9 < (↑linesN : Int))) (∃ (R13 : List Own), ∃ (Φ14 : PW), Stable Φ14 ∧ (∀ (w15 : World) (R16 : List Own), Ctx W w15 (R10 ++ R16) I11 → Ctx W w15 (R13 ++ R16) Φ14)
  ∧ (0 ≤ n9 ∧ n9 < (↑linesN : Int)) ∧ ptrK none linesP fun (k17 k18 : Nat) => (0 ≤ n9 ∧ n9 < (↑linesN : Int)) ∧ ptrK none linesP fun (k19 k20 : Nat) => (0 ≤ n9 ∧ n9 < (↑linesN : Int)) ∧ ptrK
  none linesP fun (k21 k22 : Nat) => ∃ (n23 : Int), (∀ (w24 : World) (R25 : List Own), Ctx W w24 (R13 ++ R25) Φ14 → ∃ (n26 : Int), w24.cell? (Addr.mk k17 (k18 + n9.toNat * 7 + 2) none) = some
  (Value.int IntKind.i64 n26) ∧ Value.int IntKind.i64 n26 = Value.int IntKind.i64 n23) ∧ ∃ (p27 : Option Addr), ∃ (k28 : Nat), ∃ (k29 : Nat), (∀ (w30 : World) (R31 : List Own), Ctx W w30 (R13
  ++ R31) Φ14 → ∃ (p32 : Option Addr), ∃ (k33 : Nat), ∃ (k34 : Nat), w30.cell? (Addr.mk k19 (k20 + n9.toNat * 7 + 3) none) = some (Value.slice p32 k33 k34) ∧ Value.slice p32 k33 k34 =
  Value.slice p27 k28 k29) ∧ ∃ (n35 : Int), (∀ (w36 : World) (R37 : List Own), Ctx W w36 (R13 ++ R37) Φ14 → ∃ (n38 : Int), w36.cell? (Addr.mk k21 (k22 + n9.toNat * 7 + 4) none) = some
  (Value.int IntKind.i64 n38) ∧ Value.int IntKind.i64 n38 = Value.int IntKind.i64 n35) ∧ ∀ (k39 : Nat), (∀ (w40 : World) (R41 : List Own), Ctx W w40 (Own.blk k39 [Value.int IntKind.i64 n23,
  Value.slice p27 k28 k29, Value.int IntKind.i64 n35] 73 :: R10 ++ R41) I11 → Ctx W w40 (R13 ++ R41) Φ14) ∧ ∀ (w42 : World) (R43 : List Own), Ctx W w42 (Own.blk k39 [Value.int IntKind.i64
  n23, Value.slice p27 k28 k29, Value.int IntKind.i64 n35] 73 :: R10 ++ R43) I11 → ∃ (p44 : Option Addr), ∃ (k45 : Nat), ∃ (k46 : Nat), ∃ (w47 : World), Sem.run Tryz.prog (builtin
  Builtin.append #[44, 44] 44 #[false, false] #[Value.slice p6 k7 k8, Value.slice (some (Addr.mk k39 0 none)) 1 1]) w42 = Result.ok (Next.value (Value.slice p44 k45 k46)) w47 ∧ ∃ (R48 : List
  Own), ∃ (Φ49 : PW), Stable Φ49 ∧ Ctx W w47 (R48 ++ R43) Φ49 ∧ I64 (n9 + 1) ∧ ∃ (R50 : List Own), ∃ (Φ51 : PW), ∃ (k52 : Nat), Stable Φ51 ∧ (∀ (w53 : World) (R54 : List Own), Ctx W w53 (R48
  ++ R54) Φ49 → Ctx W w53 (R50 ++ R54) Φ51) ∧ I0 p44 k45 k46 (n9 + 1) R50 Φ51 k52 ∧ k52 < k12) (∀ (w55 : World) (R56 : List Own), Ctx W w55 (R10 ++ R56) I11 → Calls Tryz.prog
  F.errataref28_Consolidate #[Value.slice p6 k7 k8] w55 fun (e57 : Ending) (w58 : World) => ∃ (p59 : Option Addr), ∃ (k60 : Nat), ∃ (k61 : Nat), e57 = Ending.returned (Value.slice p59 k60
  k61) ∧ ∃ (R62 : List Own), ∃ (Φ63 : PW), Stable Φ63 ∧ Ctx W w58 (R62 ++ R56) Φ63 ∧ ∀ (w64 : World) (R65 : List Own), Ctx W w64 (R62 ++ R65) Φ63 → J (Value.slice p59 k60 k61) w64)

theorem Berrataref41_Net_run (linesP : Option Addr) (linesN linesC : Nat) {W w : World} {R : List Own} {Φ : PW} [Stable Φ] {J : Value → World → Prop} (c : Ctx W w R Φ) (h : Berrataref41_Net linesP linesN linesC W R Φ J) : Calls Tryz.prog F.errataref41_Net #[.slice linesP linesN linesC] w fun e w' => ∃ v, e = .returned v ∧ J v w' :=
  vcFS_sound (H := { keep := some [0, 2, 3, 4, 8], stages := [(5, [.held [(0, true), (1, true), (2, true), (6, true), (7, true), (11, true), (12, true), (3, true), (8, true), (13, true), (4, true), (9, true), (14, true), (5, true), (10, true), (15, true), (16, true), (17, false)], .stage [] (some 18), .stage [19] none])], loops := [(3, [(3, .one (.slice)), (4, .one (.int .i64))], [])] }) (by rw [show vcFS Tryz.prog W { keep := some [0, 2, 3, 4, 8], stages := [(5, [.held [(0, true), (1, true), (2, true), (6, true), (7, true), (11, true), (12, true), (3, true), (8, true), (13, true), (4, true), (9, true), (14, true), (5, true), (10, true), (15, true), (16, true), (17, false)], .stage [] (some 18), .stage [19] none])], loops := [(3, [(3, .one (.slice)), (4, .one (.int .i64))], [])] } F.errataref41_Net #[.slice linesP linesN linesC] R Φ J = Berrataref41_Net linesP linesN linesC W R Φ J by kernel_rfl]; exact h) c

-- loop at region 4: 5 i; blocks 
def Berrataref28_Equal (aP : Option Addr) (aN aC : Nat) (bP : Option Addr) (bN bC : Nat) (W : World) (R : List Own) (Φ : PW) (J : Value → World → Prop) : Prop :=
  Br (decide ((↑aN : Int) ≠ (↑bN : Int))) (∀ (w0 : World) (R1 : List Own), Ctx W w0 (R ++ R1) Φ → J (Value.bool false) w0) (exI fun (I2 : Int → List Own → PW → Nat → Prop) => (∃ (R3 : List
  Own), ∃ (Φ4 : PW), ∃ (k5 : Nat), Stable Φ4 ∧ (∀ (w6 : World) (R7 : List Own), Ctx W w6 (R ++ R7) Φ → Ctx W w6 (R3 ++ R7) Φ4) ∧ I2 0 R3 Φ4 k5) ∧ ∀ (n8 : Int) (R9 : List Own) (I10 : List Nat
  → World → Prop) (k11 : Nat), Stable I10 → I2 n8 R9 I10 k11 → Br (decide (n8 < (↑aN : Int))) (∃ (R12 : List Own), ∃ (Φ13 : PW), Stable Φ13 ∧ (∀ (w14 : World) (R15 : List Own), Ctx W w14 (R9
  ++ R15) I10 → Ctx W w14 (R12 ++ R15) Φ13) ∧ (0 ≤ n8 ∧ n8 < (↑aN : Int)) ∧ ptrK none aP fun (k16 k17 : Nat) => (0 ≤ n8 ∧ n8 < (↑bN : Int)) ∧ ptrK none bP fun (k18 k19 : Nat) => ∃ (n20 :
  Int), ∃ (p21 : Option Addr), ∃ (k22 : Nat), ∃ (k23 : Nat), ∃ (n24 : Int), (∀ (w25 : World) (R26 : List Own), Ctx W w25 (R12 ++ R26) Φ13 → ∃ (n27 : Int), ∃ (p28 : Option Addr), ∃ (k29 :
  Nat), ∃ (k30 : Nat), ∃ (n31 : Int), RowAt w25 k16 (k17 + n8.toNat * 3) [Value.int IntKind.i64 n27, Value.slice p28 k29 k30, Value.int IntKind.i64 n31] ∧ Value.agg #[Value.int IntKind.i64
  n27, Value.slice p28 k29 k30, Value.int IntKind.i64 n31] = Value.agg #[Value.int IntKind.i64 n20, Value.slice p21 k22 k23, Value.int IntKind.i64 n24]) ∧ ∃ (n32 : Int), ∃ (p33 : Option
  Addr), ∃ (k34 : Nat), ∃ (k35 : Nat), ∃ (n36 : Int), (∀ (w37 : World) (R38 : List Own), Ctx W w37 (R12 ++ R38) Φ13 → ∃ (n39 : Int), ∃ (p40 : Option Addr), ∃ (k41 : Nat), ∃ (k42 : Nat), ∃
  (n43 : Int), RowAt w37 k18 (k19 + n8.toNat * 3) [Value.int IntKind.i64 n39, Value.slice p40 k41 k42, Value.int IntKind.i64 n43] ∧ Value.agg #[Value.int IntKind.i64 n39, Value.slice p40 k41
  k42, Value.int IntKind.i64 n43] = Value.agg #[Value.int IntKind.i64 n32, Value.slice p33 k34 k35, Value.int IntKind.i64 n36]) ∧ ∀ (w44 : World) (R45 : List Own), Ctx W w44 (R9 ++ R45) I10 →
  Calls Tryz.prog F.errataref28_Compare #[Value.agg #[Value.int IntKind.i64 n20, Value.slice p21 k22 k23, Value.int IntKind.i64 n24], Value.agg #[Value.int IntKind.i64 n32, Value.slice p33
  k34 k35, Value.int IntKind.i64 n36]] w44 fun (e46 : Ending) (w47 : World) => ∃ (n48 : Int), e46 = Ending.returned (Value.int IntKind.i64 n48) ∧ ∃ (R49 : List Own), ∃ (Φ50 : PW), Stable Φ50
  ∧ Ctx W w47 (R49 ++ R45) Φ50 ∧ Br (decide (n48 ≠ 0)) (∀ (w51 : World) (R52 : List Own), Ctx W w51 (R49 ++ R52) Φ50 → J (Value.bool false) w51) ((0 ≤ n8 ∧ n8 < (↑aN : Int)) ∧ ptrK none aP
  fun (k53 k54 : Nat) => (0 ≤ n8 ∧ n8 < (↑bN : Int)) ∧ ptrK none bP fun (k55 k56 : Nat) => ∀ (w57 : World) (R58 : List Own), Ctx W w57 (R49 ++ R58) Φ50 → ∃ (n59 : Int), w57.cell? (Addr.mk k53
  (k54 + n8.toNat * 3 + 2) none) = some (Value.int IntKind.i64 n59) ∧ ∀ (w60 : World) (R61 : List Own), Ctx W w60 (R49 ++ R61) Φ50 → ∃ (n62 : Int), w60.cell? (Addr.mk k55 (k56 + n8.toNat * 3
  + 2) none) = some (Value.int IntKind.i64 n62) ∧ Br (decide (n59 ≠ n62)) (∀ (w63 : World) (R64 : List Own), Ctx W w63 (R49 ++ R64) Φ50 → J (Value.bool false) w63) (I64 (n8 + 1) ∧ ∃ (R65 :
  List Own), ∃ (Φ66 : PW), ∃ (k67 : Nat), Stable Φ66 ∧ (∀ (w68 : World) (R69 : List Own), Ctx W w68 (R49 ++ R69) Φ50 → Ctx W w68 (R65 ++ R69) Φ66) ∧ I2 (n8 + 1) R65 Φ66 k67 ∧ k67 < k11))) (∀
  (w70 : World) (R71 : List Own), Ctx W w70 (R9 ++ R71) I10 → J (Value.bool true) w70))

theorem Berrataref28_Equal_run (aP : Option Addr) (aN aC : Nat) (bP : Option Addr) (bN bC : Nat) {W w : World} {R : List Own} {Φ : PW} [Stable Φ] {J : Value → World → Prop} (c : Ctx W w R Φ) (h : Berrataref28_Equal aP aN aC bP bN bC W R Φ J) : Calls Tryz.prog F.errataref28_Equal #[.slice aP aN aC, .slice bP bN bC] w fun e w' => ∃ v, e = .returned v ∧ J v w' :=
  vcFS_sound (H := { keep := some [0, 1, 4, 5, 10, 14, 39], stages := [(6, [.held [(0, true), (1, true), (4, true), (5, true), (2, true), (6, true), (3, true), (7, true)], .stage [] (some 8), .stage [9, 10, 11, 12, 16, 17, 13, 18, 14, 19, 15, 20, 21, 22] none])], loops := [(4, [(5, .one (.int .i64))], [])] }) (by rw [show vcFS Tryz.prog W { keep := some [0, 1, 4, 5, 10, 14, 39], stages := [(6, [.held [(0, true), (1, true), (4, true), (5, true), (2, true), (6, true), (3, true), (7, true)], .stage [] (some 8), .stage [9, 10, 11, 12, 16, 17, 13, 18, 14, 19, 15, 20, 21, 22] none])], loops := [(4, [(5, .one (.int .i64))], [])] } F.errataref28_Equal #[.slice aP aN aC, .slice bP bN bC] R Φ J = Berrataref28_Equal aP aN aC bP bN bC W R Φ J by kernel_rfl]; exact h) c

def Bledger_Ledger_Net (lB lO : Nat) (W : World) (R : List Own) (Φ : PW) (J : Value → World → Prop) : Prop :=
  ∀ (w0 : World) (R1 : List Own), Ctx W w0 (R ++ R1) Φ → ∃ (p2 : Option Addr), ∃ (k3 : Nat), ∃ (k4 : Nat), w0.cell? (Addr.mk lB lO none) = some (Value.slice p2 k3 k4) ∧ ∀ (w5 : World) (R6 :
  List Own), Ctx W w5 (R ++ R6) Φ → Calls Tryz.prog F.ledger_net #[Value.slice p2 k3 k4] w5 fun (e7 : Ending) (w8 : World) => ∃ (p9 : Option Addr), ∃ (k10 : Nat), ∃ (k11 : Nat), e7 =
  Ending.returned (Value.slice p9 k10 k11) ∧ ∃ (R12 : List Own), ∃ (Φ13 : PW), Stable Φ13 ∧ Ctx W w8 (R12 ++ R6) Φ13 ∧ ∀ (w14 : World) (R15 : List Own), Ctx W w14 (R12 ++ R15) Φ13 → J
  (Value.slice p9 k10 k11) w14

theorem Bledger_Ledger_Net_run (lB lO : Nat) {W w : World} {R : List Own} {Φ : PW} [Stable Φ] {J : Value → World → Prop} (c : Ctx W w R Φ) (h : Bledger_Ledger_Net lB lO W R Φ J) : Calls Tryz.prog F.ledger_Ledger_Net #[.pointer (some ⟨lB, lO, none⟩)] w fun e w' => ∃ v, e = .returned v ∧ J v w' :=
  vcFS_sound (H := { keep := some [0, 2] }) (by rw [show vcFS Tryz.prog W { keep := some [0, 2] } F.ledger_Ledger_Net #[.pointer (some ⟨lB, lO, none⟩)] R Φ J = Bledger_Ledger_Net lB lO W R Φ J by kernel_rfl]; exact h) c

def Bledger_Ledger_Upto (lB lO : Nat) (time : Int) (W : World) (R : List Own) (Φ : PW) (J : Value → World → Prop) : Prop :=
  ∀ (w0 : World) (R1 : List Own), Ctx W w0 (R ++ R1) Φ → Calls Tryz.prog F.ledger_Ledger_Net #[Value.pointer (some (Addr.mk lB lO none))] w0 fun (e2 : Ending) (w3 : World) => ∃ (p4 : Option
  Addr), ∃ (k5 : Nat), ∃ (k6 : Nat), e2 = Ending.returned (Value.slice p4 k5 k6) ∧ ∃ (R7 : List Own), ∃ (Φ8 : PW), Stable Φ8 ∧ Ctx W w3 (R7 ++ R1) Φ8 ∧ ∀ (w9 : World) (R10 : List Own), Ctx W
  w9 (R7 ++ R10) Φ8 → Calls Tryz.prog F.delta_Upto #[Value.slice p4 k5 k6, Value.int IntKind.i64 time] w9 fun (e11 : Ending) (w12 : World) => ∃ (p13 : Option Addr), ∃ (k14 : Nat), ∃ (k15 :
  Nat), e11 = Ending.returned (Value.slice p13 k14 k15) ∧ ∃ (R16 : List Own), ∃ (Φ17 : PW), Stable Φ17 ∧ Ctx W w12 (R16 ++ R10) Φ17 ∧ ∀ (w18 : World) (R19 : List Own), Ctx W w18 (R16 ++ R19)
  Φ17 → J (Value.slice p13 k14 k15) w18

theorem Bledger_Ledger_Upto_run (lB lO : Nat) (time : Int) {W w : World} {R : List Own} {Φ : PW} [Stable Φ] {J : Value → World → Prop} (c : Ctx W w R Φ) (h : Bledger_Ledger_Upto lB lO time W R Φ J) : Calls Tryz.prog F.ledger_Ledger_Upto #[.pointer (some ⟨lB, lO, none⟩), .int .i64 time] w fun e w' => ∃ v, e = .returned v ∧ J v w' :=
  vcFS_sound (H := { keep := some [0, 1, 4] }) (by rw [show vcFS Tryz.prog W { keep := some [0, 1, 4] } F.ledger_Ledger_Upto #[.pointer (some ⟨lB, lO, none⟩), .int .i64 time] R Φ J = Bledger_Ledger_Upto lB lO time W R Φ J by kernel_rfl]; exact h) c

-- loop at region 3: 5 out, 6 i; blocks 
def Berrataref28_Upto (lP : Option Addr) (lN lC : Nat) (t : Int) (W : World) (R : List Own) (Φ : PW) (J : Value → World → Prop) : Prop :=
  exI fun (I0 : Option Addr → Nat → Nat → Int → List Own → PW → Nat → Prop) => (∃ (R1 : List Own), ∃ (Φ2 : PW), ∃ (k3 : Nat), Stable Φ2 ∧ (∀ (w4 : World) (R5 : List Own), Ctx W w4 (R ++ R5) Φ
  → Ctx W w4 (R1 ++ R5) Φ2) ∧ I0 none 0 0 0 R1 Φ2 k3) ∧ ∀ (p6 : Option Addr) (k7 k8 : Nat) (n9 : Int) (R10 : List Own) (I11 : List Nat → World → Prop) (k12 : Nat), Stable I11 → I0 p6 k7 k8 n9
  R10 I11 k12 → Br (decide (n9 < (↑lN : Int))) ((0 ≤ n9 ∧ n9 < (↑lN : Int)) ∧ ptrK none lP fun (k13 k14 : Nat) => ∀ (w15 : World) (R16 : List Own), Ctx W w15 (R10 ++ R16) I11 → ∃ (n17 : Int),
  w15.cell? (Addr.mk k13 (k14 + n9.toNat * 3) none) = some (Value.int IntKind.i64 n17) ∧ Br (decide (n17 ≤ t)) ((0 ≤ n9 ∧ n9 < (↑lN : Int)) ∧ ptrK none lP fun (k18 k19 : Nat) => ∀ (w20 :
  World) (R21 : List Own), Ctx W w20 (R10 ++ R21) I11 → ∃ (n22 : Int), ∃ (p23 : Option Addr), ∃ (k24 : Nat), ∃ (k25 : Nat), ∃ (n26 : Int), RowAt w20 k18 (k19 + n9.toNat * 3) [Value.int
  IntKind.i64 n22, Value.slice p23 k24 k25, Value.int IntKind.i64 n26] ∧ ∀ (k27 : Nat) (w28 : World) (R29 : List Own), Ctx W w28 (Own.blk k27 [Value.int IntKind.i64 n22, Value.slice p23 k24
  k25, Value.int IntKind.i64 n26] 73 :: R10 ++ R29) I11 → ∃ (p30 : Option Addr), ∃ (k31 : Nat), ∃ (k32 : Nat), ∃ (w33 : World), Sem.run Tryz.prog (builtin Builtin.append #[44, 44] 44 #[false,
  false] #[Value.slice p6 k7 k8, Value.slice (some (Addr.mk k27 0 none)) 1 1]) w28 = Result.ok (Next.value (Value.slice p30 k31 k32)) w33 ∧ ∃ (R34 : List Own), ∃ (Φ35 : PW), Stable Φ35 ∧ Ctx
  W w33 (R34 ++ R29) Φ35 ∧ I64 (n9 + 1) ∧ ∃ (R36 : List Own), ∃ (Φ37 : PW), ∃ (k38 : Nat), Stable Φ37 ∧ (∀ (w39 : World) (R40 : List Own), Ctx W w39 (R34 ++ R40) Φ35 → Ctx W w39 (R36 ++ R40)
  Φ37) ∧ I0 p30 k31 k32 (n9 + 1) R36 Φ37 k38 ∧ k38 < k12) (I64 (n9 + 1) ∧ ∃ (R41 : List Own), ∃ (Φ42 : PW), ∃ (k43 : Nat), Stable Φ42 ∧ (∀ (w44 : World) (R45 : List Own), Ctx W w44 (R10 ++
  R45) I11 → Ctx W w44 (R41 ++ R45) Φ42) ∧ I0 p6 k7 k8 (n9 + 1) R41 Φ42 k43 ∧ k43 < k12)) (∀ (w46 : World) (R47 : List Own), Ctx W w46 (R10 ++ R47) I11 → Calls Tryz.prog
  F.errataref28_Consolidate #[Value.slice p6 k7 k8] w46 fun (e48 : Ending) (w49 : World) => ∃ (p50 : Option Addr), ∃ (k51 : Nat), ∃ (k52 : Nat), e48 = Ending.returned (Value.slice p50 k51
  k52) ∧ ∃ (R53 : List Own), ∃ (Φ54 : PW), Stable Φ54 ∧ Ctx W w49 (R53 ++ R47) Φ54 ∧ ∀ (w55 : World) (R56 : List Own), Ctx W w55 (R53 ++ R56) Φ54 → J (Value.slice p50 k51 k52) w55)

theorem Berrataref28_Upto_run (lP : Option Addr) (lN lC : Nat) (t : Int) {W w : World} {R : List Own} {Φ : PW} [Stable Φ] {J : Value → World → Prop} (c : Ctx W w R Φ) (h : Berrataref28_Upto lP lN lC t W R Φ J) : Calls Tryz.prog F.errataref28_Upto #[.slice lP lN lC, .int .i64 t] w fun e w' => ∃ v, e = .returned v ∧ J v w' :=
  vcFS_sound (H := { keep := some [0, 1, 4, 5, 6, 10, 19], loops := [(3, [(5, .one (.slice)), (6, .one (.int .i64))], [])] }) (by rw [show vcFS Tryz.prog W { keep := some [0, 1, 4, 5, 6, 10, 19], loops := [(3, [(5, .one (.slice)), (6, .one (.int .i64))], [])] } F.errataref28_Upto #[.slice lP lN lC, .int .i64 t] R Φ J = Berrataref28_Upto lP lN lC t W R Φ J by kernel_rfl]; exact h) c

-- loop at region 3: 5 end, 13 ; blocks 
-- known blocks: 7 b
def Bledger_Ledger_At (lB lO : Nat) (no : Int) (W : World) (R : List Own) (Φ : PW) (J : Value → World → Prop) : Prop :=
  ∀ (w0 : World) (R1 : List Own), Ctx W w0 (R ++ R1) Φ → ∃ (p2 : Option Addr), ∃ (k3 : Nat), ∃ (k4 : Nat), w0.cell? (Addr.mk lB (lO + 1) none) = some (Value.slice p2 k3 k4) ∧ exI fun (I5 :
  Int → Int → List Own → PW → Nat → Prop) => (∃ (R6 : List Own), ∃ (Φ7 : PW), ∃ (k8 : Nat), Stable Φ7 ∧ (∀ (w9 : World) (R10 : List Own), Ctx W w9 (R ++ R10) Φ → Ctx W w9 (R6 ++ R10) Φ7) ∧ I5
  0 0 R6 Φ7 k8) ∧ ∀ (n11 n12 : Int) (R13 : List Own) (I14 : List Nat → World → Prop) (k15 : Nat), Stable I14 → I5 n11 n12 R13 I14 k15 → Br (decide (n12 < (↑k3 : Int))) ((0 ≤ n12 ∧ n12 < (↑k3
  : Int)) ∧ ptrK none p2 fun (k16 k17 : Nat) => ∀ (w18 : World) (R19 : List Own), Ctx W w18 (R13 ++ R19) I14 → ∃ (n20 : Int), ∃ (n21 : Int), ∃ (n22 : Int), RowAt w18 k16 (k17 + n12.toNat * 3)
  [Value.int IntKind.i64 n20, Value.int IntKind.i64 n21, Value.int IntKind.i64 n22] ∧ ∀ (b : Nat), Br (decide (n20 ≤ no)) (I64 (n12 + 1) ∧ ∃ (R23 : List Own), ∃ (Φ24 : PW), ∃ (k25 : Nat),
  Stable Φ24 ∧ (∀ (w26 : World) (R27 : List Own), Ctx W w26 (R13 ++ R27) I14 → Ctx W w26 (R23 ++ R27) Φ24) ∧ I5 n22 (n12 + 1) R23 Φ24 k25 ∧ k25 < k15) (I64 (n12 + 1) ∧ ∃ (R28 : List Own), ∃
  (Φ29 : PW), ∃ (k30 : Nat), Stable Φ29 ∧ (∀ (w31 : World) (R32 : List Own), Ctx W w31 (R13 ++ R32) I14 → Ctx W w31 (R28 ++ R32) Φ29) ∧ I5 n11 (n12 + 1) R28 Φ29 k30 ∧ k30 < k15)) (∀ (w33 :
  World) (R34 : List Own), Ctx W w33 (R13 ++ R34) I14 → ∃ (p35 : Option Addr), ∃ (k36 : Nat), ∃ (k37 : Nat), w33.cell? (Addr.mk lB lO none) = some (Value.slice p35 k36 k37) ∧ (0 ≤ n11 ∧ n11 ≤
  (↑k37 : Int)) ∧ ∀ (w38 : World) (R39 : List Own), Ctx W w38 (R13 ++ R39) I14 → Calls Tryz.prog F.ledger_net #[Value.slice (subPtr p35 7 0 k37) n11.toNat k37] w38 fun (e40 : Ending) (w41 :
  World) => ∃ (p42 : Option Addr), ∃ (k43 : Nat), ∃ (k44 : Nat), e40 = Ending.returned (Value.slice p42 k43 k44) ∧ ∃ (R45 : List Own), ∃ (Φ46 : PW), Stable Φ46 ∧ Ctx W w41 (R45 ++ R39) Φ46 ∧
  ∀ (w47 : World) (R48 : List Own), Ctx W w47 (R45 ++ R48) Φ46 → J (Value.slice p42 k43 k44) w47)

theorem Bledger_Ledger_At_run (lB lO : Nat) (no : Int) {W w : World} {R : List Own} {Φ : PW} [Stable Φ] {J : Value → World → Prop} (c : Ctx W w R Φ) (h : Bledger_Ledger_At lB lO no W R Φ J) : Calls Tryz.prog F.ledger_Ledger_At #[.pointer (some ⟨lB, lO, none⟩), .int .i64 no] w fun e w' => ∃ v, e = .returned v ∧ J v w' :=
  vcFS_sound (H := { keep := some [0, 1, 4, 5, 7, 11, 12, 13, 14, 20], track := [7], loops := [(3, [(5, .one (.int .i64)), (13, .one (.int .i64))], [])] }) (by rw [show vcFS Tryz.prog W { keep := some [0, 1, 4, 5, 7, 11, 12, 13, 14, 20], track := [7], loops := [(3, [(5, .one (.int .i64)), (13, .one (.int .i64))], [])] } F.ledger_Ledger_At #[.pointer (some ⟨lB, lO, none⟩), .int .i64 no] R Φ J = Bledger_Ledger_At lB lO no W R Φ J by kernel_rfl]; exact h) c

-- loop at region 3: 5 out, 6 i; blocks 
def Berrataref41_Ledger_At (lB lO : Nat) (no : Int) (W : World) (R : List Own) (Φ : PW) (J : Value → World → Prop) : Prop :=
  exI fun (I0 : Option Addr → Nat → Nat → Int → List Own → PW → Nat → Prop) => (∃ (R1 : List Own), ∃ (Φ2 : PW), ∃ (k3 : Nat), Stable Φ2 ∧ (∀ (w4 : World) (R5 : List Own), Ctx W w4 (R ++ R5) Φ
  → Ctx W w4 (R1 ++ R5) Φ2) ∧ I0 none 0 0 0 R1 Φ2 k3) ∧ ∀ (p6 : Option Addr) (k7 k8 : Nat) (n9 : Int) (R10 : List Own) (I11 : List Nat → World → Prop) (k12 : Nat), Stable I11 → I0 p6 k7 k8 n9
  R10 I11 k12 → ∀ (w13 : World) (R14 : List Own), Ctx W w13 (R10 ++ R14) I11 → ∃ (p15 : Option Addr), ∃ (k16 : Nat), ∃ (k17 : Nat), w13.cell? (Addr.mk lB lO none) = some (Value.slice p15 k16
  k17) ∧ Br (decide (n9 < (↑k16 : Int))) (∀ (w18 : World) (R19 : List Own), Ctx W w18 (R10 ++ R19) I11 → ∃ (p20 : Option Addr), ∃ (k21 : Nat), ∃ (k22 : Nat), w18.cell? (Addr.mk lB lO none) =
  some (Value.slice p20 k21 k22) ∧ (0 ≤ n9 ∧ n9 < (↑k21 : Int)) ∧ ptrK none p20 fun (k23 k24 : Nat) => ∀ (w25 : World) (R26 : List Own), Ctx W w25 (R10 ++ R26) I11 → ∃ (n27 : Int), w25.cell?
  (Addr.mk k23 (k24 + n9.toNat * 3) none) = some (Value.int IntKind.i64 n27) ∧ Br (decide (n27 ≤ no)) (∀ (w28 : World) (R29 : List Own), Ctx W w28 (R10 ++ R29) I11 → ∃ (p30 : Option Addr), ∃
  (k31 : Nat), ∃ (k32 : Nat), w28.cell? (Addr.mk lB lO none) = some (Value.slice p30 k31 k32) ∧ (0 ≤ n9 ∧ n9 < (↑k31 : Int)) ∧ ptrK none p30 fun (k33 k34 : Nat) => ∀ (w35 : World) (R36 : List
  Own), Ctx W w35 (R10 ++ R36) I11 → ∃ (p37 : Option Addr), ∃ (k38 : Nat), ∃ (k39 : Nat), w35.cell? (Addr.mk k33 (k34 + n9.toNat * 3 + 2) none) = some (Value.slice p37 k38 k39) ∧ ∀ (w40 :
  World) (R41 : List Own), Ctx W w40 (R10 ++ R41) I11 → ∃ (p42 : Option Addr), ∃ (k43 : Nat), ∃ (k44 : Nat), ∃ (w45 : World), Sem.run Tryz.prog (builtin Builtin.append #[31, 31] 31 #[false,
  false] #[Value.slice p6 k7 k8, Value.slice p37 k38 k39]) w40 = Result.ok (Next.value (Value.slice p42 k43 k44)) w45 ∧ ∃ (R46 : List Own), ∃ (Φ47 : PW), Stable Φ47 ∧ Ctx W w45 (R46 ++ R41)
  Φ47 ∧ I64 (n9 + 1) ∧ ∃ (R48 : List Own), ∃ (Φ49 : PW), ∃ (k50 : Nat), Stable Φ49 ∧ (∀ (w51 : World) (R52 : List Own), Ctx W w51 (R46 ++ R52) Φ47 → Ctx W w51 (R48 ++ R52) Φ49) ∧ I0 p42 k43
  k44 (n9 + 1) R48 Φ49 k50 ∧ k50 < k12) (I64 (n9 + 1) ∧ ∃ (R53 : List Own), ∃ (Φ54 : PW), ∃ (k55 : Nat), Stable Φ54 ∧ (∀ (w56 : World) (R57 : List Own), Ctx W w56 (R10 ++ R57) I11 → Ctx W w56
  (R53 ++ R57) Φ54) ∧ I0 p6 k7 k8 (n9 + 1) R53 Φ54 k55 ∧ k55 < k12)) (∀ (w58 : World) (R59 : List Own), Ctx W w58 (R10 ++ R59) I11 → Calls Tryz.prog F.errataref41_Net #[Value.slice p6 k7 k8]
  w58 fun (e60 : Ending) (w61 : World) => ∃ (p62 : Option Addr), ∃ (k63 : Nat), ∃ (k64 : Nat), e60 = Ending.returned (Value.slice p62 k63 k64) ∧ ∃ (R65 : List Own), ∃ (Φ66 : PW), Stable Φ66 ∧
  Ctx W w61 (R65 ++ R59) Φ66 ∧ ∀ (w67 : World) (R68 : List Own), Ctx W w67 (R65 ++ R68) Φ66 → J (Value.slice p62 k63 k64) w67)

theorem Berrataref41_Ledger_At_run (lB lO : Nat) (no : Int) {W w : World} {R : List Own} {Φ : PW} [Stable Φ] {J : Value → World → Prop} (c : Ctx W w R Φ) (h : Berrataref41_Ledger_At lB lO no W R Φ J) : Calls Tryz.prog F.errataref41_Ledger_At #[.pointer (some ⟨lB, lO, none⟩), .int .i64 no] w fun e w' => ∃ v, e = .returned v ∧ J v w' :=
  vcFS_sound (H := { keep := some [0, 1, 4, 5, 6, 13, 25], loops := [(3, [(5, .one (.slice)), (6, .one (.int .i64))], [])] }) (by rw [show vcFS Tryz.prog W { keep := some [0, 1, 4, 5, 6, 13, 25], loops := [(3, [(5, .one (.slice)), (6, .one (.int .i64))], [])] } F.errataref41_Ledger_At #[.pointer (some ⟨lB, lO, none⟩), .int .i64 no] R Φ J = Berrataref41_Ledger_At lB lO no W R Φ J by kernel_rfl]; exact h) c

-- known blocks: 4 
def Bledger_Ledger_Line (lB lO : Nat) (no : Int) (W : World) (R : List Own) (Φ : PW) (J : Value → World → Prop) : Prop :=
  ∀ (b : Nat), Br (decide (no < 1)) (∀ (w0 : World) (R1 : List Own), Ctx W w0 (R ++ R1) Φ → J (Value.tuple #[Value.agg #[Value.int IntKind.i64 0, Value.int IntKind.i64 0, Value.int
  IntKind.i64 0, Value.slice none 0 0, Value.int IntKind.i64 0, Value.int IntKind.i64 0, Value.int IntKind.i64 0], Value.bool false]) w0) (∀ (w2 : World) (R3 : List Own), Ctx W w2 (R ++ R3) Φ
  → Calls Tryz.prog F.ledger_Ledger_Next #[Value.pointer (some (Addr.mk lB lO none))] w2 fun (e4 : Ending) (w5 : World) => ∃ (n6 : Int), e4 = Ending.returned (Value.int IntKind.i64 n6) ∧ ∃
  (R7 : List Own), ∃ (Φ8 : PW), Stable Φ8 ∧ Ctx W w5 (R7 ++ R3) Φ8 ∧ Br (decide (n6 ≤ no)) (∀ (w9 : World) (R10 : List Own), Ctx W w9 (R7 ++ R10) Φ8 → J (Value.tuple #[Value.agg #[Value.int
  IntKind.i64 0, Value.int IntKind.i64 0, Value.int IntKind.i64 0, Value.slice none 0 0, Value.int IntKind.i64 0, Value.int IntKind.i64 0, Value.int IntKind.i64 0], Value.bool false]) w9) (∀
  (w11 : World) (R12 : List Own), Ctx W w11 (R7 ++ R12) Φ8 → ∃ (p13 : Option Addr), ∃ (k14 : Nat), ∃ (k15 : Nat), w11.cell? (Addr.mk lB lO none) = some (Value.slice p13 k14 k15) ∧ I64 (no -
  1) ∧ (0 ≤ no - 1 ∧ no - 1 ≤ no ∧ no ≤ (↑k15 : Int)) ∧ ∀ (w16 : World) (R17 : List Own), Ctx W w16 (R7 ++ R17) Φ8 → Calls Tryz.prog F.ledger_cloned #[Value.slice (subPtr p13 7 (no - 1).toNat
  k15) (no.toNat - (no - 1).toNat) (k15 - (no - 1).toNat)] w16 fun (e18 : Ending) (w19 : World) => ∃ (p20 : Option Addr), ∃ (k21 : Nat), ∃ (k22 : Nat), e18 = Ending.returned (Value.slice p20
  k21 k22) ∧ ∃ (R23 : List Own), ∃ (Φ24 : PW), Stable Φ24 ∧ Ctx W w19 (R23 ++ R17) Φ24 ∧ ((0 : Int) ≤ 0 ∧ 0 < (↑k21 : Int)) ∧ ptrK none p20 fun (k25 k26 : Nat) => ∀ (w27 : World) (R28 : List
  Own), Ctx W w27 (R23 ++ R28) Φ24 → ∃ (n29 : Int), ∃ (n30 : Int), ∃ (n31 : Int), ∃ (p32 : Option Addr), ∃ (k33 : Nat), ∃ (k34 : Nat), ∃ (n35 : Int), ∃ (n36 : Int), ∃ (n37 : Int), RowAt w27
  k25 k26 [Value.int IntKind.i64 n29, Value.int IntKind.i64 n30, Value.int IntKind.i64 n31, Value.slice p32 k33 k34, Value.int IntKind.i64 n35, Value.int IntKind.i64 n36, Value.int
  IntKind.i64 n37] ∧ ∀ (w38 : World) (R39 : List Own), Ctx W w38 (R23 ++ R39) Φ24 → J (Value.tuple #[Value.agg #[Value.int IntKind.i64 n29, Value.int IntKind.i64 n30, Value.int IntKind.i64
  n31, Value.slice p32 k33 k34, Value.int IntKind.i64 n35, Value.int IntKind.i64 n36, Value.int IntKind.i64 n37], Value.bool true]) w38))

theorem Bledger_Ledger_Line_run (lB lO : Nat) (no : Int) {W w : World} {R : List Own} {Φ : PW} [Stable Φ] {J : Value → World → Prop} (c : Ctx W w R Φ) (h : Bledger_Ledger_Line lB lO no W R Φ J) : Calls Tryz.prog F.ledger_Ledger_Line #[.pointer (some ⟨lB, lO, none⟩), .int .i64 no] w fun e w' => ∃ v, e = .returned v ∧ J v w' :=
  vcFS_sound (H := { keep := some [0, 1, 4, 5, 13], track := [4], split := [1] }) (by rw [show vcFS Tryz.prog W { keep := some [0, 1, 4, 5, 13], track := [4], split := [1] } F.ledger_Ledger_Line #[.pointer (some ⟨lB, lO, none⟩), .int .i64 no] R Φ J = Bledger_Ledger_Line lB lO no W R Φ J by kernel_rfl]; exact h) c

-- known blocks: 2 a, 3 b
def Berrataref41_SameLine (a0 : Int) (a1 : Int) (a2 : Int) (a3P : Option Addr) (a3N a3C : Nat) (a4 : Int) (a5 : Int) (a6 : Int) (b0 : Int) (b1 : Int) (b2 : Int) (b3P : Option Addr) (b3N b3C : Nat) (b4 : Int) (b5 : Int) (b6 : Int) (W : World) (R : List Own) (Φ : PW) (J : Value → World → Prop) : Prop :=
  ∀ (b b : Nat), Br (decide (a0 = b0)) (Br (decide (a1 = b1)) (Br (decide (a2 = b2)) (Br (decide (a4 = b4)) (Br (decide (a5 = b5)) (Br (decide (a6 = b6)) (∀ (w0 : World) (R1 : List Own), Ctx
  W w0 (R ++ R1) Φ → Calls Tryz.prog F.errataref03_Same #[Value.slice a3P a3N a3C, Value.slice b3P b3N b3C] w0 fun (e2 : Ending) (w3 : World) => ∃ (c4 : Bool), e2 = Ending.returned
  (Value.bool c4) ∧ ∃ (R5 : List Own), ∃ (Φ6 : PW), Stable Φ6 ∧ Ctx W w3 (R5 ++ R1) Φ6 ∧ ∀ (w7 : World) (R8 : List Own), Ctx W w7 (R5 ++ R8) Φ6 → J (Value.bool c4) w7) (∀ (w9 : World) (R10 :
  List Own), Ctx W w9 (R ++ R10) Φ → J (Value.bool false) w9)) (∀ (w11 : World) (R12 : List Own), Ctx W w11 (R ++ R12) Φ → J (Value.bool false) w11)) (∀ (w13 : World) (R14 : List Own), Ctx W
  w13 (R ++ R14) Φ → J (Value.bool false) w13)) (∀ (w15 : World) (R16 : List Own), Ctx W w15 (R ++ R16) Φ → J (Value.bool false) w15)) (∀ (w17 : World) (R18 : List Own), Ctx W w17 (R ++ R18)
  Φ → J (Value.bool false) w17)) (∀ (w19 : World) (R20 : List Own), Ctx W w19 (R ++ R20) Φ → J (Value.bool false) w19)

theorem Berrataref41_SameLine_run (a0 : Int) (a1 : Int) (a2 : Int) (a3P : Option Addr) (a3N a3C : Nat) (a4 : Int) (a5 : Int) (a6 : Int) (b0 : Int) (b1 : Int) (b2 : Int) (b3P : Option Addr) (b3N b3C : Nat) (b4 : Int) (b5 : Int) (b6 : Int) {W w : World} {R : List Own} {Φ : PW} [Stable Φ] {J : Value → World → Prop} (c : Ctx W w R Φ) (h : Berrataref41_SameLine a0 a1 a2 a3P a3N a3C a4 a5 a6 b0 b1 b2 b3P b3N b3C b4 b5 b6 W R Φ J) : Calls Tryz.prog F.errataref41_SameLine #[.agg #[.int .i64 a0, .int .i64 a1, .int .i64 a2, .slice a3P a3N a3C, .int .i64 a4, .int .i64 a5, .int .i64 a6], .agg #[.int .i64 b0, .int .i64 b1, .int .i64 b2, .slice b3P b3N b3C, .int .i64 b4, .int .i64 b5, .int .i64 b6]] w fun e w' => ∃ v, e = .returned v ∧ J v w' :=
  vcFS_sound (H := { keep := some [2, 3, 4], track := [2, 3], split := [1] }) (by rw [show vcFS Tryz.prog W { keep := some [2, 3, 4], track := [2, 3], split := [1] } F.errataref41_SameLine #[.agg #[.int .i64 a0, .int .i64 a1, .int .i64 a2, .slice a3P a3N a3C, .int .i64 a4, .int .i64 a5, .int .i64 a6], .agg #[.int .i64 b0, .int .i64 b1, .int .i64 b2, .slice b3P b3N b3C, .int .i64 b4, .int .i64 b5, .int .i64 b6]] R Φ J = Berrataref41_SameLine a0 a1 a2 a3P a3N a3C a4 a5 a6 b0 b1 b2 b3P b3N b3C b4 b5 b6 W R Φ J by kernel_rfl]; exact h) c

-- loop at region 3: 7 begin, 15 ; blocks 
-- known blocks: 9 b
def Bledger_Ledger_Batch (lB lO : Nat) (no : Int) (W : World) (R : List Own) (Φ : PW) (J : Value → World → Prop) : Prop :=
  ∀ (w0 : World) (R1 : List Own), Ctx W w0 (R ++ R1) Φ → ∃ (p2 : Option Addr), ∃ (k3 : Nat), ∃ (k4 : Nat), w0.cell? (Addr.mk lB (lO + 1) none) = some (Value.slice p2 k3 k4) ∧ exI fun (I5 :
  Int → Int → List Own → PW → Nat → Prop) => (∃ (R6 : List Own), ∃ (Φ7 : PW), ∃ (k8 : Nat), Stable Φ7 ∧ (∀ (w9 : World) (R10 : List Own), Ctx W w9 (R ++ R10) Φ → Ctx W w9 (R6 ++ R10) Φ7) ∧ I5
  0 0 R6 Φ7 k8) ∧ ∀ (n11 n12 : Int) (R13 : List Own) (I14 : List Nat → World → Prop) (k15 : Nat), Stable I14 → I5 n11 n12 R13 I14 k15 → Br (decide (n12 < (↑k3 : Int))) ((0 ≤ n12 ∧ n12 < (↑k3
  : Int)) ∧ ptrK none p2 fun (k16 k17 : Nat) => ∀ (w18 : World) (R19 : List Own), Ctx W w18 (R13 ++ R19) I14 → ∃ (n20 : Int), ∃ (n21 : Int), ∃ (n22 : Int), RowAt w18 k16 (k17 + n12.toNat * 3)
  [Value.int IntKind.i64 n20, Value.int IntKind.i64 n21, Value.int IntKind.i64 n22] ∧ ∀ (b : Nat), Br (decide (n20 = no)) (∃ (R23 : List Own), ∃ (Φ24 : PW), Stable Φ24 ∧ (∀ (w25 : World) (R26
  : List Own), Ctx W w25 (R13 ++ R26) I14 → Ctx W w25 (R23 ++ R26) Φ24) ∧ ∃ (p27 : Option Addr), ∃ (k28 : Nat), ∃ (k29 : Nat), (∀ (w30 : World) (R31 : List Own), Ctx W w30 (R23 ++ R31) Φ24 →
  ∃ (p32 : Option Addr), ∃ (k33 : Nat), ∃ (k34 : Nat), w30.cell? (Addr.mk lB lO none) = some (Value.slice p32 k33 k34) ∧ Value.slice p32 k33 k34 = Value.slice p27 k28 k29) ∧ (0 ≤ n11 ∧ n11 ≤
  n22 ∧ n22 ≤ (↑k29 : Int)) ∧ ∀ (w35 : World) (R36 : List Own), Ctx W w35 (R13 ++ R36) I14 → Calls Tryz.prog F.ledger_cloned #[Value.slice (subPtr p27 7 n11.toNat k29) (n22.toNat - n11.toNat)
  (k29 - n11.toNat)] w35 fun (e37 : Ending) (w38 : World) => ∃ (p39 : Option Addr), ∃ (k40 : Nat), ∃ (k41 : Nat), e37 = Ending.returned (Value.slice p39 k40 k41) ∧ ∃ (R42 : List Own), ∃ (Φ43
  : PW), Stable Φ43 ∧ Ctx W w38 (R42 ++ R36) Φ43 ∧ (∀ (w44 : World) (R45 : List Own), Ctx W w44 (R42 ++ R45) Φ43 → Ctx W w44 (R23 ++ R45) Φ24) ∧ ∀ (w46 : World) (R47 : List Own), Ctx W w46
  (R42 ++ R47) Φ43 → J (Value.tuple #[Value.slice p39 k40 k41, Value.int IntKind.i64 n21, Value.bool true]) w46) (I64 (n12 + 1) ∧ ∃ (R48 : List Own), ∃ (Φ49 : PW), ∃ (k50 : Nat), Stable Φ49 ∧
  (∀ (w51 : World) (R52 : List Own), Ctx W w51 (R13 ++ R52) I14 → Ctx W w51 (R48 ++ R52) Φ49) ∧ I5 n22 (n12 + 1) R48 Φ49 k50 ∧ k50 < k15)) (∀ (w53 : World) (R54 : List Own), Ctx W w53 (R13 ++
  R54) I14 → J (Value.tuple #[Value.slice none 0 0, Value.int IntKind.i64 0, Value.bool false]) w53)

theorem Bledger_Ledger_Batch_run (lB lO : Nat) (no : Int) {W w : World} {R : List Own} {Φ : PW} [Stable Φ] {J : Value → World → Prop} (c : Ctx W w R Φ) (h : Bledger_Ledger_Batch lB lO no W R Φ J) : Calls Tryz.prog F.ledger_Ledger_Batch #[.pointer (some ⟨lB, lO, none⟩), .int .i64 no] w fun e w' => ∃ v, e = .returned v ∧ J v w' :=
  vcFS_sound (H := { keep := some [0, 1, 4, 5, 6, 7, 9, 13, 14, 15, 16, 22], track := [9], stages := [(6, [.held [(0, true), (4, true), (5, true), (9, true), (1, true), (6, true), (10, true), (2, true), (3, true), (7, true), (8, false), (11, true), (12, true), (13, true)]])], loops := [(3, [(7, .one (.int .i64)), (15, .one (.int .i64))], [])] }) (by rw [show vcFS Tryz.prog W { keep := some [0, 1, 4, 5, 6, 7, 9, 13, 14, 15, 16, 22], track := [9], stages := [(6, [.held [(0, true), (4, true), (5, true), (9, true), (1, true), (6, true), (10, true), (2, true), (3, true), (7, true), (8, false), (11, true), (12, true), (13, true)]])], loops := [(3, [(7, .one (.int .i64)), (15, .one (.int .i64))], [])] } F.ledger_Ledger_Batch #[.pointer (some ⟨lB, lO, none⟩), .int .i64 no] R Φ J = Bledger_Ledger_Batch lB lO no W R Φ J by kernel_rfl]; exact h) c

def Bledger_Ledger_Count (lB lO : Nat) (time : Int) (rowP : Option Addr) (rowN rowC : Nat) (W : World) (R : List Own) (Φ : PW) (J : Value → World → Prop) : Prop :=
  ∃ (R0 : List Own), ∃ (Φ1 : PW), Stable Φ1 ∧ (∀ (w2 : World) (R3 : List Own), Ctx W w2 (R ++ R3) Φ → Ctx W w2 (R0 ++ R3) Φ1) ∧ ∃ (p4 : Option Nat), (∀ (w5 : World) (R6 : List Own), Ctx W w5
  (R0 ++ R6) Φ1 → ∃ (p7 : Option Nat), w5.cell? (Addr.mk lB (lO + 2) none) = some (Value.map p7) ∧ Value.map p7 = Value.map p4) ∧ ∀ (w8 : World) (R9 : List Own), Ctx W w8 (R ++ R9) Φ → Calls
  Tryz.prog F.value_RowBytes #[Value.slice rowP rowN rowC] w8 fun (e10 : Ending) (w11 : World) => ∃ (s12 : ByteArray), e10 = Ending.returned (Value.string s12) ∧ ∃ (R13 : List Own), ∃ (Φ14 :
  PW), Stable Φ14 ∧ Ctx W w11 (R13 ++ R9) Φ14 ∧ (∀ (w15 : World) (R16 : List Own), Ctx W w15 (R13 ++ R16) Φ14 → Ctx W w15 (R0 ++ R16) Φ1) ∧ ∃ (n17 : Int), (∀ (w18 : World) (R19 : List Own),
  Ctx W w18 (R0 ++ R19) Φ1 → ∃ (n20 : Int), (∀ (w21 : World), w21.heap = w18.heap → Sem.run Tryz.prog (Instr.lookup 75 (Value.map p4) (Value.agg #[Value.int IntKind.i64 time, Value.string
  s12]) false) w21 = Result.ok (Value.int IntKind.i64 n20) w21) ∧ Value.int IntKind.i64 n20 = Value.int IntKind.i64 n17) ∧ ∀ (w22 : World) (R23 : List Own), Ctx W w22 (R13 ++ R23) Φ14 → J
  (Value.int IntKind.i64 n17) w22

theorem Bledger_Ledger_Count_run (lB lO : Nat) (time : Int) (rowP : Option Addr) (rowN rowC : Nat) {W w : World} {R : List Own} {Φ : PW} [Stable Φ] {J : Value → World → Prop} (c : Ctx W w R Φ) (h : Bledger_Ledger_Count lB lO time rowP rowN rowC W R Φ J) : Calls Tryz.prog F.ledger_Ledger_Count #[.pointer (some ⟨lB, lO, none⟩), .int .i64 time, .slice rowP rowN rowC] w fun e w' => ∃ v, e = .returned v ∧ J v w' :=
  vcFS_sound (H := { keep := some [0, 1, 2, 6], stages := [(1, [.held [(0, true), (4, true), (5, true), (1, true), (2, true), (3, true), (6, false), (7, true), (8, true), (9, true)]])] }) (by rw [show vcFS Tryz.prog W { keep := some [0, 1, 2, 6], stages := [(1, [.held [(0, true), (4, true), (5, true), (1, true), (2, true), (3, true), (6, false), (7, true), (8, true), (9, true)]])] } F.ledger_Ledger_Count #[.pointer (some ⟨lB, lO, none⟩), .int .i64 time, .slice rowP rowN rowC] R Φ J = Bledger_Ledger_Count lB lO time rowP rowN rowC W R Φ J by kernel_rfl]; exact h) c

-- loop at region 3: 7 out, 15 ; blocks 
-- known blocks: 9 x
def Bledger_Ledger_History (lB lO : Nat) (time : Int) (rowP : Option Addr) (rowN rowC : Nat) (W : World) (R : List Own) (Φ : PW) (J : Value → World → Prop) : Prop :=
  ∀ (w0 : World) (R1 : List Own), Ctx W w0 (R ++ R1) Φ → ∃ (p2 : Option Addr), ∃ (k3 : Nat), ∃ (k4 : Nat), w0.cell? (Addr.mk lB lO none) = some (Value.slice p2 k3 k4) ∧ exI fun (I5 : Option
  Addr → Nat → Nat → Int → List Own → PW → Nat → Prop) => (∃ (R6 : List Own), ∃ (Φ7 : PW), ∃ (k8 : Nat), Stable Φ7 ∧ (∀ (w9 : World) (R10 : List Own), Ctx W w9 (R ++ R10) Φ → Ctx W w9 (R6 ++
  R10) Φ7) ∧ I5 none 0 0 0 R6 Φ7 k8) ∧ ∀ (p11 : Option Addr) (k12 k13 : Nat) (n14 : Int) (R15 : List Own) (I16 : List Nat → World → Prop) (k17 : Nat), Stable I16 → I5 p11 k12 k13 n14 R15 I16
  k17 → Br (decide (n14 < (↑k3 : Int))) ((0 ≤ n14 ∧ n14 < (↑k3 : Int)) ∧ ptrK none p2 fun (k18 k19 : Nat) => ∀ (w20 : World) (R21 : List Own), Ctx W w20 (R15 ++ R21) I16 → ∃ (n22 : Int), ∃
  (n23 : Int), ∃ (n24 : Int), ∃ (p25 : Option Addr), ∃ (k26 : Nat), ∃ (k27 : Nat), ∃ (n28 : Int), ∃ (n29 : Int), ∃ (n30 : Int), RowAt w20 k18 (k19 + n14.toNat * 7) [Value.int IntKind.i64 n22,
  Value.int IntKind.i64 n23, Value.int IntKind.i64 n24, Value.slice p25 k26 k27, Value.int IntKind.i64 n28, Value.int IntKind.i64 n29, Value.int IntKind.i64 n30] ∧ ∀ (b : Nat), Br (decide
  (n24 = time)) (∀ (w31 : World) (R32 : List Own), Ctx W w31 (R15 ++ R32) I16 → Calls Tryz.prog F.value_SameRows #[Value.slice p25 k26 k27, Value.slice rowP rowN rowC] w31 fun (e33 : Ending)
  (w34 : World) => ∃ (c35 : Bool), e33 = Ending.returned (Value.bool c35) ∧ ∃ (R36 : List Own), ∃ (Φ37 : PW), Stable Φ37 ∧ Ctx W w34 (R36 ++ R32) Φ37 ∧ Br c35 (∀ (k38 : Nat) (w39 : World)
  (R40 : List Own), Ctx W w39 (Own.blk k38 [Value.int IntKind.i64 n22, Value.int IntKind.i64 n23, Value.int IntKind.i64 n24, Value.slice p25 k26 k27, Value.int IntKind.i64 n28, Value.int
  IntKind.i64 n29, Value.int IntKind.i64 n30] 51 :: R36 ++ R40) Φ37 → ∃ (p41 : Option Addr), ∃ (k42 : Nat), ∃ (k43 : Nat), ∃ (w44 : World), Sem.run Tryz.prog (builtin Builtin.append #[31, 31]
  31 #[false, false] #[Value.slice p11 k12 k13, Value.slice (some (Addr.mk k38 0 none)) 1 1]) w39 = Result.ok (Next.value (Value.slice p41 k42 k43)) w44 ∧ ∃ (R45 : List Own), ∃ (Φ46 : PW),
  Stable Φ46 ∧ Ctx W w44 (R45 ++ R40) Φ46 ∧ I64 (n14 + 1) ∧ ∃ (R47 : List Own), ∃ (Φ48 : PW), ∃ (k49 : Nat), Stable Φ48 ∧ (∀ (w50 : World) (R51 : List Own), Ctx W w50 (R45 ++ R51) Φ46 → Ctx W
  w50 (R47 ++ R51) Φ48) ∧ I5 p41 k42 k43 (n14 + 1) R47 Φ48 k49 ∧ k49 < k17) (I64 (n14 + 1) ∧ ∃ (R52 : List Own), ∃ (Φ53 : PW), ∃ (k54 : Nat), Stable Φ53 ∧ (∀ (w55 : World) (R56 : List Own),
  Ctx W w55 (R36 ++ R56) Φ37 → Ctx W w55 (R52 ++ R56) Φ53) ∧ I5 p11 k12 k13 (n14 + 1) R52 Φ53 k54 ∧ k54 < k17)) (I64 (n14 + 1) ∧ ∃ (R57 : List Own), ∃ (Φ58 : PW), ∃ (k59 : Nat), Stable Φ58 ∧
  (∀ (w60 : World) (R61 : List Own), Ctx W w60 (R15 ++ R61) I16 → Ctx W w60 (R57 ++ R61) Φ58) ∧ I5 p11 k12 k13 (n14 + 1) R57 Φ58 k59 ∧ k59 < k17)) (∀ (w62 : World) (R63 : List Own), Ctx W w62
  (R15 ++ R63) I16 → Calls Tryz.prog F.ledger_cloned #[Value.slice p11 k12 k13] w62 fun (e64 : Ending) (w65 : World) => ∃ (p66 : Option Addr), ∃ (k67 : Nat), ∃ (k68 : Nat), e64 =
  Ending.returned (Value.slice p66 k67 k68) ∧ ∃ (R69 : List Own), ∃ (Φ70 : PW), Stable Φ70 ∧ Ctx W w65 (R69 ++ R63) Φ70 ∧ ∀ (w71 : World) (R72 : List Own), Ctx W w71 (R69 ++ R72) Φ70 → J
  (Value.slice p66 k67 k68) w71)

theorem Bledger_Ledger_History_run (lB lO : Nat) (time : Int) (rowP : Option Addr) (rowN rowC : Nat) {W w : World} {R : List Own} {Φ : PW} [Stable Φ] {J : Value → World → Prop} (c : Ctx W w R Φ) (h : Bledger_Ledger_History lB lO time rowP rowN rowC W R Φ J) : Calls Tryz.prog F.ledger_Ledger_History #[.pointer (some ⟨lB, lO, none⟩), .int .i64 time, .slice rowP rowN rowC] w fun e w' => ∃ v, e = .returned v ∧ J v w' :=
  vcFS_sound (H := { keep := some [0, 1, 2, 6, 7, 9, 13, 14, 15, 16, 28], track := [9], split := [5], loops := [(3, [(7, .one (.slice)), (15, .one (.int .i64))], [])] }) (by rw [show vcFS Tryz.prog W { keep := some [0, 1, 2, 6, 7, 9, 13, 14, 15, 16, 28], track := [9], split := [5], loops := [(3, [(7, .one (.slice)), (15, .one (.int .i64))], [])] } F.ledger_Ledger_History #[.pointer (some ⟨lB, lO, none⟩), .int .i64 time, .slice rowP rowN rowC] R Φ J = Bledger_Ledger_History lB lO time rowP rowN rowC W R Φ J by kernel_rfl]; exact h) c

-- loop at region 4: 7 out, 9 i; blocks 
def Berrataref41_Ledger_History (lB lO : Nat) (time : Int) (rowP : Option Addr) (rowN rowC : Nat) (W : World) (R : List Own) (Φ : PW) (J : Value → World → Prop) : Prop :=
  ∀ (w0 : World) (R1 : List Own), Ctx W w0 (R ++ R1) Φ → Calls Tryz.prog F.errataref41_Ledger_Lines #[Value.pointer (some (Addr.mk lB lO none))] w0 fun (e2 : Ending) (w3 : World) => ∃ (p4 :
  Option Addr), ∃ (k5 : Nat), ∃ (k6 : Nat), e2 = Ending.returned (Value.slice p4 k5 k6) ∧ ∃ (R7 : List Own), ∃ (Φ8 : PW), Stable Φ8 ∧ Ctx W w3 (R7 ++ R1) Φ8 ∧ exI fun (I9 : Option Addr → Nat
  → Nat → Int → List Own → PW → Nat → Prop) => (∃ (R10 : List Own), ∃ (Φ11 : PW), ∃ (k12 : Nat), Stable Φ11 ∧ (∀ (w13 : World) (R14 : List Own), Ctx W w13 (R7 ++ R14) Φ8 → Ctx W w13 (R10 ++
  R14) Φ11) ∧ I9 none 0 0 0 R10 Φ11 k12) ∧ ∀ (p15 : Option Addr) (k16 k17 : Nat) (n18 : Int) (R19 : List Own) (I20 : List Nat → World → Prop) (k21 : Nat), Stable I20 → I9 p15 k16 k17 n18 R19
  I20 k21 → Br (decide (n18 < (↑k5 : Int))) ((0 ≤ n18 ∧ n18 < (↑k5 : Int)) ∧ ptrK none p4 fun (k22 k23 : Nat) => ∀ (w24 : World) (R25 : List Own), Ctx W w24 (R19 ++ R25) I20 → ∃ (n26 : Int),
  w24.cell? (Addr.mk k22 (k23 + n18.toNat * 7 + 2) none) = some (Value.int IntKind.i64 n26) ∧ Br (decide (n26 = time)) ((0 ≤ n18 ∧ n18 < (↑k5 : Int)) ∧ ptrK none p4 fun (k27 k28 : Nat) => ∀
  (w29 : World) (R30 : List Own), Ctx W w29 (R19 ++ R30) I20 → ∃ (p31 : Option Addr), ∃ (k32 : Nat), ∃ (k33 : Nat), w29.cell? (Addr.mk k27 (k28 + n18.toNat * 7 + 3) none) = some (Value.slice
  p31 k32 k33) ∧ ∀ (w34 : World) (R35 : List Own), Ctx W w34 (R19 ++ R35) I20 → Calls Tryz.prog F.errataref03_Same #[Value.slice p31 k32 k33, Value.slice rowP rowN rowC] w34 fun (e36 :
  Ending) (w37 : World) => ∃ (c38 : Bool), e36 = Ending.returned (Value.bool c38) ∧ ∃ (R39 : List Own), ∃ (Φ40 : PW), Stable Φ40 ∧ Ctx W w37 (R39 ++ R35) Φ40 ∧ Br c38 ((0 ≤ n18 ∧ n18 < (↑k5 :
  Int)) ∧ ptrK none p4 fun (k41 k42 : Nat) => ∀ (w43 : World) (R44 : List Own), Ctx W w43 (R39 ++ R44) Φ40 → ∃ (n45 : Int), ∃ (n46 : Int), ∃ (n47 : Int), ∃ (p48 : Option Addr), ∃ (k49 : Nat),
  ∃ (k50 : Nat), ∃ (n51 : Int), ∃ (n52 : Int), ∃ (n53 : Int), RowAt w43 k41 (k42 + n18.toNat * 7) [Value.int IntKind.i64 n45, Value.int IntKind.i64 n46, Value.int IntKind.i64 n47, Value.slice
  p48 k49 k50, Value.int IntKind.i64 n51, Value.int IntKind.i64 n52, Value.int IntKind.i64 n53] ∧ ∀ (k54 : Nat) (w55 : World) (R56 : List Own), Ctx W w55 (Own.blk k54 [Value.int IntKind.i64
  n45, Value.int IntKind.i64 n46, Value.int IntKind.i64 n47, Value.slice p48 k49 k50, Value.int IntKind.i64 n51, Value.int IntKind.i64 n52, Value.int IntKind.i64 n53] 51 :: R39 ++ R56) Φ40 →
  ∃ (p57 : Option Addr), ∃ (k58 : Nat), ∃ (k59 : Nat), ∃ (w60 : World), Sem.run Tryz.prog (builtin Builtin.append #[31, 31] 31 #[false, false] #[Value.slice p15 k16 k17, Value.slice (some
  (Addr.mk k54 0 none)) 1 1]) w55 = Result.ok (Next.value (Value.slice p57 k58 k59)) w60 ∧ ∃ (R61 : List Own), ∃ (Φ62 : PW), Stable Φ62 ∧ Ctx W w60 (R61 ++ R56) Φ62 ∧ I64 (n18 + 1) ∧ ∃ (R63 :
  List Own), ∃ (Φ64 : PW), ∃ (k65 : Nat), Stable Φ64 ∧ (∀ (w66 : World) (R67 : List Own), Ctx W w66 (R61 ++ R67) Φ62 → Ctx W w66 (R63 ++ R67) Φ64) ∧ I9 p57 k58 k59 (n18 + 1) R63 Φ64 k65 ∧ k65
  < k21) (I64 (n18 + 1) ∧ ∃ (R68 : List Own), ∃ (Φ69 : PW), ∃ (k70 : Nat), Stable Φ69 ∧ (∀ (w71 : World) (R72 : List Own), Ctx W w71 (R39 ++ R72) Φ40 → Ctx W w71 (R68 ++ R72) Φ69) ∧ I9 p15
  k16 k17 (n18 + 1) R68 Φ69 k70 ∧ k70 < k21)) (I64 (n18 + 1) ∧ ∃ (R73 : List Own), ∃ (Φ74 : PW), ∃ (k75 : Nat), Stable Φ74 ∧ (∀ (w76 : World) (R77 : List Own), Ctx W w76 (R19 ++ R77) I20 →
  Ctx W w76 (R73 ++ R77) Φ74) ∧ I9 p15 k16 k17 (n18 + 1) R73 Φ74 k75 ∧ k75 < k21)) (∀ (w78 : World) (R79 : List Own), Ctx W w78 (R19 ++ R79) I20 → J (Value.slice p15 k16 k17) w78)

theorem Berrataref41_Ledger_History_run (lB lO : Nat) (time : Int) (rowP : Option Addr) (rowN rowC : Nat) {W w : World} {R : List Own} {Φ : PW} [Stable Φ] {J : Value → World → Prop} (c : Ctx W w R Φ) (h : Berrataref41_Ledger_History lB lO time rowP rowN rowC W R Φ J) : Calls Tryz.prog F.errataref41_Ledger_History #[.pointer (some ⟨lB, lO, none⟩), .int .i64 time, .slice rowP rowN rowC] w fun e w' => ∃ v, e = .returned v ∧ J v w' :=
  vcFS_sound (H := { keep := some [0, 1, 2, 6, 7, 8, 9, 15, 33], split := [6], loops := [(4, [(7, .one (.slice)), (9, .one (.int .i64))], [])] }) (by rw [show vcFS Tryz.prog W { keep := some [0, 1, 2, 6, 7, 8, 9, 15, 33], split := [6], loops := [(4, [(7, .one (.slice)), (9, .one (.int .i64))], [])] } F.errataref41_Ledger_History #[.pointer (some ⟨lB, lO, none⟩), .int .i64 time, .slice rowP rowN rowC] R Φ J = Berrataref41_Ledger_History lB lO time rowP rowN rowC W R Φ J by kernel_rfl]; exact h) c

-- loop at region 2: 5 i; blocks 
def Berrataref41_Short (lP : Option Addr) (lN lC : Nat) (n : Int) (W : World) (R : List Own) (Φ : PW) (J : Value → World → Prop) : Prop :=
  exI fun (I0 : Int → List Own → PW → Nat → Prop) => (∃ (R1 : List Own), ∃ (Φ2 : PW), ∃ (k3 : Nat), Stable Φ2 ∧ (∀ (w4 : World) (R5 : List Own), Ctx W w4 (R ++ R5) Φ → Ctx W w4 (R1 ++ R5) Φ2)
  ∧ I0 0 R1 Φ2 k3) ∧ ∀ (n6 : Int) (R7 : List Own) (I8 : List Nat → World → Prop) (k9 : Nat), Stable I8 → I0 n6 R7 I8 k9 → Br (decide (n6 < (↑lN : Int))) ((0 ≤ n6 ∧ n6 < (↑lN : Int)) ∧ ptrK
  none lP fun (k10 k11 : Nat) => ∀ (w12 : World) (R13 : List Own), Ctx W w12 (R7 ++ R13) I8 → ∃ (p14 : Option Addr), ∃ (k15 : Nat), ∃ (k16 : Nat), w12.cell? (Addr.mk k10 (k11 + n6.toNat * 7 +
  3) none) = some (Value.slice p14 k15 k16) ∧ ∀ (w17 : World) (R18 : List Own), Ctx W w17 (R7 ++ R18) I8 → Calls Tryz.prog F.errataref03_Short #[Value.slice p14 k15 k16, Value.int IntKind.i64
  13] w17 fun (e19 : Ending) (w20 : World) => ∃ (c21 : Bool), e19 = Ending.returned (Value.bool c21) ∧ ∃ (R22 : List Own), ∃ (Φ23 : PW), Stable Φ23 ∧ Ctx W w20 (R22 ++ R18) Φ23 ∧ Br (!c21) (∀
  (w24 : World) (R25 : List Own), Ctx W w24 (R22 ++ R25) Φ23 → J (Value.bool false) w24) (I64 (n6 + 1) ∧ ∃ (R26 : List Own), ∃ (Φ27 : PW), ∃ (k28 : Nat), Stable Φ27 ∧ (∀ (w29 : World) (R30 :
  List Own), Ctx W w29 (R22 ++ R30) Φ23 → Ctx W w29 (R26 ++ R30) Φ27) ∧ I0 (n6 + 1) R26 Φ27 k28 ∧ k28 < k9)) (∀ (w31 : World) (R32 : List Own), Ctx W w31 (R7 ++ R32) I8 → J (Value.bool
  (decide ((↑lN : Int) ≤ n))) w31)

theorem Berrataref41_Short_run (lP : Option Addr) (lN lC : Nat) (n : Int) {W w : World} {R : List Own} {Φ : PW} [Stable Φ] {J : Value → World → Prop} (c : Ctx W w R Φ) (h : Berrataref41_Short lP lN lC n W R Φ J) : Calls Tryz.prog F.errataref41_Short #[.slice lP lN lC, .int .i64 n] w fun e w' => ∃ v, e = .returned v ∧ J v w' :=
  vcFS_sound (H := { keep := some [0, 1, 4, 5, 9, 18], loops := [(2, [(5, .one (.int .i64))], [])] }) (by rw [show vcFS Tryz.prog W { keep := some [0, 1, 4, 5, 9, 18], loops := [(2, [(5, .one (.int .i64))], [])] } F.errataref41_Short #[.slice lP lN lC, .int .i64 n] R Φ J = Berrataref41_Short lP lN lC n W R Φ J by kernel_rfl]; exact h) c

def Berratalaw41_mod (n : Int) (m : Int) (W : World) (R : List Own) (Φ : PW) (J : Value → World → Prop) : Prop :=
  (m = 0 → False) ∧ Br (decide (n.tmod m < 0)) (I64 (n.tmod m + m) ∧ ∀ (w0 : World) (R1 : List Own), Ctx W w0 (R ++ R1) Φ → J (Value.int IntKind.i64 (n.tmod m + m)) w0) (∀ (w2 : World) (R3 :
  List Own), Ctx W w2 (R ++ R3) Φ → J (Value.int IntKind.i64 (n.tmod m)) w2)

theorem Berratalaw41_mod_run (n : Int) (m : Int) {W w : World} {R : List Own} {Φ : PW} [Stable Φ] {J : Value → World → Prop} (c : Ctx W w R Φ) (h : Berratalaw41_mod n m W R Φ J) : Calls Tryz.prog F.erratalaw41_mod #[.int .i64 n, .int .i64 m] w fun e w' => ∃ v, e = .returned v ∧ J v w' :=
  vcFS_sound (H := { keep := some [0, 1, 4, 9] }) (by rw [show vcFS Tryz.prog W { keep := some [0, 1, 4, 9] } F.erratalaw41_mod #[.int .i64 n, .int .i64 m] R Φ J = Berratalaw41_mod n m W R Φ J by kernel_rfl]; exact h) c

-- loop at region 12: 90 ; blocks 
-- loop at region 4: 30 ; blocks 
-- known blocks: 10 x, 12 x
def Bledger_Ledger_check (lB lO : Nat) (no : Int) (mark : Int) (linesP : Option Addr) (linesN linesC : Nat) (W : World) (R : List Own) (Φ : PW) (J : Value → World → Prop) : Prop :=
  ∀ (w0 : World) (R1 : List Own), Ctx W w0 (R ++ R1) Φ → Calls Tryz.prog F.ledger_Ledger_Last #[Value.pointer (some (Addr.mk lB lO none))] w0 fun (e2 : Ending) (w3 : World) => ∃ (n4 : Int),
  e2 = Ending.returned (Value.int IntKind.i64 n4) ∧ ∃ (R5 : List Own), ∃ (Φ6 : PW), Stable Φ6 ∧ Ctx W w3 (R5 ++ R1) Φ6 ∧ Br (decide (no ≤ n4)) (∀ (w7 : World) (R8 : List Own), Ctx W w7 (R5 ++
  R8) Φ6 → J (Value.int IntKind.i64 25) w7) (∀ (w9 : World) (R10 : List Own), Ctx W w9 (R5 ++ R10) Φ6 → Calls Tryz.prog F.ledger_Ledger_Mark #[Value.pointer (some (Addr.mk lB lO none))] w9
  fun (e11 : Ending) (w12 : World) => ∃ (n13 : Int), e11 = Ending.returned (Value.int IntKind.i64 n13) ∧ ∃ (R14 : List Own), ∃ (Φ15 : PW), Stable Φ15 ∧ Ctx W w12 (R14 ++ R10) Φ15 ∧ Br (decide
  (mark < n13)) (∀ (w16 : World) (R17 : List Own), Ctx W w16 (R14 ++ R17) Φ15 → J (Value.int IntKind.i64 25) w16) (Br (decide (1099511627776 < mark)) (∀ (w18 : World) (R19 : List Own), Ctx W
  w18 (R14 ++ R19) Φ15 → J (Value.int IntKind.i64 25) w18) (exI fun (I20 : Int → List Own → PW → Nat → Prop) => (∃ (R21 : List Own), ∃ (Φ22 : PW), ∃ (k23 : Nat), Stable Φ22 ∧ (∀ (w24 : World)
  (R25 : List Own), Ctx W w24 (R14 ++ R25) Φ15 → Ctx W w24 (R21 ++ R25) Φ22) ∧ I20 0 R21 Φ22 k23) ∧ ∀ (n26 : Int) (R27 : List Own) (I28 : List Nat → World → Prop) (k29 : Nat), Stable I28 →
  I20 n26 R27 I28 k29 → Br (decide (n26 < (↑linesN : Int))) ((0 ≤ n26 ∧ n26 < (↑linesN : Int)) ∧ ptrK none linesP fun (k30 k31 : Nat) => ∀ (w32 : World) (R33 : List Own), Ctx W w32 (R27 ++
  R33) I28 → ∃ (n34 : Int), ∃ (n35 : Int), ∃ (n36 : Int), ∃ (p37 : Option Addr), ∃ (k38 : Nat), ∃ (k39 : Nat), ∃ (n40 : Int), ∃ (n41 : Int), ∃ (n42 : Int), RowAt w32 k30 (k31 + n26.toNat * 7)
  [Value.int IntKind.i64 n34, Value.int IntKind.i64 n35, Value.int IntKind.i64 n36, Value.slice p37 k38 k39, Value.int IntKind.i64 n40, Value.int IntKind.i64 n41, Value.int IntKind.i64 n42] ∧
  ∀ (b : Nat), ∃ (R43 : List Own), ∃ (Φ44 : PW), Stable Φ44 ∧ (∀ (w45 : World) (R46 : List Own), Ctx W w45 (R27 ++ R46) I28 → Ctx W w45 (R43 ++ R46) Φ44) ∧ ∀ (w47 : World) (R48 : List Own),
  Ctx W w47 (R27 ++ R48) I28 → Calls Tryz.prog F.ledger_Ledger_Next #[Value.pointer (some (Addr.mk lB lO none))] w47 fun (e49 : Ending) (w50 : World) => ∃ (n51 : Int), e49 = Ending.returned
  (Value.int IntKind.i64 n51) ∧ ∃ (R52 : List Own), ∃ (Φ53 : PW), Stable Φ53 ∧ Ctx W w50 (R52 ++ R48) Φ53 ∧ (∀ (w54 : World) (R55 : List Own), Ctx W w54 (R52 ++ R55) Φ53 → Ctx W w54 (R43 ++
  R55) Φ44) ∧ I64 (n51 + n26) ∧ Br (decide (n34 ≠ n51 + n26)) (∃ (R56 : List Own), ∃ (Φ57 : PW), Stable Φ57 ∧ (∀ (w58 : World) (R59 : List Own), Ctx W w58 (R52 ++ R59) Φ53 → Ctx W w58 (R56 ++
  R59) Φ57) ∧ ∀ (w60 : World) (R61 : List Own), Ctx W w60 (R52 ++ R61) Φ53 → J (Value.int IntKind.i64 1) w60) (Br (decide (n35 ≠ no)) (∃ (R62 : List Own), ∃ (Φ63 : PW), Stable Φ63 ∧ (∀ (w64 :
  World) (R65 : List Own), Ctx W w64 (R52 ++ R65) Φ53 → Ctx W w64 (R62 ++ R65) Φ63) ∧ ∀ (w66 : World) (R67 : List Own), Ctx W w66 (R52 ++ R67) Φ53 → J (Value.int IntKind.i64 1) w66) (Br
  (decide (n36 < 0)) (∃ (R68 : List Own), ∃ (Φ69 : PW), Stable Φ69 ∧ (∀ (w70 : World) (R71 : List Own), Ctx W w70 (R52 ++ R71) Φ53 → Ctx W w70 (R68 ++ R71) Φ69) ∧ ∀ (w72 : World) (R73 : List
  Own), Ctx W w72 (R52 ++ R73) Φ53 → J (Value.int IntKind.i64 1) w72) (Br (decide (mark < n36)) (∃ (R74 : List Own), ∃ (Φ75 : PW), Stable Φ75 ∧ (∀ (w76 : World) (R77 : List Own), Ctx W w76
  (R52 ++ R77) Φ53 → Ctx W w76 (R74 ++ R77) Φ75) ∧ ∀ (w78 : World) (R79 : List Own), Ctx W w78 (R52 ++ R79) Φ53 → J (Value.int IntKind.i64 1) w78) (Br (decide (n40 = 0)) (∃ (R80 : List Own),
  ∃ (Φ81 : PW), Stable Φ81 ∧ (∀ (w82 : World) (R83 : List Own), Ctx W w82 (R52 ++ R83) Φ53 → Ctx W w82 (R80 ++ R83) Φ81) ∧ ∀ (w84 : World) (R85 : List Own), Ctx W w84 (R52 ++ R85) Φ53 → J
  (Value.int IntKind.i64 1) w84) (∀ (w86 : World) (R87 : List Own), Ctx W w86 (R52 ++ R87) Φ53 → Calls Tryz.prog F.ledger_Ledger_Mark #[Value.pointer (some (Addr.mk lB lO none))] w86 fun (e88
  : Ending) (w89 : World) => ∃ (n90 : Int), e88 = Ending.returned (Value.int IntKind.i64 n90) ∧ ∃ (R91 : List Own), ∃ (Φ92 : PW), Stable Φ92 ∧ Ctx W w89 (R91 ++ R87) Φ92 ∧ (∀ (w93 : World)
  (R94 : List Own), Ctx W w93 (R91 ++ R94) Φ92 → Ctx W w93 (R43 ++ R94) Φ44) ∧ ∀ (w95 : World) (R96 : List Own), Ctx W w95 (R91 ++ R96) Φ92 → Calls Tryz.prog F.ledger_caused #[Value.agg
  #[Value.int IntKind.i64 n34, Value.int IntKind.i64 n35, Value.int IntKind.i64 n36, Value.slice p37 k38 k39, Value.int IntKind.i64 n40, Value.int IntKind.i64 n41, Value.int IntKind.i64 n42],
  Value.int IntKind.i64 n90] w95 fun (e97 : Ending) (w98 : World) => ∃ (c99 : Bool), e97 = Ending.returned (Value.bool c99) ∧ ∃ (R100 : List Own), ∃ (Φ101 : PW), Stable Φ101 ∧ Ctx W w98 (R100
  ++ R96) Φ101 ∧ ∃ (R102 : List Own), ∃ (Φ103 : PW), Stable Φ103 ∧ (∀ (w104 : World) (R105 : List Own), Ctx W w104 (R100 ++ R105) Φ101 → Ctx W w104 (R102 ++ R105) Φ103) ∧ Br (!c99) (∀ (w106 :
  World) (R107 : List Own), Ctx W w106 (R100 ++ R107) Φ101 → J (Value.int IntKind.i64 1) w106) (Br (decide (0 < n26)) (I64 (n26 - 1) ∧ (0 ≤ n26 - 1 ∧ n26 - 1 < (↑linesN : Int)) ∧ ptrK none
  linesP fun (k108 k109 : Nat) => ∃ (n110 : Int), ∃ (n111 : Int), ∃ (n112 : Int), ∃ (p113 : Option Addr), ∃ (k114 : Nat), ∃ (k115 : Nat), ∃ (n116 : Int), ∃ (n117 : Int), ∃ (n118 : Int), (∀
  (w119 : World) (R120 : List Own), Ctx W w119 (R102 ++ R120) Φ103 → ∃ (n121 : Int), ∃ (n122 : Int), ∃ (n123 : Int), ∃ (p124 : Option Addr), ∃ (k125 : Nat), ∃ (k126 : Nat), ∃ (n127 : Int), ∃
  (n128 : Int), ∃ (n129 : Int), RowAt w119 k108 (k109 + (n26 - 1).toNat * 7) [Value.int IntKind.i64 n121, Value.int IntKind.i64 n122, Value.int IntKind.i64 n123, Value.slice p124 k125 k126,
  Value.int IntKind.i64 n127, Value.int IntKind.i64 n128, Value.int IntKind.i64 n129] ∧ Value.agg #[Value.int IntKind.i64 n121, Value.int IntKind.i64 n122, Value.int IntKind.i64 n123,
  Value.slice p124 k125 k126, Value.int IntKind.i64 n127, Value.int IntKind.i64 n128, Value.int IntKind.i64 n129] = Value.agg #[Value.int IntKind.i64 n110, Value.int IntKind.i64 n111,
  Value.int IntKind.i64 n112, Value.slice p113 k114 k115, Value.int IntKind.i64 n116, Value.int IntKind.i64 n117, Value.int IntKind.i64 n118]) ∧ ∀ (w130 : World) (R131 : List Own), Ctx W w130
  (R100 ++ R131) Φ101 → Calls Tryz.prog F.ledger_ascends #[Value.agg #[Value.int IntKind.i64 n110, Value.int IntKind.i64 n111, Value.int IntKind.i64 n112, Value.slice p113 k114 k115,
  Value.int IntKind.i64 n116, Value.int IntKind.i64 n117, Value.int IntKind.i64 n118], Value.agg #[Value.int IntKind.i64 n34, Value.int IntKind.i64 n35, Value.int IntKind.i64 n36, Value.slice
  p37 k38 k39, Value.int IntKind.i64 n40, Value.int IntKind.i64 n41, Value.int IntKind.i64 n42]] w130 fun (e132 : Ending) (w133 : World) => ∃ (c134 : Bool), e132 = Ending.returned (Value.bool
  c134) ∧ ∃ (R135 : List Own), ∃ (Φ136 : PW), Stable Φ136 ∧ Ctx W w133 (R135 ++ R131) Φ136 ∧ Br (!c134) (∀ (w137 : World) (R138 : List Own), Ctx W w137 (R135 ++ R138) Φ136 → J (Value.int
  IntKind.i64 1) w137) (I64 (n26 + 1) ∧ ∃ (R139 : List Own), ∃ (Φ140 : PW), ∃ (k141 : Nat), Stable Φ140 ∧ (∀ (w142 : World) (R143 : List Own), Ctx W w142 (R135 ++ R143) Φ136 → Ctx W w142
  (R139 ++ R143) Φ140) ∧ I20 (n26 + 1) R139 Φ140 k141 ∧ k141 < k29)) (I64 (n26 + 1) ∧ ∃ (R144 : List Own), ∃ (Φ145 : PW), ∃ (k146 : Nat), Stable Φ145 ∧ (∀ (w147 : World) (R148 : List Own),
  Ctx W w147 (R100 ++ R148) Φ101 → Ctx W w147 (R144 ++ R148) Φ145) ∧ I20 (n26 + 1) R144 Φ145 k146 ∧ k146 < k29)))))))) (∀ (w149 : World) (R150 : List Own), Ctx W w149 (R27 ++ R150) I28 →
  Calls Tryz.prog F.slices_ContainsFunc_api_Line_api_Line #[Value.slice linesP linesN linesC, Value.func (Fn.func 77) #[] #[]] w149 fun (e151 : Ending) (w152 : World) => ∃ (c153 : Bool), e151
  = Ending.returned (Value.bool c153) ∧ ∃ (R154 : List Own), ∃ (Φ155 : PW), Stable Φ155 ∧ Ctx W w152 (R154 ++ R150) Φ155 ∧ Br c153 (∀ (w156 : World) (R157 : List Own), Ctx W w156 (R154 ++
  R157) Φ155 → J (Value.int IntKind.i64 16) w156) (exI fun (I158 : Int → List Own → PW → Nat → Prop) => (∃ (R159 : List Own), ∃ (Φ160 : PW), ∃ (k161 : Nat), Stable Φ160 ∧ (∀ (w162 : World)
  (R163 : List Own), Ctx W w162 (R154 ++ R163) Φ155 → Ctx W w162 (R159 ++ R163) Φ160) ∧ I158 0 R159 Φ160 k161) ∧ ∀ (n164 : Int) (R165 : List Own) (I166 : List Nat → World → Prop) (k167 :
  Nat), Stable I166 → I158 n164 R165 I166 k167 → Br (decide (n164 < (↑linesN : Int))) ((0 ≤ n164 ∧ n164 < (↑linesN : Int)) ∧ ptrK none linesP fun (k168 k169 : Nat) => ∀ (w170 : World) (R171 :
  List Own), Ctx W w170 (R165 ++ R171) I166 → ∃ (n172 : Int), ∃ (n173 : Int), ∃ (n174 : Int), ∃ (p175 : Option Addr), ∃ (k176 : Nat), ∃ (k177 : Nat), ∃ (n178 : Int), ∃ (n179 : Int), ∃ (n180 :
  Int), RowAt w170 k168 (k169 + n164.toNat * 7) [Value.int IntKind.i64 n172, Value.int IntKind.i64 n173, Value.int IntKind.i64 n174, Value.slice p175 k176 k177, Value.int IntKind.i64 n178,
  Value.int IntKind.i64 n179, Value.int IntKind.i64 n180] ∧ ∀ (b : Nat), ∃ (R181 : List Own), ∃ (Φ182 : PW), Stable Φ182 ∧ (∀ (w183 : World) (R184 : List Own), Ctx W w183 (R165 ++ R184) I166
  → Ctx W w183 (R181 ++ R184) Φ182) ∧ ∃ (p185 : Option Nat), (∀ (w186 : World) (R187 : List Own), Ctx W w186 (R181 ++ R187) Φ182 → ∃ (p188 : Option Nat), w186.cell? (Addr.mk lB (lO + 2) none)
  = some (Value.map p188) ∧ Value.map p188 = Value.map p185) ∧ ∀ (w189 : World) (R190 : List Own), Ctx W w189 (R165 ++ R190) I166 → Calls Tryz.prog F.ledger_at #[Value.agg #[Value.int
  IntKind.i64 n172, Value.int IntKind.i64 n173, Value.int IntKind.i64 n174, Value.slice p175 k176 k177, Value.int IntKind.i64 n178, Value.int IntKind.i64 n179, Value.int IntKind.i64 n180]]
  w189 fun (e191 : Ending) (w192 : World) => ∃ (n193 : Int), ∃ (s194 : ByteArray), e191 = Ending.returned (Value.agg #[Value.int IntKind.i64 n193, Value.string s194]) ∧ ∃ (R195 : List Own), ∃
  (Φ196 : PW), Stable Φ196 ∧ Ctx W w192 (R195 ++ R190) Φ196 ∧ (∀ (w197 : World) (R198 : List Own), Ctx W w197 (R195 ++ R198) Φ196 → Ctx W w197 (R181 ++ R198) Φ182) ∧ ∀ (w199 : World) (R200 :
  List Own), Ctx W w199 (R195 ++ R200) Φ196 → ∃ (n201 : Int), (∀ (w202 : World), w202.heap = w199.heap → Sem.run Tryz.prog (Instr.lookup 75 (Value.map p185) (Value.agg #[Value.int IntKind.i64
  n193, Value.string s194]) false) w202 = Result.ok (Value.int IntKind.i64 n201) w202) ∧ ∀ (w203 : World) (R204 : List Own), Ctx W w203 (R195 ++ R204) Φ196 → I64 (0 - n201) ∧ ((!decide (n178
  < 0 - n201)) = true → I64 (1152921504606846976 - n201)) ∧ Br (decide (n178 < 0 - n201) || decide (1152921504606846976 - n201 < n178)) (∀ (w205 : World) (R206 : List Own), Ctx W w205 (R195
  ++ R206) Φ196 → J (Value.int IntKind.i64 7) w205) (I64 (n164 + 1) ∧ ∃ (R207 : List Own), ∃ (Φ208 : PW), ∃ (k209 : Nat), Stable Φ208 ∧ (∀ (w210 : World) (R211 : List Own), Ctx W w210 (R195
  ++ R211) Φ196 → Ctx W w210 (R207 ++ R211) Φ208) ∧ I158 (n164 + 1) R207 Φ208 k209 ∧ k209 < k167)) (∀ (w212 : World) (R213 : List Own), Ctx W w212 (R165 ++ R213) I166 → J (Value.int
  IntKind.i64 0) w212))))))

theorem Bledger_Ledger_check_run (lB lO : Nat) (no : Int) (mark : Int) (linesP : Option Addr) (linesN linesC : Nat) {W w : World} {R : List Own} {Φ : PW} [Stable Φ] {J : Value → World → Prop} (c : Ctx W w R Φ) (h : Bledger_Ledger_check lB lO no mark linesP linesN linesC W R Φ J) : Calls Tryz.prog F.ledger_Ledger_check #[.pointer (some ⟨lB, lO, none⟩), .int .i64 no, .int .i64 mark, .slice linesP linesN linesC] w fun e w' => ∃ v, e = .returned v ∧ J v w' :=
  vcFS_sound (H := { keep := some [0, 1, 2, 3, 8, 9, 10, 12, 13, 27, 28, 29, 30, 31, 84, 87, 88, 89, 90, 91, 112], track := [10, 12], stages := [(6, [.held [(0, true), (2, true), (4, true), (1, true), (3, false), (5, true), (6, true), (7, true), (8, true), (10, true), (9, true), (11, true), (12, true), (13, true), (14, true), (15, true), (16, true), (17, true), (18, true), (19, true), (21, true), (20, true), (22, true), (23, true), (24, true), (25, true), (26, true), (27, true), (28, true), (29, true), (30, true), (31, true), (32, false)], .stage [] (some 33), .held [(34, true), (35, true), (36, true), (37, true), (38, true), (39, true), (40, true), (41, true), (45, true), (42, true), (43, true), (44, true)], .stage [] (some 46), .stage [47, 48, 49] none]), (14, [.held [(0, true), (4, true), (1, true), (2, true), (3, true), (5, false)], .stage [6, 7] none])], split := [1], loops := [(12, [(90, .one (.int .i64))], []), (4, [(30, .one (.int .i64))], [])] }) (by rw [show vcFS Tryz.prog W { keep := some [0, 1, 2, 3, 8, 9, 10, 12, 13, 27, 28, 29, 30, 31, 84, 87, 88, 89, 90, 91, 112], track := [10, 12], stages := [(6, [.held [(0, true), (2, true), (4, true), (1, true), (3, false), (5, true), (6, true), (7, true), (8, true), (10, true), (9, true), (11, true), (12, true), (13, true), (14, true), (15, true), (16, true), (17, true), (18, true), (19, true), (21, true), (20, true), (22, true), (23, true), (24, true), (25, true), (26, true), (27, true), (28, true), (29, true), (30, true), (31, true), (32, false)], .stage [] (some 33), .held [(34, true), (35, true), (36, true), (37, true), (38, true), (39, true), (40, true), (41, true), (45, true), (42, true), (43, true), (44, true)], .stage [] (some 46), .stage [47, 48, 49] none]), (14, [.held [(0, true), (4, true), (1, true), (2, true), (3, true), (5, false)], .stage [6, 7] none])], split := [1], loops := [(12, [(90, .one (.int .i64))], []), (4, [(30, .one (.int .i64))], [])] } F.ledger_Ledger_check #[.pointer (some ⟨lB, lO, none⟩), .int .i64 no, .int .i64 mark, .slice linesP linesN linesC] R Φ J = Bledger_Ledger_check lB lO no mark linesP linesN linesC W R Φ J by kernel_rfl]; exact h) c

-- known blocks: 1 x, 2 
def Bledger_at (x0 : Int) (x1 : Int) (x2 : Int) (x3P : Option Addr) (x3N x3C : Nat) (x4 : Int) (x5 : Int) (x6 : Int) (W : World) (R : List Own) (Φ : PW) (J : Value → World → Prop) : Prop :=
  ∀ (b b : Nat), ∃ (R0 : List Own), ∃ (Φ1 : PW), Stable Φ1 ∧ (∀ (w2 : World) (R3 : List Own), Ctx W w2 (R ++ R3) Φ → Ctx W w2 (R0 ++ R3) Φ1) ∧ ∀ (w4 : World) (R5 : List Own), Ctx W w4 (R ++
  R5) Φ → Calls Tryz.prog F.value_RowBytes #[Value.slice x3P x3N x3C] w4 fun (e6 : Ending) (w7 : World) => ∃ (s8 : ByteArray), e6 = Ending.returned (Value.string s8) ∧ ∃ (R9 : List Own), ∃
  (Φ10 : PW), Stable Φ10 ∧ Ctx W w7 (R9 ++ R5) Φ10 ∧ (∀ (w11 : World) (R12 : List Own), Ctx W w11 (R9 ++ R12) Φ10 → Ctx W w11 (R0 ++ R12) Φ1) ∧ ∀ (w13 : World) (R14 : List Own), Ctx W w13 (R9
  ++ R14) Φ10 → J (Value.agg #[Value.int IntKind.i64 x2, Value.string s8]) w13

theorem Bledger_at_run (x0 : Int) (x1 : Int) (x2 : Int) (x3P : Option Addr) (x3N x3C : Nat) (x4 : Int) (x5 : Int) (x6 : Int) {W w : World} {R : List Own} {Φ : PW} [Stable Φ] {J : Value → World → Prop} (c : Ctx W w R Φ) (h : Bledger_at x0 x1 x2 x3P x3N x3C x4 x5 x6 W R Φ J) : Calls Tryz.prog F.ledger_at #[.agg #[.int .i64 x0, .int .i64 x1, .int .i64 x2, .slice x3P x3N x3C, .int .i64 x4, .int .i64 x5, .int .i64 x6]] w fun e w' => ∃ v, e = .returned v ∧ J v w' :=
  vcFS_sound (H := { keep := some [1, 2], track := [1, 2], stages := [(1, [.held [(0, true), (2, true), (1, true), (3, true), (4, false)], .stage [5] (some 6)])] }) (by rw [show vcFS Tryz.prog W { keep := some [1, 2], track := [1, 2], stages := [(1, [.held [(0, true), (2, true), (1, true), (3, true), (4, false)], .stage [5] (some 6)])] } F.ledger_at #[.agg #[.int .i64 x0, .int .i64 x1, .int .i64 x2, .slice x3P x3N x3C, .int .i64 x4, .int .i64 x5, .int .i64 x6]] R Φ J = Bledger_at x0 x1 x2 x3P x3N x3C x4 x5 x6 W R Φ J by kernel_rfl]; exact h) c

-- loop at region 3: 9 ; blocks 
def Bledger_cloned (linesP : Option Addr) (linesN linesC : Nat) (W : World) (R : List Own) (Φ : PW) (J : Value → World → Prop) : Prop :=
  ∀ (w0 : World) (R1 : List Own), Ctx W w0 (R ++ R1) Φ → Calls Tryz.prog F.slices_Clone_api_Line_api_Line #[Value.slice linesP linesN linesC] w0 fun (e2 : Ending) (w3 : World) => ∃ (p4 :
  Option Addr), ∃ (k5 : Nat), ∃ (k6 : Nat), e2 = Ending.returned (Value.slice p4 k5 k6) ∧ ∃ (R7 : List Own), ∃ (Φ8 : PW), Stable Φ8 ∧ Ctx W w3 (R7 ++ R1) Φ8 ∧ exI fun (I9 : Int → List Own →
  PW → Nat → Prop) => (∃ (R10 : List Own), ∃ (Φ11 : PW), ∃ (k12 : Nat), Stable Φ11 ∧ (∀ (w13 : World) (R14 : List Own), Ctx W w13 (R7 ++ R14) Φ8 → Ctx W w13 (R10 ++ R14) Φ11) ∧ I9 0 R10 Φ11
  k12) ∧ ∀ (n15 : Int) (R16 : List Own) (I17 : List Nat → World → Prop) (k18 : Nat), Stable I17 → I9 n15 R16 I17 k18 → Br (decide (n15 < (↑k5 : Int))) ((0 ≤ n15 ∧ n15 < (↑k5 : Int)) ∧ ptrK
  none p4 fun (k19 k20 : Nat) => ∀ (w21 : World) (R22 : List Own), Ctx W w21 (R16 ++ R22) I17 → ∃ (p23 : Option Addr), ∃ (k24 : Nat), ∃ (k25 : Nat), w21.cell? (Addr.mk k19 (k20 + n15.toNat *
  7 + 3) none) = some (Value.slice p23 k24 k25) ∧ ∀ (w26 : World) (R27 : List Own), Ctx W w26 (R16 ++ R27) I17 → Calls Tryz.prog F.slices_Clone_api_Value_api_Value #[Value.slice p23 k24 k25]
  w26 fun (e28 : Ending) (w29 : World) => ∃ (p30 : Option Addr), ∃ (k31 : Nat), ∃ (k32 : Nat), e28 = Ending.returned (Value.slice p30 k31 k32) ∧ ∃ (R33 : List Own), ∃ (Φ34 : PW), Stable Φ34 ∧
  Ctx W w29 (R33 ++ R27) Φ34 ∧ (0 ≤ n15 ∧ n15 < (↑k5 : Int)) ∧ ptrK none p4 fun (k35 k36 : Nat) => ∀ (w37 : World) (R38 : List Own), Ctx W w37 (R33 ++ R38) Φ34 → CanWrite w37 k35 (k36 +
  n15.toNat * 7 + 3) 1 ∧ ∀ (w39 : World), w39 = w37.setCell (Addr.mk k35 (k36 + n15.toNat * 7 + 3) none) (Value.slice p30 k31 k32) → ∃ (R40 : List Own), ∃ (Φ41 : PW), Stable Φ41 ∧ Ctx W w39
  (R40 ++ R38) Φ41 ∧ I64 (n15 + 1) ∧ ∃ (R42 : List Own), ∃ (Φ43 : PW), ∃ (k44 : Nat), Stable Φ43 ∧ (∀ (w45 : World) (R46 : List Own), Ctx W w45 (R40 ++ R46) Φ41 → Ctx W w45 (R42 ++ R46) Φ43)
  ∧ I9 (n15 + 1) R42 Φ43 k44 ∧ k44 < k18) (∀ (w47 : World) (R48 : List Own), Ctx W w47 (R16 ++ R48) I17 → J (Value.slice p4 k5 k6) w47)

theorem Bledger_cloned_run (linesP : Option Addr) (linesN linesC : Nat) {W w : World} {R : List Own} {Φ : PW} [Stable Φ] {J : Value → World → Prop} (c : Ctx W w R Φ) (h : Bledger_cloned linesP linesN linesC W R Φ J) : Calls Tryz.prog F.ledger_cloned #[.slice linesP linesN linesC] w fun e w' => ∃ v, e = .returned v ∧ J v w' :=
  vcFS_sound (H := { keep := some [0, 2, 3, 4, 8, 9, 10], loops := [(3, [(9, .one (.int .i64))], [])] }) (by rw [show vcFS Tryz.prog W { keep := some [0, 2, 3, 4, 8, 9, 10], loops := [(3, [(9, .one (.int .i64))], [])] } F.ledger_cloned #[.slice linesP linesN linesC] R Φ J = Bledger_cloned linesP linesN linesC W R Φ J by kernel_rfl]; exact h) c

-- known blocks: 2 x
def Berrataref41_caused (x0 : Int) (x1 : Int) (x2 : Int) (x3P : Option Addr) (x3N x3C : Nat) (x4 : Int) (x5 : Int) (x6 : Int) (mark : Int) (W : World) (R : List Own) (Φ : PW) (J : Value → World → Prop) : Prop :=
  ∀ (b : Nat), Br (decide (x5 = 0)) (∀ (w0 : World) (R1 : List Own), Ctx W w0 (R ++ R1) Φ → ∀ (w2 : World) (R3 : List Own), Ctx W w2 (R ++ R3) Φ → J (Value.bool (decide (mark < x2) && decide
  (x6 = 0))) w2) (Br (decide (x5 = 1)) (∀ (w4 : World) (R5 : List Own), Ctx W w4 (R ++ R5) Φ → ∀ (w6 : World) (R7 : List Own), Ctx W w6 (R ++ R7) Φ → J (Value.bool (decide (x2 ≤ mark) &&
  decide (x6 = 0))) w6) (∀ (w8 : World) (R9 : List Own), Ctx W w8 (R ++ R9) Φ → ∀ (w10 : World) (R11 : List Own), Ctx W w10 (R ++ R11) Φ → J (Value.bool (decide (x5 = 2) && decide (0 < x6)))
  w10))

theorem Berrataref41_caused_run (x0 : Int) (x1 : Int) (x2 : Int) (x3P : Option Addr) (x3N x3C : Nat) (x4 : Int) (x5 : Int) (x6 : Int) (mark : Int) {W w : World} {R : List Own} {Φ : PW} [Stable Φ] {J : Value → World → Prop} (c : Ctx W w R Φ) (h : Berrataref41_caused x0 x1 x2 x3P x3N x3C x4 x5 x6 mark W R Φ J) : Calls Tryz.prog F.errataref41_caused #[.agg #[.int .i64 x0, .int .i64 x1, .int .i64 x2, .slice x3P x3N x3C, .int .i64 x4, .int .i64 x5, .int .i64 x6], .int .i64 mark] w fun e w' => ∃ v, e = .returned v ∧ J v w' :=
  vcFS_sound (H := { keep := some [1, 2, 4, 7, 19], track := [2] }) (by rw [show vcFS Tryz.prog W { keep := some [1, 2, 4, 7, 19], track := [2] } F.errataref41_caused #[.agg #[.int .i64 x0, .int .i64 x1, .int .i64 x2, .slice x3P x3N x3C, .int .i64 x4, .int .i64 x5, .int .i64 x6], .int .i64 mark] R Φ J = Berrataref41_caused x0 x1 x2 x3P x3N x3C x4 x5 x6 mark W R Φ J by kernel_rfl]; exact h) c

-- loop at region 2: 5 i; blocks 
def Berrataref03_CompareRows (aP : Option Addr) (aN aC : Nat) (bP : Option Addr) (bN bC : Nat) (W : World) (R : List Own) (Φ : PW) (J : Value → World → Prop) : Prop :=
  exI fun (I0 : Int → List Own → PW → Nat → Prop) => (∃ (R1 : List Own), ∃ (Φ2 : PW), ∃ (k3 : Nat), Stable Φ2 ∧ (∀ (w4 : World) (R5 : List Own), Ctx W w4 (R ++ R5) Φ → Ctx W w4 (R1 ++ R5) Φ2)
  ∧ I0 0 R1 Φ2 k3) ∧ ∀ (n6 : Int) (R7 : List Own) (I8 : List Nat → World → Prop) (k9 : Nat), Stable I8 → I0 n6 R7 I8 k9 → ∀ (w10 : World) (R11 : List Own), Ctx W w10 (R7 ++ R11) I8 → Br
  (decide (n6 < (↑aN : Int)) && decide (n6 < (↑bN : Int))) (∃ (R12 : List Own), ∃ (Φ13 : PW), Stable Φ13 ∧ (∀ (w14 : World) (R15 : List Own), Ctx W w14 (R7 ++ R15) I8 → Ctx W w14 (R12 ++ R15)
  Φ13) ∧ (0 ≤ n6 ∧ n6 < (↑aN : Int)) ∧ ptrK none aP fun (k16 k17 : Nat) => (0 ≤ n6 ∧ n6 < (↑bN : Int)) ∧ ptrK none bP fun (k18 k19 : Nat) => ∃ (n20 : Int), ∃ (n21 : Int), ∃ (s22 : ByteArray),
  (∀ (w23 : World) (R24 : List Own), Ctx W w23 (R12 ++ R24) Φ13 → ∃ (n25 : Int), ∃ (n26 : Int), ∃ (s27 : ByteArray), RowAt w23 k16 (k17 + n6.toNat * 3) [Value.int IntKind.i64 n25, Value.int
  IntKind.i64 n26, Value.string s27] ∧ Value.agg #[Value.int IntKind.i64 n25, Value.int IntKind.i64 n26, Value.string s27] = Value.agg #[Value.int IntKind.i64 n20, Value.int IntKind.i64 n21,
  Value.string s22]) ∧ ∃ (n28 : Int), ∃ (n29 : Int), ∃ (s30 : ByteArray), (∀ (w31 : World) (R32 : List Own), Ctx W w31 (R12 ++ R32) Φ13 → ∃ (n33 : Int), ∃ (n34 : Int), ∃ (s35 : ByteArray),
  RowAt w31 k18 (k19 + n6.toNat * 3) [Value.int IntKind.i64 n33, Value.int IntKind.i64 n34, Value.string s35] ∧ Value.agg #[Value.int IntKind.i64 n33, Value.int IntKind.i64 n34, Value.string
  s35] = Value.agg #[Value.int IntKind.i64 n28, Value.int IntKind.i64 n29, Value.string s30]) ∧ ∀ (w36 : World) (R37 : List Own), Ctx W w36 (R7 ++ R37) I8 → Calls Tryz.prog
  F.errataref03_Compare #[Value.agg #[Value.int IntKind.i64 n20, Value.int IntKind.i64 n21, Value.string s22], Value.agg #[Value.int IntKind.i64 n28, Value.int IntKind.i64 n29, Value.string
  s30]] w36 fun (e38 : Ending) (w39 : World) => ∃ (n40 : Int), e38 = Ending.returned (Value.int IntKind.i64 n40) ∧ ∃ (R41 : List Own), ∃ (Φ42 : PW), Stable Φ42 ∧ Ctx W w39 (R41 ++ R37) Φ42 ∧
  Br (decide (n40 ≠ 0)) (∀ (w43 : World) (R44 : List Own), Ctx W w43 (R41 ++ R44) Φ42 → J (Value.int IntKind.i64 n40) w43) (I64 (n6 + 1) ∧ ∃ (R45 : List Own), ∃ (Φ46 : PW), ∃ (k47 : Nat),
  Stable Φ46 ∧ (∀ (w48 : World) (R49 : List Own), Ctx W w48 (R41 ++ R49) Φ42 → Ctx W w48 (R45 ++ R49) Φ46) ∧ I0 (n6 + 1) R45 Φ46 k47 ∧ k47 < k9)) (Br (decide ((↑aN : Int) < (↑bN : Int))) (∀
  (w50 : World) (R51 : List Own), Ctx W w50 (R7 ++ R51) I8 → J (Value.int IntKind.i64 (-1)) w50) (Br (decide ((↑bN : Int) < (↑aN : Int))) (∀ (w52 : World) (R53 : List Own), Ctx W w52 (R7 ++
  R53) I8 → J (Value.int IntKind.i64 1) w52) (∀ (w54 : World) (R55 : List Own), Ctx W w54 (R7 ++ R55) I8 → J (Value.int IntKind.i64 0) w54)))

theorem Berrataref03_CompareRows_run (aP : Option Addr) (aN aC : Nat) (bP : Option Addr) (bN bC : Nat) {W w : World} {R : List Own} {Φ : PW} [Stable Φ] {J : Value → World → Prop} (c : Ctx W w R Φ) (h : Berrataref03_CompareRows aP aN aC bP bN bC W R Φ J) : Calls Tryz.prog F.errataref03_CompareRows #[.slice aP aN aC, .slice bP bN bC] w fun e w' => ∃ v, e = .returned v ∧ J v w' :=
  vcFS_sound (H := { keep := some [0, 1, 4, 5, 6, 16, 29, 35, 40], stages := [(4, [.held [(0, true), (1, true), (4, true), (5, true), (2, true), (6, true), (3, true), (7, true)], .stage [] (some 8), .stage [9] none])], loops := [(2, [(5, .one (.int .i64))], [])] }) (by rw [show vcFS Tryz.prog W { keep := some [0, 1, 4, 5, 6, 16, 29, 35, 40], stages := [(4, [.held [(0, true), (1, true), (4, true), (5, true), (2, true), (6, true), (3, true), (7, true)], .stage [] (some 8), .stage [9] none])], loops := [(2, [(5, .one (.int .i64))], [])] } F.errataref03_CompareRows #[.slice aP aN aC, .slice bP bN bC] R Φ J = Berrataref03_CompareRows aP aN aC bP bN bC W R Φ J by kernel_rfl]; exact h) c

-- known blocks: 2 
def Bledger_Ledger_last (lB lO : Nat) (W : World) (R : List Own) (Φ : PW) (J : Value → World → Prop) : Prop :=
  ∀ (b : Nat) (w0 : World) (R1 : List Own), Ctx W w0 (R ++ R1) Φ → ∃ (p2 : Option Addr), ∃ (k3 : Nat), ∃ (k4 : Nat), w0.cell? (Addr.mk lB (lO + 1) none) = some (Value.slice p2 k3 k4) ∧ Br
  (decide ((↑k3 : Int) = 0)) (∀ (w5 : World) (R6 : List Own), Ctx W w5 (R ++ R6) Φ → J (Value.agg #[Value.int IntKind.i64 0, Value.int IntKind.i64 (-1), Value.int IntKind.i64 0]) w5) (∀ (w7 :
  World) (R8 : List Own), Ctx W w7 (R ++ R8) Φ → ∃ (p9 : Option Addr), ∃ (k10 : Nat), ∃ (k11 : Nat), w7.cell? (Addr.mk lB (lO + 1) none) = some (Value.slice p9 k10 k11) ∧ ∀ (w12 : World) (R13
  : List Own), Ctx W w12 (R ++ R13) Φ → ∃ (p14 : Option Addr), ∃ (k15 : Nat), ∃ (k16 : Nat), w12.cell? (Addr.mk lB (lO + 1) none) = some (Value.slice p14 k15 k16) ∧ I64 ((↑k15 : Int) - 1) ∧
  (0 ≤ (↑k15 : Int) - 1 ∧ (↑k15 : Int) - 1 < (↑k10 : Int)) ∧ ptrK none p9 fun (k17 k18 : Nat) => ∀ (w19 : World) (R20 : List Own), Ctx W w19 (R ++ R20) Φ → ∃ (n21 : Int), ∃ (n22 : Int), ∃
  (n23 : Int), RowAt w19 k17 (k18 + ((↑k15 : Int) - 1).toNat * 3) [Value.int IntKind.i64 n21, Value.int IntKind.i64 n22, Value.int IntKind.i64 n23] ∧ ∀ (w24 : World) (R25 : List Own), Ctx W
  w24 (R ++ R25) Φ → J (Value.agg #[Value.int IntKind.i64 n21, Value.int IntKind.i64 n22, Value.int IntKind.i64 n23]) w24)

theorem Bledger_Ledger_last_run (lB lO : Nat) {W w : World} {R : List Own} {Φ : PW} [Stable Φ] {J : Value → World → Prop} (c : Ctx W w R Φ) (h : Bledger_Ledger_last lB lO W R Φ J) : Calls Tryz.prog F.ledger_Ledger_last #[.pointer (some ⟨lB, lO, none⟩)] w fun e w' => ∃ v, e = .returned v ∧ J v w' :=
  vcFS_sound (H := { keep := some [0, 2, 8], track := [2], stages := [(3, [.stage [0, 4, 1, 5, 2, 6, 3, 7, 8, 9, 10, 11] (some 12)])] }) (by rw [show vcFS Tryz.prog W { keep := some [0, 2, 8], track := [2], stages := [(3, [.stage [0, 4, 1, 5, 2, 6, 3, 7, 8, 9, 10, 11] (some 12)])] } F.ledger_Ledger_last #[.pointer (some ⟨lB, lO, none⟩)] R Φ J = Bledger_Ledger_last lB lO W R Φ J by kernel_rfl]; exact h) c

def Berrataref01_Num (n : Int) (W : World) (R : List Own) (Φ : PW) (J : Value → World → Prop) : Prop :=
  Br (decide (n < 0)) (∀ (w0 : World) (R1 : List Own), Ctx W w0 (R ++ R1) Φ → J (Value.string (ByteArray.mk #[])) w0) (∀ (w2 : World) (R3 : List Own), Ctx W w2 (R ++ R3) Φ → Calls Tryz.prog
  F.errataref01_Int #[Value.int IntKind.i64 n] w2 fun (e4 : Ending) (w5 : World) => ∃ (s6 : ByteArray), e4 = Ending.returned (Value.string s6) ∧ ∃ (R7 : List Own), ∃ (Φ8 : PW), Stable Φ8 ∧
  Ctx W w5 (R7 ++ R3) Φ8 ∧ ∀ (w9 : World) (R10 : List Own), Ctx W w9 (R7 ++ R10) Φ8 → J (Value.string s6) w9)

theorem Berrataref01_Num_run (n : Int) {W w : World} {R : List Own} {Φ : PW} [Stable Φ] {J : Value → World → Prop} (c : Ctx W w R Φ) (h : Berrataref01_Num n W R Φ J) : Calls Tryz.prog F.errataref01_Num #[.int .i64 n] w fun e w' => ∃ v, e = .returned v ∧ J v w' :=
  vcFS_sound (H := { keep := some [0, 2, 4] }) (by rw [show vcFS Tryz.prog W { keep := some [0, 2, 4] } F.errataref01_Num #[.int .i64 n] R Φ J = Berrataref01_Num n W R Φ J by kernel_rfl]; exact h) c

def Berrataref01_Int (n : Int) (W : World) (R : List Own) (Φ : PW) (J : Value → World → Prop) : Prop :=
  Br (decide (n < 0)) (∀ (w0 : World) (R1 : List Own), Ctx W w0 (R ++ R1) Φ → Calls Tryz.prog F.errataref01_digits #[Value.int IntKind.i64 n] w0 fun (e2 : Ending) (w3 : World) => ∃ (s4 :
  ByteArray), e2 = Ending.returned (Value.string s4) ∧ ∃ (R5 : List Own), ∃ (Φ6 : PW), Stable Φ6 ∧ Ctx W w3 (R5 ++ R1) Φ6 ∧ ((ByteArray.mk #[OfNat.ofNat 45]).size + s4.size).le
  9223372036854775807 ∧ ((ByteArray.mk #[OfNat.ofNat 45] ++ s4).size + (ByteArray.mk #[OfNat.ofNat 59]).size).le 9223372036854775807 ∧ ∀ (w7 : World) (R8 : List Own), Ctx W w7 (R5 ++ R8) Φ6 →
  J (Value.string (ByteArray.mk #[OfNat.ofNat 45] ++ s4 ++ ByteArray.mk #[OfNat.ofNat 59])) w7) (I64 (0 - n) ∧ ∀ (w9 : World) (R10 : List Own), Ctx W w9 (R ++ R10) Φ → Calls Tryz.prog
  F.errataref01_digits #[Value.int IntKind.i64 (0 - n)] w9 fun (e11 : Ending) (w12 : World) => ∃ (s13 : ByteArray), e11 = Ending.returned (Value.string s13) ∧ ∃ (R14 : List Own), ∃ (Φ15 :
  PW), Stable Φ15 ∧ Ctx W w12 (R14 ++ R10) Φ15 ∧ (s13.size + (ByteArray.mk #[OfNat.ofNat 59]).size).le 9223372036854775807 ∧ ∀ (w16 : World) (R17 : List Own), Ctx W w16 (R14 ++ R17) Φ15 → J
  (Value.string (s13 ++ ByteArray.mk #[OfNat.ofNat 59])) w16)

theorem Berrataref01_Int_run (n : Int) {W w : World} {R : List Own} {Φ : PW} [Stable Φ] {J : Value → World → Prop} (c : Ctx W w R Φ) (h : Berrataref01_Int n W R Φ J) : Calls Tryz.prog F.errataref01_Int #[.int .i64 n] w fun e w' => ∃ v, e = .returned v ∧ J v w' :=
  vcFS_sound (H := { keep := some [0, 2, 4] }) (by rw [show vcFS Tryz.prog W { keep := some [0, 2, 4] } F.errataref01_Int #[.int .i64 n] R Φ J = Berrataref01_Int n W R Φ J by kernel_rfl]; exact h) c

def Berrataref01_Text (s : ByteArray) (W : World) (R : List Own) (Φ : PW) (J : Value → World → Prop) : Prop :=
  I64 (0 - (↑s.size : Int)) ∧ ∀ (w0 : World) (R1 : List Own), Ctx W w0 (R ++ R1) Φ → Calls Tryz.prog F.errataref01_digits #[Value.int IntKind.i64 (0 - (↑s.size : Int))] w0 fun (e2 : Ending)
  (w3 : World) => ∃ (s4 : ByteArray), e2 = Ending.returned (Value.string s4) ∧ ∃ (R5 : List Own), ∃ (Φ6 : PW), Stable Φ6 ∧ Ctx W w3 (R5 ++ R1) Φ6 ∧ (s4.size + (ByteArray.mk #[OfNat.ofNat
  58]).size).le 9223372036854775807 ∧ ((s4 ++ ByteArray.mk #[OfNat.ofNat 58]).size + s.size).le 9223372036854775807 ∧ ((s4 ++ ByteArray.mk #[OfNat.ofNat 58] ++ s).size + (ByteArray.mk
  #[OfNat.ofNat 44]).size).le 9223372036854775807 ∧ ∀ (w7 : World) (R8 : List Own), Ctx W w7 (R5 ++ R8) Φ6 → J (Value.string (s4 ++ ByteArray.mk #[OfNat.ofNat 58] ++ s ++ ByteArray.mk
  #[OfNat.ofNat 44])) w7

theorem Berrataref01_Text_run (s : ByteArray) {W w : World} {R : List Own} {Φ : PW} [Stable Φ] {J : Value → World → Prop} (c : Ctx W w R Φ) (h : Berrataref01_Text s W R Φ J) : Calls Tryz.prog F.errataref01_Text #[.string s] w fun e w' => ∃ v, e = .returned v ∧ J v w' :=
  vcFS_sound (H := { keep := some [0, 2] }) (by rw [show vcFS Tryz.prog W { keep := some [0, 2] } F.errataref01_Text #[.string s] R Φ J = Berrataref01_Text s W R Φ J by kernel_rfl]; exact h) c

-- loop at region 3: 3 s, 4 i; blocks 
def Berrataref03_RowBytes (rP : Option Addr) (rN rC : Nat) (W : World) (R : List Own) (Φ : PW) (J : Value → World → Prop) : Prop :=
  ∀ (w0 : World) (R1 : List Own), Ctx W w0 (R ++ R1) Φ → Calls Tryz.prog F.errataref01_Num #[Value.int IntKind.i64 (↑rN : Int)] w0 fun (e2 : Ending) (w3 : World) => ∃ (s4 : ByteArray), e2 =
  Ending.returned (Value.string s4) ∧ ∃ (R5 : List Own), ∃ (Φ6 : PW), Stable Φ6 ∧ Ctx W w3 (R5 ++ R1) Φ6 ∧ exI fun (I7 : ByteArray → Int → List Own → PW → Nat → Prop) => (∃ (R8 : List Own), ∃
  (Φ9 : PW), ∃ (k10 : Nat), Stable Φ9 ∧ (∀ (w11 : World) (R12 : List Own), Ctx W w11 (R5 ++ R12) Φ6 → Ctx W w11 (R8 ++ R12) Φ9) ∧ I7 s4 0 R8 Φ9 k10) ∧ ∀ (s13 : ByteArray) (n14 : Int) (R15 :
  List Own) (I16 : List Nat → World → Prop) (k17 : Nat), Stable I16 → I7 s13 n14 R15 I16 k17 → Br (decide (n14 < (↑rN : Int))) ((0 ≤ n14 ∧ n14 < (↑rN : Int)) ∧ ptrK none rP fun (k18 k19 :
  Nat) => ∀ (w20 : World) (R21 : List Own), Ctx W w20 (R15 ++ R21) I16 → ∃ (n22 : Int), ∃ (n23 : Int), ∃ (s24 : ByteArray), RowAt w20 k18 (k19 + n14.toNat * 3) [Value.int IntKind.i64 n22,
  Value.int IntKind.i64 n23, Value.string s24] ∧ ∀ (w25 : World) (R26 : List Own), Ctx W w25 (R15 ++ R26) I16 → Calls Tryz.prog F.errataref03_Bytes #[Value.agg #[Value.int IntKind.i64 n22,
  Value.int IntKind.i64 n23, Value.string s24]] w25 fun (e27 : Ending) (w28 : World) => ∃ (s29 : ByteArray), e27 = Ending.returned (Value.string s29) ∧ ∃ (R30 : List Own), ∃ (Φ31 : PW),
  Stable Φ31 ∧ Ctx W w28 (R30 ++ R26) Φ31 ∧ (s13.size + s29.size).le 9223372036854775807 ∧ I64 (n14 + 1) ∧ ∃ (R32 : List Own), ∃ (Φ33 : PW), ∃ (k34 : Nat), Stable Φ33 ∧ (∀ (w35 : World) (R36
  : List Own), Ctx W w35 (R30 ++ R36) Φ31 → Ctx W w35 (R32 ++ R36) Φ33) ∧ I7 (s13 ++ s29) (n14 + 1) R32 Φ33 k34 ∧ k34 < k17) (∀ (w37 : World) (R38 : List Own), Ctx W w37 (R15 ++ R38) I16 → J
  (Value.string s13) w37)

theorem Berrataref03_RowBytes_run (rP : Option Addr) (rN rC : Nat) {W w : World} {R : List Own} {Φ : PW} [Stable Φ] {J : Value → World → Prop} (c : Ctx W w R Φ) (h : Berrataref03_RowBytes rP rN rC W R Φ J) : Calls Tryz.prog F.errataref03_RowBytes #[.slice rP rN rC] w fun e w' => ∃ v, e = .returned v ∧ J v w' :=
  vcFS_sound (H := { keep := some [0, 2, 3, 4, 11], loops := [(3, [(3, .one (.str)), (4, .one (.int .i64))], [])] }) (by rw [show vcFS Tryz.prog W { keep := some [0, 2, 3, 4, 11], loops := [(3, [(3, .one (.str)), (4, .one (.int .i64))], [])] } F.errataref03_RowBytes #[.slice rP rN rC] R Φ J = Berrataref03_RowBytes rP rN rC W R Φ J by kernel_rfl]; exact h) c

-- loop at region 7: 6 n, 7 k; blocks 
-- loop at region 4: 4 out, 5 i; blocks 
def Berrataref28_Consolidate (lP : Option Addr) (lN lC : Nat) (W : World) (R : List Own) (Φ : PW) (J : Value → World → Prop) : Prop :=
  ∀ (w0 : World) (R1 : List Own), Ctx W w0 (R ++ R1) Φ → Calls Tryz.prog F.errataref28_sorted #[Value.slice lP lN lC] w0 fun (e2 : Ending) (w3 : World) => ∃ (p4 : Option Addr), ∃ (k5 : Nat),
  ∃ (k6 : Nat), e2 = Ending.returned (Value.slice p4 k5 k6) ∧ ∃ (R7 : List Own), ∃ (Φ8 : PW), Stable Φ8 ∧ Ctx W w3 (R7 ++ R1) Φ8 ∧ exI fun (I9 : Option Addr → Nat → Nat → Int → List Own → PW
  → Nat → Prop) => (∃ (R10 : List Own), ∃ (Φ11 : PW), ∃ (k12 : Nat), Stable Φ11 ∧ (∀ (w13 : World) (R14 : List Own), Ctx W w13 (R7 ++ R14) Φ8 → Ctx W w13 (R10 ++ R14) Φ11) ∧ I9 none 0 0 0 R10
  Φ11 k12) ∧ ∀ (p15 : Option Addr) (k16 k17 : Nat) (n18 : Int) (R19 : List Own) (I20 : List Nat → World → Prop) (k21 : Nat), Stable I20 → I9 p15 k16 k17 n18 R19 I20 k21 → Br (decide (n18 <
  (↑k5 : Int))) (exI fun (I22 : Int → Int → List Own → PW → Nat → Prop) => (∃ (R23 : List Own), ∃ (Φ24 : PW), ∃ (k25 : Nat), Stable Φ24 ∧ (∀ (w26 : World) (R27 : List Own), Ctx W w26 (R19 ++
  R27) I20 → Ctx W w26 (R23 ++ R27) Φ24) ∧ I22 0 n18 R23 Φ24 k25) ∧ ∀ (n28 n29 : Int) (R30 : List Own) (I31 : List Nat → World → Prop) (k32 : Nat), Stable I31 → I22 n28 n29 R30 I31 k32 → ∃
  (R33 : List Own), ∃ (Φ34 : PW), Stable Φ34 ∧ (∀ (w35 : World) (R36 : List Own), Ctx W w35 (R30 ++ R36) I31 → Ctx W w35 (R33 ++ R36) Φ34) ∧ Br (decide (n29 < (↑k5 : Int))) ((0 ≤ n18 ∧ n18 <
  (↑k5 : Int)) ∧ ptrK none p4 fun (k37 k38 : Nat) => ∃ (n39 : Int), ∃ (p40 : Option Addr), ∃ (k41 : Nat), ∃ (k42 : Nat), ∃ (n43 : Int), (∀ (w44 : World) (R45 : List Own), Ctx W w44 (R33 ++
  R45) Φ34 → ∃ (n46 : Int), ∃ (p47 : Option Addr), ∃ (k48 : Nat), ∃ (k49 : Nat), ∃ (n50 : Int), RowAt w44 k37 (k38 + n18.toNat * 3) [Value.int IntKind.i64 n46, Value.slice p47 k48 k49,
  Value.int IntKind.i64 n50] ∧ Value.agg #[Value.int IntKind.i64 n46, Value.slice p47 k48 k49, Value.int IntKind.i64 n50] = Value.agg #[Value.int IntKind.i64 n39, Value.slice p40 k41 k42,
  Value.int IntKind.i64 n43]) ∧ I64 ((↑k5 : Int) - 1) ∧ (0 ≤ min n29 ((↑k5 : Int) - 1) ∧ min n29 ((↑k5 : Int) - 1) < (↑k5 : Int)) ∧ ptrK none p4 fun (k51 k52 : Nat) => ∃ (n53 : Int), ∃ (p54 :
  Option Addr), ∃ (k55 : Nat), ∃ (k56 : Nat), ∃ (n57 : Int), (∀ (w58 : World) (R59 : List Own), Ctx W w58 (R33 ++ R59) Φ34 → ∃ (n60 : Int), ∃ (p61 : Option Addr), ∃ (k62 : Nat), ∃ (k63 :
  Nat), ∃ (n64 : Int), RowAt w58 k51 (k52 + (min n29 ((↑k5 : Int) - 1)).toNat * 3) [Value.int IntKind.i64 n60, Value.slice p61 k62 k63, Value.int IntKind.i64 n64] ∧ Value.agg #[Value.int
  IntKind.i64 n60, Value.slice p61 k62 k63, Value.int IntKind.i64 n64] = Value.agg #[Value.int IntKind.i64 n53, Value.slice p54 k55 k56, Value.int IntKind.i64 n57]) ∧ ∀ (w65 : World) (R66 :
  List Own), Ctx W w65 (R30 ++ R66) I31 → Calls Tryz.prog F.errataref28_Compare #[Value.agg #[Value.int IntKind.i64 n39, Value.slice p40 k41 k42, Value.int IntKind.i64 n43], Value.agg
  #[Value.int IntKind.i64 n53, Value.slice p54 k55 k56, Value.int IntKind.i64 n57]] w65 fun (e67 : Ending) (w68 : World) => ∃ (n69 : Int), e67 = Ending.returned (Value.int IntKind.i64 n69) ∧
  ∃ (R70 : List Own), ∃ (Φ71 : PW), Stable Φ71 ∧ Ctx W w68 (R70 ++ R66) Φ71 ∧ Br (decide (n69 = 0)) ((0 ≤ n29 ∧ n29 < (↑k5 : Int)) ∧ ptrK none p4 fun (k72 k73 : Nat) => ∀ (w74 : World) (R75 :
  List Own), Ctx W w74 (R70 ++ R75) Φ71 → ∃ (n76 : Int), w74.cell? (Addr.mk k72 (k73 + n29.toNat * 3 + 2) none) = some (Value.int IntKind.i64 n76) ∧ I64 (n29 + 1) ∧ ∃ (R77 : List Own), ∃ (Φ78
  : PW), ∃ (k79 : Nat), Stable Φ78 ∧ (∀ (w80 : World) (R81 : List Own), Ctx W w80 (R70 ++ R81) Φ71 → Ctx W w80 (R77 ++ R81) Φ78) ∧ I22 (IntKind.i64.wrap (n28 + n76)) (n29 + 1) R77 Φ78 k79 ∧
  k79 < k32) (Br (decide (n28 ≠ 0)) ((0 ≤ n18 ∧ n18 < (↑k5 : Int)) ∧ ptrK none p4 fun (k82 k83 : Nat) => ∀ (w84 : World) (R85 : List Own), Ctx W w84 (R70 ++ R85) Φ71 → ∃ (n86 : Int), ∃ (p87 :
  Option Addr), ∃ (k88 : Nat), ∃ (k89 : Nat), ∃ (n90 : Int), RowAt w84 k82 (k83 + n18.toNat * 3) [Value.int IntKind.i64 n86, Value.slice p87 k88 k89, Value.int IntKind.i64 n90] ∧ ∀ (w91 :
  World) (R92 : List Own), Ctx W w91 (R70 ++ R92) Φ71 → Calls Tryz.prog F.errataref28_clone #[Value.agg #[Value.int IntKind.i64 n86, Value.slice p87 k88 k89, Value.int IntKind.i64 n90],
  Value.int IntKind.i64 n28] w91 fun (e93 : Ending) (w94 : World) => ∃ (n95 : Int), ∃ (p96 : Option Addr), ∃ (k97 : Nat), ∃ (k98 : Nat), ∃ (n99 : Int), e93 = Ending.returned (Value.agg
  #[Value.int IntKind.i64 n95, Value.slice p96 k97 k98, Value.int IntKind.i64 n99]) ∧ ∃ (R100 : List Own), ∃ (Φ101 : PW), Stable Φ101 ∧ Ctx W w94 (R100 ++ R92) Φ101 ∧ ∀ (k102 : Nat) (w103 :
  World) (R104 : List Own), Ctx W w103 (Own.blk k102 [Value.int IntKind.i64 n95, Value.slice p96 k97 k98, Value.int IntKind.i64 n99] 73 :: R100 ++ R104) Φ101 → ∃ (p105 : Option Addr), ∃ (k106
  : Nat), ∃ (k107 : Nat), ∃ (w108 : World), Sem.run Tryz.prog (builtin Builtin.append #[44, 44] 44 #[false, false] #[Value.slice p15 k16 k17, Value.slice (some (Addr.mk k102 0 none)) 1 1])
  w103 = Result.ok (Next.value (Value.slice p105 k106 k107)) w108 ∧ ∃ (R109 : List Own), ∃ (Φ110 : PW), Stable Φ110 ∧ Ctx W w108 (R109 ++ R104) Φ110 ∧ ∃ (R111 : List Own), ∃ (Φ112 : PW), ∃
  (k113 : Nat), Stable Φ112 ∧ (∀ (w114 : World) (R115 : List Own), Ctx W w114 (R109 ++ R115) Φ110 → Ctx W w114 (R111 ++ R115) Φ112) ∧ I9 p105 k106 k107 n29 R111 Φ112 k113 ∧ k113 < k21) (∃
  (R116 : List Own), ∃ (Φ117 : PW), ∃ (k118 : Nat), Stable Φ117 ∧ (∀ (w119 : World) (R120 : List Own), Ctx W w119 (R70 ++ R120) Φ71 → Ctx W w119 (R116 ++ R120) Φ117) ∧ I9 p15 k16 k17 n29 R116
  Φ117 k118 ∧ k118 < k21))) (Br (decide (n28 ≠ 0)) ((0 ≤ n18 ∧ n18 < (↑k5 : Int)) ∧ ptrK none p4 fun (k121 k122 : Nat) => ∀ (w123 : World) (R124 : List Own), Ctx W w123 (R30 ++ R124) I31 → ∃
  (n125 : Int), ∃ (p126 : Option Addr), ∃ (k127 : Nat), ∃ (k128 : Nat), ∃ (n129 : Int), RowAt w123 k121 (k122 + n18.toNat * 3) [Value.int IntKind.i64 n125, Value.slice p126 k127 k128,
  Value.int IntKind.i64 n129] ∧ ∀ (w130 : World) (R131 : List Own), Ctx W w130 (R30 ++ R131) I31 → Calls Tryz.prog F.errataref28_clone #[Value.agg #[Value.int IntKind.i64 n125, Value.slice
  p126 k127 k128, Value.int IntKind.i64 n129], Value.int IntKind.i64 n28] w130 fun (e132 : Ending) (w133 : World) => ∃ (n134 : Int), ∃ (p135 : Option Addr), ∃ (k136 : Nat), ∃ (k137 : Nat), ∃
  (n138 : Int), e132 = Ending.returned (Value.agg #[Value.int IntKind.i64 n134, Value.slice p135 k136 k137, Value.int IntKind.i64 n138]) ∧ ∃ (R139 : List Own), ∃ (Φ140 : PW), Stable Φ140 ∧
  Ctx W w133 (R139 ++ R131) Φ140 ∧ ∀ (k141 : Nat) (w142 : World) (R143 : List Own), Ctx W w142 (Own.blk k141 [Value.int IntKind.i64 n134, Value.slice p135 k136 k137, Value.int IntKind.i64
  n138] 73 :: R139 ++ R143) Φ140 → ∃ (p144 : Option Addr), ∃ (k145 : Nat), ∃ (k146 : Nat), ∃ (w147 : World), Sem.run Tryz.prog (builtin Builtin.append #[44, 44] 44 #[false, false]
  #[Value.slice p15 k16 k17, Value.slice (some (Addr.mk k141 0 none)) 1 1]) w142 = Result.ok (Next.value (Value.slice p144 k145 k146)) w147 ∧ ∃ (R148 : List Own), ∃ (Φ149 : PW), Stable Φ149 ∧
  Ctx W w147 (R148 ++ R143) Φ149 ∧ ∃ (R150 : List Own), ∃ (Φ151 : PW), ∃ (k152 : Nat), Stable Φ151 ∧ (∀ (w153 : World) (R154 : List Own), Ctx W w153 (R148 ++ R154) Φ149 → Ctx W w153 (R150 ++
  R154) Φ151) ∧ I9 p144 k145 k146 n29 R150 Φ151 k152 ∧ k152 < k21) (∃ (R155 : List Own), ∃ (Φ156 : PW), ∃ (k157 : Nat), Stable Φ156 ∧ (∀ (w158 : World) (R159 : List Own), Ctx W w158 (R30 ++
  R159) I31 → Ctx W w158 (R155 ++ R159) Φ156) ∧ I9 p15 k16 k17 n29 R155 Φ156 k157 ∧ k157 < k21))) (∀ (w160 : World) (R161 : List Own), Ctx W w160 (R19 ++ R161) I20 → J (Value.slice p15 k16
  k17) w160)

theorem Berrataref28_Consolidate_run (lP : Option Addr) (lN lC : Nat) {W w : World} {R : List Own} {Φ : PW} [Stable Φ] {J : Value → World → Prop} (c : Ctx W w R Φ) (h : Berrataref28_Consolidate lP lN lC W R Φ J) : Calls Tryz.prog F.errataref28_Consolidate #[.slice lP lN lC] w fun e w' => ∃ v, e = .returned v ∧ J v w' :=
  vcFS_sound (H := { keep := some [0, 2, 3, 4, 5, 6, 7, 13, 34, 45], wrap := [41], stages := [(7, [.held [(0, true), (1, true), (2, true), (3, true), (4, true), (5, true), (6, true), (9, true), (10, true), (11, true), (7, true), (12, true), (8, true), (13, true), (14, true), (15, true), (16, true)], .stage [] (some 17), .stage [18, 19] none])], loops := [(7, [(6, .one (.int .i64)), (7, .one (.int .i64))], []), (4, [(4, .one (.slice)), (5, .one (.int .i64))], [])] }) (by rw [show vcFS Tryz.prog W { keep := some [0, 2, 3, 4, 5, 6, 7, 13, 34, 45], wrap := [41], stages := [(7, [.held [(0, true), (1, true), (2, true), (3, true), (4, true), (5, true), (6, true), (9, true), (10, true), (11, true), (7, true), (12, true), (8, true), (13, true), (14, true), (15, true), (16, true)], .stage [] (some 17), .stage [18, 19] none])], loops := [(7, [(6, .one (.int .i64)), (7, .one (.int .i64))], []), (4, [(4, .one (.slice)), (5, .one (.int .i64))], [])] } F.errataref28_Consolidate #[.slice lP lN lC] R Φ J = Berrataref28_Consolidate lP lN lC W R Φ J by kernel_rfl]; exact h) c

-- known blocks: 2 a, 3 b
def Berrataref28_Compare (a0 : Int) (a1P : Option Addr) (a1N a1C : Nat) (a2 : Int) (b0 : Int) (b1P : Option Addr) (b1N b1C : Nat) (b2 : Int) (W : World) (R : List Own) (Φ : PW) (J : Value → World → Prop) : Prop :=
  ∀ (b b : Nat), Br (decide (a0 < b0)) (∀ (w0 : World) (R1 : List Own), Ctx W w0 (R ++ R1) Φ → J (Value.int IntKind.i64 (-1)) w0) (Br (decide (b0 < a0)) (∀ (w2 : World) (R3 : List Own), Ctx W
  w2 (R ++ R3) Φ → J (Value.int IntKind.i64 1) w2) (∀ (w4 : World) (R5 : List Own), Ctx W w4 (R ++ R5) Φ → Calls Tryz.prog F.errataref03_CompareRows #[Value.slice a1P a1N a1C, Value.slice b1P
  b1N b1C] w4 fun (e6 : Ending) (w7 : World) => ∃ (n8 : Int), e6 = Ending.returned (Value.int IntKind.i64 n8) ∧ ∃ (R9 : List Own), ∃ (Φ10 : PW), Stable Φ10 ∧ Ctx W w7 (R9 ++ R5) Φ10 ∧ ∀ (w11
  : World) (R12 : List Own), Ctx W w11 (R9 ++ R12) Φ10 → J (Value.int IntKind.i64 n8) w11))

theorem Berrataref28_Compare_run (a0 : Int) (a1P : Option Addr) (a1N a1C : Nat) (a2 : Int) (b0 : Int) (b1P : Option Addr) (b1N b1C : Nat) (b2 : Int) {W w : World} {R : List Own} {Φ : PW} [Stable Φ] {J : Value → World → Prop} (c : Ctx W w R Φ) (h : Berrataref28_Compare a0 a1P a1N a1C a2 b0 b1P b1N b1C b2 W R Φ J) : Calls Tryz.prog F.errataref28_Compare #[.agg #[.int .i64 a0, .slice a1P a1N a1C, .int .i64 a2], .agg #[.int .i64 b0, .slice b1P b1N b1C, .int .i64 b2]] w fun e w' => ∃ v, e = .returned v ∧ J v w' :=
  vcFS_sound (H := { keep := some [2, 3, 4, 9, 14], track := [2, 3] }) (by rw [show vcFS Tryz.prog W { keep := some [2, 3, 4, 9, 14], track := [2, 3] } F.errataref28_Compare #[.agg #[.int .i64 a0, .slice a1P a1N a1C, .int .i64 a2], .agg #[.int .i64 b0, .slice b1P b1N b1C, .int .i64 b2]] R Φ J = Berrataref28_Compare a0 a1P a1N a1C a2 b0 b1P b1N b1C b2 W R Φ J by kernel_rfl]; exact h) c

-- loop at region 3: 3 out, 8 ; blocks 
-- known blocks: 5 x
def Bledger_net (linesP : Option Addr) (linesN linesC : Nat) (W : World) (R : List Own) (Φ : PW) (J : Value → World → Prop) : Prop :=
  exI fun (I0 : Option Addr → Nat → Nat → Int → List Own → PW → Nat → Prop) => (∃ (R1 : List Own), ∃ (Φ2 : PW), ∃ (k3 : Nat), Stable Φ2 ∧ (∀ (w4 : World) (R5 : List Own), Ctx W w4 (R ++ R5) Φ
  → Ctx W w4 (R1 ++ R5) Φ2) ∧ I0 none 0 0 0 R1 Φ2 k3) ∧ ∀ (p6 : Option Addr) (k7 k8 : Nat) (n9 : Int) (R10 : List Own) (I11 : List Nat → World → Prop) (k12 : Nat), Stable I11 → I0 p6 k7 k8 n9
  R10 I11 k12 → Br (decide (n9 < (↑linesN : Int))) ((0 ≤ n9 ∧ n9 < (↑linesN : Int)) ∧ ptrK none linesP fun (k13 k14 : Nat) => ∀ (w15 : World) (R16 : List Own), Ctx W w15 (R10 ++ R16) I11 → ∃
  (n17 : Int), ∃ (n18 : Int), ∃ (n19 : Int), ∃ (p20 : Option Addr), ∃ (k21 : Nat), ∃ (k22 : Nat), ∃ (n23 : Int), ∃ (n24 : Int), ∃ (n25 : Int), RowAt w15 k13 (k14 + n9.toNat * 7) [Value.int
  IntKind.i64 n17, Value.int IntKind.i64 n18, Value.int IntKind.i64 n19, Value.slice p20 k21 k22, Value.int IntKind.i64 n23, Value.int IntKind.i64 n24, Value.int IntKind.i64 n25] ∧ ∀ (b k26 :
  Nat) (w27 : World) (R28 : List Own), Ctx W w27 (Own.blk k26 [Value.int IntKind.i64 n19, Value.slice p20 k21 k22, Value.int IntKind.i64 n23] 73 :: R10 ++ R28) I11 → ∃ (p29 : Option Addr), ∃
  (k30 : Nat), ∃ (k31 : Nat), ∃ (w32 : World), Sem.run Tryz.prog (builtin Builtin.append #[44, 44] 44 #[false, false] #[Value.slice p6 k7 k8, Value.slice (some (Addr.mk k26 0 none)) 1 1]) w27
  = Result.ok (Next.value (Value.slice p29 k30 k31)) w32 ∧ ∃ (R33 : List Own), ∃ (Φ34 : PW), Stable Φ34 ∧ Ctx W w32 (R33 ++ R28) Φ34 ∧ I64 (n9 + 1) ∧ ∃ (R35 : List Own), ∃ (Φ36 : PW), ∃ (k37
  : Nat), Stable Φ36 ∧ (∀ (w38 : World) (R39 : List Own), Ctx W w38 (R33 ++ R39) Φ34 → Ctx W w38 (R35 ++ R39) Φ36) ∧ I0 p29 k30 k31 (n9 + 1) R35 Φ36 k37 ∧ k37 < k12) (∀ (w40 : World) (R41 :
  List Own), Ctx W w40 (R10 ++ R41) I11 → Calls Tryz.prog F.delta_Consolidate #[Value.slice p6 k7 k8] w40 fun (e42 : Ending) (w43 : World) => ∃ (p44 : Option Addr), ∃ (k45 : Nat), ∃ (k46 :
  Nat), e42 = Ending.returned (Value.slice p44 k45 k46) ∧ ∃ (R47 : List Own), ∃ (Φ48 : PW), Stable Φ48 ∧ Ctx W w43 (R47 ++ R41) Φ48 ∧ ∀ (w49 : World) (R50 : List Own), Ctx W w49 (R47 ++ R50)
  Φ48 → J (Value.slice p44 k45 k46) w49)

theorem Bledger_net_run (linesP : Option Addr) (linesN linesC : Nat) {W w : World} {R : List Own} {Φ : PW} [Stable Φ] {J : Value → World → Prop} (c : Ctx W w R Φ) (h : Bledger_net linesP linesN linesC W R Φ J) : Calls Tryz.prog F.ledger_net #[.slice linesP linesN linesC] w fun e w' => ∃ v, e = .returned v ∧ J v w' :=
  vcFS_sound (H := { keep := some [0, 2, 3, 5, 6, 7, 8, 9], track := [5], loops := [(3, [(3, .one (.slice)), (8, .one (.int .i64))], [])] }) (by rw [show vcFS Tryz.prog W { keep := some [0, 2, 3, 5, 6, 7, 8, 9], track := [5], loops := [(3, [(3, .one (.slice)), (8, .one (.int .i64))], [])] } F.ledger_net #[.slice linesP linesN linesC] R Φ J = Bledger_net linesP linesN linesC W R Φ J by kernel_rfl]; exact h) c

def Bdelta_Upto (lP : Option Addr) (lN lC : Nat) (t : Int) (W : World) (R : List Own) (Φ : PW) (J : Value → World → Prop) : Prop :=
  ∀ (k0 : Nat) (w1 : World) (R2 : List Own), Ctx W w1 (Own.blk k0 [Value.int IntKind.i64 t] 3 :: R ++ R2) Φ → Calls Tryz.prog F.slices_Clone_api_Delta_api_Delta #[Value.slice lP lN lC] w1 fun
  (e3 : Ending) (w4 : World) => ∃ (p5 : Option Addr), ∃ (k6 : Nat), ∃ (k7 : Nat), e3 = Ending.returned (Value.slice p5 k6 k7) ∧ ∃ (R8 : List Own), ∃ (Φ9 : PW), Stable Φ9 ∧ Ctx W w4 (R8 ++ R2)
  Φ9 ∧ ∀ (w10 : World) (R11 : List Own), Ctx W w10 (R8 ++ R11) Φ9 → Calls Tryz.prog F.slices_DeleteFunc_api_Delta_api_Delta #[Value.slice p5 k6 k7, Value.func (Fn.func 90) #[] #[Value.pointer
  (some (Addr.mk k0 0 none))]] w10 fun (e12 : Ending) (w13 : World) => ∃ (p14 : Option Addr), ∃ (k15 : Nat), ∃ (k16 : Nat), e12 = Ending.returned (Value.slice p14 k15 k16) ∧ ∃ (R17 : List
  Own), ∃ (Φ18 : PW), Stable Φ18 ∧ Ctx W w13 (R17 ++ R11) Φ18 ∧ ∀ (w19 : World) (R20 : List Own), Ctx W w19 (R17 ++ R20) Φ18 → Calls Tryz.prog F.delta_Consolidate #[Value.slice p14 k15 k16]
  w19 fun (e21 : Ending) (w22 : World) => ∃ (p23 : Option Addr), ∃ (k24 : Nat), ∃ (k25 : Nat), e21 = Ending.returned (Value.slice p23 k24 k25) ∧ ∃ (R26 : List Own), ∃ (Φ27 : PW), Stable Φ27 ∧
  Ctx W w22 (R26 ++ R20) Φ27 ∧ ∀ (w28 : World) (R29 : List Own), Ctx W w28 (R26 ++ R29) Φ27 → J (Value.slice p23 k24 k25) w28

theorem Bdelta_Upto_run (lP : Option Addr) (lN lC : Nat) (t : Int) {W w : World} {R : List Own} {Φ : PW} [Stable Φ] {J : Value → World → Prop} (c : Ctx W w R Φ) (h : Bdelta_Upto lP lN lC t W R Φ J) : Calls Tryz.prog F.delta_Upto #[.slice lP lN lC, .int .i64 t] w fun e w' => ∃ v, e = .returned v ∧ J v w' :=
  vcFS_sound (H := { keep := some [0, 3, 4, 5] }) (by rw [show vcFS Tryz.prog W { keep := some [0, 3, 4, 5] } F.delta_Upto #[.slice lP lN lC, .int .i64 t] R Φ J = Bdelta_Upto lP lN lC t W R Φ J by kernel_rfl]; exact h) c

def Berrataref03_Same (aP : Option Addr) (aN aC : Nat) (bP : Option Addr) (bN bC : Nat) (W : World) (R : List Own) (Φ : PW) (J : Value → World → Prop) : Prop :=
  ∀ (w0 : World) (R1 : List Own), Ctx W w0 (R ++ R1) Φ → Calls Tryz.prog F.errataref03_CompareRows #[Value.slice aP aN aC, Value.slice bP bN bC] w0 fun (e2 : Ending) (w3 : World) => ∃ (n4 :
  Int), e2 = Ending.returned (Value.int IntKind.i64 n4) ∧ ∃ (R5 : List Own), ∃ (Φ6 : PW), Stable Φ6 ∧ Ctx W w3 (R5 ++ R1) Φ6 ∧ ∀ (w7 : World) (R8 : List Own), Ctx W w7 (R5 ++ R8) Φ6 → J
  (Value.bool (decide (n4 = 0))) w7

theorem Berrataref03_Same_run (aP : Option Addr) (aN aC : Nat) (bP : Option Addr) (bN bC : Nat) {W w : World} {R : List Own} {Φ : PW} [Stable Φ] {J : Value → World → Prop} (c : Ctx W w R Φ) (h : Berrataref03_Same aP aN aC bP bN bC W R Φ J) : Calls Tryz.prog F.errataref03_Same #[.slice aP aN aC, .slice bP bN bC] w fun e w' => ∃ v, e = .returned v ∧ J v w' :=
  vcFS_sound (H := { keep := some [0, 1, 4] }) (by rw [show vcFS Tryz.prog W { keep := some [0, 1, 4] } F.errataref03_Same #[.slice aP aN aC, .slice bP bN bC] R Φ J = Berrataref03_Same aP aN aC bP bN bC W R Φ J by kernel_rfl]; exact h) c

-- known blocks: 2 x
def Bledger_caused (x0 : Int) (x1 : Int) (x2 : Int) (x3P : Option Addr) (x3N x3C : Nat) (x4 : Int) (x5 : Int) (x6 : Int) (mark : Int) (W : World) (R : List Own) (Φ : PW) (J : Value → World → Prop) : Prop :=
  ∀ (b : Nat), Br (decide (x5 = 0)) (∀ (w0 : World) (R1 : List Own), Ctx W w0 (R ++ R1) Φ → ∀ (w2 : World) (R3 : List Own), Ctx W w2 (R ++ R3) Φ → J (Value.bool (decide (mark < x2) && decide
  (x6 = 0))) w2) (Br (decide (x5 = 1)) (∀ (w4 : World) (R5 : List Own), Ctx W w4 (R ++ R5) Φ → ∀ (w6 : World) (R7 : List Own), Ctx W w6 (R ++ R7) Φ → J (Value.bool (decide (x2 ≤ mark) &&
  decide (x6 = 0))) w6) (Br (decide (x5 = 2)) (∀ (w8 : World) (R9 : List Own), Ctx W w8 (R ++ R9) Φ → J (Value.bool (decide (0 < x6))) w8) (∀ (w10 : World) (R11 : List Own), Ctx W w10 (R ++
  R11) Φ → J (Value.bool false) w10)))

theorem Bledger_caused_run (x0 : Int) (x1 : Int) (x2 : Int) (x3P : Option Addr) (x3N x3C : Nat) (x4 : Int) (x5 : Int) (x6 : Int) (mark : Int) {W w : World} {R : List Own} {Φ : PW} [Stable Φ] {J : Value → World → Prop} (c : Ctx W w R Φ) (h : Bledger_caused x0 x1 x2 x3P x3N x3C x4 x5 x6 mark W R Φ J) : Calls Tryz.prog F.ledger_caused #[.agg #[.int .i64 x0, .int .i64 x1, .int .i64 x2, .slice x3P x3N x3C, .int .i64 x4, .int .i64 x5, .int .i64 x6], .int .i64 mark] w fun e w' => ∃ v, e = .returned v ∧ J v w' :=
  vcFS_sound (H := { keep := some [1, 2, 4, 6, 7, 18, 29], track := [2] }) (by rw [show vcFS Tryz.prog W { keep := some [1, 2, 4, 6, 7, 18, 29], track := [2] } F.ledger_caused #[.agg #[.int .i64 x0, .int .i64 x1, .int .i64 x2, .slice x3P x3N x3C, .int .i64 x4, .int .i64 x5, .int .i64 x6], .int .i64 mark] R Φ J = Bledger_caused x0 x1 x2 x3P x3N x3C x4 x5 x6 mark W R Φ J by kernel_rfl]; exact h) c

-- known blocks: 2 a, 3 b
def Bledger_ascends (a0 : Int) (a1 : Int) (a2 : Int) (a3P : Option Addr) (a3N a3C : Nat) (a4 : Int) (a5 : Int) (a6 : Int) (b0 : Int) (b1 : Int) (b2 : Int) (b3P : Option Addr) (b3N b3C : Nat) (b4 : Int) (b5 : Int) (b6 : Int) (W : World) (R : List Own) (Φ : PW) (J : Value → World → Prop) : Prop :=
  ∀ (b b : Nat), Br (decide (a2 < b2)) (∀ (w0 : World) (R1 : List Own), Ctx W w0 (R ++ R1) Φ → J (Value.bool true) w0) (Br (decide (a2 = b2)) (∀ (w2 : World) (R3 : List Own), Ctx W w2 (R ++
  R3) Φ → Calls Tryz.prog F.value_CompareRows #[Value.slice a3P a3N a3C, Value.slice b3P b3N b3C] w2 fun (e4 : Ending) (w5 : World) => ∃ (n6 : Int), e4 = Ending.returned (Value.int
  IntKind.i64 n6) ∧ ∃ (R7 : List Own), ∃ (Φ8 : PW), Stable Φ8 ∧ Ctx W w5 (R7 ++ R3) Φ8 ∧ ∀ (w9 : World) (R10 : List Own), Ctx W w9 (R7 ++ R10) Φ8 → J (Value.bool (decide (n6 < 0))) w9) (∀
  (w11 : World) (R12 : List Own), Ctx W w11 (R ++ R12) Φ → J (Value.bool false) w11))

theorem Bledger_ascends_run (a0 : Int) (a1 : Int) (a2 : Int) (a3P : Option Addr) (a3N a3C : Nat) (a4 : Int) (a5 : Int) (a6 : Int) (b0 : Int) (b1 : Int) (b2 : Int) (b3P : Option Addr) (b3N b3C : Nat) (b4 : Int) (b5 : Int) (b6 : Int) {W w : World} {R : List Own} {Φ : PW} [Stable Φ] {J : Value → World → Prop} (c : Ctx W w R Φ) (h : Bledger_ascends a0 a1 a2 a3P a3N a3C a4 a5 a6 b0 b1 b2 b3P b3N b3C b4 b5 b6 W R Φ J) : Calls Tryz.prog F.ledger_ascends #[.agg #[.int .i64 a0, .int .i64 a1, .int .i64 a2, .slice a3P a3N a3C, .int .i64 a4, .int .i64 a5, .int .i64 a6], .agg #[.int .i64 b0, .int .i64 b1, .int .i64 b2, .slice b3P b3N b3C, .int .i64 b4, .int .i64 b5, .int .i64 b6]] w fun e w' => ∃ v, e = .returned v ∧ J v w' :=
  vcFS_sound (H := { keep := some [2, 3, 4], track := [2, 3], split := [1] }) (by rw [show vcFS Tryz.prog W { keep := some [2, 3, 4], track := [2, 3], split := [1] } F.ledger_ascends #[.agg #[.int .i64 a0, .int .i64 a1, .int .i64 a2, .slice a3P a3N a3C, .int .i64 a4, .int .i64 a5, .int .i64 a6], .agg #[.int .i64 b0, .int .i64 b1, .int .i64 b2, .slice b3P b3N b3C, .int .i64 b4, .int .i64 b5, .int .i64 b6]] R Φ J = Bledger_ascends a0 a1 a2 a3P a3N a3C a4 a5 a6 b0 b1 b2 b3P b3N b3C b4 b5 b6 W R Φ J by kernel_rfl]; exact h) c

def Bslices_ContainsFunc_api_Line_api_Line (sP : Option Addr) (sN sC : Nat) (fF : FuncId) (fC : Array Value) (W : World) (R : List Own) (Φ : PW) (J : Value → World → Prop) : Prop :=
  ∀ (w0 : World) (R1 : List Own), Ctx W w0 (R ++ R1) Φ → Calls Tryz.prog F.slices_IndexFunc_api_Line_api_Line #[Value.slice sP sN sC, Value.func (Fn.func fF) #[] fC] w0 fun (e2 : Ending) (w3
  : World) => ∃ (n4 : Int), e2 = Ending.returned (Value.int IntKind.i64 n4) ∧ ∃ (R5 : List Own), ∃ (Φ6 : PW), Stable Φ6 ∧ Ctx W w3 (R5 ++ R1) Φ6 ∧ ∀ (w7 : World) (R8 : List Own), Ctx W w7 (R5
  ++ R8) Φ6 → J (Value.bool (decide (0 ≤ n4))) w7

theorem Bslices_ContainsFunc_api_Line_api_Line_run (sP : Option Addr) (sN sC : Nat) (fF : FuncId) (fC : Array Value) {W w : World} {R : List Own} {Φ : PW} [Stable Φ] {J : Value → World → Prop} (c : Ctx W w R Φ) (h : Bslices_ContainsFunc_api_Line_api_Line sP sN sC fF fC W R Φ J) : Calls Tryz.prog F.slices_ContainsFunc_api_Line_api_Line #[.slice sP sN sC, .func (.func fF) #[] fC] w fun e w' => ∃ v, e = .returned v ∧ J v w' :=
  vcFS_sound (H := { keep := some [0, 1, 4] }) (by rw [show vcFS Tryz.prog W { keep := some [0, 1, 4] } F.slices_ContainsFunc_api_Line_api_Line #[.slice sP sN sC, .func (.func fF) #[] fC] R Φ J = Bslices_ContainsFunc_api_Line_api_Line sP sN sC fF fC W R Φ J by kernel_rfl]; exact h) c

-- known blocks: 1 x
def Bledger_Ledger_check_1 (x0 : Int) (x1 : Int) (x2 : Int) (x3P : Option Addr) (x3N x3C : Nat) (x4 : Int) (x5 : Int) (x6 : Int) (W : World) (R : List Own) (Φ : PW) (J : Value → World → Prop) : Prop :=
  ∀ (b : Nat) (w0 : World) (R1 : List Own), Ctx W w0 (R ++ R1) Φ → Calls Tryz.prog F.value_RightRow #[Value.slice x3P x3N x3C] w0 fun (e2 : Ending) (w3 : World) => ∃ (c4 : Bool), e2 =
  Ending.returned (Value.bool c4) ∧ ∃ (R5 : List Own), ∃ (Φ6 : PW), Stable Φ6 ∧ Ctx W w3 (R5 ++ R1) Φ6 ∧ ∀ (w7 : World) (R8 : List Own), Ctx W w7 (R5 ++ R8) Φ6 → J (Value.bool !c4) w7

theorem Bledger_Ledger_check_1_run (x0 : Int) (x1 : Int) (x2 : Int) (x3P : Option Addr) (x3N x3C : Nat) (x4 : Int) (x5 : Int) (x6 : Int) {W w : World} {R : List Own} {Φ : PW} [Stable Φ] {J : Value → World → Prop} (c : Ctx W w R Φ) (h : Bledger_Ledger_check_1 x0 x1 x2 x3P x3N x3C x4 x5 x6 W R Φ J) : Calls Tryz.prog F.ledger_Ledger_check_1 #[.agg #[.int .i64 x0, .int .i64 x1, .int .i64 x2, .slice x3P x3N x3C, .int .i64 x4, .int .i64 x5, .int .i64 x6]] w fun e w' => ∃ v, e = .returned v ∧ J v w' :=
  vcFS_sound (H := { keep := some [1, 2], track := [1] }) (by rw [show vcFS Tryz.prog W { keep := some [1, 2], track := [1] } F.ledger_Ledger_check_1 #[.agg #[.int .i64 x0, .int .i64 x1, .int .i64 x2, .slice x3P x3N x3C, .int .i64 x4, .int .i64 x5, .int .i64 x6]] R Φ J = Bledger_Ledger_check_1 x0 x1 x2 x3P x3N x3C x4 x5 x6 W R Φ J by kernel_rfl]; exact h) c

def Bvalue_RightRow (rP : Option Addr) (rN rC : Nat) (W : World) (R : List Own) (Φ : PW) (J : Value → World → Prop) : Prop :=
  Br (decide ((↑rN : Int) ≤ 12)) (∀ (w0 : World) (R1 : List Own), Ctx W w0 (R ++ R1) Φ → Calls Tryz.prog F.value_all #[Value.slice rP rN rC] w0 fun (e2 : Ending) (w3 : World) => ∃ (c4 :
  Bool), e2 = Ending.returned (Value.bool c4) ∧ ∃ (R5 : List Own), ∃ (Φ6 : PW), Stable Φ6 ∧ Ctx W w3 (R5 ++ R1) Φ6 ∧ ∀ (w7 : World) (R8 : List Own), Ctx W w7 (R5 ++ R8) Φ6 → J (Value.bool c4)
  w7) (∀ (w9 : World) (R10 : List Own), Ctx W w9 (R ++ R10) Φ → J (Value.bool false) w9)

theorem Bvalue_RightRow_run (rP : Option Addr) (rN rC : Nat) {W w : World} {R : List Own} {Φ : PW} [Stable Φ] {J : Value → World → Prop} (c : Ctx W w R Φ) (h : Bvalue_RightRow rP rN rC W R Φ J) : Calls Tryz.prog F.value_RightRow #[.slice rP rN rC] w fun e w' => ∃ v, e = .returned v ∧ J v w' :=
  vcFS_sound (H := { keep := some [0, 2], split := [1] }) (by rw [show vcFS Tryz.prog W { keep := some [0, 2], split := [1] } F.value_RightRow #[.slice rP rN rC] R Φ J = Bvalue_RightRow rP rN rC W R Φ J by kernel_rfl]; exact h) c

def Bslices_Clone_api_Line_api_Line (sP : Option Addr) (sN sC : Nat) (W : World) (R : List Own) (Φ : PW) (J : Value → World → Prop) : Prop :=
  Br sP.isNone (∀ (w0 : World) (R1 : List Own), Ctx W w0 (R ++ R1) Φ → J (Value.slice none 0 0) w0) (∀ (k2 : Nat) (w3 : World) (R4 : List Own), Ctx W w3 (Own.blk k2 [] 51 :: R ++ R4) Φ → ∃
  (p5 : Option Addr), ∃ (k6 : Nat), ∃ (k7 : Nat), ∃ (w8 : World), Sem.run Tryz.prog (builtin Builtin.append #[31, 31] 31 #[false, false] #[Value.slice (some (Addr.mk k2 0 none)) 0 0,
  Value.slice sP sN sC]) w3 = Result.ok (Next.value (Value.slice p5 k6 k7)) w8 ∧ ∃ (R9 : List Own), ∃ (Φ10 : PW), Stable Φ10 ∧ Ctx W w8 (R9 ++ R4) Φ10 ∧ ∀ (w11 : World) (R12 : List Own), Ctx
  W w11 (R9 ++ R12) Φ10 → J (Value.slice p5 k6 k7) w11)

theorem Bslices_Clone_api_Line_api_Line_run (sP : Option Addr) (sN sC : Nat) {W w : World} {R : List Own} {Φ : PW} [Stable Φ] {J : Value → World → Prop} (c : Ctx W w R Φ) (h : Bslices_Clone_api_Line_api_Line sP sN sC W R Φ J) : Calls Tryz.prog F.slices_Clone_api_Line_api_Line #[.slice sP sN sC] w fun e w' => ∃ v, e = .returned v ∧ J v w' :=
  vcFS_sound (H := { keep := some [0, 2, 4] }) (by rw [show vcFS Tryz.prog W { keep := some [0, 2, 4] } F.slices_Clone_api_Line_api_Line #[.slice sP sN sC] R Φ J = Bslices_Clone_api_Line_api_Line sP sN sC W R Φ J by kernel_rfl]; exact h) c

-- known blocks: 2 a, 3 b
def Berrataref03_Compare (a0 : Int) (a1 : Int) (a2 : ByteArray) (b0 : Int) (b1 : Int) (b2 : ByteArray) (W : World) (R : List Own) (Φ : PW) (J : Value → World → Prop) : Prop :=
  ∀ (b b : Nat), Br (decide (a0 < b0)) (∀ (w0 : World) (R1 : List Own), Ctx W w0 (R ++ R1) Φ → J (Value.int IntKind.i64 (-1)) w0) (Br (decide (b0 < a0)) (∀ (w2 : World) (R3 : List Own), Ctx W
  w2 (R ++ R3) Φ → J (Value.int IntKind.i64 1) w2) (Br (decide (a1 < b1)) (∀ (w4 : World) (R5 : List Own), Ctx W w4 (R ++ R5) Φ → J (Value.int IntKind.i64 (-1)) w4) (Br (decide (b1 < a1)) (∀
  (w6 : World) (R7 : List Own), Ctx W w6 (R ++ R7) Φ → J (Value.int IntKind.i64 1) w6) (Br (Op.bytesLess (ByteArray.toList.loop a2 0 []) (ByteArray.toList.loop b2 0 [])) (∀ (w8 : World) (R9 :
  List Own), Ctx W w8 (R ++ R9) Φ → J (Value.int IntKind.i64 (-1)) w8) (∃ (c10 : Bool), (∀ (w11 : World), Sem.run Tryz.prog (binOp BinOp.gtr 9 (Value.string a2) (Value.string b2)) w11 =
  Result.ok (Value.bool c10) w11) ∧ Br c10 (∀ (w12 : World) (R13 : List Own), Ctx W w12 (R ++ R13) Φ → J (Value.int IntKind.i64 1) w12) (∀ (w14 : World) (R15 : List Own), Ctx W w14 (R ++ R15)
  Φ → J (Value.int IntKind.i64 0) w14))))))

theorem Berrataref03_Compare_run (a0 : Int) (a1 : Int) (a2 : ByteArray) (b0 : Int) (b1 : Int) (b2 : ByteArray) {W w : World} {R : List Own} {Φ : PW} [Stable Φ] {J : Value → World → Prop} (c : Ctx W w R Φ) (h : Berrataref03_Compare a0 a1 a2 b0 b1 b2 W R Φ J) : Calls Tryz.prog F.errataref03_Compare #[.agg #[.int .i64 a0, .int .i64 a1, .string a2], .agg #[.int .i64 b0, .int .i64 b1, .string b2]] w fun e w' => ∃ v, e = .returned v ∧ J v w' :=
  vcFS_sound (H := { keep := some [2, 3, 4, 9, 14, 19, 24, 29, 34], track := [2, 3] }) (by rw [show vcFS Tryz.prog W { keep := some [2, 3, 4, 9, 14, 19, 24, 29, 34], track := [2, 3] } F.errataref03_Compare #[.agg #[.int .i64 a0, .int .i64 a1, .string a2], .agg #[.int .i64 b0, .int .i64 b1, .string b2]] R Φ J = Berrataref03_Compare a0 a1 a2 b0 b1 b2 W R Φ J by kernel_rfl]; exact h) c

def Berrataref01_digits (n : Int) (W : World) (R : List Own) (Φ : PW) (J : Value → World → Prop) : Prop :=
  ((10 : Int) = 0 → False) ∧ I64 (48 - n.tmod 10) ∧ ∀ (k0 : Nat) (w1 : World) (R2 : List Own), Ctx W w1 (Own.blk k0 [Value.int IntKind.u8 (IntKind.u8.wrap (48 - n.tmod 10))] 5 :: R ++ R2) Φ →
  ∃ (s3 : ByteArray), ∃ (w4 : World), Sem.run Tryz.prog (convert 91 9 (Value.slice (some (Addr.mk k0 0 none)) 1 1)) w1 = Result.ok (Value.string s3) w4 ∧ ∃ (R5 : List Own), ∃ (Φ6 : PW),
  Stable Φ6 ∧ Ctx W w4 (R5 ++ R2) Φ6 ∧ Br (decide (-10 < n)) (∀ (w7 : World) (R8 : List Own), Ctx W w7 (R5 ++ R8) Φ6 → J (Value.string s3) w7) (((10 : Int) = 0 → False) ∧ I64 (n.tdiv 10) ∧ ∀
  (w9 : World) (R10 : List Own), Ctx W w9 (R5 ++ R10) Φ6 → Calls Tryz.prog F.errataref01_digits #[Value.int IntKind.i64 (n.tdiv 10)] w9 fun (e11 : Ending) (w12 : World) => ∃ (s13 :
  ByteArray), e11 = Ending.returned (Value.string s13) ∧ ∃ (R14 : List Own), ∃ (Φ15 : PW), Stable Φ15 ∧ Ctx W w12 (R14 ++ R10) Φ15 ∧ (s13.size + s3.size).le 9223372036854775807 ∧ ∀ (w16 :
  World) (R17 : List Own), Ctx W w16 (R14 ++ R17) Φ15 → J (Value.string (s13 ++ s3)) w16)

theorem Berrataref01_digits_run (n : Int) {W w : World} {R : List Own} {Φ : PW} [Stable Φ] {J : Value → World → Prop} (c : Ctx W w R Φ) (h : Berrataref01_digits n W R Φ J) : Calls Tryz.prog F.errataref01_digits #[.int .i64 n] w fun e w' => ∃ v, e = .returned v ∧ J v w' :=
  vcFS_sound (H := { keep := some [0, 2, 3, 11] }) (by rw [show vcFS Tryz.prog W { keep := some [0, 2, 3, 11] } F.errataref01_digits #[.int .i64 n] R Φ J = Berrataref01_digits n W R Φ J by kernel_rfl]; exact h) c

-- known blocks: 1 v
def Berrataref03_Bytes (v0 : Int) (v1 : Int) (v2 : ByteArray) (W : World) (R : List Own) (Φ : PW) (J : Value → World → Prop) : Prop :=
  ∀ (b : Nat), ∃ (R0 : List Own), ∃ (Φ1 : PW), Stable Φ1 ∧ (∀ (w2 : World) (R3 : List Own), Ctx W w2 (R ++ R3) Φ → Ctx W w2 (R0 ++ R3) Φ1) ∧ ∀ (w4 : World) (R5 : List Own), Ctx W w4 (R ++ R5)
  Φ → Calls Tryz.prog F.errataref01_Int #[Value.int IntKind.i64 v0] w4 fun (e6 : Ending) (w7 : World) => ∃ (s8 : ByteArray), e6 = Ending.returned (Value.string s8) ∧ ∃ (R9 : List Own), ∃ (Φ10
  : PW), Stable Φ10 ∧ Ctx W w7 (R9 ++ R5) Φ10 ∧ (∀ (w11 : World) (R12 : List Own), Ctx W w11 (R9 ++ R12) Φ10 → Ctx W w11 (R0 ++ R12) Φ1) ∧ ∀ (w13 : World) (R14 : List Own), Ctx W w13 (R9 ++
  R14) Φ10 → Calls Tryz.prog F.errataref01_Int #[Value.int IntKind.i64 v1] w13 fun (e15 : Ending) (w16 : World) => ∃ (s17 : ByteArray), e15 = Ending.returned (Value.string s17) ∧ ∃ (R18 :
  List Own), ∃ (Φ19 : PW), Stable Φ19 ∧ Ctx W w16 (R18 ++ R14) Φ19 ∧ (∀ (w20 : World) (R21 : List Own), Ctx W w20 (R18 ++ R21) Φ19 → Ctx W w20 (R0 ++ R21) Φ1) ∧ (s8.size + s17.size).le
  9223372036854775807 ∧ ∀ (w22 : World) (R23 : List Own), Ctx W w22 (R18 ++ R23) Φ19 → Calls Tryz.prog F.errataref01_Text #[Value.string v2] w22 fun (e24 : Ending) (w25 : World) => ∃ (s26 :
  ByteArray), e24 = Ending.returned (Value.string s26) ∧ ∃ (R27 : List Own), ∃ (Φ28 : PW), Stable Φ28 ∧ Ctx W w25 (R27 ++ R23) Φ28 ∧ (∀ (w29 : World) (R30 : List Own), Ctx W w29 (R27 ++ R30)
  Φ28 → Ctx W w29 (R0 ++ R30) Φ1) ∧ ((s8 ++ s17).size + s26.size).le 9223372036854775807 ∧ ∀ (w31 : World) (R32 : List Own), Ctx W w31 (R27 ++ R32) Φ28 → J (Value.string (s8 ++ s17 ++ s26))
  w31

theorem Berrataref03_Bytes_run (v0 : Int) (v1 : Int) (v2 : ByteArray) {W w : World} {R : List Own} {Φ : PW} [Stable Φ] {J : Value → World → Prop} (c : Ctx W w R Φ) (h : Berrataref03_Bytes v0 v1 v2 W R Φ J) : Calls Tryz.prog F.errataref03_Bytes #[.agg #[.int .i64 v0, .int .i64 v1, .string v2]] w fun e w' => ∃ v, e = .returned v ∧ J v w' :=
  vcFS_sound (H := { keep := some [1, 2], track := [1], stages := [(1, [.held [(0, true), (3, true), (7, true), (1, true), (4, true), (8, true), (2, false), (5, false), (6, true), (9, false)], .stage [10, 11] none])] }) (by rw [show vcFS Tryz.prog W { keep := some [1, 2], track := [1], stages := [(1, [.held [(0, true), (3, true), (7, true), (1, true), (4, true), (8, true), (2, false), (5, false), (6, true), (9, false)], .stage [10, 11] none])] } F.errataref03_Bytes #[.agg #[.int .i64 v0, .int .i64 v1, .string v2]] R Φ J = Berrataref03_Bytes v0 v1 v2 W R Φ J by kernel_rfl]; exact h) c

-- loop at region 8: 5 out, 6 i, 7 k; blocks 
def Berrataref28_sorted (lP : Option Addr) (lN lC : Nat) (W : World) (R : List Own) (Φ : PW) (J : Value → World → Prop) : Prop :=
  Br (decide ((↑lN : Int) < 2)) (∀ (w0 : World) (R1 : List Own), Ctx W w0 (R ++ R1) Φ → J (Value.slice lP lN lC) w0) (((2 : Int) = 0 → False) ∧ I64 ((↑lN : Int).tdiv 2) ∧ (0 ≤ (↑lN :
  Int).tdiv 2 ∧ (↑lN : Int).tdiv 2 ≤ (↑lC : Int)) ∧ ∀ (w2 : World) (R3 : List Own), Ctx W w2 (R ++ R3) Φ → Calls Tryz.prog F.errataref28_sorted #[Value.slice (subPtr lP 3 0 lC) ((↑lN :
  Int).tdiv 2).toNat lC] w2 fun (e4 : Ending) (w5 : World) => ∃ (p6 : Option Addr), ∃ (k7 : Nat), ∃ (k8 : Nat), e4 = Ending.returned (Value.slice p6 k7 k8) ∧ ∃ (R9 : List Own), ∃ (Φ10 : PW),
  Stable Φ10 ∧ Ctx W w5 (R9 ++ R3) Φ10 ∧ ((2 : Int) = 0 → False) ∧ I64 ((↑lN : Int).tdiv 2) ∧ (0 ≤ (↑lN : Int).tdiv 2 ∧ (↑lN : Int).tdiv 2 ≤ (↑lN : Int) ∧ lN ≤ lC) ∧ ∀ (w11 : World) (R12 :
  List Own), Ctx W w11 (R9 ++ R12) Φ10 → Calls Tryz.prog F.errataref28_sorted #[Value.slice (subPtr lP 3 ((↑lN : Int).tdiv 2).toNat lC) (lN - ((↑lN : Int).tdiv 2).toNat) (lC - ((↑lN :
  Int).tdiv 2).toNat)] w11 fun (e13 : Ending) (w14 : World) => ∃ (p15 : Option Addr), ∃ (k16 : Nat), ∃ (k17 : Nat), e13 = Ending.returned (Value.slice p15 k16 k17) ∧ ∃ (R18 : List Own), ∃
  (Φ19 : PW), Stable Φ19 ∧ Ctx W w14 (R18 ++ R12) Φ19 ∧ exI fun (I20 : Option Addr → Nat → Nat → Int → Int → List Own → PW → Nat → Prop) => (∃ (R21 : List Own), ∃ (Φ22 : PW), ∃ (k23 : Nat),
  Stable Φ22 ∧ (∀ (w24 : World) (R25 : List Own), Ctx W w24 (R18 ++ R25) Φ19 → Ctx W w24 (R21 ++ R25) Φ22) ∧ I20 none 0 0 0 0 R21 Φ22 k23) ∧ ∀ (p26 : Option Addr) (k27 k28 : Nat) (n29 n30 :
  Int) (R31 : List Own) (I32 : List Nat → World → Prop) (k33 : Nat), Stable I32 → I20 p26 k27 k28 n29 n30 R31 I32 k33 → ∀ (w34 : World) (R35 : List Own), Ctx W w34 (R31 ++ R35) I32 → Br
  (decide (n29 < (↑k7 : Int)) || decide (n30 < (↑k16 : Int))) (∀ (w36 : World) (R37 : List Own), Ctx W w36 (R31 ++ R37) I32 → Br (decide (n29 < (↑k7 : Int)) && decide (n30 < (↑k16 : Int))) (∃
  (R38 : List Own), ∃ (Φ39 : PW), Stable Φ39 ∧ (∀ (w40 : World) (R41 : List Own), Ctx W w40 (R31 ++ R41) I32 → Ctx W w40 (R38 ++ R41) Φ39) ∧ (0 ≤ n29 ∧ n29 < (↑k7 : Int)) ∧ ptrK none p6 fun
  (k42 k43 : Nat) => (0 ≤ n30 ∧ n30 < (↑k16 : Int)) ∧ ptrK none p15 fun (k44 k45 : Nat) => ∃ (n46 : Int), ∃ (p47 : Option Addr), ∃ (k48 : Nat), ∃ (k49 : Nat), ∃ (n50 : Int), (∀ (w51 : World)
  (R52 : List Own), Ctx W w51 (R38 ++ R52) Φ39 → ∃ (n53 : Int), ∃ (p54 : Option Addr), ∃ (k55 : Nat), ∃ (k56 : Nat), ∃ (n57 : Int), RowAt w51 k42 (k43 + n29.toNat * 3) [Value.int IntKind.i64
  n53, Value.slice p54 k55 k56, Value.int IntKind.i64 n57] ∧ Value.agg #[Value.int IntKind.i64 n53, Value.slice p54 k55 k56, Value.int IntKind.i64 n57] = Value.agg #[Value.int IntKind.i64
  n46, Value.slice p47 k48 k49, Value.int IntKind.i64 n50]) ∧ ∃ (n58 : Int), ∃ (p59 : Option Addr), ∃ (k60 : Nat), ∃ (k61 : Nat), ∃ (n62 : Int), (∀ (w63 : World) (R64 : List Own), Ctx W w63
  (R38 ++ R64) Φ39 → ∃ (n65 : Int), ∃ (p66 : Option Addr), ∃ (k67 : Nat), ∃ (k68 : Nat), ∃ (n69 : Int), RowAt w63 k44 (k45 + n30.toNat * 3) [Value.int IntKind.i64 n65, Value.slice p66 k67
  k68, Value.int IntKind.i64 n69] ∧ Value.agg #[Value.int IntKind.i64 n65, Value.slice p66 k67 k68, Value.int IntKind.i64 n69] = Value.agg #[Value.int IntKind.i64 n58, Value.slice p59 k60
  k61, Value.int IntKind.i64 n62]) ∧ ∀ (w70 : World) (R71 : List Own), Ctx W w70 (R31 ++ R71) I32 → Calls Tryz.prog F.errataref28_Compare #[Value.agg #[Value.int IntKind.i64 n46, Value.slice
  p47 k48 k49, Value.int IntKind.i64 n50], Value.agg #[Value.int IntKind.i64 n58, Value.slice p59 k60 k61, Value.int IntKind.i64 n62]] w70 fun (e72 : Ending) (w73 : World) => ∃ (n74 : Int),
  e72 = Ending.returned (Value.int IntKind.i64 n74) ∧ ∃ (R75 : List Own), ∃ (Φ76 : PW), Stable Φ76 ∧ Ctx W w73 (R75 ++ R71) Φ76 ∧ Br (decide (n74 ≤ 0)) ((0 ≤ n29 ∧ n29 < (↑k7 : Int)) ∧ ptrK
  none p6 fun (k77 k78 : Nat) => ∀ (w79 : World) (R80 : List Own), Ctx W w79 (R75 ++ R80) Φ76 → ∃ (n81 : Int), ∃ (p82 : Option Addr), ∃ (k83 : Nat), ∃ (k84 : Nat), ∃ (n85 : Int), RowAt w79
  k77 (k78 + n29.toNat * 3) [Value.int IntKind.i64 n81, Value.slice p82 k83 k84, Value.int IntKind.i64 n85] ∧ ∀ (k86 : Nat) (w87 : World) (R88 : List Own), Ctx W w87 (Own.blk k86 [Value.int
  IntKind.i64 n81, Value.slice p82 k83 k84, Value.int IntKind.i64 n85] 73 :: R75 ++ R88) Φ76 → ∃ (p89 : Option Addr), ∃ (k90 : Nat), ∃ (k91 : Nat), ∃ (w92 : World), Sem.run Tryz.prog (builtin
  Builtin.append #[44, 44] 44 #[false, false] #[Value.slice p26 k27 k28, Value.slice (some (Addr.mk k86 0 none)) 1 1]) w87 = Result.ok (Next.value (Value.slice p89 k90 k91)) w92 ∧ ∃ (R93 :
  List Own), ∃ (Φ94 : PW), Stable Φ94 ∧ Ctx W w92 (R93 ++ R88) Φ94 ∧ I64 (n29 + 1) ∧ ∃ (R95 : List Own), ∃ (Φ96 : PW), ∃ (k97 : Nat), Stable Φ96 ∧ (∀ (w98 : World) (R99 : List Own), Ctx W w98
  (R93 ++ R99) Φ94 → Ctx W w98 (R95 ++ R99) Φ96) ∧ I20 p89 k90 k91 (n29 + 1) n30 R95 Φ96 k97 ∧ k97 < k33) ((0 ≤ n30 ∧ n30 < (↑k16 : Int)) ∧ ptrK none p15 fun (k100 k101 : Nat) => ∀ (w102 :
  World) (R103 : List Own), Ctx W w102 (R75 ++ R103) Φ76 → ∃ (n104 : Int), ∃ (p105 : Option Addr), ∃ (k106 : Nat), ∃ (k107 : Nat), ∃ (n108 : Int), RowAt w102 k100 (k101 + n30.toNat * 3)
  [Value.int IntKind.i64 n104, Value.slice p105 k106 k107, Value.int IntKind.i64 n108] ∧ ∀ (k109 : Nat) (w110 : World) (R111 : List Own), Ctx W w110 (Own.blk k109 [Value.int IntKind.i64 n104,
  Value.slice p105 k106 k107, Value.int IntKind.i64 n108] 73 :: R75 ++ R111) Φ76 → ∃ (p112 : Option Addr), ∃ (k113 : Nat), ∃ (k114 : Nat), ∃ (w115 : World), Sem.run Tryz.prog (builtin
  Builtin.append #[44, 44] 44 #[false, false] #[Value.slice p26 k27 k28, Value.slice (some (Addr.mk k109 0 none)) 1 1]) w110 = Result.ok (Next.value (Value.slice p112 k113 k114)) w115 ∧ ∃
  (R116 : List Own), ∃ (Φ117 : PW), Stable Φ117 ∧ Ctx W w115 (R116 ++ R111) Φ117 ∧ I64 (n30 + 1) ∧ ∃ (R118 : List Own), ∃ (Φ119 : PW), ∃ (k120 : Nat), Stable Φ119 ∧ (∀ (w121 : World) (R122 :
  List Own), Ctx W w121 (R116 ++ R122) Φ117 → Ctx W w121 (R118 ++ R122) Φ119) ∧ I20 p112 k113 k114 n29 (n30 + 1) R118 Φ119 k120 ∧ k120 < k33)) (Br (decide ((↑k16 : Int) ≤ n30)) ((0 ≤ n29 ∧
  n29 < (↑k7 : Int)) ∧ ptrK none p6 fun (k123 k124 : Nat) => ∀ (w125 : World) (R126 : List Own), Ctx W w125 (R31 ++ R126) I32 → ∃ (n127 : Int), ∃ (p128 : Option Addr), ∃ (k129 : Nat), ∃ (k130
  : Nat), ∃ (n131 : Int), RowAt w125 k123 (k124 + n29.toNat * 3) [Value.int IntKind.i64 n127, Value.slice p128 k129 k130, Value.int IntKind.i64 n131] ∧ ∀ (k132 : Nat) (w133 : World) (R134 :
  List Own), Ctx W w133 (Own.blk k132 [Value.int IntKind.i64 n127, Value.slice p128 k129 k130, Value.int IntKind.i64 n131] 73 :: R31 ++ R134) I32 → ∃ (p135 : Option Addr), ∃ (k136 : Nat), ∃
  (k137 : Nat), ∃ (w138 : World), Sem.run Tryz.prog (builtin Builtin.append #[44, 44] 44 #[false, false] #[Value.slice p26 k27 k28, Value.slice (some (Addr.mk k132 0 none)) 1 1]) w133 =
  Result.ok (Next.value (Value.slice p135 k136 k137)) w138 ∧ ∃ (R139 : List Own), ∃ (Φ140 : PW), Stable Φ140 ∧ Ctx W w138 (R139 ++ R134) Φ140 ∧ I64 (n29 + 1) ∧ ∃ (R141 : List Own), ∃ (Φ142 :
  PW), ∃ (k143 : Nat), Stable Φ142 ∧ (∀ (w144 : World) (R145 : List Own), Ctx W w144 (R139 ++ R145) Φ140 → Ctx W w144 (R141 ++ R145) Φ142) ∧ I20 p135 k136 k137 (n29 + 1) n30 R141 Φ142 k143 ∧
  k143 < k33) ((0 ≤ n30 ∧ n30 < (↑k16 : Int)) ∧ ptrK none p15 fun (k146 k147 : Nat) => ∀ (w148 : World) (R149 : List Own), Ctx W w148 (R31 ++ R149) I32 → ∃ (n150 : Int), ∃ (p151 : Option
  Addr), ∃ (k152 : Nat), ∃ (k153 : Nat), ∃ (n154 : Int), RowAt w148 k146 (k147 + n30.toNat * 3) [Value.int IntKind.i64 n150, Value.slice p151 k152 k153, Value.int IntKind.i64 n154] ∧ ∀ (k155
  : Nat) (w156 : World) (R157 : List Own), Ctx W w156 (Own.blk k155 [Value.int IntKind.i64 n150, Value.slice p151 k152 k153, Value.int IntKind.i64 n154] 73 :: R31 ++ R157) I32 → ∃ (p158 :
  Option Addr), ∃ (k159 : Nat), ∃ (k160 : Nat), ∃ (w161 : World), Sem.run Tryz.prog (builtin Builtin.append #[44, 44] 44 #[false, false] #[Value.slice p26 k27 k28, Value.slice (some (Addr.mk
  k155 0 none)) 1 1]) w156 = Result.ok (Next.value (Value.slice p158 k159 k160)) w161 ∧ ∃ (R162 : List Own), ∃ (Φ163 : PW), Stable Φ163 ∧ Ctx W w161 (R162 ++ R157) Φ163 ∧ I64 (n30 + 1) ∧ ∃
  (R164 : List Own), ∃ (Φ165 : PW), ∃ (k166 : Nat), Stable Φ165 ∧ (∀ (w167 : World) (R168 : List Own), Ctx W w167 (R162 ++ R168) Φ163 → Ctx W w167 (R164 ++ R168) Φ165) ∧ I20 p158 k159 k160
  n29 (n30 + 1) R164 Φ165 k166 ∧ k166 < k33))) (∀ (w169 : World) (R170 : List Own), Ctx W w169 (R31 ++ R170) I32 → J (Value.slice p26 k27 k28) w169))

theorem Berrataref28_sorted_run (lP : Option Addr) (lN lC : Nat) {W w : World} {R : List Own} {Φ : PW} [Stable Φ] {J : Value → World → Prop} (c : Ctx W w R Φ) (h : Berrataref28_sorted lP lN lC W R Φ J) : Calls Tryz.prog F.errataref28_sorted #[.slice lP lN lC] w fun e w' => ∃ v, e = .returned v ∧ J v w' :=
  vcFS_sound (H := { keep := some [0, 2, 3, 4, 5, 6, 7, 8, 11, 34, 48, 59], stages := [(11, [.held [(0, true), (1, true), (4, true), (5, true), (2, true), (6, true), (3, true), (7, true)], .stage [] (some 8), .stage [9, 10] none])], loops := [(8, [(5, .one (.slice)), (6, .one (.int .i64)), (7, .one (.int .i64))], [])] }) (by rw [show vcFS Tryz.prog W { keep := some [0, 2, 3, 4, 5, 6, 7, 8, 11, 34, 48, 59], stages := [(11, [.held [(0, true), (1, true), (4, true), (5, true), (2, true), (6, true), (3, true), (7, true)], .stage [] (some 8), .stage [9, 10] none])], loops := [(8, [(5, .one (.slice)), (6, .one (.int .i64)), (7, .one (.int .i64))], [])] } F.errataref28_sorted #[.slice lP lN lC] R Φ J = Berrataref28_sorted lP lN lC W R Φ J by kernel_rfl]; exact h) c

-- known blocks: 2 d, 4 
def Berrataref28_clone (d0 : Int) (d1P : Option Addr) (d1N d1C : Nat) (d2 : Int) (n : Int) (W : World) (R : List Own) (Φ : PW) (J : Value → World → Prop) : Prop :=
  ∀ (b b : Nat), ∃ (R0 : List Own), ∃ (Φ1 : PW), Stable Φ1 ∧ (∀ (w2 : World) (R3 : List Own), Ctx W w2 (R ++ R3) Φ → Ctx W w2 (R0 ++ R3) Φ1) ∧ ∀ (k4 : Nat), (∀ (w5 : World) (R6 : List Own),
  Ctx W w5 (Own.blk k4 [] 71 :: R ++ R6) Φ → Ctx W w5 (R0 ++ R6) Φ1) ∧ ∀ (w7 : World) (R8 : List Own), Ctx W w7 (Own.blk k4 [] 71 :: R ++ R8) Φ → ∃ (p9 : Option Addr), ∃ (k10 : Nat), ∃ (k11 :
  Nat), ∃ (w12 : World), Sem.run Tryz.prog (builtin Builtin.append #[23, 23] 23 #[false, false] #[Value.slice (some (Addr.mk k4 0 none)) 0 0, Value.slice d1P d1N d1C]) w7 = Result.ok
  (Next.value (Value.slice p9 k10 k11)) w12 ∧ ∃ (R13 : List Own), ∃ (Φ14 : PW), Stable Φ14 ∧ Ctx W w12 (R13 ++ R8) Φ14 ∧ (∀ (w15 : World) (R16 : List Own), Ctx W w15 (R13 ++ R16) Φ14 → Ctx W
  w15 (R0 ++ R16) Φ1) ∧ ∀ (w17 : World) (R18 : List Own), Ctx W w17 (R13 ++ R18) Φ14 → J (Value.agg #[Value.int IntKind.i64 d0, Value.slice p9 k10 k11, Value.int IntKind.i64 n]) w17

theorem Berrataref28_clone_run (d0 : Int) (d1P : Option Addr) (d1N d1C : Nat) (d2 : Int) (n : Int) {W w : World} {R : List Own} {Φ : PW} [Stable Φ] {J : Value → World → Prop} (c : Ctx W w R Φ) (h : Berrataref28_clone d0 d1P d1N d1C d2 n W R Φ J) : Calls Tryz.prog F.errataref28_clone #[.agg #[.int .i64 d0, .slice d1P d1N d1C, .int .i64 d2], .int .i64 n] w fun e w' => ∃ v, e = .returned v ∧ J v w' :=
  vcFS_sound (H := { keep := some [1, 2, 4], track := [2, 4], stages := [(1, [.held [(0, true), (3, true), (6, true), (1, true), (4, true), (2, false), (5, false)], .stage [7] (some 8)])] }) (by rw [show vcFS Tryz.prog W { keep := some [1, 2, 4], track := [2, 4], stages := [(1, [.held [(0, true), (3, true), (6, true), (1, true), (4, true), (2, false), (5, false)], .stage [7] (some 8)])] } F.errataref28_clone #[.agg #[.int .i64 d0, .slice d1P d1N d1C, .int .i64 d2], .int .i64 n] R Φ J = Berrataref28_clone d0 d1P d1N d1C d2 n W R Φ J by kernel_rfl]; exact h) c

-- known blocks: 2 d
def Bdelta_Upto_1 (d0 : Int) (d1P : Option Addr) (d1N d1C : Nat) (d2 : Int) (kB kO : Nat) (W : World) (R : List Own) (Φ : PW) (J : Value → World → Prop) : Prop :=
  ∀ (b : Nat) (w0 : World) (R1 : List Own), Ctx W w0 (R ++ R1) Φ → ∃ (n2 : Int), w0.cell? (Addr.mk kB kO none) = some (Value.int IntKind.i64 n2) ∧ ∀ (w3 : World) (R4 : List Own), Ctx W w3 (R
  ++ R4) Φ → J (Value.bool (decide (n2 < d0))) w3

theorem Bdelta_Upto_1_run (d0 : Int) (d1P : Option Addr) (d1N d1C : Nat) (d2 : Int) (kB kO : Nat) {W w : World} {R : List Own} {Φ : PW} [Stable Φ] {J : Value → World → Prop} (c : Ctx W w R Φ) (h : Bdelta_Upto_1 d0 d1P d1N d1C d2 kB kO W R Φ J) : Calls Tryz.prog F.delta_Upto_1 #[.agg #[.int .i64 d0, .slice d1P d1N d1C, .int .i64 d2], .pointer (some ⟨kB, kO, none⟩)] w fun e w' => ∃ v, e = .returned v ∧ J v w' :=
  vcFS_sound (H := { keep := some [1, 2, 3], track := [2] }) (by rw [show vcFS Tryz.prog W { keep := some [1, 2, 3], track := [2] } F.delta_Upto_1 #[.agg #[.int .i64 d0, .slice d1P d1N d1C, .int .i64 d2], .pointer (some ⟨kB, kO, none⟩)] R Φ J = Bdelta_Upto_1 d0 d1P d1N d1C d2 kB kO W R Φ J by kernel_rfl]; exact h) c

-- loop at region 5: 5 i, 6 j; blocks 
-- known blocks: 7 v
def Bslices_DeleteFunc_api_Delta_api_Delta (sP : Option Addr) (sN sC : Nat) (delF : FuncId) (delC : Array Value) (W : World) (R : List Own) (Φ : PW) (J : Value → World → Prop) : Prop :=
  ∀ (w0 : World) (R1 : List Own), Ctx W w0 (R ++ R1) Φ → Calls Tryz.prog F.slices_IndexFunc_api_Delta_api_Delta #[Value.slice sP sN sC, Value.func (Fn.func delF) #[] delC] w0 fun (e2 :
  Ending) (w3 : World) => ∃ (n4 : Int), e2 = Ending.returned (Value.int IntKind.i64 n4) ∧ ∃ (R5 : List Own), ∃ (Φ6 : PW), Stable Φ6 ∧ Ctx W w3 (R5 ++ R1) Φ6 ∧ Br (decide (n4 = -1)) (∀ (w7 :
  World) (R8 : List Own), Ctx W w7 (R5 ++ R8) Φ6 → J (Value.slice sP sN sC) w7) (I64 (n4 + 1) ∧ exI fun (I9 : Int → Int → List Own → PW → Nat → Prop) => (∃ (R10 : List Own), ∃ (Φ11 : PW), ∃
  (k12 : Nat), Stable Φ11 ∧ (∀ (w13 : World) (R14 : List Own), Ctx W w13 (R5 ++ R14) Φ6 → Ctx W w13 (R10 ++ R14) Φ11) ∧ I9 n4 (n4 + 1) R10 Φ11 k12) ∧ ∀ (n15 n16 : Int) (R17 : List Own) (I18 :
  List Nat → World → Prop) (k19 : Nat), Stable I18 → I9 n15 n16 R17 I18 k19 → Br (decide (n16 < (↑sN : Int))) ((0 ≤ n16 ∧ n16 < (↑sN : Int)) ∧ ptrK none sP fun (k20 k21 : Nat) => ∀ (w22 :
  World) (R23 : List Own), Ctx W w22 (R17 ++ R23) I18 → ∃ (n24 : Int), ∃ (p25 : Option Addr), ∃ (k26 : Nat), ∃ (k27 : Nat), ∃ (n28 : Int), RowAt w22 k20 (k21 + n16.toNat * 3) [Value.int
  IntKind.i64 n24, Value.slice p25 k26 k27, Value.int IntKind.i64 n28] ∧ ∀ (b : Nat) (w29 : World) (R30 : List Own), Ctx W w29 (R17 ++ R30) I18 → okFun Tryz.prog delF = true ∧ Calls Tryz.prog
  delF (Array.mk (Value.agg #[Value.int IntKind.i64 n24, Value.slice p25 k26 k27, Value.int IntKind.i64 n28] :: delC.toList)) w29 fun (e31 : Ending) (w32 : World) => ∃ (c33 : Bool), e31 =
  Ending.returned (Value.bool c33) ∧ ∃ (R34 : List Own), ∃ (Φ35 : PW), Stable Φ35 ∧ Ctx W w32 (R34 ++ R30) Φ35 ∧ Br (!c33) ((0 ≤ n15 ∧ n15 < (↑sN : Int)) ∧ ptrK none sP fun (k36 k37 : Nat) =>
  ∀ (w38 : World) (R39 : List Own), Ctx W w38 (R34 ++ R39) Φ35 → CanWrite w38 k36 (k37 + n15.toNat * 3) 3 ∧ ∀ (w40 : World), w40 = w38.setCells k36 (k37 + n15.toNat * 3) [Value.int
  IntKind.i64 n24, Value.slice p25 k26 k27, Value.int IntKind.i64 n28] → ∃ (R41 : List Own), ∃ (Φ42 : PW), Stable Φ42 ∧ Ctx W w40 (R41 ++ R39) Φ42 ∧ I64 (n15 + 1) ∧ I64 (n16 + 1) ∧ ∃ (R43 :
  List Own), ∃ (Φ44 : PW), ∃ (k45 : Nat), Stable Φ44 ∧ (∀ (w46 : World) (R47 : List Own), Ctx W w46 (R41 ++ R47) Φ42 → Ctx W w46 (R43 ++ R47) Φ44) ∧ I9 (n15 + 1) (n16 + 1) R43 Φ44 k45 ∧ k45 <
  k19) (I64 (n16 + 1) ∧ ∃ (R48 : List Own), ∃ (Φ49 : PW), ∃ (k50 : Nat), Stable Φ49 ∧ (∀ (w51 : World) (R52 : List Own), Ctx W w51 (R34 ++ R52) Φ35 → Ctx W w51 (R48 ++ R52) Φ49) ∧ I9 n15 (n16
  + 1) R48 Φ49 k50 ∧ k50 < k19)) ((0 ≤ n15 ∧ n15 ≤ (↑sN : Int) ∧ sN ≤ sC) ∧ ∀ (w53 : World) (R54 : List Own), Ctx W w53 (R17 ++ R54) I18 → ∃ (w55 : World), Sem.run Tryz.prog (builtin
  Builtin.clear #[44] 0 #[false] #[Value.slice (subPtr sP 3 n15.toNat sC) (sN - n15.toNat) (sC - n15.toNat)]) w53 = Result.ok (Next.value (Value.tuple #[])) w55 ∧ ∃ (R56 : List Own), ∃ (Φ57 :
  PW), Stable Φ57 ∧ Ctx W w55 (R56 ++ R54) Φ57 ∧ (0 ≤ n15 ∧ n15 ≤ (↑sC : Int)) ∧ ∀ (w58 : World) (R59 : List Own), Ctx W w58 (R56 ++ R59) Φ57 → J (Value.slice (subPtr sP 3 0 sC) n15.toNat sC)
  w58))

theorem Bslices_DeleteFunc_api_Delta_api_Delta_run (sP : Option Addr) (sN sC : Nat) (delF : FuncId) (delC : Array Value) {W w : World} {R : List Own} {Φ : PW} [Stable Φ] {J : Value → World → Prop} (c : Ctx W w R Φ) (h : Bslices_DeleteFunc_api_Delta_api_Delta sP sN sC delF delC W R Φ J) : Calls Tryz.prog F.slices_DeleteFunc_api_Delta_api_Delta #[.slice sP sN sC, .func (.func delF) #[] delC] w fun e w' => ∃ v, e = .returned v ∧ J v w' :=
  vcFS_sound (H := { keep := some [0, 1, 4, 5, 6, 7, 12, 19, 29], wrap := [28], track := [7], loops := [(5, [(5, .one (.int .i64)), (6, .one (.int .i64))], [])] }) (by rw [show vcFS Tryz.prog W { keep := some [0, 1, 4, 5, 6, 7, 12, 19, 29], wrap := [28], track := [7], loops := [(5, [(5, .one (.int .i64)), (6, .one (.int .i64))], [])] } F.slices_DeleteFunc_api_Delta_api_Delta #[.slice sP sN sC, .func (.func delF) #[] delC] R Φ J = Bslices_DeleteFunc_api_Delta_api_Delta sP sN sC delF delC W R Φ J by kernel_rfl]; exact h) c

-- loop at region 2: 8 ; blocks 
def Bslices_IndexFunc_api_Line_api_Line (sP : Option Addr) (sN sC : Nat) (fF : FuncId) (fC : Array Value) (W : World) (R : List Own) (Φ : PW) (J : Value → World → Prop) : Prop :=
  exI fun (I0 : Int → List Own → PW → Nat → Prop) => (∃ (R1 : List Own), ∃ (Φ2 : PW), ∃ (k3 : Nat), Stable Φ2 ∧ (∀ (w4 : World) (R5 : List Own), Ctx W w4 (R ++ R5) Φ → Ctx W w4 (R1 ++ R5) Φ2)
  ∧ I0 0 R1 Φ2 k3) ∧ ∀ (n6 : Int) (R7 : List Own) (I8 : List Nat → World → Prop) (k9 : Nat), Stable I8 → I0 n6 R7 I8 k9 → Br (decide (n6 < (↑sN : Int))) ((0 ≤ n6 ∧ n6 < (↑sN : Int)) ∧ ptrK
  none sP fun (k10 k11 : Nat) => ∀ (w12 : World) (R13 : List Own), Ctx W w12 (R7 ++ R13) I8 → ∃ (n14 : Int), ∃ (n15 : Int), ∃ (n16 : Int), ∃ (p17 : Option Addr), ∃ (k18 : Nat), ∃ (k19 : Nat),
  ∃ (n20 : Int), ∃ (n21 : Int), ∃ (n22 : Int), RowAt w12 k10 (k11 + n6.toNat * 7) [Value.int IntKind.i64 n14, Value.int IntKind.i64 n15, Value.int IntKind.i64 n16, Value.slice p17 k18 k19,
  Value.int IntKind.i64 n20, Value.int IntKind.i64 n21, Value.int IntKind.i64 n22] ∧ ∀ (w23 : World) (R24 : List Own), Ctx W w23 (R7 ++ R24) I8 → okFun Tryz.prog fF = true ∧ Calls Tryz.prog
  fF (Array.mk (Value.agg #[Value.int IntKind.i64 n14, Value.int IntKind.i64 n15, Value.int IntKind.i64 n16, Value.slice p17 k18 k19, Value.int IntKind.i64 n20, Value.int IntKind.i64 n21,
  Value.int IntKind.i64 n22] :: fC.toList)) w23 fun (e25 : Ending) (w26 : World) => ∃ (c27 : Bool), e25 = Ending.returned (Value.bool c27) ∧ ∃ (R28 : List Own), ∃ (Φ29 : PW), Stable Φ29 ∧ Ctx
  W w26 (R28 ++ R24) Φ29 ∧ Br c27 (∀ (w30 : World) (R31 : List Own), Ctx W w30 (R28 ++ R31) Φ29 → J (Value.int IntKind.i64 n6) w30) (I64 (n6 + 1) ∧ ∃ (R32 : List Own), ∃ (Φ33 : PW), ∃ (k34 :
  Nat), Stable Φ33 ∧ (∀ (w35 : World) (R36 : List Own), Ctx W w35 (R28 ++ R36) Φ29 → Ctx W w35 (R32 ++ R36) Φ33) ∧ I0 (n6 + 1) R32 Φ33 k34 ∧ k34 < k9)) (∀ (w37 : World) (R38 : List Own), Ctx
  W w37 (R7 ++ R38) I8 → J (Value.int IntKind.i64 (-1)) w37)

theorem Bslices_IndexFunc_api_Line_api_Line_run (sP : Option Addr) (sN sC : Nat) (fF : FuncId) (fC : Array Value) {W w : World} {R : List Own} {Φ : PW} [Stable Φ] {J : Value → World → Prop} (c : Ctx W w R Φ) (h : Bslices_IndexFunc_api_Line_api_Line sP sN sC fF fC W R Φ J) : Calls Tryz.prog F.slices_IndexFunc_api_Line_api_Line #[.slice sP sN sC, .func (.func fF) #[] fC] w fun e w' => ∃ v, e = .returned v ∧ J v w' :=
  vcFS_sound (H := { keep := some [0, 1, 4, 5, 7, 8, 9, 16], wrap := [16], loops := [(2, [(8, .one (.int .i64))], [])] }) (by rw [show vcFS Tryz.prog W { keep := some [0, 1, 4, 5, 7, 8, 9, 16], wrap := [16], loops := [(2, [(8, .one (.int .i64))], [])] } F.slices_IndexFunc_api_Line_api_Line #[.slice sP sN sC, .func (.func fF) #[] fC] R Φ J = Bslices_IndexFunc_api_Line_api_Line sP sN sC fF fC W R Φ J by kernel_rfl]; exact h) c

def Bvalue_all (rP : Option Addr) (rN rC : Nat) (W : World) (R : List Own) (Φ : PW) (J : Value → World → Prop) : Prop :=
  ∀ (w0 : World) (R1 : List Own), Ctx W w0 (R ++ R1) Φ → Calls Tryz.prog F.slices_ContainsFunc_api_Value_api_Value #[Value.slice rP rN rC, Value.func (Fn.func 113) #[] #[]] w0 fun (e2 :
  Ending) (w3 : World) => ∃ (c4 : Bool), e2 = Ending.returned (Value.bool c4) ∧ ∃ (R5 : List Own), ∃ (Φ6 : PW), Stable Φ6 ∧ Ctx W w3 (R5 ++ R1) Φ6 ∧ ∀ (w7 : World) (R8 : List Own), Ctx W w7
  (R5 ++ R8) Φ6 → J (Value.bool !c4) w7

theorem Bvalue_all_run (rP : Option Addr) (rN rC : Nat) {W w : World} {R : List Own} {Φ : PW} [Stable Φ] {J : Value → World → Prop} (c : Ctx W w R Φ) (h : Bvalue_all rP rN rC W R Φ J) : Calls Tryz.prog F.value_all #[.slice rP rN rC] w fun e w' => ∃ v, e = .returned v ∧ J v w' :=
  vcFS_sound (H := { keep := some [0, 2] }) (by rw [show vcFS Tryz.prog W { keep := some [0, 2] } F.value_all #[.slice rP rN rC] R Φ J = Bvalue_all rP rN rC W R Φ J by kernel_rfl]; exact h) c

-- loop at region 2: 8 ; blocks 
def Bslices_IndexFunc_api_Delta_api_Delta (sP : Option Addr) (sN sC : Nat) (fF : FuncId) (fC : Array Value) (W : World) (R : List Own) (Φ : PW) (J : Value → World → Prop) : Prop :=
  exI fun (I0 : Int → List Own → PW → Nat → Prop) => (∃ (R1 : List Own), ∃ (Φ2 : PW), ∃ (k3 : Nat), Stable Φ2 ∧ (∀ (w4 : World) (R5 : List Own), Ctx W w4 (R ++ R5) Φ → Ctx W w4 (R1 ++ R5) Φ2)
  ∧ I0 0 R1 Φ2 k3) ∧ ∀ (n6 : Int) (R7 : List Own) (I8 : List Nat → World → Prop) (k9 : Nat), Stable I8 → I0 n6 R7 I8 k9 → Br (decide (n6 < (↑sN : Int))) ((0 ≤ n6 ∧ n6 < (↑sN : Int)) ∧ ptrK
  none sP fun (k10 k11 : Nat) => ∀ (w12 : World) (R13 : List Own), Ctx W w12 (R7 ++ R13) I8 → ∃ (n14 : Int), ∃ (p15 : Option Addr), ∃ (k16 : Nat), ∃ (k17 : Nat), ∃ (n18 : Int), RowAt w12 k10
  (k11 + n6.toNat * 3) [Value.int IntKind.i64 n14, Value.slice p15 k16 k17, Value.int IntKind.i64 n18] ∧ ∀ (w19 : World) (R20 : List Own), Ctx W w19 (R7 ++ R20) I8 → okFun Tryz.prog fF = true
  ∧ Calls Tryz.prog fF (Array.mk (Value.agg #[Value.int IntKind.i64 n14, Value.slice p15 k16 k17, Value.int IntKind.i64 n18] :: fC.toList)) w19 fun (e21 : Ending) (w22 : World) => ∃ (c23 :
  Bool), e21 = Ending.returned (Value.bool c23) ∧ ∃ (R24 : List Own), ∃ (Φ25 : PW), Stable Φ25 ∧ Ctx W w22 (R24 ++ R20) Φ25 ∧ Br c23 (∀ (w26 : World) (R27 : List Own), Ctx W w26 (R24 ++ R27)
  Φ25 → J (Value.int IntKind.i64 n6) w26) (I64 (n6 + 1) ∧ ∃ (R28 : List Own), ∃ (Φ29 : PW), ∃ (k30 : Nat), Stable Φ29 ∧ (∀ (w31 : World) (R32 : List Own), Ctx W w31 (R24 ++ R32) Φ25 → Ctx W
  w31 (R28 ++ R32) Φ29) ∧ I0 (n6 + 1) R28 Φ29 k30 ∧ k30 < k9)) (∀ (w33 : World) (R34 : List Own), Ctx W w33 (R7 ++ R34) I8 → J (Value.int IntKind.i64 (-1)) w33)

theorem Bslices_IndexFunc_api_Delta_api_Delta_run (sP : Option Addr) (sN sC : Nat) (fF : FuncId) (fC : Array Value) {W w : World} {R : List Own} {Φ : PW} [Stable Φ] {J : Value → World → Prop} (c : Ctx W w R Φ) (h : Bslices_IndexFunc_api_Delta_api_Delta sP sN sC fF fC W R Φ J) : Calls Tryz.prog F.slices_IndexFunc_api_Delta_api_Delta #[.slice sP sN sC, .func (.func fF) #[] fC] w fun e w' => ∃ v, e = .returned v ∧ J v w' :=
  vcFS_sound (H := { keep := some [0, 1, 4, 5, 7, 8, 9, 16], wrap := [16], loops := [(2, [(8, .one (.int .i64))], [])] }) (by rw [show vcFS Tryz.prog W { keep := some [0, 1, 4, 5, 7, 8, 9, 16], wrap := [16], loops := [(2, [(8, .one (.int .i64))], [])] } F.slices_IndexFunc_api_Delta_api_Delta #[.slice sP sN sC, .func (.func fF) #[] fC] R Φ J = Bslices_IndexFunc_api_Delta_api_Delta sP sN sC fF fC W R Φ J by kernel_rfl]; exact h) c

def Bslices_ContainsFunc_api_Value_api_Value (sP : Option Addr) (sN sC : Nat) (fF : FuncId) (fC : Array Value) (W : World) (R : List Own) (Φ : PW) (J : Value → World → Prop) : Prop :=
  ∀ (w0 : World) (R1 : List Own), Ctx W w0 (R ++ R1) Φ → Calls Tryz.prog F.slices_IndexFunc_api_Value_api_Value #[Value.slice sP sN sC, Value.func (Fn.func fF) #[] fC] w0 fun (e2 : Ending)
  (w3 : World) => ∃ (n4 : Int), e2 = Ending.returned (Value.int IntKind.i64 n4) ∧ ∃ (R5 : List Own), ∃ (Φ6 : PW), Stable Φ6 ∧ Ctx W w3 (R5 ++ R1) Φ6 ∧ ∀ (w7 : World) (R8 : List Own), Ctx W w7
  (R5 ++ R8) Φ6 → J (Value.bool (decide (0 ≤ n4))) w7

theorem Bslices_ContainsFunc_api_Value_api_Value_run (sP : Option Addr) (sN sC : Nat) (fF : FuncId) (fC : Array Value) {W w : World} {R : List Own} {Φ : PW} [Stable Φ] {J : Value → World → Prop} (c : Ctx W w R Φ) (h : Bslices_ContainsFunc_api_Value_api_Value sP sN sC fF fC W R Φ J) : Calls Tryz.prog F.slices_ContainsFunc_api_Value_api_Value #[.slice sP sN sC, .func (.func fF) #[] fC] w fun e w' => ∃ v, e = .returned v ∧ J v w' :=
  vcFS_sound (H := { keep := some [0, 1, 4] }) (by rw [show vcFS Tryz.prog W { keep := some [0, 1, 4] } F.slices_ContainsFunc_api_Value_api_Value #[.slice sP sN sC, .func (.func fF) #[] fC] R Φ J = Bslices_ContainsFunc_api_Value_api_Value sP sN sC fF fC W R Φ J by kernel_rfl]; exact h) c

-- known blocks: 1 v
def Bvalue_all_1 (v0 : Int) (v1 : Int) (v2 : ByteArray) (W : World) (R : List Own) (Φ : PW) (J : Value → World → Prop) : Prop :=
  ∀ (b : Nat) (w0 : World) (R1 : List Own), Ctx W w0 (R ++ R1) Φ → Calls Tryz.prog F.value_Right #[Value.agg #[Value.int IntKind.i64 v0, Value.int IntKind.i64 v1, Value.string v2]] w0 fun (e2
  : Ending) (w3 : World) => ∃ (c4 : Bool), e2 = Ending.returned (Value.bool c4) ∧ ∃ (R5 : List Own), ∃ (Φ6 : PW), Stable Φ6 ∧ Ctx W w3 (R5 ++ R1) Φ6 ∧ ∀ (w7 : World) (R8 : List Own), Ctx W w7
  (R5 ++ R8) Φ6 → J (Value.bool !c4) w7

theorem Bvalue_all_1_run (v0 : Int) (v1 : Int) (v2 : ByteArray) {W w : World} {R : List Own} {Φ : PW} [Stable Φ] {J : Value → World → Prop} (c : Ctx W w R Φ) (h : Bvalue_all_1 v0 v1 v2 W R Φ J) : Calls Tryz.prog F.value_all_1 #[.agg #[.int .i64 v0, .int .i64 v1, .string v2]] w fun e w' => ∃ v, e = .returned v ∧ J v w' :=
  vcFS_sound (H := { keep := some [1, 2], track := [1] }) (by rw [show vcFS Tryz.prog W { keep := some [1, 2], track := [1] } F.value_all_1 #[.agg #[.int .i64 v0, .int .i64 v1, .string v2]] R Φ J = Bvalue_all_1 v0 v1 v2 W R Φ J by kernel_rfl]; exact h) c

-- known blocks: 1 v
def Bvalue_Right (v0 : Int) (v1 : Int) (v2 : ByteArray) (W : World) (R : List Own) (Φ : PW) (J : Value → World → Prop) : Prop :=
  ∀ (b : Nat), Br (decide (v0 = 0)) (∃ (R0 : List Own), ∃ (Φ1 : PW), Stable Φ1 ∧ (∀ (w2 : World) (R3 : List Own), Ctx W w2 (R ++ R3) Φ → Ctx W w2 (R0 ++ R3) Φ1) ∧ ∀ (w4 : World) (R5 : List
  Own), Ctx W w4 (R ++ R5) Φ → Calls Tryz.prog F.value_Int #[Value.int IntKind.i64 v1] w4 fun (e6 : Ending) (w7 : World) => ∃ (n8 : Int), ∃ (n9 : Int), ∃ (s10 : ByteArray), e6 =
  Ending.returned (Value.agg #[Value.int IntKind.i64 n8, Value.int IntKind.i64 n9, Value.string s10]) ∧ ∃ (R11 : List Own), ∃ (Φ12 : PW), Stable Φ12 ∧ Ctx W w7 (R11 ++ R5) Φ12 ∧ (∀ (w13 :
  World) (R14 : List Own), Ctx W w13 (R11 ++ R14) Φ12 → Ctx W w13 (R0 ++ R14) Φ1) ∧ okAgg Tryz.prog 71 = true ∧ ∀ (w15 : World) (R16 : List Own), Ctx W w15 (R11 ++ R16) Φ12 → J (Value.bool
  (decide (v0 = n8) && (decide (v1 = n9) && (decide (v2 = s10) && true)))) w15) (Br (decide (v0 = 1)) (∃ (R17 : List Own), ∃ (Φ18 : PW), Stable Φ18 ∧ (∀ (w19 : World) (R20 : List Own), Ctx W
  w19 (R ++ R20) Φ → Ctx W w19 (R17 ++ R20) Φ18) ∧ ∀ (w21 : World) (R22 : List Own), Ctx W w21 (R ++ R22) Φ → Calls Tryz.prog F.value_Text #[Value.string v2] w21 fun (e23 : Ending) (w24 :
  World) => ∃ (n25 : Int), ∃ (n26 : Int), ∃ (s27 : ByteArray), e23 = Ending.returned (Value.agg #[Value.int IntKind.i64 n25, Value.int IntKind.i64 n26, Value.string s27]) ∧ ∃ (R28 : List
  Own), ∃ (Φ29 : PW), Stable Φ29 ∧ Ctx W w24 (R28 ++ R22) Φ29 ∧ (∀ (w30 : World) (R31 : List Own), Ctx W w30 (R28 ++ R31) Φ29 → Ctx W w30 (R17 ++ R31) Φ18) ∧ okAgg Tryz.prog 71 = true ∧ Br
  (decide (v0 = n25) && (decide (v1 = n26) && (decide (v2 = s27) && true))) (∀ (w32 : World) (R33 : List Own), Ctx W w32 (R28 ++ R33) Φ29 → J (Value.bool (decide ((↑v2.size : Int) ≤ 200)))
  w32) (∀ (w34 : World) (R35 : List Own), Ctx W w34 (R28 ++ R35) Φ29 → J (Value.bool false) w34)) (∃ (R36 : List Own), ∃ (Φ37 : PW), Stable Φ37 ∧ (∀ (w38 : World) (R39 : List Own), Ctx W w38
  (R ++ R39) Φ → Ctx W w38 (R36 ++ R39) Φ37) ∧ ∀ (w40 : World) (R41 : List Own), Ctx W w40 (R ++ R41) Φ → Calls Tryz.prog F.value_Bool #[Value.bool false] w40 fun (e42 : Ending) (w43 : World)
  => ∃ (n44 : Int), ∃ (n45 : Int), ∃ (s46 : ByteArray), e42 = Ending.returned (Value.agg #[Value.int IntKind.i64 n44, Value.int IntKind.i64 n45, Value.string s46]) ∧ ∃ (R47 : List Own), ∃
  (Φ48 : PW), Stable Φ48 ∧ Ctx W w43 (R47 ++ R41) Φ48 ∧ (∀ (w49 : World) (R50 : List Own), Ctx W w49 (R47 ++ R50) Φ48 → Ctx W w49 (R36 ++ R50) Φ37) ∧ ∃ (R51 : List Own), ∃ (Φ52 : PW), Stable
  Φ52 ∧ (∀ (w53 : World) (R54 : List Own), Ctx W w53 (R47 ++ R54) Φ48 → Ctx W w53 (R51 ++ R54) Φ52) ∧ okAgg Tryz.prog 71 = true ∧ Br (decide (v0 = n44) && (decide (v1 = n45) && (decide (v2 =
  s46) && true))) (∀ (w55 : World) (R56 : List Own), Ctx W w55 (R47 ++ R56) Φ48 → J (Value.bool true) w55) (∀ (w57 : World) (R58 : List Own), Ctx W w57 (R47 ++ R58) Φ48 → Calls Tryz.prog
  F.value_Bool #[Value.bool true] w57 fun (e59 : Ending) (w60 : World) => ∃ (n61 : Int), ∃ (n62 : Int), ∃ (s63 : ByteArray), e59 = Ending.returned (Value.agg #[Value.int IntKind.i64 n61,
  Value.int IntKind.i64 n62, Value.string s63]) ∧ ∃ (R64 : List Own), ∃ (Φ65 : PW), Stable Φ65 ∧ Ctx W w60 (R64 ++ R58) Φ65 ∧ (∀ (w66 : World) (R67 : List Own), Ctx W w66 (R64 ++ R67) Φ65 →
  Ctx W w66 (R51 ++ R67) Φ52) ∧ okAgg Tryz.prog 71 = true ∧ ∀ (w68 : World) (R69 : List Own), Ctx W w68 (R64 ++ R69) Φ65 → J (Value.bool (decide (v0 = n61) && (decide (v1 = n62) && (decide
  (v2 = s63) && true)))) w68)))

theorem Bvalue_Right_run (v0 : Int) (v1 : Int) (v2 : ByteArray) {W w : World} {R : List Own} {Φ : PW} [Stable Φ] {J : Value → World → Prop} (c : Ctx W w R Φ) (h : Bvalue_Right v0 v1 v2 W R Φ J) : Calls Tryz.prog F.value_Right #[.agg #[.int .i64 v0, .int .i64 v1, .string v2]] w fun e w' => ∃ v, e = .returned v ∧ J v w' :=
  vcFS_sound (H := { keep := some [1, 2, 4, 5, 12], track := [1], stages := [(3, [.held [(0, true), (1, true), (2, true), (3, false)], .stage [4, 5] none]), (5, [.held [(0, true), (1, true), (2, true), (3, false)], .stage [4, 5, 6, 7, 8, 9, 10, 11] none]), (6, [.held [(0, true), (1, false)], .held [(2, true), (3, true), (4, true), (5, false)], .stage [6, 7, 8] none])] }) (by rw [show vcFS Tryz.prog W { keep := some [1, 2, 4, 5, 12], track := [1], stages := [(3, [.held [(0, true), (1, true), (2, true), (3, false)], .stage [4, 5] none]), (5, [.held [(0, true), (1, true), (2, true), (3, false)], .stage [4, 5, 6, 7, 8, 9, 10, 11] none]), (6, [.held [(0, true), (1, false)], .held [(2, true), (3, true), (4, true), (5, false)], .stage [6, 7, 8] none])] } F.value_Right #[.agg #[.int .i64 v0, .int .i64 v1, .string v2]] R Φ J = Bvalue_Right v0 v1 v2 W R Φ J by kernel_rfl]; exact h) c

-- loop at region 2: 8 ; blocks 
def Bslices_IndexFunc_api_Value_api_Value (sP : Option Addr) (sN sC : Nat) (fF : FuncId) (fC : Array Value) (W : World) (R : List Own) (Φ : PW) (J : Value → World → Prop) : Prop :=
  exI fun (I0 : Int → List Own → PW → Nat → Prop) => (∃ (R1 : List Own), ∃ (Φ2 : PW), ∃ (k3 : Nat), Stable Φ2 ∧ (∀ (w4 : World) (R5 : List Own), Ctx W w4 (R ++ R5) Φ → Ctx W w4 (R1 ++ R5) Φ2)
  ∧ I0 0 R1 Φ2 k3) ∧ ∀ (n6 : Int) (R7 : List Own) (I8 : List Nat → World → Prop) (k9 : Nat), Stable I8 → I0 n6 R7 I8 k9 → Br (decide (n6 < (↑sN : Int))) ((0 ≤ n6 ∧ n6 < (↑sN : Int)) ∧ ptrK
  none sP fun (k10 k11 : Nat) => ∀ (w12 : World) (R13 : List Own), Ctx W w12 (R7 ++ R13) I8 → ∃ (n14 : Int), ∃ (n15 : Int), ∃ (s16 : ByteArray), RowAt w12 k10 (k11 + n6.toNat * 3) [Value.int
  IntKind.i64 n14, Value.int IntKind.i64 n15, Value.string s16] ∧ ∀ (w17 : World) (R18 : List Own), Ctx W w17 (R7 ++ R18) I8 → okFun Tryz.prog fF = true ∧ Calls Tryz.prog fF (Array.mk
  (Value.agg #[Value.int IntKind.i64 n14, Value.int IntKind.i64 n15, Value.string s16] :: fC.toList)) w17 fun (e19 : Ending) (w20 : World) => ∃ (c21 : Bool), e19 = Ending.returned (Value.bool
  c21) ∧ ∃ (R22 : List Own), ∃ (Φ23 : PW), Stable Φ23 ∧ Ctx W w20 (R22 ++ R18) Φ23 ∧ Br c21 (∀ (w24 : World) (R25 : List Own), Ctx W w24 (R22 ++ R25) Φ23 → J (Value.int IntKind.i64 n6) w24)
  (I64 (n6 + 1) ∧ ∃ (R26 : List Own), ∃ (Φ27 : PW), ∃ (k28 : Nat), Stable Φ27 ∧ (∀ (w29 : World) (R30 : List Own), Ctx W w29 (R22 ++ R30) Φ23 → Ctx W w29 (R26 ++ R30) Φ27) ∧ I0 (n6 + 1) R26
  Φ27 k28 ∧ k28 < k9)) (∀ (w31 : World) (R32 : List Own), Ctx W w31 (R7 ++ R32) I8 → J (Value.int IntKind.i64 (-1)) w31)

theorem Bslices_IndexFunc_api_Value_api_Value_run (sP : Option Addr) (sN sC : Nat) (fF : FuncId) (fC : Array Value) {W w : World} {R : List Own} {Φ : PW} [Stable Φ] {J : Value → World → Prop} (c : Ctx W w R Φ) (h : Bslices_IndexFunc_api_Value_api_Value sP sN sC fF fC W R Φ J) : Calls Tryz.prog F.slices_IndexFunc_api_Value_api_Value #[.slice sP sN sC, .func (.func fF) #[] fC] w fun e w' => ∃ v, e = .returned v ∧ J v w' :=
  vcFS_sound (H := { keep := some [0, 1, 4, 5, 7, 8, 9, 16], wrap := [16], loops := [(2, [(8, .one (.int .i64))], [])] }) (by rw [show vcFS Tryz.prog W { keep := some [0, 1, 4, 5, 7, 8, 9, 16], wrap := [16], loops := [(2, [(8, .one (.int .i64))], [])] } F.slices_IndexFunc_api_Value_api_Value #[.slice sP sN sC, .func (.func fF) #[] fC] R Φ J = Bslices_IndexFunc_api_Value_api_Value sP sN sC fF fC W R Φ J by kernel_rfl]; exact h) c

-- known blocks: 2 
def Bvalue_Int (n : Int) (W : World) (R : List Own) (Φ : PW) (J : Value → World → Prop) : Prop :=
  ∀ (b : Nat) (w0 : World) (R1 : List Own), Ctx W w0 (R ++ R1) Φ → J (Value.agg #[Value.int IntKind.i64 0, Value.int IntKind.i64 n, Value.string (ByteArray.mk #[])]) w0

theorem Bvalue_Int_run (n : Int) {W w : World} {R : List Own} {Φ : PW} [Stable Φ] {J : Value → World → Prop} (c : Ctx W w R Φ) (h : Bvalue_Int n W R Φ J) : Calls Tryz.prog F.value_Int #[.int .i64 n] w fun e w' => ∃ v, e = .returned v ∧ J v w' :=
  vcFS_sound (H := { keep := some [0, 2], track := [2] }) (by rw [show vcFS Tryz.prog W { keep := some [0, 2], track := [2] } F.value_Int #[.int .i64 n] R Φ J = Bvalue_Int n W R Φ J by kernel_rfl]; exact h) c

-- known blocks: 2 
def Bvalue_Text (s : ByteArray) (W : World) (R : List Own) (Φ : PW) (J : Value → World → Prop) : Prop :=
  ∀ (b : Nat) (w0 : World) (R1 : List Own), Ctx W w0 (R ++ R1) Φ → J (Value.agg #[Value.int IntKind.i64 1, Value.int IntKind.i64 0, Value.string s]) w0

theorem Bvalue_Text_run (s : ByteArray) {W w : World} {R : List Own} {Φ : PW} [Stable Φ] {J : Value → World → Prop} (c : Ctx W w R Φ) (h : Bvalue_Text s W R Φ J) : Calls Tryz.prog F.value_Text #[.string s] w fun e w' => ∃ v, e = .returned v ∧ J v w' :=
  vcFS_sound (H := { keep := some [0, 2], track := [2] }) (by rw [show vcFS Tryz.prog W { keep := some [0, 2], track := [2] } F.value_Text #[.string s] R Φ J = Bvalue_Text s W R Φ J by kernel_rfl]; exact h) c

-- known blocks: 2 
def Bvalue_Bool (b : Bool) (W : World) (R : List Own) (Φ : PW) (J : Value → World → Prop) : Prop :=
  ∀ (b_1 : Nat), Br b (∀ (w0 : World) (R1 : List Own), Ctx W w0 (R ++ R1) Φ → J (Value.agg #[Value.int IntKind.i64 2, Value.int IntKind.i64 1, Value.string (ByteArray.mk #[])]) w0) (∀ (w2 :
  World) (R3 : List Own), Ctx W w2 (R ++ R3) Φ → J (Value.agg #[Value.int IntKind.i64 2, Value.int IntKind.i64 0, Value.string (ByteArray.mk #[])]) w2)

theorem Bvalue_Bool_run (b : Bool) {W w : World} {R : List Own} {Φ : PW} [Stable Φ] {J : Value → World → Prop} (c : Ctx W w R Φ) (h : Bvalue_Bool b W R Φ J) : Calls Tryz.prog F.value_Bool #[.bool b] w fun e w' => ∃ v, e = .returned v ∧ J v w' :=
  vcFS_sound (H := { keep := some [0, 2, 3], track := [2] }) (by rw [show vcFS Tryz.prog W { keep := some [0, 2, 3], track := [2] } F.value_Bool #[.bool b] R Φ J = Bvalue_Bool b W R Φ J by kernel_rfl]; exact h) c

end Go.Proofs.YtbkpfhhhbhaecaaGreatDoor
end

