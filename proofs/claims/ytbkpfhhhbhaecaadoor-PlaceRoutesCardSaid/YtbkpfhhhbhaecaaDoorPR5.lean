/-
  The conditions of the walks of some functions, one formula each; 'B<f>_run' says that they suffice. The formulas are printed by a program; the kernel compares them with the functions' code.
-/
import Derived.Test.YtbkpfhhhbhaecaaDoorPR4
import Derived.Lib.Bytealg

section
namespace Go.Proofs.YtbkpfhhhbhaecaaDoor
set_option linter.unusedVariables false
set_option linter.unusedSimpArgs false
set_option maxRecDepth 100000
open Go.Vc

/-- erratalaw37.small -/
def Berratalaw37_small  (W : World) (R : List Own) (Φ : PW) (J : Value → World → Prop) : Prop :=
  ∀ (w0 : World) (R1 : List Own), Ctx W w0 (R ++ R1) Φ → Calls Tryd.prog F.place_Bucket #[Value.slice none 0 0] w0 fun (e2 : Ending) (w3 : World) => ∃ (n4 : Int), e2 = Ending.returned
  (Value.int IntKind.i64 n4) ∧ ∃ (R5 : List Own), ∃ (Φ6 : PW), Stable Φ6 ∧ Ctx W w3 (R5 ++ R1) Φ6 ∧ Br (decide (n4 = 11)) (∀ (k7 : Nat) (w8 : World) (R9 : List Own), Ctx W w8 (Own.blk k7
  [Value.int IntKind.i64 0, Value.int IntKind.i64 0, Value.string (ByteArray.mk #[])] 99 :: R5 ++ R9) Φ6 → Calls Tryd.prog F.place_Bucket #[Value.slice (some (Addr.mk k7 0 none)) 1 1] w8 fun
  (e10 : Ending) (w11 : World) => ∃ (n12 : Int), e10 = Ending.returned (Value.int IntKind.i64 n12) ∧ ∃ (R13 : List Own), ∃ (Φ14 : PW), Stable Φ14 ∧ Ctx W w11 (R13 ++ R9) Φ14 ∧ ∀ (w15 : World)
  (R16 : List Own), Ctx W w15 (R13 ++ R16) Φ14 → Calls Tryd.prog F.place_Even #[Value.int IntKind.i64 3] w15 fun (e17 : Ending) (w18 : World) => ∃ (p19 : Option Addr), ∃ (k20 : Nat), ∃ (k21 :
  Nat), e17 = Ending.returned (Value.slice p19 k20 k21) ∧ ∃ (R22 : List Own), ∃ (Φ23 : PW), Stable Φ23 ∧ Ctx W w18 (R22 ++ R16) Φ23 ∧ ∀ (k24 : Nat) (w25 : World) (R26 : List Own), Ctx W w25
  (Own.blk k24 [Value.int IntKind.i64 0, Value.int IntKind.i64 0, Value.int IntKind.i64 0, Value.int IntKind.i64 0, Value.int IntKind.i64 0, Value.int IntKind.i64 0, Value.int IntKind.i64 1,
  Value.int IntKind.i64 1, Value.int IntKind.i64 1, Value.int IntKind.i64 1, Value.int IntKind.i64 1, Value.int IntKind.i64 2, Value.int IntKind.i64 2, Value.int IntKind.i64 2, Value.int
  IntKind.i64 2, Value.int IntKind.i64 2] 3 :: R22 ++ R26) Φ23 → Calls Tryd.prog F.errataref37_SameInts #[Value.slice p19 k20 k21, Value.slice (some (Addr.mk k24 0 none)) 16 16] w25 fun (e27
  : Ending) (w28 : World) => ∃ (c29 : Bool), e27 = Ending.returned (Value.bool c29) ∧ ∃ (R30 : List Own), ∃ (Φ31 : PW), Stable Φ31 ∧ Ctx W w28 (R30 ++ R26) Φ31 ∧ ∀ (w32 : World) (R33 : List
  Own), Ctx W w32 (R30 ++ R33) Φ31 → Calls Tryd.prog F.place_Even #[Value.int IntKind.i64 3] w32 fun (e34 : Ending) (w35 : World) => ∃ (p36 : Option Addr), ∃ (k37 : Nat), ∃ (k38 : Nat), e34 =
  Ending.returned (Value.slice p36 k37 k38) ∧ ∃ (R39 : List Own), ∃ (Φ40 : PW), Stable Φ40 ∧ Ctx W w35 (R39 ++ R33) Φ40 ∧ ∀ (w41 : World) (R42 : List Own), Ctx W w41 (R39 ++ R42) Φ40 → Calls
  Tryd.prog F.place_Spread #[Value.slice p36 k37 k38, Value.int IntKind.i64 2] w41 fun (e43 : Ending) (w44 : World) => ∃ (p45 : Option Addr), ∃ (k46 : Nat), ∃ (k47 : Nat), ∃ (n48 : Int), e43
  = Ending.returned (Value.tuple #[Value.slice p45 k46 k47, Value.int IntKind.i64 n48]) ∧ ∃ (R49 : List Own), ∃ (Φ50 : PW), Stable Φ50 ∧ Ctx W w44 (R49 ++ R42) Φ50 ∧ Br (decide (n12 = 8)) (Br
  c29 (Br (decide (n48 = 0)) (∀ (k51 : Nat) (w52 : World) (R53 : List Own), Ctx W w52 (Own.blk k51 [Value.int IntKind.i64 0, Value.int IntKind.i64 0, Value.int IntKind.i64 0, Value.int
  IntKind.i64 0, Value.int IntKind.i64 0, Value.int IntKind.i64 0, Value.int IntKind.i64 1, Value.int IntKind.i64 1, Value.int IntKind.i64 1, Value.int IntKind.i64 1, Value.int IntKind.i64 1,
  Value.int IntKind.i64 0, Value.int IntKind.i64 0, Value.int IntKind.i64 1, Value.int IntKind.i64 1, Value.int IntKind.i64 1] 3 :: R49 ++ R53) Φ50 → Calls Tryd.prog F.errataref37_SameInts
  #[Value.slice p45 k46 k47, Value.slice (some (Addr.mk k51 0 none)) 16 16] w52 fun (e54 : Ending) (w55 : World) => ∃ (c56 : Bool), e54 = Ending.returned (Value.bool c56) ∧ ∃ (R57 : List
  Own), ∃ (Φ58 : PW), Stable Φ58 ∧ Ctx W w55 (R57 ++ R53) Φ58 ∧ ∀ (w59 : World) (R60 : List Own), Ctx W w59 (R57 ++ R60) Φ58 → J (Value.bool c56) w59) (∀ (w61 : World) (R62 : List Own), Ctx W
  w61 (R49 ++ R62) Φ50 → J (Value.bool false) w61)) (∀ (w63 : World) (R64 : List Own), Ctx W w63 (R49 ++ R64) Φ50 → J (Value.bool false) w63)) (∀ (w65 : World) (R66 : List Own), Ctx W w65
  (R49 ++ R66) Φ50 → J (Value.bool false) w65)) (∀ (w67 : World) (R68 : List Own), Ctx W w67 (R5 ++ R68) Φ6 → Calls Tryd.prog F.place_Even #[Value.int IntKind.i64 3] w67 fun (e69 : Ending)
  (w70 : World) => ∃ (p71 : Option Addr), ∃ (k72 : Nat), ∃ (k73 : Nat), e69 = Ending.returned (Value.slice p71 k72 k73) ∧ ∃ (R74 : List Own), ∃ (Φ75 : PW), Stable Φ75 ∧ Ctx W w70 (R74 ++ R68)
  Φ75 ∧ ∀ (k76 : Nat) (w77 : World) (R78 : List Own), Ctx W w77 (Own.blk k76 [Value.int IntKind.i64 0, Value.int IntKind.i64 0, Value.int IntKind.i64 0, Value.int IntKind.i64 0, Value.int
  IntKind.i64 0, Value.int IntKind.i64 0, Value.int IntKind.i64 1, Value.int IntKind.i64 1, Value.int IntKind.i64 1, Value.int IntKind.i64 1, Value.int IntKind.i64 1, Value.int IntKind.i64 2,
  Value.int IntKind.i64 2, Value.int IntKind.i64 2, Value.int IntKind.i64 2, Value.int IntKind.i64 2] 3 :: R74 ++ R78) Φ75 → Calls Tryd.prog F.errataref37_SameInts #[Value.slice p71 k72 k73,
  Value.slice (some (Addr.mk k76 0 none)) 16 16] w77 fun (e79 : Ending) (w80 : World) => ∃ (c81 : Bool), e79 = Ending.returned (Value.bool c81) ∧ ∃ (R82 : List Own), ∃ (Φ83 : PW), Stable Φ83
  ∧ Ctx W w80 (R82 ++ R78) Φ83 ∧ ∀ (w84 : World) (R85 : List Own), Ctx W w84 (R82 ++ R85) Φ83 → Calls Tryd.prog F.place_Even #[Value.int IntKind.i64 3] w84 fun (e86 : Ending) (w87 : World) =>
  ∃ (p88 : Option Addr), ∃ (k89 : Nat), ∃ (k90 : Nat), e86 = Ending.returned (Value.slice p88 k89 k90) ∧ ∃ (R91 : List Own), ∃ (Φ92 : PW), Stable Φ92 ∧ Ctx W w87 (R91 ++ R85) Φ92 ∧ ∀ (w93 :
  World) (R94 : List Own), Ctx W w93 (R91 ++ R94) Φ92 → Calls Tryd.prog F.place_Spread #[Value.slice p88 k89 k90, Value.int IntKind.i64 2] w93 fun (e95 : Ending) (w96 : World) => ∃ (p97 :
  Option Addr), ∃ (k98 : Nat), ∃ (k99 : Nat), ∃ (n100 : Int), e95 = Ending.returned (Value.tuple #[Value.slice p97 k98 k99, Value.int IntKind.i64 n100]) ∧ ∃ (R101 : List Own), ∃ (Φ102 : PW),
  Stable Φ102 ∧ Ctx W w96 (R101 ++ R94) Φ102 ∧ ∀ (w103 : World) (R104 : List Own), Ctx W w103 (R101 ++ R104) Φ102 → J (Value.bool false) w103)

theorem Berratalaw37_small_run  {W w : World} {R : List Own} {Φ : PW} [Stable Φ] {J : Value → World → Prop} (c : Ctx W w R Φ) (h : Berratalaw37_small  W R Φ J) : Calls Tryd.prog F.erratalaw37_small #[] w fun e w' => ∃ v, e = .returned v ∧ J v w' :=
  vcFS_sound (H := { keep := some [0, 1, 2, 3, 4], split := [1, 4] }) (by rw [show vcFS Tryd.prog W { keep := some [0, 1, 2, 3, 4], split := [1, 4] } F.erratalaw37_small #[] R Φ J = Berratalaw37_small  W R Φ J by kernel_rfl]; exact h) c

/-- place.Right -/
def Bplace_Right (pP : Option Addr) (pN pC : Nat) (workers : Int) (W : World) (R : List Own) (Φ : PW) (J : Value → World → Prop) : Prop :=
  Br (decide (1 ≤ workers)) (Br (decide (workers ≤ 8)) (Br (decide ((↑pN : Int) = 16)) (∀ (w0 : World) (R1 : List Own), Ctx W w0 (R ++ R1) Φ → Calls Tryd.prog F.slices_Min_int_int
  #[Value.slice pP pN pC] w0 fun (e2 : Ending) (w3 : World) => ∃ (n4 : Int), e2 = Ending.returned (Value.int IntKind.i64 n4) ∧ ∃ (R5 : List Own), ∃ (Φ6 : PW), Stable Φ6 ∧ Ctx W w3 (R5 ++ R1)
  Φ6 ∧ Br (decide (0 ≤ n4)) (∀ (w7 : World) (R8 : List Own), Ctx W w7 (R5 ++ R8) Φ6 → Calls Tryd.prog F.slices_Max_int_int #[Value.slice pP pN pC] w7 fun (e9 : Ending) (w10 : World) => ∃ (n11
  : Int), e9 = Ending.returned (Value.int IntKind.i64 n11) ∧ ∃ (R12 : List Own), ∃ (Φ13 : PW), Stable Φ13 ∧ Ctx W w10 (R12 ++ R8) Φ13 ∧ ∀ (w14 : World) (R15 : List Own), Ctx W w14 (R12 ++
  R15) Φ13 → J (Value.bool (decide (n11 < workers))) w14) (∀ (w16 : World) (R17 : List Own), Ctx W w16 (R5 ++ R17) Φ6 → J (Value.bool false) w16)) (∀ (w18 : World) (R19 : List Own), Ctx W w18
  (R ++ R19) Φ → J (Value.bool false) w18)) (∀ (w20 : World) (R21 : List Own), Ctx W w20 (R ++ R21) Φ → J (Value.bool false) w20)) (∀ (w22 : World) (R23 : List Own), Ctx W w22 (R ++ R23) Φ →
  J (Value.bool false) w22)

theorem Bplace_Right_run (pP : Option Addr) (pN pC : Nat) (workers : Int) {W w : World} {R : List Own} {Φ : PW} [Stable Φ] {J : Value → World → Prop} (c : Ctx W w R Φ) (h : Bplace_Right pP pN pC workers W R Φ J) : Calls Tryd.prog F.place_Right #[.slice pP pN pC, .int .i64 workers] w fun e w' => ∃ v, e = .returned v ∧ J v w' :=
  vcFS_sound (H := { keep := some [0, 1, 4], split := [1] }) (by rw [show vcFS Tryd.prog W { keep := some [0, 1, 4], split := [1] } F.place_Right #[.slice pP pN pC, .int .i64 workers] R Φ J = Bplace_Right pP pN pC workers W R Φ J by kernel_rfl]; exact h) c

/-- place.Spread -/
-- loop at region 29: 94 ; blocks 
-- loop at region 22: 12 rest, 68 ; blocks 
-- loop at region 13: 45 ; blocks 
-- loop at region 5: 6 order, 30 ; blocks 
def Bplace_Spread (pP : Option Addr) (pN pC : Nat) (workers : Int) (W : World) (R : List Own) (Φ : PW) (J : Value → World → Prop) : Prop :=
  Br (decide (workers < 1)) (∀ (w0 : World) (R1 : List Own), Ctx W w0 (R ++ R1) Φ → J (Value.tuple #[Value.slice none 0 0, Value.int IntKind.i64 1]) w0) (Br (decide (8 < workers)) (∀ (w2 :
  World) (R3 : List Own), Ctx W w2 (R ++ R3) Φ → J (Value.tuple #[Value.slice none 0 0, Value.int IntKind.i64 1]) w2) (∀ (w4 : World) (R5 : List Own), Ctx W w4 (R ++ R5) Φ → Calls Tryd.prog
  F.place_Right #[Value.slice pP pN pC, Value.int IntKind.i64 8] w4 fun (e6 : Ending) (w7 : World) => ∃ (c8 : Bool), e6 = Ending.returned (Value.bool c8) ∧ ∃ (R9 : List Own), ∃ (Φ10 : PW),
  Stable Φ10 ∧ Ctx W w7 (R9 ++ R5) Φ10 ∧ Br (!c8) (∀ (w11 : World) (R12 : List Own), Ctx W w11 (R9 ++ R12) Φ10 → J (Value.tuple #[Value.slice none 0 0, Value.int IntKind.i64 1]) w11) (exI fun
  (I13 : Option Addr → Nat → Nat → Int → List Own → PW → Nat → Prop) => (∃ (R14 : List Own), ∃ (Φ15 : PW), ∃ (k16 : Nat), Stable Φ15 ∧ (∀ (w17 : World) (R18 : List Own), Ctx W w17 (R9 ++ R18)
  Φ10 → Ctx W w17 (R14 ++ R18) Φ15) ∧ I13 none 0 0 0 R14 Φ15 k16) ∧ ∀ (p19 : Option Addr) (k20 k21 : Nat) (n22 : Int) (R23 : List Own) (I24 : List Nat → World → Prop) (k25 : Nat), Stable I24
  → I13 p19 k20 k21 n22 R23 I24 k25 → Br (decide (n22 < workers)) (∀ (k26 : Nat) (w27 : World) (R28 : List Own), Ctx W w27 (Own.blk k26 [Value.int IntKind.i64 n22] 3 :: R23 ++ R28) I24 → ∃
  (p29 : Option Addr), ∃ (k30 : Nat), ∃ (k31 : Nat), ∃ (w32 : World), Sem.run Tryd.prog (builtin Builtin.append #[22, 22] 22 #[false, false] #[Value.slice p19 k20 k21, Value.slice (some
  (Addr.mk k26 0 none)) 1 1]) w27 = Result.ok (Next.value (Value.slice p29 k30 k31)) w32 ∧ ∃ (R33 : List Own), ∃ (Φ34 : PW), Stable Φ34 ∧ Ctx W w32 (R33 ++ R28) Φ34 ∧ I64 (n22 + 1) ∧ ∃ (R35 :
  List Own), ∃ (Φ36 : PW), ∃ (k37 : Nat), Stable Φ36 ∧ (∀ (w38 : World) (R39 : List Own), Ctx W w38 (R33 ++ R39) Φ34 → Ctx W w38 (R35 ++ R39) Φ36) ∧ I13 p29 k30 k31 (n22 + 1) R35 Φ36 k37 ∧
  k37 < k25) (∀ (w40 : World) (R41 : List Own), Ctx W w40 (R23 ++ R41) I24 → Calls Tryd.prog F.place_shares #[Value.slice pP pN pC] w40 fun (e42 : Ending) (w43 : World) => ∃ (n44 : Int), ∃
  (n45 : Int), ∃ (n46 : Int), ∃ (n47 : Int), ∃ (n48 : Int), ∃ (n49 : Int), ∃ (n50 : Int), ∃ (n51 : Int), e42 = Ending.returned (Value.agg #[Value.int IntKind.i64 n44, Value.int IntKind.i64
  n45, Value.int IntKind.i64 n46, Value.int IntKind.i64 n47, Value.int IntKind.i64 n48, Value.int IntKind.i64 n49, Value.int IntKind.i64 n50, Value.int IntKind.i64 n51]) ∧ ∃ (R52 : List Own),
  ∃ (Φ53 : PW), Stable Φ53 ∧ Ctx W w43 (R52 ++ R41) Φ53 ∧ ∀ (k54 : Nat) (w55 : World) (R56 : List Own), Ctx W w55 (Own.blk k54 [Value.int IntKind.i64 0, Value.int IntKind.i64 0, Value.int
  IntKind.i64 0, Value.int IntKind.i64 0, Value.int IntKind.i64 0, Value.int IntKind.i64 0, Value.int IntKind.i64 0, Value.int IntKind.i64 0] 102 :: R52 ++ R56) Φ53 → CanWrite w55 k54 0 8 ∧ ∀
  (w57 : World), w57 = w55.setCells k54 0 [Value.int IntKind.i64 n44, Value.int IntKind.i64 n45, Value.int IntKind.i64 n46, Value.int IntKind.i64 n47, Value.int IntKind.i64 n48, Value.int
  IntKind.i64 n49, Value.int IntKind.i64 n50, Value.int IntKind.i64 n51] → ∃ (R58 : List Own), ∃ (Φ59 : PW), Stable Φ59 ∧ Ctx W w57 (R58 ++ R56) Φ59 ∧ ∀ (w60 : World) (R61 : List Own), Ctx W
  w60 (R58 ++ R61) Φ59 → Calls Tryd.prog F.slices_SortStableFunc_int_int #[Value.slice p19 k20 k21, Value.func (Fn.func 62) #[] #[Value.pointer (some (Addr.mk k54 0 none))]] w60 fun (e62 :
  Ending) (w63 : World) => e62 = Ending.returned (Value.tuple #[]) ∧ ∃ (R64 : List Own), ∃ (Φ65 : PW), Stable Φ65 ∧ Ctx W w63 (R64 ++ R61) Φ65 ∧ ∀ (k66 : Nat), exI fun (I67 : Int → List Own →
  PW → Nat → Prop) => (∃ (R68 : List Own), ∃ (Φ69 : PW), ∃ (k70 : Nat), Stable Φ69 ∧ (∀ (w71 : World) (R72 : List Own), Ctx W w71 (Own.blk k66 [Value.int IntKind.i64 0, Value.int IntKind.i64
  0, Value.int IntKind.i64 0, Value.int IntKind.i64 0, Value.int IntKind.i64 0, Value.int IntKind.i64 0, Value.int IntKind.i64 0, Value.int IntKind.i64 0] 102 :: R64 ++ R72) Φ65 → Ctx W w71
  (R68 ++ R72) Φ69) ∧ I67 0 R68 Φ69 k70) ∧ ∀ (n73 : Int) (R74 : List Own) (I75 : List Nat → World → Prop) (k76 : Nat), Stable I75 → I67 n73 R74 I75 k76 → Br (decide (n73 < (↑k20 : Int))) ((0
  ≤ n73 ∧ n73 < (↑k20 : Int)) ∧ ptrK none p19 fun (k77 k78 : Nat) => ∀ (w79 : World) (R80 : List Own), Ctx W w79 (R74 ++ R80) I75 → ∃ (n81 : Int), w79.cell? (Addr.mk k77 (k78 + n73.toNat)
  none) = some (Value.int IntKind.i64 n81) ∧ (workers = 0 → False) ∧ I64 (Int.tdiv 16 workers) ∧ (0 ≤ n81 ∧ n81 < 8) ∧ ∀ (w82 : World) (R83 : List Own), Ctx W w82 (R74 ++ R83) I75 → CanWrite
  w82 k66 (0 + n81.toNat) 1 ∧ ∀ (w84 : World), w84 = w82.setCell (Addr.mk k66 (0 + n81.toNat) none) (Value.int IntKind.i64 (Int.tdiv 16 workers)) → ∃ (R85 : List Own), ∃ (Φ86 : PW), Stable
  Φ86 ∧ Ctx W w84 (R85 ++ R83) Φ86 ∧ (workers = 0 → False) ∧ Br (decide (n73 < Int.tmod 16 workers)) ((0 ≤ n81 ∧ n81 < 8) ∧ ∀ (w87 : World) (R88 : List Own), Ctx W w87 (R85 ++ R88) Φ86 → ∃
  (n89 : Int), w87.cell? (Addr.mk k66 (0 + n81.toNat) none) = some (Value.int IntKind.i64 n89) ∧ I64 (n89 + 1) ∧ (0 ≤ n81 ∧ n81 < 8) ∧ ∀ (w90 : World) (R91 : List Own), Ctx W w90 (R85 ++ R91)
  Φ86 → CanWrite w90 k66 (0 + n81.toNat) 1 ∧ ∀ (w92 : World), w92 = w90.setCell (Addr.mk k66 (0 + n81.toNat) none) (Value.int IntKind.i64 (n89 + 1)) → ∃ (R93 : List Own), ∃ (Φ94 : PW), Stable
  Φ94 ∧ Ctx W w92 (R93 ++ R91) Φ94 ∧ I64 (n73 + 1) ∧ ∃ (R95 : List Own), ∃ (Φ96 : PW), ∃ (k97 : Nat), Stable Φ96 ∧ (∀ (w98 : World) (R99 : List Own), Ctx W w98 (R93 ++ R99) Φ94 → Ctx W w98
  (R95 ++ R99) Φ96) ∧ I67 (n73 + 1) R95 Φ96 k97 ∧ k97 < k76) (I64 (n73 + 1) ∧ ∃ (R100 : List Own), ∃ (Φ101 : PW), ∃ (k102 : Nat), Stable Φ101 ∧ (∀ (w103 : World) (R104 : List Own), Ctx W w103
  (R85 ++ R104) Φ86 → Ctx W w103 (R100 ++ R104) Φ101) ∧ I67 (n73 + 1) R100 Φ101 k102 ∧ k102 < k76)) (∀ (w105 : World) (R106 : List Own), Ctx W w105 (R74 ++ R106) I75 → Calls Tryd.prog
  F.slices_Clone_int_int #[Value.slice pP pN pC] w105 fun (e107 : Ending) (w108 : World) => ∃ (p109 : Option Addr), ∃ (k110 : Nat), ∃ (k111 : Nat), e107 = Ending.returned (Value.slice p109
  k110 k111) ∧ ∃ (R112 : List Own), ∃ (Φ113 : PW), Stable Φ113 ∧ Ctx W w108 (R112 ++ R106) Φ113 ∧ exI fun (I114 : Option Addr → Nat → Nat → Int → List Own → PW → Nat → Prop) => (∃ (R115 :
  List Own), ∃ (Φ116 : PW), ∃ (k117 : Nat), Stable Φ116 ∧ (∀ (w118 : World) (R119 : List Own), Ctx W w118 (R112 ++ R119) Φ113 → Ctx W w118 (R115 ++ R119) Φ116) ∧ I114 none 0 0 0 R115 Φ116
  k117) ∧ ∀ (p120 : Option Addr) (k121 k122 : Nat) (n123 : Int) (R124 : List Own) (I125 : List Nat → World → Prop) (k126 : Nat), Stable I125 → I114 p120 k121 k122 n123 R124 I125 k126 → Br
  (decide (n123 < (↑k110 : Int))) ((0 ≤ n123 ∧ n123 < (↑k110 : Int)) ∧ ptrK none p109 fun (k127 k128 : Nat) => ∀ (w129 : World) (R130 : List Own), Ctx W w129 (R124 ++ R130) I125 → ∃ (n131 :
  Int), w129.cell? (Addr.mk k127 (k128 + n123.toNat) none) = some (Value.int IntKind.i64 n131) ∧ ∀ (w132 : World) (R133 : List Own), Ctx W w132 (R124 ++ R133) I125 → (decide (n131 < workers)
  = true → 0 ≤ n131 ∧ n131 < 8) ∧ ∃ (n134 : Int), (decide (n131 < workers) = true → w132.cell? (Addr.mk k66 (0 + n131.toNat) none) = some (Value.int IntKind.i64 n134)) ∧ Br (decide (n131 <
  workers) && decide (0 < n134)) ((0 ≤ n131 ∧ n131 < 8) ∧ ∀ (w135 : World) (R136 : List Own), Ctx W w135 (R124 ++ R136) I125 → ∃ (n137 : Int), w135.cell? (Addr.mk k66 (0 + n131.toNat) none) =
  some (Value.int IntKind.i64 n137) ∧ I64 (n137 - 1) ∧ (0 ≤ n131 ∧ n131 < 8) ∧ ∀ (w138 : World) (R139 : List Own), Ctx W w138 (R124 ++ R139) I125 → CanWrite w138 k66 (0 + n131.toNat) 1 ∧ ∀
  (w140 : World), w140 = w138.setCell (Addr.mk k66 (0 + n131.toNat) none) (Value.int IntKind.i64 (n137 - 1)) → ∃ (R141 : List Own), ∃ (Φ142 : PW), Stable Φ142 ∧ Ctx W w140 (R141 ++ R139) Φ142
  ∧ I64 (n123 + 1) ∧ ∃ (R143 : List Own), ∃ (Φ144 : PW), ∃ (k145 : Nat), Stable Φ144 ∧ (∀ (w146 : World) (R147 : List Own), Ctx W w146 (R141 ++ R147) Φ142 → Ctx W w146 (R143 ++ R147) Φ144) ∧
  I114 p120 k121 k122 (n123 + 1) R143 Φ144 k145 ∧ k145 < k126) (∀ (k148 : Nat) (w149 : World) (R150 : List Own), Ctx W w149 (Own.blk k148 [Value.int IntKind.i64 n123] 3 :: R124 ++ R150) I125
  → ∃ (p151 : Option Addr), ∃ (k152 : Nat), ∃ (k153 : Nat), ∃ (w154 : World), Sem.run Tryd.prog (builtin Builtin.append #[22, 22] 22 #[false, false] #[Value.slice p120 k121 k122, Value.slice
  (some (Addr.mk k148 0 none)) 1 1]) w149 = Result.ok (Next.value (Value.slice p151 k152 k153)) w154 ∧ ∃ (R155 : List Own), ∃ (Φ156 : PW), Stable Φ156 ∧ Ctx W w154 (R155 ++ R150) Φ156 ∧ I64
  (n123 + 1) ∧ ∃ (R157 : List Own), ∃ (Φ158 : PW), ∃ (k159 : Nat), Stable Φ158 ∧ (∀ (w160 : World) (R161 : List Own), Ctx W w160 (R155 ++ R161) Φ156 → Ctx W w160 (R157 ++ R161) Φ158) ∧ I114
  p151 k152 k153 (n123 + 1) R157 Φ158 k159 ∧ k159 < k126)) (exI fun (I162 : Int → List Own → PW → Nat → Prop) => (∃ (R163 : List Own), ∃ (Φ164 : PW), ∃ (k165 : Nat), Stable Φ164 ∧ (∀ (w166 :
  World) (R167 : List Own), Ctx W w166 (R124 ++ R167) I125 → Ctx W w166 (R163 ++ R167) Φ164) ∧ I162 0 R163 Φ164 k165) ∧ ∀ (n168 : Int) (R169 : List Own) (I170 : List Nat → World → Prop) (k171
  : Nat), Stable I170 → I162 n168 R169 I170 k171 → Br (decide (n168 < (↑k121 : Int))) ((0 ≤ n168 ∧ n168 < (↑k121 : Int)) ∧ ptrK none p120 fun (k172 k173 : Nat) => ∀ (w174 : World) (R175 :
  List Own), Ctx W w174 (R169 ++ R175) I170 → ∃ (n176 : Int), w174.cell? (Addr.mk k172 (k173 + n168.toNat) none) = some (Value.int IntKind.i64 n176) ∧ Nat.le 8 8 ∧ ∀ (w177 : World) (R178 :
  List Own), Ctx W w177 (R169 ++ R178) I170 → Calls Tryd.prog F.slices_IndexFunc_int_int #[Value.slice (subPtr (some (Addr.mk k66 0 none)) 1 0 8) 8 8, Value.func (Fn.func 65) #[] #[]] w177
  fun (e179 : Ending) (w180 : World) => ∃ (n181 : Int), e179 = Ending.returned (Value.int IntKind.i64 n181) ∧ ∃ (R182 : List Own), ∃ (Φ183 : PW), Stable Φ183 ∧ Ctx W w180 (R182 ++ R178) Φ183
  ∧ (0 ≤ n176 ∧ n176 < (↑k110 : Int)) ∧ ptrK none p109 fun (k184 k185 : Nat) => ∀ (w186 : World) (R187 : List Own), Ctx W w186 (R182 ++ R187) Φ183 → CanWrite w186 k184 (k185 + n176.toNat) 1 ∧
  ∀ (w188 : World), w188 = w186.setCell (Addr.mk k184 (k185 + n176.toNat) none) (Value.int IntKind.i64 n181) → ∃ (R189 : List Own), ∃ (Φ190 : PW), Stable Φ190 ∧ Ctx W w188 (R189 ++ R187) Φ190
  ∧ (0 ≤ n181 ∧ n181 < 8) ∧ ∀ (w191 : World) (R192 : List Own), Ctx W w191 (R189 ++ R192) Φ190 → ∃ (n193 : Int), w191.cell? (Addr.mk k66 (0 + n181.toNat) none) = some (Value.int IntKind.i64
  n193) ∧ I64 (n193 - 1) ∧ (0 ≤ n181 ∧ n181 < 8) ∧ ∀ (w194 : World) (R195 : List Own), Ctx W w194 (R189 ++ R195) Φ190 → CanWrite w194 k66 (0 + n181.toNat) 1 ∧ ∀ (w196 : World), w196 =
  w194.setCell (Addr.mk k66 (0 + n181.toNat) none) (Value.int IntKind.i64 (n193 - 1)) → ∃ (R197 : List Own), ∃ (Φ198 : PW), Stable Φ198 ∧ Ctx W w196 (R197 ++ R195) Φ198 ∧ I64 (n168 + 1) ∧ ∃
  (R199 : List Own), ∃ (Φ200 : PW), ∃ (k201 : Nat), Stable Φ200 ∧ (∀ (w202 : World) (R203 : List Own), Ctx W w202 (R197 ++ R203) Φ198 → Ctx W w202 (R199 ++ R203) Φ200) ∧ I162 (n168 + 1) R199
  Φ200 k201 ∧ k201 < k171) (∀ (w204 : World) (R205 : List Own), Ctx W w204 (R169 ++ R205) I170 → J (Value.tuple #[Value.slice p109 k110 k111, Value.int IntKind.i64 0]) w204)))))))

theorem Bplace_Spread_run (pP : Option Addr) (pN pC : Nat) (workers : Int) {W w : World} {R : List Own} {Φ : PW} [Stable Φ] {J : Value → World → Prop} (c : Ctx W w R Φ) (h : Bplace_Spread pP pN pC workers W R Φ J) : Calls Tryd.prog F.place_Spread #[.slice pP pN pC, .int .i64 workers] w fun e w' => ∃ v, e = .returned v ∧ J v w' :=
  vcFS_sound (H := { keep := some [0, 1, 4, 5, 6, 7, 8, 9, 10, 11, 12, 13, 14, 16, 17, 28, 29, 30, 31, 43, 44, 45, 46, 57, 66, 67, 68, 69, 81, 92, 93, 94, 95], split := [1], loops := [(29, [(94, .one (.int .i64))], []), (22, [(12, .one (.slice)), (68, .one (.int .i64))], []), (13, [(45, .one (.int .i64))], []), (5, [(6, .one (.slice)), (30, .one (.int .i64))], [])] }) (by rw [show vcFS Tryd.prog W { keep := some [0, 1, 4, 5, 6, 7, 8, 9, 10, 11, 12, 13, 14, 16, 17, 28, 29, 30, 31, 43, 44, 45, 46, 57, 66, 67, 68, 69, 81, 92, 93, 94, 95], split := [1], loops := [(29, [(94, .one (.int .i64))], []), (22, [(12, .one (.slice)), (68, .one (.int .i64))], []), (13, [(45, .one (.int .i64))], []), (5, [(6, .one (.slice)), (30, .one (.int .i64))], [])] } F.place_Spread #[.slice pP pN pC, .int .i64 workers] R Φ J = Bplace_Spread pP pN pC workers W R Φ J by kernel_rfl]; exact h) c

/-- place.Even -/
-- loop at region 5: 3 p, 11 ; blocks 
def Bplace_Even (workers : Int) (W : World) (R : List Own) (Φ : PW) (J : Value → World → Prop) : Prop :=
  ∀ (w0 : World) (R1 : List Own), Ctx W w0 (R ++ R1) Φ → Br (decide (workers < 1) || decide (8 < workers)) (∀ (w2 : World) (R3 : List Own), Ctx W w2 (R ++ R3) Φ → J (Value.slice none 0 0) w2)
  (exI fun (I4 : Option Addr → Nat → Nat → Int → List Own → PW → Nat → Prop) => (∃ (R5 : List Own), ∃ (Φ6 : PW), ∃ (k7 : Nat), Stable Φ6 ∧ (∀ (w8 : World) (R9 : List Own), Ctx W w8 (R ++ R9)
  Φ → Ctx W w8 (R5 ++ R9) Φ6) ∧ I4 none 0 0 0 R5 Φ6 k7) ∧ ∀ (p10 : Option Addr) (k11 k12 : Nat) (n13 : Int) (R14 : List Own) (I15 : List Nat → World → Prop) (k16 : Nat), Stable I15 → I4 p10
  k11 k12 n13 R14 I15 k16 → Br (decide (n13 < 16)) (I64 (n13 * workers) ∧ ((16 : Int) = 0 → False) ∧ I64 ((n13 * workers).tdiv 16) ∧ ∀ (k17 : Nat) (w18 : World) (R19 : List Own), Ctx W w18
  (Own.blk k17 [Value.int IntKind.i64 ((n13 * workers).tdiv 16)] 3 :: R14 ++ R19) I15 → ∃ (p20 : Option Addr), ∃ (k21 : Nat), ∃ (k22 : Nat), ∃ (w23 : World), Sem.run Tryd.prog (builtin
  Builtin.append #[22, 22] 22 #[false, false] #[Value.slice p10 k11 k12, Value.slice (some (Addr.mk k17 0 none)) 1 1]) w18 = Result.ok (Next.value (Value.slice p20 k21 k22)) w23 ∧ ∃ (R24 :
  List Own), ∃ (Φ25 : PW), Stable Φ25 ∧ Ctx W w23 (R24 ++ R19) Φ25 ∧ I64 (n13 + 1) ∧ ∃ (R26 : List Own), ∃ (Φ27 : PW), ∃ (k28 : Nat), Stable Φ27 ∧ (∀ (w29 : World) (R30 : List Own), Ctx W w29
  (R24 ++ R30) Φ25 → Ctx W w29 (R26 ++ R30) Φ27) ∧ I4 p20 k21 k22 (n13 + 1) R26 Φ27 k28 ∧ k28 < k16) (∀ (w31 : World) (R32 : List Own), Ctx W w31 (R14 ++ R32) I15 → J (Value.slice p10 k11
  k12) w31))

theorem Bplace_Even_run (workers : Int) {W w : World} {R : List Own} {Φ : PW} [Stable Φ] {J : Value → World → Prop} (c : Ctx W w R Φ) (h : Bplace_Even workers W R Φ J) : Calls Tryd.prog F.place_Even #[.int .i64 workers] w fun e w' => ∃ v, e = .returned v ∧ J v w' :=
  vcFS_sound (H := { keep := some [0, 2, 3, 4, 10, 11, 12], loops := [(5, [(3, .one (.slice)), (11, .one (.int .i64))], [])] }) (by rw [show vcFS Tryd.prog W { keep := some [0, 2, 3, 4, 10, 11, 12], loops := [(5, [(3, .one (.slice)), (11, .one (.int .i64))], [])] } F.place_Even #[.int .i64 workers] R Φ J = Bplace_Even workers W R Φ J by kernel_rfl]; exact h) c

/-- place.Key -/
-- known blocks: 2 n
def Bplace_Key (n0 : Int) (n1P : Option Addr) (n1N n1C : Nat) (n2 : ByteArray) (n3 : Int) (n4P : Option Addr) (n4N n4C : Nat) (n5 : Int) (n6 : Int) (n7 : Int) (n8P : Option Addr) (n8N n8C : Nat) (n9P : Option Addr) (n9N n9C : Nat) (n10 : Int) (n11 : Int) (n12 : Int) (n13P : Option Addr) (n13N n13C : Nat) (n14P : Option Addr) (n14N n14C : Nat) (n15P : Option Addr) (n15N n15C : Nat) (inx : Int) (W : World) (R : List Own) (Φ : PW) (J : Value → World → Prop) : Prop :=
  ∀ (b : Nat) (w0 : World) (R1 : List Own), Ctx W w0 (R ++ R1) Φ → ∀ (w2 : World) (R3 : List Own), Ctx W w2 (R ++ R3) Φ → Br (decide (inx = 0) && (decide (n0 = 6) || decide (n0 = 7) || decide
  (n0 = 4) || decide (n0 = 5) || decide (n0 = 8))) (∀ (w4 : World) (R5 : List Own), Ctx W w4 (R ++ R5) Φ → Calls Tryd.prog F.slices_Clone_int_int #[Value.slice n8P n8N n8C] w4 fun (e6 :
  Ending) (w7 : World) => ∃ (p8 : Option Addr), ∃ (k9 : Nat), ∃ (k10 : Nat), e6 = Ending.returned (Value.slice p8 k9 k10) ∧ ∃ (R11 : List Own), ∃ (Φ12 : PW), Stable Φ12 ∧ Ctx W w7 (R11 ++ R5)
  Φ12 ∧ ∀ (w13 : World) (R14 : List Own), Ctx W w13 (R11 ++ R14) Φ12 → J (Value.tuple #[Value.slice p8 k9 k10, Value.bool true]) w13) (∀ (w15 : World) (R16 : List Own), Ctx W w15 (R ++ R16) Φ
  → Br (decide (inx = 1) && (decide (n0 = 6) || decide (n0 = 7))) (∀ (w17 : World) (R18 : List Own), Ctx W w17 (R ++ R18) Φ → Calls Tryd.prog F.slices_Clone_int_int #[Value.slice n9P n9N n9C]
  w17 fun (e19 : Ending) (w20 : World) => ∃ (p21 : Option Addr), ∃ (k22 : Nat), ∃ (k23 : Nat), e19 = Ending.returned (Value.slice p21 k22 k23) ∧ ∃ (R24 : List Own), ∃ (Φ25 : PW), Stable Φ25 ∧
  Ctx W w20 (R24 ++ R18) Φ25 ∧ ∀ (w26 : World) (R27 : List Own), Ctx W w26 (R24 ++ R27) Φ25 → J (Value.tuple #[Value.slice p21 k22 k23, Value.bool true]) w26) (∀ (w28 : World) (R29 : List
  Own), Ctx W w28 (R ++ R29) Φ → J (Value.tuple #[Value.slice none 0 0, Value.bool false]) w28))

theorem Bplace_Key_run (n0 : Int) (n1P : Option Addr) (n1N n1C : Nat) (n2 : ByteArray) (n3 : Int) (n4P : Option Addr) (n4N n4C : Nat) (n5 : Int) (n6 : Int) (n7 : Int) (n8P : Option Addr) (n8N n8C : Nat) (n9P : Option Addr) (n9N n9C : Nat) (n10 : Int) (n11 : Int) (n12 : Int) (n13P : Option Addr) (n13N n13C : Nat) (n14P : Option Addr) (n14N n14C : Nat) (n15P : Option Addr) (n15N n15C : Nat) (inx : Int) {W w : World} {R : List Own} {Φ : PW} [Stable Φ] {J : Value → World → Prop} (c : Ctx W w R Φ) (h : Bplace_Key n0 n1P n1N n1C n2 n3 n4P n4N n4C n5 n6 n7 n8P n8N n8C n9P n9N n9C n10 n11 n12 n13P n13N n13C n14P n14N n14C n15P n15N n15C inx W R Φ J) : Calls Tryd.prog F.place_Key #[.agg #[.int .i64 n0, .slice n1P n1N n1C, .string n2, .int .i64 n3, .slice n4P n4N n4C, .int .i64 n5, .int .i64 n6, .int .i64 n7, .slice n8P n8N n8C, .slice n9P n9N n9C, .int .i64 n10, .int .i64 n11, .int .i64 n12, .slice n13P n13N n13C, .slice n14P n14N n14C, .slice n15P n15N n15C], .int .i64 inx] w fun e w' => ∃ v, e = .returned v ∧ J v w' :=
  vcFS_sound (H := { keep := some [1, 2, 4, 5, 6, 15, 39], track := [2] }) (by rw [show vcFS Tryd.prog W { keep := some [1, 2, 4, 5, 6, 15, 39], track := [2] } F.place_Key #[.agg #[.int .i64 n0, .slice n1P n1N n1C, .string n2, .int .i64 n3, .slice n4P n4N n4C, .int .i64 n5, .int .i64 n6, .int .i64 n7, .slice n8P n8N n8C, .slice n9P n9N n9C, .int .i64 n10, .int .i64 n11, .int .i64 n12, .slice n13P n13N n13C, .slice n14P n14N n14C, .slice n15P n15N n15C], .int .i64 inx] R Φ J = Bplace_Key n0 n1P n1N n1C n2 n3 n4P n4N n4C n5 n6 n7 n8P n8N n8C n9P n9N n9C n10 n11 n12 n13P n13N n13C n14P n14N n14C n15P n15N n15C inx W R Φ J by kernel_rfl]; exact h) c

/-- place.Need -/
-- loop at region 6: 11 values, 29 ; blocks 
-- known blocks: 4 n, 14 v
def Bplace_Need (n0 : Int) (n1P : Option Addr) (n1N n1C : Nat) (n2 : ByteArray) (n3 : Int) (n4P : Option Addr) (n4N n4C : Nat) (n5 : Int) (n6 : Int) (n7 : Int) (n8P : Option Addr) (n8N n8C : Nat) (n9P : Option Addr) (n9N n9C : Nat) (n10 : Int) (n11 : Int) (n12 : Int) (n13P : Option Addr) (n13N n13C : Nat) (n14P : Option Addr) (n14N n14C : Nat) (n15P : Option Addr) (n15N n15C : Nat) (inx : Int) (bucket : Int) (rowP : Option Addr) (rowN rowC : Nat) (W : World) (R : List Own) (Φ : PW) (J : Value → World → Prop) : Prop :=
  ∀ (b : Nat) (w0 : World) (R1 : List Own), Ctx W w0 (R ++ R1) Φ → Calls Tryd.prog F.place_Key #[Value.agg #[Value.int IntKind.i64 n0, Value.slice n1P n1N n1C, Value.string n2, Value.int
  IntKind.i64 n3, Value.slice n4P n4N n4C, Value.int IntKind.i64 n5, Value.int IntKind.i64 n6, Value.int IntKind.i64 n7, Value.slice n8P n8N n8C, Value.slice n9P n9N n9C, Value.int
  IntKind.i64 n10, Value.int IntKind.i64 n11, Value.int IntKind.i64 n12, Value.slice n13P n13N n13C, Value.slice n14P n14N n14C, Value.slice n15P n15N n15C], Value.int IntKind.i64 inx] w0 fun
  (e2 : Ending) (w3 : World) => ∃ (p4 : Option Addr), ∃ (k5 : Nat), ∃ (k6 : Nat), ∃ (c7 : Bool), e2 = Ending.returned (Value.tuple #[Value.slice p4 k5 k6, Value.bool c7]) ∧ ∃ (R8 : List Own),
  ∃ (Φ9 : PW), Stable Φ9 ∧ Ctx W w3 (R8 ++ R1) Φ9 ∧ Br (!c7) (∀ (w10 : World) (R11 : List Own), Ctx W w10 (R8 ++ R11) Φ9 → J (Value.int IntKind.i64 bucket) w10) (((0 : Int) ≤ 0 ∧ 0 ≤ (↑k5 :
  Int) ∧ 32 * (↑k5 : Int) ≤ 281474976710656 ∧ (↑k5 : Int) ≤ 9223372036854775807) ∧ ∀ (k12 : Nat), exI fun (I13 : Option Addr → Nat → Nat → Int → List Own → PW → Nat → Prop) => (∃ (R14 : List
  Own), ∃ (Φ15 : PW), ∃ (k16 : Nat), Stable Φ15 ∧ (∀ (w17 : World) (R18 : List Own), Ctx W w17 (Own.blk k12 (List.replicate (↑k5 : Int).toNat [Value.int IntKind.i64 0, Value.int IntKind.i64
  0, Value.string (ByteArray.mk #[])]).flatten 99 :: R8 ++ R18) Φ9 → Ctx W w17 (R14 ++ R18) Φ15) ∧ I13 (some (Addr.mk k12 0 none)) 0 (↑k5 : Int).toNat 0 R14 Φ15 k16) ∧ ∀ (p19 : Option Addr)
  (k20 k21 : Nat) (n22 : Int) (R23 : List Own) (I24 : List Nat → World → Prop) (k25 : Nat), Stable I24 → I13 p19 k20 k21 n22 R23 I24 k25 → Br (decide (n22 < (↑k5 : Int))) ((0 ≤ n22 ∧ n22 <
  (↑k5 : Int)) ∧ ptrK none p4 fun (k26 k27 : Nat) => ∀ (w28 : World) (R29 : List Own), Ctx W w28 (R23 ++ R29) I24 → ∃ (n30 : Int), w28.cell? (Addr.mk k26 (k27 + n22.toNat) none) = some
  (Value.int IntKind.i64 n30) ∧ ∀ (b : Nat) (w31 : World) (R32 : List Own), Ctx W w31 (R23 ++ R32) I24 → Br (decide (0 ≤ n30) && decide (n30 < (↑rowN : Int))) ((0 ≤ n30 ∧ n30 < (↑rowN : Int))
  ∧ ptrK none rowP fun (k33 k34 : Nat) => ∀ (w35 : World) (R36 : List Own), Ctx W w35 (R23 ++ R36) I24 → ∃ (n37 : Int), ∃ (n38 : Int), ∃ (s39 : ByteArray), RowAt w35 k33 (k34 + n30.toNat * 3)
  [Value.int IntKind.i64 n37, Value.int IntKind.i64 n38, Value.string s39] ∧ ∀ (k40 : Nat) (w41 : World) (R42 : List Own), Ctx W w41 (Own.blk k40 [Value.int IntKind.i64 n37, Value.int
  IntKind.i64 n38, Value.string s39] 99 :: R23 ++ R42) I24 → ∃ (p43 : Option Addr), ∃ (k44 : Nat), ∃ (k45 : Nat), ∃ (w46 : World), Sem.run Tryd.prog (builtin Builtin.append #[40, 40] 40
  #[false, false] #[Value.slice p19 k20 k21, Value.slice (some (Addr.mk k40 0 none)) 1 1]) w41 = Result.ok (Next.value (Value.slice p43 k44 k45)) w46 ∧ ∃ (R47 : List Own), ∃ (Φ48 : PW),
  Stable Φ48 ∧ Ctx W w46 (R47 ++ R42) Φ48 ∧ I64 (n22 + 1) ∧ ∃ (R49 : List Own), ∃ (Φ50 : PW), ∃ (k51 : Nat), Stable Φ50 ∧ (∀ (w52 : World) (R53 : List Own), Ctx W w52 (R47 ++ R53) Φ48 → Ctx W
  w52 (R49 ++ R53) Φ50) ∧ I13 p43 k44 k45 (n22 + 1) R49 Φ50 k51 ∧ k51 < k25) (∀ (k54 : Nat) (w55 : World) (R56 : List Own), Ctx W w55 (Own.blk k54 [Value.int IntKind.i64 0, Value.int
  IntKind.i64 0, Value.string (ByteArray.mk #[])] 99 :: R23 ++ R56) I24 → ∃ (p57 : Option Addr), ∃ (k58 : Nat), ∃ (k59 : Nat), ∃ (w60 : World), Sem.run Tryd.prog (builtin Builtin.append #[40,
  40] 40 #[false, false] #[Value.slice p19 k20 k21, Value.slice (some (Addr.mk k54 0 none)) 1 1]) w55 = Result.ok (Next.value (Value.slice p57 k58 k59)) w60 ∧ ∃ (R61 : List Own), ∃ (Φ62 :
  PW), Stable Φ62 ∧ Ctx W w60 (R61 ++ R56) Φ62 ∧ I64 (n22 + 1) ∧ ∃ (R63 : List Own), ∃ (Φ64 : PW), ∃ (k65 : Nat), Stable Φ64 ∧ (∀ (w66 : World) (R67 : List Own), Ctx W w66 (R61 ++ R67) Φ62 →
  Ctx W w66 (R63 ++ R67) Φ64) ∧ I13 p57 k58 k59 (n22 + 1) R63 Φ64 k65 ∧ k65 < k25)) (∀ (w68 : World) (R69 : List Own), Ctx W w68 (R23 ++ R69) I24 → Calls Tryd.prog F.place_Bucket
  #[Value.slice p19 k20 k21] w68 fun (e70 : Ending) (w71 : World) => ∃ (n72 : Int), e70 = Ending.returned (Value.int IntKind.i64 n72) ∧ ∃ (R73 : List Own), ∃ (Φ74 : PW), Stable Φ74 ∧ Ctx W
  w71 (R73 ++ R69) Φ74 ∧ ∀ (w75 : World) (R76 : List Own), Ctx W w75 (R73 ++ R76) Φ74 → J (Value.int IntKind.i64 n72) w75))

theorem Bplace_Need_run (n0 : Int) (n1P : Option Addr) (n1N n1C : Nat) (n2 : ByteArray) (n3 : Int) (n4P : Option Addr) (n4N n4C : Nat) (n5 : Int) (n6 : Int) (n7 : Int) (n8P : Option Addr) (n8N n8C : Nat) (n9P : Option Addr) (n9N n9C : Nat) (n10 : Int) (n11 : Int) (n12 : Int) (n13P : Option Addr) (n13N n13C : Nat) (n14P : Option Addr) (n14N n14C : Nat) (n15P : Option Addr) (n15N n15C : Nat) (inx : Int) (bucket : Int) (rowP : Option Addr) (rowN rowC : Nat) {W w : World} {R : List Own} {Φ : PW} [Stable Φ] {J : Value → World → Prop} (c : Ctx W w R Φ) (h : Bplace_Need n0 n1P n1N n1C n2 n3 n4P n4N n4C n5 n6 n7 n8P n8N n8C n9P n9N n9C n10 n11 n12 n13P n13N n13C n14P n14N n14C n15P n15N n15C inx bucket rowP rowN rowC W R Φ J) : Calls Tryd.prog F.place_Need #[.agg #[.int .i64 n0, .slice n1P n1N n1C, .string n2, .int .i64 n3, .slice n4P n4N n4C, .int .i64 n5, .int .i64 n6, .int .i64 n7, .slice n8P n8N n8C, .slice n9P n9N n9C, .int .i64 n10, .int .i64 n11, .int .i64 n12, .slice n13P n13N n13C, .slice n14P n14N n14C, .slice n15P n15N n15C], .int .i64 inx, .int .i64 bucket, .slice rowP rowN rowC] w fun e w' => ∃ v, e = .returned v ∧ J v w' :=
  vcFS_sound (H := { keep := some [1, 2, 3, 4, 8, 9, 10, 11, 13, 14, 22, 27, 28, 29, 30, 41], track := [4, 14], loops := [(6, [(11, .one (.slice)), (29, .one (.int .i64))], [])] }) (by rw [show vcFS Tryd.prog W { keep := some [1, 2, 3, 4, 8, 9, 10, 11, 13, 14, 22, 27, 28, 29, 30, 41], track := [4, 14], loops := [(6, [(11, .one (.slice)), (29, .one (.int .i64))], [])] } F.place_Need #[.agg #[.int .i64 n0, .slice n1P n1N n1C, .string n2, .int .i64 n3, .slice n4P n4N n4C, .int .i64 n5, .int .i64 n6, .int .i64 n7, .slice n8P n8N n8C, .slice n9P n9N n9C, .int .i64 n10, .int .i64 n11, .int .i64 n12, .slice n13P n13N n13C, .slice n14P n14N n14C, .slice n15P n15N n15C], .int .i64 inx, .int .i64 bucket, .slice rowP rowN rowC] R Φ J = Bplace_Need n0 n1P n1N n1C n2 n3 n4P n4N n4C n5 n6 n7 n8P n8N n8C n9P n9N n9C n10 n11 n12 n13P n13N n13C n14P n14N n14C n15P n15N n15C inx bucket rowP rowN rowC W R Φ J by kernel_rfl]; exact h) c

/-- place.Bucket -/
-- loop at region 3: 3 n, 10 ; blocks 
def Bplace_Bucket (valuesP : Option Addr) (valuesN valuesC : Nat) (W : World) (R : List Own) (Φ : PW) (J : Value → World → Prop) : Prop :=
  ∀ (w0 : World) (R1 : List Own), Ctx W w0 (R ++ R1) Φ → Calls Tryd.prog F.value_RowBytes #[Value.slice valuesP valuesN valuesC] w0 fun (e2 : Ending) (w3 : World) => ∃ (s4 : ByteArray), e2 =
  Ending.returned (Value.string s4) ∧ ∃ (R5 : List Own), ∃ (Φ6 : PW), Stable Φ6 ∧ Ctx W w3 (R5 ++ R1) Φ6 ∧ ∀ (w7 : World) (R8 : List Own), Ctx W w7 (R5 ++ R8) Φ6 → ∃ (p9 : Option Addr), ∃
  (k10 : Nat), ∃ (k11 : Nat), ∃ (w12 : World), Sem.run Tryd.prog (convert 9 109 (Value.string s4)) w7 = Result.ok (Value.slice p9 k10 k11) w12 ∧ ∃ (R13 : List Own), ∃ (Φ14 : PW), Stable Φ14 ∧
  Ctx W w12 (R13 ++ R8) Φ14 ∧ exI fun (I15 : Int → Int → List Own → PW → Nat → Prop) => (∃ (R16 : List Own), ∃ (Φ17 : PW), ∃ (k18 : Nat), Stable Φ17 ∧ (∀ (w19 : World) (R20 : List Own), Ctx W
  w19 (R13 ++ R20) Φ14 → Ctx W w19 (R16 ++ R20) Φ17) ∧ I15 0 0 R16 Φ17 k18) ∧ ∀ (n21 n22 : Int) (R23 : List Own) (I24 : List Nat → World → Prop) (k25 : Nat), Stable I24 → I15 n21 n22 R23 I24
  k25 → Br (decide (n22 < (↑k10 : Int))) ((0 ≤ n22 ∧ n22 < (↑k10 : Int)) ∧ ptrK none p9 fun (k26 k27 : Nat) => ∀ (w28 : World) (R29 : List Own), Ctx W w28 (R23 ++ R29) I24 → ∃ (n30 : Int),
  w28.cell? (Addr.mk k26 (k27 + n22.toNat) none) = some (Value.int IntKind.u8 n30) ∧ I64 (n21 + IntKind.i64.wrap n30) ∧ I64 (n22 + 1) ∧ ∃ (R31 : List Own), ∃ (Φ32 : PW), ∃ (k33 : Nat), Stable
  Φ32 ∧ (∀ (w34 : World) (R35 : List Own), Ctx W w34 (R23 ++ R35) I24 → Ctx W w34 (R31 ++ R35) Φ32) ∧ I15 (n21 + IntKind.i64.wrap n30) (n22 + 1) R31 Φ32 k33 ∧ k33 < k25) (((16 : Int) = 0 →
  False) ∧ ∀ (w36 : World) (R37 : List Own), Ctx W w36 (R23 ++ R37) I24 → J (Value.int IntKind.i64 (n21.tmod 16)) w36)

theorem Bplace_Bucket_run (valuesP : Option Addr) (valuesN valuesC : Nat) {W w : World} {R : List Own} {Φ : PW} [Stable Φ] {J : Value → World → Prop} (c : Ctx W w R Φ) (h : Bplace_Bucket valuesP valuesN valuesC W R Φ J) : Calls Tryd.prog F.place_Bucket #[.slice valuesP valuesN valuesC] w fun e w' => ∃ v, e = .returned v ∧ J v w' :=
  vcFS_sound (H := { keep := some [0, 2, 3, 5, 8, 9, 10, 11], loops := [(3, [(3, .one (.int .i64)), (10, .one (.int .i64))], [])] }) (by rw [show vcFS Tryd.prog W { keep := some [0, 2, 3, 5, 8, 9, 10, 11], loops := [(3, [(3, .one (.int .i64)), (10, .one (.int .i64))], [])] } F.place_Bucket #[.slice valuesP valuesN valuesC] R Φ J = Bplace_Bucket valuesP valuesN valuesC W R Φ J by kernel_rfl]; exact h) c

/-- errataref37.SameInts -/
-- loop at region 4: 5 i; blocks 
def Berrataref37_SameInts (aP : Option Addr) (aN aC : Nat) (bP : Option Addr) (bN bC : Nat) (W : World) (R : List Own) (Φ : PW) (J : Value → World → Prop) : Prop :=
  Br (decide ((↑aN : Int) ≠ (↑bN : Int))) (∀ (w0 : World) (R1 : List Own), Ctx W w0 (R ++ R1) Φ → J (Value.bool false) w0) (exI fun (I2 : Int → List Own → PW → Nat → Prop) => (∃ (R3 : List
  Own), ∃ (Φ4 : PW), ∃ (k5 : Nat), Stable Φ4 ∧ (∀ (w6 : World) (R7 : List Own), Ctx W w6 (R ++ R7) Φ → Ctx W w6 (R3 ++ R7) Φ4) ∧ I2 0 R3 Φ4 k5) ∧ ∀ (n8 : Int) (R9 : List Own) (I10 : List Nat
  → World → Prop) (k11 : Nat), Stable I10 → I2 n8 R9 I10 k11 → Br (decide (n8 < (↑aN : Int))) (∀ (w12 : World) (R13 : List Own), Ctx W w12 (R9 ++ R13) I10 → (0 ≤ n8 ∧ n8 < (↑aN : Int)) ∧ ptrK
  none aP fun (k14 k15 : Nat) => ∃ (n16 : Int), w12.cell? (Addr.mk k14 (k15 + n8.toNat) none) = some (Value.int IntKind.i64 n16) ∧ (0 ≤ n8 ∧ n8 < (↑bN : Int)) ∧ ptrK none bP fun (k17 k18 :
  Nat) => ∃ (n19 : Int), w12.cell? (Addr.mk k17 (k18 + n8.toNat) none) = some (Value.int IntKind.i64 n19) ∧ Br (decide (n16 ≠ n19)) (∀ (w20 : World) (R21 : List Own), Ctx W w20 (R9 ++ R21)
  I10 → J (Value.bool false) w20) (I64 (n8 + 1) ∧ ∃ (R22 : List Own), ∃ (Φ23 : PW), ∃ (k24 : Nat), Stable Φ23 ∧ (∀ (w25 : World) (R26 : List Own), Ctx W w25 (R9 ++ R26) I10 → Ctx W w25 (R22
  ++ R26) Φ23) ∧ I2 (n8 + 1) R22 Φ23 k24 ∧ k24 < k11)) (∀ (w27 : World) (R28 : List Own), Ctx W w27 (R9 ++ R28) I10 → J (Value.bool true) w27))

theorem Berrataref37_SameInts_run (aP : Option Addr) (aN aC : Nat) (bP : Option Addr) (bN bC : Nat) {W w : World} {R : List Own} {Φ : PW} [Stable Φ] {J : Value → World → Prop} (c : Ctx W w R Φ) (h : Berrataref37_SameInts aP aN aC bP bN bC W R Φ J) : Calls Tryd.prog F.errataref37_SameInts #[.slice aP aN aC, .slice bP bN bC] w fun e w' => ∃ v, e = .returned v ∧ J v w' :=
  vcFS_sound (H := { keep := some [0, 1, 4, 5, 10, 14, 25], loops := [(4, [(5, .one (.int .i64))], [])] }) (by rw [show vcFS Tryd.prog W { keep := some [0, 1, 4, 5, 10, 14, 25], loops := [(4, [(5, .one (.int .i64))], [])] } F.errataref37_SameInts #[.slice aP aN aC, .slice bP bN bC] R Φ J = Berrataref37_SameInts aP aN aC bP bN bC W R Φ J by kernel_rfl]; exact h) c

/-- slices.Min[[]int,int] -/
-- loop at region 5: 3 m, 4 i; blocks 
def Bslices_Min_int_int (xP : Option Addr) (xN xC : Nat) (W : World) (R : List Own) (Φ : PW) (J : Value → World → Prop) : Prop :=
  Br (decide ((↑xN : Int) < 1)) (∀ (w0 : World) (R1 : List Own), Ctx W w0 (R ++ R1) Φ → False) (((0 : Int) ≤ 0 ∧ 0 < (↑xN : Int)) ∧ ptrK none xP fun (k2 k3 : Nat) => ∀ (w4 : World) (R5 : List
  Own), Ctx W w4 (R ++ R5) Φ → ∃ (n6 : Int), w4.cell? (Addr.mk k2 k3 none) = some (Value.int IntKind.i64 n6) ∧ exI fun (I7 : Int → Int → List Own → PW → Nat → Prop) => (∃ (R8 : List Own), ∃
  (Φ9 : PW), ∃ (k10 : Nat), Stable Φ9 ∧ (∀ (w11 : World) (R12 : List Own), Ctx W w11 (R ++ R12) Φ → Ctx W w11 (R8 ++ R12) Φ9) ∧ I7 n6 1 R8 Φ9 k10) ∧ ∀ (n13 n14 : Int) (R15 : List Own) (I16 :
  List Nat → World → Prop) (k17 : Nat), Stable I16 → I7 n13 n14 R15 I16 k17 → Br (decide (n14 < (↑xN : Int))) ((0 ≤ n14 ∧ n14 < (↑xN : Int)) ∧ ptrK none xP fun (k18 k19 : Nat) => ∀ (w20 :
  World) (R21 : List Own), Ctx W w20 (R15 ++ R21) I16 → ∃ (n22 : Int), w20.cell? (Addr.mk k18 (k19 + n14.toNat) none) = some (Value.int IntKind.i64 n22) ∧ I64 (n14 + 1) ∧ ∃ (R23 : List Own),
  ∃ (Φ24 : PW), ∃ (k25 : Nat), Stable Φ24 ∧ (∀ (w26 : World) (R27 : List Own), Ctx W w26 (R15 ++ R27) I16 → Ctx W w26 (R23 ++ R27) Φ24) ∧ I7 (min n13 n22) (n14 + 1) R23 Φ24 k25 ∧ k25 < k17)
  (∀ (w28 : World) (R29 : List Own), Ctx W w28 (R15 ++ R29) I16 → J (Value.int IntKind.i64 n13) w28))

theorem Bslices_Min_int_int_run (xP : Option Addr) (xN xC : Nat) {W w : World} {R : List Own} {Φ : PW} [Stable Φ] {J : Value → World → Prop} (c : Ctx W w R Φ) (h : Bslices_Min_int_int xP xN xC W R Φ J) : Calls Tryd.prog F.slices_Min_int_int #[.slice xP xN xC] w fun e w' => ∃ v, e = .returned v ∧ J v w' :=
  vcFS_sound (H := { keep := some [0, 2, 3, 4, 7, 15], loops := [(5, [(3, .one (.int .i64)), (4, .one (.int .i64))], [])] }) (by rw [show vcFS Tryd.prog W { keep := some [0, 2, 3, 4, 7, 15], loops := [(5, [(3, .one (.int .i64)), (4, .one (.int .i64))], [])] } F.slices_Min_int_int #[.slice xP xN xC] R Φ J = Bslices_Min_int_int xP xN xC W R Φ J by kernel_rfl]; exact h) c

/-- slices.Max[[]int,int] -/
-- loop at region 5: 3 m, 4 i; blocks 
def Bslices_Max_int_int (xP : Option Addr) (xN xC : Nat) (W : World) (R : List Own) (Φ : PW) (J : Value → World → Prop) : Prop :=
  Br (decide ((↑xN : Int) < 1)) (∀ (w0 : World) (R1 : List Own), Ctx W w0 (R ++ R1) Φ → False) (((0 : Int) ≤ 0 ∧ 0 < (↑xN : Int)) ∧ ptrK none xP fun (k2 k3 : Nat) => ∀ (w4 : World) (R5 : List
  Own), Ctx W w4 (R ++ R5) Φ → ∃ (n6 : Int), w4.cell? (Addr.mk k2 k3 none) = some (Value.int IntKind.i64 n6) ∧ exI fun (I7 : Int → Int → List Own → PW → Nat → Prop) => (∃ (R8 : List Own), ∃
  (Φ9 : PW), ∃ (k10 : Nat), Stable Φ9 ∧ (∀ (w11 : World) (R12 : List Own), Ctx W w11 (R ++ R12) Φ → Ctx W w11 (R8 ++ R12) Φ9) ∧ I7 n6 1 R8 Φ9 k10) ∧ ∀ (n13 n14 : Int) (R15 : List Own) (I16 :
  List Nat → World → Prop) (k17 : Nat), Stable I16 → I7 n13 n14 R15 I16 k17 → Br (decide (n14 < (↑xN : Int))) ((0 ≤ n14 ∧ n14 < (↑xN : Int)) ∧ ptrK none xP fun (k18 k19 : Nat) => ∀ (w20 :
  World) (R21 : List Own), Ctx W w20 (R15 ++ R21) I16 → ∃ (n22 : Int), w20.cell? (Addr.mk k18 (k19 + n14.toNat) none) = some (Value.int IntKind.i64 n22) ∧ I64 (n14 + 1) ∧ ∃ (R23 : List Own),
  ∃ (Φ24 : PW), ∃ (k25 : Nat), Stable Φ24 ∧ (∀ (w26 : World) (R27 : List Own), Ctx W w26 (R15 ++ R27) I16 → Ctx W w26 (R23 ++ R27) Φ24) ∧ I7 (max n13 n22) (n14 + 1) R23 Φ24 k25 ∧ k25 < k17)
  (∀ (w28 : World) (R29 : List Own), Ctx W w28 (R15 ++ R29) I16 → J (Value.int IntKind.i64 n13) w28))

theorem Bslices_Max_int_int_run (xP : Option Addr) (xN xC : Nat) {W w : World} {R : List Own} {Φ : PW} [Stable Φ] {J : Value → World → Prop} (c : Ctx W w R Φ) (h : Bslices_Max_int_int xP xN xC W R Φ J) : Calls Tryd.prog F.slices_Max_int_int #[.slice xP xN xC] w fun e w' => ∃ v, e = .returned v ∧ J v w' :=
  vcFS_sound (H := { keep := some [0, 2, 3, 4, 7, 15], loops := [(5, [(3, .one (.int .i64)), (4, .one (.int .i64))], [])] }) (by rw [show vcFS Tryd.prog W { keep := some [0, 2, 3, 4, 7, 15], loops := [(5, [(3, .one (.int .i64)), (4, .one (.int .i64))], [])] } F.slices_Max_int_int #[.slice xP xN xC] R Φ J = Bslices_Max_int_int xP xN xC W R Φ J by kernel_rfl]; exact h) c

/-- place.shares -/
-- loop at region 3: 8 ; blocks 
-- known blocks: 2 
def Bplace_shares (pP : Option Addr) (pN pC : Nat) (W : World) (R : List Own) (Φ : PW) (J : Value → World → Prop) : Prop :=
  ∀ (b k0 : Nat), exI fun (I1 : Int → List Own → PW → Nat → Prop) => (∃ (R2 : List Own), ∃ (Φ3 : PW), ∃ (k4 : Nat), Stable Φ3 ∧ (∀ (w5 : World) (R6 : List Own), Ctx W w5 (Own.blk k0
  [Value.int IntKind.i64 0, Value.int IntKind.i64 0, Value.int IntKind.i64 0, Value.int IntKind.i64 0, Value.int IntKind.i64 0, Value.int IntKind.i64 0, Value.int IntKind.i64 0, Value.int
  IntKind.i64 0] 102 :: R ++ R6) Φ → Ctx W w5 (R2 ++ R6) Φ3) ∧ I1 0 R2 Φ3 k4) ∧ ∀ (n7 : Int) (R8 : List Own) (I9 : List Nat → World → Prop) (k10 : Nat), Stable I9 → I1 n7 R8 I9 k10 → Br
  (decide (n7 < (↑pN : Int))) ((0 ≤ n7 ∧ n7 < (↑pN : Int)) ∧ ptrK none pP fun (k11 k12 : Nat) => ∀ (w13 : World) (R14 : List Own), Ctx W w13 (R8 ++ R14) I9 → ∃ (n15 : Int), w13.cell? (Addr.mk
  k11 (k12 + n7.toNat) none) = some (Value.int IntKind.i64 n15) ∧ (0 ≤ n15 ∧ n15 < 8) ∧ ∀ (w16 : World) (R17 : List Own), Ctx W w16 (R8 ++ R17) I9 → ∃ (n18 : Int), w16.cell? (Addr.mk k0 (0 +
  n15.toNat) none) = some (Value.int IntKind.i64 n18) ∧ I64 (n18 + 1) ∧ (0 ≤ n15 ∧ n15 < 8) ∧ ∀ (w19 : World) (R20 : List Own), Ctx W w19 (R8 ++ R20) I9 → CanWrite w19 k0 (0 + n15.toNat) 1 ∧
  ∀ (w21 : World), w21 = w19.setCell (Addr.mk k0 (0 + n15.toNat) none) (Value.int IntKind.i64 (n18 + 1)) → ∃ (R22 : List Own), ∃ (Φ23 : PW), Stable Φ23 ∧ Ctx W w21 (R22 ++ R20) Φ23 ∧ I64 (n7
  + 1) ∧ ∃ (R24 : List Own), ∃ (Φ25 : PW), ∃ (k26 : Nat), Stable Φ25 ∧ (∀ (w27 : World) (R28 : List Own), Ctx W w27 (R22 ++ R28) Φ23 → Ctx W w27 (R24 ++ R28) Φ25) ∧ I1 (n7 + 1) R24 Φ25 k26 ∧
  k26 < k10) (∀ (w29 : World) (R30 : List Own), Ctx W w29 (R8 ++ R30) I9 → ∃ (n31 : Int), ∃ (n32 : Int), ∃ (n33 : Int), ∃ (n34 : Int), ∃ (n35 : Int), ∃ (n36 : Int), ∃ (n37 : Int), ∃ (n38 :
  Int), RowAt w29 k0 0 [Value.int IntKind.i64 n31, Value.int IntKind.i64 n32, Value.int IntKind.i64 n33, Value.int IntKind.i64 n34, Value.int IntKind.i64 n35, Value.int IntKind.i64 n36,
  Value.int IntKind.i64 n37, Value.int IntKind.i64 n38] ∧ ∀ (w39 : World) (R40 : List Own), Ctx W w39 (R8 ++ R40) I9 → J (Value.agg #[Value.int IntKind.i64 n31, Value.int IntKind.i64 n32,
  Value.int IntKind.i64 n33, Value.int IntKind.i64 n34, Value.int IntKind.i64 n35, Value.int IntKind.i64 n36, Value.int IntKind.i64 n37, Value.int IntKind.i64 n38]) w39)

theorem Bplace_shares_run (pP : Option Addr) (pN pC : Nat) {W w : World} {R : List Own} {Φ : PW} [Stable Φ] {J : Value → World → Prop} (c : Ctx W w R Φ) (h : Bplace_shares pP pN pC W R Φ J) : Calls Tryd.prog F.place_shares #[.slice pP pN pC] w fun e w' => ∃ v, e = .returned v ∧ J v w' :=
  vcFS_sound (H := { keep := some [0, 2, 3, 5, 6, 7, 8, 9], track := [2], loops := [(3, [(8, .one (.int .i64))], [])] }) (by rw [show vcFS Tryd.prog W { keep := some [0, 2, 3, 5, 6, 7, 8, 9], track := [2], loops := [(3, [(8, .one (.int .i64))], [])] } F.place_shares #[.slice pP pN pC] R Φ J = Bplace_shares pP pN pC W R Φ J by kernel_rfl]; exact h) c

/-- slices.SortStableFunc[[]int,int] -/
def Bslices_SortStableFunc_int_int (xP : Option Addr) (xN xC : Nat) (cmpF : FuncId) (cmpC : Array Value) (W : World) (R : List Own) (Φ : PW) (J : Value → World → Prop) : Prop :=
  ∀ (w0 : World) (R1 : List Own), Ctx W w0 (R ++ R1) Φ → Calls Tryd.prog F.slices_stableCmpFunc_int #[Value.slice xP xN xC, Value.int IntKind.i64 (↑xN : Int), Value.func (Fn.func cmpF) #[]
  cmpC] w0 fun (e2 : Ending) (w3 : World) => e2 = Ending.returned (Value.tuple #[]) ∧ ∃ (R4 : List Own), ∃ (Φ5 : PW), Stable Φ5 ∧ Ctx W w3 (R4 ++ R1) Φ5 ∧ ∀ (w6 : World) (R7 : List Own), Ctx
  W w6 (R4 ++ R7) Φ5 → J (Value.tuple #[]) w6

theorem Bslices_SortStableFunc_int_int_run (xP : Option Addr) (xN xC : Nat) (cmpF : FuncId) (cmpC : Array Value) {W w : World} {R : List Own} {Φ : PW} [Stable Φ] {J : Value → World → Prop} (c : Ctx W w R Φ) (h : Bslices_SortStableFunc_int_int xP xN xC cmpF cmpC W R Φ J) : Calls Tryd.prog F.slices_SortStableFunc_int_int #[.slice xP xN xC, .func (.func cmpF) #[] cmpC] w fun e w' => ∃ v, e = .returned v ∧ J v w' :=
  vcFS_sound (H := { keep := some [] }) (by rw [show vcFS Tryd.prog W { keep := some [] } F.slices_SortStableFunc_int_int #[.slice xP xN xC, .func (.func cmpF) #[] cmpC] R Φ J = Bslices_SortStableFunc_int_int xP xN xC cmpF cmpC W R Φ J by kernel_rfl]; exact h) c

/-- place.Spread$1 -/
def Bplace_Spread_1 (a b : Int) (kB kO : Nat) (W : World) (R : List Own) (Φ : PW) (J : Value → World → Prop) : Prop :=
  ∀ (w0 : World) (R1 : List Own), Ctx W w0 (R ++ R1) Φ → (0 ≤ b ∧ b < 8) ∧ ∃ (n2 : Int), w0.cell? (Addr.mk kB (kO + b.toNat) none) = some (Value.int IntKind.i64 n2) ∧ (0 ≤ a ∧ a < 8) ∧ ∃ (n3
  : Int), w0.cell? (Addr.mk kB (kO + a.toNat) none) = some (Value.int IntKind.i64 n3) ∧ I64 (n2 - n3) ∧ ∀ (w4 : World) (R5 : List Own), Ctx W w4 (R ++ R5) Φ → J (Value.int IntKind.i64 (n2 -
  n3)) w4

theorem Bplace_Spread_1_run (a b : Int) (kB kO : Nat) {W w : World} {R : List Own} {Φ : PW} [Stable Φ] {J : Value → World → Prop} (c : Ctx W w R Φ) (h : Bplace_Spread_1 a b kB kO W R Φ J) : Calls Tryd.prog F.place_Spread_1 #[.int .i64 a, .int .i64 b, .pointer (some ⟨kB, kO, none⟩)] w fun e w' => ∃ v, e = .returned v ∧ J v w' :=
  vcFS_sound (H := { keep := some [0, 1, 2, 5] }) (by rw [show vcFS Tryd.prog W { keep := some [0, 1, 2, 5] } F.place_Spread_1 #[.int .i64 a, .int .i64 b, .pointer (some ⟨kB, kO, none⟩)] R Φ J = Bplace_Spread_1 a b kB kO W R Φ J by kernel_rfl]; exact h) c

/-- slices.Clone[[]int,int] -/
def Bslices_Clone_int_int (sP : Option Addr) (sN sC : Nat) (W : World) (R : List Own) (Φ : PW) (J : Value → World → Prop) : Prop :=
  Br sP.isNone (∀ (w0 : World) (R1 : List Own), Ctx W w0 (R ++ R1) Φ → J (Value.slice none 0 0) w0) (∀ (k2 : Nat) (w3 : World) (R4 : List Own), Ctx W w3 (Own.blk k2 [] 3 :: R ++ R4) Φ → ∃ (p5
  : Option Addr), ∃ (k6 : Nat), ∃ (k7 : Nat), ∃ (w8 : World), Sem.run Tryd.prog (builtin Builtin.append #[22, 22] 22 #[false, false] #[Value.slice (some (Addr.mk k2 0 none)) 0 0, Value.slice
  sP sN sC]) w3 = Result.ok (Next.value (Value.slice p5 k6 k7)) w8 ∧ ∃ (R9 : List Own), ∃ (Φ10 : PW), Stable Φ10 ∧ Ctx W w8 (R9 ++ R4) Φ10 ∧ ∀ (w11 : World) (R12 : List Own), Ctx W w11 (R9 ++
  R12) Φ10 → J (Value.slice p5 k6 k7) w11)

theorem Bslices_Clone_int_int_run (sP : Option Addr) (sN sC : Nat) {W w : World} {R : List Own} {Φ : PW} [Stable Φ] {J : Value → World → Prop} (c : Ctx W w R Φ) (h : Bslices_Clone_int_int sP sN sC W R Φ J) : Calls Tryd.prog F.slices_Clone_int_int #[.slice sP sN sC] w fun e w' => ∃ v, e = .returned v ∧ J v w' :=
  vcFS_sound (H := { keep := some [0, 2, 4] }) (by rw [show vcFS Tryd.prog W { keep := some [0, 2, 4] } F.slices_Clone_int_int #[.slice sP sN sC] R Φ J = Bslices_Clone_int_int sP sN sC W R Φ J by kernel_rfl]; exact h) c

/-- slices.IndexFunc[[]int,int] -/
-- loop at region 2: 8 ; blocks 
def Bslices_IndexFunc_int_int (sP : Option Addr) (sN sC : Nat) (fF : FuncId) (fC : Array Value) (W : World) (R : List Own) (Φ : PW) (J : Value → World → Prop) : Prop :=
  exI fun (I0 : Int → List Own → PW → Nat → Prop) => (∃ (R1 : List Own), ∃ (Φ2 : PW), ∃ (k3 : Nat), Stable Φ2 ∧ (∀ (w4 : World) (R5 : List Own), Ctx W w4 (R ++ R5) Φ → Ctx W w4 (R1 ++ R5) Φ2)
  ∧ I0 0 R1 Φ2 k3) ∧ ∀ (n6 : Int) (R7 : List Own) (I8 : List Nat → World → Prop) (k9 : Nat), Stable I8 → I0 n6 R7 I8 k9 → Br (decide (n6 < (↑sN : Int))) ((0 ≤ n6 ∧ n6 < (↑sN : Int)) ∧ ptrK
  none sP fun (k10 k11 : Nat) => ∀ (w12 : World) (R13 : List Own), Ctx W w12 (R7 ++ R13) I8 → ∃ (n14 : Int), w12.cell? (Addr.mk k10 (k11 + n6.toNat) none) = some (Value.int IntKind.i64 n14) ∧
  ∀ (w15 : World) (R16 : List Own), Ctx W w15 (R7 ++ R16) I8 → okFun Tryd.prog fF = true ∧ Calls Tryd.prog fF (Array.mk (Value.int IntKind.i64 n14 :: fC.toList)) w15 fun (e17 : Ending) (w18 :
  World) => ∃ (c19 : Bool), e17 = Ending.returned (Value.bool c19) ∧ ∃ (R20 : List Own), ∃ (Φ21 : PW), Stable Φ21 ∧ Ctx W w18 (R20 ++ R16) Φ21 ∧ Br c19 (∀ (w22 : World) (R23 : List Own), Ctx
  W w22 (R20 ++ R23) Φ21 → J (Value.int IntKind.i64 n6) w22) (I64 (n6 + 1) ∧ ∃ (R24 : List Own), ∃ (Φ25 : PW), ∃ (k26 : Nat), Stable Φ25 ∧ (∀ (w27 : World) (R28 : List Own), Ctx W w27 (R20 ++
  R28) Φ21 → Ctx W w27 (R24 ++ R28) Φ25) ∧ I0 (n6 + 1) R24 Φ25 k26 ∧ k26 < k9)) (∀ (w29 : World) (R30 : List Own), Ctx W w29 (R7 ++ R30) I8 → J (Value.int IntKind.i64 (-1)) w29)

theorem Bslices_IndexFunc_int_int_run (sP : Option Addr) (sN sC : Nat) (fF : FuncId) (fC : Array Value) {W w : World} {R : List Own} {Φ : PW} [Stable Φ] {J : Value → World → Prop} (c : Ctx W w R Φ) (h : Bslices_IndexFunc_int_int sP sN sC fF fC W R Φ J) : Calls Tryd.prog F.slices_IndexFunc_int_int #[.slice sP sN sC, .func (.func fF) #[] fC] w fun e w' => ∃ v, e = .returned v ∧ J v w' :=
  vcFS_sound (H := { keep := some [0, 1, 4, 5, 7, 8, 9, 16], wrap := [16], loops := [(2, [(8, .one (.int .i64))], [])] }) (by rw [show vcFS Tryd.prog W { keep := some [0, 1, 4, 5, 7, 8, 9, 16], wrap := [16], loops := [(2, [(8, .one (.int .i64))], [])] } F.slices_IndexFunc_int_int #[.slice sP sN sC, .func (.func fF) #[] fC] R Φ J = Bslices_IndexFunc_int_int sP sN sC fF fC W R Φ J by kernel_rfl]; exact h) c

/-- place.Spread$2 -/
def Bplace_Spread_2 (n : Int) (W : World) (R : List Own) (Φ : PW) (J : Value → World → Prop) : Prop :=
  ∀ (w0 : World) (R1 : List Own), Ctx W w0 (R ++ R1) Φ → J (Value.bool (decide (0 < n))) w0

theorem Bplace_Spread_2_run (n : Int) {W w : World} {R : List Own} {Φ : PW} [Stable Φ] {J : Value → World → Prop} (c : Ctx W w R Φ) (h : Bplace_Spread_2 n W R Φ J) : Calls Tryd.prog F.place_Spread_2 #[.int .i64 n] w fun e w' => ∃ v, e = .returned v ∧ J v w' :=
  vcFS_sound (H := { keep := some [0, 2] }) (by rw [show vcFS Tryd.prog W { keep := some [0, 2] } F.place_Spread_2 #[.int .i64 n] R Φ J = Bplace_Spread_2 n W R Φ J by kernel_rfl]; exact h) c

/-- value.RowBytes -/
-- loop at region 4: 12 ; blocks 
-- known blocks: 5 v
def Bvalue_RowBytes (rP : Option Addr) (rN rC : Nat) (W : World) (R : List Own) (Φ : PW) (J : Value → World → Prop) : Prop :=
  ∀ (k0 : Nat) (w1 : World) (R2 : List Own), Ctx W w1 (Own.blk k0 [Value.pointer none, Value.slice none 0 0] 138 :: R ++ R2) Φ → Calls Tryd.prog F.wire_Num #[Value.int IntKind.i64 (↑rN :
  Int)] w1 fun (e3 : Ending) (w4 : World) => ∃ (s5 : ByteArray), e3 = Ending.returned (Value.string s5) ∧ ∃ (R6 : List Own), ∃ (Φ7 : PW), Stable Φ7 ∧ Ctx W w4 (R6 ++ R2) Φ7 ∧ ∀ (w8 : World)
  (R9 : List Own), Ctx W w8 (R6 ++ R9) Φ7 → Calls Tryd.prog F.strings_Builder_WriteString #[Value.pointer (some (Addr.mk k0 0 none)), Value.string s5] w8 fun (e10 : Ending) (w11 : World) => ∃
  (n12 : Int), ∃ (v13 : Value), e10 = Ending.returned (Value.tuple #[Value.int IntKind.i64 n12, v13]) ∧ ∃ (R14 : List Own), ∃ (Φ15 : PW), Stable Φ15 ∧ Ctx W w11 (R14 ++ R9) Φ15 ∧ exI fun (I16
  : Int → List Own → PW → Nat → Prop) => (∃ (R17 : List Own), ∃ (Φ18 : PW), ∃ (k19 : Nat), Stable Φ18 ∧ (∀ (w20 : World) (R21 : List Own), Ctx W w20 (R14 ++ R21) Φ15 → Ctx W w20 (R17 ++ R21)
  Φ18) ∧ I16 0 R17 Φ18 k19) ∧ ∀ (n22 : Int) (R23 : List Own) (I24 : List Nat → World → Prop) (k25 : Nat), Stable I24 → I16 n22 R23 I24 k25 → Br (decide (n22 < (↑rN : Int))) ((0 ≤ n22 ∧ n22 <
  (↑rN : Int)) ∧ ptrK none rP fun (k26 k27 : Nat) => ∀ (w28 : World) (R29 : List Own), Ctx W w28 (R23 ++ R29) I24 → ∃ (n30 : Int), ∃ (n31 : Int), ∃ (s32 : ByteArray), RowAt w28 k26 (k27 +
  n22.toNat * 3) [Value.int IntKind.i64 n30, Value.int IntKind.i64 n31, Value.string s32] ∧ ∀ (b : Nat) (w33 : World) (R34 : List Own), Ctx W w33 (R23 ++ R34) I24 → Calls Tryd.prog
  F.value_Bytes #[Value.agg #[Value.int IntKind.i64 n30, Value.int IntKind.i64 n31, Value.string s32]] w33 fun (e35 : Ending) (w36 : World) => ∃ (s37 : ByteArray), e35 = Ending.returned
  (Value.string s37) ∧ ∃ (R38 : List Own), ∃ (Φ39 : PW), Stable Φ39 ∧ Ctx W w36 (R38 ++ R34) Φ39 ∧ ∀ (w40 : World) (R41 : List Own), Ctx W w40 (R38 ++ R41) Φ39 → Calls Tryd.prog
  F.strings_Builder_WriteString #[Value.pointer (some (Addr.mk k0 0 none)), Value.string s37] w40 fun (e42 : Ending) (w43 : World) => ∃ (n44 : Int), ∃ (v45 : Value), e42 = Ending.returned
  (Value.tuple #[Value.int IntKind.i64 n44, v45]) ∧ ∃ (R46 : List Own), ∃ (Φ47 : PW), Stable Φ47 ∧ Ctx W w43 (R46 ++ R41) Φ47 ∧ I64 (n22 + 1) ∧ ∃ (R48 : List Own), ∃ (Φ49 : PW), ∃ (k50 :
  Nat), Stable Φ49 ∧ (∀ (w51 : World) (R52 : List Own), Ctx W w51 (R46 ++ R52) Φ47 → Ctx W w51 (R48 ++ R52) Φ49) ∧ I16 (n22 + 1) R48 Φ49 k50 ∧ k50 < k25) (∀ (w53 : World) (R54 : List Own),
  Ctx W w53 (R23 ++ R54) I24 → Calls Tryd.prog F.strings_Builder_String #[Value.pointer (some (Addr.mk k0 0 none))] w53 fun (e55 : Ending) (w56 : World) => ∃ (s57 : ByteArray), e55 =
  Ending.returned (Value.string s57) ∧ ∃ (R58 : List Own), ∃ (Φ59 : PW), Stable Φ59 ∧ Ctx W w56 (R58 ++ R54) Φ59 ∧ ∀ (w60 : World) (R61 : List Own), Ctx W w60 (R58 ++ R61) Φ59 → J
  (Value.string s57) w60)

theorem Bvalue_RowBytes_run (rP : Option Addr) (rN rC : Nat) {W w : World} {R : List Own} {Φ : PW} [Stable Φ] {J : Value → World → Prop} (c : Ctx W w R Φ) (h : Bvalue_RowBytes rP rN rC W R Φ J) : Calls Tryd.prog F.value_RowBytes #[.slice rP rN rC] w fun e w' => ∃ v, e = .returned v ∧ J v w' :=
  vcFS_sound (H := { keep := some [0, 2, 3, 5, 10, 11, 12, 13], track := [5], loops := [(4, [(12, .one (.int .i64))], [])] }) (by rw [show vcFS Tryd.prog W { keep := some [0, 2, 3, 5, 10, 11, 12, 13], track := [5], loops := [(4, [(12, .one (.int .i64))], [])] } F.value_RowBytes #[.slice rP rN rC] R Φ J = Bvalue_RowBytes rP rN rC W R Φ J by kernel_rfl]; exact h) c

/-- (*strings.Builder).WriteString -/
def Bstrings_Builder_WriteString (bB bO : Nat) (s : ByteArray) (W : World) (R : List Own) (Φ : PW) (J : Value → World → Prop) : Prop :=
  ∀ (w0 : World) (R1 : List Own), Ctx W w0 (R ++ R1) Φ → Calls Tryd.prog F.strings_Builder_copyCheck #[Value.pointer (some (Addr.mk bB bO none))] w0 fun (e2 : Ending) (w3 : World) => e2 =
  Ending.returned (Value.tuple #[]) ∧ ∃ (R4 : List Own), ∃ (Φ5 : PW), Stable Φ5 ∧ Ctx W w3 (R4 ++ R1) Φ5 ∧ ∀ (w6 : World) (R7 : List Own), Ctx W w6 (R4 ++ R7) Φ5 → ∃ (p8 : Option Addr), ∃ (k9
  : Nat), ∃ (k10 : Nat), w6.cell? (Addr.mk bB (bO + 1) none) = some (Value.slice p8 k9 k10) ∧ ∀ (w11 : World) (R12 : List Own), Ctx W w11 (R4 ++ R12) Φ5 → ∃ (p13 : Option Addr), ∃ (k14 :
  Nat), ∃ (k15 : Nat), ∃ (w16 : World), Sem.run Tryd.prog (builtin Builtin.append #[109, 9] 109 #[false, false] #[Value.slice p8 k9 k10, Value.string s]) w11 = Result.ok (Next.value
  (Value.slice p13 k14 k15)) w16 ∧ ∃ (R17 : List Own), ∃ (Φ18 : PW), Stable Φ18 ∧ Ctx W w16 (R17 ++ R12) Φ18 ∧ ∀ (w19 : World) (R20 : List Own), Ctx W w19 (R17 ++ R20) Φ18 → CanWrite w19 bB
  (bO + 1) 1 ∧ ∀ (w21 : World), w21 = w19.setCell (Addr.mk bB (bO + 1) none) (Value.slice p13 k14 k15) → ∃ (R22 : List Own), ∃ (Φ23 : PW), Stable Φ23 ∧ Ctx W w21 (R22 ++ R20) Φ23 ∧ ∀ (w24 :
  World) (R25 : List Own), Ctx W w24 (R22 ++ R25) Φ23 → J (Value.tuple #[Value.int IntKind.i64 (↑s.size : Int), Value.nilIface]) w24

theorem Bstrings_Builder_WriteString_run (bB bO : Nat) (s : ByteArray) {W w : World} {R : List Own} {Φ : PW} [Stable Φ] {J : Value → World → Prop} (c : Ctx W w R Φ) (h : Bstrings_Builder_WriteString bB bO s W R Φ J) : Calls Tryd.prog F.strings_Builder_WriteString #[.pointer (some ⟨bB, bO, none⟩), .string s] w fun e w' => ∃ v, e = .returned v ∧ J v w' :=
  vcFS_sound (H := { keep := some [0, 1, 4, 5] }) (by rw [show vcFS Tryd.prog W { keep := some [0, 1, 4, 5] } F.strings_Builder_WriteString #[.pointer (some ⟨bB, bO, none⟩), .string s] R Φ J = Bstrings_Builder_WriteString bB bO s W R Φ J by kernel_rfl]; exact h) c

/-- wire.Num -/
def Bwire_Num (n : Int) (W : World) (R : List Own) (Φ : PW) (J : Value → World → Prop) : Prop :=
  Br (decide (n < 0)) (∀ (w0 : World) (R1 : List Own), Ctx W w0 (R ++ R1) Φ → J (Value.string (ByteArray.mk #[])) w0) (∀ (w2 : World) (R3 : List Own), Ctx W w2 (R ++ R3) Φ → Calls Tryd.prog
  F.wire_Int #[Value.int IntKind.i64 n] w2 fun (e4 : Ending) (w5 : World) => ∃ (s6 : ByteArray), e4 = Ending.returned (Value.string s6) ∧ ∃ (R7 : List Own), ∃ (Φ8 : PW), Stable Φ8 ∧ Ctx W w5
  (R7 ++ R3) Φ8 ∧ ∀ (w9 : World) (R10 : List Own), Ctx W w9 (R7 ++ R10) Φ8 → J (Value.string s6) w9)

theorem Bwire_Num_run (n : Int) {W w : World} {R : List Own} {Φ : PW} [Stable Φ] {J : Value → World → Prop} (c : Ctx W w R Φ) (h : Bwire_Num n W R Φ J) : Calls Tryd.prog F.wire_Num #[.int .i64 n] w fun e w' => ∃ v, e = .returned v ∧ J v w' :=
  vcFS_sound (H := { keep := some [0, 2, 4] }) (by rw [show vcFS Tryd.prog W { keep := some [0, 2, 4] } F.wire_Num #[.int .i64 n] R Φ J = Bwire_Num n W R Φ J by kernel_rfl]; exact h) c

/-- wire.Int -/
def Bwire_Int (n : Int) (W : World) (R : List Own) (Φ : PW) (J : Value → World → Prop) : Prop :=
  ∀ (w0 : World) (R1 : List Own), Ctx W w0 (R ++ R1) Φ → Calls Tryd.prog F.strconv_Itoa #[Value.int IntKind.i64 n] w0 fun (e2 : Ending) (w3 : World) => ∃ (s4 : ByteArray), e2 =
  Ending.returned (Value.string s4) ∧ ∃ (R5 : List Own), ∃ (Φ6 : PW), Stable Φ6 ∧ Ctx W w3 (R5 ++ R1) Φ6 ∧ (s4.size + (ByteArray.mk #[OfNat.ofNat 59]).size).le 9223372036854775807 ∧ ∀ (w7 :
  World) (R8 : List Own), Ctx W w7 (R5 ++ R8) Φ6 → J (Value.string (s4 ++ ByteArray.mk #[OfNat.ofNat 59])) w7

theorem Bwire_Int_run (n : Int) {W w : World} {R : List Own} {Φ : PW} [Stable Φ] {J : Value → World → Prop} (c : Ctx W w R Φ) (h : Bwire_Int n W R Φ J) : Calls Tryd.prog F.wire_Int #[.int .i64 n] w fun e w' => ∃ v, e = .returned v ∧ J v w' :=
  vcFS_sound (H := { keep := some [0, 2] }) (by rw [show vcFS Tryd.prog W { keep := some [0, 2] } F.wire_Int #[.int .i64 n] R Φ J = Bwire_Int n W R Φ J by kernel_rfl]; exact h) c

/-- wire.Text -/
def Bwire_Text (s : ByteArray) (W : World) (R : List Own) (Φ : PW) (J : Value → World → Prop) : Prop :=
  ∀ (w0 : World) (R1 : List Own), Ctx W w0 (R ++ R1) Φ → Calls Tryd.prog F.strconv_Itoa #[Value.int IntKind.i64 (↑s.size : Int)] w0 fun (e2 : Ending) (w3 : World) => ∃ (s4 : ByteArray), e2 =
  Ending.returned (Value.string s4) ∧ ∃ (R5 : List Own), ∃ (Φ6 : PW), Stable Φ6 ∧ Ctx W w3 (R5 ++ R1) Φ6 ∧ (s4.size + (ByteArray.mk #[OfNat.ofNat 58]).size).le 9223372036854775807 ∧ ((s4 ++
  ByteArray.mk #[OfNat.ofNat 58]).size + s.size).le 9223372036854775807 ∧ ((s4 ++ ByteArray.mk #[OfNat.ofNat 58] ++ s).size + (ByteArray.mk #[OfNat.ofNat 44]).size).le 9223372036854775807 ∧ ∀
  (w7 : World) (R8 : List Own), Ctx W w7 (R5 ++ R8) Φ6 → J (Value.string (s4 ++ ByteArray.mk #[OfNat.ofNat 58] ++ s ++ ByteArray.mk #[OfNat.ofNat 44])) w7

theorem Bwire_Text_run (s : ByteArray) {W w : World} {R : List Own} {Φ : PW} [Stable Φ] {J : Value → World → Prop} (c : Ctx W w R Φ) (h : Bwire_Text s W R Φ J) : Calls Tryd.prog F.wire_Text #[.string s] w fun e w' => ∃ v, e = .returned v ∧ J v w' :=
  vcFS_sound (H := { keep := some [0, 2] }) (by rw [show vcFS Tryd.prog W { keep := some [0, 2] } F.wire_Text #[.string s] R Φ J = Bwire_Text s W R Φ J by kernel_rfl]; exact h) c

/-- slices.stableCmpFunc[int] -/
-- loop at region 9: 7 a, 8 b; blocks 
-- loop at region 7: 6 blockSize; blocks 
-- loop at region 2: 7 a, 8 b; blocks 
def Bslices_stableCmpFunc_int (dataP : Option Addr) (dataN dataC : Nat) (n : Int) (cmpF : FuncId) (cmpC : Array Value) (W : World) (R : List Own) (Φ : PW) (J : Value → World → Prop) : Prop :=
  exI fun (I0 : Int → Int → List Own → PW → Nat → Prop) => (∃ (R1 : List Own), ∃ (Φ2 : PW), ∃ (k3 : Nat), Stable Φ2 ∧ (∀ (w4 : World) (R5 : List Own), Ctx W w4 (R ++ R5) Φ → Ctx W w4 (R1 ++
  R5) Φ2) ∧ I0 0 20 R1 Φ2 k3) ∧ ∀ (n6 n7 : Int) (R8 : List Own) (I9 : List Nat → World → Prop) (k10 : Nat), Stable I9 → I0 n6 n7 R8 I9 k10 → Br (decide (n7 ≤ n)) (∀ (w11 : World) (R12 : List
  Own), Ctx W w11 (R8 ++ R12) I9 → Calls Tryd.prog F.slices_insertionSortCmpFunc_int #[Value.slice dataP dataN dataC, Value.int IntKind.i64 n6, Value.int IntKind.i64 n7, Value.func (Fn.func
  cmpF) #[] cmpC] w11 fun (e13 : Ending) (w14 : World) => e13 = Ending.returned (Value.tuple #[]) ∧ ∃ (R15 : List Own), ∃ (Φ16 : PW), Stable Φ16 ∧ Ctx W w14 (R15 ++ R12) Φ16 ∧ I64 (n7 + 20) ∧
  ∃ (R17 : List Own), ∃ (Φ18 : PW), ∃ (k19 : Nat), Stable Φ18 ∧ (∀ (w20 : World) (R21 : List Own), Ctx W w20 (R15 ++ R21) Φ16 → Ctx W w20 (R17 ++ R21) Φ18) ∧ I0 n7 (n7 + 20) R17 Φ18 k19 ∧ k19
  < k10) (∀ (w22 : World) (R23 : List Own), Ctx W w22 (R8 ++ R23) I9 → Calls Tryd.prog F.slices_insertionSortCmpFunc_int #[Value.slice dataP dataN dataC, Value.int IntKind.i64 n6, Value.int
  IntKind.i64 n, Value.func (Fn.func cmpF) #[] cmpC] w22 fun (e24 : Ending) (w25 : World) => e24 = Ending.returned (Value.tuple #[]) ∧ ∃ (R26 : List Own), ∃ (Φ27 : PW), Stable Φ27 ∧ Ctx W w25
  (R26 ++ R23) Φ27 ∧ exI fun (I28 : Int → List Own → PW → Nat → Prop) => (∃ (R29 : List Own), ∃ (Φ30 : PW), ∃ (k31 : Nat), Stable Φ30 ∧ (∀ (w32 : World) (R33 : List Own), Ctx W w32 (R26 ++
  R33) Φ27 → Ctx W w32 (R29 ++ R33) Φ30) ∧ I28 20 R29 Φ30 k31) ∧ ∀ (n34 : Int) (R35 : List Own) (I36 : List Nat → World → Prop) (k37 : Nat), Stable I36 → I28 n34 R35 I36 k37 → Br (decide (n34
  < n)) (I64 (2 * n34) ∧ exI fun (I38 : Int → Int → List Own → PW → Nat → Prop) => (∃ (R39 : List Own), ∃ (Φ40 : PW), ∃ (k41 : Nat), Stable Φ40 ∧ (∀ (w42 : World) (R43 : List Own), Ctx W w42
  (R35 ++ R43) I36 → Ctx W w42 (R39 ++ R43) Φ40) ∧ I38 0 (2 * n34) R39 Φ40 k41) ∧ ∀ (n44 n45 : Int) (R46 : List Own) (I47 : List Nat → World → Prop) (k48 : Nat), Stable I47 → I38 n44 n45 R46
  I47 k48 → Br (decide (n45 ≤ n)) (I64 (n44 + n34) ∧ ∀ (w49 : World) (R50 : List Own), Ctx W w49 (R46 ++ R50) I47 → Calls Tryd.prog F.slices_symMergeCmpFunc_int #[Value.slice dataP dataN
  dataC, Value.int IntKind.i64 n44, Value.int IntKind.i64 (n44 + n34), Value.int IntKind.i64 n45, Value.func (Fn.func cmpF) #[] cmpC] w49 fun (e51 : Ending) (w52 : World) => e51 =
  Ending.returned (Value.tuple #[]) ∧ ∃ (R53 : List Own), ∃ (Φ54 : PW), Stable Φ54 ∧ Ctx W w52 (R53 ++ R50) Φ54 ∧ I64 (2 * n34) ∧ I64 (n45 + 2 * n34) ∧ ∃ (R55 : List Own), ∃ (Φ56 : PW), ∃
  (k57 : Nat), Stable Φ56 ∧ (∀ (w58 : World) (R59 : List Own), Ctx W w58 (R53 ++ R59) Φ54 → Ctx W w58 (R55 ++ R59) Φ56) ∧ I38 n45 (n45 + 2 * n34) R55 Φ56 k57 ∧ k57 < k48) (I64 (n44 + n34) ∧
  Br (decide (n44 + n34 < n)) (∀ (w60 : World) (R61 : List Own), Ctx W w60 (R46 ++ R61) I47 → Calls Tryd.prog F.slices_symMergeCmpFunc_int #[Value.slice dataP dataN dataC, Value.int
  IntKind.i64 n44, Value.int IntKind.i64 (n44 + n34), Value.int IntKind.i64 n, Value.func (Fn.func cmpF) #[] cmpC] w60 fun (e62 : Ending) (w63 : World) => e62 = Ending.returned (Value.tuple
  #[]) ∧ ∃ (R64 : List Own), ∃ (Φ65 : PW), Stable Φ65 ∧ Ctx W w63 (R64 ++ R61) Φ65 ∧ I64 (n34 * 2) ∧ ∃ (R66 : List Own), ∃ (Φ67 : PW), ∃ (k68 : Nat), Stable Φ67 ∧ (∀ (w69 : World) (R70 : List
  Own), Ctx W w69 (R64 ++ R70) Φ65 → Ctx W w69 (R66 ++ R70) Φ67) ∧ I28 (n34 * 2) R66 Φ67 k68 ∧ k68 < k37) (I64 (n34 * 2) ∧ ∃ (R71 : List Own), ∃ (Φ72 : PW), ∃ (k73 : Nat), Stable Φ72 ∧ (∀
  (w74 : World) (R75 : List Own), Ctx W w74 (R46 ++ R75) I47 → Ctx W w74 (R71 ++ R75) Φ72) ∧ I28 (n34 * 2) R71 Φ72 k73 ∧ k73 < k37))) (∀ (w76 : World) (R77 : List Own), Ctx W w76 (R35 ++ R77)
  I36 → J (Value.tuple #[]) w76))

theorem Bslices_stableCmpFunc_int_run (dataP : Option Addr) (dataN dataC : Nat) (n : Int) (cmpF : FuncId) (cmpC : Array Value) {W w : World} {R : List Own} {Φ : PW} [Stable Φ] {J : Value → World → Prop} (c : Ctx W w R Φ) (h : Bslices_stableCmpFunc_int dataP dataN dataC n cmpF cmpC W R Φ J) : Calls Tryd.prog F.slices_stableCmpFunc_int #[.slice dataP dataN dataC, .int .i64 n, .func (.func cmpF) #[] cmpC] w fun e w' => ∃ v, e = .returned v ∧ J v w' :=
  vcFS_sound (H := { keep := some [0, 1, 2, 6, 7, 8, 9, 13, 30, 35, 54], loops := [(9, [(7, .one (.int .i64)), (8, .one (.int .i64))], []), (7, [(6, .one (.int .i64))], []), (2, [(7, .one (.int .i64)), (8, .one (.int .i64))], [])] }) (by rw [show vcFS Tryd.prog W { keep := some [0, 1, 2, 6, 7, 8, 9, 13, 30, 35, 54], loops := [(9, [(7, .one (.int .i64)), (8, .one (.int .i64))], []), (7, [(6, .one (.int .i64))], []), (2, [(7, .one (.int .i64)), (8, .one (.int .i64))], [])] } F.slices_stableCmpFunc_int #[.slice dataP dataN dataC, .int .i64 n, .func (.func cmpF) #[] cmpC] R Φ J = Bslices_stableCmpFunc_int dataP dataN dataC n cmpF cmpC W R Φ J by kernel_rfl]; exact h) c

/-- value.Bytes -/
-- known blocks: 1 v
def Bvalue_Bytes (v0 : Int) (v1 : Int) (v2 : ByteArray) (W : World) (R : List Own) (Φ : PW) (J : Value → World → Prop) : Prop :=
  ∀ (b : Nat), ∃ (R0 : List Own), ∃ (Φ1 : PW), Stable Φ1 ∧ (∀ (w2 : World) (R3 : List Own), Ctx W w2 (R ++ R3) Φ → Ctx W w2 (R0 ++ R3) Φ1) ∧ ∀ (w4 : World) (R5 : List Own), Ctx W w4 (R ++ R5)
  Φ → Calls Tryd.prog F.wire_Int #[Value.int IntKind.i64 v0] w4 fun (e6 : Ending) (w7 : World) => ∃ (s8 : ByteArray), e6 = Ending.returned (Value.string s8) ∧ ∃ (R9 : List Own), ∃ (Φ10 : PW),
  Stable Φ10 ∧ Ctx W w7 (R9 ++ R5) Φ10 ∧ (∀ (w11 : World) (R12 : List Own), Ctx W w11 (R9 ++ R12) Φ10 → Ctx W w11 (R0 ++ R12) Φ1) ∧ ∀ (w13 : World) (R14 : List Own), Ctx W w13 (R9 ++ R14) Φ10
  → Calls Tryd.prog F.wire_Int #[Value.int IntKind.i64 v1] w13 fun (e15 : Ending) (w16 : World) => ∃ (s17 : ByteArray), e15 = Ending.returned (Value.string s17) ∧ ∃ (R18 : List Own), ∃ (Φ19 :
  PW), Stable Φ19 ∧ Ctx W w16 (R18 ++ R14) Φ19 ∧ (∀ (w20 : World) (R21 : List Own), Ctx W w20 (R18 ++ R21) Φ19 → Ctx W w20 (R0 ++ R21) Φ1) ∧ (s8.size + s17.size).le 9223372036854775807 ∧ ∀
  (w22 : World) (R23 : List Own), Ctx W w22 (R18 ++ R23) Φ19 → Calls Tryd.prog F.wire_Text #[Value.string v2] w22 fun (e24 : Ending) (w25 : World) => ∃ (s26 : ByteArray), e24 =
  Ending.returned (Value.string s26) ∧ ∃ (R27 : List Own), ∃ (Φ28 : PW), Stable Φ28 ∧ Ctx W w25 (R27 ++ R23) Φ28 ∧ (∀ (w29 : World) (R30 : List Own), Ctx W w29 (R27 ++ R30) Φ28 → Ctx W w29
  (R0 ++ R30) Φ1) ∧ ((s8 ++ s17).size + s26.size).le 9223372036854775807 ∧ ∀ (w31 : World) (R32 : List Own), Ctx W w31 (R27 ++ R32) Φ28 → J (Value.string (s8 ++ s17 ++ s26)) w31

theorem Bvalue_Bytes_run (v0 : Int) (v1 : Int) (v2 : ByteArray) {W w : World} {R : List Own} {Φ : PW} [Stable Φ] {J : Value → World → Prop} (c : Ctx W w R Φ) (h : Bvalue_Bytes v0 v1 v2 W R Φ J) : Calls Tryd.prog F.value_Bytes #[.agg #[.int .i64 v0, .int .i64 v1, .string v2]] w fun e w' => ∃ v, e = .returned v ∧ J v w' :=
  vcFS_sound (H := { keep := some [1, 2], track := [1], stages := [(1, [.held [(0, true), (3, true), (7, true), (1, true), (4, true), (8, true), (2, false), (5, false), (6, true), (9, false)], .stage [10, 11] none])] }) (by rw [show vcFS Tryd.prog W { keep := some [1, 2], track := [1], stages := [(1, [.held [(0, true), (3, true), (7, true), (1, true), (4, true), (8, true), (2, false), (5, false), (6, true), (9, false)], .stage [10, 11] none])] } F.value_Bytes #[.agg #[.int .i64 v0, .int .i64 v1, .string v2]] R Φ J = Bvalue_Bytes v0 v1 v2 W R Φ J by kernel_rfl]; exact h) c

/-- slices.insertionSortCmpFunc[int] -/
-- loop at region 4: 9 j; blocks 
-- loop at region 1: 8 i; blocks 
def Bslices_insertionSortCmpFunc_int (dataP : Option Addr) (dataN dataC : Nat) (a : Int) (b : Int) (cmpF : FuncId) (cmpC : Array Value) (W : World) (R : List Own) (Φ : PW) (J : Value → World → Prop) : Prop :=
  I64 (a + 1) ∧ exI fun (I0 : Int → List Own → PW → Nat → Prop) => (∃ (R1 : List Own), ∃ (Φ2 : PW), ∃ (k3 : Nat), Stable Φ2 ∧ (∀ (w4 : World) (R5 : List Own), Ctx W w4 (R ++ R5) Φ → Ctx W w4
  (R1 ++ R5) Φ2) ∧ I0 (a + 1) R1 Φ2 k3) ∧ ∀ (n6 : Int) (R7 : List Own) (I8 : List Nat → World → Prop) (k9 : Nat), Stable I8 → I0 n6 R7 I8 k9 → Br (decide (n6 < b)) (exI fun (I10 : Int → List
  Own → PW → Nat → Prop) => (∃ (R11 : List Own), ∃ (Φ12 : PW), ∃ (k13 : Nat), Stable Φ12 ∧ (∀ (w14 : World) (R15 : List Own), Ctx W w14 (R7 ++ R15) I8 → Ctx W w14 (R11 ++ R15) Φ12) ∧ I10 n6
  R11 Φ12 k13) ∧ ∀ (n16 : Int) (R17 : List Own) (I18 : List Nat → World → Prop) (k19 : Nat), Stable I18 → I10 n16 R17 I18 k19 → ∃ (R20 : List Own), ∃ (Φ21 : PW), Stable Φ21 ∧ (∀ (w22 : World)
  (R23 : List Own), Ctx W w22 (R17 ++ R23) I18 → Ctx W w22 (R20 ++ R23) Φ21) ∧ Br (decide (a < n16)) ((0 ≤ n16 ∧ n16 < (↑dataN : Int)) ∧ ptrK none dataP fun (k24 k25 : Nat) => I64 (n16 - 1) ∧
  ∃ (n26 : Int), (∀ (w27 : World) (R28 : List Own), Ctx W w27 (R20 ++ R28) Φ21 → ∃ (n29 : Int), w27.cell? (Addr.mk k24 (k25 + n16.toNat) none) = some (Value.int IntKind.i64 n29) ∧ Value.int
  IntKind.i64 n29 = Value.int IntKind.i64 n26) ∧ (0 ≤ n16 - 1 ∧ n16 - 1 < (↑dataN : Int)) ∧ ptrK none dataP fun (k30 k31 : Nat) => ∃ (n32 : Int), (∀ (w33 : World) (R34 : List Own), Ctx W w33
  (R20 ++ R34) Φ21 → ∃ (n35 : Int), w33.cell? (Addr.mk k30 (k31 + (n16 - 1).toNat) none) = some (Value.int IntKind.i64 n35) ∧ Value.int IntKind.i64 n35 = Value.int IntKind.i64 n32) ∧ ∀ (w36 :
  World) (R37 : List Own), Ctx W w36 (R17 ++ R37) I18 → okFun Tryd.prog cmpF = true ∧ Calls Tryd.prog cmpF (Array.mk (Value.int IntKind.i64 n26 :: Value.int IntKind.i64 n32 :: cmpC.toList))
  w36 fun (e38 : Ending) (w39 : World) => ∃ (n40 : Int), e38 = Ending.returned (Value.int IntKind.i64 n40) ∧ ∃ (R41 : List Own), ∃ (Φ42 : PW), Stable Φ42 ∧ Ctx W w39 (R41 ++ R37) Φ42 ∧ Br
  (decide (n40 < 0)) (∃ (R43 : List Own), ∃ (Φ44 : PW), Stable Φ44 ∧ (∀ (w45 : World) (R46 : List Own), Ctx W w45 (R41 ++ R46) Φ42 → Ctx W w45 (R43 ++ R46) Φ44) ∧ I64 (n16 - 1) ∧ I64 (n16 -
  1) ∧ (0 ≤ n16 ∧ n16 < (↑dataN : Int)) ∧ ptrK none dataP fun (k47 k48 : Nat) => (0 ≤ n16 - 1 ∧ n16 - 1 < (↑dataN : Int)) ∧ ptrK none dataP fun (k49 k50 : Nat) => ∀ (w51 : World) (R52 : List
  Own), Ctx W w51 (R41 ++ R52) Φ42 → ∃ (n53 : Int), w51.cell? (Addr.mk k47 (k48 + n16.toNat) none) = some (Value.int IntKind.i64 n53) ∧ ∀ (w54 : World) (R55 : List Own), Ctx W w54 (R41 ++
  R55) Φ42 → ∃ (n56 : Int), w54.cell? (Addr.mk k49 (k50 + (n16 - 1).toNat) none) = some (Value.int IntKind.i64 n56) ∧ (0 ≤ n16 ∧ n16 < (↑dataN : Int)) ∧ ptrK none dataP fun (k57 k58 : Nat) =>
  ∀ (w59 : World) (R60 : List Own), Ctx W w59 (R41 ++ R60) Φ42 → CanWrite w59 k57 (k58 + n16.toNat) 1 ∧ ∀ (w61 : World), w61 = w59.setCell (Addr.mk k57 (k58 + n16.toNat) none) (Value.int
  IntKind.i64 n56) → ∃ (R62 : List Own), ∃ (Φ63 : PW), Stable Φ63 ∧ Ctx W w61 (R62 ++ R60) Φ63 ∧ (∀ (w64 : World) (R65 : List Own), Ctx W w64 (R62 ++ R65) Φ63 → Ctx W w64 (R43 ++ R65) Φ44) ∧
  (0 ≤ n16 - 1 ∧ n16 - 1 < (↑dataN : Int)) ∧ ptrK none dataP fun (k66 k67 : Nat) => ∀ (w68 : World) (R69 : List Own), Ctx W w68 (R62 ++ R69) Φ63 → CanWrite w68 k66 (k67 + (n16 - 1).toNat) 1 ∧
  ∀ (w70 : World), w70 = w68.setCell (Addr.mk k66 (k67 + (n16 - 1).toNat) none) (Value.int IntKind.i64 n53) → ∃ (R71 : List Own), ∃ (Φ72 : PW), Stable Φ72 ∧ Ctx W w70 (R71 ++ R69) Φ72 ∧ (∀
  (w73 : World) (R74 : List Own), Ctx W w73 (R71 ++ R74) Φ72 → Ctx W w73 (R43 ++ R74) Φ44) ∧ I64 (n16 - 1) ∧ ∃ (R75 : List Own), ∃ (Φ76 : PW), ∃ (k77 : Nat), Stable Φ76 ∧ (∀ (w78 : World)
  (R79 : List Own), Ctx W w78 (R71 ++ R79) Φ72 → Ctx W w78 (R75 ++ R79) Φ76) ∧ I10 (n16 - 1) R75 Φ76 k77 ∧ k77 < k19) (I64 (n6 + 1) ∧ ∃ (R80 : List Own), ∃ (Φ81 : PW), ∃ (k82 : Nat), Stable
  Φ81 ∧ (∀ (w83 : World) (R84 : List Own), Ctx W w83 (R41 ++ R84) Φ42 → Ctx W w83 (R80 ++ R84) Φ81) ∧ I0 (n6 + 1) R80 Φ81 k82 ∧ k82 < k9)) (I64 (n6 + 1) ∧ ∃ (R85 : List Own), ∃ (Φ86 : PW), ∃
  (k87 : Nat), Stable Φ86 ∧ (∀ (w88 : World) (R89 : List Own), Ctx W w88 (R17 ++ R89) I18 → Ctx W w88 (R85 ++ R89) Φ86) ∧ I0 (n6 + 1) R85 Φ86 k87 ∧ k87 < k9)) (∀ (w90 : World) (R91 : List
  Own), Ctx W w90 (R7 ++ R91) I8 → J (Value.tuple #[]) w90)

theorem Bslices_insertionSortCmpFunc_int_run (dataP : Option Addr) (dataN dataC : Nat) (a : Int) (b : Int) (cmpF : FuncId) (cmpC : Array Value) {W w : World} {R : List Own} {Φ : PW} [Stable Φ] {J : Value → World → Prop} (c : Ctx W w R Φ) (h : Bslices_insertionSortCmpFunc_int dataP dataN dataC a b cmpF cmpC W R Φ J) : Calls Tryd.prog F.slices_insertionSortCmpFunc_int #[.slice dataP dataN dataC, .int .i64 a, .int .i64 b, .func (.func cmpF) #[] cmpC] w fun e w' => ∃ v, e = .returned v ∧ J v w' :=
  vcFS_sound (H := { keep := some [0, 1, 2, 3, 8, 9, 14, 34], wrap := [32], stages := [(4, [.held [(0, true), (1, true), (2, true), (3, true), (4, true), (5, true), (6, true), (9, true), (10, true), (7, true), (11, true), (8, true), (12, true), (13, true)], .stage [] (some 14), .stage [15, 16] none]), (6, [.late [0, 1, 5, 6, 7, 8, 13, 9, 14] [0, 1, 2, 3, 5, 6, 10, 11, 4, 7, 12, 8, 13, 9, 14] [(15, [16]), (17, [])]])], loops := [(4, [(9, .one (.int .i64))], []), (1, [(8, .one (.int .i64))], [])] }) (by rw [show vcFS Tryd.prog W { keep := some [0, 1, 2, 3, 8, 9, 14, 34], wrap := [32], stages := [(4, [.held [(0, true), (1, true), (2, true), (3, true), (4, true), (5, true), (6, true), (9, true), (10, true), (7, true), (11, true), (8, true), (12, true), (13, true)], .stage [] (some 14), .stage [15, 16] none]), (6, [.late [0, 1, 5, 6, 7, 8, 13, 9, 14] [0, 1, 2, 3, 5, 6, 10, 11, 4, 7, 12, 8, 13, 9, 14] [(15, [16]), (17, [])]])], loops := [(4, [(9, .one (.int .i64))], []), (1, [(8, .one (.int .i64))], [])] } F.slices_insertionSortCmpFunc_int #[.slice dataP dataN dataC, .int .i64 a, .int .i64 b, .func (.func cmpF) #[] cmpC] R Φ J = Bslices_insertionSortCmpFunc_int dataP dataN dataC a b cmpF cmpC W R Φ J by kernel_rfl]; exact h) c

end Go.Proofs.YtbkpfhhhbhaecaaDoor
end

/-
  CONTRACTS over what a walk owns: a function that hands back a plain value, or plain data.
-/
section
set_option linter.unusedVariables false
set_option linter.unusedSimpArgs false
namespace Go.Vc

section
variable {P : Program} {W w : World} {S F : List Own} {Φ Ψ : PW}

/-- the function only looks: it hands back v, and the world is as it was -/
structure Quiet (P : Program) (f : FuncId) (args : Array Value) (v : Value) : Prop where
  go : ∀ w, Calls P f args w fun e w' => e = .returned v ∧ w' = w

/-- the function hands back v; all that is owned or known stays -/
structure Gives (P : Program) (f : FuncId) (args : Array Value) (v : Value) : Prop where
  go : ∀ (W w : World) (S : List Own) (Φ : PW), Stable Φ → Ctx W w S Φ → Calls P f args w fun e w' => e = .returned v ∧ Ctx W w' S Φ

theorem Quiet.at {f : FuncId} {args : Array Value} {v : Value} (h : Quiet P f args v) {w w0 : World} (e : w = w0) : Calls P f args w fun e w' => e = .returned v ∧ w' = w0 := by subst e; exact h.go w
theorem Quiet.gives {f : FuncId} {args : Array Value} {v : Value} (h : Quiet P f args v) : Gives P f args v :=
  ⟨fun W w S Φ _ c => (h.go w).mono fun e w' ⟨h1, h2⟩ => by subst h2; exact ⟨h1, c⟩⟩

theorem Gives.use {f : FuncId} {args : Array Value} {v : Value} (h : Gives P f args v) [hs : Stable Φ] (c : Ctx W w S Φ) {K : Ending → World → Prop} (hk : ∀ w', Ctx W w' S Φ → K (.returned v) w') : Calls P f args w K :=
  (h.go W w S Φ hs c).mono fun e w' ⟨he, c'⟩ => by subst he; exact hk w' c'

theorem gives_of {f : FuncId} {args : Array Value} {v : Value} {B : World → List Own → PW → (Value → World → Prop) → Prop}
    (run : ∀ {W w : World} {R : List Own} {Φ : PW} [Stable Φ] {J : Value → World → Prop}, Ctx W w R Φ → B W R Φ J → Calls P f args w fun e w' => ∃ v, e = .returned v ∧ J v w')
    (h : ∀ (W : World) (R : List Own) (Φ : PW), Stable Φ → B W R Φ fun u w' => u = v ∧ Ctx W w' R Φ) : Gives P f args v :=
  ⟨fun W w S Φ hs c => calls_of (run c (h W S Φ hs)) fun u w' ⟨h1, h2⟩ => ⟨by rw [h1], h2⟩⟩

/-- .. where Φ is known -/
structure GivesIn (Φ : PW) (P : Program) (f : FuncId) (args : Array Value) (v : Value) : Prop where
  go : ∀ (W w : World) (S : List Own), Ctx W w S Φ → Calls P f args w fun e w' => e = .returned v ∧ Ctx W w' S Φ

theorem GivesIn.use {f : FuncId} {args : Array Value} {v : Value} (h : GivesIn Φ P f args v) (c : Ctx W w S Φ) {K : Ending → World → Prop} (hk : ∀ w', Ctx W w' S Φ → K (.returned v) w') : Calls P f args w K :=
  (h.go W w S c).mono fun e w' ⟨he, c'⟩ => by subst he; exact hk w' c'

theorem Gives.in [hs : Stable Φ] {f : FuncId} {args : Array Value} {v : Value} (h : Gives P f args v) : GivesIn Φ P f args v := ⟨fun W w S c => h.go W w S Φ hs c⟩

theorem gives_in [Stable Φ] {f : FuncId} {args : Array Value} {v : Value} {B : World → List Own → PW → (Value → World → Prop) → Prop}
    (run : ∀ {W w : World} {R : List Own} {Φ : PW} [Stable Φ] {J : Value → World → Prop}, Ctx W w R Φ → B W R Φ J → Calls P f args w fun e w' => ∃ v, e = .returned v ∧ J v w')
    (h : ∀ (W : World) (R : List Own), B W R Φ fun u w' => u = v ∧ Ctx W w' R Φ) : GivesIn Φ P f args v :=
  ⟨fun W w S c => calls_of (run c (h W S)) fun u w' ⟨h1, h2⟩ => ⟨by rw [h1], h2⟩⟩

/-- without the frame -/
theorem Ctx.left [Stable Φ] (c : Ctx W w (S ++ F) Φ) : Ctx W w S Φ := c.sub (List.sublist_append_left _ _)
theorem Ctx.right [Stable Φ] (c : Ctx W w (S ++ F) Φ) : Ctx W w F Φ := c.sub (List.sublist_append_right _ _)
theorem Ctx.fst [Stable Φ] [Stable Ψ] (c : Ctx W w S (fun M w => Φ M w ∧ Ψ M w)) : Ctx W w S Φ := c.weak fun _ _ h => h.1

/-- a row out of cells that are written out -/
theorem rows_of {cs vs : List Value} {o : Nat} (h : (cs.drop o).take vs.length = vs) : ∀ j, (hj : j < vs.length) → cs[o + j]? = some vs[j] := by
  intro j hj
  have h1 : ((cs.drop o).take vs.length)[j]? = vs[j]? := by rw [h]
  rw [List.getElem?_take_of_lt hj, List.getElem?_drop] at h1
  rw [h1, List.getElem?_eq_getElem hj]

end

/-! ### data that is read at several points: its cells are named -/
/-- the cells of the elements, at this place -/
def Pin {α : Type} [Gv α] (b o : Nat) (cs : List (List Value)) (l : List α) (M : List Nat) (w : World) : Prop :=
  ∀ j, (hj : j < l.length) → b ∉ M ∧ RowAt w b (o + j * (Gv.ty α).size) (cs.getD j []) ∧ Gv.rep M w (cs.getD j []) l[j]

instance instStablePin {α : Type} [Gv α] (b o : Nat) (cs : List (List Value)) (l : List α) : Stable (fun M w => Pin b o cs l M w) := ⟨fun hs h j hj => by
  obtain ⟨h2, h3, h4⟩ := h j hj
  have hlt := row_lt h3 (by rw [Gv.len h4]; exact Gv.pos)
  exact ⟨fun hm => by rcases hs.sub b hm with h | h; exact h2 h; omega, hs.chg.row h3 h2, Gv.stable hs h4⟩⟩

theorem Sl.pin {α : Type} [Gv α] {M : List Nat} {w : World} {p : Option Addr} {l : List α} (h : Sl M w p l) : ∃ b o cs, (0 < l.length → p = some ⟨b, o, none⟩) ∧ Pin b o cs l M w := by
  by_cases h0 : 0 < l.length
  · obtain ⟨b, o, _, hp, _⟩ := h 0 h0
    have key : ∀ j, j < l.length → ∃ cs : List Value, ∀ hj : j < l.length, b ∉ M ∧ RowAt w b (o + j * (Gv.ty α).size) cs ∧ Gv.rep M w cs l[j] := by
      intro j hj
      obtain ⟨b', o', cs, h1, h2, h3, h4⟩ := h j hj
      rw [hp] at h1
      cases h1
      exact ⟨cs, fun _ => ⟨h2, h3, h4⟩⟩
    obtain ⟨cs, hl, hcs⟩ := list_build l.length key
    refine ⟨b, o, cs, fun _ => hp, fun j hj => ?_⟩
    have := hcs j (by omega) hj
    rw [show cs.getD j [] = cs[j] by simp [List.getD, show j < cs.length by omega]]
    exact this
  · exact ⟨0, 0, [], fun h => absurd h h0, fun j hj => by omega⟩

theorem Ctx.pin {W w : World} {S : List Own} {Φ : PW} (c : Ctx W w S Φ) {α : Type} [Gv α] {p : Option Addr} {l : List α} (h : Sl (dom S) w p l) :
    ∃ b o cs, (0 < l.length → p = some ⟨b, o, none⟩) ∧ Ctx W w S (fun M w => Φ M w ∧ Pin b o cs l M w) := by
  obtain ⟨b, o, cs, hp, hpin⟩ := h.pin
  exact ⟨b, o, cs, hp, c.add hpin⟩

theorem GivesIn.pinned {Φ : PW} [Stable Φ] {P : Program} {f : FuncId} {args : Array Value} {v : Value} {α : Type} [Gv α] {p : Option Addr} {l : List α} (hΦ : ∀ M w, Φ M w → Sl M w p l)
    (h : ∀ b o cs, (0 < l.length → p = some ⟨b, o, none⟩) → GivesIn (fun M w => Φ M w ∧ Pin b o cs l M w) P f args v) : GivesIn Φ P f args v :=
  ⟨fun W w S c => by
    obtain ⟨b, o, cs, hp, c'⟩ := c.pin (hΦ _ _ c.phi)
    exact ((h b o cs hp).go W w S c').mono fun e w' ⟨h1, h2⟩ => ⟨h1, h2.fst⟩⟩

end Go.Vc
end

/-
  What is owned is laid aside while a call reads it; functions that hand back a slice of plain data.
-/
section
set_option linter.unusedVariables false
set_option linter.unusedSimpArgs false
namespace Go.Vc

section
variable {P : Program} {W w : World} {S F : List Own} {Φ Ψ : PW}

/-- what is owned, laid aside: nobody writes it -/
def Parked (W : World) (o : Own) (M : List Nat) (w : World) : Prop := o.at w ∧ ∀ b ∈ o.dom, b ∉ M ∧ W.heap.size ≤ b

instance instStableParked (W : World) (o : Own) : Stable (fun M w => Parked W o M w) := ⟨fun hs h =>
  ⟨Own.at_keep h.1 fun b hb => hs.chg.block b (Own.at_lt h.1 b hb) (h.2 b hb).1, fun b hb => ⟨fun hm => by
    rcases hs.sub b hm with h1 | h1
    · exact (h.2 b hb).1 h1
    · have := Own.at_lt h.1 b hb; omega, (h.2 b hb).2⟩⟩⟩

instance instStableMore (D : List Nat) (Φ : PW) [Stable Φ] : Stable (fun M w => Φ (D ++ M) w) := ⟨fun {M M' w w'} hs h =>
  Stable.step (Φ := Φ) (M := D ++ M) (M' := D ++ M') ⟨hs.chg.mono fun x hx => List.mem_append_right _ hx, fun b hb => by
    rcases List.mem_append.1 hb with h | h
    · exact .inl (List.mem_append_left _ h)
    · rcases hs.sub b h with h | h
      · exact .inl (List.mem_append_right _ h)
      · exact .inr h⟩ h⟩

theorem Own.nodup (o : Own) : o.dom.Nodup := by
  cases o with
  | blk => simp [Own.dom]
  | obj => simp [Own.dom]
  | buf p => cases p <;> simp [Own.dom]

theorem dom_cons (o : Own) (S : List Own) : dom (o :: S) = o.dom ++ dom S := rfl

theorem Ctx.park {o : Own} (c : Ctx W w (o :: S) Φ) : Ctx W w S (fun M w => Φ (o.dom ++ M) w ∧ Parked W o M w) :=
  ⟨c.chg, fun x hx => c.own x (List.mem_cons_of_mem _ hx), fun b hb => c.young b (by rw [dom_cons]; exact List.mem_append_right _ hb),
    (by have := c.nodup; rw [dom_cons, List.nodup_append] at this; exact this.2.1), c.phi, c.own o List.mem_cons_self, fun b hb =>
      ⟨fun hm => by have := c.nodup; rw [dom_cons, List.nodup_append] at this; exact this.2.2 b hb b hm rfl, c.young b (by rw [dom_cons]; exact List.mem_append_left _ hb)⟩⟩

/-- a slice with elements lies somewhere -/
def There (p : Option Addr) (n : Nat) : Prop := 0 < n → ∃ b o, p = some ⟨b, o, none⟩
theorem Sl.there {α : Type} [Gv α] {M : List Nat} {w : World} {p : Option Addr} {l : List α} (h : Sl M w p l) : There p l.length := fun h0 => by
  obtain ⟨b, o, _, h1, _⟩ := h 0 h0
  exact ⟨b, o, h1⟩
theorem Sl.nil {α : Type} [Gv α] {M : List Nat} {w : World} {p : Option Addr} : Sl M w p ([] : List α) := fun j hj => by simp at hj

theorem GivesIn.there {f : FuncId} {args : Array Value} {v : Value} {p : Option Addr} {n : Nat} (hΦ : ∀ M w, Φ M w → There p n) (h : There p n → GivesIn Φ P f args v) : GivesIn Φ P f args v :=
  ⟨fun W w S c => (h (hΦ _ _ c.phi)).go W w S c⟩

/-- the function hands back a slice of plain data, inside mk -/
structure GivesSl (Φ : PW) (P : Program) (f : FuncId) (args : Array Value) {α : Type} [Gv α] (l : List α) (mk : Value → Value) : Prop where
  go : ∀ (W w : World) (S : List Own), Ctx W w S Φ → Calls P f args w fun e w' => ∃ p cap, e = .returned (mk (.slice p l.length cap)) ∧ l.length ≤ cap ∧ cap ≤ maxLen ∧ Ctx W w' S (fun M w => Φ M w ∧ Sl M w p l)

theorem GivesSl.use {f : FuncId} {args : Array Value} {α : Type} [Gv α] {l : List α} {mk : Value → Value} (h : GivesSl Φ P f args l mk) (c : Ctx W w S Φ) {K : Ending → World → Prop}
    (hk : ∀ p cap w', l.length ≤ cap → cap ≤ maxLen → Ctx W w' S (fun M w => Φ M w ∧ Sl M w p l) → K (.returned (mk (.slice p l.length cap))) w') : Calls P f args w K :=
  (h.go W w S c).mono fun e w' ⟨p, cap, he, h1, h2, c'⟩ => by subst he; exact hk p cap w' h1 h2 c'

theorem gives_sl [Stable Φ] {f : FuncId} {args : Array Value} {α : Type} [Gv α] {l : List α} {mk : Value → Value} {B : World → List Own → PW → (Value → World → Prop) → Prop}
    (run : ∀ {W w : World} {R : List Own} {Φ : PW} [Stable Φ] {J : Value → World → Prop}, Ctx W w R Φ → B W R Φ J → Calls P f args w fun e w' => ∃ v, e = .returned v ∧ J v w')
    (h : ∀ (W : World) (R : List Own), B W R Φ fun u w' => ∃ p cap, u = mk (.slice p l.length cap) ∧ l.length ≤ cap ∧ cap ≤ maxLen ∧ Ctx W w' R (fun M w => Φ M w ∧ Sl M w p l)) : GivesSl Φ P f args l mk :=
  ⟨fun W w S c => calls_of (run c (h W S)) fun u w' ⟨p, cap, h1, h2⟩ => ⟨p, cap, by rw [h1], h2⟩⟩

theorem GivesSl.there {f : FuncId} {args : Array Value} {α : Type} [Gv α] {l : List α} {mk : Value → Value} {p : Option Addr} {n : Nat} (hΦ : ∀ M w, Φ M w → There p n) (h : There p n → GivesSl Φ P f args l mk) : GivesSl Φ P f args l mk :=
  ⟨fun W w S c => (h (hΦ _ _ c.phi)).go W w S c⟩

theorem GivesSl.pinned [Stable Φ] {f : FuncId} {args : Array Value} {β : Type} [Gv β] {r : List β} {mk : Value → Value} {α : Type} [Gv α] {p : Option Addr} {l : List α} (hΦ : ∀ M w, Φ M w → Sl M w p l)
    (h : ∀ b o cs, (0 < l.length → p = some ⟨b, o, none⟩) → GivesSl (fun M w => Φ M w ∧ Pin b o cs l M w) P f args r mk) : GivesSl Φ P f args r mk :=
  ⟨fun W w S c => by
    obtain ⟨b, o, cs, hp, c'⟩ := c.pin (hΦ _ _ c.phi)
    exact ((h b o cs hp).go W w S c').mono fun e w' ⟨p, cap, h1, h2, h3, h4⟩ => ⟨p, cap, h1, h2, h3, h4.weak fun _ _ h => ⟨h.1.1, h.2⟩⟩⟩

/-! ### append -/
def appB (P : Program) (ts t : TypeId) (size bytes : Nat) : Bool :=
  (match P.underlying ts with | some (.slice u) => decide (u = t) | _ => false) && (match P.info? t with
    | some i => (match i.zero with | some z => decide (z.cells.size = size) | none => false) && decide (i.size = size) && decide (i.bytes = bytes)
    | none => false)

theorem appB_out {ts t : TypeId} {size bytes : Nat} (h : appB P ts t size bytes = true) : ∃ i z, P.underlying ts = some (.slice t) ∧ P.info? t = some i ∧ i.zero = some z ∧ i.size = size ∧ z.cells.size = size ∧ i.bytes = bytes := by
  unfold appB at h
  rw [Bool.and_eq_true] at h
  obtain ⟨h1, h2⟩ := h
  split at h1
  · rename_i u hu
    have : u = t := by simpa using h1
    subst this
    split at h2
    · rename_i i hi
      simp only [Bool.and_eq_true] at h2
      obtain ⟨⟨h2, h3⟩, h4⟩ := h2
      split at h2
      · rename_i z hz
        exact ⟨i, z, hu, hi, hz, by simpa using h3, by simpa using h2, by simpa using h4⟩
      · cases h2
    · cases h2
  · cases h1

theorem run_app {ats : Array TypeId} {ty : TypeId} {cs : Array Bool} {args : Array Value} {v : Value} {w w' : World} (h : (Builtin.append_ ats ty args).run P w = .ok v w') : Sem.run P (builtin Builtin.append ats ty cs args) w = .ok (.value v) w' := by
  unfold builtin
  simp only [Sem.run_bind, h, Result.andThen, Sem.run_pure]

/-- append one element that was just made -/
theorem Ctx.app1 [Stable Φ] {b : Nat} {news : List Value} {t' : TypeId} {p : Option Addr} {n cap : Nat} {cs : List Value} {t : TypeId} {size bytes : Nat} (c : Ctx W w (.blk b news t' :: .buf p n cap cs t size :: S) Φ)
    {ts ty : TypeId} {kb : Array Bool} (hb : appB P ts t size bytes = true) (h0 : 0 < size) (hl : news.length = size) (h1 : (news.all fun u => oneC u) = true) (hlen : n < 100000000) (hbytes : bytes ≤ 1000) :
    ∃ p' cap' w', Sem.run P (builtin Builtin.append #[ts, ts] ty kb #[.slice p n cap, .slice (some ⟨b, 0, none⟩) 1 1]) w = .ok (.value (.slice p' (n + 1) cap')) w' ∧ (∃ g, p' = some ⟨g, 0, none⟩) ∧ Ctx W w' (.buf p' (n + 1) cap' (cs ++ news) t size :: S) Φ := by
  obtain ⟨i, z, e1, e2, e3, e4, e5, e6⟩ := appB_out hb
  have hby : (n + 1) * i.bytes ≤ 100000000 * 1000 := Nat.mul_le_mul (by omega) (by omega)
  obtain ⟨p', cap', w', h2, c'⟩ := c.append 1 rfl (ty := ty) e1 e2 e3 e4 e5 (a := ⟨b, 0, none⟩) (m := 1) (c2 := 1) (news := news) (by omega) (by rw [hl, Nat.one_mul]) (fun j u hj => by rw [addr_add, Nat.zero_add]; exact c.get 0 rfl hj)
    (fun u hu => List.all_eq_true.1 h1 u hu) (by omega) (by omega)
  refine ⟨p', cap', w', run_app h2, ?_, c'.drop1⟩
  obtain ⟨g, hg, _⟩ := c'.bufCell 1 rfl (by rw [List.length_append]; omega)
  exact ⟨g, hg⟩

/-- nothing is owned for an empty slice -/
theorem Ctx.nobuf [Stable Φ] (c : Ctx W w S Φ) (t : TypeId) (size : Nat) : Ctx W w (.buf none 0 0 [] t size :: S) Φ := c.buf0 t size

theorem Sl.less {α : Type} [Gv α] {M D : List Nat} {w : World} {p : Option Addr} {l : List α} (h : Sl (D ++ M) w p l) : Sl M w p l :=
  h.stable ⟨Chg.refl _ _, fun b hb => .inl (List.mem_append_right _ hb)⟩

/-- the function hands back a slice that it made, inside mk: the caller owns it -/
structure GivesBuf (Φ : PW) (P : Program) (f : FuncId) (args : Array Value) (n : Nat) (cells : List Value) (t : TypeId) (size : Nat) (mk : Value → Value) : Prop where
  go : ∀ (W w : World) (S : List Own), Ctx W w S Φ → Calls P f args w fun e w' => ∃ p cap, e = .returned (mk (.slice p n cap)) ∧ Ctx W w' (.buf p n cap cells t size :: S) Φ

theorem GivesBuf.use {f : FuncId} {args : Array Value} {n : Nat} {cells : List Value} {t : TypeId} {size : Nat} {mk : Value → Value} (h : GivesBuf Φ P f args n cells t size mk) (c : Ctx W w S Φ) {K : Ending → World → Prop}
    (hk : ∀ p cap w', Ctx W w' (.buf p n cap cells t size :: S) Φ → K (.returned (mk (.slice p n cap))) w') : Calls P f args w K :=
  (h.go W w S c).mono fun e w' ⟨p, cap, he, c'⟩ => by subst he; exact hk p cap w' c'

theorem GivesBuf.pinned [Stable Φ] {f : FuncId} {args : Array Value} {n : Nat} {cells : List Value} {t : TypeId} {size : Nat} {mk : Value → Value} {α : Type} [Gv α] {p : Option Addr} {l : List α} (hΦ : ∀ M w, Φ M w → Sl M w p l)
    (h : ∀ b o cs, (0 < l.length → p = some ⟨b, o, none⟩) → GivesBuf (fun M w => Φ M w ∧ Pin b o cs l M w) P f args n cells t size mk) : GivesBuf Φ P f args n cells t size mk :=
  ⟨fun W w S c => by
    obtain ⟨b, o, cs, hp, c'⟩ := c.pin (hΦ _ _ c.phi)
    exact ((h b o cs hp).go W w S c').mono fun e w' ⟨p, cap, h1, h4⟩ => ⟨p, cap, h1, h4.fst⟩⟩

/-- a block that is laid aside is plain data -/
theorem Parked.blkSl {α : Type} [Gv α] {M : List Nat} {b : Nat} {cs : List Value} {t : TypeId} {l : List α} (h : Parked W (.blk b cs t) M w) (he : Elems M w cs l) : Sl M w (some ⟨b, 0, none⟩) l := by
  obtain ⟨h1, h2⟩ := h
  have h1 : Blk w b cs t := h1
  intro j hj
  have hle : (j + 1) * (Gv.ty α).size ≤ cs.length := by rw [he.1]; exact Nat.mul_le_mul_right _ hj
  rw [Nat.add_mul, Nat.one_mul] at hle
  refine ⟨b, 0, (cs.drop (j * (Gv.ty α).size)).take (Gv.ty α).size, rfl, (h2 b (by simp [Own.dom])).1, fun i hi => ?_, he.2 j hj⟩
  simp only [List.length_take, List.length_drop] at hi
  rw [Nat.zero_add, List.getElem_take, List.getElem_drop]
  exact h1.cell_eq (List.getElem?_eq_getElem (by omega))

/-- a block that is written no more is plain data -/
theorem Ctx.freezeBlk [Stable Φ] {α : Type} [Gv α] {b : Nat} {cs : List Value} {t : TypeId} {l : List α} (c : Ctx W w (.blk b cs t :: S) Φ) (he : Elems (dom (.blk b cs t :: S)) w cs l) : Ctx W w S Φ ∧ Sl (dom S) w (some ⟨b, 0, none⟩) l := by
  have c' := c.park
  refine ⟨c.drop1, c'.phi.2.blkSl ⟨he.1, fun j hj => ?_⟩⟩
  exact Gv.stable ⟨Chg.refl _ _, fun b hb => .inl (by rw [dom_cons]; exact List.mem_append_right _ hb)⟩ (he.2 j hj)

theorem Elems.two {α : Type} [Gv α] {M : List Nat} {cs ds : List Value} {x y : α} (h1 : Gv.rep M w cs x) (h2 : Gv.rep M w ds y) : Elems M w (cs ++ ds) [x, y] := Elems.snoc (l := [x]) (Elems.snoc (l := []) (cs := []) Elems.nil h1) h2
theorem Elems.one {α : Type} [Gv α] {M : List Nat} {cs : List Value} {x : α} (h1 : Gv.rep M w cs x) : Elems M w cs [x] := Elems.snoc (l := []) (cs := []) Elems.nil h1

end

end Go.Vc
end

/-
  Writing into a slice that grows; rows of plain data out of a slice; permuting what is owned.
-/
section
set_option linter.unusedVariables false
set_option linter.unusedSimpArgs false
namespace Go.Vc

section
variable {P : Program} {W w w' : World} {S S' F : List Own} {Φ Ψ : PW}

theorem Ctx.swap [Stable Φ] {a b : Own} (c : Ctx W w (a :: b :: S) Φ) : Ctx W w (b :: a :: S) Φ := c.perm (List.Perm.swap _ _ _)

/-- a slice that grows lies in a block -/
theorem Ctx.bufBlk (c : Ctx W w S Φ) (k : Nat) {p : Option Addr} {n cap : Nat} {cs : List Value} {t : TypeId} {size : Nat} (hk : S[k]? = some (.buf p n cap cs t size)) (h0 : 0 < cs.length) :
    ∃ b cur, p = some ⟨b, 0, none⟩ ∧ Blk w b cur t ∧ cur.take (n * size) = cs ∧ n ≤ cap ∧ cap ≤ maxLen ∧ cur.length = cap * size ∧ cs.length = n * size := by
  obtain ⟨h1, h2⟩ := c.own _ (List.mem_of_getElem? hk)
  rcases h2 with ⟨e, rfl⟩ | ⟨g, cap', cur, e, _, hg, hnc, hcm, hcs, htake⟩
  · rw [Nat.zero_mul] at h1; omega
  · cases e
    exact ⟨g, cur.toList, rfl, by simpa [Blk] using hg, htake, hnc, hcm, by simpa using hcs, h1⟩

theorem Ctx.bufRow (c : Ctx W w S Φ) (k : Nat) {p : Option Addr} {n cap : Nat} {cs : List Value} {t : TypeId} {size : Nat} (hk : S[k]? = some (.buf p n cap cs t size)) {b o : Nat} (hp : p = some ⟨b, 0, none⟩) {vs : List Value}
    (hv : ∀ j, (hj : j < vs.length) → cs[o + j]? = some vs[j]) : RowAt w b o vs := by
  intro j hj
  have hlt : o + j < cs.length := (List.getElem?_eq_some_iff.1 (hv j hj)).1
  obtain ⟨b', h1, _, h2⟩ := c.bufCell k hk (by omega)
  rw [hp] at h1
  cases h1
  exact (h2 _ _ (hv j hj)).1

theorem Ctx.bufCan (c : Ctx W w S Φ) (k : Nat) {p : Option Addr} {n cap : Nat} {cs : List Value} {t : TypeId} {size : Nat} (hk : S[k]? = some (.buf p n cap cs t size)) {b o m : Nat} (hp : p = some ⟨b, 0, none⟩) (hm : o + m ≤ cs.length) : CanWrite w b o m := by
  intro j hj
  obtain ⟨b', h1, _, h2⟩ := c.bufCell k hk (by omega)
  rw [hp] at h1
  cases h1
  have := h2 (o + j) cs[o + j] (List.getElem?_eq_getElem (by omega))
  exact ⟨by rw [this.1]; rfl, this.2⟩

theorem setL_len : ∀ (vs : List Value) (cs : List Value) (o : Nat), (setL cs o vs).length = cs.length
  | [], _, _ => rfl
  | v :: r, cs, o => by unfold setL; rw [setL_len r]; simp

theorem setL_take : ∀ (vs : List Value) (cs : List Value) (o m : Nat), o + vs.length ≤ m → (setL cs o vs).take m = setL (cs.take m) o vs
  | [], _, _, _, _ => rfl
  | v :: r, cs, o, m, h => by
    unfold setL
    simp only [List.length_cons] at h
    rw [setL_take r _ _ _ (by omega), List.take_set]

theorem setL_get : ∀ (vs : List Value) (cs : List Value) (o i : Nat), (i < o ∨ o + vs.length ≤ i) → (setL cs o vs)[i]? = cs[i]?
  | [], _, _, _, _ => rfl
  | v :: r, cs, o, i, h => by
    unfold setL
    simp only [List.length_cons] at h
    rw [setL_get r _ _ _ (by omega), List.getElem?_set_ne (by omega)]

theorem setL_in : ∀ (vs : List Value) (cs : List Value) (o i : Nat), i < vs.length → o + vs.length ≤ cs.length → (setL cs o vs)[o + i]? = vs[i]?
  | [], _, _, _, h, _ => by simp at h
  | v :: r, cs, o, 0, h, hl => by
    unfold setL
    simp only [List.length_cons] at hl
    rw [setL_get r _ _ _ (by omega), Nat.add_zero, List.getElem?_set_self (by omega)]
    rfl
  | v :: r, cs, o, i + 1, h, hl => by
    unfold setL
    simp only [List.length_cons] at hl h
    rw [show o + (i + 1) = o + 1 + i by omega, setL_in r _ _ _ (by omega) (by simp; omega)]
    rfl

/-- write into it -/
theorem Ctx.bufPuts [Stable Φ] (c : Ctx W w S Φ) (k : Nat) {p : Option Addr} {n cap : Nat} {cs vs : List Value} {t : TypeId} {size : Nat} (hk : S[k]? = some (.buf p n cap cs t size)) {b o : Nat} (hp : p = some ⟨b, 0, none⟩) (h0 : 0 < cs.length) (ho : o + vs.length ≤ cs.length)
    (e : w' = w.setCells b o vs) : Ctx W w' (S.set k (.buf p n cap (setL cs o vs) t size)) Φ := by
  obtain ⟨b', cur, h1, hb, htake, hnc, hcm, hcl, hl⟩ := c.bufBlk k hk h0
  rw [hp] at h1
  cases h1
  subst e
  refine c.upd hk ((Chg.refl _ _).setCells (by subst hp; simp [Own.dom]) o vs) (fun x hx => .inl (by subst hp; exact hx)) (by subst hp; simp [Own.dom]) ?_
  have hb' := Blk.sets vs o hb
  refine ⟨by rw [setL_len, hl], .inr ⟨b, cap, (setL cur o vs).toArray, by rw [hp], Nat.zero_le _, hb', hnc, hcm, by simp [setL_len, hcl], ?_⟩⟩
  rw [← htake, setL_take _ _ _ _ (by omega)]

/-- the cells of the elements of a slice, in a row -/
theorem Sl.cells {α : Type} [Gv α] {M : List Nat} {p : Option Addr} {l : List α} (h : Sl M w p l) (h1 : ∀ M w cs (x : α), Gv.rep M w cs x → (cs.all fun u => oneC u) = true) (h0 : 0 < l.length) :
    ∃ b o news, p = some ⟨b, o, none⟩ ∧ news.length = l.length * (Gv.ty α).size ∧ (∀ j u, news[j]? = some u → w.cell? ⟨b, o + j, none⟩ = some u) ∧ Elems M w news l ∧ (news.all fun u => oneC u) = true := by
  obtain ⟨b, o, _, hp, _⟩ := h 0 h0
  have key : ∀ k, k ≤ l.length → ∃ news : List Value, news.length = k * (Gv.ty α).size ∧ (∀ j u, news[j]? = some u → w.cell? ⟨b, o + j, none⟩ = some u) ∧ Elems M w news (l.take k) ∧ (news.all fun u => oneC u) = true := by
    intro k
    induction k with
    | zero => intro _; exact ⟨[], by simp, fun j u hj => by simp at hj, by rw [List.take_zero]; exact Elems.nil, rfl⟩
    | succ k ih =>
      intro hk
      obtain ⟨news, g1, g2, g3, g4⟩ := ih (by omega)
      obtain ⟨b', o', cs, e1, _, e3, e4⟩ := h k (by omega)
      rw [hp] at e1
      cases e1
      have hlen := Gv.len e4
      refine ⟨news ++ cs, by rw [List.length_append, g1, hlen, Nat.add_mul, Nat.one_mul], fun j u hj => ?_, ?_, by rw [List.all_append, g4, h1 _ _ _ _ e4]; rfl⟩
      · by_cases hlt : j < news.length
        · rw [List.getElem?_append_left hlt] at hj
          exact g2 j u hj
        · rw [List.getElem?_append_right (by omega)] at hj
          have hl2 : j - news.length < cs.length := (List.getElem?_eq_some_iff.1 hj).1
          have := e3 (j - news.length) hl2
          rw [show o + k * (Gv.ty α).size + (j - news.length) = o + j by omega] at this
          rw [this, ← hj, List.getElem?_eq_getElem hl2]
      · rw [List.take_succ_eq_append_getElem (by omega)]
        exact g3.snoc e4
  obtain ⟨news, g1, g2, g3, g4⟩ := key l.length (Nat.le_refl _)
  rw [List.take_length] at g3
  exact ⟨b, o, news, hp, g1, g2, g3, g4⟩

/-- append a slice of plain data -/
theorem Ctx.appSl [Stable Φ] {α : Type} [Gv α] {q : Option Addr} {l : List α} {c2 : Nat} {p : Option Addr} {n cap : Nat} {cs : List Value} {t : TypeId} {bytes : Nat} (c : Ctx W w (.buf p n cap cs t (Gv.ty α).size :: S) Φ)
    {ts ty : TypeId} {kb : Array Bool} (hb : appB P ts t (Gv.ty α).size bytes = true) (h1 : ∀ M w cs (x : α), Gv.rep M w cs x → (cs.all fun u => oneC u) = true) (hsl : ∀ M w, Φ M w → Sl M w q l) (h0 : 0 < l.length) (hlen : n + l.length < 100000000) (hbytes : bytes ≤ 1000) :
    ∃ p' cap' w' news, Sem.run P (builtin Builtin.append #[ts, ts] ty kb #[.slice p n cap, .slice q l.length c2]) w = .ok (.value (.slice p' (n + l.length) cap')) w' ∧ (∃ g, p' = some ⟨g, 0, none⟩) ∧
      Ctx W w' (.buf p' (n + l.length) cap' (cs ++ news) t (Gv.ty α).size :: S) (fun M w => Φ M w ∧ Elems M w news l) := by
  obtain ⟨i, z, e1, e2, e3, e4, e5, e6⟩ := appB_out hb
  have hby : (n + l.length) * i.bytes ≤ 100000000 * 1000 := Nat.mul_le_mul (by omega) (by omega)
  obtain ⟨b, o, news, hp, g1, g2, g3, g4⟩ := (hsl _ _ c.phi).cells h1 h0
  obtain ⟨p', cap', w', h2, c'⟩ := (c.add (Ψ := fun M w => Elems M w news l) g3).append 0 rfl (ty := ty) e1 e2 e3 e4 e5 (a := ⟨b, o, none⟩) (m := l.length) (c2 := c2) (news := news) h0 g1 (fun j u hj => by rw [addr_add]; exact g2 j u hj)
    (fun u hu => List.all_eq_true.1 g4 u hu) (by omega) (by omega)
  have hpos : 0 < (Gv.ty α).size := Gv.pos
  have hl2 : 0 < l.length * (Gv.ty α).size := Nat.mul_pos h0 hpos
  refine ⟨p', cap', w', news, by rw [hp]; exact run_app h2, ?_, c'⟩
  obtain ⟨g, hg, _⟩ := c'.bufCell 0 rfl (by rw [List.length_append]; omega)
  exact ⟨g, hg⟩

end

end Go.Vc
end

/-
  Copies: what a function made and hands over; facts about single cells of a block that is laid aside.
-/
section
set_option linter.unusedVariables false
set_option linter.unusedSimpArgs false
namespace Go.Vc

section
variable {P : Program} {W w w' : World} {S S' F : List Own} {Φ Ψ : PW}

theorem Stable.less {Φ : PW} [Stable Φ] {D M : List Nat} {w : World} (h : Φ (D ++ M) w) : Φ M w :=
  Stable.step (Φ := Φ) ⟨Chg.refl _ _, fun b hb => .inl (List.mem_append_right _ hb)⟩ h


/-- the function hands back a slice that it made: the caller owns it; what its elements are, is known -/
structure GivesNew (Φ : PW) (P : Program) (f : FuncId) (args : Array Value) {α : Type} [Gv α] (l : List α) (t : TypeId) : Prop where
  go : ∀ (W w : World) (S : List Own), Ctx W w S Φ → Calls P f args w fun e w' => ∃ p cap cs, e = .returned (.slice p l.length cap) ∧ Ctx W w' (.buf p l.length cap cs t (Gv.ty α).size :: S) (fun M w => Φ M w ∧ Elems M w cs l)

theorem GivesNew.use {f : FuncId} {args : Array Value} {α : Type} [Gv α] {l : List α} {t : TypeId} (h : GivesNew Φ P f args l t) (c : Ctx W w S Φ) {K : Ending → World → Prop}
    (hk : ∀ p cap cs w', Ctx W w' (.buf p l.length cap cs t (Gv.ty α).size :: S) (fun M w => Φ M w ∧ Elems M w cs l) → K (.returned (.slice p l.length cap)) w') : Calls P f args w K :=
  (h.go W w S c).mono fun e w' ⟨p, cap, cs, he, c'⟩ => by subst he; exact hk p cap cs w' c'

theorem gives_new [Stable Φ] {f : FuncId} {args : Array Value} {α : Type} [Gv α] {l : List α} {t : TypeId} {B : World → List Own → PW → (Value → World → Prop) → Prop}
    (run : ∀ {W w : World} {R : List Own} {Φ : PW} [Stable Φ] {J : Value → World → Prop}, Ctx W w R Φ → B W R Φ J → Calls P f args w fun e w' => ∃ v, e = .returned v ∧ J v w')
    (h : ∀ (W : World) (R : List Own), B W R Φ fun u w' => ∃ p cap cs, u = .slice p l.length cap ∧ Ctx W w' (.buf p l.length cap cs t (Gv.ty α).size :: R) (fun M w => Φ M w ∧ Elems M w cs l)) : GivesNew Φ P f args l t :=
  ⟨fun W w S c => calls_of (run c (h W S)) fun u w' ⟨p, cap, cs, h1, h2⟩ => ⟨p, cap, cs, by rw [h1], h2⟩⟩

theorem GivesNew.there {f : FuncId} {args : Array Value} {α : Type} [Gv α] {l : List α} {t : TypeId} {p : Option Addr} {n : Nat} (hΦ : ∀ M w, Φ M w → There p n) (h : There p n → GivesNew Φ P f args l t) : GivesNew Φ P f args l t :=
  ⟨fun W w S c => (h (hΦ _ _ c.phi)).go W w S c⟩

/-- a slice of plain data is appended to nothing: slices.Clone -/
theorem Ctx.cloned [Stable Φ] {α : Type} [Gv α] {q : Option Addr} {l : List α} {c2 : Nat} {k : Nat} {t : TypeId} {bytes : Nat} (c : Ctx W w (.blk k [] t :: S) Φ)
    {ts ty : TypeId} {kb : Array Bool} (hb : appB P ts t (Gv.ty α).size bytes = true) (h1 : ∀ M w cs (x : α), Gv.rep M w cs x → (cs.all fun u => oneC u) = true) (hsl : ∀ M w, Φ M w → Sl M w q l) (hlen : l.length < 100000000) (hbytes : bytes ≤ 1000) :
    ∃ p' cap' w' cs, Sem.run P (builtin Builtin.append #[ts, ts] ty kb #[.slice (some ⟨k, 0, none⟩) 0 0, .slice q l.length c2]) w = .ok (.value (.slice p' l.length cap')) w' ∧
      Ctx W w' (.buf p' l.length cap' cs t (Gv.ty α).size :: S) (fun M w => Φ M w ∧ Elems M w cs l) := by
  have c' : Ctx W w (.buf (some ⟨k, 0, none⟩) 0 0 [] t (Gv.ty α).size :: S) Φ := c.toBuf 0 0 (Gv.ty α).size rfl (by simp) (by simp [maxLen])
  rcases Nat.eq_zero_or_pos l.length with h0 | h0
  · obtain ⟨i, z, e1, e2, e3, e4, e5, e6⟩ := appB_out hb
    have hl : l = [] := List.eq_nil_of_length_eq_zero h0
    subst hl
    exact ⟨_, _, w, [], run_app (c'.append0 0 rfl e1 e2 q c2), c'.add Elems.nil⟩
  · obtain ⟨p', cap', w', news, h2, _, c3⟩ := c'.appSl (ty := ty) (kb := kb) (c2 := c2) hb h1 hsl h0 (by omega) hbytes
    rw [Nat.zero_add] at h2 c3
    exact ⟨p', cap', w', news, h2, c3⟩

/-- one of the slices that are owned, when all of them are let go -/
theorem Ctx.letGo [Stable Φ] {α : Type} [Gv α] {rows : List Own} {p : Option Addr} {n cap : Nat} {cs : List Value} {t : TypeId} {l : List α} (c : Ctx W w (rows ++ S) Φ) (hm : Own.buf p n cap cs t (Gv.ty α).size ∈ rows) (he : Elems (dom (rows ++ S)) w cs l) : Sl (dom S) w p l := by
  obtain ⟨s, u, rfl⟩ := List.append_of_mem hm
  have c' : Ctx W w (.buf p n cap cs t (Gv.ty α).size :: ((s ++ u) ++ S)) Φ := c.perm (by
    rw [← List.cons_append]
    exact List.Perm.append_right _ List.perm_middle)
  obtain ⟨_, h2, _⟩ := c'.freeze ⟨he.1, fun j hj => Gv.stable ⟨Chg.refl _ _, fun b hb => .inl (by
    have hd : (dom (s ++ Own.buf p n cap cs t (Gv.ty α).size :: u ++ S)).Perm (dom (.buf p n cap cs t (Gv.ty α).size :: ((s ++ u) ++ S))) := List.Perm.flatMap_right _ (by
      rw [← List.cons_append]
      exact List.Perm.append_right _ List.perm_middle)
    exact hd.mem_iff.2 hb)⟩ (he.2 j hj)⟩
  rw [dom_app] at h2
  exact h2.less

/-- these cells lie in a block that is not written -/
def RowIn (b o : Nat) (vs : List Value) (M : List Nat) (w : World) : Prop := b ∉ M ∧ RowAt w b o vs ∧ b < w.heap.size

instance instStableRowIn (b o : Nat) (vs : List Value) : Stable (fun M w => RowIn b o vs M w) := ⟨fun hs h =>
  ⟨fun hm => by rcases hs.sub b hm with h1 | h1; exact h.1 h1; have := h.2.2; omega, hs.chg.row h.2.1 h.1, Nat.lt_of_lt_of_le h.2.2 hs.chg.size⟩⟩

/-- several things that are owned, laid aside -/
def ParkedL (W : World) (Q : List Own) (M : List Nat) (w : World) : Prop := (∀ o ∈ Q, o.at w) ∧ (dom Q).Nodup ∧ ∀ b ∈ dom Q, b ∉ M ∧ W.heap.size ≤ b

instance instStableParkedL (W : World) (Q : List Own) : Stable (fun M w => ParkedL W Q M w) := ⟨fun hs h => by
  have hlt : ∀ b ∈ dom Q, b < _ := fun b hb => by
    obtain ⟨o, ho, hb⟩ := List.mem_flatMap.1 hb
    exact Own.at_lt (h.1 o ho) b hb
  exact ⟨fun o ho => Own.at_keep (h.1 o ho) fun b hb => hs.chg.block b (hlt b (mem_dom ho hb)) (h.2.2 b (mem_dom ho hb)).1, h.2.1, fun b hb => ⟨fun hm => by
    rcases hs.sub b hm with h1 | h1
    · exact (h.2.2 b hb).1 h1
    · have := hlt b hb; omega, (h.2.2 b hb).2⟩⟩⟩

/-- what holds while Q is laid aside -/
def Aside (W : World) (Q : List Own) (Φ : PW) : PW := fun M w => Φ (dom Q ++ M) w ∧ ParkedL W Q M w
instance instStableAside (W : World) (Q : List Own) (Φ : PW) [Stable Φ] : Stable (Aside W Q Φ) :=
  have h1 : Stable (fun M w => Φ (dom Q ++ M) w) := instStableMore (dom Q) Φ
  instStableAnd (fun M w => Φ (dom Q ++ M) w) (fun M w => ParkedL W Q M w)

theorem Ctx.aside {Q : List Own} (c : Ctx W w (Q ++ S) Φ) : Ctx W w S (Aside W Q Φ) := by
  have hd := dom_app Q S
  have hn := c.nodup
  rw [hd, List.nodup_append] at hn
  refine ⟨c.chg, fun x hx => c.own x (List.mem_append_right _ hx), fun b hb => c.young b (by rw [hd]; exact List.mem_append_right _ hb), hn.2.1, ?_, fun o ho => c.own o (List.mem_append_left _ ho), hn.1, fun b hb => ⟨fun hm => hn.2.2 b hb b hm rfl, c.young b (by rw [hd]; exact List.mem_append_left _ hb)⟩⟩
  have := c.phi
  rw [hd] at this
  exact this

theorem Aside.less [Stable Φ] {Q : List Own} {M : List Nat} (h : Aside W Q Φ M w) : Φ M w := Stable.less h.1

theorem Aside.imp {Q : List Own} {Ψ : PW} {M : List Nat} (h : Aside W Q Φ M w) (hi : ∀ M w, Φ M w → Ψ M w) : Aside W Q Ψ M w := ⟨hi _ _ h.1, h.2⟩

theorem Ctx.re (c : Ctx W w S Φ) (e : S = S') : Ctx W w S' Φ := e ▸ c
theorem Ctx.bufGet (c : Ctx W w S Φ) (k : Nat) {p : Option Addr} {n cap : Nat} {cs : List Value} {t : TypeId} {size : Nat} (hk : S[k]? = some (.buf p n cap cs t size)) {b i : Nat} {v : Value} (hp : p = some ⟨b, 0, none⟩) (hv : cs[i]? = some v) : w.cell? ⟨b, i, none⟩ = some v := by
  obtain ⟨b', h1, _, h2⟩ := c.bufCell k hk (by have := (List.getElem?_eq_some_iff.1 hv).1; omega)
  rw [hp] at h1
  cases h1
  exact (h2 _ _ hv).1

end

end Go.Vc
end

/-
  Lists in order: what the steps of a stable sort do (in plain Lean).
-/
section
set_option linter.unusedVariables false
set_option linter.unusedSimpArgs false
namespace Go.Vc

section
variable {ε : Type} {le : ε → ε → Prop}

/-- a total preorder -/
structure Ord (le : ε → ε → Prop) : Prop where
  total : ∀ x y, le x y ∨ le y x
  trans : ∀ x y z, le x y → le y z → le x z

theorem Ord.refl (h : Ord le) (x : ε) : le x x := (h.total x x).elim id id

abbrev Asc (le : ε → ε → Prop) (l : List ε) : Prop := l.Pairwise le

theorem asc_app {a b : List ε} (ha : Asc le a) (hb : Asc le b) (h : ∀ x ∈ a, ∀ y ∈ b, le x y) : Asc le (a ++ b) := List.pairwise_append.2 ⟨ha, hb, h⟩

theorem asc_get {l : List ε} (h : Asc le l) {i j : Nat} (hij : i < j) (hj : j < l.length) : le (l[i]'(by omega)) l[j] := List.pairwise_iff_getElem.1 h i j (by omega) hj hij

theorem asc_le (ho : Ord le) {l : List ε} (h : Asc le l) {i j : Nat} (hij : i ≤ j) (hj : j < l.length) : le (l[i]'(by omega)) l[j] := by
  rcases Nat.eq_or_lt_of_le hij with e | hlt
  · subst e; exact ho.refl _
  · exact asc_get h hlt hj

/-- one element is put where it belongs -/
theorem asc_put {a b : List ε} {x : ε} (h : Asc le (a ++ b)) (h1 : ∀ y ∈ a, le y x) (h2 : ∀ y ∈ b, le x y) : Asc le (a ++ x :: b) := by
  obtain ⟨ha, hb, hab⟩ := List.pairwise_append.1 h
  refine asc_app ha (List.pairwise_cons.2 ⟨h2, hb⟩) fun y hy z hz => ?_
  rcases List.mem_cons.1 hz with rfl | hz
  · exact h1 y hy
  · exact hab y hy z hz

/-- what a symmetric merge knows when it has found where to turn -/
theorem sym_split (ho : Ord le) {x y : List ε} (hx : Asc le x) (hy : Asc le y) (s t : Nat) (hs : s ≤ x.length) (ht : t ≤ y.length)
    (h1 : ∀ (h0 : 0 < s) (ht' : t < y.length), le (x[s - 1]'(by omega)) y[t]) (h2 : ∀ (h0 : 0 < t) (hs' : s < x.length), le (y[t - 1]'(by omega)) x[s]) :
    ∀ a ∈ x.take s ++ y.take t, ∀ b ∈ x.drop s ++ y.drop t, le a b := by
  have xx : ∀ a ∈ x.take s, ∀ b ∈ x.drop s, le a b := by
    have := hx
    rw [← List.take_append_drop s x] at this
    exact (List.pairwise_append.1 this).2.2
  have yy : ∀ a ∈ y.take t, ∀ b ∈ y.drop t, le a b := by
    have := hy
    rw [← List.take_append_drop t y] at this
    exact (List.pairwise_append.1 this).2.2
  have xy : ∀ a ∈ x.take s, ∀ b ∈ y.drop t, le a b := fun a ha b hb => by
    obtain ⟨i, hi, rfl⟩ := List.getElem_of_mem ha
    obtain ⟨j, hj, rfl⟩ := List.getElem_of_mem hb
    rw [List.length_take] at hi
    rw [List.length_drop] at hj
    rw [List.getElem_take, List.getElem_drop]
    exact ho.trans _ _ _ (asc_le ho hx (i := i) (j := s - 1) (by omega) (by omega)) (ho.trans _ _ _ (h1 (by omega) (by omega)) (asc_le ho hy (i := t) (j := t + j) (by omega) (by omega)))
  have yx : ∀ a ∈ y.take t, ∀ b ∈ x.drop s, le a b := fun a ha b hb => by
    obtain ⟨i, hi, rfl⟩ := List.getElem_of_mem ha
    obtain ⟨j, hj, rfl⟩ := List.getElem_of_mem hb
    rw [List.length_take] at hi
    rw [List.length_drop] at hj
    rw [List.getElem_take, List.getElem_drop]
    exact ho.trans _ _ _ (asc_le ho hy (i := i) (j := t - 1) (by omega) (by omega)) (ho.trans _ _ _ (h2 (by omega) (by omega)) (asc_le ho hx (i := s) (j := s + j) (by omega) (by omega)))
  intro a ha b hb
  rcases List.mem_append.1 ha with ha | ha <;> rcases List.mem_append.1 hb with hb | hb
  · exact xx a ha b hb
  · exact xy a ha b hb
  · exact yx a ha b hb
  · exact yy a ha b hb

theorem asc_take {l : List ε} (h : Asc le l) (k : Nat) : Asc le (l.take k) := h.sublist (List.take_sublist k l)
theorem asc_drop {l : List ε} (h : Asc le l) (k : Nat) : Asc le (l.drop k) := h.sublist (List.drop_sublist k l)

/-- two elements change places -/
def swp (l : List ε) (i j : Nat) : List ε := match l[i]?, l[j]? with
  | some x, some y => (l.set i y).set j x
  | _, _ => l

theorem swp_eq {l : List ε} {i j : Nat} (hi : i < l.length) (hj : j < l.length) : swp l i j = (l.set i l[j]).set j l[i] := by
  unfold swp
  rw [List.getElem?_eq_getElem hi, List.getElem?_eq_getElem hj]

theorem swp_next (a : List ε) (x y : ε) (b : List ε) : swp (a ++ x :: y :: b) a.length (a.length + 1) = a ++ y :: x :: b := by
  rw [swp_eq (by simp) (by simp)]
  simp [List.getElem_append_right, List.set_append]

theorem swp_far (a : List ε) (x : ε) (b : List ε) (y : ε) (c : List ε) : swp (a ++ x :: (b ++ y :: c)) a.length (a.length + 1 + b.length) = a ++ y :: (b ++ x :: c) := by
  have e : a ++ x :: (b ++ y :: c) = (a ++ x :: b) ++ y :: c := by simp
  have h1 : a.length < (a ++ x :: (b ++ y :: c)).length := by simp
  have h2 : a.length + 1 + b.length < (a ++ x :: (b ++ y :: c)).length := by simp; omega
  rw [swp_eq h1 h2]
  have g1 : (a ++ x :: (b ++ y :: c))[a.length]'h1 = x := by simp
  have g2 : (a ++ x :: (b ++ y :: c))[a.length + 1 + b.length]'h2 = y := by
    have : (a ++ x :: (b ++ y :: c))[a.length + 1 + b.length]? = some y := by
      rw [e, List.getElem?_append_right (by simp; omega)]
      simp
      rw [show a.length + 1 + b.length - (a.length + (b.length + 1)) = 0 by omega]
      rfl
    rw [List.getElem?_eq_getElem h2] at this
    exact Option.some.inj this
  rw [g1, g2]
  apply List.ext_getElem?
  intro k
  by_cases hk : k = a.length + 1 + b.length
  · subst hk
    rw [List.getElem?_set_self (by simp; omega)]
    have e2 : a ++ y :: (b ++ x :: c) = (a ++ y :: b) ++ x :: c := by simp
    rw [e2, List.getElem?_append_right (by simp; omega)]
    simp
    rw [show a.length + 1 + b.length - (a.length + (b.length + 1)) = 0 by omega]
    rfl
  · rw [List.getElem?_set_ne (by omega)]
    by_cases hk2 : k = a.length
    · subst hk2
      rw [List.getElem?_set_self h1]
      simp
    · rw [List.getElem?_set_ne (by omega)]
      by_cases hk3 : k < a.length
      · rw [List.getElem?_append_left hk3, List.getElem?_append_left hk3]
      · rw [List.getElem?_append_right (by omega), List.getElem?_append_right (by omega)]
        obtain ⟨m, hm⟩ : ∃ m, k - a.length = m + 1 := ⟨k - a.length - 1, by omega⟩
        rw [hm, List.getElem?_cons_succ, List.getElem?_cons_succ]
        by_cases hm2 : m < b.length
        · rw [List.getElem?_append_left hm2, List.getElem?_append_left hm2]
        · rw [List.getElem?_append_right (by omega), List.getElem?_append_right (by omega)]
          obtain ⟨q, hq⟩ : ∃ q, m - b.length = q + 1 := ⟨m - b.length - 1, by omega⟩
          rw [hq, List.getElem?_cons_succ, List.getElem?_cons_succ]

/-- chunks of one length, each in order, and a rest -/
structure Chunks (le : ε → ε → Prop) (bs : Nat) (cs : List (List ε)) (rest : List ε) : Prop where
  len : ∀ c ∈ cs, c.length = bs
  asc : ∀ c ∈ cs, Asc le c
  last : Asc le rest
  short : rest.length < bs

end

end Go.Vc
end

/-
  Values, rows and deltas in order (in plain Lean).
-/
section
set_option linter.unusedVariables false
set_option linter.unusedSimpArgs false
namespace Go.Proofs.YtbkpfhhhbhaecaaDoor
open Go.Vc

structure ValD where
  kind : Int
  num : Int
  text : ByteArray
instance : Gv ValD := Gv.via (β := Int × Int × ByteArray) (fun x => (x.kind, x.num, x.text)) (fun y => ⟨y.1, y.2.1, y.2.2⟩) (fun _ => rfl)

structure DeltaD where
  time : Int
  row : List ValD
  n : Int
instance : Gv DeltaD := Gv.via (β := Int × List ValD × Int) (fun x => (x.time, x.row, x.n)) (fun y => ⟨y.1, y.2.1, y.2.2⟩) (fun _ => rfl)

abbrev ValD.v (x : ValD) : Value := .agg #[.int .i64 x.kind, .int .i64 x.num, .string x.text]

theorem val_ext {x y : ValD} : x = y ↔ (x.kind = y.kind ∧ (x.num = y.num ∧ x.text = y.text)) := by
  cases x; cases y; simp
instance : DecidableEq ValD := fun _ _ => decidable_of_iff _ val_ext.symm

/-! ### comparisons of three answers -/
structure Cmp {α : Type} (c : α → α → Int) : Prop where
  eq : ∀ x y, c x y = 0 ↔ x = y
  anti : ∀ x y, 0 < c x y ↔ c y x < 0
  trans : ∀ x y z, c x y < 0 → c y z < 0 → c x z < 0
  bd : ∀ x y, -1 ≤ c x y ∧ c x y ≤ 1

theorem Cmp.refl {α : Type} {c : α → α → Int} (h : Cmp c) (x : α) : c x x = 0 := (h.eq x x).2 rfl
theorem Cmp.tri {α : Type} {c : α → α → Int} (h : Cmp c) (x y : α) : c x y < 0 ∨ x = y ∨ c y x < 0 := by
  rcases Int.lt_trichotomy (c x y) 0 with h1 | h1 | h1
  · exact .inl h1
  · exact .inr (.inl ((h.eq x y).1 h1))
  · exact .inr (.inr ((h.anti x y).1 h1))
def cmpI (x y : Int) : Int := if x < y then -1 else if y < x then 1 else 0

theorem cmpI_cmp : Cmp cmpI := by
  refine ⟨fun x y => ?_, fun x y => ?_, fun x y z => ?_, fun x y => ?_⟩
  · unfold cmpI; split
    · constructor <;> intro h <;> omega
    · split
      · constructor <;> intro h <;> omega
      · constructor <;> intro h <;> omega
  · unfold cmpI; split <;> split <;> try split
    all_goals first | omega | (split <;> omega)
  · unfold cmpI; split
    · intro _
      split
      · intro _; rw [if_pos (by omega)]; omega
      · split <;> (intro h; omega)
    · split <;> (intro h; omega)
  · unfold cmpI; split; omega; split <;> omega

theorem bytes_cmp : Cmp Lib.compareBytes := by
  have heq : ∀ a b : List UInt8, Lib.compareBytes a b = 0 ↔ a = b := by
    intro a
    induction a with
    | nil => intro b; cases b <;> simp [Lib.compareBytes]
    | cons x a ih =>
      intro b
      cases b with
      | nil => simp [Lib.compareBytes]
      | cons y b =>
        unfold Lib.compareBytes
        split
        · rename_i h; constructor
          · intro h'; omega
          · intro h'; simp only [List.cons.injEq] at h'; rw [h'.1] at h; exact absurd h (by exact UInt8.lt_irrefl y)
        · split
          · rename_i h; constructor
            · intro h'; omega
            · intro h'; simp only [List.cons.injEq] at h'; rw [h'.1] at h; exact absurd h (by exact UInt8.lt_irrefl y)
          · rename_i h1 h2
            have : x = y := UInt8.le_antisymm (UInt8.not_lt.1 h2) (UInt8.not_lt.1 h1)
            subst this
            rw [ih b]
            simp
  have hanti : ∀ a b : List UInt8, 0 < Lib.compareBytes a b ↔ Lib.compareBytes b a < 0 := by
    intro a
    induction a with
    | nil => intro b; cases b <;> simp [Lib.compareBytes]
    | cons x a ih =>
      intro b
      cases b with
      | nil => simp [Lib.compareBytes]
      | cons y b =>
        unfold Lib.compareBytes
        by_cases h1 : x < y
        · rw [if_pos h1, if_neg (UInt8.lt_asymm h1), if_pos h1]; omega
        · rw [if_neg h1]
          by_cases h2 : y < x
          · rw [if_pos h2, if_pos h2]; omega
          · rw [if_neg h2, if_neg h2, if_neg h1]; exact ih b
  have htrans : ∀ a b c : List UInt8, Lib.compareBytes a b < 0 → Lib.compareBytes b c < 0 → Lib.compareBytes a c < 0 := by
    intro a
    induction a with
    | nil =>
      intro b c h1 h2
      cases c with
      | nil => cases b <;> simp [Lib.compareBytes] at h2
      | cons => simp [Lib.compareBytes]
    | cons x a ih =>
      intro b c h1 h2
      cases b with
      | nil => simp [Lib.compareBytes] at h1
      | cons y b =>
        cases c with
        | nil => simp [Lib.compareBytes] at h2
        | cons z c =>
          unfold Lib.compareBytes at h1 h2 ⊢
          by_cases hxy : x < y
          · by_cases hyz : y < z
            · rw [if_pos (UInt8.lt_trans hxy hyz)]; omega
            · rw [if_neg hyz] at h2
              by_cases hzy : z < y
              · rw [if_pos hzy] at h2; omega
              · have : y = z := UInt8.le_antisymm (UInt8.not_lt.1 hzy) (UInt8.not_lt.1 hyz)
                subst this
                rw [if_pos hxy]; omega
          · rw [if_neg hxy] at h1
            by_cases hyx : y < x
            · rw [if_pos hyx] at h1; omega
            · have : x = y := UInt8.le_antisymm (UInt8.not_lt.1 hyx) (UInt8.not_lt.1 hxy)
              subst this
              rw [if_neg hyx] at h1
              by_cases hyz : x < z
              · rw [if_pos hyz]; omega
              · rw [if_neg hyz] at h2 ⊢
                by_cases hzy : z < x
                · rw [if_pos hzy] at h2; omega
                · rw [if_neg hzy] at h2 ⊢
                  exact ih b c h1 h2
  have hbd : ∀ a b : List UInt8, -1 ≤ Lib.compareBytes a b ∧ Lib.compareBytes a b ≤ 1 := by
    intro a
    induction a with
    | nil => intro b; cases b <;> simp [Lib.compareBytes]
    | cons x a ih =>
      intro b
      cases b with
      | nil => simp [Lib.compareBytes]
      | cons y b =>
        unfold Lib.compareBytes
        split
        · omega
        · split
          · omega
          · exact ih b
  exact ⟨heq, hanti, htrans, hbd⟩

def cmpT (a b : ByteArray) : Int := Lib.compareBytes a.data.toList b.data.toList
theorem cmpT_cmp : Cmp cmpT :=
  ⟨fun x y => (bytes_cmp.eq _ _).trans ⟨fun h => ByteArray.ext (Array.toList_inj.1 h), fun h => by rw [h]⟩, fun x y => bytes_cmp.anti _ _, fun x y z => bytes_cmp.trans _ _ _, fun x y => bytes_cmp.bd _ _⟩

def orI : List Int → Int
  | [] => 0
  | x :: r => if x ≠ 0 then x else orI r

theorem orI_two (a b : Int) : orI [a, b] = if a ≠ 0 then a else b := by
  unfold orI orI orI
  split
  · rfl
  · split
    · rfl
    · omega

/-- first the one, then the other -/
def lex {α β : Type} (c : α → α → Int) (d : β → β → Int) (x y : α × β) : Int := if c x.1 y.1 ≠ 0 then c x.1 y.1 else d x.2 y.2

theorem lex_cmp {α β : Type} {c : α → α → Int} {d : β → β → Int} (hc : Cmp c) (hd : Cmp d) : Cmp (lex c d) := by
  refine ⟨fun x y => ?_, fun x y => ?_, fun x y z h1 h2 => ?_, fun x y => ?_⟩
  · unfold lex
    by_cases h : c x.1 y.1 = 0
    · rw [if_neg (by simp [h]), hd.eq]
      have := (hc.eq _ _).1 h
      constructor
      · intro h'; exact Prod.ext this h'
      · intro h'; rw [h']
    · rw [if_pos h]
      constructor
      · intro h'; exact absurd h' h
      · intro h'; rw [h'] at h; exact absurd (hc.refl _) h
  · unfold lex
    by_cases h : c x.1 y.1 = 0
    · have := (hc.eq _ _).1 h
      rw [if_neg (by simp [h]), if_neg (by rw [this]; simp [hc.refl])]
      exact hd.anti _ _
    · have h2 : c y.1 x.1 ≠ 0 := fun e => h ((hc.eq _ _).2 ((hc.eq _ _).1 e).symm)
      rw [if_pos h, if_pos h2]
      exact hc.anti _ _
  · unfold lex at h1 h2 ⊢
    by_cases e1 : c x.1 y.1 = 0
    · rw [if_neg (by simp [e1])] at h1
      have q := (hc.eq _ _).1 e1
      rw [q]
      by_cases e2 : c y.1 z.1 = 0
      · rw [if_neg (by simp [e2])] at h2 ⊢
        exact hd.trans _ _ _ h1 h2
      · rw [if_pos e2] at h2 ⊢
        exact h2
    · rw [if_pos e1] at h1
      by_cases e2 : c y.1 z.1 = 0
      · have q := (hc.eq _ _).1 e2
        rw [← q, if_pos e1]
        exact h1
      · rw [if_pos e2] at h2
        have := hc.trans _ _ _ h1 h2
        rw [if_pos (by omega)]
        exact this
  · unfold lex
    split
    · exact hc.bd _ _
    · exact hd.bd _ _

theorem Cmp.on {α β : Type} {c : β → β → Int} (h : Cmp c) (f : α → β) (hf : ∀ x y, f x = f y → x = y) : Cmp (fun x y => c (f x) (f y)) :=
  ⟨fun x y => ⟨fun e => hf _ _ ((h.eq _ _).1 e), fun e => by rw [e]; exact h.refl _⟩, fun x y => h.anti _ _, fun x y z => h.trans _ _ _, fun x y => h.bd _ _⟩

abbrev cmpL (x y : ValD) : List Int := [cmpI x.kind y.kind, cmpI x.num y.num, cmpT x.text y.text]
def cmpV (x y : ValD) : Int := orI (cmpL x y)

theorem cmpV_lex (x y : ValD) : cmpV x y = lex cmpI (lex cmpI cmpT) (x.kind, x.num, x.text) (y.kind, y.num, y.text) := by
  unfold cmpV cmpL lex
  rw [orI]
  split
  · rfl
  · rw [orI_two]

theorem cmpV_cmp : Cmp cmpV := by
  have h := (lex_cmp cmpI_cmp (lex_cmp cmpI_cmp cmpT_cmp)).on (fun x : ValD => (x.kind, x.num, x.text)) (fun x y e => by cases x; cases y; simpa using e)
  have e : cmpV = fun x y => lex cmpI (lex cmpI cmpT) (x.kind, x.num, x.text) (y.kind, y.num, y.text) := by funext x y; exact cmpV_lex x y
  rw [e]; exact h

def cmpR : List ValD → List ValD → Int
  | [], [] => 0
  | [], _ :: _ => -1
  | _ :: _, [] => 1
  | a :: ar, b :: br => if cmpV a b ≠ 0 then cmpV a b else cmpR ar br

theorem cmpR_cmp : Cmp cmpR := by
  refine ⟨?_, ?_, ?_, ?_⟩
  · intro x
    induction x with
    | nil => intro y; cases y <;> simp [cmpR]
    | cons a x ih =>
      intro y
      cases y with
      | nil => simp [cmpR]
      | cons b y =>
        unfold cmpR
        by_cases h : cmpV a b = 0
        · rw [if_neg (by simp [h]), ih y, (cmpV_cmp.eq _ _).1 h]; simp
        · rw [if_pos h]
          constructor
          · intro h'; exact absurd h' h
          · intro h'; simp only [List.cons.injEq] at h'; rw [h'.1] at h; exact absurd (cmpV_cmp.refl _) h
  · intro x
    induction x with
    | nil => intro y; cases y <;> simp [cmpR]
    | cons a x ih =>
      intro y
      cases y with
      | nil => simp [cmpR]
      | cons b y =>
        unfold cmpR
        by_cases h : cmpV a b = 0
        · have := (cmpV_cmp.eq _ _).1 h
          rw [if_neg (by simp [h]), if_neg (by rw [this]; simp [cmpV_cmp.refl])]
          exact ih y
        · have h2 : cmpV b a ≠ 0 := fun e => h ((cmpV_cmp.eq _ _).2 ((cmpV_cmp.eq _ _).1 e).symm)
          rw [if_pos h, if_pos h2]
          exact cmpV_cmp.anti _ _
  · intro x
    induction x with
    | nil =>
      intro y z h1 h2
      cases z with
      | nil => cases y <;> simp [cmpR] at h2
      | cons => simp [cmpR]
    | cons a x ih =>
      intro y z h1 h2
      cases y with
      | nil => simp [cmpR] at h1
      | cons b y =>
        cases z with
        | nil => simp [cmpR] at h2
        | cons c z =>
          unfold cmpR at h1 h2 ⊢
          by_cases e1 : cmpV a b = 0
          · rw [if_neg (by simp [e1])] at h1
            have q := (cmpV_cmp.eq _ _).1 e1
            rw [q]
            by_cases e2 : cmpV b c = 0
            · rw [if_neg (by simp [e2])] at h2 ⊢
              exact ih y z h1 h2
            · rw [if_pos e2] at h2 ⊢
              exact h2
          · rw [if_pos e1] at h1
            by_cases e2 : cmpV b c = 0
            · have q := (cmpV_cmp.eq _ _).1 e2
              rw [← q, if_pos e1]
              exact h1
            · rw [if_pos e2] at h2
              have := cmpV_cmp.trans _ _ _ h1 h2
              rw [if_pos (by omega)]
              exact this
  · intro x
    induction x with
    | nil => intro y; cases y <;> simp [cmpR]
    | cons a x ih =>
      intro y
      cases y with
      | nil => simp [cmpR]
      | cons b y =>
        unfold cmpR
        split
        · exact cmpV_cmp.bd _ _
        · exact ih y

theorem cmpR_left {l r : List ValD} {i : Nat} (hi : i < l.length) (hr : r.length ≤ i) : cmpR (l.drop i) (r.drop i) = 1 := by
  rw [List.drop_eq_getElem_cons hi, List.drop_of_length_le hr]; rfl
theorem cmpR_both {l r : List ValD} {i : Nat} (hi : i < l.length) (hr : i < r.length) : cmpR (l.drop i) (r.drop i) = if cmpV l[i] r[i] ≠ 0 then cmpV l[i] r[i] else cmpR (l.drop (i + 1)) (r.drop (i + 1)) := by
  rw [List.drop_eq_getElem_cons hi, List.drop_eq_getElem_cons hr]; rfl

/-! ### deltas -/
abbrev Key : Type := Int × List ValD
abbrev DeltaD.key (x : DeltaD) : Key := (x.time, x.row)
def cmpK (x y : Key) : Int := lex cmpI cmpR x y
theorem cmpK_cmp : Cmp cmpK := lex_cmp cmpI_cmp cmpR_cmp
abbrev cmpDL (x y : DeltaD) : List Int := [cmpI x.time y.time, cmpR x.row y.row]
def cmpD (x y : DeltaD) : Int := orI (cmpDL x y)
theorem cmpD_key (x y : DeltaD) : cmpD x y = cmpK x.key y.key := by
  unfold cmpD cmpDL cmpK lex
  rw [orI_two]
theorem delta_ext {x y : DeltaD} (h1 : x.key = y.key) (h2 : x.n = y.n) : x = y := by
  cases x; cases y
  simp only [DeltaD.key, Prod.mk.injEq] at h1
  simp only at h2
  obtain ⟨rfl, rfl⟩ := h1
  subst h2
  rfl

end Go.Proofs.YtbkpfhhhbhaecaaDoor
end

/-
  Consolidated lists of deltas (in plain Lean).
-/
section
set_option linter.unusedVariables false
set_option linter.unusedSimpArgs false
namespace Go.Proofs.YtbkpfhhhbhaecaaDoor
open Go.Vc

/-! ### sums that wrap round -/
abbrev w64 (x : Int) : Int := IntKind.i64.wrap x
theorem w64_eq (x : Int) : w64 x = if 9223372036854775808 ≤ x % 18446744073709551616 then x % 18446744073709551616 - 18446744073709551616 else x % 18446744073709551616 := by
  simp [w64, IntKind.wrap, IntKind.signed, IntKind.bits]
theorem w64_in (x : Int) : I64 (w64 x) := by rw [w64_eq]; unfold I64; split <;> omega
theorem w64_id {x : Int} (h : I64 x) : w64 x = x := by rw [w64_eq]; unfold I64 at h; split <;> omega
theorem w64_mod (x : Int) : (w64 x - x) % 18446744073709551616 = 0 := by rw [w64_eq]; split <;> omega
theorem w64_cong {x y : Int} (h : (x - y) % 18446744073709551616 = 0) : w64 x = w64 y := by
  rw [w64_eq, w64_eq]
  have : x % 18446744073709551616 = y % 18446744073709551616 := by omega
  rw [this]
theorem w64_l (x y : Int) : w64 (w64 x + y) = w64 (x + y) := w64_cong (by have := w64_mod x; omega)
theorem w64_r (x y : Int) : w64 (x + w64 y) = w64 (x + y) := w64_cong (by have := w64_mod y; omega)
theorem w64_w (x : Int) : w64 (w64 x) = w64 x := w64_id (w64_in x)

/-- how often something is there, before it wraps round -/
def sumK : List DeltaD → Key → Int
  | [], _ => 0
  | x :: l, k => (if x.key = k then x.n else 0) + sumK l k

def findP (l : List DeltaD) (k : Key) : Int := w64 (sumK l k)

theorem sumK_app : ∀ (a b : List DeltaD) (k : Key), sumK (a ++ b) k = sumK a k + sumK b k
  | [], b, k => by simp [sumK]
  | x :: a, b, k => by simp only [List.cons_append, sumK, sumK_app a b k]; omega

theorem sumK_perm {a b : List DeltaD} (h : a.Perm b) (k : Key) : sumK a k = sumK b k := by
  induction h with
  | nil => rfl
  | cons x _ ih => simp only [sumK, ih]
  | swap x y l => simp only [sumK]; omega
  | trans _ _ h1 h2 => exact h1.trans h2

theorem findP_perm {a b : List DeltaD} (h : a.Perm b) (k : Key) : findP a k = findP b k := by unfold findP; rw [sumK_perm h]

theorem sumK_none {l : List DeltaD} {k : Key} (h : ∀ x ∈ l, x.key ≠ k) : sumK l k = 0 := by
  induction l with
  | nil => rfl
  | cons x l ih =>
    simp only [sumK]
    rw [if_neg (h x (by simp)), ih fun y hy => h y (by simp [hy])]
    rfl

/-! ### the consolidated form -/
structure Norm (c : List DeltaD) : Prop where
  asc : c.Pairwise fun x y => cmpD x y < 0
  nz : ∀ x ∈ c, x.n ≠ 0
  i64 : ∀ x ∈ c, I64 x.n

theorem Norm.nil : Norm [] := ⟨List.Pairwise.nil, by simp, by simp⟩
theorem Norm.tail {x : DeltaD} {c : List DeltaD} (h : Norm (x :: c)) : Norm c := ⟨(List.pairwise_cons.1 h.asc).2, fun y hy => h.nz y (by simp [hy]), fun y hy => h.i64 y (by simp [hy])⟩
theorem Norm.head {x : DeltaD} {c : List DeltaD} (h : Norm (x :: c)) : ∀ y ∈ c, cmpK x.key y.key < 0 := fun y hy => by
  rw [← cmpD_key]; exact (List.pairwise_cons.1 h.asc).1 y hy
theorem Norm.cons {x : DeltaD} {c : List DeltaD} (h : Norm c) (h1 : ∀ y ∈ c, cmpK x.key y.key < 0) (h2 : x.n ≠ 0) (h3 : I64 x.n) : Norm (x :: c) :=
  ⟨List.pairwise_cons.2 ⟨fun y hy => by rw [cmpD_key]; exact h1 y hy, h.asc⟩, fun y hy => by rcases List.mem_cons.1 hy with rfl | hy; exact h2; exact h.nz y hy, fun y hy => by rcases List.mem_cons.1 hy with rfl | hy; exact h3; exact h.i64 y hy⟩

theorem Norm.head_ne {x : DeltaD} {c : List DeltaD} (h : Norm (x :: c)) : ∀ y ∈ c, y.key ≠ x.key := fun y hy e => by
  have := h.head y hy
  rw [e, cmpK_cmp.refl] at this
  omega

theorem Norm.find_head {x : DeltaD} {c : List DeltaD} (h : Norm (x :: c)) : findP (x :: c) x.key = x.n := by
  unfold findP
  rw [show sumK (x :: c) x.key = (if x.key = x.key then x.n else 0) + sumK c x.key from rfl, if_pos rfl, sumK_none h.head_ne, Int.add_zero]
  exact w64_id (h.i64 x (by simp))

/-- there is one consolidated list alone for what is there -/
theorem norm_unique : ∀ {c d : List DeltaD}, Norm c → Norm d → (∀ k, findP c k = findP d k) → c = d := by
  have none : ∀ {c : List DeltaD} {x : DeltaD} {l : List DeltaD}, Norm (x :: l) → (∀ y ∈ c, y.key ≠ x.key) → findP (x :: l) x.key = findP c x.key → False := fun {c x l} h hc e => by
    rw [h.find_head] at e
    unfold findP at e
    rw [sumK_none hc] at e
    exact h.nz x (by simp) e
  intro c
  induction c with
  | nil =>
    intro d _ hd h
    cases d with
    | nil => rfl
    | cons y d => exact (none (c := []) hd (by simp) (h _).symm).elim
  | cons x c ih =>
    intro d hc hd h
    cases d with
    | nil => exact (none (c := []) hc (by simp) (h _)).elim
    | cons y d =>
      rcases cmpK_cmp.tri x.key y.key with hlt | he | hgt
      · refine (none (c := y :: d) hc (fun z hz e => ?_) (h _)).elim
        rcases List.mem_cons.1 hz with rfl | hz
        · rw [e, cmpK_cmp.refl] at hlt; omega
        · have := cmpK_cmp.trans _ _ _ hlt (hd.head z hz)
          rw [e, cmpK_cmp.refl] at this; omega
      · have hn : x.n = y.n := by rw [← hc.find_head, ← hd.find_head, ← he, h]
        have hxy : x = y := delta_ext he hn
        subst hxy
        congr 1
        refine ih hc.tail hd.tail fun k => ?_
        by_cases hk : x.key = k
        · subst hk
          unfold findP
          rw [sumK_none hc.head_ne, sumK_none hd.head_ne]
        · have := h k
          unfold findP at this ⊢
          simp only [sumK] at this
          rwa [if_neg hk, Int.zero_add, Int.zero_add] at this
      · refine (none (c := x :: c) hd (fun z hz e => ?_) (h _).symm).elim
        rcases List.mem_cons.1 hz with rfl | hz
        · rw [e, cmpK_cmp.refl] at hgt; omega
        · have := cmpK_cmp.trans _ _ _ hgt (hc.head z hz)
          rw [e, cmpK_cmp.refl] at this; omega

/-- one more element -/
def insD (x : DeltaD) : List DeltaD → List DeltaD
  | [] => if w64 x.n = 0 then [] else [⟨x.time, x.row, w64 x.n⟩]
  | y :: t => if cmpD x y < 0 then (if w64 x.n = 0 then y :: t else ⟨x.time, x.row, w64 x.n⟩ :: y :: t)
      else if cmpD x y = 0 then (if w64 (x.n + y.n) = 0 then t else ⟨y.time, y.row, w64 (x.n + y.n)⟩ :: t)
      else y :: insD x t

theorem insD_key (x : DeltaD) : ∀ (c : List DeltaD), ∀ z ∈ insD x c, z.key = x.key ∨ ∃ y ∈ c, y.key = z.key := by
  intro c
  induction c with
  | nil =>
    intro z hz
    unfold insD at hz
    split at hz
    · cases hz
    · rcases List.mem_singleton.1 hz with rfl; exact .inl rfl
  | cons y t ih =>
    intro z hz
    unfold insD at hz
    split at hz
    · split at hz
      · exact .inr ⟨z, hz, rfl⟩
      · rcases List.mem_cons.1 hz with rfl | hz
        · exact .inl rfl
        · exact .inr ⟨z, hz, rfl⟩
    · split at hz
      · split at hz
        · exact .inr ⟨z, by simp [hz], rfl⟩
        · rcases List.mem_cons.1 hz with rfl | hz
          · exact .inr ⟨y, by simp, rfl⟩
          · exact .inr ⟨z, by simp [hz], rfl⟩
      · rcases List.mem_cons.1 hz with rfl | hz
        · exact .inr ⟨z, by simp, rfl⟩
        · rcases ih z hz with h | ⟨y', hy, h⟩
          · exact .inl h
          · exact .inr ⟨y', by simp [hy], h⟩

theorem insD_norm (x : DeltaD) : ∀ {c : List DeltaD}, Norm c → Norm (insD x c) ∧ ∀ k, findP (insD x c) k = findP (x :: c) k := by
  intro c
  induction c with
  | nil =>
    intro _
    unfold insD
    split
    · rename_i h
      refine ⟨Norm.nil, fun k => ?_⟩
      unfold findP
      simp only [sumK]
      split
      · rw [Int.add_zero, h]; rfl
      · rfl
    · rename_i h
      refine ⟨Norm.nil.cons (by simp) h (w64_in _), fun k => ?_⟩
      unfold findP
      simp only [sumK]
      by_cases hk : x.key = k
      · rw [if_pos hk, if_pos (show (⟨x.time, x.row, w64 x.n⟩ : DeltaD).key = k from hk), Int.add_zero, Int.add_zero, w64_w]
      · rw [if_neg hk, if_neg (show ¬ (⟨x.time, x.row, w64 x.n⟩ : DeltaD).key = k from hk)]
  | cons y t ih =>
    intro h
    unfold insD
    by_cases h1 : cmpD x y < 0
    · rw [if_pos h1]
      have hlt : ∀ z ∈ y :: t, cmpK x.key z.key < 0 := fun z hz => by
        rw [cmpD_key] at h1
        rcases List.mem_cons.1 hz with rfl | hz
        · exact h1
        · exact cmpK_cmp.trans _ _ _ h1 (h.head z hz)
      split
      · rename_i hz
        refine ⟨h, fun k => ?_⟩
        unfold findP
        rw [show sumK (x :: y :: t) k = (if x.key = k then x.n else 0) + sumK (y :: t) k from rfl]
        split
        · rw [← w64_l, hz, Int.zero_add]
        · rw [Int.zero_add]
      · rename_i hz
        refine ⟨h.cons hlt hz (w64_in _), fun k => ?_⟩
        unfold findP
        rw [show sumK (x :: y :: t) k = (if x.key = k then x.n else 0) + sumK (y :: t) k from rfl,
          show sumK (⟨x.time, x.row, w64 x.n⟩ :: y :: t) k = (if x.key = k then w64 x.n else 0) + sumK (y :: t) k from rfl]
        split
        · rw [w64_l]
        · rfl
    · rw [if_neg h1]
      by_cases h2 : cmpD x y = 0
      · rw [if_pos h2]
        have hk : x.key = y.key := by rw [cmpD_key] at h2; exact (cmpK_cmp.eq _ _).1 h2
        split
        · rename_i hz
          refine ⟨h.tail, fun k => ?_⟩
          unfold findP
          rw [show sumK (x :: y :: t) k = (if x.key = k then x.n else 0) + ((if y.key = k then y.n else 0) + sumK t k) from rfl, hk]
          split
          · rw [← Int.add_assoc, ← w64_l, hz, Int.zero_add]
          · rw [Int.zero_add, Int.zero_add]
        · rename_i hz
          refine ⟨h.tail.cons (fun z hz' => h.head z hz') hz (w64_in _), fun k => ?_⟩
          unfold findP
          rw [show sumK (x :: y :: t) k = (if x.key = k then x.n else 0) + ((if y.key = k then y.n else 0) + sumK t k) from rfl, hk,
            show sumK (⟨y.time, y.row, w64 (x.n + y.n)⟩ :: t) k = (if y.key = k then w64 (x.n + y.n) else 0) + sumK t k from rfl]
          split
          · rw [w64_l, Int.add_assoc]
          · simp only [Int.zero_add]
      · rw [if_neg h2]
        obtain ⟨ih1, ih2⟩ := ih h.tail
        have hgt : cmpK y.key x.key < 0 := by
          rw [cmpD_key] at h1 h2
          exact (cmpK_cmp.anti _ _).1 (by omega)
        refine ⟨ih1.cons (fun z hz => ?_) (h.nz y (by simp)) (h.i64 y (by simp)), fun k => ?_⟩
        · rcases insD_key x t z hz with e | ⟨y', hy', e⟩
          · rw [e]; exact hgt
          · rw [← e]; exact h.head y' hy'
        · have := ih2 k
          unfold findP at this ⊢
          rw [show sumK (y :: insD x t) k = (if y.key = k then y.n else 0) + sumK (insD x t) k from rfl, show sumK (x :: y :: t) k = (if x.key = k then x.n else 0) + ((if y.key = k then y.n else 0) + sumK t k) from rfl, ← w64_r, this, w64_r]
          rw [show sumK (x :: t) k = (if x.key = k then x.n else 0) + sumK t k from rfl]
          congr 1
          omega

/-- the consolidated list of what is there -/
def consP (l : List DeltaD) : List DeltaD := l.foldr insD []

theorem consP_norm (l : List DeltaD) : Norm (consP l) ∧ ∀ k, findP (consP l) k = findP l k := by
  induction l with
  | nil => exact ⟨Norm.nil, fun k => rfl⟩
  | cons x l ih =>
    obtain ⟨h1, h2⟩ := insD_norm x ih.1
    refine ⟨h1, fun k => ?_⟩
    show findP (insD x (consP l)) k = _
    rw [h2]
    have := ih.2 k
    unfold findP at this ⊢
    rw [show sumK (x :: consP l) k = (if x.key = k then x.n else 0) + sumK (consP l) k from rfl, show sumK (x :: l) k = (if x.key = k then x.n else 0) + sumK l k from rfl, ← w64_r, this, w64_r]

theorem consP_is {l c : List DeltaD} (h : Norm c) (hf : ∀ k, findP c k = findP l k) : consP l = c :=
  norm_unique (consP_norm l).1 h fun k => by rw [(consP_norm l).2, hf]
theorem consP_eq {a b : List DeltaD} (h : ∀ k, findP a k = findP b k) : consP a = consP b :=
  norm_unique (consP_norm a).1 (consP_norm b).1 fun k => by rw [(consP_norm a).2, (consP_norm b).2, h]
theorem consP_perm {a b : List DeltaD} (h : a.Perm b) : consP a = consP b := consP_eq fun k => findP_perm h k
end Go.Proofs.YtbkpfhhhbhaecaaDoor
end

/-
  Deltas as they lie in memory.
-/
section
set_option linter.unusedVariables false
set_option linter.unusedSimpArgs false
namespace Go.Proofs.YtbkpfhhhbhaecaaDoor
open Go.Vc

abbrev DeltaD.v (x : DeltaD) (p : Option Addr) (c : Nat) : Value := .agg #[.int .i64 x.time, .slice p x.row.length c, .int .i64 x.n]
abbrev DeltaD.cells (x : DeltaD) (p : Option Addr) (c : Nat) : List Value := [.int .i64 x.time, .slice p x.row.length c, .int .i64 x.n]

theorem delta_cells {M : List Nat} {w : World} {cs : List Value} {x : DeltaD} (h : Gv.rep M w cs x) : ∃ p c, cs = x.cells p c ∧ x.row.length ≤ c ∧ c ≤ maxLen ∧ I64 x.time ∧ I64 x.n ∧ Sl M w p x.row := by
  obtain ⟨_, _, rfl, ⟨rfl, ht⟩, _, _, rfl, ⟨p, c, rfl, h1, h2, h3⟩, rfl, hn⟩ := h
  exact ⟨p, c, rfl, h1, h2, ht, hn, h3⟩

theorem rep_delta {M : List Nat} {w : World} {x : DeltaD} {p : Option Addr} {c : Nat} (h1 : x.row.length ≤ c) (h2 : c ≤ maxLen) (h3 : I64 x.time) (h4 : I64 x.n) (h5 : Sl M w p x.row) : Gv.rep M w (x.cells p c) x :=
  ⟨[.int .i64 x.time], [.slice p x.row.length c, .int .i64 x.n], rfl, ⟨rfl, h3⟩, [.slice p x.row.length c], [.int .i64 x.n], rfl, ⟨p, c, rfl, h1, h2, h5⟩, rfl, h4⟩

theorem delta_row {M : List Nat} {w : World} {x : DeltaD} {p : Option Addr} {c : Nat} (h : Gv.rep M w (x.cells p c) x) : Sl M w p x.row := by
  obtain ⟨p', c', e, _, _, _, _, h1⟩ := delta_cells h
  simp only [DeltaD.cells, List.cons.injEq, Value.slice.injEq] at e
  rw [e.2.1.1]
  exact h1

theorem delta_one (M : List Nat) (w : World) (cs : List Value) (x : DeltaD) (h : Gv.rep M w cs x) : (cs.all fun u => oneC u) = true := by
  obtain ⟨p, c, rfl, _⟩ := delta_cells h
  rfl

/-- a delta, and where its row lies -/
structure DE where
  d : DeltaD
  p : Option Addr
  c : Nat
abbrev DE.cells (x : DE) : List Value := x.d.cells x.p x.c
abbrev DE.v (x : DE) : Value := x.d.v x.p x.c

def cellsE : List DE → List Value
  | [] => []
  | x :: l => .int .i64 x.d.time :: .slice x.p x.d.row.length x.c :: .int .i64 x.d.n :: cellsE l

theorem cellsE_len : ∀ l : List DE, (cellsE l).length = l.length * 3
  | [] => rfl
  | x :: l => by simp only [cellsE, List.length_cons, cellsE_len l]; omega
theorem cellsE_app : ∀ a b : List DE, cellsE (a ++ b) = cellsE a ++ cellsE b
  | [], b => rfl
  | x :: a, b => by simp only [List.cons_append, cellsE, cellsE_app a b]
theorem cellsE_drop : ∀ (l : List DE) (k : Nat), (cellsE l).drop (k * 3) = cellsE (l.drop k)
  | l, 0 => by simp
  | [], k + 1 => by simp [cellsE]
  | x :: l, k + 1 => by
    rw [show (k + 1) * 3 = k * 3 + 1 + 1 + 1 by omega]
    simp only [cellsE, List.drop_succ_cons]
    exact cellsE_drop l k
theorem cellsE_at {l : List DE} {i : Nat} (h : i < l.length) : ((cellsE l).drop (i * 3)).take 3 = l[i].cells := by
  rw [cellsE_drop, List.drop_eq_getElem_cons h]
  rfl
theorem cellsE_set {l : List DE} {i : Nat} (h : i < l.length) (x : DE) : setL (cellsE l) (i * 3) x.cells = cellsE (l.set i x) := by
  induction l generalizing i with
  | nil => simp at h
  | cons y l ih =>
    cases i with
    | zero => rfl
    | succ i =>
      have := ih (i := i) (by simpa using h)
      rw [List.set_cons_succ]
      simp only [cellsE]
      rw [← this]
      apply List.ext_getElem?
      intro k
      have hlen : (cellsE l).length = l.length * 3 := cellsE_len l
      have hi : i < l.length := by simpa using h
      by_cases hk : k < 3
      · rw [setL_get _ _ _ _ (by omega)]
        match k, hk with
        | 0, _ => rfl
        | 1, _ => rfl
        | 2, _ => rfl
      · obtain ⟨m, rfl⟩ : ∃ m, k = m + 3 := ⟨k - 3, by omega⟩
        simp only [List.getElem?_cons_succ]
        by_cases h1 : m < i * 3 ∨ i * 3 + 3 ≤ m
        · rw [setL_get _ _ _ _ (by simp; omega), setL_get _ _ _ _ (by simp; omega)]
          simp only [List.getElem?_cons_succ]
        · obtain ⟨q, rfl⟩ : ∃ q, m = i * 3 + q := ⟨m - i * 3, by omega⟩
          rw [setL_in _ _ _ _ (by simp; omega) (by simp; omega), show i * 3 + q + 3 = (i + 1) * 3 + q by omega, setL_in _ _ _ _ (by simp; omega) (by simp; omega)]

/-- what the elements are -/
def EPhi (es : List DE) : PW := fun M w => ∀ x ∈ es, Gv.rep M w x.cells x.d
instance instStableEPhi (es : List DE) : Stable (EPhi es) := ⟨fun hs h x hx => Gv.stable hs (h x hx)⟩

theorem elems_ex {M : List Nat} {w : World} : ∀ {l : List DeltaD} {cs : List Value}, Elems M w cs l → ∃ es : List DE, cs = cellsE es ∧ es.map DE.d = l := by
  intro l
  induction l with
  | nil =>
    intro cs h
    have := h.1
    simp at this
    exact ⟨[], by rw [this]; rfl, rfl⟩
  | cons x l ih =>
    intro cs h
    have hl := h.1
    rw [show (Gv.ty DeltaD).size = 3 from rfl] at hl
    have h0 := h.2 0 (by simp)
    rw [show (Gv.ty DeltaD).size = 3 from rfl, Nat.zero_mul, List.drop_zero] at h0
    obtain ⟨p, c, e, _⟩ := delta_cells h0
    have hr : Elems M w (cs.drop 3) l := by
      refine ⟨by rw [List.length_drop, hl, show (Gv.ty DeltaD).size = 3 from rfl]; simp; omega, fun j hj => ?_⟩
      have := h.2 (j + 1) (by simp; omega)
      rw [show (Gv.ty DeltaD).size = 3 from rfl] at this ⊢
      rw [List.drop_drop, show 3 + j * 3 = (j + 1) * 3 by omega]
      exact this
    obtain ⟨es, h1, h2⟩ := ih hr
    refine ⟨⟨x, p, c⟩ :: es, ?_, by simp [h2]⟩
    rw [← List.take_append_drop 3 cs]
    have e' : cs.take 3 = x.cells p c := e
    rw [e', h1]
    rfl

theorem elems_e {M : List Nat} {w : World} {es : List DE} (h : Elems M w (cellsE es) (es.map DE.d)) : EPhi es M w := by
  intro x hx
  obtain ⟨i, hi, rfl⟩ := List.getElem_of_mem hx
  have := h.2 i (by simpa using hi)
  rw [show (Gv.ty DeltaD).size = 3 from rfl, cellsE_at hi] at this
  simpa using this

theorem e_elems {M : List Nat} {w : World} {es : List DE} (h : EPhi es M w) : Elems M w (cellsE es) (es.map DE.d) := by
  refine ⟨by rw [cellsE_len]; simp [show (Gv.ty DeltaD).size = 3 from rfl], fun j hj => ?_⟩
  have hj : j < es.length := by simpa using hj
  rw [show (Gv.ty DeltaD).size = 3 from rfl, cellsE_at hj]
  have := h _ (List.getElem_mem hj)
  simpa using this

end Go.Proofs.YtbkpfhhhbhaecaaDoor
end

