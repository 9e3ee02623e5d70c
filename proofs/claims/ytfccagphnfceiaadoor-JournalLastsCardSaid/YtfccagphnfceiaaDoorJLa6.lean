/-
  The conditions of the walks of some functions, one formula each; 'B<f>_run' says that they suffice. The formulas are printed by a program; the kernel compares them with the functions' code.
-/
import Derived.Test.YtfccagphnfceiaaDoorJLa4
import Derived.Test.YtfccagphnfceiaaDoorJLa5
import Derived.MapKept

section
namespace Go.Proofs.YtfccagphnfceiaaDoor
set_option linter.unusedVariables false
set_option linter.unusedSimpArgs false
set_option maxRecDepth 100000
open Go.Vc

/-- erratalaw06.small -/
def Berratalaw06_small  (W : World) (R : List Own) (Φ : PW) (J : Value → World → Prop) : Prop :=
  ∀ (w0 : World) (R1 : List Own), Ctx W w0 (R ++ R1) Φ → Calls Tryd.prog F.disk_New #[] w0 fun (e2 : Ending) (w3 : World) => ∃ (p4 : Option Addr), e2 = Ending.returned (Value.pointer p4) ∧ ∃
  (R5 : List Own), ∃ (Φ6 : PW), Stable Φ6 ∧ Ctx W w3 (R5 ++ R1) Φ6 ∧ Br p4.isNone (∀ (w7 : World) (R8 : List Own), Ctx W w7 (R5 ++ R8) Φ6 → J (Value.bool false) w7) (∀ (w9 : World) (R10 :
  List Own), Ctx W w9 (R5 ++ R10) Φ6 → Calls Tryd.prog F.journal_Open #[Value.pointer p4, Value.int IntKind.i64 3] w9 fun (e11 : Ending) (w12 : World) => ∃ (p13 : Option Addr), ∃ (n14 : Int),
  e11 = Ending.returned (Value.tuple #[Value.pointer p13, Value.int IntKind.i64 n14]) ∧ ∃ (R15 : List Own), ∃ (Φ16 : PW), Stable Φ16 ∧ Ctx W w12 (R15 ++ R10) Φ16 ∧ Br p13.isNone (∀ (w17 :
  World) (R18 : List Own), Ctx W w17 (R15 ++ R18) Φ16 → J (Value.bool false) w17) (∀ (w19 : World) (R20 : List Own), Ctx W w19 (R15 ++ R20) Φ16 → Calls Tryd.prog F.journal_Journal_Len
  #[Value.pointer p13] w19 fun (e21 : Ending) (w22 : World) => ∃ (n23 : Int), e21 = Ending.returned (Value.int IntKind.i64 n23) ∧ ∃ (R24 : List Own), ∃ (Φ25 : PW), Stable Φ25 ∧ Ctx W w22 (R24
  ++ R20) Φ25 ∧ ∀ (k26 : Nat) (w27 : World) (R28 : List Own), Ctx W w27 (Own.blk k26 [Value.string (ByteArray.mk #[OfNat.ofNat 97]), Value.string (ByteArray.mk #[OfNat.ofNat 98, OfNat.ofNat
  99])] 9 :: R24 ++ R28) Φ25 → Calls Tryd.prog F.journal_Journal_Append #[Value.pointer p13, Value.slice (some (Addr.mk k26 0 none)) 2 2] w27 fun (e29 : Ending) (w30 : World) => ∃ (n31 :
  Int), e29 = Ending.returned (Value.int IntKind.i64 n31) ∧ ∃ (R32 : List Own), ∃ (Φ33 : PW), Stable Φ33 ∧ Ctx W w30 (R32 ++ R28) Φ33 ∧ ∀ (w34 : World) (R35 : List Own), Ctx W w34 (R32 ++
  R35) Φ33 → Calls Tryd.prog F.journal_Journal_Append #[Value.pointer p13, Value.slice none 0 0] w34 fun (e36 : Ending) (w37 : World) => ∃ (n38 : Int), e36 = Ending.returned (Value.int
  IntKind.i64 n38) ∧ ∃ (R39 : List Own), ∃ (Φ40 : PW), Stable Φ40 ∧ Ctx W w37 (R39 ++ R35) Φ40 ∧ ∀ (k41 : Nat) (w42 : World) (R43 : List Own), Ctx W w42 (Own.blk k41 [Value.string
  (ByteArray.mk #[OfNat.ofNat 100])] 9 :: R39 ++ R43) Φ40 → Calls Tryd.prog F.journal_Journal_Append #[Value.pointer p13, Value.slice (some (Addr.mk k41 0 none)) 1 1] w42 fun (e44 : Ending)
  (w45 : World) => ∃ (n46 : Int), e44 = Ending.returned (Value.int IntKind.i64 n46) ∧ ∃ (R47 : List Own), ∃ (Φ48 : PW), Stable Φ48 ∧ Ctx W w45 (R47 ++ R43) Φ48 ∧ ∀ (w49 : World) (R50 : List
  Own), Ctx W w49 (R47 ++ R50) Φ48 → Calls Tryd.prog F.journal_Journal_Cut #[Value.pointer p13, Value.int IntKind.i64 2] w49 fun (e51 : Ending) (w52 : World) => ∃ (n53 : Int), e51 =
  Ending.returned (Value.int IntKind.i64 n53) ∧ ∃ (R54 : List Own), ∃ (Φ55 : PW), Stable Φ55 ∧ Ctx W w52 (R54 ++ R50) Φ55 ∧ ∀ (w56 : World) (R57 : List Own), Ctx W w56 (R54 ++ R57) Φ55 →
  Calls Tryd.prog F.journal_Journal_All #[Value.pointer p13] w56 fun (e58 : Ending) (w59 : World) => ∃ (p60 : Option Addr), ∃ (k61 : Nat), ∃ (k62 : Nat), e58 = Ending.returned (Value.slice
  p60 k61 k62) ∧ ∃ (R63 : List Own), ∃ (Φ64 : PW), Stable Φ64 ∧ Ctx W w59 (R63 ++ R57) Φ64 ∧ ∀ (k65 : Nat) (w66 : World) (R67 : List Own), Ctx W w66 (Own.blk k65 [Value.string (ByteArray.mk
  #[OfNat.ofNat 97]), Value.string (ByteArray.mk #[OfNat.ofNat 98, OfNat.ofNat 99])] 9 :: R63 ++ R67) Φ64 → Calls Tryd.prog F.errataref01_SameTexts #[Value.slice p60 k61 k62, Value.slice
  (some (Addr.mk k65 0 none)) 2 2] w66 fun (e68 : Ending) (w69 : World) => ∃ (c70 : Bool), e68 = Ending.returned (Value.bool c70) ∧ ∃ (R71 : List Own), ∃ (Φ72 : PW), Stable Φ72 ∧ Ctx W w69
  (R71 ++ R67) Φ72 ∧ ∀ (k73 : Nat) (w74 : World) (R75 : List Own), Ctx W w74 (Own.blk k73 [Value.string (ByteArray.mk #[OfNat.ofNat 101])] 9 :: R71 ++ R75) Φ72 → Calls Tryd.prog
  F.journal_Journal_Append #[Value.pointer p13, Value.slice (some (Addr.mk k73 0 none)) 1 1] w74 fun (e76 : Ending) (w77 : World) => ∃ (n78 : Int), e76 = Ending.returned (Value.int
  IntKind.i64 n78) ∧ ∃ (R79 : List Own), ∃ (Φ80 : PW), Stable Φ80 ∧ Ctx W w77 (R79 ++ R75) Φ80 ∧ Br (decide (n14 = 0)) (Br (decide (n23 = 0)) (Br (decide (n31 = 0)) (Br (decide (n38 = 0)) (Br
  (decide (n46 = 0)) (Br (decide (n53 = 0)) (Br c70 (Br (decide (n78 = 0)) (∀ (w81 : World) (R82 : List Own), Ctx W w81 (R79 ++ R82) Φ80 → Calls Tryd.prog F.journal_Journal_Get
  #[Value.pointer p13, Value.int IntKind.i64 2] w81 fun (e83 : Ending) (w84 : World) => ∃ (s85 : ByteArray), e83 = Ending.returned (Value.string s85) ∧ ∃ (R86 : List Own), ∃ (Φ87 : PW),
  Stable Φ87 ∧ Ctx W w84 (R86 ++ R82) Φ87 ∧ Br (decide (s85 = ByteArray.mk #[OfNat.ofNat 101])) (∀ (w88 : World) (R89 : List Own), Ctx W w88 (R86 ++ R89) Φ87 → Calls Tryd.prog
  F.journal_Journal_Get #[Value.pointer p13, Value.int IntKind.i64 3] w88 fun (e90 : Ending) (w91 : World) => ∃ (s92 : ByteArray), e90 = Ending.returned (Value.string s92) ∧ ∃ (R93 : List
  Own), ∃ (Φ94 : PW), Stable Φ94 ∧ Ctx W w91 (R93 ++ R89) Φ94 ∧ ∀ (w95 : World) (R96 : List Own), Ctx W w95 (R93 ++ R96) Φ94 → J (Value.bool (decide (s92 = ByteArray.mk #[]))) w95) (∀ (w97 :
  World) (R98 : List Own), Ctx W w97 (R86 ++ R98) Φ87 → J (Value.bool false) w97)) (∀ (w99 : World) (R100 : List Own), Ctx W w99 (R79 ++ R100) Φ80 → J (Value.bool false) w99)) (∀ (w101 :
  World) (R102 : List Own), Ctx W w101 (R79 ++ R102) Φ80 → J (Value.bool false) w101)) (∀ (w103 : World) (R104 : List Own), Ctx W w103 (R79 ++ R104) Φ80 → J (Value.bool false) w103)) (∀ (w105
  : World) (R106 : List Own), Ctx W w105 (R79 ++ R106) Φ80 → J (Value.bool false) w105)) (∀ (w107 : World) (R108 : List Own), Ctx W w107 (R79 ++ R108) Φ80 → J (Value.bool false) w107)) (∀
  (w109 : World) (R110 : List Own), Ctx W w109 (R79 ++ R110) Φ80 → J (Value.bool false) w109)) (∀ (w111 : World) (R112 : List Own), Ctx W w111 (R79 ++ R112) Φ80 → J (Value.bool false) w111))
  (∀ (w113 : World) (R114 : List Own), Ctx W w113 (R79 ++ R114) Φ80 → J (Value.bool false) w113)))

theorem Berratalaw06_small_run  {W w : World} {R : List Own} {Φ : PW} [Stable Φ] {J : Value → World → Prop} (c : Ctx W w R Φ) (h : Berratalaw06_small  W R Φ J) : Calls Tryd.prog F.erratalaw06_small #[] w fun e w' => ∃ v, e = .returned v ∧ J v w' :=
  vcFS_sound (H := { keep := some [0, 1, 2, 3, 4, 5, 6, 7, 8, 9, 10, 13, 20], split := [14] }) (by rw [show vcFS Tryd.prog W { keep := some [0, 1, 2, 3, 4, 5, 6, 7, 8, 9, 10, 13, 20], split := [14] } F.erratalaw06_small #[] R Φ J = Berratalaw06_small  W R Φ J by kernel_rfl]; exact h) c

/-- disk.New -/
def Bdisk_New  (W : World) (R : List Own) (Φ : PW) (J : Value → World → Prop) : Prop :=
  ∀ (k0 k1 k2 : Nat) (w3 : World) (R4 : List Own), Ctx W w3 (Own.blk k2 [Value.map (some k0), Value.slice none 0 0, Value.map (some k1), Value.int IntKind.i64 0, Value.bool false, Value.int
  IntKind.i64 0, Value.slice none 0 0] 60 :: Own.obj k1 (Obj.map #[] 0) :: Own.obj k0 (Obj.map #[] 0) :: R ++ R4) Φ → J (Value.pointer (some (Addr.mk k2 0 none))) w3

theorem Bdisk_New_run  {W w : World} {R : List Own} {Φ : PW} [Stable Φ] {J : Value → World → Prop} (c : Ctx W w R Φ) (h : Bdisk_New  W R Φ J) : Calls Tryd.prog F.disk_New #[] w fun e w' => ∃ v, e = .returned v ∧ J v w' :=
  vcFS_sound (H := { keep := some [0] }) (by rw [show vcFS Tryd.prog W { keep := some [0] } F.disk_New #[] R Φ J = Bdisk_New  W R Φ J by kernel_rfl]; exact h) c

/-- (*disk.Disk).Write -/
def Bdisk_Disk_Write (dB dO : Nat) (f : Int) (atx : Int) (s : ByteArray) (W : World) (R : List Own) (Φ : PW) (J : Value → World → Prop) : Prop :=
  ∀ (w0 : World) (R1 : List Own), Ctx W w0 (R ++ R1) Φ → Calls Tryd.prog F.disk_Disk_ends #[Value.pointer (some (Addr.mk dB dO none))] w0 fun (e2 : Ending) (w3 : World) => ∃ (c4 : Bool), e2 =
  Ending.returned (Value.bool c4) ∧ ∃ (R5 : List Own), ∃ (Φ6 : PW), Stable Φ6 ∧ Ctx W w3 (R5 ++ R1) Φ6 ∧ ∀ (w7 : World) (R8 : List Own), Ctx W w7 (R5 ++ R8) Φ6 → Calls Tryd.prog
  F.disk_Disk_write #[Value.pointer (some (Addr.mk dB dO none)), Value.int IntKind.i64 f, Value.int IntKind.i64 atx, Value.string s] w7 fun (e9 : Ending) (w10 : World) => ∃ (n11 : Int), e9 =
  Ending.returned (Value.int IntKind.i64 n11) ∧ ∃ (R12 : List Own), ∃ (Φ13 : PW), Stable Φ13 ∧ Ctx W w10 (R12 ++ R8) Φ13 ∧ Br c4 (∀ (w14 : World) (R15 : List Own), Ctx W w14 (R12 ++ R15) Φ13
  → ∃ (p16 : Option Addr), ∃ (k17 : Nat), ∃ (k18 : Nat), w14.cell? (Addr.mk dB (dO + 6) none) = some (Value.slice p16 k17 k18) ∧ ∀ (w19 : World) (R20 : List Own), Ctx W w19 (R12 ++ R20) Φ13 →
  Calls Tryd.prog F.disk_Disk_Crash #[Value.pointer (some (Addr.mk dB dO none)), Value.slice p16 k17 k18] w19 fun (e21 : Ending) (w22 : World) => e21 = Ending.returned (Value.tuple #[]) ∧ ∃
  (R23 : List Own), ∃ (Φ24 : PW), Stable Φ24 ∧ Ctx W w22 (R23 ++ R20) Φ24 ∧ ∀ (w25 : World) (R26 : List Own), Ctx W w25 (R23 ++ R26) Φ24 → J (Value.int IntKind.i64 9) w25) (∀ (w27 : World)
  (R28 : List Own), Ctx W w27 (R12 ++ R28) Φ13 → J (Value.int IntKind.i64 n11) w27)

theorem Bdisk_Disk_Write_run (dB dO : Nat) (f : Int) (atx : Int) (s : ByteArray) {W w : World} {R : List Own} {Φ : PW} [Stable Φ] {J : Value → World → Prop} (c : Ctx W w R Φ) (h : Bdisk_Disk_Write dB dO f atx s W R Φ J) : Calls Tryd.prog F.disk_Disk_Write #[.pointer (some ⟨dB, dO, none⟩), .int .i64 f, .int .i64 atx, .string s] w fun e w' => ∃ v, e = .returned v ∧ J v w' :=
  vcFS_sound (H := { keep := some [0, 1, 2, 3, 8, 9, 10, 18] }) (by rw [show vcFS Tryd.prog W { keep := some [0, 1, 2, 3, 8, 9, 10, 18] } F.disk_Disk_Write #[.pointer (some ⟨dB, dO, none⟩), .int .i64 f, .int .i64 atx, .string s] R Φ J = Bdisk_Disk_Write dB dO f atx s W R Φ J by kernel_rfl]; exact h) c

/-- journal.Open -/
-- loop at region 4: 27 ; blocks 
def Bjournal_Open (dB dO : Nat) (base : Int) (W : World) (R : List Own) (Φ : PW) (J : Value → World → Prop) : Prop :=
  ∀ (w0 : World) (R1 : List Own), Ctx W w0 (R ++ R1) Φ → Br (decide (base < 0) || decide (14 < base)) (∀ (w2 : World) (R3 : List Own), Ctx W w2 (R ++ R3) Φ → J (Value.tuple #[Value.pointer
  none, Value.int IntKind.i64 1]) w2) (I64 (base + 1) ∧ ∀ (k4 : Nat), exI fun (I5 : Int → List Own → PW → Nat → Prop) => (∃ (R6 : List Own), ∃ (Φ7 : PW), ∃ (k8 : Nat), Stable Φ7 ∧ (∀ (w9 :
  World) (R10 : List Own), Ctx W w9 (Own.blk k4 [Value.int IntKind.i64 base, Value.int IntKind.i64 (base + 1)] 3 :: R ++ R10) Φ → Ctx W w9 (R6 ++ R10) Φ7) ∧ I5 0 R6 Φ7 k8) ∧ ∀ (n11 : Int)
  (R12 : List Own) (I13 : List Nat → World → Prop) (k14 : Nat), Stable I13 → I5 n11 R12 I13 k14 → Br (decide (n11 < 2)) ((0 ≤ n11 ∧ n11 < 2) ∧ ∀ (w15 : World) (R16 : List Own), Ctx W w15 (R12
  ++ R16) I13 → ∃ (n17 : Int), w15.cell? (Addr.mk k4 (0 + n11.toNat) none) = some (Value.int IntKind.i64 n17) ∧ ∀ (w18 : World) (R19 : List Own), Ctx W w18 (R12 ++ R19) I13 → Calls Tryd.prog
  F.disk_Disk_Sync #[Value.pointer (some (Addr.mk dB dO none)), Value.int IntKind.i64 n17] w18 fun (e20 : Ending) (w21 : World) => ∃ (n22 : Int), e20 = Ending.returned (Value.int IntKind.i64
  n22) ∧ ∃ (R23 : List Own), ∃ (Φ24 : PW), Stable Φ24 ∧ Ctx W w21 (R23 ++ R19) Φ24 ∧ Br (decide (n22 ≠ 0)) (∀ (w25 : World) (R26 : List Own), Ctx W w25 (R23 ++ R26) Φ24 → J (Value.tuple
  #[Value.pointer none, Value.int IntKind.i64 n22]) w25) (I64 (n11 + 1) ∧ ∃ (R27 : List Own), ∃ (Φ28 : PW), ∃ (k29 : Nat), Stable Φ28 ∧ (∀ (w30 : World) (R31 : List Own), Ctx W w30 (R23 ++
  R31) Φ24 → Ctx W w30 (R27 ++ R31) Φ28) ∧ I5 (n11 + 1) R27 Φ28 k29 ∧ k29 < k14)) (I64 (base + 1) ∧ ∀ (w32 : World) (R33 : List Own), Ctx W w32 (R12 ++ R33) I13 → Calls Tryd.prog F.cell_Open
  #[Value.pointer (some (Addr.mk dB dO none)), Value.int IntKind.i64 (base + 1)] w32 fun (e34 : Ending) (w35 : World) => ∃ (p36 : Option Addr), ∃ (n37 : Int), e34 = Ending.returned
  (Value.tuple #[Value.pointer p36, Value.int IntKind.i64 n37]) ∧ ∃ (R38 : List Own), ∃ (Φ39 : PW), Stable Φ39 ∧ Ctx W w35 (R38 ++ R33) Φ39 ∧ Br (decide (n37 ≠ 0)) (∀ (w40 : World) (R41 :
  List Own), Ctx W w40 (R38 ++ R41) Φ39 → J (Value.tuple #[Value.pointer none, Value.int IntKind.i64 n37]) w40) (∀ (w42 : World) (R43 : List Own), Ctx W w42 (R38 ++ R43) Φ39 → Calls Tryd.prog
  F.journal_numbers #[Value.pointer p36] w42 fun (e44 : Ending) (w45 : World) => ∃ (n46 : Int), ∃ (n47 : Int), ∃ (c48 : Bool), e44 = Ending.returned (Value.tuple #[Value.int IntKind.i64 n46,
  Value.int IntKind.i64 n47, Value.bool c48]) ∧ ∃ (R49 : List Own), ∃ (Φ50 : PW), Stable Φ50 ∧ Ctx W w45 (R49 ++ R43) Φ50 ∧ Br (!c48) (∀ (w51 : World) (R52 : List Own), Ctx W w51 (R49 ++ R52)
  Φ50 → J (Value.tuple #[Value.pointer none, Value.int IntKind.i64 2]) w51) (∀ (w53 : World) (R54 : List Own), Ctx W w53 (R49 ++ R54) Φ50 → Calls Tryd.prog F.disk_Disk_Read #[Value.pointer
  (some (Addr.mk dB dO none)), Value.int IntKind.i64 base, Value.int IntKind.i64 0, Value.int IntKind.i64 n46] w53 fun (e55 : Ending) (w56 : World) => ∃ (s57 : ByteArray), ∃ (n58 : Int), e55
  = Ending.returned (Value.tuple #[Value.string s57, Value.int IntKind.i64 n58]) ∧ ∃ (R59 : List Own), ∃ (Φ60 : PW), Stable Φ60 ∧ Ctx W w56 (R59 ++ R54) Φ60 ∧ Br (decide (n58 ≠ 0)) (∀ (w61 :
  World) (R62 : List Own), Ctx W w61 (R59 ++ R62) Φ60 → J (Value.tuple #[Value.pointer none, Value.int IntKind.i64 n58]) w61) (∀ (w63 : World) (R64 : List Own), Ctx W w63 (R59 ++ R64) Φ60 →
  Calls Tryd.prog F.journal_read #[Value.string s57, Value.int IntKind.i64 n47] w63 fun (e65 : Ending) (w66 : World) => ∃ (p67 : Option Addr), ∃ (k68 : Nat), ∃ (k69 : Nat), ∃ (c70 : Bool),
  e65 = Ending.returned (Value.tuple #[Value.slice p67 k68 k69, Value.bool c70]) ∧ ∃ (R71 : List Own), ∃ (Φ72 : PW), Stable Φ72 ∧ Ctx W w66 (R71 ++ R64) Φ72 ∧ ∀ (w73 : World) (R74 : List
  Own), Ctx W w73 (R71 ++ R74) Φ72 → Br (!c70 || decide ((↑s57.size : Int) ≠ n46)) (∀ (w75 : World) (R76 : List Own), Ctx W w75 (R71 ++ R76) Φ72 → J (Value.tuple #[Value.pointer none,
  Value.int IntKind.i64 2]) w75) (∀ (k77 : Nat) (w78 : World) (R79 : List Own), Ctx W w78 (Own.blk k77 [Value.pointer (some (Addr.mk dB dO none)), Value.int IntKind.i64 base, Value.pointer
  p36, Value.slice p67 k68 k69, Value.int IntKind.i64 n46, Value.bool false] 71 :: R71 ++ R79) Φ72 → J (Value.tuple #[Value.pointer (some (Addr.mk k77 0 none)), Value.int IntKind.i64 0])
  w78))))))

theorem Bjournal_Open_run (dB dO : Nat) (base : Int) {W w : World} {R : List Own} {Φ : PW} [Stable Φ] {J : Value → World → Prop} (c : Ctx W w R Φ) (h : Bjournal_Open dB dO base W R Φ J) : Calls Tryd.prog F.journal_Open #[.pointer (some ⟨dB, dO, none⟩), .int .i64 base] w fun e w' => ∃ v, e = .returned v ∧ J v w' :=
  vcFS_sound (H := { keep := some [0, 1, 4, 5, 7, 8, 9, 10, 11, 12, 13, 14, 15, 21, 25, 26, 27, 28, 35, 46, 55, 64, 79], loops := [(4, [(27, .one (.int .i64))], [])] }) (by rw [show vcFS Tryd.prog W { keep := some [0, 1, 4, 5, 7, 8, 9, 10, 11, 12, 13, 14, 15, 21, 25, 26, 27, 28, 35, 46, 55, 64, 79], loops := [(4, [(27, .one (.int .i64))], [])] } F.journal_Open #[.pointer (some ⟨dB, dO, none⟩), .int .i64 base] R Φ J = Bjournal_Open dB dO base W R Φ J by kernel_rfl]; exact h) c

/-- errataref01.SameTexts -/
-- loop at region 4: 5 i; blocks 
def Berrataref01_SameTexts (aP : Option Addr) (aN aC : Nat) (bP : Option Addr) (bN bC : Nat) (W : World) (R : List Own) (Φ : PW) (J : Value → World → Prop) : Prop :=
  Br (decide ((↑aN : Int) ≠ (↑bN : Int))) (∀ (w0 : World) (R1 : List Own), Ctx W w0 (R ++ R1) Φ → J (Value.bool false) w0) (exI fun (I2 : Int → List Own → PW → Nat → Prop) => (∃ (R3 : List
  Own), ∃ (Φ4 : PW), ∃ (k5 : Nat), Stable Φ4 ∧ (∀ (w6 : World) (R7 : List Own), Ctx W w6 (R ++ R7) Φ → Ctx W w6 (R3 ++ R7) Φ4) ∧ I2 0 R3 Φ4 k5) ∧ ∀ (n8 : Int) (R9 : List Own) (I10 : List Nat
  → World → Prop) (k11 : Nat), Stable I10 → I2 n8 R9 I10 k11 → Br (decide (n8 < (↑aN : Int))) (∀ (w12 : World) (R13 : List Own), Ctx W w12 (R9 ++ R13) I10 → (0 ≤ n8 ∧ n8 < (↑aN : Int)) ∧ ptrK
  none aP fun (k14 k15 : Nat) => ∃ (s16 : ByteArray), w12.cell? (Addr.mk k14 (k15 + n8.toNat) none) = some (Value.string s16) ∧ (0 ≤ n8 ∧ n8 < (↑bN : Int)) ∧ ptrK none bP fun (k17 k18 : Nat)
  => ∃ (s19 : ByteArray), w12.cell? (Addr.mk k17 (k18 + n8.toNat) none) = some (Value.string s19) ∧ Br (decide (s16 ≠ s19)) (∀ (w20 : World) (R21 : List Own), Ctx W w20 (R9 ++ R21) I10 → J
  (Value.bool false) w20) (I64 (n8 + 1) ∧ ∃ (R22 : List Own), ∃ (Φ23 : PW), ∃ (k24 : Nat), Stable Φ23 ∧ (∀ (w25 : World) (R26 : List Own), Ctx W w25 (R9 ++ R26) I10 → Ctx W w25 (R22 ++ R26)
  Φ23) ∧ I2 (n8 + 1) R22 Φ23 k24 ∧ k24 < k11)) (∀ (w27 : World) (R28 : List Own), Ctx W w27 (R9 ++ R28) I10 → J (Value.bool true) w27))

theorem Berrataref01_SameTexts_run (aP : Option Addr) (aN aC : Nat) (bP : Option Addr) (bN bC : Nat) {W w : World} {R : List Own} {Φ : PW} [Stable Φ] {J : Value → World → Prop} (c : Ctx W w R Φ) (h : Berrataref01_SameTexts aP aN aC bP bN bC W R Φ J) : Calls Tryd.prog F.errataref01_SameTexts #[.slice aP aN aC, .slice bP bN bC] w fun e w' => ∃ v, e = .returned v ∧ J v w' :=
  vcFS_sound (H := { keep := some [0, 1, 4, 5, 10, 14, 25], loops := [(4, [(5, .one (.int .i64))], [])] }) (by rw [show vcFS Tryd.prog W { keep := some [0, 1, 4, 5, 10, 14, 25], loops := [(4, [(5, .one (.int .i64))], [])] } F.errataref01_SameTexts #[.slice aP aN aC, .slice bP bN bC] R Φ J = Berrataref01_SameTexts aP aN aC bP bN bC W R Φ J by kernel_rfl]; exact h) c

/-- (*journal.Journal).All -/
def Bjournal_Journal_All (jB jO : Nat) (W : World) (R : List Own) (Φ : PW) (J : Value → World → Prop) : Prop :=
  ∀ (w0 : World) (R1 : List Own), Ctx W w0 (R ++ R1) Φ → ∃ (p2 : Option Addr), ∃ (k3 : Nat), ∃ (k4 : Nat), w0.cell? (Addr.mk jB (jO + 3) none) = some (Value.slice p2 k3 k4) ∧ (0 ≤ (↑k3 : Int)
  ∧ (↑k3 : Int) ≤ (↑k3 : Int) ∧ 16 * (↑k3 : Int) ≤ 281474976710656 ∧ (↑k3 : Int) ≤ 9223372036854775807) ∧ ∀ (k5 : Nat) (w6 : World) (R7 : List Own), Ctx W w6 (Own.blk k5 (List.replicate (↑k3
  : Int).toNat (Value.string (ByteArray.mk #[]))) 9 :: R ++ R7) Φ → ∃ (p8 : Option Addr), ∃ (k9 : Nat), ∃ (k10 : Nat), w6.cell? (Addr.mk jB (jO + 3) none) = some (Value.slice p8 k9 k10) ∧ ∀
  (w11 : World) (R12 : List Own), Ctx W w11 (Own.blk k5 (List.replicate (↑k3 : Int).toNat (Value.string (ByteArray.mk #[]))) 9 :: R ++ R12) Φ → ∃ (n13 : Int), ∃ (w14 : World), Sem.run
  Tryd.prog (builtin Builtin.copy #[36, 36] 3 #[false, false] #[Value.slice (some (Addr.mk k5 0 none)) (↑k3 : Int).toNat (↑k3 : Int).toNat, Value.slice p8 k9 k10]) w11 = Result.ok (Next.value
  (Value.int IntKind.i64 n13)) w14 ∧ ∃ (R15 : List Own), ∃ (Φ16 : PW), Stable Φ16 ∧ Ctx W w14 (R15 ++ R12) Φ16 ∧ ∀ (w17 : World) (R18 : List Own), Ctx W w17 (R15 ++ R18) Φ16 → J (Value.slice
  (some (Addr.mk k5 0 none)) (↑k3 : Int).toNat (↑k3 : Int).toNat) w17

theorem Bjournal_Journal_All_run (jB jO : Nat) {W w : World} {R : List Own} {Φ : PW} [Stable Φ] {J : Value → World → Prop} (c : Ctx W w R Φ) (h : Bjournal_Journal_All jB jO W R Φ J) : Calls Tryd.prog F.journal_Journal_All #[.pointer (some ⟨jB, jO, none⟩)] w fun e w' => ∃ v, e = .returned v ∧ J v w' :=
  vcFS_sound (H := { keep := some [0, 2, 3] }) (by rw [show vcFS Tryd.prog W { keep := some [0, 2, 3] } F.journal_Journal_All #[.pointer (some ⟨jB, jO, none⟩)] R Φ J = Bjournal_Journal_All jB jO W R Φ J by kernel_rfl]; exact h) c

/-- erratalaw06.texts -/
-- loop at region 2: 3 i; blocks 
def Berratalaw06_texts (lP : Option Addr) (lN lC : Nat) (W : World) (R : List Own) (Φ : PW) (J : Value → World → Prop) : Prop :=
  exI fun (I0 : Int → List Own → PW → Nat → Prop) => (∃ (R1 : List Own), ∃ (Φ2 : PW), ∃ (k3 : Nat), Stable Φ2 ∧ (∀ (w4 : World) (R5 : List Own), Ctx W w4 (R ++ R5) Φ → Ctx W w4 (R1 ++ R5) Φ2)
  ∧ I0 0 R1 Φ2 k3) ∧ ∀ (n6 : Int) (R7 : List Own) (I8 : List Nat → World → Prop) (k9 : Nat), Stable I8 → I0 n6 R7 I8 k9 → Br (decide (n6 < (↑lN : Int))) ((0 ≤ n6 ∧ n6 < (↑lN : Int)) ∧ ptrK
  none lP fun (k10 k11 : Nat) => ∀ (w12 : World) (R13 : List Own), Ctx W w12 (R7 ++ R13) I8 → ∃ (s14 : ByteArray), w12.cell? (Addr.mk k10 (k11 + n6.toNat) none) = some (Value.string s14) ∧ Br
  (decide (200 < (↑s14.size : Int))) (∀ (w15 : World) (R16 : List Own), Ctx W w15 (R7 ++ R16) I8 → J (Value.bool false) w15) (I64 (n6 + 1) ∧ ∃ (R17 : List Own), ∃ (Φ18 : PW), ∃ (k19 : Nat),
  Stable Φ18 ∧ (∀ (w20 : World) (R21 : List Own), Ctx W w20 (R7 ++ R21) I8 → Ctx W w20 (R17 ++ R21) Φ18) ∧ I0 (n6 + 1) R17 Φ18 k19 ∧ k19 < k9)) (∀ (w22 : World) (R23 : List Own), Ctx W w22
  (R7 ++ R23) I8 → J (Value.bool (decide ((↑lN : Int) ≤ 8))) w22)

theorem Berratalaw06_texts_run (lP : Option Addr) (lN lC : Nat) {W w : World} {R : List Own} {Φ : PW} [Stable Φ] {J : Value → World → Prop} (c : Ctx W w R Φ) (h : Berratalaw06_texts lP lN lC W R Φ J) : Calls Tryd.prog F.erratalaw06_texts #[.slice lP lN lC] w fun e w' => ∃ v, e = .returned v ∧ J v w' :=
  vcFS_sound (H := { keep := some [0, 2, 3, 7, 15], loops := [(2, [(3, .one (.int .i64))], [])] }) (by rw [show vcFS Tryd.prog W { keep := some [0, 2, 3, 7, 15], loops := [(2, [(3, .one (.int .i64))], [])] } F.erratalaw06_texts #[.slice lP lN lC] R Φ J = Berratalaw06_texts lP lN lC W R Φ J by kernel_rfl]; exact h) c

/-- (*journal.Journal).Append -/
-- cut 11: 6 e; blocks 
def Bjournal_Journal_Append (jB jO : Nat) (lP : Option Addr) (lN lC : Nat) (W : World) (R : List Own) (Φ : PW) (J : Value → World → Prop) : Prop :=
  ∀ (w0 : World) (R1 : List Own), Ctx W w0 (R ++ R1) Φ → Calls Tryd.prog F.journal_form #[Value.slice lP lN lC] w0 fun (e2 : Ending) (w3 : World) => ∃ (s4 : ByteArray), e2 = Ending.returned
  (Value.string s4) ∧ ∃ (R5 : List Own), ∃ (Φ6 : PW), Stable Φ6 ∧ Ctx W w3 (R5 ++ R1) Φ6 ∧ ∀ (w7 : World) (R8 : List Own), Ctx W w7 (R5 ++ R8) Φ6 → ∃ (c9 : Bool), w7.cell? (Addr.mk jB (jO +
  5) none) = some (Value.bool c9) ∧ Br c9 (∀ (w10 : World) (R11 : List Own), Ctx W w10 (R5 ++ R11) Φ6 → J (Value.int IntKind.i64 7) w10) (Br (decide ((↑lN : Int) = 0)) (∀ (w12 : World) (R13 :
  List Own), Ctx W w12 (R5 ++ R13) Φ6 → J (Value.int IntKind.i64 0) w12) (∀ (w14 : World) (R15 : List Own), Ctx W w14 (R5 ++ R15) Φ6 → ∃ (n16 : Int), w14.cell? (Addr.mk jB (jO + 4) none) =
  some (Value.int IntKind.i64 n16) ∧ I64 (n16 + (↑s4.size : Int)) ∧ Br (decide (1048576 < n16 + (↑s4.size : Int))) (∀ (w17 : World) (R18 : List Own), Ctx W w17 (R5 ++ R18) Φ6 → J (Value.int
  IntKind.i64 6) w17) (∃ (R19 : List Own), ∃ (Φ20 : PW), Stable Φ20 ∧ (∀ (w21 : World) (R22 : List Own), Ctx W w21 (R5 ++ R22) Φ6 → Ctx W w21 (R19 ++ R22) Φ20) ∧ ∃ (p23 : Option Addr), (∀
  (w24 : World) (R25 : List Own), Ctx W w24 (R19 ++ R25) Φ20 → ∃ (p26 : Option Addr), w24.cell? (Addr.mk jB jO none) = some (Value.pointer p26) ∧ Value.pointer p26 = Value.pointer p23) ∧ ∃
  (n27 : Int), (∀ (w28 : World) (R29 : List Own), Ctx W w28 (R19 ++ R29) Φ20 → ∃ (n30 : Int), w28.cell? (Addr.mk jB (jO + 1) none) = some (Value.int IntKind.i64 n30) ∧ Value.int IntKind.i64
  n30 = Value.int IntKind.i64 n27) ∧ ∃ (n31 : Int), (∀ (w32 : World) (R33 : List Own), Ctx W w32 (R19 ++ R33) Φ20 → ∃ (n34 : Int), w32.cell? (Addr.mk jB (jO + 4) none) = some (Value.int
  IntKind.i64 n34) ∧ Value.int IntKind.i64 n34 = Value.int IntKind.i64 n31) ∧ ∀ (w35 : World) (R36 : List Own), Ctx W w35 (R5 ++ R36) Φ6 → Calls Tryd.prog F.disk_Disk_Write #[Value.pointer
  p23, Value.int IntKind.i64 n27, Value.int IntKind.i64 n31, Value.string s4] w35 fun (e37 : Ending) (w38 : World) => ∃ (n39 : Int), e37 = Ending.returned (Value.int IntKind.i64 n39) ∧ ∃ (R40
  : List Own), ∃ (Φ41 : PW), Stable Φ41 ∧ Ctx W w38 (R40 ++ R36) Φ41 ∧ exI fun (I42 : Int → List Own → PW → Prop) => Br (decide (n39 = 0)) (∃ (R43 : List Own), ∃ (Φ44 : PW), Stable Φ44 ∧ (∀
  (w45 : World) (R46 : List Own), Ctx W w45 (R40 ++ R46) Φ41 → Ctx W w45 (R43 ++ R46) Φ44) ∧ ∃ (p47 : Option Addr), (∀ (w48 : World) (R49 : List Own), Ctx W w48 (R43 ++ R49) Φ44 → ∃ (p50 :
  Option Addr), w48.cell? (Addr.mk jB jO none) = some (Value.pointer p50) ∧ Value.pointer p50 = Value.pointer p47) ∧ ∃ (n51 : Int), (∀ (w52 : World) (R53 : List Own), Ctx W w52 (R43 ++ R53)
  Φ44 → ∃ (n54 : Int), w52.cell? (Addr.mk jB (jO + 1) none) = some (Value.int IntKind.i64 n54) ∧ Value.int IntKind.i64 n54 = Value.int IntKind.i64 n51) ∧ ∀ (w55 : World) (R56 : List Own), Ctx
  W w55 (R40 ++ R56) Φ41 → Calls Tryd.prog F.disk_Disk_Sync #[Value.pointer p47, Value.int IntKind.i64 n51] w55 fun (e57 : Ending) (w58 : World) => ∃ (n59 : Int), e57 = Ending.returned
  (Value.int IntKind.i64 n59) ∧ ∃ (R60 : List Own), ∃ (Φ61 : PW), Stable Φ61 ∧ Ctx W w58 (R60 ++ R56) Φ61 ∧ ∃ (R62 : List Own), ∃ (Φ63 : PW), Stable Φ63 ∧ (∀ (w64 : World) (R65 : List Own),
  Ctx W w64 (R60 ++ R65) Φ61 → Ctx W w64 (R62 ++ R65) Φ63) ∧ I42 n59 R62 Φ63) (∃ (R66 : List Own), ∃ (Φ67 : PW), Stable Φ67 ∧ (∀ (w68 : World) (R69 : List Own), Ctx W w68 (R40 ++ R69) Φ41 →
  Ctx W w68 (R66 ++ R69) Φ67) ∧ I42 n39 R66 Φ67) ∧ ∀ (n70 : Int) (R71 : List Own) (I72 : List Nat → World → Prop), Stable I72 → I42 n70 R71 I72 → Br (decide (n70 ≠ 0)) (∀ (w73 : World) (R74 :
  List Own), Ctx W w73 (R71 ++ R74) I72 → CanWrite w73 jB (jO + 5) 1 ∧ ∀ (w75 : World), w75 = w73.setCell (Addr.mk jB (jO + 5) none) (Value.bool true) → ∃ (R76 : List Own), ∃ (Φ77 : PW),
  Stable Φ77 ∧ Ctx W w75 (R76 ++ R74) Φ77 ∧ ∀ (w78 : World) (R79 : List Own), Ctx W w78 (R76 ++ R79) Φ77 → J (Value.int IntKind.i64 n70) w78) (∃ (R80 : List Own), ∃ (Φ81 : PW), Stable Φ81 ∧
  (∀ (w82 : World) (R83 : List Own), Ctx W w82 (R71 ++ R83) I72 → Ctx W w82 (R80 ++ R83) Φ81) ∧ ∃ (n84 : Int), (∀ (w85 : World) (R86 : List Own), Ctx W w85 (R80 ++ R86) Φ81 → ∃ (n87 : Int),
  w85.cell? (Addr.mk jB (jO + 4) none) = some (Value.int IntKind.i64 n87) ∧ Value.int IntKind.i64 n87 = Value.int IntKind.i64 n84) ∧ ∃ (p88 : Option Addr), ∃ (k89 : Nat), ∃ (k90 : Nat), (∀
  (w91 : World) (R92 : List Own), Ctx W w91 (R80 ++ R92) Φ81 → ∃ (p93 : Option Addr), ∃ (k94 : Nat), ∃ (k95 : Nat), w91.cell? (Addr.mk jB (jO + 3) none) = some (Value.slice p93 k94 k95) ∧
  Value.slice p93 k94 k95 = Value.slice p88 k89 k90) ∧ I64 (n84 + (↑s4.size : Int)) ∧ I64 ((↑k89 : Int) + (↑lN : Int)) ∧ ∀ (w96 : World) (R97 : List Own), Ctx W w96 (R71 ++ R97) I72 → Calls
  Tryd.prog F.journal_Journal_note #[Value.pointer (some (Addr.mk jB jO none)), Value.int IntKind.i64 (n84 + (↑s4.size : Int)), Value.int IntKind.i64 ((↑k89 : Int) + (↑lN : Int))] w96 fun
  (e98 : Ending) (w99 : World) => ∃ (n100 : Int), e98 = Ending.returned (Value.int IntKind.i64 n100) ∧ ∃ (R101 : List Own), ∃ (Φ102 : PW), Stable Φ102 ∧ Ctx W w99 (R101 ++ R97) Φ102 ∧ Br
  (decide (n100 ≠ 0)) (∀ (w103 : World) (R104 : List Own), Ctx W w103 (R101 ++ R104) Φ102 → J (Value.int IntKind.i64 n100) w103) (∃ (R105 : List Own), ∃ (Φ106 : PW), Stable Φ106 ∧ (∀ (w107 :
  World) (R108 : List Own), Ctx W w107 (R101 ++ R108) Φ102 → Ctx W w107 (R105 ++ R108) Φ106) ∧ ∃ (R109 : List Own), ∃ (Φ110 : PW), Stable Φ110 ∧ (∀ (w111 : World) (R112 : List Own), Ctx W
  w111 (R101 ++ R112) Φ102 → Ctx W w111 (R109 ++ R112) Φ110) ∧ ∀ (w113 : World) (R114 : List Own), Ctx W w113 (R101 ++ R114) Φ102 → ∃ (p115 : Option Addr), ∃ (k116 : Nat), ∃ (k117 : Nat),
  w113.cell? (Addr.mk jB (jO + 3) none) = some (Value.slice p115 k116 k117) ∧ ∃ (n118 : Int), (∀ (w119 : World) (R120 : List Own), Ctx W w119 (R109 ++ R120) Φ110 → ∃ (n121 : Int), w119.cell?
  (Addr.mk jB (jO + 4) none) = some (Value.int IntKind.i64 n121) ∧ Value.int IntKind.i64 n121 = Value.int IntKind.i64 n118) ∧ I64 (n118 + (↑s4.size : Int)) ∧ ∀ (w122 : World) (R123 : List
  Own), Ctx W w122 (R101 ++ R123) Φ102 → ∃ (p124 : Option Addr), ∃ (k125 : Nat), ∃ (k126 : Nat), ∃ (w127 : World), Sem.run Tryd.prog (builtin Builtin.append #[36, 36] 36 #[false, false]
  #[Value.slice p115 k116 k117, Value.slice lP lN lC]) w122 = Result.ok (Next.value (Value.slice p124 k125 k126)) w127 ∧ ∃ (R128 : List Own), ∃ (Φ129 : PW), Stable Φ129 ∧ Ctx W w127 (R128 ++
  R123) Φ129 ∧ (∀ (w130 : World) (R131 : List Own), Ctx W w130 (R128 ++ R131) Φ129 → Ctx W w130 (R105 ++ R131) Φ106) ∧ (∀ (w132 : World) (R133 : List Own), Ctx W w132 (R128 ++ R133) Φ129 →
  Ctx W w132 (R109 ++ R133) Φ110) ∧ ∀ (w134 : World) (R135 : List Own), Ctx W w134 (R128 ++ R135) Φ129 → CanWrite w134 jB (jO + 3) 1 ∧ ∀ (w136 : World), w136 = w134.setCell (Addr.mk jB (jO +
  3) none) (Value.slice p124 k125 k126) → ∃ (R137 : List Own), ∃ (Φ138 : PW), Stable Φ138 ∧ Ctx W w136 (R137 ++ R135) Φ138 ∧ (∀ (w139 : World) (R140 : List Own), Ctx W w139 (R137 ++ R140)
  Φ138 → Ctx W w139 (R105 ++ R140) Φ106) ∧ True ∧ ∀ (w141 : World) (R142 : List Own), Ctx W w141 (R137 ++ R142) Φ138 → CanWrite w141 jB (jO + 4) 1 ∧ ∀ (w143 : World), w143 = w141.setCell
  (Addr.mk jB (jO + 4) none) (Value.int IntKind.i64 (n118 + (↑s4.size : Int))) → ∃ (R144 : List Own), ∃ (Φ145 : PW), Stable Φ145 ∧ Ctx W w143 (R144 ++ R142) Φ145 ∧ (∀ (w146 : World) (R147 :
  List Own), Ctx W w146 (R144 ++ R147) Φ145 → Ctx W w146 (R105 ++ R147) Φ106) ∧ True ∧ ∀ (w148 : World) (R149 : List Own), Ctx W w148 (R144 ++ R149) Φ145 → J (Value.int IntKind.i64 0)
  w148)))))

theorem Bjournal_Journal_Append_run (jB jO : Nat) (lP : Option Addr) (lN lC : Nat) {W w : World} {R : List Own} {Φ : PW} [Stable Φ] {J : Value → World → Prop} (c : Ctx W w R Φ) (h : Bjournal_Journal_Append jB jO lP lN lC W R Φ J) : Calls Tryd.prog F.journal_Journal_Append #[.pointer (some ⟨jB, jO, none⟩), .slice lP lN lC] w fun e w' => ∃ v, e = .returned v ∧ J v w' :=
  vcFS_sound (H := { keep := some [0, 1, 4, 5, 6, 7, 10, 15, 19, 43, 54, 77], stages := [(8, [.held [(0, true), (4, true), (8, true), (12, true), (1, true), (5, true), (9, true), (2, true), (6, true), (10, true), (3, true), (7, true), (11, true)], .stage [] (some 13), .stage [14] none]), (10, [.held [(0, true), (4, true), (1, true), (5, true), (2, true), (6, true), (3, true), (7, true)], .stage [] (some 8), .stage [9] none]), (14, [.held [(0, true), (1, true), (5, true), (8, true), (13, true), (2, true), (6, true), (9, true), (14, true), (3, true), (10, true), (4, true), (11, true), (7, true), (12, true), (15, true)], .stage [] (some 16), .stage [17] none]), (17, [.late2 [11] 17 [6, 5] [0, 1, 2, 6, 8, 12, 3, 9, 13, 4, 10, 5, 11, 14] [(7, [15, 16]), (17, [18, 19]), (20, [])]])], cuts := [(11, [(6, .one (.int .i64))], [])] }) (by rw [show vcFS Tryd.prog W { keep := some [0, 1, 4, 5, 6, 7, 10, 15, 19, 43, 54, 77], stages := [(8, [.held [(0, true), (4, true), (8, true), (12, true), (1, true), (5, true), (9, true), (2, true), (6, true), (10, true), (3, true), (7, true), (11, true)], .stage [] (some 13), .stage [14] none]), (10, [.held [(0, true), (4, true), (1, true), (5, true), (2, true), (6, true), (3, true), (7, true)], .stage [] (some 8), .stage [9] none]), (14, [.held [(0, true), (1, true), (5, true), (8, true), (13, true), (2, true), (6, true), (9, true), (14, true), (3, true), (10, true), (4, true), (11, true), (7, true), (12, true), (15, true)], .stage [] (some 16), .stage [17] none]), (17, [.late2 [11] 17 [6, 5] [0, 1, 2, 6, 8, 12, 3, 9, 13, 4, 10, 5, 11, 14] [(7, [15, 16]), (17, [18, 19]), (20, [])]])], cuts := [(11, [(6, .one (.int .i64))], [])] } F.journal_Journal_Append #[.pointer (some ⟨jB, jO, none⟩), .slice lP lN lC] R Φ J = Bjournal_Journal_Append jB jO lP lN lC W R Φ J by kernel_rfl]; exact h) c

/-- (*journal.Journal).Cut -/
def Bjournal_Journal_Cut (jB jO : Nat) (n : Int) (W : World) (R : List Own) (Φ : PW) (J : Value → World → Prop) : Prop :=
  ∀ (w0 : World) (R1 : List Own), Ctx W w0 (R ++ R1) Φ → ∃ (c2 : Bool), w0.cell? (Addr.mk jB (jO + 5) none) = some (Value.bool c2) ∧ Br c2 (∀ (w3 : World) (R4 : List Own), Ctx W w3 (R ++ R4)
  Φ → J (Value.int IntKind.i64 7) w3) (∀ (w5 : World) (R6 : List Own), Ctx W w5 (R ++ R6) Φ → ∃ (p7 : Option Addr), ∃ (k8 : Nat), ∃ (k9 : Nat), ((!decide (n < 0)) = true → w5.cell? (Addr.mk
  jB (jO + 3) none) = some (Value.slice p7 k8 k9)) ∧ Br (decide (n < 0) || decide ((↑k8 : Int) < n)) (∀ (w10 : World) (R11 : List Own), Ctx W w10 (R ++ R11) Φ → J (Value.int IntKind.i64 1)
  w10) (∀ (w12 : World) (R13 : List Own), Ctx W w12 (R ++ R13) Φ → ∃ (p14 : Option Addr), ∃ (k15 : Nat), ∃ (k16 : Nat), w12.cell? (Addr.mk jB (jO + 3) none) = some (Value.slice p14 k15 k16) ∧
  Br (decide (n = (↑k15 : Int))) (∀ (w17 : World) (R18 : List Own), Ctx W w17 (R ++ R18) Φ → J (Value.int IntKind.i64 0) w17) (∀ (w19 : World) (R20 : List Own), Ctx W w19 (R ++ R20) Φ → ∃
  (p21 : Option Addr), ∃ (k22 : Nat), ∃ (k23 : Nat), w19.cell? (Addr.mk jB (jO + 3) none) = some (Value.slice p21 k22 k23) ∧ (0 ≤ n ∧ n ≤ (↑k23 : Int)) ∧ ∀ (w24 : World) (R25 : List Own), Ctx
  W w24 (R ++ R25) Φ → Calls Tryd.prog F.journal_form #[Value.slice (subPtr p21 1 0 k23) n.toNat k23] w24 fun (e26 : Ending) (w27 : World) => ∃ (s28 : ByteArray), e26 = Ending.returned
  (Value.string s28) ∧ ∃ (R29 : List Own), ∃ (Φ30 : PW), Stable Φ30 ∧ Ctx W w27 (R29 ++ R25) Φ30 ∧ ∀ (w31 : World) (R32 : List Own), Ctx W w31 (R29 ++ R32) Φ30 → Calls Tryd.prog
  F.journal_Journal_note #[Value.pointer (some (Addr.mk jB jO none)), Value.int IntKind.i64 (↑s28.size : Int), Value.int IntKind.i64 n] w31 fun (e33 : Ending) (w34 : World) => ∃ (n35 : Int),
  e33 = Ending.returned (Value.int IntKind.i64 n35) ∧ ∃ (R36 : List Own), ∃ (Φ37 : PW), Stable Φ37 ∧ Ctx W w34 (R36 ++ R32) Φ37 ∧ Br (decide (n35 ≠ 0)) (∀ (w38 : World) (R39 : List Own), Ctx
  W w38 (R36 ++ R39) Φ37 → J (Value.int IntKind.i64 n35) w38) (∀ (w40 : World) (R41 : List Own), Ctx W w40 (R36 ++ R41) Φ37 → ∃ (p42 : Option Addr), ∃ (k43 : Nat), ∃ (k44 : Nat), w40.cell?
  (Addr.mk jB (jO + 3) none) = some (Value.slice p42 k43 k44) ∧ (0 ≤ n ∧ n ≤ n ∧ n ≤ (↑k44 : Int)) ∧ ∀ (w45 : World) (R46 : List Own), Ctx W w45 (R36 ++ R46) Φ37 → CanWrite w45 jB (jO + 3) 1
  ∧ ∀ (w47 : World), w47 = w45.setCell (Addr.mk jB (jO + 3) none) (Value.slice (subPtr p42 1 0 n.toNat) n.toNat n.toNat) → ∃ (R48 : List Own), ∃ (Φ49 : PW), Stable Φ49 ∧ Ctx W w47 (R48 ++
  R46) Φ49 ∧ ∀ (w50 : World) (R51 : List Own), Ctx W w50 (R48 ++ R51) Φ49 → CanWrite w50 jB (jO + 4) 1 ∧ ∀ (w52 : World), w52 = w50.setCell (Addr.mk jB (jO + 4) none) (Value.int IntKind.i64
  (↑s28.size : Int)) → ∃ (R53 : List Own), ∃ (Φ54 : PW), Stable Φ54 ∧ Ctx W w52 (R53 ++ R51) Φ54 ∧ ∀ (w55 : World) (R56 : List Own), Ctx W w55 (R53 ++ R56) Φ54 → J (Value.int IntKind.i64 0)
  w55))))

theorem Bjournal_Journal_Cut_run (jB jO : Nat) (n : Int) {W w : World} {R : List Own} {Φ : PW} [Stable Φ] {J : Value → World → Prop} (c : Ctx W w R Φ) (h : Bjournal_Journal_Cut jB jO n W R Φ J) : Calls Tryd.prog F.journal_Journal_Cut #[.pointer (some ⟨jB, jO, none⟩), .int .i64 n] w fun e w' => ∃ v, e = .returned v ∧ J v w' :=
  vcFS_sound (H := { keep := some [0, 1, 4, 5, 6, 7, 12, 24, 45] }) (by rw [show vcFS Tryd.prog W { keep := some [0, 1, 4, 5, 6, 7, 12, 24, 45] } F.journal_Journal_Cut #[.pointer (some ⟨jB, jO, none⟩), .int .i64 n] R Φ J = Bjournal_Journal_Cut jB jO n W R Φ J by kernel_rfl]; exact h) c

/-- (*journal.Journal).Get -/
def Bjournal_Journal_Get (jB jO : Nat) (i : Int) (W : World) (R : List Own) (Φ : PW) (J : Value → World → Prop) : Prop :=
  ∀ (w0 : World) (R1 : List Own), Ctx W w0 (R ++ R1) Φ → ∃ (p2 : Option Addr), ∃ (k3 : Nat), ∃ (k4 : Nat), ((!decide (i < 0)) = true → w0.cell? (Addr.mk jB (jO + 3) none) = some (Value.slice
  p2 k3 k4)) ∧ Br (decide (i < 0) || decide ((↑k3 : Int) ≤ i)) (∀ (w5 : World) (R6 : List Own), Ctx W w5 (R ++ R6) Φ → J (Value.string (ByteArray.mk #[])) w5) (∀ (w7 : World) (R8 : List Own),
  Ctx W w7 (R ++ R8) Φ → ∃ (p9 : Option Addr), ∃ (k10 : Nat), ∃ (k11 : Nat), w7.cell? (Addr.mk jB (jO + 3) none) = some (Value.slice p9 k10 k11) ∧ (0 ≤ i ∧ i < (↑k10 : Int)) ∧ ptrK none p9
  fun (k12 k13 : Nat) => ∀ (w14 : World) (R15 : List Own), Ctx W w14 (R ++ R15) Φ → ∃ (s16 : ByteArray), w14.cell? (Addr.mk k12 (k13 + i.toNat) none) = some (Value.string s16) ∧ ∀ (w17 :
  World) (R18 : List Own), Ctx W w17 (R ++ R18) Φ → J (Value.string s16) w17)

theorem Bjournal_Journal_Get_run (jB jO : Nat) (i : Int) {W w : World} {R : List Own} {Φ : PW} [Stable Φ] {J : Value → World → Prop} (c : Ctx W w R Φ) (h : Bjournal_Journal_Get jB jO i W R Φ J) : Calls Tryd.prog F.journal_Journal_Get #[.pointer (some ⟨jB, jO, none⟩), .int .i64 i] w fun e w' => ∃ v, e = .returned v ∧ J v w' :=
  vcFS_sound (H := { keep := some [0, 1, 4, 15] }) (by rw [show vcFS Tryd.prog W { keep := some [0, 1, 4, 15] } F.journal_Journal_Get #[.pointer (some ⟨jB, jO, none⟩), .int .i64 i] R Φ J = Bjournal_Journal_Get jB jO i W R Φ J by kernel_rfl]; exact h) c

/-- erratalaw06.few -/
-- loop at region 2: 3 i; blocks 
def Berratalaw06_few (lP : Option Addr) (lN lC : Nat) (W : World) (R : List Own) (Φ : PW) (J : Value → World → Prop) : Prop :=
  exI fun (I0 : Int → List Own → PW → Nat → Prop) => (∃ (R1 : List Own), ∃ (Φ2 : PW), ∃ (k3 : Nat), Stable Φ2 ∧ (∀ (w4 : World) (R5 : List Own), Ctx W w4 (R ++ R5) Φ → Ctx W w4 (R1 ++ R5) Φ2)
  ∧ I0 0 R1 Φ2 k3) ∧ ∀ (n6 : Int) (R7 : List Own) (I8 : List Nat → World → Prop) (k9 : Nat), Stable I8 → I0 n6 R7 I8 k9 → Br (decide (n6 < (↑lN : Int))) ((0 ≤ n6 ∧ n6 < (↑lN : Int)) ∧ ptrK
  none lP fun (k10 k11 : Nat) => ∀ (w12 : World) (R13 : List Own), Ctx W w12 (R7 ++ R13) I8 → ∃ (p14 : Option Addr), ∃ (k15 : Nat), ∃ (k16 : Nat), w12.cell? (Addr.mk k10 (k11 + n6.toNat * 4 +
  1) none) = some (Value.slice p14 k15 k16) ∧ ∀ (w17 : World) (R18 : List Own), Ctx W w17 (R7 ++ R18) I8 → Calls Tryd.prog F.erratalaw06_texts #[Value.slice p14 k15 k16] w17 fun (e19 :
  Ending) (w20 : World) => ∃ (c21 : Bool), e19 = Ending.returned (Value.bool c21) ∧ ∃ (R22 : List Own), ∃ (Φ23 : PW), Stable Φ23 ∧ Ctx W w20 (R22 ++ R18) Φ23 ∧ Br (!c21) (∀ (w24 : World) (R25
  : List Own), Ctx W w24 (R22 ++ R25) Φ23 → J (Value.bool false) w24) ((0 ≤ n6 ∧ n6 < (↑lN : Int)) ∧ ptrK none lP fun (k26 k27 : Nat) => ∀ (w28 : World) (R29 : List Own), Ctx W w28 (R22 ++
  R29) Φ23 → ∃ (p30 : Option Addr), ∃ (k31 : Nat), ∃ (k32 : Nat), w28.cell? (Addr.mk k26 (k27 + n6.toNat * 4 + 3) none) = some (Value.slice p30 k31 k32) ∧ Br (decide (50 < (↑k31 : Int))) (∀
  (w33 : World) (R34 : List Own), Ctx W w33 (R22 ++ R34) Φ23 → J (Value.bool false) w33) (I64 (n6 + 1) ∧ ∃ (R35 : List Own), ∃ (Φ36 : PW), ∃ (k37 : Nat), Stable Φ36 ∧ (∀ (w38 : World) (R39 :
  List Own), Ctx W w38 (R22 ++ R39) Φ23 → Ctx W w38 (R35 ++ R39) Φ36) ∧ I0 (n6 + 1) R35 Φ36 k37 ∧ k37 < k9))) (∀ (w40 : World) (R41 : List Own), Ctx W w40 (R7 ++ R41) I8 → J (Value.bool
  (decide ((↑lN : Int) ≤ 25))) w40)

theorem Berratalaw06_few_run (lP : Option Addr) (lN lC : Nat) {W w : World} {R : List Own} {Φ : PW} [Stable Φ] {J : Value → World → Prop} (c : Ctx W w R Φ) (h : Berratalaw06_few lP lN lC W R Φ J) : Calls Tryd.prog F.erratalaw06_few #[.slice lP lN lC] w fun e w' => ∃ v, e = .returned v ∧ J v w' :=
  vcFS_sound (H := { keep := some [0, 2, 3, 7, 25], split := [4], loops := [(2, [(3, .one (.int .i64))], [])] }) (by rw [show vcFS Tryd.prog W { keep := some [0, 2, 3, 7, 25], split := [4], loops := [(2, [(3, .one (.int .i64))], [])] } F.erratalaw06_few #[.slice lP lN lC] R Φ J = Berratalaw06_few lP lN lC W R Φ J by kernel_rfl]; exact h) c

/-- (*disk.Disk).Lose -/
def Bdisk_Disk_Lose (dB dO : Nat) (n : Int) (W : World) (R : List Own) (Φ : PW) (J : Value → World → Prop) : Prop :=
  ∀ (w0 : World) (R1 : List Own), Ctx W w0 (R ++ R1) Φ → CanWrite w0 dB (dO + 3) 1 ∧ ∀ (w2 : World), w2 = w0.setCell (Addr.mk dB (dO + 3) none) (Value.int IntKind.i64 (max n 0)) → ∃ (R3 :
  List Own), ∃ (Φ4 : PW), Stable Φ4 ∧ Ctx W w2 (R3 ++ R1) Φ4 ∧ ∀ (w5 : World) (R6 : List Own), Ctx W w5 (R3 ++ R6) Φ4 → J (Value.tuple #[]) w5

theorem Bdisk_Disk_Lose_run (dB dO : Nat) (n : Int) {W w : World} {R : List Own} {Φ : PW} [Stable Φ] {J : Value → World → Prop} (c : Ctx W w R Φ) (h : Bdisk_Disk_Lose dB dO n W R Φ J) : Calls Tryd.prog F.disk_Disk_Lose #[.pointer (some ⟨dB, dO, none⟩), .int .i64 n] w fun e w' => ∃ v, e = .returned v ∧ J v w' :=
  vcFS_sound (H := { keep := some [] }) (by rw [show vcFS Tryd.prog W { keep := some [] } F.disk_Disk_Lose #[.pointer (some ⟨dB, dO, none⟩), .int .i64 n] R Φ J = Bdisk_Disk_Lose dB dO n W R Φ J by kernel_rfl]; exact h) c

/-- (*disk.Disk).Crash -/
-- loop at region 11: ; blocks 
-- loop at region 3: 25 ; blocks 
-- known blocks: 5 p, 6 f, 9 f
def Bdisk_Disk_Crash (dB dO : Nat) (keepP : Option Addr) (keepN keepC : Nat) (W : World) (R : List Own) (Φ : PW) (J : Value → World → Prop) : Prop :=
  ∀ (w0 : World) (R1 : List Own), Ctx W w0 (R ++ R1) Φ → ∃ (c2 : Bool), w0.cell? (Addr.mk dB (dO + 4) none) = some (Value.bool c2) ∧ Br c2 (∀ (w3 : World) (R4 : List Own), Ctx W w3 (R ++ R4)
  Φ → J (Value.tuple #[]) w3) (∀ (w5 : World) (R6 : List Own), Ctx W w5 (R ++ R6) Φ → CanWrite w5 dB (dO + 4) 1 ∧ ∀ (w7 : World), w7 = w5.setCell (Addr.mk dB (dO + 4) none) (Value.bool true)
  → ∃ (R8 : List Own), ∃ (Φ9 : PW), Stable Φ9 ∧ Ctx W w7 (R8 ++ R6) Φ9 ∧ ∀ (w10 : World) (R11 : List Own), Ctx W w10 (R8 ++ R11) Φ9 → CanWrite w10 dB (dO + 5) 1 ∧ ∀ (w12 : World), w12 =
  w10.setCell (Addr.mk dB (dO + 5) none) (Value.int IntKind.i64 0) → ∃ (R13 : List Own), ∃ (Φ14 : PW), Stable Φ14 ∧ Ctx W w12 (R13 ++ R11) Φ14 ∧ ∀ (w15 : World) (R16 : List Own), Ctx W w15
  (R13 ++ R16) Φ14 → ∃ (p17 : Option Addr), ∃ (k18 : Nat), ∃ (k19 : Nat), w15.cell? (Addr.mk dB (dO + 1) none) = some (Value.slice p17 k18 k19) ∧ exI fun (I20 : Int → List Own → PW → Nat →
  Prop) => (∃ (R21 : List Own), ∃ (Φ22 : PW), ∃ (k23 : Nat), Stable Φ22 ∧ (∀ (w24 : World) (R25 : List Own), Ctx W w24 (R13 ++ R25) Φ14 → Ctx W w24 (R21 ++ R25) Φ22) ∧ I20 0 R21 Φ22 k23) ∧ ∀
  (n26 : Int) (R27 : List Own) (I28 : List Nat → World → Prop) (k29 : Nat), Stable I28 → I20 n26 R27 I28 k29 → Br (decide (n26 < (↑k18 : Int))) ((0 ≤ n26 ∧ n26 < (↑k18 : Int)) ∧ ptrK none p17
  fun (k30 k31 : Nat) => ∀ (w32 : World) (R33 : List Own), Ctx W w32 (R27 ++ R33) I28 → ∃ (n34 : Int), ∃ (n35 : Int), RowAt w32 k30 (k31 + n26.toNat * 2) [Value.int IntKind.i64 n34, Value.int
  IntKind.i64 n35] ∧ ∀ (b : Nat), ∃ (R36 : List Own), ∃ (Φ37 : PW), Stable Φ37 ∧ (∀ (w38 : World) (R39 : List Own), Ctx W w38 (R27 ++ R39) I28 → Ctx W w38 (R36 ++ R39) Φ37) ∧ I64 (n35 * 64) ∧
  ∃ (p40 : Option Nat), (∀ (w41 : World) (R42 : List Own), Ctx W w41 (R36 ++ R42) Φ37 → ∃ (p43 : Option Nat), w41.cell? (Addr.mk dB dO none) = some (Value.map p43) ∧ Value.map p43 = Value.map
  p40) ∧ ∃ (s44 : ByteArray), ∃ (s45 : ByteArray), (∀ (w46 : World) (R47 : List Own), Ctx W w46 (R36 ++ R47) Φ37 → ∃ (s48 : ByteArray), ∃ (s49 : ByteArray), (∀ (w50 : World), w50.heap =
  w46.heap → Sem.run Tryd.prog (Instr.lookup 56 (Value.map p40) (Value.int IntKind.i64 n34) false) w50 = Result.ok (Value.agg #[Value.string s48, Value.string s49]) w50) ∧ Value.agg
  #[Value.string s48, Value.string s49] = Value.agg #[Value.string s44, Value.string s45]) ∧ ∀ (k51 : Nat), (∀ (w52 : World) (R53 : List Own), Ctx W w52 (Own.blk k51 [Value.string
  (ByteArray.mk #[]), Value.string (ByteArray.mk #[])] 81 :: R27 ++ R53) I28 → Ctx W w52 (R36 ++ R53) Φ37) ∧ ∀ (w54 : World) (R55 : List Own), Ctx W w54 (Own.blk k51 [Value.string
  (ByteArray.mk #[]), Value.string (ByteArray.mk #[])] 81 :: R27 ++ R55) I28 → CanWrite w54 k51 0 2 ∧ ∀ (w56 : World), w56 = w54.setCells k51 0 [Value.string s44, Value.string s45] → ∃ (R57 :
  List Own), ∃ (Φ58 : PW), Stable Φ58 ∧ Ctx W w56 (R57 ++ R55) Φ58 ∧ (∀ (w59 : World) (R60 : List Own), Ctx W w59 (R57 ++ R60) Φ58 → Ctx W w59 (R36 ++ R60) Φ37) ∧ ∀ (w61 : World) (R62 : List
  Own), Ctx W w61 (R57 ++ R62) Φ58 → ((!decide ((↑keepN : Int) = 0)) = true → (↑keepN : Int) ≠ 0) ∧ ((!decide ((↑keepN : Int) = 0)) = true → 0 ≤ n26.tmod (↑keepN : Int) ∧ n26.tmod (↑keepN :
  Int) < (↑keepN : Int)) ∧ ptrK (some !decide ((↑keepN : Int) = 0)) keepP fun (k63 k64 : Nat) => ∃ (n65 : Int), ((!decide ((↑keepN : Int) = 0)) = true → w61.cell? (Addr.mk k63 (k64 +
  (n26.tmod (↑keepN : Int)).toNat) none) = some (Value.int IntKind.i64 n65)) ∧ ∃ (n66 : Int), ((!decide ((↑keepN : Int) = 0)) = true → ∀ (w67 : World), Sem.run Tryd.prog (binOp BinOp.and 3
  (Value.int IntKind.i64 n65) (Value.int IntKind.i64 1)) w67 = Result.ok (Value.int IntKind.i64 n66) w67) ∧ ∃ (s68 : ByteArray), ((!(decide ((↑keepN : Int) = 0) || decide (n66 = 0))) = true →
  w61.cell? (Addr.mk k51 0 none) = some (Value.string s68)) ∧ Br (decide ((↑keepN : Int) = 0) || decide (n66 = 0) || decide ((↑s68.size : Int) ≤ n35 * 64)) (I64 (n26 + 1) ∧ ∃ (R69 : List
  Own), ∃ (Φ70 : PW), ∃ (k71 : Nat), Stable Φ70 ∧ (∀ (w72 : World) (R73 : List Own), Ctx W w72 (R57 ++ R73) Φ58 → Ctx W w72 (R69 ++ R73) Φ70) ∧ I20 (n26 + 1) R69 Φ70 k71 ∧ k71 < k29) (∃ (R74
  : List Own), ∃ (Φ75 : PW), Stable Φ75 ∧ (∀ (w76 : World) (R77 : List Own), Ctx W w76 (R57 ++ R77) Φ58 → Ctx W w76 (R74 ++ R77) Φ75) ∧ ∃ (s78 : ByteArray), (∀ (w79 : World) (R80 : List Own),
  Ctx W w79 (R74 ++ R80) Φ75 → ∃ (s81 : ByteArray), w79.cell? (Addr.mk k51 1 none) = some (Value.string s81) ∧ Value.string s81 = Value.string s78) ∧ ∃ (s82 : ByteArray), (∀ (w83 : World)
  (R84 : List Own), Ctx W w83 (R74 ++ R84) Φ75 → ∃ (s85 : ByteArray), w83.cell? (Addr.mk k51 0 none) = some (Value.string s85) ∧ Value.string s85 = Value.string s82) ∧ I64 (n35 * 64 + 64) ∧ ∃
  (s86 : ByteArray), (∀ (w87 : World) (R88 : List Own), Ctx W w87 (R74 ++ R88) Φ75 → ∃ (s89 : ByteArray), w87.cell? (Addr.mk k51 0 none) = some (Value.string s89) ∧ Value.string s89 =
  Value.string s86) ∧ (0 ≤ n35 * 64 ∧ n35 * 64 ≤ min (n35 * 64 + 64) (↑s86.size : Int) ∧ min (n35 * 64 + 64) (↑s86.size : Int) ≤ (↑s82.size : Int)) ∧ ∀ (w90 : World) (R91 : List Own), Ctx W
  w90 (R57 ++ R91) Φ58 → Calls Tryd.prog F.disk_put #[Value.string s78, Value.int IntKind.i64 (n35 * 64), Value.string (s82.extract (n35 * 64).toNat (min (n35 * 64 + 64) (↑s86.size :
  Int)).toNat)] w90 fun (e92 : Ending) (w93 : World) => ∃ (s94 : ByteArray), e92 = Ending.returned (Value.string s94) ∧ ∃ (R95 : List Own), ∃ (Φ96 : PW), Stable Φ96 ∧ Ctx W w93 (R95 ++ R91)
  Φ96 ∧ ∀ (w97 : World) (R98 : List Own), Ctx W w97 (R95 ++ R98) Φ96 → CanWrite w97 k51 1 1 ∧ ∀ (w99 : World), w99 = w97.setCell (Addr.mk k51 1 none) (Value.string s94) → ∃ (R100 : List Own),
  ∃ (Φ101 : PW), Stable Φ101 ∧ Ctx W w99 (R100 ++ R98) Φ101 ∧ ∀ (w102 : World) (R103 : List Own), Ctx W w102 (R100 ++ R103) Φ101 → ∃ (s104 : ByteArray), ∃ (s105 : ByteArray), RowAt w102 k51 0
  [Value.string s104, Value.string s105] ∧ ∀ (w106 : World) (R107 : List Own), Ctx W w106 (R100 ++ R107) Φ101 → ∃ (p108 : Option Nat), w106.cell? (Addr.mk dB dO none) = some (Value.map p108)
  ∧ ∀ (w109 : World) (R110 : List Own), Ctx W w109 (R100 ++ R110) Φ101 → ∃ (w111 : World), Sem.run Tryd.prog (Instr.mapUpdate 56 (Value.map p108) (Value.int IntKind.i64 n34) (Value.agg
  #[Value.string s104, Value.string s105])) w109 = Result.ok () w111 ∧ ∃ (R112 : List Own), ∃ (Φ113 : PW), Stable Φ113 ∧ Ctx W w111 (R112 ++ R110) Φ113 ∧ I64 (n26 + 1) ∧ ∃ (R114 : List Own),
  ∃ (Φ115 : PW), ∃ (k116 : Nat), Stable Φ115 ∧ (∀ (w117 : World) (R118 : List Own), Ctx W w117 (R112 ++ R118) Φ113 → Ctx W w117 (R114 ++ R118) Φ115) ∧ I20 (n26 + 1) R114 Φ115 k116 ∧ k116 <
  k29)) (∀ (w119 : World) (R120 : List Own), Ctx W w119 (R27 ++ R120) I28 → ∃ (p121 : Option Nat), w119.cell? (Addr.mk dB dO none) = some (Value.map p121) ∧ ∀ (w122 : World) (R123 : List
  Own), Ctx W w122 (R27 ++ R123) I28 → ∃ (p124 : Option Addr), ∃ (w125 : World), Sem.run Tryd.prog (Instr.range 56 (Value.map p121)) w122 = Result.ok (Value.pointer p124) w125 ∧ ∃ (R126 :
  List Own), ∃ (Φ127 : PW), Stable Φ127 ∧ Ctx W w125 (R126 ++ R123) Φ127 ∧ exI fun (I128 : List Own → PW → Nat → Prop) => (∃ (R129 : List Own), ∃ (Φ130 : PW), ∃ (k131 : Nat), Stable Φ130 ∧ (∀
  (w132 : World) (R133 : List Own), Ctx W w132 (R126 ++ R133) Φ127 → Ctx W w132 (R129 ++ R133) Φ130) ∧ I128 R129 Φ130 k131) ∧ ∀ (R134 : List Own) (I135 : List Nat → World → Prop) (k136 :
  Nat), Stable I135 → I128 R134 I135 k136 → ∀ (w137 : World) (R138 : List Own), Ctx W w137 (R134 ++ R138) I135 → (∃ (w139 : World), Sem.run Tryd.prog (Instr.next (Value.pointer p124) false 0)
  w137 = Result.ok (Value.tuple #[Value.bool false]) w139 ∧ ∃ (R140 : List Own), ∃ (Φ141 : PW), Stable Φ141 ∧ Ctx W w139 (R140 ++ R138) Φ141 ∧ ∀ (k142 : Nat) (w143 : World) (R144 : List Own),
  Ctx W w143 (Own.obj k142 (Obj.map #[] 0) :: R140 ++ R144) Φ141 → CanWrite w143 dB (dO + 1) 1 ∧ ∀ (w145 : World), w145 = w143.setCell (Addr.mk dB (dO + 1) none) (Value.slice none 0 0) → ∃
  (R146 : List Own), ∃ (Φ147 : PW), Stable Φ147 ∧ Ctx W w145 (R146 ++ R144) Φ147 ∧ ∀ (w148 : World) (R149 : List Own), Ctx W w148 (R146 ++ R149) Φ147 → CanWrite w148 dB (dO + 2) 1 ∧ ∀ (w150 :
  World), w150 = w148.setCell (Addr.mk dB (dO + 2) none) (Value.map (some k142)) → ∃ (R151 : List Own), ∃ (Φ152 : PW), Stable Φ152 ∧ Ctx W w150 (R151 ++ R149) Φ152 ∧ ∀ (w153 : World) (R154 :
  List Own), Ctx W w153 (R151 ++ R154) Φ152 → J (Value.tuple #[]) w153) ∨ ∃ (v155 : Value), ∃ (v156 : Value), ∃ (w157 : World), Sem.run Tryd.prog (Instr.next (Value.pointer p124) false 0)
  w137 = Result.ok (Value.tuple #[Value.bool true, v155, v156]) w157 ∧ ∃ (R158 : List Own), ∃ (Φ159 : PW), Stable Φ159 ∧ Ctx W w157 (R158 ++ R138) Φ159 ∧ ∀ (w160 : World) (R161 : List Own),
  Ctx W w160 (R158 ++ R161) Φ159 → ∃ (n162 : Int), ∃ (s163 : ByteArray), ∃ (s164 : ByteArray), ∃ (w165 : World), Sem.run Tryd.prog (Instr.entry (Value.pointer p124)) w160 = Result.ok
  (Value.tuple #[Value.int IntKind.i64 n162, Value.agg #[Value.string s163, Value.string s164]]) w165 ∧ ∃ (R166 : List Own), ∃ (Φ167 : PW), Stable Φ167 ∧ Ctx W w165 (R166 ++ R161) Φ167 ∧ ∀ (b
  : Nat) (w168 : World) (R169 : List Own), Ctx W w168 (R166 ++ R169) Φ167 → ∃ (p170 : Option Nat), w168.cell? (Addr.mk dB dO none) = some (Value.map p170) ∧ ∀ (w171 : World) (R172 : List
  Own), Ctx W w171 (R166 ++ R172) Φ167 → ∃ (w173 : World), Sem.run Tryd.prog (Instr.mapUpdate 56 (Value.map p170) (Value.int IntKind.i64 n162) (Value.agg #[Value.string s164, Value.string
  s164])) w171 = Result.ok () w173 ∧ ∃ (R174 : List Own), ∃ (Φ175 : PW), Stable Φ175 ∧ Ctx W w173 (R174 ++ R172) Φ175 ∧ ∃ (R176 : List Own), ∃ (Φ177 : PW), ∃ (k178 : Nat), Stable Φ177 ∧ (∀
  (w179 : World) (R180 : List Own), Ctx W w179 (R174 ++ R180) Φ175 → Ctx W w179 (R176 ++ R180) Φ177) ∧ I128 R176 Φ177 k178 ∧ k178 < k136))

theorem Bdisk_Disk_Crash_run (dB dO : Nat) (keepP : Option Addr) (keepN keepC : Nat) {W w : World} {R : List Own} {Φ : PW} [Stable Φ] {J : Value → World → Prop} (c : Ctx W w R Φ) (h : Bdisk_Disk_Crash dB dO keepP keepN keepC W R Φ J) : Calls Tryd.prog F.disk_Disk_Crash #[.pointer (some ⟨dB, dO, none⟩), .slice keepP keepN keepC] w fun e w' => ∃ v, e = .returned v ∧ J v w' :=
  vcFS_sound (H := { keep := some [0, 1, 4, 5, 6, 7, 8, 9, 13, 23, 24, 25, 26, 60, 88, 90], track := [5, 6, 9], stages := [(5, [.held [(0, true), (4, true), (7, true), (1, true), (5, true), (8, true), (2, true), (9, true), (3, true), (6, true), (10, false), (11, false)], .stage [12] none]), (7, [.held [(0, true), (2, true), (3, true), (5, true), (6, true), (8, true), (1, true), (4, true), (7, true), (9, true), (10, true), (11, true), (12, true)], .stage [] (some 13), .stage [14] (some 15)]), (8, [.stage [0, 4, 6, 1, 5, 2, 3] (some 7)]), (13, [.stage [0, 4, 5, 7, 1, 6, 8, 2, 9, 3] (some 10)])], loops := [(11, [], []), (3, [(25, .one (.int .i64))], [])] }) (by rw [show vcFS Tryd.prog W { keep := some [0, 1, 4, 5, 6, 7, 8, 9, 13, 23, 24, 25, 26, 60, 88, 90], track := [5, 6, 9], stages := [(5, [.held [(0, true), (4, true), (7, true), (1, true), (5, true), (8, true), (2, true), (9, true), (3, true), (6, true), (10, false), (11, false)], .stage [12] none]), (7, [.held [(0, true), (2, true), (3, true), (5, true), (6, true), (8, true), (1, true), (4, true), (7, true), (9, true), (10, true), (11, true), (12, true)], .stage [] (some 13), .stage [14] (some 15)]), (8, [.stage [0, 4, 6, 1, 5, 2, 3] (some 7)]), (13, [.stage [0, 4, 5, 7, 1, 6, 8, 2, 9, 3] (some 10)])], loops := [(11, [], []), (3, [(25, .one (.int .i64))], [])] } F.disk_Disk_Crash #[.pointer (some ⟨dB, dO, none⟩), .slice keepP keepN keepC] R Φ J = Bdisk_Disk_Crash dB dO keepP keepN keepC W R Φ J by kernel_rfl]; exact h) c

/-- (*disk.Disk).Start -/
def Bdisk_Disk_Start (dB dO : Nat) (W : World) (R : List Own) (Φ : PW) (J : Value → World → Prop) : Prop :=
  ∀ (w0 : World) (R1 : List Own), Ctx W w0 (R ++ R1) Φ → CanWrite w0 dB (dO + 4) 1 ∧ ∀ (w2 : World), w2 = w0.setCell (Addr.mk dB (dO + 4) none) (Value.bool false) → ∃ (R3 : List Own), ∃ (Φ4 :
  PW), Stable Φ4 ∧ Ctx W w2 (R3 ++ R1) Φ4 ∧ ∀ (w5 : World) (R6 : List Own), Ctx W w5 (R3 ++ R6) Φ4 → J (Value.tuple #[]) w5

theorem Bdisk_Disk_Start_run (dB dO : Nat) {W w : World} {R : List Own} {Φ : PW} [Stable Φ] {J : Value → World → Prop} (c : Ctx W w R Φ) (h : Bdisk_Disk_Start dB dO W R Φ J) : Calls Tryd.prog F.disk_Disk_Start #[.pointer (some ⟨dB, dO, none⟩)] w fun e w' => ∃ v, e = .returned v ∧ J v w' :=
  vcFS_sound (H := { keep := some [] }) (by rw [show vcFS Tryd.prog W { keep := some [] } F.disk_Disk_Start #[.pointer (some ⟨dB, dO, none⟩)] R Φ J = Bdisk_Disk_Start dB dO W R Φ J by kernel_rfl]; exact h) c

/-- (*disk.Disk).Arm -/
def Bdisk_Disk_Arm (dB dO : Nat) (n : Int) (keepP : Option Addr) (keepN keepC : Nat) (W : World) (R : List Own) (Φ : PW) (J : Value → World → Prop) : Prop :=
  ∀ (w0 : World) (R1 : List Own), Ctx W w0 (R ++ R1) Φ → Calls Tryd.prog F.slices_Clone_int_int #[Value.slice keepP keepN keepC] w0 fun (e2 : Ending) (w3 : World) => ∃ (p4 : Option Addr), ∃
  (k5 : Nat), ∃ (k6 : Nat), e2 = Ending.returned (Value.slice p4 k5 k6) ∧ ∃ (R7 : List Own), ∃ (Φ8 : PW), Stable Φ8 ∧ Ctx W w3 (R7 ++ R1) Φ8 ∧ ∀ (w9 : World) (R10 : List Own), Ctx W w9 (R7 ++
  R10) Φ8 → CanWrite w9 dB (dO + 5) 1 ∧ ∀ (w11 : World), w11 = w9.setCell (Addr.mk dB (dO + 5) none) (Value.int IntKind.i64 (max n 0)) → ∃ (R12 : List Own), ∃ (Φ13 : PW), Stable Φ13 ∧ Ctx W
  w11 (R12 ++ R10) Φ13 ∧ ∀ (w14 : World) (R15 : List Own), Ctx W w14 (R12 ++ R15) Φ13 → CanWrite w14 dB (dO + 6) 1 ∧ ∀ (w16 : World), w16 = w14.setCell (Addr.mk dB (dO + 6) none) (Value.slice
  p4 k5 k6) → ∃ (R17 : List Own), ∃ (Φ18 : PW), Stable Φ18 ∧ Ctx W w16 (R17 ++ R15) Φ18 ∧ ∀ (w19 : World) (R20 : List Own), Ctx W w19 (R17 ++ R20) Φ18 → J (Value.tuple #[]) w19

theorem Bdisk_Disk_Arm_run (dB dO : Nat) (n : Int) (keepP : Option Addr) (keepN keepC : Nat) {W w : World} {R : List Own} {Φ : PW} [Stable Φ] {J : Value → World → Prop} (c : Ctx W w R Φ) (h : Bdisk_Disk_Arm dB dO n keepP keepN keepC W R Φ J) : Calls Tryd.prog F.disk_Disk_Arm #[.pointer (some ⟨dB, dO, none⟩), .int .i64 n, .slice keepP keepN keepC] w fun e w' => ∃ v, e = .returned v ∧ J v w' :=
  vcFS_sound (H := { keep := some [] }) (by rw [show vcFS Tryd.prog W { keep := some [] } F.disk_Disk_Arm #[.pointer (some ⟨dB, dO, none⟩), .int .i64 n, .slice keepP keepN keepC] R Φ J = Bdisk_Disk_Arm dB dO n keepP keepN keepC W R Φ J by kernel_rfl]; exact h) c

/-- erratalaw06.disky -/
def Berratalaw06_disky (ex : Int) (W : World) (R : List Own) (Φ : PW) (J : Value → World → Prop) : Prop :=
  ∀ (w0 : World) (R1 : List Own), Ctx W w0 (R ++ R1) Φ → ∀ (w2 : World) (R3 : List Own), Ctx W w2 (R ++ R3) Φ → J (Value.bool (decide (ex = 9) || decide (ex = 10))) w2

theorem Berratalaw06_disky_run (ex : Int) {W w : World} {R : List Own} {Φ : PW} [Stable Φ] {J : Value → World → Prop} (c : Ctx W w R Φ) (h : Berratalaw06_disky ex W R Φ J) : Calls Tryd.prog F.erratalaw06_disky #[.int .i64 ex] w fun e w' => ∃ v, e = .returned v ∧ J v w' :=
  vcFS_sound (H := { keep := some [0, 2] }) (by rw [show vcFS Tryd.prog W { keep := some [0, 2] } F.erratalaw06_disky #[.int .i64 ex] R Φ J = Berratalaw06_disky ex W R Φ J by kernel_rfl]; exact h) c

/-- (*journal.Journal).Len -/
def Bjournal_Journal_Len (jB jO : Nat) (W : World) (R : List Own) (Φ : PW) (J : Value → World → Prop) : Prop :=
  ∀ (w0 : World) (R1 : List Own), Ctx W w0 (R ++ R1) Φ → ∃ (p2 : Option Addr), ∃ (k3 : Nat), ∃ (k4 : Nat), w0.cell? (Addr.mk jB (jO + 3) none) = some (Value.slice p2 k3 k4) ∧ ∀ (w5 : World)
  (R6 : List Own), Ctx W w5 (R ++ R6) Φ → J (Value.int IntKind.i64 (↑k3 : Int)) w5

theorem Bjournal_Journal_Len_run (jB jO : Nat) {W w : World} {R : List Own} {Φ : PW} [Stable Φ] {J : Value → World → Prop} (c : Ctx W w R Φ) (h : Bjournal_Journal_Len jB jO W R Φ J) : Calls Tryd.prog F.journal_Journal_Len #[.pointer (some ⟨jB, jO, none⟩)] w fun e w' => ∃ v, e = .returned v ∧ J v w' :=
  vcFS_sound (H := { keep := some [0, 2] }) (by rw [show vcFS Tryd.prog W { keep := some [0, 2] } F.journal_Journal_Len #[.pointer (some ⟨jB, jO, none⟩)] R Φ J = Bjournal_Journal_Len jB jO W R Φ J by kernel_rfl]; exact h) c

/-- (*disk.Disk).ends -/
def Bdisk_Disk_ends (dB dO : Nat) (W : World) (R : List Own) (Φ : PW) (J : Value → World → Prop) : Prop :=
  ∀ (w0 : World) (R1 : List Own), Ctx W w0 (R ++ R1) Φ → ∃ (c2 : Bool), w0.cell? (Addr.mk dB (dO + 4) none) = some (Value.bool c2) ∧ ∃ (n3 : Int), ((!c2) = true → w0.cell? (Addr.mk dB (dO +
  5) none) = some (Value.int IntKind.i64 n3)) ∧ Br (c2 || decide (n3 = 0)) (∀ (w4 : World) (R5 : List Own), Ctx W w4 (R ++ R5) Φ → J (Value.bool false) w4) (∀ (w6 : World) (R7 : List Own),
  Ctx W w6 (R ++ R7) Φ → ∃ (n8 : Int), w6.cell? (Addr.mk dB (dO + 5) none) = some (Value.int IntKind.i64 n8) ∧ I64 (n8 - 1) ∧ ∀ (w9 : World) (R10 : List Own), Ctx W w9 (R ++ R10) Φ → CanWrite
  w9 dB (dO + 5) 1 ∧ ∀ (w11 : World), w11 = w9.setCell (Addr.mk dB (dO + 5) none) (Value.int IntKind.i64 (n8 - 1)) → ∃ (R12 : List Own), ∃ (Φ13 : PW), Stable Φ13 ∧ Ctx W w11 (R12 ++ R10) Φ13
  ∧ ∀ (w14 : World) (R15 : List Own), Ctx W w14 (R12 ++ R15) Φ13 → ∃ (n16 : Int), w14.cell? (Addr.mk dB (dO + 5) none) = some (Value.int IntKind.i64 n16) ∧ ∀ (w17 : World) (R18 : List Own),
  Ctx W w17 (R12 ++ R18) Φ13 → J (Value.bool (decide (n16 = 0))) w17)

theorem Bdisk_Disk_ends_run (dB dO : Nat) {W w : World} {R : List Own} {Φ : PW} [Stable Φ] {J : Value → World → Prop} (c : Ctx W w R Φ) (h : Bdisk_Disk_ends dB dO W R Φ J) : Calls Tryd.prog F.disk_Disk_ends #[.pointer (some ⟨dB, dO, none⟩)] w fun e w' => ∃ v, e = .returned v ∧ J v w' :=
  vcFS_sound (H := { keep := some [0, 2, 13] }) (by rw [show vcFS Tryd.prog W { keep := some [0, 2, 13] } F.disk_Disk_ends #[.pointer (some ⟨dB, dO, none⟩)] R Φ J = Bdisk_Disk_ends dB dO W R Φ J by kernel_rfl]; exact h) c

/-- (*disk.Disk).write -/
-- loop at region 14: 11 n; blocks 
-- known blocks: 10 x
def Bdisk_Disk_write (dB dO : Nat) (f : Int) (atx : Int) (s : ByteArray) (W : World) (R : List Own) (Φ : PW) (J : Value → World → Prop) : Prop :=
  ∀ (w0 : World) (R1 : List Own), Ctx W w0 (R ++ R1) Φ → Calls Tryd.prog F.disk_Disk_may #[Value.pointer (some (Addr.mk dB dO none)), Value.int IntKind.i64 f] w0 fun (e2 : Ending) (w3 :
  World) => ∃ (n4 : Int), e2 = Ending.returned (Value.int IntKind.i64 n4) ∧ ∃ (R5 : List Own), ∃ (Φ6 : PW), Stable Φ6 ∧ Ctx W w3 (R5 ++ R1) Φ6 ∧ Br (decide (n4 ≠ 0)) (∀ (w7 : World) (R8 :
  List Own), Ctx W w7 (R5 ++ R8) Φ6 → J (Value.int IntKind.i64 n4) w7) (Br (decide (atx < 0)) (∀ (w9 : World) (R10 : List Own), Ctx W w9 (R5 ++ R10) Φ6 → J (Value.int IntKind.i64 1) w9) (∀
  (w11 : World) (R12 : List Own), Ctx W w11 (R5 ++ R12) Φ6 → ((!decide (16777216 < atx)) = true → I64 (16777216 - atx)) ∧ Br (decide (16777216 < atx) || decide (16777216 - atx < (↑s.size :
  Int))) (∀ (w13 : World) (R14 : List Own), Ctx W w13 (R5 ++ R14) Φ6 → J (Value.int IntKind.i64 6) w13) (Br (decide (s = ByteArray.mk #[])) (∀ (w15 : World) (R16 : List Own), Ctx W w15 (R5 ++
  R16) Φ6 → J (Value.int IntKind.i64 0) w15) (∀ (w17 : World) (R18 : List Own), Ctx W w17 (R5 ++ R18) Φ6 → ∃ (p19 : Option Nat), w17.cell? (Addr.mk dB dO none) = some (Value.map p19) ∧ ∀ (w20
  : World) (R21 : List Own), Ctx W w20 (R5 ++ R21) Φ6 → ∃ (s22 : ByteArray), ∃ (s23 : ByteArray), (∀ (w24 : World), w24.heap = w20.heap → Sem.run Tryd.prog (Instr.lookup 56 (Value.map p19)
  (Value.int IntKind.i64 f) false) w24 = Result.ok (Value.agg #[Value.string s22, Value.string s23]) w24) ∧ ∀ (b : Nat) (w25 : World) (R26 : List Own), Ctx W w25 (R5 ++ R26) Φ6 → Calls
  Tryd.prog F.disk_put #[Value.string s22, Value.int IntKind.i64 atx, Value.string s] w25 fun (e27 : Ending) (w28 : World) => ∃ (s29 : ByteArray), e27 = Ending.returned (Value.string s29) ∧ ∃
  (R30 : List Own), ∃ (Φ31 : PW), Stable Φ31 ∧ Ctx W w28 (R30 ++ R26) Φ31 ∧ ∀ (w32 : World) (R33 : List Own), Ctx W w32 (R30 ++ R33) Φ31 → ∃ (p34 : Option Nat), w32.cell? (Addr.mk dB dO none)
  = some (Value.map p34) ∧ ∀ (w35 : World) (R36 : List Own), Ctx W w35 (R30 ++ R36) Φ31 → ∃ (w37 : World), Sem.run Tryd.prog (Instr.mapUpdate 56 (Value.map p34) (Value.int IntKind.i64 f)
  (Value.agg #[Value.string s29, Value.string s23])) w35 = Result.ok () w37 ∧ ∃ (R38 : List Own), ∃ (Φ39 : PW), Stable Φ39 ∧ Ctx W w37 (R38 ++ R36) Φ39 ∧ ((64 : Int) = 0 → False) ∧ I64
  (atx.tdiv 64) ∧ exI fun (I40 : Int → List Own → PW → Nat → Prop) => (∃ (R41 : List Own), ∃ (Φ42 : PW), ∃ (k43 : Nat), Stable Φ42 ∧ (∀ (w44 : World) (R45 : List Own), Ctx W w44 (R38 ++ R45)
  Φ39 → Ctx W w44 (R41 ++ R45) Φ42) ∧ I40 (atx.tdiv 64) R41 Φ42 k43) ∧ ∀ (n46 : Int) (R47 : List Own) (I48 : List Nat → World → Prop) (k49 : Nat), Stable I48 → I40 n46 R47 I48 k49 → I64 (atx
  + (↑s.size : Int)) ∧ I64 (atx + (↑s.size : Int) - 1) ∧ ((64 : Int) = 0 → False) ∧ I64 ((atx + (↑s.size : Int) - 1).tdiv 64) ∧ Br (decide (n46 ≤ (atx + (↑s.size : Int) - 1).tdiv 64)) (∀ (k50
  : Nat) (w51 : World) (R52 : List Own), Ctx W w51 (Own.blk k50 [Value.int IntKind.i64 0, Value.int IntKind.i64 0] 79 :: R47 ++ R52) I48 → CanWrite w51 k50 0 2 ∧ ∀ (w53 : World), w53 =
  w51.setCells k50 0 [Value.int IntKind.i64 f, Value.int IntKind.i64 n46] → ∃ (R54 : List Own), ∃ (Φ55 : PW), Stable Φ55 ∧ Ctx W w53 (R54 ++ R52) Φ55 ∧ ∀ (w56 : World) (R57 : List Own), Ctx W
  w56 (R54 ++ R57) Φ55 → ∃ (p58 : Option Nat), w56.cell? (Addr.mk dB (dO + 2) none) = some (Value.map p58) ∧ ∃ (n59 : Int), ∃ (n60 : Int), RowAt w56 k50 0 [Value.int IntKind.i64 n59,
  Value.int IntKind.i64 n60] ∧ ∃ (c61 : Bool), (∀ (w62 : World), w62.heap = w56.heap → Sem.run Tryd.prog (Instr.lookup 57 (Value.map p58) (Value.agg #[Value.int IntKind.i64 n59, Value.int
  IntKind.i64 n60]) false) w62 = Result.ok (Value.bool c61) w62) ∧ Br (!c61) (∃ (R63 : List Own), ∃ (Φ64 : PW), Stable Φ64 ∧ (∀ (w65 : World) (R66 : List Own), Ctx W w65 (R54 ++ R66) Φ55 →
  Ctx W w65 (R63 ++ R66) Φ64) ∧ ∃ (R67 : List Own), ∃ (Φ68 : PW), Stable Φ68 ∧ (∀ (w69 : World) (R70 : List Own), Ctx W w69 (R54 ++ R70) Φ55 → Ctx W w69 (R67 ++ R70) Φ68) ∧ ∃ (n71 : Int), ∃
  (n72 : Int), (∀ (w73 : World) (R74 : List Own), Ctx W w73 (R63 ++ R74) Φ64 → ∃ (n75 : Int), ∃ (n76 : Int), RowAt w73 k50 0 [Value.int IntKind.i64 n75, Value.int IntKind.i64 n76] ∧ Value.agg
  #[Value.int IntKind.i64 n75, Value.int IntKind.i64 n76] = Value.agg #[Value.int IntKind.i64 n71, Value.int IntKind.i64 n72]) ∧ ∃ (n77 : Int), ∃ (n78 : Int), (∀ (w79 : World) (R80 : List
  Own), Ctx W w79 (R67 ++ R80) Φ68 → ∃ (n81 : Int), ∃ (n82 : Int), RowAt w79 k50 0 [Value.int IntKind.i64 n81, Value.int IntKind.i64 n82] ∧ Value.agg #[Value.int IntKind.i64 n81, Value.int
  IntKind.i64 n82] = Value.agg #[Value.int IntKind.i64 n77, Value.int IntKind.i64 n78]) ∧ ∃ (p83 : Option Nat), (∀ (w84 : World) (R85 : List Own), Ctx W w84 (R67 ++ R85) Φ68 → ∃ (p86 : Option
  Nat), w84.cell? (Addr.mk dB (dO + 2) none) = some (Value.map p86) ∧ Value.map p86 = Value.map p83) ∧ ∃ (p87 : Option Addr), ∃ (k88 : Nat), ∃ (k89 : Nat), (∀ (w90 : World) (R91 : List Own),
  Ctx W w90 (R67 ++ R91) Φ68 → ∃ (p92 : Option Addr), ∃ (k93 : Nat), ∃ (k94 : Nat), w90.cell? (Addr.mk dB (dO + 1) none) = some (Value.slice p92 k93 k94) ∧ Value.slice p92 k93 k94 =
  Value.slice p87 k88 k89) ∧ ∀ (k95 : Nat), (∀ (w96 : World) (R97 : List Own), Ctx W w96 (Own.blk k95 [Value.int IntKind.i64 n77, Value.int IntKind.i64 n78] 79 :: R54 ++ R97) Φ55 → Ctx W w96
  (R63 ++ R97) Φ64) ∧ (∀ (w98 : World) (R99 : List Own), Ctx W w98 (Own.blk k95 [Value.int IntKind.i64 n77, Value.int IntKind.i64 n78] 79 :: R54 ++ R99) Φ55 → Ctx W w98 (R67 ++ R99) Φ68) ∧ ∀
  (w100 : World) (R101 : List Own), Ctx W w100 (Own.blk k95 [Value.int IntKind.i64 n77, Value.int IntKind.i64 n78] 79 :: R54 ++ R101) Φ55 → ∃ (p102 : Option Addr), ∃ (k103 : Nat), ∃ (k104 :
  Nat), ∃ (w105 : World), Sem.run Tryd.prog (builtin Builtin.append #[58, 58] 58 #[false, false] #[Value.slice p87 k88 k89, Value.slice (some (Addr.mk k95 0 none)) 1 1]) w100 = Result.ok
  (Next.value (Value.slice p102 k103 k104)) w105 ∧ ∃ (R106 : List Own), ∃ (Φ107 : PW), Stable Φ107 ∧ Ctx W w105 (R106 ++ R101) Φ107 ∧ (∀ (w108 : World) (R109 : List Own), Ctx W w108 (R106 ++
  R109) Φ107 → Ctx W w108 (R63 ++ R109) Φ64) ∧ (∀ (w110 : World) (R111 : List Own), Ctx W w110 (R106 ++ R111) Φ107 → Ctx W w110 (R67 ++ R111) Φ68) ∧ ∀ (w112 : World) (R113 : List Own), Ctx W
  w112 (R106 ++ R113) Φ107 → CanWrite w112 dB (dO + 1) 1 ∧ ∀ (w114 : World), w114 = w112.setCell (Addr.mk dB (dO + 1) none) (Value.slice p102 k103 k104) → ∃ (R115 : List Own), ∃ (Φ116 : PW),
  Stable Φ116 ∧ Ctx W w114 (R115 ++ R113) Φ116 ∧ (∀ (w117 : World) (R118 : List Own), Ctx W w117 (R115 ++ R118) Φ116 → Ctx W w117 (R63 ++ R118) Φ64) ∧ True ∧ ∀ (w119 : World) (R120 : List
  Own), Ctx W w119 (R115 ++ R120) Φ116 → ∃ (c121 : Bool), ∃ (n122 : Int), ∃ (w123 : World), Sem.run Tryd.prog (Instr.mapEntry 57 (Value.map p83) (Value.agg #[Value.int IntKind.i64 n71,
  Value.int IntKind.i64 n72])) w119 = Result.ok (Value.tuple #[Value.bool c121, Value.int IntKind.i64 n122]) w123 ∧ ∃ (R124 : List Own), ∃ (Φ125 : PW), Stable Φ125 ∧ Ctx W w123 (R124 ++ R120)
  Φ125 ∧ (∀ (w126 : World) (R127 : List Own), Ctx W w126 (R124 ++ R127) Φ125 → Ctx W w126 (R63 ++ R127) Φ64) ∧ True ∧ ∀ (w128 : World) (R129 : List Own), Ctx W w128 (R124 ++ R129) Φ125 → ∃
  (w130 : World), Sem.run Tryd.prog (Instr.entryStore 57 (Value.map p83) (Value.int IntKind.i64 n122) (Value.bool true)) w128 = Result.ok () w130 ∧ ∃ (R131 : List Own), ∃ (Φ132 : PW), Stable
  Φ132 ∧ Ctx W w130 (R131 ++ R129) Φ132 ∧ (∀ (w133 : World) (R134 : List Own), Ctx W w133 (R131 ++ R134) Φ132 → Ctx W w133 (R63 ++ R134) Φ64) ∧ True ∧ I64 (n46 + 1) ∧ ∃ (R135 : List Own), ∃
  (Φ136 : PW), ∃ (k137 : Nat), Stable Φ136 ∧ (∀ (w138 : World) (R139 : List Own), Ctx W w138 (R131 ++ R139) Φ132 → Ctx W w138 (R135 ++ R139) Φ136) ∧ I40 (n46 + 1) R135 Φ136 k137 ∧ k137 < k49)
  (I64 (n46 + 1) ∧ ∃ (R140 : List Own), ∃ (Φ141 : PW), ∃ (k142 : Nat), Stable Φ141 ∧ (∀ (w143 : World) (R144 : List Own), Ctx W w143 (R54 ++ R144) Φ55 → Ctx W w143 (R140 ++ R144) Φ141) ∧ I40
  (n46 + 1) R140 Φ141 k142 ∧ k142 < k49)) (∀ (w145 : World) (R146 : List Own), Ctx W w145 (R47 ++ R146) I48 → J (Value.int IntKind.i64 0) w145)))))

theorem Bdisk_Disk_write_run (dB dO : Nat) (f : Int) (atx : Int) (s : ByteArray) {W w : World} {R : List Own} {Φ : PW} [Stable Φ] {J : Value → World → Prop} (c : Ctx W w R Φ) (h : Bdisk_Disk_write dB dO f atx s W R Φ J) : Calls Tryd.prog F.disk_Disk_write #[.pointer (some ⟨dB, dO, none⟩), .int .i64 f, .int .i64 atx, .string s] w fun e w' => ∃ v, e = .returned v ∧ J v w' :=
  vcFS_sound (H := { keep := some [0, 1, 2, 3, 8, 9, 10, 11, 12, 17, 19, 22, 32, 62, 74], track := [10], stages := [(12, [.stage [0, 4, 5, 1, 2, 3] (some 6)]), (18, [.late2 [10, 4, 9] 15 [] [0, 1, 5, 6, 10, 2, 7, 3, 8, 4, 9] [(11, []), (12, [13, 14]), (15, []), (16, [17]), (18, [])]])], loops := [(14, [(11, .one (.int .i64))], [])] }) (by rw [show vcFS Tryd.prog W { keep := some [0, 1, 2, 3, 8, 9, 10, 11, 12, 17, 19, 22, 32, 62, 74], track := [10], stages := [(12, [.stage [0, 4, 5, 1, 2, 3] (some 6)]), (18, [.late2 [10, 4, 9] 15 [] [0, 1, 5, 6, 10, 2, 7, 3, 8, 4, 9] [(11, []), (12, [13, 14]), (15, []), (16, [17]), (18, [])]])], loops := [(14, [(11, .one (.int .i64))], [])] } F.disk_Disk_write #[.pointer (some ⟨dB, dO, none⟩), .int .i64 f, .int .i64 atx, .string s] R Φ J = Bdisk_Disk_write dB dO f atx s W R Φ J by kernel_rfl]; exact h) c

/-- (*disk.Disk).Sync -/
-- cut 3: ; blocks 
def Bdisk_Disk_Sync (dB dO : Nat) (f : Int) (W : World) (R : List Own) (Φ : PW) (J : Value → World → Prop) : Prop :=
  exI fun (I0 : List Own → PW → Prop) => (∀ (w1 : World) (R2 : List Own), Ctx W w1 (R ++ R2) Φ → Calls Tryd.prog F.disk_Disk_ends #[Value.pointer (some (Addr.mk dB dO none))] w1 fun (e3 :
  Ending) (w4 : World) => ∃ (c5 : Bool), e3 = Ending.returned (Value.bool c5) ∧ ∃ (R6 : List Own), ∃ (Φ7 : PW), Stable Φ7 ∧ Ctx W w4 (R6 ++ R2) Φ7 ∧ Br c5 (∀ (w8 : World) (R9 : List Own), Ctx
  W w8 (R6 ++ R9) Φ7 → ∃ (p10 : Option Addr), ∃ (k11 : Nat), ∃ (k12 : Nat), w8.cell? (Addr.mk dB (dO + 6) none) = some (Value.slice p10 k11 k12) ∧ ∀ (w13 : World) (R14 : List Own), Ctx W w13
  (R6 ++ R14) Φ7 → Calls Tryd.prog F.disk_Disk_Crash #[Value.pointer (some (Addr.mk dB dO none)), Value.slice p10 k11 k12] w13 fun (e15 : Ending) (w16 : World) => e15 = Ending.returned
  (Value.tuple #[]) ∧ ∃ (R17 : List Own), ∃ (Φ18 : PW), Stable Φ18 ∧ Ctx W w16 (R17 ++ R14) Φ18 ∧ ∃ (R19 : List Own), ∃ (Φ20 : PW), Stable Φ20 ∧ (∀ (w21 : World) (R22 : List Own), Ctx W w21
  (R17 ++ R22) Φ18 → Ctx W w21 (R19 ++ R22) Φ20) ∧ I0 R19 Φ20) (∃ (R23 : List Own), ∃ (Φ24 : PW), Stable Φ24 ∧ (∀ (w25 : World) (R26 : List Own), Ctx W w25 (R6 ++ R26) Φ7 → Ctx W w25 (R23 ++
  R26) Φ24) ∧ I0 R23 Φ24)) ∧ ∀ (R27 : List Own) (I28 : List Nat → World → Prop), Stable I28 → I0 R27 I28 → ∀ (w29 : World) (R30 : List Own), Ctx W w29 (R27 ++ R30) I28 → Calls Tryd.prog
  F.disk_Disk_may #[Value.pointer (some (Addr.mk dB dO none)), Value.int IntKind.i64 f] w29 fun (e31 : Ending) (w32 : World) => ∃ (n33 : Int), e31 = Ending.returned (Value.int IntKind.i64
  n33) ∧ ∃ (R34 : List Own), ∃ (Φ35 : PW), Stable Φ35 ∧ Ctx W w32 (R34 ++ R30) Φ35 ∧ Br (decide (n33 ≠ 0)) (∀ (w36 : World) (R37 : List Own), Ctx W w36 (R34 ++ R37) Φ35 → J (Value.int
  IntKind.i64 n33) w36) (∀ (w38 : World) (R39 : List Own), Ctx W w38 (R34 ++ R39) Φ35 → ∃ (n40 : Int), w38.cell? (Addr.mk dB (dO + 3) none) = some (Value.int IntKind.i64 n40) ∧ Br (decide (0
  < n40)) (∀ (w41 : World) (R42 : List Own), Ctx W w41 (R34 ++ R42) Φ35 → ∃ (n43 : Int), w41.cell? (Addr.mk dB (dO + 3) none) = some (Value.int IntKind.i64 n43) ∧ I64 (n43 - 1) ∧ ∀ (w44 :
  World) (R45 : List Own), Ctx W w44 (R34 ++ R45) Φ35 → CanWrite w44 dB (dO + 3) 1 ∧ ∀ (w46 : World), w46 = w44.setCell (Addr.mk dB (dO + 3) none) (Value.int IntKind.i64 (n43 - 1)) → ∃ (R47 :
  List Own), ∃ (Φ48 : PW), Stable Φ48 ∧ Ctx W w46 (R47 ++ R45) Φ48 ∧ ∀ (w49 : World) (R50 : List Own), Ctx W w49 (R47 ++ R50) Φ48 → J (Value.int IntKind.i64 10) w49) (∀ (w51 : World) (R52 :
  List Own), Ctx W w51 (R34 ++ R52) Φ35 → ∃ (p53 : Option Nat), w51.cell? (Addr.mk dB dO none) = some (Value.map p53) ∧ ∀ (w54 : World) (R55 : List Own), Ctx W w54 (R34 ++ R55) Φ35 → ∃ (s56 :
  ByteArray), ∃ (s57 : ByteArray), (∀ (w58 : World), w58.heap = w54.heap → Sem.run Tryd.prog (Instr.lookup 56 (Value.map p53) (Value.int IntKind.i64 f) false) w58 = Result.ok (Value.agg
  #[Value.string s56, Value.string s57]) w58) ∧ ∀ (w59 : World) (R60 : List Own), Ctx W w59 (R34 ++ R60) Φ35 → Calls Tryd.prog F.disk_Disk_settle #[Value.pointer (some (Addr.mk dB dO none)),
  Value.int IntKind.i64 f, Value.string s56] w59 fun (e61 : Ending) (w62 : World) => e61 = Ending.returned (Value.tuple #[]) ∧ ∃ (R63 : List Own), ∃ (Φ64 : PW), Stable Φ64 ∧ Ctx W w62 (R63 ++
  R60) Φ64 ∧ ∀ (w65 : World) (R66 : List Own), Ctx W w65 (R63 ++ R66) Φ64 → J (Value.int IntKind.i64 0) w65))

theorem Bdisk_Disk_Sync_run (dB dO : Nat) (f : Int) {W w : World} {R : List Own} {Φ : PW} [Stable Φ] {J : Value → World → Prop} (c : Ctx W w R Φ) (h : Bdisk_Disk_Sync dB dO f W R Φ J) : Calls Tryd.prog F.disk_Disk_Sync #[.pointer (some ⟨dB, dO, none⟩), .int .i64 f] w fun e w' => ∃ v, e = .returned v ∧ J v w' :=
  vcFS_sound (H := { keep := some [0, 1, 4, 5, 7, 18, 24], cuts := [(3, [], [])] }) (by rw [show vcFS Tryd.prog W { keep := some [0, 1, 4, 5, 7, 18, 24], cuts := [(3, [], [])] } F.disk_Disk_Sync #[.pointer (some ⟨dB, dO, none⟩), .int .i64 f] R Φ J = Bdisk_Disk_Sync dB dO f W R Φ J by kernel_rfl]; exact h) c

/-- cell.Open -/
-- loop at region 11: 9 n, 10 i; blocks 
def Bcell_Open (dB dO : Nat) (file : Int) (W : World) (R : List Own) (Φ : PW) (J : Value → World → Prop) : Prop :=
  ∀ (k0 : Nat) (w1 : World) (R2 : List Own), Ctx W w1 (Own.blk k0 [Value.pointer (some (Addr.mk dB dO none)), Value.int IntKind.i64 file, Value.int IntKind.i64 0, Value.string (ByteArray.mk
  #[]), Value.bool false] 86 :: R ++ R2) Φ → Calls Tryd.prog F.disk_Disk_Read #[Value.pointer (some (Addr.mk dB dO none)), Value.int IntKind.i64 file, Value.int IntKind.i64 0, Value.int
  IntKind.i64 5] w1 fun (e3 : Ending) (w4 : World) => ∃ (s5 : ByteArray), ∃ (n6 : Int), e3 = Ending.returned (Value.tuple #[Value.string s5, Value.int IntKind.i64 n6]) ∧ ∃ (R7 : List Own), ∃
  (Φ8 : PW), Stable Φ8 ∧ Ctx W w4 (R7 ++ R2) Φ8 ∧ Br (decide (n6 ≠ 0)) (∀ (w9 : World) (R10 : List Own), Ctx W w9 (R7 ++ R10) Φ8 → J (Value.tuple #[Value.pointer none, Value.int IntKind.i64
  n6]) w9) (∀ (w11 : World) (R12 : List Own), Ctx W w11 (R7 ++ R12) Φ8 → ∃ (u13 : UInt8), ((!decide (s5 = ByteArray.mk #[])) = true → (0 : Int) ≤ 0 ∧ s5.data.toList.get?Internal 0 = some u13)
  ∧ Br (decide (s5 = ByteArray.mk #[]) || decide ((↑u13.toNat : Int) = 0)) (∀ (w14 : World) (R15 : List Own), Ctx W w14 (R7 ++ R15) Φ8 → J (Value.tuple #[Value.pointer (some (Addr.mk k0 0
  none)), Value.int IntKind.i64 0]) w14) (∀ (w16 : World) (R17 : List Own), Ctx W w16 (R7 ++ R17) Φ8 → ∃ (u18 : UInt8), ((!decide ((↑s5.size : Int) < 5)) = true → (0 : Int) ≤ 0 ∧
  s5.data.toList.get?Internal 0 = some u18) ∧ ∃ (u19 : UInt8), ((!decide ((↑s5.size : Int) < 5) && decide ((↑u18.toNat : Int) ≠ 1)) = true → (0 : Int) ≤ 0 ∧ s5.data.toList.get?Internal 0 =
  some u19) ∧ Br (decide ((↑s5.size : Int) < 5) || decide ((↑u18.toNat : Int) ≠ 1) && decide ((↑u19.toNat : Int) ≠ 2)) (∀ (w20 : World) (R21 : List Own), Ctx W w20 (R7 ++ R21) Φ8 → J
  (Value.tuple #[Value.pointer none, Value.int IntKind.i64 2]) w20) (exI fun (I22 : Int → Int → List Own → PW → Nat → Prop) => (∃ (R23 : List Own), ∃ (Φ24 : PW), ∃ (k25 : Nat), Stable Φ24 ∧
  (∀ (w26 : World) (R27 : List Own), Ctx W w26 (R7 ++ R27) Φ8 → Ctx W w26 (R23 ++ R27) Φ24) ∧ I22 0 4 R23 Φ24 k25) ∧ ∀ (n28 n29 : Int) (R30 : List Own) (I31 : List Nat → World → Prop) (k32 :
  Nat), Stable I31 → I22 n28 n29 R30 I31 k32 → Br (decide (0 < n29)) (∃ (n33 : Int), (∀ (w34 : World), Sem.run Tryd.prog (binOp BinOp.shl 3 (Value.int IntKind.i64 n28) (Value.int IntKind.u64
  8)) w34 = Result.ok (Value.int IntKind.i64 n33) w34) ∧ ∃ (u35 : UInt8), (0 ≤ n29 ∧ s5.data.toList.get?Internal n29.toNat = some u35) ∧ ∃ (n36 : Int), (∀ (w37 : World), Sem.run Tryd.prog
  (binOp BinOp.or 3 (Value.int IntKind.i64 n33) (Value.int IntKind.i64 (IntKind.i64.wrap (↑u35.toNat : Int)))) w37 = Result.ok (Value.int IntKind.i64 n36) w37) ∧ I64 (n29 - 1) ∧ ∃ (R38 : List
  Own), ∃ (Φ39 : PW), ∃ (k40 : Nat), Stable Φ39 ∧ (∀ (w41 : World) (R42 : List Own), Ctx W w41 (R30 ++ R42) I31 → Ctx W w41 (R38 ++ R42) Φ39) ∧ I22 n36 (n29 - 1) R38 Φ39 k40 ∧ k40 < k32) (Br
  (decide (65536 < n28)) (∀ (w43 : World) (R44 : List Own), Ctx W w43 (R30 ++ R44) I31 → J (Value.tuple #[Value.pointer none, Value.int IntKind.i64 2]) w43) (∃ (u45 : UInt8), ((0 : Int) ≤ 0 ∧
  s5.data.toList.get?Internal 0 = some u45) ∧ ∀ (w46 : World) (R47 : List Own), Ctx W w46 (R30 ++ R47) I31 → CanWrite w46 k0 2 1 ∧ ∀ (w48 : World), w48 = w46.setCell (Addr.mk k0 2 none)
  (Value.int IntKind.i64 (IntKind.i64.wrap (↑u45.toNat : Int))) → ∃ (R49 : List Own), ∃ (Φ50 : PW), Stable Φ50 ∧ Ctx W w48 (R49 ++ R47) Φ50 ∧ ∀ (w51 : World) (R52 : List Own), Ctx W w51 (R49
  ++ R52) Φ50 → ∃ (n53 : Int), w51.cell? (Addr.mk k0 2 none) = some (Value.int IntKind.i64 n53) ∧ (0 ≤ n53 ∧ n53 < 3) ∧ ∀ (w54 : World) (R55 : List Own), Ctx W w54 (R49 ++ R55) Φ50 → ∃ (n56 :
  Int), w54.cell? (Addr.mk 0 (0 + n53.toNat) none) = some (Value.int IntKind.i64 n56) ∧ ∀ (w57 : World) (R58 : List Own), Ctx W w57 (R49 ++ R58) Φ50 → Calls Tryd.prog F.disk_Disk_Read
  #[Value.pointer (some (Addr.mk dB dO none)), Value.int IntKind.i64 file, Value.int IntKind.i64 n56, Value.int IntKind.i64 n28] w57 fun (e59 : Ending) (w60 : World) => ∃ (s61 : ByteArray), ∃
  (n62 : Int), e59 = Ending.returned (Value.tuple #[Value.string s61, Value.int IntKind.i64 n62]) ∧ ∃ (R63 : List Own), ∃ (Φ64 : PW), Stable Φ64 ∧ Ctx W w60 (R63 ++ R58) Φ64 ∧ ∀ (w65 : World)
  (R66 : List Own), Ctx W w65 (R63 ++ R66) Φ64 → CanWrite w65 k0 3 1 ∧ ∀ (w67 : World), w67 = w65.setCell (Addr.mk k0 3 none) (Value.string s61) → ∃ (R68 : List Own), ∃ (Φ69 : PW), Stable Φ69
  ∧ Ctx W w67 (R68 ++ R66) Φ69 ∧ ∀ (w70 : World) (R71 : List Own), Ctx W w70 (R68 ++ R71) Φ69 → ∃ (s72 : ByteArray), (decide (n62 = 0) = true → w70.cell? (Addr.mk k0 3 none) = some
  (Value.string s72)) ∧ Br (decide (n62 = 0) && decide ((↑s72.size : Int) < n28)) (∀ (w73 : World) (R74 : List Own), Ctx W w73 (R68 ++ R74) Φ69 → J (Value.tuple #[Value.pointer none,
  Value.int IntKind.i64 2]) w73) (Br (decide (n62 ≠ 0)) (∀ (w75 : World) (R76 : List Own), Ctx W w75 (R68 ++ R76) Φ69 → J (Value.tuple #[Value.pointer none, Value.int IntKind.i64 n62]) w75)
  (∀ (w77 : World) (R78 : List Own), Ctx W w77 (R68 ++ R78) Φ69 → J (Value.tuple #[Value.pointer (some (Addr.mk k0 0 none)), Value.int IntKind.i64 0]) w77)))))))

theorem Bcell_Open_run (dB dO : Nat) (file : Int) {W w : World} {R : List Own} {Φ : PW} [Stable Φ] {J : Value → World → Prop} (c : Ctx W w R Φ) (h : Bcell_Open dB dO file W R Φ J) : Calls Tryd.prog F.cell_Open #[.pointer (some ⟨dB, dO, none⟩), .int .i64 file] w fun e w' => ∃ v, e = .returned v ∧ J v w' :=
  vcFS_sound (H := { keep := some [0, 1, 4, 5, 6, 7, 8, 9, 10, 22, 30, 44, 46, 57, 90, 92], loops := [(11, [(9, .one (.int .i64)), (10, .one (.int .i64))], [])] }) (by rw [show vcFS Tryd.prog W { keep := some [0, 1, 4, 5, 6, 7, 8, 9, 10, 22, 30, 44, 46, 57, 90, 92], loops := [(11, [(9, .one (.int .i64)), (10, .one (.int .i64))], [])] } F.cell_Open #[.pointer (some ⟨dB, dO, none⟩), .int .i64 file] R Φ J = Bcell_Open dB dO file W R Φ J by kernel_rfl]; exact h) c

/-- journal.numbers -/
def Bjournal_numbers (cB cO : Nat) (W : World) (R : List Own) (Φ : PW) (J : Value → World → Prop) : Prop :=
  ∀ (w0 : World) (R1 : List Own), Ctx W w0 (R ++ R1) Φ → Calls Tryd.prog F.cell_Cell_Get #[Value.pointer (some (Addr.mk cB cO none))] w0 fun (e2 : Ending) (w3 : World) => ∃ (s4 : ByteArray),
  ∃ (c5 : Bool), e2 = Ending.returned (Value.tuple #[Value.string s4, Value.bool c5]) ∧ ∃ (R6 : List Own), ∃ (Φ7 : PW), Stable Φ7 ∧ Ctx W w3 (R6 ++ R1) Φ7 ∧ Br (!c5) (∀ (w8 : World) (R9 :
  List Own), Ctx W w8 (R6 ++ R9) Φ7 → J (Value.tuple #[Value.int IntKind.i64 0, Value.int IntKind.i64 0, Value.bool true]) w8) (∀ (w10 : World) (R11 : List Own), Ctx W w10 (R6 ++ R11) Φ7 →
  Calls Tryd.prog F.wire_Open #[Value.string s4] w10 fun (e12 : Ending) (w13 : World) => ∃ (p14 : Option Addr), e12 = Ending.returned (Value.pointer p14) ∧ ∃ (R15 : List Own), ∃ (Φ16 : PW),
  Stable Φ16 ∧ Ctx W w13 (R15 ++ R11) Φ16 ∧ ∀ (w17 : World) (R18 : List Own), Ctx W w17 (R15 ++ R18) Φ16 → Calls Tryd.prog F.wire_Reader_Num #[Value.pointer p14] w17 fun (e19 : Ending) (w20 :
  World) => ∃ (n21 : Int), e19 = Ending.returned (Value.int IntKind.i64 n21) ∧ ∃ (R22 : List Own), ∃ (Φ23 : PW), Stable Φ23 ∧ Ctx W w20 (R22 ++ R18) Φ23 ∧ ∀ (w24 : World) (R25 : List Own),
  Ctx W w24 (R22 ++ R25) Φ23 → Calls Tryd.prog F.wire_Reader_Num #[Value.pointer p14] w24 fun (e26 : Ending) (w27 : World) => ∃ (n28 : Int), e26 = Ending.returned (Value.int IntKind.i64 n28)
  ∧ ∃ (R29 : List Own), ∃ (Φ30 : PW), Stable Φ30 ∧ Ctx W w27 (R29 ++ R25) Φ30 ∧ ∀ (w31 : World) (R32 : List Own), Ctx W w31 (R29 ++ R32) Φ30 → Calls Tryd.prog F.wire_Reader_Done
  #[Value.pointer p14] w31 fun (e33 : Ending) (w34 : World) => ∃ (c35 : Bool), e33 = Ending.returned (Value.bool c35) ∧ ∃ (R36 : List Own), ∃ (Φ37 : PW), Stable Φ37 ∧ Ctx W w34 (R36 ++ R32)
  Φ37 ∧ ∀ (w38 : World) (R39 : List Own), Ctx W w38 (R36 ++ R39) Φ37 → J (Value.tuple #[Value.int IntKind.i64 n21, Value.int IntKind.i64 n28, Value.bool c35]) w38)

theorem Bjournal_numbers_run (cB cO : Nat) {W w : World} {R : List Own} {Φ : PW} [Stable Φ] {J : Value → World → Prop} (c : Ctx W w R Φ) (h : Bjournal_numbers cB cO W R Φ J) : Calls Tryd.prog F.journal_numbers #[.pointer (some ⟨cB, cO, none⟩)] w fun e w' => ∃ v, e = .returned v ∧ J v w' :=
  vcFS_sound (H := { keep := some [0, 2, 3, 4, 5, 6, 7, 14] }) (by rw [show vcFS Tryd.prog W { keep := some [0, 2, 3, 4, 5, 6, 7, 14] } F.journal_numbers #[.pointer (some ⟨cB, cO, none⟩)] R Φ J = Bjournal_numbers cB cO W R Φ J by kernel_rfl]; exact h) c

/-- (*disk.Disk).Read -/
def Bdisk_Disk_Read (dB dO : Nat) (f : Int) (atx : Int) (size : Int) (W : World) (R : List Own) (Φ : PW) (J : Value → World → Prop) : Prop :=
  ∀ (w0 : World) (R1 : List Own), Ctx W w0 (R ++ R1) Φ → Calls Tryd.prog F.disk_Disk_may #[Value.pointer (some (Addr.mk dB dO none)), Value.int IntKind.i64 f] w0 fun (e2 : Ending) (w3 :
  World) => ∃ (n4 : Int), e2 = Ending.returned (Value.int IntKind.i64 n4) ∧ ∃ (R5 : List Own), ∃ (Φ6 : PW), Stable Φ6 ∧ Ctx W w3 (R5 ++ R1) Φ6 ∧ Br (decide (n4 ≠ 0)) (∀ (w7 : World) (R8 :
  List Own), Ctx W w7 (R5 ++ R8) Φ6 → J (Value.tuple #[Value.string (ByteArray.mk #[]), Value.int IntKind.i64 n4]) w7) (∀ (w9 : World) (R10 : List Own), Ctx W w9 (R5 ++ R10) Φ6 → Br (decide
  (atx < 0) || decide (size < 0)) (∀ (w11 : World) (R12 : List Own), Ctx W w11 (R5 ++ R12) Φ6 → J (Value.tuple #[Value.string (ByteArray.mk #[]), Value.int IntKind.i64 1]) w11) (∀ (w13 :
  World) (R14 : List Own), Ctx W w13 (R5 ++ R14) Φ6 → ∃ (p15 : Option Nat), w13.cell? (Addr.mk dB dO none) = some (Value.map p15) ∧ ∀ (w16 : World) (R17 : List Own), Ctx W w16 (R5 ++ R17) Φ6
  → ∃ (s18 : ByteArray), ∃ (s19 : ByteArray), (∀ (w20 : World), w20.heap = w16.heap → Sem.run Tryd.prog (Instr.lookup 56 (Value.map p15) (Value.int IntKind.i64 f) false) w20 = Result.ok
  (Value.agg #[Value.string s18, Value.string s19]) w20) ∧ (0 ≤ min atx (↑s18.size : Int) ∧ min atx (↑s18.size : Int) ≤ (↑s18.size : Int) ∧ s18.size ≤ s18.size) ∧ (0 ≤ min size (↑(s18.extract
  (min atx (↑s18.size : Int)).toNat s18.size).size : Int) ∧ min size (↑(s18.extract (min atx (↑s18.size : Int)).toNat s18.size).size : Int) ≤ (↑(s18.extract (min atx (↑s18.size : Int)).toNat
  s18.size).size : Int)) ∧ ∀ (w21 : World) (R22 : List Own), Ctx W w21 (R5 ++ R22) Φ6 → J (Value.tuple #[Value.string ((s18.extract (min atx (↑s18.size : Int)).toNat s18.size).extract 0 (min
  size (↑(s18.extract (min atx (↑s18.size : Int)).toNat s18.size).size : Int)).toNat), Value.int IntKind.i64 0]) w21))

theorem Bdisk_Disk_Read_run (dB dO : Nat) (f : Int) (atx : Int) (size : Int) {W w : World} {R : List Own} {Φ : PW} [Stable Φ] {J : Value → World → Prop} (c : Ctx W w R Φ) (h : Bdisk_Disk_Read dB dO f atx size W R Φ J) : Calls Tryd.prog F.disk_Disk_Read #[.pointer (some ⟨dB, dO, none⟩), .int .i64 f, .int .i64 atx, .int .i64 size] w fun e w' => ∃ v, e = .returned v ∧ J v w' :=
  vcFS_sound (H := { keep := some [0, 1, 2, 3, 8, 9, 10, 11, 16, 23] }) (by rw [show vcFS Tryd.prog W { keep := some [0, 1, 2, 3, 8, 9, 10, 11, 16, 23] } F.disk_Disk_Read #[.pointer (some ⟨dB, dO, none⟩), .int .i64 f, .int .i64 atx, .int .i64 size] R Φ J = Bdisk_Disk_Read dB dO f atx size W R Φ J by kernel_rfl]; exact h) c

/-- journal.read -/
-- loop at region 3: 7 l; blocks 
def Bjournal_read (s : ByteArray) (n : Int) (W : World) (R : List Own) (Φ : PW) (J : Value → World → Prop) : Prop :=
  ∀ (w0 : World) (R1 : List Own), Ctx W w0 (R ++ R1) Φ → Calls Tryd.prog F.wire_Open #[Value.string s] w0 fun (e2 : Ending) (w3 : World) => ∃ (p4 : Option Addr), e2 = Ending.returned
  (Value.pointer p4) ∧ ∃ (R5 : List Own), ∃ (Φ6 : PW), Stable Φ6 ∧ Ctx W w3 (R5 ++ R1) Φ6 ∧ exI fun (I7 : Option Addr → Nat → Nat → List Own → PW → Nat → Prop) => (∃ (R8 : List Own), ∃ (Φ9 :
  PW), ∃ (k10 : Nat), Stable Φ9 ∧ (∀ (w11 : World) (R12 : List Own), Ctx W w11 (R5 ++ R12) Φ6 → Ctx W w11 (R8 ++ R12) Φ9) ∧ I7 none 0 0 R8 Φ9 k10) ∧ ∀ (p13 : Option Addr) (k14 k15 : Nat) (R16
  : List Own) (I17 : List Nat → World → Prop) (k18 : Nat), Stable I17 → I7 p13 k14 k15 R16 I17 k18 → Br (decide ((↑k14 : Int) < n)) (∀ (w19 : World) (R20 : List Own), Ctx W w19 (R16 ++ R20)
  I17 → Calls Tryd.prog F.wire_Reader_Left #[Value.pointer p4] w19 fun (e21 : Ending) (w22 : World) => ∃ (n23 : Int), e21 = Ending.returned (Value.int IntKind.i64 n23) ∧ ∃ (R24 : List Own), ∃
  (Φ25 : PW), Stable Φ25 ∧ Ctx W w22 (R24 ++ R20) Φ25 ∧ ∀ (w26 : World) (R27 : List Own), Ctx W w26 (R24 ++ R27) Φ25 → Calls Tryd.prog F.wire_Reader_Text #[Value.pointer p4] w26 fun (e28 :
  Ending) (w29 : World) => ∃ (s30 : ByteArray), e28 = Ending.returned (Value.string s30) ∧ ∃ (R31 : List Own), ∃ (Φ32 : PW), Stable Φ32 ∧ Ctx W w29 (R31 ++ R27) Φ32 ∧ ∀ (w33 : World) (R34 :
  List Own), Ctx W w33 (R31 ++ R34) Φ32 → Calls Tryd.prog F.wire_Reader_Left #[Value.pointer p4] w33 fun (e35 : Ending) (w36 : World) => ∃ (n37 : Int), e35 = Ending.returned (Value.int
  IntKind.i64 n37) ∧ ∃ (R38 : List Own), ∃ (Φ39 : PW), Stable Φ39 ∧ Ctx W w36 (R38 ++ R34) Φ39 ∧ Br (decide (n23 ≤ n37)) (∀ (w40 : World) (R41 : List Own), Ctx W w40 (R38 ++ R41) Φ39 → Calls
  Tryd.prog F.wire_Reader_Done #[Value.pointer p4] w40 fun (e42 : Ending) (w43 : World) => ∃ (c44 : Bool), e42 = Ending.returned (Value.bool c44) ∧ ∃ (R45 : List Own), ∃ (Φ46 : PW), Stable
  Φ46 ∧ Ctx W w43 (R45 ++ R41) Φ46 ∧ Br c44 (Br (decide ((↑k14 : Int) = n)) (∀ (w47 : World) (R48 : List Own), Ctx W w47 (R45 ++ R48) Φ46 → Calls Tryd.prog F.journal_form #[Value.slice p13
  k14 k15] w47 fun (e49 : Ending) (w50 : World) => ∃ (s51 : ByteArray), e49 = Ending.returned (Value.string s51) ∧ ∃ (R52 : List Own), ∃ (Φ53 : PW), Stable Φ53 ∧ Ctx W w50 (R52 ++ R48) Φ53 ∧
  ∀ (w54 : World) (R55 : List Own), Ctx W w54 (R52 ++ R55) Φ53 → J (Value.tuple #[Value.slice p13 k14 k15, Value.bool (decide (s51 = s))]) w54) (∀ (w56 : World) (R57 : List Own), Ctx W w56
  (R45 ++ R57) Φ46 → J (Value.tuple #[Value.slice p13 k14 k15, Value.bool false]) w56)) (∀ (w58 : World) (R59 : List Own), Ctx W w58 (R45 ++ R59) Φ46 → J (Value.tuple #[Value.slice p13 k14
  k15, Value.bool false]) w58)) (Br (decide (n23 = 0)) (∀ (w60 : World) (R61 : List Own), Ctx W w60 (R38 ++ R61) Φ39 → Calls Tryd.prog F.wire_Reader_Done #[Value.pointer p4] w60 fun (e62 :
  Ending) (w63 : World) => ∃ (c64 : Bool), e62 = Ending.returned (Value.bool c64) ∧ ∃ (R65 : List Own), ∃ (Φ66 : PW), Stable Φ66 ∧ Ctx W w63 (R65 ++ R61) Φ66 ∧ Br c64 (Br (decide ((↑k14 :
  Int) = n)) (∀ (w67 : World) (R68 : List Own), Ctx W w67 (R65 ++ R68) Φ66 → Calls Tryd.prog F.journal_form #[Value.slice p13 k14 k15] w67 fun (e69 : Ending) (w70 : World) => ∃ (s71 :
  ByteArray), e69 = Ending.returned (Value.string s71) ∧ ∃ (R72 : List Own), ∃ (Φ73 : PW), Stable Φ73 ∧ Ctx W w70 (R72 ++ R68) Φ73 ∧ ∀ (w74 : World) (R75 : List Own), Ctx W w74 (R72 ++ R75)
  Φ73 → J (Value.tuple #[Value.slice p13 k14 k15, Value.bool (decide (s71 = s))]) w74) (∀ (w76 : World) (R77 : List Own), Ctx W w76 (R65 ++ R77) Φ66 → J (Value.tuple #[Value.slice p13 k14
  k15, Value.bool false]) w76)) (∀ (w78 : World) (R79 : List Own), Ctx W w78 (R65 ++ R79) Φ66 → J (Value.tuple #[Value.slice p13 k14 k15, Value.bool false]) w78)) (∀ (k80 : Nat) (w81 : World)
  (R82 : List Own), Ctx W w81 (Own.blk k80 [Value.string s30] 9 :: R38 ++ R82) Φ39 → ∃ (p83 : Option Addr), ∃ (k84 : Nat), ∃ (k85 : Nat), ∃ (w86 : World), Sem.run Tryd.prog (builtin
  Builtin.append #[36, 36] 36 #[false, false] #[Value.slice p13 k14 k15, Value.slice (some (Addr.mk k80 0 none)) 1 1]) w81 = Result.ok (Next.value (Value.slice p83 k84 k85)) w86 ∧ ∃ (R87 :
  List Own), ∃ (Φ88 : PW), Stable Φ88 ∧ Ctx W w86 (R87 ++ R82) Φ88 ∧ ∃ (R89 : List Own), ∃ (Φ90 : PW), ∃ (k91 : Nat), Stable Φ90 ∧ (∀ (w92 : World) (R93 : List Own), Ctx W w92 (R87 ++ R93)
  Φ88 → Ctx W w92 (R89 ++ R93) Φ90) ∧ I7 p83 k84 k85 R89 Φ90 k91 ∧ k91 < k18))) (∀ (w94 : World) (R95 : List Own), Ctx W w94 (R16 ++ R95) I17 → Calls Tryd.prog F.wire_Reader_Done
  #[Value.pointer p4] w94 fun (e96 : Ending) (w97 : World) => ∃ (c98 : Bool), e96 = Ending.returned (Value.bool c98) ∧ ∃ (R99 : List Own), ∃ (Φ100 : PW), Stable Φ100 ∧ Ctx W w97 (R99 ++ R95)
  Φ100 ∧ Br c98 (Br (decide ((↑k14 : Int) = n)) (∀ (w101 : World) (R102 : List Own), Ctx W w101 (R99 ++ R102) Φ100 → Calls Tryd.prog F.journal_form #[Value.slice p13 k14 k15] w101 fun (e103 :
  Ending) (w104 : World) => ∃ (s105 : ByteArray), e103 = Ending.returned (Value.string s105) ∧ ∃ (R106 : List Own), ∃ (Φ107 : PW), Stable Φ107 ∧ Ctx W w104 (R106 ++ R102) Φ107 ∧ ∀ (w108 :
  World) (R109 : List Own), Ctx W w108 (R106 ++ R109) Φ107 → J (Value.tuple #[Value.slice p13 k14 k15, Value.bool (decide (s105 = s))]) w108) (∀ (w110 : World) (R111 : List Own), Ctx W w110
  (R99 ++ R111) Φ100 → J (Value.tuple #[Value.slice p13 k14 k15, Value.bool false]) w110)) (∀ (w112 : World) (R113 : List Own), Ctx W w112 (R99 ++ R113) Φ100 → J (Value.tuple #[Value.slice
  p13 k14 k15, Value.bool false]) w112))

theorem Bjournal_read_run (s : ByteArray) (n : Int) {W w : World} {R : List Own} {Φ : PW} [Stable Φ] {J : Value → World → Prop} (c : Ctx W w R Φ) (h : Bjournal_read s n W R Φ J) : Calls Tryd.prog F.journal_read #[.string s, .int .i64 n] w fun e w' => ∃ v, e = .returned v ∧ J v w' :=
  vcFS_sound (H := { keep := some [0, 1, 4, 5, 6, 7, 8, 9, 15, 27], split := [6, 8], loops := [(3, [(7, .one (.slice))], [])] }) (by rw [show vcFS Tryd.prog W { keep := some [0, 1, 4, 5, 6, 7, 8, 9, 15, 27], split := [6, 8], loops := [(3, [(7, .one (.slice))], [])] } F.journal_read #[.string s, .int .i64 n] R Φ J = Bjournal_read s n W R Φ J by kernel_rfl]; exact h) c

/-- journal.form -/
-- loop at region 3: 8 ; blocks 
def Bjournal_form (lP : Option Addr) (lN lC : Nat) (W : World) (R : List Own) (Φ : PW) (J : Value → World → Prop) : Prop :=
  ∀ (k0 : Nat), exI fun (I1 : Int → List Own → PW → Nat → Prop) => (∃ (R2 : List Own), ∃ (Φ3 : PW), ∃ (k4 : Nat), Stable Φ3 ∧ (∀ (w5 : World) (R6 : List Own), Ctx W w5 (Own.blk k0
  [Value.pointer none, Value.slice none 0 0] 98 :: R ++ R6) Φ → Ctx W w5 (R2 ++ R6) Φ3) ∧ I1 0 R2 Φ3 k4) ∧ ∀ (n7 : Int) (R8 : List Own) (I9 : List Nat → World → Prop) (k10 : Nat), Stable I9 →
  I1 n7 R8 I9 k10 → Br (decide (n7 < (↑lN : Int))) ((0 ≤ n7 ∧ n7 < (↑lN : Int)) ∧ ptrK none lP fun (k11 k12 : Nat) => ∀ (w13 : World) (R14 : List Own), Ctx W w13 (R8 ++ R14) I9 → ∃ (s15 :
  ByteArray), w13.cell? (Addr.mk k11 (k12 + n7.toNat) none) = some (Value.string s15) ∧ ∀ (w16 : World) (R17 : List Own), Ctx W w16 (R8 ++ R17) I9 → Calls Tryd.prog F.wire_Text #[Value.string
  s15] w16 fun (e18 : Ending) (w19 : World) => ∃ (s20 : ByteArray), e18 = Ending.returned (Value.string s20) ∧ ∃ (R21 : List Own), ∃ (Φ22 : PW), Stable Φ22 ∧ Ctx W w19 (R21 ++ R17) Φ22 ∧ ∀
  (w23 : World) (R24 : List Own), Ctx W w23 (R21 ++ R24) Φ22 → Calls Tryd.prog F.strings_Builder_WriteString #[Value.pointer (some (Addr.mk k0 0 none)), Value.string s20] w23 fun (e25 :
  Ending) (w26 : World) => ∃ (n27 : Int), ∃ (v28 : Value), e25 = Ending.returned (Value.tuple #[Value.int IntKind.i64 n27, v28]) ∧ ∃ (R29 : List Own), ∃ (Φ30 : PW), Stable Φ30 ∧ Ctx W w26
  (R29 ++ R24) Φ30 ∧ I64 (n7 + 1) ∧ ∃ (R31 : List Own), ∃ (Φ32 : PW), ∃ (k33 : Nat), Stable Φ32 ∧ (∀ (w34 : World) (R35 : List Own), Ctx W w34 (R29 ++ R35) Φ30 → Ctx W w34 (R31 ++ R35) Φ32) ∧
  I1 (n7 + 1) R31 Φ32 k33 ∧ k33 < k10) (∀ (w36 : World) (R37 : List Own), Ctx W w36 (R8 ++ R37) I9 → Calls Tryd.prog F.strings_Builder_String #[Value.pointer (some (Addr.mk k0 0 none))] w36
  fun (e38 : Ending) (w39 : World) => ∃ (s40 : ByteArray), e38 = Ending.returned (Value.string s40) ∧ ∃ (R41 : List Own), ∃ (Φ42 : PW), Stable Φ42 ∧ Ctx W w39 (R41 ++ R37) Φ42 ∧ ∀ (w43 :
  World) (R44 : List Own), Ctx W w43 (R41 ++ R44) Φ42 → J (Value.string s40) w43)

theorem Bjournal_form_run (lP : Option Addr) (lN lC : Nat) {W w : World} {R : List Own} {Φ : PW} [Stable Φ] {J : Value → World → Prop} (c : Ctx W w R Φ) (h : Bjournal_form lP lN lC W R Φ J) : Calls Tryd.prog F.journal_form #[.slice lP lN lC] w fun e w' => ∃ v, e = .returned v ∧ J v w' :=
  vcFS_sound (H := { keep := some [0, 2, 3, 5, 6, 7, 8, 9], loops := [(3, [(8, .one (.int .i64))], [])] }) (by rw [show vcFS Tryd.prog W { keep := some [0, 2, 3, 5, 6, 7, 8, 9], loops := [(3, [(8, .one (.int .i64))], [])] } F.journal_form #[.slice lP lN lC] R Φ J = Bjournal_form lP lN lC W R Φ J by kernel_rfl]; exact h) c

/-- (*journal.Journal).note -/
def Bjournal_Journal_note (jB jO : Nat) (bytes : Int) (n : Int) (W : World) (R : List Own) (Φ : PW) (J : Value → World → Prop) : Prop :=
  ∃ (R0 : List Own), ∃ (Φ1 : PW), Stable Φ1 ∧ (∀ (w2 : World) (R3 : List Own), Ctx W w2 (R ++ R3) Φ → Ctx W w2 (R0 ++ R3) Φ1) ∧ ∃ (p4 : Option Addr), (∀ (w5 : World) (R6 : List Own), Ctx W w5
  (R0 ++ R6) Φ1 → ∃ (p7 : Option Addr), w5.cell? (Addr.mk jB (jO + 2) none) = some (Value.pointer p7) ∧ Value.pointer p7 = Value.pointer p4) ∧ ∀ (w8 : World) (R9 : List Own), Ctx W w8 (R ++
  R9) Φ → Calls Tryd.prog F.wire_Int #[Value.int IntKind.i64 bytes] w8 fun (e10 : Ending) (w11 : World) => ∃ (s12 : ByteArray), e10 = Ending.returned (Value.string s12) ∧ ∃ (R13 : List Own),
  ∃ (Φ14 : PW), Stable Φ14 ∧ Ctx W w11 (R13 ++ R9) Φ14 ∧ (∀ (w15 : World) (R16 : List Own), Ctx W w15 (R13 ++ R16) Φ14 → Ctx W w15 (R0 ++ R16) Φ1) ∧ ∀ (w17 : World) (R18 : List Own), Ctx W
  w17 (R13 ++ R18) Φ14 → Calls Tryd.prog F.wire_Int #[Value.int IntKind.i64 n] w17 fun (e19 : Ending) (w20 : World) => ∃ (s21 : ByteArray), e19 = Ending.returned (Value.string s21) ∧ ∃ (R22 :
  List Own), ∃ (Φ23 : PW), Stable Φ23 ∧ Ctx W w20 (R22 ++ R18) Φ23 ∧ (∀ (w24 : World) (R25 : List Own), Ctx W w24 (R22 ++ R25) Φ23 → Ctx W w24 (R0 ++ R25) Φ1) ∧ (s12.size + s21.size).le
  9223372036854775807 ∧ ∀ (w26 : World) (R27 : List Own), Ctx W w26 (R22 ++ R27) Φ23 → Calls Tryd.prog F.cell_Cell_Set #[Value.pointer p4, Value.string (s12 ++ s21)] w26 fun (e28 : Ending)
  (w29 : World) => ∃ (n30 : Int), e28 = Ending.returned (Value.int IntKind.i64 n30) ∧ ∃ (R31 : List Own), ∃ (Φ32 : PW), Stable Φ32 ∧ Ctx W w29 (R31 ++ R27) Φ32 ∧ ∀ (w33 : World) (R34 : List
  Own), Ctx W w33 (R31 ++ R34) Φ32 → CanWrite w33 jB (jO + 5) 1 ∧ ∀ (w35 : World), w35 = w33.setCell (Addr.mk jB (jO + 5) none) (Value.bool (decide (n30 ≠ 0))) → ∃ (R36 : List Own), ∃ (Φ37 :
  PW), Stable Φ37 ∧ Ctx W w35 (R36 ++ R34) Φ37 ∧ ∀ (w38 : World) (R39 : List Own), Ctx W w38 (R36 ++ R39) Φ37 → J (Value.int IntKind.i64 n30) w38

theorem Bjournal_Journal_note_run (jB jO : Nat) (bytes : Int) (n : Int) {W w : World} {R : List Own} {Φ : PW} [Stable Φ] {J : Value → World → Prop} (c : Ctx W w R Φ) (h : Bjournal_Journal_note jB jO bytes n W R Φ J) : Calls Tryd.prog F.journal_Journal_note #[.pointer (some ⟨jB, jO, none⟩), .int .i64 bytes, .int .i64 n] w fun e w' => ∃ v, e = .returned v ∧ J v w' :=
  vcFS_sound (H := { keep := some [0, 1, 2, 6, 7], stages := [(1, [.held [(0, true), (4, true), (6, true), (1, true), (2, true), (3, true), (5, false), (7, false), (8, true)], .stage [] (some 9), .stage [10] none])] }) (by rw [show vcFS Tryd.prog W { keep := some [0, 1, 2, 6, 7], stages := [(1, [.held [(0, true), (4, true), (6, true), (1, true), (2, true), (3, true), (5, false), (7, false), (8, true)], .stage [] (some 9), .stage [10] none])] } F.journal_Journal_note #[.pointer (some ⟨jB, jO, none⟩), .int .i64 bytes, .int .i64 n] R Φ J = Bjournal_Journal_note jB jO bytes n W R Φ J by kernel_rfl]; exact h) c

/-- disk.put -/
def Bdisk_put (s : ByteArray) (atx : Int) (t : ByteArray) (W : World) (R : List Own) (Φ : PW) (J : Value → World → Prop) : Prop :=
  Br (decide (t = ByteArray.mk #[])) (∀ (w0 : World) (R1 : List Own), Ctx W w0 (R ++ R1) Φ → J (Value.string s) w0) (I64 (atx + (↑t.size : Int)) ∧ (0 ≤ max (↑s.size : Int) (atx + (↑t.size :
  Int)) ∧ max (↑s.size : Int) (atx + (↑t.size : Int)) ≤ max (↑s.size : Int) (atx + (↑t.size : Int)) ∧ 1 * max (↑s.size : Int) (atx + (↑t.size : Int)) ≤ 281474976710656 ∧ max (↑s.size : Int)
  (atx + (↑t.size : Int)) ≤ 9223372036854775807) ∧ ∀ (k2 : Nat) (w3 : World) (R4 : List Own), Ctx W w3 (Own.blk k2 (List.replicate (max (↑s.size : Int) (atx + (↑t.size : Int))).toNat
  (Value.int IntKind.u8 0)) 5 :: R ++ R4) Φ → ∃ (n5 : Int), ∃ (w6 : World), Sem.run Tryd.prog (builtin Builtin.copy #[29, 9] 3 #[false, false] #[Value.slice (some (Addr.mk k2 0 none)) (max
  (↑s.size : Int) (atx + (↑t.size : Int))).toNat (max (↑s.size : Int) (atx + (↑t.size : Int))).toNat, Value.string s]) w3 = Result.ok (Next.value (Value.int IntKind.i64 n5)) w6 ∧ ∃ (R7 : List
  Own), ∃ (Φ8 : PW), Stable Φ8 ∧ Ctx W w6 (R7 ++ R4) Φ8 ∧ (0 ≤ atx ∧ atx ≤ (↑(max (↑s.size : Int) (atx + (↑t.size : Int))).toNat : Int) ∧ (max (↑s.size : Int) (atx + (↑t.size : Int))).toNat ≤
  (max (↑s.size : Int) (atx + (↑t.size : Int))).toNat) ∧ ∀ (w9 : World) (R10 : List Own), Ctx W w9 (R7 ++ R10) Φ8 → ∃ (n11 : Int), ∃ (w12 : World), Sem.run Tryd.prog (builtin Builtin.copy
  #[29, 9] 3 #[false, false] #[Value.slice (subPtr (some (Addr.mk k2 0 none)) 1 atx.toNat (max (↑s.size : Int) (atx + (↑t.size : Int))).toNat) ((max (↑s.size : Int) (atx + (↑t.size :
  Int))).toNat - atx.toNat) ((max (↑s.size : Int) (atx + (↑t.size : Int))).toNat - atx.toNat), Value.string t]) w9 = Result.ok (Next.value (Value.int IntKind.i64 n11)) w12 ∧ ∃ (R13 : List
  Own), ∃ (Φ14 : PW), Stable Φ14 ∧ Ctx W w12 (R13 ++ R10) Φ14 ∧ ∀ (w15 : World) (R16 : List Own), Ctx W w15 (R13 ++ R16) Φ14 → ∃ (s17 : ByteArray), ∃ (w18 : World), Sem.run Tryd.prog (convert
  29 9 (Value.slice (some (Addr.mk k2 0 none)) (max (↑s.size : Int) (atx + (↑t.size : Int))).toNat (max (↑s.size : Int) (atx + (↑t.size : Int))).toNat)) w15 = Result.ok (Value.string s17) w18
  ∧ ∃ (R19 : List Own), ∃ (Φ20 : PW), Stable Φ20 ∧ Ctx W w18 (R19 ++ R16) Φ20 ∧ ∀ (w21 : World) (R22 : List Own), Ctx W w21 (R19 ++ R22) Φ20 → J (Value.string s17) w21)

theorem Bdisk_put_run (s : ByteArray) (atx : Int) (t : ByteArray) {W w : World} {R : List Own} {Φ : PW} [Stable Φ] {J : Value → World → Prop} (c : Ctx W w R Φ) (h : Bdisk_put s atx t W R Φ J) : Calls Tryd.prog F.disk_put #[.string s, .int .i64 atx, .string t] w fun e w' => ∃ v, e = .returned v ∧ J v w' :=
  vcFS_sound (H := { keep := some [0, 1, 2, 6, 7, 9] }) (by rw [show vcFS Tryd.prog W { keep := some [0, 1, 2, 6, 7, 9] } F.disk_put #[.string s, .int .i64 atx, .string t] R Φ J = Bdisk_put s atx t W R Φ J by kernel_rfl]; exact h) c

/-- slices.Clone[[]int,int] -/
def Bslices_Clone_int_int (sP : Option Addr) (sN sC : Nat) (W : World) (R : List Own) (Φ : PW) (J : Value → World → Prop) : Prop :=
  Br sP.isNone (∀ (w0 : World) (R1 : List Own), Ctx W w0 (R ++ R1) Φ → J (Value.slice none 0 0) w0) (∀ (k2 : Nat) (w3 : World) (R4 : List Own), Ctx W w3 (Own.blk k2 [] 3 :: R ++ R4) Φ → ∃ (p5
  : Option Addr), ∃ (k6 : Nat), ∃ (k7 : Nat), ∃ (w8 : World), Sem.run Tryd.prog (builtin Builtin.append #[46, 46] 46 #[false, false] #[Value.slice (some (Addr.mk k2 0 none)) 0 0, Value.slice
  sP sN sC]) w3 = Result.ok (Next.value (Value.slice p5 k6 k7)) w8 ∧ ∃ (R9 : List Own), ∃ (Φ10 : PW), Stable Φ10 ∧ Ctx W w8 (R9 ++ R4) Φ10 ∧ ∀ (w11 : World) (R12 : List Own), Ctx W w11 (R9 ++
  R12) Φ10 → J (Value.slice p5 k6 k7) w11)

theorem Bslices_Clone_int_int_run (sP : Option Addr) (sN sC : Nat) {W w : World} {R : List Own} {Φ : PW} [Stable Φ] {J : Value → World → Prop} (c : Ctx W w R Φ) (h : Bslices_Clone_int_int sP sN sC W R Φ J) : Calls Tryd.prog F.slices_Clone_int_int #[.slice sP sN sC] w fun e w' => ∃ v, e = .returned v ∧ J v w' :=
  vcFS_sound (H := { keep := some [0, 2, 4] }) (by rw [show vcFS Tryd.prog W { keep := some [0, 2, 4] } F.slices_Clone_int_int #[.slice sP sN sC] R Φ J = Bslices_Clone_int_int sP sN sC W R Φ J by kernel_rfl]; exact h) c

/-- (*disk.Disk).may -/
def Bdisk_Disk_may (dB dO : Nat) (f : Int) (W : World) (R : List Own) (Φ : PW) (J : Value → World → Prop) : Prop :=
  ∀ (w0 : World) (R1 : List Own), Ctx W w0 (R ++ R1) Φ → ∃ (c2 : Bool), w0.cell? (Addr.mk dB (dO + 4) none) = some (Value.bool c2) ∧ Br c2 (∀ (w3 : World) (R4 : List Own), Ctx W w3 (R ++ R4)
  Φ → J (Value.int IntKind.i64 9) w3) (∀ (w5 : World) (R6 : List Own), Ctx W w5 (R ++ R6) Φ → Br (decide (f < 0) || decide (16 ≤ f)) (∀ (w7 : World) (R8 : List Own), Ctx W w7 (R ++ R8) Φ → J
  (Value.int IntKind.i64 1) w7) (∀ (w9 : World) (R10 : List Own), Ctx W w9 (R ++ R10) Φ → J (Value.int IntKind.i64 0) w9))

theorem Bdisk_Disk_may_run (dB dO : Nat) (f : Int) {W w : World} {R : List Own} {Φ : PW} [Stable Φ] {J : Value → World → Prop} (c : Ctx W w R Φ) (h : Bdisk_Disk_may dB dO f W R Φ J) : Calls Tryd.prog F.disk_Disk_may #[.pointer (some ⟨dB, dO, none⟩), .int .i64 f] w fun e w' => ∃ v, e = .returned v ∧ J v w' :=
  vcFS_sound (H := { keep := some [0, 1, 4, 5, 10] }) (by rw [show vcFS Tryd.prog W { keep := some [0, 1, 4, 5, 10] } F.disk_Disk_may #[.pointer (some ⟨dB, dO, none⟩), .int .i64 f] R Φ J = Bdisk_Disk_may dB dO f W R Φ J by kernel_rfl]; exact h) c

/-- (*disk.Disk).settle -/
def Bdisk_Disk_settle (dB dO : Nat) (f : Int) (s : ByteArray) (W : World) (R : List Own) (Φ : PW) (J : Value → World → Prop) : Prop :=
  ∀ (k0 : Nat) (w1 : World) (R2 : List Own), Ctx W w1 (Own.blk k0 [Value.int IntKind.i64 f] 3 :: R ++ R2) Φ → ∃ (n3 : Int), w1.cell? (Addr.mk k0 0 none) = some (Value.int IntKind.i64 n3) ∧ ∀
  (w4 : World) (R5 : List Own), Ctx W w4 (Own.blk k0 [Value.int IntKind.i64 f] 3 :: R ++ R5) Φ → ∃ (p6 : Option Nat), w4.cell? (Addr.mk dB dO none) = some (Value.map p6) ∧ ∀ (w7 : World) (R8
  : List Own), Ctx W w7 (Own.blk k0 [Value.int IntKind.i64 f] 3 :: R ++ R8) Φ → ∃ (w9 : World), Sem.run Tryd.prog (Instr.mapUpdate 56 (Value.map p6) (Value.int IntKind.i64 n3) (Value.agg
  #[Value.string s, Value.string s])) w7 = Result.ok () w9 ∧ ∃ (R10 : List Own), ∃ (Φ11 : PW), Stable Φ11 ∧ Ctx W w9 (R10 ++ R8) Φ11 ∧ ∀ (w12 : World) (R13 : List Own), Ctx W w12 (R10 ++ R13)
  Φ11 → ∃ (p14 : Option Addr), ∃ (k15 : Nat), ∃ (k16 : Nat), w12.cell? (Addr.mk dB (dO + 1) none) = some (Value.slice p14 k15 k16) ∧ ∀ (w17 : World) (R18 : List Own), Ctx W w17 (R10 ++ R18)
  Φ11 → Calls Tryd.prog F.slices_DeleteFunc_disk_sector_disk_sector #[Value.slice p14 k15 k16, Value.func (Fn.func 58) #[] #[Value.pointer (some (Addr.mk k0 0 none))]] w17 fun (e19 : Ending)
  (w20 : World) => ∃ (p21 : Option Addr), ∃ (k22 : Nat), ∃ (k23 : Nat), e19 = Ending.returned (Value.slice p21 k22 k23) ∧ ∃ (R24 : List Own), ∃ (Φ25 : PW), Stable Φ25 ∧ Ctx W w20 (R24 ++ R18)
  Φ25 ∧ ∀ (w26 : World) (R27 : List Own), Ctx W w26 (R24 ++ R27) Φ25 → CanWrite w26 dB (dO + 1) 1 ∧ ∀ (w28 : World), w28 = w26.setCell (Addr.mk dB (dO + 1) none) (Value.slice p21 k22 k23) → ∃
  (R29 : List Own), ∃ (Φ30 : PW), Stable Φ30 ∧ Ctx W w28 (R29 ++ R27) Φ30 ∧ ∀ (w31 : World) (R32 : List Own), Ctx W w31 (R29 ++ R32) Φ30 → ∃ (p33 : Option Nat), w31.cell? (Addr.mk dB (dO + 2)
  none) = some (Value.map p33) ∧ ∀ (w34 : World) (R35 : List Own), Ctx W w34 (R29 ++ R35) Φ30 → Calls Tryd.prog F.maps_DeleteFunc_map_disk_sectorbool_disk_sector_bool #[Value.map p33,
  Value.func (Fn.func 60) #[] #[Value.pointer (some (Addr.mk k0 0 none))]] w34 fun (e36 : Ending) (w37 : World) => e36 = Ending.returned (Value.tuple #[]) ∧ ∃ (R38 : List Own), ∃ (Φ39 : PW),
  Stable Φ39 ∧ Ctx W w37 (R38 ++ R35) Φ39 ∧ ∀ (w40 : World) (R41 : List Own), Ctx W w40 (R38 ++ R41) Φ39 → J (Value.tuple #[]) w40

theorem Bdisk_Disk_settle_run (dB dO : Nat) (f : Int) (s : ByteArray) {W w : World} {R : List Own} {Φ : PW} [Stable Φ] {J : Value → World → Prop} (c : Ctx W w R Φ) (h : Bdisk_Disk_settle dB dO f s W R Φ J) : Calls Tryd.prog F.disk_Disk_settle #[.pointer (some ⟨dB, dO, none⟩), .int .i64 f, .string s] w fun e w' => ∃ v, e = .returned v ∧ J v w' :=
  vcFS_sound (H := { keep := some [0, 2, 4], stages := [(1, [.stage [0, 4, 5, 6, 1, 7, 2, 3] (some 8)])] }) (by rw [show vcFS Tryd.prog W { keep := some [0, 2, 4], stages := [(1, [.stage [0, 4, 5, 6, 1, 7, 2, 3] (some 8)])] } F.disk_Disk_settle #[.pointer (some ⟨dB, dO, none⟩), .int .i64 f, .string s] R Φ J = Bdisk_Disk_settle dB dO f s W R Φ J by kernel_rfl]; exact h) c

/-- (*cell.Cell).Get -/
def Bcell_Cell_Get (cB cO : Nat) (W : World) (R : List Own) (Φ : PW) (J : Value → World → Prop) : Prop :=
  ∀ (w0 : World) (R1 : List Own), Ctx W w0 (R ++ R1) Φ → ∃ (s2 : ByteArray), w0.cell? (Addr.mk cB (cO + 3) none) = some (Value.string s2) ∧ ∃ (n3 : Int), w0.cell? (Addr.mk cB (cO + 2) none) =
  some (Value.int IntKind.i64 n3) ∧ ∀ (w4 : World) (R5 : List Own), Ctx W w4 (R ++ R5) Φ → J (Value.tuple #[Value.string s2, Value.bool (decide (0 < n3))]) w4

theorem Bcell_Cell_Get_run (cB cO : Nat) {W w : World} {R : List Own} {Φ : PW} [Stable Φ] {J : Value → World → Prop} (c : Ctx W w R Φ) (h : Bcell_Cell_Get cB cO W R Φ J) : Calls Tryd.prog F.cell_Cell_Get #[.pointer (some ⟨cB, cO, none⟩)] w fun e w' => ∃ v, e = .returned v ∧ J v w' :=
  vcFS_sound (H := { keep := some [0, 2, 3] }) (by rw [show vcFS Tryd.prog W { keep := some [0, 2, 3] } F.cell_Cell_Get #[.pointer (some ⟨cB, cO, none⟩)] R Φ J = Bcell_Cell_Get cB cO W R Φ J by kernel_rfl]; exact h) c

/-- (*cell.Cell).Set -/
-- cut 8: ; blocks 
-- cut 11: 6 slot; blocks 
def Bcell_Cell_Set (cB cO : Nat) (s : ByteArray) (W : World) (R : List Own) (Φ : PW) (J : Value → World → Prop) : Prop :=
  Br (decide (65536 < (↑s.size : Int))) (∀ (w0 : World) (R1 : List Own), Ctx W w0 (R ++ R1) Φ → J (Value.int IntKind.i64 6) w0) (exI fun (I2 : List Own → PW → Prop) => (∀ (w3 : World) (R4 :
  List Own), Ctx W w3 (R ++ R4) Φ → ∃ (c5 : Bool), w3.cell? (Addr.mk cB (cO + 4) none) = some (Value.bool c5) ∧ ∃ (n6 : Int), ((!c5) = true → w3.cell? (Addr.mk cB (cO + 2) none) = some
  (Value.int IntKind.i64 n6)) ∧ Br (!c5 && decide (0 < n6)) (∃ (R7 : List Own), ∃ (Φ8 : PW), Stable Φ8 ∧ (∀ (w9 : World) (R10 : List Own), Ctx W w9 (R ++ R10) Φ → Ctx W w9 (R7 ++ R10) Φ8) ∧ ∃
  (p11 : Option Addr), (∀ (w12 : World) (R13 : List Own), Ctx W w12 (R7 ++ R13) Φ8 → ∃ (p14 : Option Addr), w12.cell? (Addr.mk cB cO none) = some (Value.pointer p14) ∧ Value.pointer p14 =
  Value.pointer p11) ∧ ∃ (n15 : Int), (∀ (w16 : World) (R17 : List Own), Ctx W w16 (R7 ++ R17) Φ8 → ∃ (n18 : Int), w16.cell? (Addr.mk cB (cO + 1) none) = some (Value.int IntKind.i64 n18) ∧
  Value.int IntKind.i64 n18 = Value.int IntKind.i64 n15) ∧ ∀ (w19 : World) (R20 : List Own), Ctx W w19 (R ++ R20) Φ → Calls Tryd.prog F.disk_Disk_Sync #[Value.pointer p11, Value.int
  IntKind.i64 n15] w19 fun (e21 : Ending) (w22 : World) => ∃ (n23 : Int), e21 = Ending.returned (Value.int IntKind.i64 n23) ∧ ∃ (R24 : List Own), ∃ (Φ25 : PW), Stable Φ25 ∧ Ctx W w22 (R24 ++
  R20) Φ25 ∧ Br (decide (n23 ≠ 0)) (∀ (w26 : World) (R27 : List Own), Ctx W w26 (R24 ++ R27) Φ25 → J (Value.int IntKind.i64 n23) w26) (∀ (w28 : World) (R29 : List Own), Ctx W w28 (R24 ++ R29)
  Φ25 → CanWrite w28 cB (cO + 4) 1 ∧ ∀ (w30 : World), w30 = w28.setCell (Addr.mk cB (cO + 4) none) (Value.bool true) → ∃ (R31 : List Own), ∃ (Φ32 : PW), Stable Φ32 ∧ Ctx W w30 (R31 ++ R29)
  Φ32 ∧ ∃ (R33 : List Own), ∃ (Φ34 : PW), Stable Φ34 ∧ (∀ (w35 : World) (R36 : List Own), Ctx W w35 (R31 ++ R36) Φ32 → Ctx W w35 (R33 ++ R36) Φ34) ∧ I2 R33 Φ34)) (∃ (R37 : List Own), ∃ (Φ38 :
  PW), Stable Φ38 ∧ (∀ (w39 : World) (R40 : List Own), Ctx W w39 (R ++ R40) Φ → Ctx W w39 (R37 ++ R40) Φ38) ∧ I2 R37 Φ38)) ∧ ∀ (R41 : List Own) (I42 : List Nat → World → Prop), Stable I42 →
  I2 R41 I42 → exI fun (I43 : Int → List Own → PW → Prop) => (∀ (w44 : World) (R45 : List Own), Ctx W w44 (R41 ++ R45) I42 → ∃ (n46 : Int), w44.cell? (Addr.mk cB (cO + 2) none) = some
  (Value.int IntKind.i64 n46) ∧ Br (decide (n46 = 1)) (∃ (R47 : List Own), ∃ (Φ48 : PW), Stable Φ48 ∧ (∀ (w49 : World) (R50 : List Own), Ctx W w49 (R41 ++ R50) I42 → Ctx W w49 (R47 ++ R50)
  Φ48) ∧ I43 2 R47 Φ48) (∃ (R51 : List Own), ∃ (Φ52 : PW), Stable Φ52 ∧ (∀ (w53 : World) (R54 : List Own), Ctx W w53 (R41 ++ R54) I42 → Ctx W w53 (R51 ++ R54) Φ52) ∧ I43 1 R51 Φ52)) ∧ ∀ (n55
  : Int) (R56 : List Own) (I57 : List Nat → World → Prop), Stable I57 → I43 n55 R56 I57 → ∃ (R58 : List Own), ∃ (Φ59 : PW), Stable Φ59 ∧ (∀ (w60 : World) (R61 : List Own), Ctx W w60 (R56 ++
  R61) I57 → Ctx W w60 (R58 ++ R61) Φ59) ∧ (0 ≤ n55 ∧ n55 < 3) ∧ ∃ (n62 : Int), (∀ (w63 : World) (R64 : List Own), Ctx W w63 (R58 ++ R64) Φ59 → ∃ (n65 : Int), w63.cell? (Addr.mk 0 (0 +
  n55.toNat) none) = some (Value.int IntKind.i64 n65) ∧ Value.int IntKind.i64 n65 = Value.int IntKind.i64 n62) ∧ ∃ (p66 : Option Addr), (∀ (w67 : World) (R68 : List Own), Ctx W w67 (R58 ++
  R68) Φ59 → ∃ (p69 : Option Addr), w67.cell? (Addr.mk cB cO none) = some (Value.pointer p69) ∧ Value.pointer p69 = Value.pointer p66) ∧ ∃ (n70 : Int), (∀ (w71 : World) (R72 : List Own), Ctx
  W w71 (R58 ++ R72) Φ59 → ∃ (n73 : Int), w71.cell? (Addr.mk cB (cO + 1) none) = some (Value.int IntKind.i64 n73) ∧ Value.int IntKind.i64 n73 = Value.int IntKind.i64 n70) ∧ ∀ (w74 : World)
  (R75 : List Own), Ctx W w74 (R56 ++ R75) I57 → Calls Tryd.prog F.disk_Disk_Write #[Value.pointer p66, Value.int IntKind.i64 n70, Value.int IntKind.i64 n62, Value.string s] w74 fun (e76 :
  Ending) (w77 : World) => ∃ (n78 : Int), e76 = Ending.returned (Value.int IntKind.i64 n78) ∧ ∃ (R79 : List Own), ∃ (Φ80 : PW), Stable Φ80 ∧ Ctx W w77 (R79 ++ R75) Φ80 ∧ Br (decide (n78 ≠ 0))
  (∀ (w81 : World) (R82 : List Own), Ctx W w81 (R79 ++ R82) Φ80 → J (Value.int IntKind.i64 n78) w81) (∃ (R83 : List Own), ∃ (Φ84 : PW), Stable Φ84 ∧ (∀ (w85 : World) (R86 : List Own), Ctx W
  w85 (R79 ++ R86) Φ80 → Ctx W w85 (R83 ++ R86) Φ84) ∧ ∃ (p87 : Option Addr), (∀ (w88 : World) (R89 : List Own), Ctx W w88 (R83 ++ R89) Φ84 → ∃ (p90 : Option Addr), w88.cell? (Addr.mk cB cO
  none) = some (Value.pointer p90) ∧ Value.pointer p90 = Value.pointer p87) ∧ ∃ (n91 : Int), (∀ (w92 : World) (R93 : List Own), Ctx W w92 (R83 ++ R93) Φ84 → ∃ (n94 : Int), w92.cell? (Addr.mk
  cB (cO + 1) none) = some (Value.int IntKind.i64 n94) ∧ Value.int IntKind.i64 n94 = Value.int IntKind.i64 n91) ∧ ∀ (w95 : World) (R96 : List Own), Ctx W w95 (R79 ++ R96) Φ80 → Calls
  Tryd.prog F.disk_Disk_Sync #[Value.pointer p87, Value.int IntKind.i64 n91] w95 fun (e97 : Ending) (w98 : World) => ∃ (n99 : Int), e97 = Ending.returned (Value.int IntKind.i64 n99) ∧ ∃ (R100
  : List Own), ∃ (Φ101 : PW), Stable Φ101 ∧ Ctx W w98 (R100 ++ R96) Φ101 ∧ Br (decide (n99 ≠ 0)) (∀ (w102 : World) (R103 : List Own), Ctx W w102 (R100 ++ R103) Φ101 → J (Value.int IntKind.i64
  n99) w102) (∃ (R104 : List Own), ∃ (Φ105 : PW), Stable Φ105 ∧ (∀ (w106 : World) (R107 : List Own), Ctx W w106 (R100 ++ R107) Φ101 → Ctx W w106 (R104 ++ R107) Φ105) ∧ ∃ (p108 : Option Addr),
  (∀ (w109 : World) (R110 : List Own), Ctx W w109 (R104 ++ R110) Φ105 → ∃ (p111 : Option Addr), w109.cell? (Addr.mk cB cO none) = some (Value.pointer p111) ∧ Value.pointer p111 =
  Value.pointer p108) ∧ ∃ (n112 : Int), (∀ (w113 : World) (R114 : List Own), Ctx W w113 (R104 ++ R114) Φ105 → ∃ (n115 : Int), w113.cell? (Addr.mk cB (cO + 1) none) = some (Value.int
  IntKind.i64 n115) ∧ Value.int IntKind.i64 n115 = Value.int IntKind.i64 n112) ∧ ∀ (w116 : World) (R117 : List Own), Ctx W w116 (R100 ++ R117) Φ101 → Calls Tryd.prog F.cell_header #[Value.int
  IntKind.i64 n55, Value.string s] w116 fun (e118 : Ending) (w119 : World) => ∃ (s120 : ByteArray), e118 = Ending.returned (Value.string s120) ∧ ∃ (R121 : List Own), ∃ (Φ122 : PW), Stable
  Φ122 ∧ Ctx W w119 (R121 ++ R117) Φ122 ∧ (∀ (w123 : World) (R124 : List Own), Ctx W w123 (R121 ++ R124) Φ122 → Ctx W w123 (R104 ++ R124) Φ105) ∧ ∀ (w125 : World) (R126 : List Own), Ctx W
  w125 (R121 ++ R126) Φ122 → Calls Tryd.prog F.disk_Disk_Write #[Value.pointer p108, Value.int IntKind.i64 n112, Value.int IntKind.i64 0, Value.string s120] w125 fun (e127 : Ending) (w128 :
  World) => ∃ (n129 : Int), e127 = Ending.returned (Value.int IntKind.i64 n129) ∧ ∃ (R130 : List Own), ∃ (Φ131 : PW), Stable Φ131 ∧ Ctx W w128 (R130 ++ R126) Φ131 ∧ Br (decide (n129 ≠ 0)) (∀
  (w132 : World) (R133 : List Own), Ctx W w132 (R130 ++ R133) Φ131 → J (Value.int IntKind.i64 n129) w132) (∀ (w134 : World) (R135 : List Own), Ctx W w134 (R130 ++ R135) Φ131 → CanWrite w134
  cB (cO + 2) 1 ∧ ∀ (w136 : World), w136 = w134.setCell (Addr.mk cB (cO + 2) none) (Value.int IntKind.i64 n55) → ∃ (R137 : List Own), ∃ (Φ138 : PW), Stable Φ138 ∧ Ctx W w136 (R137 ++ R135)
  Φ138 ∧ ∀ (w139 : World) (R140 : List Own), Ctx W w139 (R137 ++ R140) Φ138 → CanWrite w139 cB (cO + 3) 1 ∧ ∀ (w141 : World), w141 = w139.setCell (Addr.mk cB (cO + 3) none) (Value.string s) →
  ∃ (R142 : List Own), ∃ (Φ143 : PW), Stable Φ143 ∧ Ctx W w141 (R142 ++ R140) Φ143 ∧ ∀ (w144 : World) (R145 : List Own), Ctx W w144 (R142 ++ R145) Φ143 → CanWrite w144 cB (cO + 4) 1 ∧ ∀ (w146
  : World), w146 = w144.setCell (Addr.mk cB (cO + 4) none) (Value.bool false) → ∃ (R147 : List Own), ∃ (Φ148 : PW), Stable Φ148 ∧ Ctx W w146 (R147 ++ R145) Φ148 ∧ ∃ (R149 : List Own), ∃ (Φ150
  : PW), Stable Φ150 ∧ (∀ (w151 : World) (R152 : List Own), Ctx W w151 (R147 ++ R152) Φ148 → Ctx W w151 (R149 ++ R152) Φ150) ∧ ∃ (p153 : Option Addr), (∀ (w154 : World) (R155 : List Own), Ctx
  W w154 (R149 ++ R155) Φ150 → ∃ (p156 : Option Addr), w154.cell? (Addr.mk cB cO none) = some (Value.pointer p156) ∧ Value.pointer p156 = Value.pointer p153) ∧ ∃ (n157 : Int), (∀ (w158 :
  World) (R159 : List Own), Ctx W w158 (R149 ++ R159) Φ150 → ∃ (n160 : Int), w158.cell? (Addr.mk cB (cO + 1) none) = some (Value.int IntKind.i64 n160) ∧ Value.int IntKind.i64 n160 = Value.int
  IntKind.i64 n157) ∧ ∀ (w161 : World) (R162 : List Own), Ctx W w161 (R147 ++ R162) Φ148 → Calls Tryd.prog F.disk_Disk_Sync #[Value.pointer p153, Value.int IntKind.i64 n157] w161 fun (e163 :
  Ending) (w164 : World) => ∃ (n165 : Int), e163 = Ending.returned (Value.int IntKind.i64 n165) ∧ ∃ (R166 : List Own), ∃ (Φ167 : PW), Stable Φ167 ∧ Ctx W w164 (R166 ++ R162) Φ167 ∧ ∀ (w168 :
  World) (R169 : List Own), Ctx W w168 (R166 ++ R169) Φ167 → CanWrite w168 cB (cO + 4) 1 ∧ ∀ (w170 : World), w170 = w168.setCell (Addr.mk cB (cO + 4) none) (Value.bool (decide (n165 = 0))) →
  ∃ (R171 : List Own), ∃ (Φ172 : PW), Stable Φ172 ∧ Ctx W w170 (R171 ++ R169) Φ172 ∧ ∀ (w173 : World) (R174 : List Own), Ctx W w173 (R171 ++ R174) Φ172 → J (Value.int IntKind.i64 n165)
  w173))))

theorem Bcell_Cell_Set_run (cB cO : Nat) (s : ByteArray) {W w : World} {R : List Own} {Φ : PW} [Stable Φ] {J : Value → World → Prop} (c : Ctx W w R Φ) (h : Bcell_Cell_Set cB cO s W R Φ J) : Calls Tryd.prog F.cell_Cell_Set #[.pointer (some ⟨cB, cO, none⟩), .string s] w fun e w' => ∃ v, e = .returned v ∧ J v w' :=
  vcFS_sound (H := { keep := some [0, 1, 4, 5, 6, 7, 8, 9, 10, 13, 25, 36, 45, 60, 72, 87], stages := [(4, [.held [(0, true), (4, true), (1, true), (5, true), (2, true), (6, true), (3, true), (7, true)], .stage [] (some 8), .stage [9] none]), (11, [.held [(0, true), (4, true), (8, true), (11, true), (1, true), (5, true), (9, true), (2, true), (6, true), (10, true), (3, true), (7, true)], .stage [] (some 12), .stage [13] none]), (14, [.held [(0, true), (4, true), (1, true), (5, true), (2, true), (6, true), (3, true), (7, true)], .stage [] (some 8), .stage [9] none]), (17, [.held [(0, true), (4, true), (8, true), (9, true), (1, true), (5, true), (2, true), (6, true), (3, true), (7, true), (10, false)], .stage [] (some 11), .stage [12] none]), (21, [.held [(0, true), (4, true), (1, true), (5, true), (2, true), (6, true), (3, true), (7, true)], .stage [] (some 8), .stage [9] none])], cuts := [(8, [], []), (11, [(6, .one (.int .i64))], [])] }) (by rw [show vcFS Tryd.prog W { keep := some [0, 1, 4, 5, 6, 7, 8, 9, 10, 13, 25, 36, 45, 60, 72, 87], stages := [(4, [.held [(0, true), (4, true), (1, true), (5, true), (2, true), (6, true), (3, true), (7, true)], .stage [] (some 8), .stage [9] none]), (11, [.held [(0, true), (4, true), (8, true), (11, true), (1, true), (5, true), (9, true), (2, true), (6, true), (10, true), (3, true), (7, true)], .stage [] (some 12), .stage [13] none]), (14, [.held [(0, true), (4, true), (1, true), (5, true), (2, true), (6, true), (3, true), (7, true)], .stage [] (some 8), .stage [9] none]), (17, [.held [(0, true), (4, true), (8, true), (9, true), (1, true), (5, true), (2, true), (6, true), (3, true), (7, true), (10, false)], .stage [] (some 11), .stage [12] none]), (21, [.held [(0, true), (4, true), (1, true), (5, true), (2, true), (6, true), (3, true), (7, true)], .stage [] (some 8), .stage [9] none])], cuts := [(8, [], []), (11, [(6, .one (.int .i64))], [])] } F.cell_Cell_Set #[.pointer (some ⟨cB, cO, none⟩), .string s] R Φ J = Bcell_Cell_Set cB cO s W R Φ J by kernel_rfl]; exact h) c

/-- slices.DeleteFunc[[]disk.sector,disk.sector] -/
-- loop at region 5: 5 i, 6 j; blocks 
-- known blocks: 7 v
def Bslices_DeleteFunc_disk_sector_disk_sector (sP : Option Addr) (sN sC : Nat) (delF : FuncId) (delC : Array Value) (W : World) (R : List Own) (Φ : PW) (J : Value → World → Prop) : Prop :=
  ∀ (w0 : World) (R1 : List Own), Ctx W w0 (R ++ R1) Φ → Calls Tryd.prog F.slices_IndexFunc_disk_sector_disk_sector #[Value.slice sP sN sC, Value.func (Fn.func delF) #[] delC] w0 fun (e2 :
  Ending) (w3 : World) => ∃ (n4 : Int), e2 = Ending.returned (Value.int IntKind.i64 n4) ∧ ∃ (R5 : List Own), ∃ (Φ6 : PW), Stable Φ6 ∧ Ctx W w3 (R5 ++ R1) Φ6 ∧ Br (decide (n4 = -1)) (∀ (w7 :
  World) (R8 : List Own), Ctx W w7 (R5 ++ R8) Φ6 → J (Value.slice sP sN sC) w7) (I64 (n4 + 1) ∧ exI fun (I9 : Int → Int → List Own → PW → Nat → Prop) => (∃ (R10 : List Own), ∃ (Φ11 : PW), ∃
  (k12 : Nat), Stable Φ11 ∧ (∀ (w13 : World) (R14 : List Own), Ctx W w13 (R5 ++ R14) Φ6 → Ctx W w13 (R10 ++ R14) Φ11) ∧ I9 n4 (n4 + 1) R10 Φ11 k12) ∧ ∀ (n15 n16 : Int) (R17 : List Own) (I18 :
  List Nat → World → Prop) (k19 : Nat), Stable I18 → I9 n15 n16 R17 I18 k19 → Br (decide (n16 < (↑sN : Int))) ((0 ≤ n16 ∧ n16 < (↑sN : Int)) ∧ ptrK none sP fun (k20 k21 : Nat) => ∀ (w22 :
  World) (R23 : List Own), Ctx W w22 (R17 ++ R23) I18 → ∃ (n24 : Int), ∃ (n25 : Int), RowAt w22 k20 (k21 + n16.toNat * 2) [Value.int IntKind.i64 n24, Value.int IntKind.i64 n25] ∧ ∀ (b : Nat)
  (w26 : World) (R27 : List Own), Ctx W w26 (R17 ++ R27) I18 → okFun Tryd.prog delF = true ∧ Calls Tryd.prog delF (Array.mk (Value.agg #[Value.int IntKind.i64 n24, Value.int IntKind.i64 n25]
  :: delC.toList)) w26 fun (e28 : Ending) (w29 : World) => ∃ (c30 : Bool), e28 = Ending.returned (Value.bool c30) ∧ ∃ (R31 : List Own), ∃ (Φ32 : PW), Stable Φ32 ∧ Ctx W w29 (R31 ++ R27) Φ32 ∧
  Br (!c30) ((0 ≤ n15 ∧ n15 < (↑sN : Int)) ∧ ptrK none sP fun (k33 k34 : Nat) => ∀ (w35 : World) (R36 : List Own), Ctx W w35 (R31 ++ R36) Φ32 → CanWrite w35 k33 (k34 + n15.toNat * 2) 2 ∧ ∀
  (w37 : World), w37 = w35.setCells k33 (k34 + n15.toNat * 2) [Value.int IntKind.i64 n24, Value.int IntKind.i64 n25] → ∃ (R38 : List Own), ∃ (Φ39 : PW), Stable Φ39 ∧ Ctx W w37 (R38 ++ R36)
  Φ39 ∧ I64 (n15 + 1) ∧ I64 (n16 + 1) ∧ ∃ (R40 : List Own), ∃ (Φ41 : PW), ∃ (k42 : Nat), Stable Φ41 ∧ (∀ (w43 : World) (R44 : List Own), Ctx W w43 (R38 ++ R44) Φ39 → Ctx W w43 (R40 ++ R44)
  Φ41) ∧ I9 (n15 + 1) (n16 + 1) R40 Φ41 k42 ∧ k42 < k19) (I64 (n16 + 1) ∧ ∃ (R45 : List Own), ∃ (Φ46 : PW), ∃ (k47 : Nat), Stable Φ46 ∧ (∀ (w48 : World) (R49 : List Own), Ctx W w48 (R31 ++
  R49) Φ32 → Ctx W w48 (R45 ++ R49) Φ46) ∧ I9 n15 (n16 + 1) R45 Φ46 k47 ∧ k47 < k19)) ((0 ≤ n15 ∧ n15 ≤ (↑sN : Int) ∧ sN ≤ sC) ∧ ∀ (w50 : World) (R51 : List Own), Ctx W w50 (R17 ++ R51) I18 →
  ∃ (w52 : World), Sem.run Tryd.prog (builtin Builtin.clear #[58] 0 #[false] #[Value.slice (subPtr sP 2 n15.toNat sC) (sN - n15.toNat) (sC - n15.toNat)]) w50 = Result.ok (Next.value
  (Value.tuple #[])) w52 ∧ ∃ (R53 : List Own), ∃ (Φ54 : PW), Stable Φ54 ∧ Ctx W w52 (R53 ++ R51) Φ54 ∧ (0 ≤ n15 ∧ n15 ≤ (↑sC : Int)) ∧ ∀ (w55 : World) (R56 : List Own), Ctx W w55 (R53 ++ R56)
  Φ54 → J (Value.slice (subPtr sP 2 0 sC) n15.toNat sC) w55))

theorem Bslices_DeleteFunc_disk_sector_disk_sector_run (sP : Option Addr) (sN sC : Nat) (delF : FuncId) (delC : Array Value) {W w : World} {R : List Own} {Φ : PW} [Stable Φ] {J : Value → World → Prop} (c : Ctx W w R Φ) (h : Bslices_DeleteFunc_disk_sector_disk_sector sP sN sC delF delC W R Φ J) : Calls Tryd.prog F.slices_DeleteFunc_disk_sector_disk_sector #[.slice sP sN sC, .func (.func delF) #[] delC] w fun e w' => ∃ v, e = .returned v ∧ J v w' :=
  vcFS_sound (H := { keep := some [0, 1, 4, 5, 6, 7, 12, 19, 29], wrap := [28], track := [7], loops := [(5, [(5, .one (.int .i64)), (6, .one (.int .i64))], [])] }) (by rw [show vcFS Tryd.prog W { keep := some [0, 1, 4, 5, 6, 7, 12, 19, 29], wrap := [28], track := [7], loops := [(5, [(5, .one (.int .i64)), (6, .one (.int .i64))], [])] } F.slices_DeleteFunc_disk_sector_disk_sector #[.slice sP sN sC, .func (.func delF) #[] delC] R Φ J = Bslices_DeleteFunc_disk_sector_disk_sector sP sN sC delF delC W R Φ J by kernel_rfl]; exact h) c

/-- (*disk.Disk).settle$1 -/
-- known blocks: 2 p
def Bdisk_Disk_settle_1 (p0 p1 : Int) (kB kO : Nat) (W : World) (R : List Own) (Φ : PW) (J : Value → World → Prop) : Prop :=
  ∀ (b : Nat) (w0 : World) (R1 : List Own), Ctx W w0 (R ++ R1) Φ → ∃ (n2 : Int), w0.cell? (Addr.mk kB kO none) = some (Value.int IntKind.i64 n2) ∧ ∀ (w3 : World) (R4 : List Own), Ctx W w3 (R
  ++ R4) Φ → J (Value.bool (decide (p0 = n2))) w3

theorem Bdisk_Disk_settle_1_run (p0 p1 : Int) (kB kO : Nat) {W w : World} {R : List Own} {Φ : PW} [Stable Φ] {J : Value → World → Prop} (c : Ctx W w R Φ) (h : Bdisk_Disk_settle_1 p0 p1 kB kO W R Φ J) : Calls Tryd.prog F.disk_Disk_settle_1 #[.agg #[.int .i64 p0, .int .i64 p1], .pointer (some ⟨kB, kO, none⟩)] w fun e w' => ∃ v, e = .returned v ∧ J v w' :=
  vcFS_sound (H := { keep := some [1, 2, 3], track := [2] }) (by rw [show vcFS Tryd.prog W { keep := some [1, 2, 3], track := [2] } F.disk_Disk_settle_1 #[.agg #[.int .i64 p0, .int .i64 p1], .pointer (some ⟨kB, kO, none⟩)] R Φ J = Bdisk_Disk_settle_1 p0 p1 kB kO W R Φ J by kernel_rfl]; exact h) c

/-- maps.DeleteFunc[map[disk.sector]bool,disk.sector,bool] -/
-- loop at region 1: ; blocks 
-- known blocks: 4 k
def Bmaps_DeleteFunc_map_disk_sectorbool_disk_sector_bool (m : Option Nat) (delF : FuncId) (delC : Array Value) (W : World) (R : List Own) (Φ : PW) (J : Value → World → Prop) : Prop :=
  ∀ (w0 : World) (R1 : List Own), Ctx W w0 (R ++ R1) Φ → ∃ (p2 : Option Addr), ∃ (w3 : World), Sem.run Tryd.prog (Instr.range 57 (Value.map m)) w0 = Result.ok (Value.pointer p2) w3 ∧ ∃ (R4 :
  List Own), ∃ (Φ5 : PW), Stable Φ5 ∧ Ctx W w3 (R4 ++ R1) Φ5 ∧ exI fun (I6 : List Own → PW → Nat → Prop) => (∃ (R7 : List Own), ∃ (Φ8 : PW), ∃ (k9 : Nat), Stable Φ8 ∧ (∀ (w10 : World) (R11 :
  List Own), Ctx W w10 (R4 ++ R11) Φ5 → Ctx W w10 (R7 ++ R11) Φ8) ∧ I6 R7 Φ8 k9) ∧ ∀ (R12 : List Own) (I13 : List Nat → World → Prop) (k14 : Nat), Stable I13 → I6 R12 I13 k14 → ∀ (w15 :
  World) (R16 : List Own), Ctx W w15 (R12 ++ R16) I13 → (∃ (w17 : World), Sem.run Tryd.prog (Instr.next (Value.pointer p2) false 0) w15 = Result.ok (Value.tuple #[Value.bool false]) w17 ∧ ∃
  (R18 : List Own), ∃ (Φ19 : PW), Stable Φ19 ∧ Ctx W w17 (R18 ++ R16) Φ19 ∧ ∀ (w20 : World) (R21 : List Own), Ctx W w20 (R18 ++ R21) Φ19 → J (Value.tuple #[]) w20) ∨ ∃ (v22 : Value), ∃ (v23 :
  Value), ∃ (w24 : World), Sem.run Tryd.prog (Instr.next (Value.pointer p2) false 0) w15 = Result.ok (Value.tuple #[Value.bool true, v22, v23]) w24 ∧ ∃ (R25 : List Own), ∃ (Φ26 : PW), Stable
  Φ26 ∧ Ctx W w24 (R25 ++ R16) Φ26 ∧ ∀ (w27 : World) (R28 : List Own), Ctx W w27 (R25 ++ R28) Φ26 → ∃ (n29 : Int), ∃ (n30 : Int), ∃ (c31 : Bool), ∃ (w32 : World), Sem.run Tryd.prog
  (Instr.entry (Value.pointer p2)) w27 = Result.ok (Value.tuple #[Value.agg #[Value.int IntKind.i64 n29, Value.int IntKind.i64 n30], Value.bool c31]) w32 ∧ ∃ (R33 : List Own), ∃ (Φ34 : PW),
  Stable Φ34 ∧ Ctx W w32 (R33 ++ R28) Φ34 ∧ ∀ (b : Nat) (w35 : World) (R36 : List Own), Ctx W w35 (R33 ++ R36) Φ34 → okFun Tryd.prog delF = true ∧ Calls Tryd.prog delF (Array.mk (Value.agg
  #[Value.int IntKind.i64 n29, Value.int IntKind.i64 n30] :: Value.bool c31 :: delC.toList)) w35 fun (e37 : Ending) (w38 : World) => ∃ (c39 : Bool), e37 = Ending.returned (Value.bool c39) ∧ ∃
  (R40 : List Own), ∃ (Φ41 : PW), Stable Φ41 ∧ Ctx W w38 (R40 ++ R36) Φ41 ∧ Br c39 (∀ (w42 : World) (R43 : List Own), Ctx W w42 (R40 ++ R43) Φ41 → ∃ (w44 : World), Sem.run Tryd.prog (builtin
  Builtin.delete #[57, 79] 0 #[false, false] #[Value.map m, Value.agg #[Value.int IntKind.i64 n29, Value.int IntKind.i64 n30]]) w42 = Result.ok (Next.value (Value.tuple #[])) w44 ∧ ∃ (R45 :
  List Own), ∃ (Φ46 : PW), Stable Φ46 ∧ Ctx W w44 (R45 ++ R43) Φ46 ∧ ∃ (R47 : List Own), ∃ (Φ48 : PW), ∃ (k49 : Nat), Stable Φ48 ∧ (∀ (w50 : World) (R51 : List Own), Ctx W w50 (R45 ++ R51)
  Φ46 → Ctx W w50 (R47 ++ R51) Φ48) ∧ I6 R47 Φ48 k49 ∧ k49 < k14) (∃ (R52 : List Own), ∃ (Φ53 : PW), ∃ (k54 : Nat), Stable Φ53 ∧ (∀ (w55 : World) (R56 : List Own), Ctx W w55 (R40 ++ R56) Φ41
  → Ctx W w55 (R52 ++ R56) Φ53) ∧ I6 R52 Φ53 k54 ∧ k54 < k14)

theorem Bmaps_DeleteFunc_map_disk_sectorbool_disk_sector_bool_run (m : Option Nat) (delF : FuncId) (delC : Array Value) {W w : World} {R : List Own} {Φ : PW} [Stable Φ] {J : Value → World → Prop} (c : Ctx W w R Φ) (h : Bmaps_DeleteFunc_map_disk_sectorbool_disk_sector_bool m delF delC W R Φ J) : Calls Tryd.prog F.maps_DeleteFunc_map_disk_sectorbool_disk_sector_bool #[.map m, .func (.func delF) #[] delC] w fun e w' => ∃ v, e = .returned v ∧ J v w' :=
  vcFS_sound (H := { keep := some [0, 1, 4, 5, 7, 9, 16], wrap := [16], track := [4], loops := [(1, [], [])] }) (by rw [show vcFS Tryd.prog W { keep := some [0, 1, 4, 5, 7, 9, 16], wrap := [16], track := [4], loops := [(1, [], [])] } F.maps_DeleteFunc_map_disk_sectorbool_disk_sector_bool #[.map m, .func (.func delF) #[] delC] R Φ J = Bmaps_DeleteFunc_map_disk_sectorbool_disk_sector_bool m delF delC W R Φ J by kernel_rfl]; exact h) c

/-- (*disk.Disk).settle$2 -/
-- known blocks: 3 p
def Bdisk_Disk_settle_2 (p0 p1 : Int) (x : Bool) (kB kO : Nat) (W : World) (R : List Own) (Φ : PW) (J : Value → World → Prop) : Prop :=
  ∀ (b : Nat) (w0 : World) (R1 : List Own), Ctx W w0 (R ++ R1) Φ → ∃ (n2 : Int), w0.cell? (Addr.mk kB kO none) = some (Value.int IntKind.i64 n2) ∧ ∀ (w3 : World) (R4 : List Own), Ctx W w3 (R
  ++ R4) Φ → J (Value.bool (decide (p0 = n2))) w3

theorem Bdisk_Disk_settle_2_run (p0 p1 : Int) (x : Bool) (kB kO : Nat) {W w : World} {R : List Own} {Φ : PW} [Stable Φ] {J : Value → World → Prop} (c : Ctx W w R Φ) (h : Bdisk_Disk_settle_2 p0 p1 x kB kO W R Φ J) : Calls Tryd.prog F.disk_Disk_settle_2 #[.agg #[.int .i64 p0, .int .i64 p1], .bool x, .pointer (some ⟨kB, kO, none⟩)] w fun e w' => ∃ v, e = .returned v ∧ J v w' :=
  vcFS_sound (H := { keep := some [2, 3, 5], track := [3] }) (by rw [show vcFS Tryd.prog W { keep := some [2, 3, 5], track := [3] } F.disk_Disk_settle_2 #[.agg #[.int .i64 p0, .int .i64 p1], .bool x, .pointer (some ⟨kB, kO, none⟩)] R Φ J = Bdisk_Disk_settle_2 p0 p1 x kB kO W R Φ J by kernel_rfl]; exact h) c

/-- cell.header -/
-- loop at region 3: 5 b, 6 n; blocks 
def Bcell_header (slot : Int) (s : ByteArray) (W : World) (R : List Own) (Φ : PW) (J : Value → World → Prop) : Prop :=
  ∀ (k0 : Nat), exI fun (I1 : Option Addr → Nat → Nat → Int → List Own → PW → Nat → Prop) => (∃ (R2 : List Own), ∃ (Φ3 : PW), ∃ (k4 : Nat), Stable Φ3 ∧ (∀ (w5 : World) (R6 : List Own), Ctx W
  w5 (Own.blk k0 [Value.int IntKind.u8 (IntKind.u8.wrap slot)] 5 :: R ++ R6) Φ → Ctx W w5 (R2 ++ R6) Φ3) ∧ I1 (some (Addr.mk k0 0 none)) 1 1 (↑s.size : Int) R2 Φ3 k4) ∧ ∀ (p7 : Option Addr)
  (k8 k9 : Nat) (n10 : Int) (R11 : List Own) (I12 : List Nat → World → Prop) (k13 : Nat), Stable I12 → I1 p7 k8 k9 n10 R11 I12 k13 → Br (decide ((↑k8 : Int) < 5)) (∀ (k14 : Nat) (w15 : World)
  (R16 : List Own), Ctx W w15 (Own.blk k14 [Value.int IntKind.u8 (IntKind.u8.wrap n10)] 5 :: R11 ++ R16) I12 → ∃ (p17 : Option Addr), ∃ (k18 : Nat), ∃ (k19 : Nat), ∃ (w20 : World), Sem.run
  Tryd.prog (builtin Builtin.append #[29, 29] 29 #[false, false] #[Value.slice p7 k8 k9, Value.slice (some (Addr.mk k14 0 none)) 1 1]) w15 = Result.ok (Next.value (Value.slice p17 k18 k19))
  w20 ∧ ∃ (R21 : List Own), ∃ (Φ22 : PW), Stable Φ22 ∧ Ctx W w20 (R21 ++ R16) Φ22 ∧ ∃ (n23 : Int), (∀ (w24 : World), Sem.run Tryd.prog (binOp BinOp.shr 3 (Value.int IntKind.i64 n10)
  (Value.int IntKind.u64 8)) w24 = Result.ok (Value.int IntKind.i64 n23) w24) ∧ ∃ (R25 : List Own), ∃ (Φ26 : PW), ∃ (k27 : Nat), Stable Φ26 ∧ (∀ (w28 : World) (R29 : List Own), Ctx W w28 (R21
  ++ R29) Φ22 → Ctx W w28 (R25 ++ R29) Φ26) ∧ I1 p17 k18 k19 n23 R25 Φ26 k27 ∧ k27 < k13) (∀ (w30 : World) (R31 : List Own), Ctx W w30 (R11 ++ R31) I12 → ∃ (s32 : ByteArray), ∃ (w33 : World),
  Sem.run Tryd.prog (convert 29 9 (Value.slice p7 k8 k9)) w30 = Result.ok (Value.string s32) w33 ∧ ∃ (R34 : List Own), ∃ (Φ35 : PW), Stable Φ35 ∧ Ctx W w33 (R34 ++ R31) Φ35 ∧ ∀ (w36 : World)
  (R37 : List Own), Ctx W w36 (R34 ++ R37) Φ35 → J (Value.string s32) w36)

theorem Bcell_header_run (slot : Int) (s : ByteArray) {W w : World} {R : List Own} {Φ : PW} [Stable Φ] {J : Value → World → Prop} (c : Ctx W w R Φ) (h : Bcell_header slot s W R Φ J) : Calls Tryd.prog F.cell_header #[.int .i64 slot, .string s] w fun e w' => ∃ v, e = .returned v ∧ J v w' :=
  vcFS_sound (H := { keep := some [0, 1, 4, 5, 6, 14], loops := [(3, [(5, .one (.slice)), (6, .one (.int .i64))], [])] }) (by rw [show vcFS Tryd.prog W { keep := some [0, 1, 4, 5, 6, 14], loops := [(3, [(5, .one (.slice)), (6, .one (.int .i64))], [])] } F.cell_header #[.int .i64 slot, .string s] R Φ J = Bcell_header slot s W R Φ J by kernel_rfl]; exact h) c

/-- slices.IndexFunc[[]disk.sector,disk.sector] -/
-- loop at region 2: 8 ; blocks 
def Bslices_IndexFunc_disk_sector_disk_sector (sP : Option Addr) (sN sC : Nat) (fF : FuncId) (fC : Array Value) (W : World) (R : List Own) (Φ : PW) (J : Value → World → Prop) : Prop :=
  exI fun (I0 : Int → List Own → PW → Nat → Prop) => (∃ (R1 : List Own), ∃ (Φ2 : PW), ∃ (k3 : Nat), Stable Φ2 ∧ (∀ (w4 : World) (R5 : List Own), Ctx W w4 (R ++ R5) Φ → Ctx W w4 (R1 ++ R5) Φ2)
  ∧ I0 0 R1 Φ2 k3) ∧ ∀ (n6 : Int) (R7 : List Own) (I8 : List Nat → World → Prop) (k9 : Nat), Stable I8 → I0 n6 R7 I8 k9 → Br (decide (n6 < (↑sN : Int))) ((0 ≤ n6 ∧ n6 < (↑sN : Int)) ∧ ptrK
  none sP fun (k10 k11 : Nat) => ∀ (w12 : World) (R13 : List Own), Ctx W w12 (R7 ++ R13) I8 → ∃ (n14 : Int), ∃ (n15 : Int), RowAt w12 k10 (k11 + n6.toNat * 2) [Value.int IntKind.i64 n14,
  Value.int IntKind.i64 n15] ∧ ∀ (w16 : World) (R17 : List Own), Ctx W w16 (R7 ++ R17) I8 → okFun Tryd.prog fF = true ∧ Calls Tryd.prog fF (Array.mk (Value.agg #[Value.int IntKind.i64 n14,
  Value.int IntKind.i64 n15] :: fC.toList)) w16 fun (e18 : Ending) (w19 : World) => ∃ (c20 : Bool), e18 = Ending.returned (Value.bool c20) ∧ ∃ (R21 : List Own), ∃ (Φ22 : PW), Stable Φ22 ∧ Ctx
  W w19 (R21 ++ R17) Φ22 ∧ Br c20 (∀ (w23 : World) (R24 : List Own), Ctx W w23 (R21 ++ R24) Φ22 → J (Value.int IntKind.i64 n6) w23) (I64 (n6 + 1) ∧ ∃ (R25 : List Own), ∃ (Φ26 : PW), ∃ (k27 :
  Nat), Stable Φ26 ∧ (∀ (w28 : World) (R29 : List Own), Ctx W w28 (R21 ++ R29) Φ22 → Ctx W w28 (R25 ++ R29) Φ26) ∧ I0 (n6 + 1) R25 Φ26 k27 ∧ k27 < k9)) (∀ (w30 : World) (R31 : List Own), Ctx
  W w30 (R7 ++ R31) I8 → J (Value.int IntKind.i64 (-1)) w30)

theorem Bslices_IndexFunc_disk_sector_disk_sector_run (sP : Option Addr) (sN sC : Nat) (fF : FuncId) (fC : Array Value) {W w : World} {R : List Own} {Φ : PW} [Stable Φ] {J : Value → World → Prop} (c : Ctx W w R Φ) (h : Bslices_IndexFunc_disk_sector_disk_sector sP sN sC fF fC W R Φ J) : Calls Tryd.prog F.slices_IndexFunc_disk_sector_disk_sector #[.slice sP sN sC, .func (.func fF) #[] fC] w fun e w' => ∃ v, e = .returned v ∧ J v w' :=
  vcFS_sound (H := { keep := some [0, 1, 4, 5, 7, 8, 9, 16], wrap := [16], loops := [(2, [(8, .one (.int .i64))], [])] }) (by rw [show vcFS Tryd.prog W { keep := some [0, 1, 4, 5, 7, 8, 9, 16], wrap := [16], loops := [(2, [(8, .one (.int .i64))], [])] } F.slices_IndexFunc_disk_sector_disk_sector #[.slice sP sN sC, .func (.func fF) #[] fC] R Φ J = Bslices_IndexFunc_disk_sector_disk_sector sP sN sC fF fC W R Φ J by kernel_rfl]; exact h) c

end Go.Proofs.YtfccagphnfceiaaDoor
end

/-
  MAPS whose keys are an int and a text, and whose values are ints: what is done to them.
-/
section
set_option linter.unusedVariables false
set_option linter.unusedSimpArgs false
namespace Go.Vc

structure MEnt where
  key : Int × ByteArray
  val : Int
  born : Nat
abbrev keyV (k : Int × ByteArray) : Value := .agg #[.int .i64 k.1, .string k.2]
def MEnt.m (e : MEnt) : MapEntry := ⟨keyV e.key, .int .i64 e.val, e.born⟩
structure MapOk (es : List MEnt) (clock : Nat) : Prop where
  keys : es.Pairwise fun a b => a.key ≠ b.key
  borns : es.Pairwise fun a b => a.born ≠ b.born
  lt : ∀ e ∈ es, e.born < clock

structure KeyTy (P : Program) (t k e : TypeId) : Prop where
  map : P.underlying t = some (.map k e)
  str : ∃ fs, P.underlying k = some (.struct fs)
  chk : ∀ b x w, (Instr.checkKey b 10000 k (keyV x)).run P w = .ok () w
  eq : ∀ x y w, (Op.equal k (keyV x) (keyV y)).run P w = .ok (decide (x = y)) w
  zero : ∀ w, (zeroValue e).run P w = .ok (.int .i64 0) w

section
variable {P : Program} {t k e : TypeId} (T : KeyTy P t k e)
include T

omit T
theorem pair_inj {α β : Type} {f : α → β} : ∀ {l : List α}, l.Pairwise (fun a b => f a ≠ f b) → ∀ {a b : α}, a ∈ l → b ∈ l → f a = f b → a = b
  | [], _, _, _, ha, _, _ => by cases ha
  | x :: l, h, a, b, ha, hb, e => by
    obtain ⟨h1, h2⟩ := List.pairwise_cons.1 h
    rcases List.mem_cons.1 ha with ea | ha
    · rcases List.mem_cons.1 hb with eb | hb
      · rw [ea, eb]
      · exact absurd (by rw [← ea]; exact e) (h1 b hb)
    · rcases List.mem_cons.1 hb with eb | hb
      · exact absurd (by rw [← eb]; exact e.symm) (h1 a ha)
      · exact pair_inj h2 ha hb e
theorem findIdx_at {α : Type} {p : α → Bool} : ∀ {l : List α} {a : α}, a ∈ l → p a = true → (∀ c ∈ l, p c = true → c = a) → ∃ n, l.findIdx? p = some n ∧ l[n]? = some a
  | [], _, h, _, _ => by cases h
  | x :: l, a, h, hp, hu => by
    rw [List.findIdx?_cons]
    by_cases hx : p x = true
    · rw [if_pos hx]
      exact ⟨0, rfl, by rw [hu x (by simp) hx]; rfl⟩
    · rw [if_neg hx]
      rcases List.mem_cons.1 h with rfl | h
      · exact absurd hp hx
      · obtain ⟨n, h1, h2⟩ := findIdx_at h hp fun c hc => hu c (by simp [hc])
        exact ⟨n + 1, by rw [h1]; rfl, by simpa using h2⟩
include T
end

/-! ### what is owned is read by the call, and stays -/
section
variable {P : Program} {W w : World} {Q R G : List Own} {Φ Ψ : PW} {f : FuncId} {args : Array Value}

structure GivesQ (Q : List Own) (Φ : PW) (P : Program) (f : FuncId) (args : Array Value) (v : Value) : Prop where
  go : ∀ (W w : World) (S : List Own), Ctx W w (Q ++ S) Φ → Calls P f args w fun e w' => e = .returned v ∧ Ctx W w' (Q ++ S) Φ
structure GivesQSl (Q : List Own) (Φ : PW) (P : Program) (f : FuncId) (args : Array Value) {α : Type} [Gv α] (l : List α) : Prop where
  go : ∀ (W w : World) (S : List Own), Ctx W w (Q ++ S) Φ → Calls P f args w fun e w' => ∃ p cap, e = .returned (.slice p l.length cap) ∧ l.length ≤ cap ∧ cap ≤ maxLen ∧ Ctx W w' (Q ++ S) (fun M w => Φ M w ∧ Sl M w p l)

theorem Ctx.inl (c : Ctx W w ((Q ++ R) ++ G) Φ) : Ctx W w (Q ++ (R ++ G)) Φ := c.re (List.append_assoc _ _ _)
theorem Ctx.outl (c : Ctx W w (Q ++ (R ++ G)) Φ) : Ctx W w ((Q ++ R) ++ G) Φ := c.re (List.append_assoc _ _ _).symm

theorem GivesQ.toI [Stable Φ] {n : Int} {k : IntKind} (h : GivesQ Q Φ P f args (.int k n)) (c : Ctx W w ((Q ++ R) ++ G) Φ) {K : Int → List Own → PW → Prop} (hk : K n (Q ++ R) Φ) :
    Calls P f args w fun e w' => ∃ n, e = .returned (.int k n) ∧ ∃ R' Φ', Stable Φ' ∧ Ctx W w' (R' ++ G) Φ' ∧ K n R' Φ' :=
  (h.go W w (R ++ G) c.inl).mono fun e w' ⟨he, c'⟩ => ⟨n, he, Q ++ R, Φ, inferInstance, c'.outl, hk⟩
theorem GivesQ.toS [Stable Φ] {s : ByteArray} (h : GivesQ Q Φ P f args (.string s)) (c : Ctx W w ((Q ++ R) ++ G) Φ) {K : ByteArray → List Own → PW → Prop} (hk : K s (Q ++ R) Φ) :
    Calls P f args w fun e w' => ∃ s, e = .returned (.string s) ∧ ∃ R' Φ', Stable Φ' ∧ Ctx W w' (R' ++ G) Φ' ∧ K s R' Φ' :=
  (h.go W w (R ++ G) c.inl).mono fun e w' ⟨he, c'⟩ => ⟨s, he, Q ++ R, Φ, inferInstance, c'.outl, hk⟩
end
end Go.Vc
end

