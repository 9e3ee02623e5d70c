/-
  The conditions of the walks of some functions, one formula each; 'B<f>_run' says that they suffice. The formulas are printed by a program; the kernel compares them with the functions' code.
-/
import Derived.Test.YtjlfpkgjcffilaaGreatDoorSB3

section
namespace Go.Proofs.YtjlfpkgjcffilaaGreatDoor
set_option linter.unusedVariables false
set_option linter.unusedSimpArgs false
set_option maxRecDepth 100000
open Go.Vc

/-- wire.Open -/
def Bwire_Open (s : ByteArray) (W : World) (R : List Own) (Φ : PW) (J : Value → World → Prop) : Prop :=
  ∀ (k0 : Nat) (w1 : World) (R2 : List Own), Ctx W w1 (Own.blk k0 [Value.string s, Value.bool false] 98 :: R ++ R2) Φ → J (Value.pointer (some (Addr.mk k0 0 none))) w1

theorem Bwire_Open_run (s : ByteArray) {W w : World} {R : List Own} {Φ : PW} [Stable Φ] {J : Value → World → Prop} (c : Ctx W w R Φ) (h : Bwire_Open s W R Φ J) : Calls Tryz.prog F.wire_Open #[.string s] w fun e w' => ∃ v, e = .returned v ∧ J v w' :=
  vcFS_sound (H := { keep := some [0, 2] }) (by rw [show vcFS Tryz.prog W { keep := some [0, 2] } F.wire_Open #[.string s] R Φ J = Bwire_Open s W R Φ J by kernel_rfl]; exact h) c

/-- (*wire.Reader).Int -/
def Bwire_Reader_Int (rB rO : Nat) (W : World) (R : List Own) (Φ : PW) (J : Value → World → Prop) : Prop :=
  ∀ (w0 : World) (R1 : List Own), Ctx W w0 (R ++ R1) Φ → Calls Tryz.prog F.wire_Reader_number #[Value.pointer (some (Addr.mk rB rO none)), Value.int IntKind.u8 59, Value.int IntKind.i64
  (-9223372036854775808)] w0 fun (e2 : Ending) (w3 : World) => ∃ (n4 : Int), e2 = Ending.returned (Value.int IntKind.i64 n4) ∧ ∃ (R5 : List Own), ∃ (Φ6 : PW), Stable Φ6 ∧ Ctx W w3 (R5 ++ R1)
  Φ6 ∧ ∀ (w7 : World) (R8 : List Own), Ctx W w7 (R5 ++ R8) Φ6 → J (Value.int IntKind.i64 n4) w7

theorem Bwire_Reader_Int_run (rB rO : Nat) {W w : World} {R : List Own} {Φ : PW} [Stable Φ] {J : Value → World → Prop} (c : Ctx W w R Φ) (h : Bwire_Reader_Int rB rO W R Φ J) : Calls Tryz.prog F.wire_Reader_Int #[.pointer (some ⟨rB, rO, none⟩)] w fun e w' => ∃ v, e = .returned v ∧ J v w' :=
  vcFS_sound (H := { keep := some [0, 2] }) (by rw [show vcFS Tryz.prog W { keep := some [0, 2] } F.wire_Reader_Int #[.pointer (some ⟨rB, rO, none⟩)] R Φ J = Bwire_Reader_Int rB rO W R Φ J by kernel_rfl]; exact h) c

/-- (*wire.Reader).Nums -/
def Bwire_Reader_Nums (rB rO : Nat) (W : World) (R : List Own) (Φ : PW) (J : Value → World → Prop) : Prop :=
  ∀ (w0 : World) (R1 : List Own), Ctx W w0 (R ++ R1) Φ → Calls Tryz.prog F.wire_items_int #[Value.pointer (some (Addr.mk rB rO none)), Value.func (Fn.func 36) #[Value.pointer (some (Addr.mk
  rB rO none))] #[]] w0 fun (e2 : Ending) (w3 : World) => ∃ (p4 : Option Addr), ∃ (k5 : Nat), ∃ (k6 : Nat), e2 = Ending.returned (Value.slice p4 k5 k6) ∧ ∃ (R7 : List Own), ∃ (Φ8 : PW),
  Stable Φ8 ∧ Ctx W w3 (R7 ++ R1) Φ8 ∧ ∀ (w9 : World) (R10 : List Own), Ctx W w9 (R7 ++ R10) Φ8 → J (Value.slice p4 k5 k6) w9

theorem Bwire_Reader_Nums_run (rB rO : Nat) {W w : World} {R : List Own} {Φ : PW} [Stable Φ] {J : Value → World → Prop} (c : Ctx W w R Φ) (h : Bwire_Reader_Nums rB rO W R Φ J) : Calls Tryz.prog F.wire_Reader_Nums #[.pointer (some ⟨rB, rO, none⟩)] w fun e w' => ∃ v, e = .returned v ∧ J v w' :=
  vcFS_sound (H := { keep := some [0, 2] }) (by rw [show vcFS Tryz.prog W { keep := some [0, 2] } F.wire_Reader_Nums #[.pointer (some ⟨rB, rO, none⟩)] R Φ J = Bwire_Reader_Nums rB rO W R Φ J by kernel_rfl]; exact h) c

/-- (*wire.Reader).Done -/
def Bwire_Reader_Done (rB rO : Nat) (W : World) (R : List Own) (Φ : PW) (J : Value → World → Prop) : Prop :=
  ∀ (w0 : World) (R1 : List Own), Ctx W w0 (R ++ R1) Φ → ∃ (c2 : Bool), w0.cell? (Addr.mk rB (rO + 1) none) = some (Value.bool c2) ∧ ∃ (s3 : ByteArray), ((!c2) = true → w0.cell? (Addr.mk rB
  rO none) = some (Value.string s3)) ∧ ∀ (w4 : World) (R5 : List Own), Ctx W w4 (R ++ R5) Φ → J (Value.bool (!c2 && decide (s3 = ByteArray.mk #[]))) w4

theorem Bwire_Reader_Done_run (rB rO : Nat) {W w : World} {R : List Own} {Φ : PW} [Stable Φ] {J : Value → World → Prop} (c : Ctx W w R Φ) (h : Bwire_Reader_Done rB rO W R Φ J) : Calls Tryz.prog F.wire_Reader_Done #[.pointer (some ⟨rB, rO, none⟩)] w fun e w' => ∃ v, e = .returned v ∧ J v w' :=
  vcFS_sound (H := { keep := some [0, 2] }) (by rw [show vcFS Tryz.prog W { keep := some [0, 2] } F.wire_Reader_Done #[.pointer (some ⟨rB, rO, none⟩)] R Φ J = Bwire_Reader_Done rB rO W R Φ J by kernel_rfl]; exact h) c

/-- wire.Int -/
def Bwire_Int (n : Int) (W : World) (R : List Own) (Φ : PW) (J : Value → World → Prop) : Prop :=
  ∀ (w0 : World) (R1 : List Own), Ctx W w0 (R ++ R1) Φ → Calls Tryz.prog F.strconv_Itoa #[Value.int IntKind.i64 n] w0 fun (e2 : Ending) (w3 : World) => ∃ (s4 : ByteArray), e2 =
  Ending.returned (Value.string s4) ∧ ∃ (R5 : List Own), ∃ (Φ6 : PW), Stable Φ6 ∧ Ctx W w3 (R5 ++ R1) Φ6 ∧ (s4.size + (ByteArray.mk #[OfNat.ofNat 59]).size).le 9223372036854775807 ∧ ∀ (w7 :
  World) (R8 : List Own), Ctx W w7 (R5 ++ R8) Φ6 → J (Value.string (s4 ++ ByteArray.mk #[OfNat.ofNat 59])) w7

theorem Bwire_Int_run (n : Int) {W w : World} {R : List Own} {Φ : PW} [Stable Φ] {J : Value → World → Prop} (c : Ctx W w R Φ) (h : Bwire_Int n W R Φ J) : Calls Tryz.prog F.wire_Int #[.int .i64 n] w fun e w' => ∃ v, e = .returned v ∧ J v w' :=
  vcFS_sound (H := { keep := some [0, 2] }) (by rw [show vcFS Tryz.prog W { keep := some [0, 2] } F.wire_Int #[.int .i64 n] R Φ J = Bwire_Int n W R Φ J by kernel_rfl]; exact h) c

/-- wire.Nums -/
def Bwire_Nums (lP : Option Addr) (lN lC : Nat) (W : World) (R : List Own) (Φ : PW) (J : Value → World → Prop) : Prop :=
  ∀ (w0 : World) (R1 : List Own), Ctx W w0 (R ++ R1) Φ → Calls Tryz.prog F.wire_list_int #[Value.slice lP lN lC, Value.func (Fn.func 56) #[] #[]] w0 fun (e2 : Ending) (w3 : World) => ∃ (s4 :
  ByteArray), e2 = Ending.returned (Value.string s4) ∧ ∃ (R5 : List Own), ∃ (Φ6 : PW), Stable Φ6 ∧ Ctx W w3 (R5 ++ R1) Φ6 ∧ ∀ (w7 : World) (R8 : List Own), Ctx W w7 (R5 ++ R8) Φ6 → J
  (Value.string s4) w7

theorem Bwire_Nums_run (lP : Option Addr) (lN lC : Nat) {W w : World} {R : List Own} {Φ : PW} [Stable Φ] {J : Value → World → Prop} (c : Ctx W w R Φ) (h : Bwire_Nums lP lN lC W R Φ J) : Calls Tryz.prog F.wire_Nums #[.slice lP lN lC] w fun e w' => ∃ v, e = .returned v ∧ J v w' :=
  vcFS_sound (H := { keep := some [0, 2] }) (by rw [show vcFS Tryz.prog W { keep := some [0, 2] } F.wire_Nums #[.slice lP lN lC] R Φ J = Bwire_Nums lP lN lC W R Φ J by kernel_rfl]; exact h) c

/-- value.RowBytes -/
-- loop at region 4: 12 ; blocks 
-- known blocks: 5 v
def Bvalue_RowBytes (rP : Option Addr) (rN rC : Nat) (W : World) (R : List Own) (Φ : PW) (J : Value → World → Prop) : Prop :=
  ∀ (k0 : Nat) (w1 : World) (R2 : List Own), Ctx W w1 (Own.blk k0 [Value.pointer none, Value.slice none 0 0] 111 :: R ++ R2) Φ → Calls Tryz.prog F.wire_Num #[Value.int IntKind.i64 (↑rN :
  Int)] w1 fun (e3 : Ending) (w4 : World) => ∃ (s5 : ByteArray), e3 = Ending.returned (Value.string s5) ∧ ∃ (R6 : List Own), ∃ (Φ7 : PW), Stable Φ7 ∧ Ctx W w4 (R6 ++ R2) Φ7 ∧ ∀ (w8 : World)
  (R9 : List Own), Ctx W w8 (R6 ++ R9) Φ7 → Calls Tryz.prog F.strings_Builder_WriteString #[Value.pointer (some (Addr.mk k0 0 none)), Value.string s5] w8 fun (e10 : Ending) (w11 : World) => ∃
  (n12 : Int), ∃ (v13 : Value), e10 = Ending.returned (Value.tuple #[Value.int IntKind.i64 n12, v13]) ∧ ∃ (R14 : List Own), ∃ (Φ15 : PW), Stable Φ15 ∧ Ctx W w11 (R14 ++ R9) Φ15 ∧ exI fun (I16
  : Int → List Own → PW → Nat → Prop) => (∃ (R17 : List Own), ∃ (Φ18 : PW), ∃ (k19 : Nat), Stable Φ18 ∧ (∀ (w20 : World) (R21 : List Own), Ctx W w20 (R14 ++ R21) Φ15 → Ctx W w20 (R17 ++ R21)
  Φ18) ∧ I16 0 R17 Φ18 k19) ∧ ∀ (n22 : Int) (R23 : List Own) (I24 : List Nat → World → Prop) (k25 : Nat), Stable I24 → I16 n22 R23 I24 k25 → Br (decide (n22 < (↑rN : Int))) ((0 ≤ n22 ∧ n22 <
  (↑rN : Int)) ∧ ptrK none rP fun (k26 k27 : Nat) => ∀ (w28 : World) (R29 : List Own), Ctx W w28 (R23 ++ R29) I24 → ∃ (n30 : Int), ∃ (n31 : Int), ∃ (s32 : ByteArray), RowAt w28 k26 (k27 +
  n22.toNat * 3) [Value.int IntKind.i64 n30, Value.int IntKind.i64 n31, Value.string s32] ∧ ∀ (b : Nat) (w33 : World) (R34 : List Own), Ctx W w33 (R23 ++ R34) I24 → Calls Tryz.prog
  F.value_Bytes #[Value.agg #[Value.int IntKind.i64 n30, Value.int IntKind.i64 n31, Value.string s32]] w33 fun (e35 : Ending) (w36 : World) => ∃ (s37 : ByteArray), e35 = Ending.returned
  (Value.string s37) ∧ ∃ (R38 : List Own), ∃ (Φ39 : PW), Stable Φ39 ∧ Ctx W w36 (R38 ++ R34) Φ39 ∧ ∀ (w40 : World) (R41 : List Own), Ctx W w40 (R38 ++ R41) Φ39 → Calls Tryz.prog
  F.strings_Builder_WriteString #[Value.pointer (some (Addr.mk k0 0 none)), Value.string s37] w40 fun (e42 : Ending) (w43 : World) => ∃ (n44 : Int), ∃ (v45 : Value), e42 = Ending.returned
  (Value.tuple #[Value.int IntKind.i64 n44, v45]) ∧ ∃ (R46 : List Own), ∃ (Φ47 : PW), Stable Φ47 ∧ Ctx W w43 (R46 ++ R41) Φ47 ∧ I64 (n22 + 1) ∧ ∃ (R48 : List Own), ∃ (Φ49 : PW), ∃ (k50 :
  Nat), Stable Φ49 ∧ (∀ (w51 : World) (R52 : List Own), Ctx W w51 (R46 ++ R52) Φ47 → Ctx W w51 (R48 ++ R52) Φ49) ∧ I16 (n22 + 1) R48 Φ49 k50 ∧ k50 < k25) (∀ (w53 : World) (R54 : List Own),
  Ctx W w53 (R23 ++ R54) I24 → Calls Tryz.prog F.strings_Builder_String #[Value.pointer (some (Addr.mk k0 0 none))] w53 fun (e55 : Ending) (w56 : World) => ∃ (s57 : ByteArray), e55 =
  Ending.returned (Value.string s57) ∧ ∃ (R58 : List Own), ∃ (Φ59 : PW), Stable Φ59 ∧ Ctx W w56 (R58 ++ R54) Φ59 ∧ ∀ (w60 : World) (R61 : List Own), Ctx W w60 (R58 ++ R61) Φ59 → J
  (Value.string s57) w60)

theorem Bvalue_RowBytes_run (rP : Option Addr) (rN rC : Nat) {W w : World} {R : List Own} {Φ : PW} [Stable Φ] {J : Value → World → Prop} (c : Ctx W w R Φ) (h : Bvalue_RowBytes rP rN rC W R Φ J) : Calls Tryz.prog F.value_RowBytes #[.slice rP rN rC] w fun e w' => ∃ v, e = .returned v ∧ J v w' :=
  vcFS_sound (H := { keep := some [0, 2, 3, 5, 10, 11, 12, 13], track := [5], loops := [(4, [(12, .one (.int .i64))], [])] }) (by rw [show vcFS Tryz.prog W { keep := some [0, 2, 3, 5, 10, 11, 12, 13], track := [5], loops := [(4, [(12, .one (.int .i64))], [])] } F.value_RowBytes #[.slice rP rN rC] R Φ J = Bvalue_RowBytes rP rN rC W R Φ J by kernel_rfl]; exact h) c

/-- (*wire.Reader).number -/
def Bwire_Reader_number (rB rO : Nat) (endx : Int) (least : Int) (W : World) (R : List Own) (Φ : PW) (J : Value → World → Prop) : Prop :=
  ∀ (w0 : World) (R1 : List Own), Ctx W w0 (R ++ R1) Φ → ∃ (s2 : ByteArray), w0.cell? (Addr.mk rB rO none) = some (Value.string s2) ∧ ∃ (s3 : ByteArray), w0.cell? (Addr.mk rB rO none) = some
  (Value.string s3) ∧ (0 ≤ min (↑s3.size : Int) 21 ∧ min (↑s3.size : Int) 21 ≤ (↑s2.size : Int)) ∧ ∀ (w4 : World) (R5 : List Own), Ctx W w4 (R ++ R5) Φ → Calls Tryz.prog F.strings_IndexByte
  #[Value.string (s2.extract 0 (min (↑s3.size : Int) 21).toNat), Value.int IntKind.u8 endx] w4 fun (e6 : Ending) (w7 : World) => ∃ (n8 : Int), e6 = Ending.returned (Value.int IntKind.i64 n8)
  ∧ ∃ (R9 : List Own), ∃ (Φ10 : PW), Stable Φ10 ∧ Ctx W w7 (R9 ++ R5) Φ10 ∧ Br (decide (n8 < 0)) (∀ (w11 : World) (R12 : List Own), Ctx W w11 (R9 ++ R12) Φ10 → Calls Tryz.prog
  F.wire_Reader_fail #[Value.pointer (some (Addr.mk rB rO none))] w11 fun (e13 : Ending) (w14 : World) => e13 = Ending.returned (Value.tuple #[]) ∧ ∃ (R15 : List Own), ∃ (Φ16 : PW), Stable
  Φ16 ∧ Ctx W w14 (R15 ++ R12) Φ16 ∧ ∀ (w17 : World) (R18 : List Own), Ctx W w17 (R15 ++ R18) Φ16 → J (Value.int IntKind.i64 0) w17) ((0 ≤ n8 ∧ n8 ≤ (↑(s2.extract 0 (min (↑s3.size : Int)
  21).toNat).size : Int)) ∧ ∀ (w19 : World) (R20 : List Own), Ctx W w19 (R9 ++ R20) Φ10 → Calls Tryz.prog F.strconv_Atoi #[Value.string ((s2.extract 0 (min (↑s3.size : Int) 21).toNat).extract
  0 n8.toNat)] w19 fun (e21 : Ending) (w22 : World) => (∃ (n23 : Int), e21 = Ending.returned (Value.tuple #[Value.int IntKind.i64 n23, Value.nilIface]) ∧ ∃ (R24 : List Own), ∃ (Φ25 : PW),
  Stable Φ25 ∧ Ctx W w22 (R24 ++ R20) Φ25 ∧ ∃ (R26 : List Own), ∃ (Φ27 : PW), Stable Φ27 ∧ (∀ (w28 : World) (R29 : List Own), Ctx W w28 (R24 ++ R29) Φ25 → Ctx W w28 (R26 ++ R29) Φ27) ∧ ∃ (c30
  : Bool), (∀ (w31 : World), Sem.run Tryz.prog ((eqGuard BinOp.neq 113 (Operand.tmp 36) (Operand.const Value.nilIface) Value.nilIface Value.nilIface) >>= fun _ => binOp BinOp.neq 113
  Value.nilIface Value.nilIface) w31 = Result.ok (Value.bool c30) w31) ∧ Br c30 (∀ (w33 : World) (R34 : List Own), Ctx W w33 (R24 ++ R34) Φ25 → Calls Tryz.prog F.wire_Reader_fail
  #[Value.pointer (some (Addr.mk rB rO none))] w33 fun (e35 : Ending) (w36 : World) => e35 = Ending.returned (Value.tuple #[]) ∧ ∃ (R37 : List Own), ∃ (Φ38 : PW), Stable Φ38 ∧ Ctx W w36 (R37
  ++ R34) Φ38 ∧ ∀ (w39 : World) (R40 : List Own), Ctx W w39 (R37 ++ R40) Φ38 → J (Value.int IntKind.i64 0) w39) ((0 ≤ n8 ∧ n8 ≤ (↑(s2.extract 0 (min (↑s3.size : Int) 21).toNat).size : Int)) ∧
  ∀ (w41 : World) (R42 : List Own), Ctx W w41 (R24 ++ R42) Φ25 → Calls Tryz.prog F.strconv_Itoa #[Value.int IntKind.i64 n23] w41 fun (e43 : Ending) (w44 : World) => ∃ (s45 : ByteArray), e43 =
  Ending.returned (Value.string s45) ∧ ∃ (R46 : List Own), ∃ (Φ47 : PW), Stable Φ47 ∧ Ctx W w44 (R46 ++ R42) Φ47 ∧ (∀ (w48 : World) (R49 : List Own), Ctx W w48 (R46 ++ R49) Φ47 → Ctx W w48
  (R26 ++ R49) Φ27) ∧ Br (decide (s45 ≠ (s2.extract 0 (min (↑s3.size : Int) 21).toNat).extract 0 n8.toNat)) (∀ (w50 : World) (R51 : List Own), Ctx W w50 (R46 ++ R51) Φ47 → Calls Tryz.prog
  F.wire_Reader_fail #[Value.pointer (some (Addr.mk rB rO none))] w50 fun (e52 : Ending) (w53 : World) => e52 = Ending.returned (Value.tuple #[]) ∧ ∃ (R54 : List Own), ∃ (Φ55 : PW), Stable
  Φ55 ∧ Ctx W w53 (R54 ++ R51) Φ55 ∧ ∀ (w56 : World) (R57 : List Own), Ctx W w56 (R54 ++ R57) Φ55 → J (Value.int IntKind.i64 0) w56) (Br (decide (n23 < least)) (∀ (w58 : World) (R59 : List
  Own), Ctx W w58 (R46 ++ R59) Φ47 → Calls Tryz.prog F.wire_Reader_fail #[Value.pointer (some (Addr.mk rB rO none))] w58 fun (e60 : Ending) (w61 : World) => e60 = Ending.returned (Value.tuple
  #[]) ∧ ∃ (R62 : List Own), ∃ (Φ63 : PW), Stable Φ63 ∧ Ctx W w61 (R62 ++ R59) Φ63 ∧ ∀ (w64 : World) (R65 : List Own), Ctx W w64 (R62 ++ R65) Φ63 → J (Value.int IntKind.i64 0) w64) (∀ (w66 :
  World) (R67 : List Own), Ctx W w66 (R46 ++ R67) Φ47 → ∃ (s68 : ByteArray), w66.cell? (Addr.mk rB rO none) = some (Value.string s68) ∧ I64 (n8 + 1) ∧ (0 ≤ n8 + 1 ∧ n8 + 1 ≤ (↑s68.size : Int)
  ∧ s68.size ≤ s68.size) ∧ ∀ (w69 : World) (R70 : List Own), Ctx W w69 (R46 ++ R70) Φ47 → CanWrite w69 rB rO 1 ∧ ∀ (w71 : World), w71 = w69.setCell (Addr.mk rB rO none) (Value.string
  (s68.extract (n8 + 1).toNat s68.size)) → ∃ (R72 : List Own), ∃ (Φ73 : PW), Stable Φ73 ∧ Ctx W w71 (R72 ++ R70) Φ73 ∧ ∀ (w74 : World) (R75 : List Own), Ctx W w74 (R72 ++ R75) Φ73 → J
  (Value.int IntKind.i64 n23) w74)))) ∨ ∃ (n76 : Int), ∃ (u77 : TypeId), ∃ (v78 : Value), e21 = Ending.returned (Value.tuple #[Value.int IntKind.i64 n76, Value.iface u77 v78]) ∧ ∃ (R79 : List
  Own), ∃ (Φ80 : PW), Stable Φ80 ∧ Ctx W w22 (R79 ++ R20) Φ80 ∧ ∃ (R81 : List Own), ∃ (Φ82 : PW), Stable Φ82 ∧ (∀ (w83 : World) (R84 : List Own), Ctx W w83 (R79 ++ R84) Φ80 → Ctx W w83 (R81
  ++ R84) Φ82) ∧ ∃ (c85 : Bool), (∀ (w86 : World), Sem.run Tryz.prog ((eqGuard BinOp.neq 113 (Operand.tmp 36) (Operand.const Value.nilIface) (Value.iface u77 v78) Value.nilIface) >>= fun _ =>
  binOp BinOp.neq 113 (Value.iface u77 v78) Value.nilIface) w86 = Result.ok (Value.bool c85) w86) ∧ Br c85 (∀ (w88 : World) (R89 : List Own), Ctx W w88 (R79 ++ R89) Φ80 → Calls Tryz.prog
  F.wire_Reader_fail #[Value.pointer (some (Addr.mk rB rO none))] w88 fun (e90 : Ending) (w91 : World) => e90 = Ending.returned (Value.tuple #[]) ∧ ∃ (R92 : List Own), ∃ (Φ93 : PW), Stable
  Φ93 ∧ Ctx W w91 (R92 ++ R89) Φ93 ∧ ∀ (w94 : World) (R95 : List Own), Ctx W w94 (R92 ++ R95) Φ93 → J (Value.int IntKind.i64 0) w94) ((0 ≤ n8 ∧ n8 ≤ (↑(s2.extract 0 (min (↑s3.size : Int)
  21).toNat).size : Int)) ∧ ∀ (w96 : World) (R97 : List Own), Ctx W w96 (R79 ++ R97) Φ80 → Calls Tryz.prog F.strconv_Itoa #[Value.int IntKind.i64 n76] w96 fun (e98 : Ending) (w99 : World) =>
  ∃ (s100 : ByteArray), e98 = Ending.returned (Value.string s100) ∧ ∃ (R101 : List Own), ∃ (Φ102 : PW), Stable Φ102 ∧ Ctx W w99 (R101 ++ R97) Φ102 ∧ (∀ (w103 : World) (R104 : List Own), Ctx W
  w103 (R101 ++ R104) Φ102 → Ctx W w103 (R81 ++ R104) Φ82) ∧ Br (decide (s100 ≠ (s2.extract 0 (min (↑s3.size : Int) 21).toNat).extract 0 n8.toNat)) (∀ (w105 : World) (R106 : List Own), Ctx W
  w105 (R101 ++ R106) Φ102 → Calls Tryz.prog F.wire_Reader_fail #[Value.pointer (some (Addr.mk rB rO none))] w105 fun (e107 : Ending) (w108 : World) => e107 = Ending.returned (Value.tuple
  #[]) ∧ ∃ (R109 : List Own), ∃ (Φ110 : PW), Stable Φ110 ∧ Ctx W w108 (R109 ++ R106) Φ110 ∧ ∀ (w111 : World) (R112 : List Own), Ctx W w111 (R109 ++ R112) Φ110 → J (Value.int IntKind.i64 0)
  w111) (Br (decide (n76 < least)) (∀ (w113 : World) (R114 : List Own), Ctx W w113 (R101 ++ R114) Φ102 → Calls Tryz.prog F.wire_Reader_fail #[Value.pointer (some (Addr.mk rB rO none))] w113
  fun (e115 : Ending) (w116 : World) => e115 = Ending.returned (Value.tuple #[]) ∧ ∃ (R117 : List Own), ∃ (Φ118 : PW), Stable Φ118 ∧ Ctx W w116 (R117 ++ R114) Φ118 ∧ ∀ (w119 : World) (R120 :
  List Own), Ctx W w119 (R117 ++ R120) Φ118 → J (Value.int IntKind.i64 0) w119) (∀ (w121 : World) (R122 : List Own), Ctx W w121 (R101 ++ R122) Φ102 → ∃ (s123 : ByteArray), w121.cell? (Addr.mk
  rB rO none) = some (Value.string s123) ∧ I64 (n8 + 1) ∧ (0 ≤ n8 + 1 ∧ n8 + 1 ≤ (↑s123.size : Int) ∧ s123.size ≤ s123.size) ∧ ∀ (w124 : World) (R125 : List Own), Ctx W w124 (R101 ++ R125)
  Φ102 → CanWrite w124 rB rO 1 ∧ ∀ (w126 : World), w126 = w124.setCell (Addr.mk rB rO none) (Value.string (s123.extract (n8 + 1).toNat s123.size)) → ∃ (R127 : List Own), ∃ (Φ128 : PW), Stable
  Φ128 ∧ Ctx W w126 (R127 ++ R125) Φ128 ∧ ∀ (w129 : World) (R130 : List Own), Ctx W w129 (R127 ++ R130) Φ128 → J (Value.int IntKind.i64 n76) w129))))

theorem Bwire_Reader_number_run (rB rO : Nat) (endx : Int) (least : Int) {W w : World} {R : List Own} {Φ : PW} [Stable Φ] {J : Value → World → Prop} (c : Ctx W w R Φ) (h : Bwire_Reader_number rB rO endx least W R Φ J) : Calls Tryz.prog F.wire_Reader_number #[.pointer (some ⟨rB, rO, none⟩), .int .u8 endx, .int .i64 least] w fun e w' => ∃ v, e = .returned v ∧ J v w' :=
  vcFS_sound (H := { keep := some [0, 1, 2, 6, 7, 8, 9, 10, 26, 50], stages := [(7, [.held [(0, true), (1, true), (2, true), (3, true), (5, true), (6, true), (7, true), (4, false)], .stage [8, 9, 10, 11, 12, 13, 14] none])] }) (by rw [show vcFS Tryz.prog W { keep := some [0, 1, 2, 6, 7, 8, 9, 10, 26, 50], stages := [(7, [.held [(0, true), (1, true), (2, true), (3, true), (5, true), (6, true), (7, true), (4, false)], .stage [8, 9, 10, 11, 12, 13, 14] none])] } F.wire_Reader_number #[.pointer (some ⟨rB, rO, none⟩), .int .u8 endx, .int .i64 least] R Φ J = Bwire_Reader_number rB rO endx least W R Φ J by kernel_rfl]; exact h) c

/-- (*wire.Reader).Num -/
def Bwire_Reader_Num (rB rO : Nat) (W : World) (R : List Own) (Φ : PW) (J : Value → World → Prop) : Prop :=
  ∀ (w0 : World) (R1 : List Own), Ctx W w0 (R ++ R1) Φ → Calls Tryz.prog F.wire_Reader_number #[Value.pointer (some (Addr.mk rB rO none)), Value.int IntKind.u8 59, Value.int IntKind.i64 0] w0
  fun (e2 : Ending) (w3 : World) => ∃ (n4 : Int), e2 = Ending.returned (Value.int IntKind.i64 n4) ∧ ∃ (R5 : List Own), ∃ (Φ6 : PW), Stable Φ6 ∧ Ctx W w3 (R5 ++ R1) Φ6 ∧ ∀ (w7 : World) (R8 :
  List Own), Ctx W w7 (R5 ++ R8) Φ6 → J (Value.int IntKind.i64 n4) w7

theorem Bwire_Reader_Num_run (rB rO : Nat) {W w : World} {R : List Own} {Φ : PW} [Stable Φ] {J : Value → World → Prop} (c : Ctx W w R Φ) (h : Bwire_Reader_Num rB rO W R Φ J) : Calls Tryz.prog F.wire_Reader_Num #[.pointer (some ⟨rB, rO, none⟩)] w fun e w' => ∃ v, e = .returned v ∧ J v w' :=
  vcFS_sound (H := { keep := some [0, 2] }) (by rw [show vcFS Tryz.prog W { keep := some [0, 2] } F.wire_Reader_Num #[.pointer (some ⟨rB, rO, none⟩)] R Φ J = Bwire_Reader_Num rB rO W R Φ J by kernel_rfl]; exact h) c

/-- value.ReadRow -/
-- loop at region 4: 5 out, 6 n; blocks 
def Bvalue_ReadRow (s : ByteArray) (W : World) (R : List Own) (Φ : PW) (J : Value → World → Prop) : Prop :=
  ∀ (w0 : World) (R1 : List Own), Ctx W w0 (R ++ R1) Φ → Calls Tryz.prog F.wire_Open #[Value.string s] w0 fun (e2 : Ending) (w3 : World) => ∃ (p4 : Option Addr), e2 = Ending.returned
  (Value.pointer p4) ∧ ∃ (R5 : List Own), ∃ (Φ6 : PW), Stable Φ6 ∧ Ctx W w3 (R5 ++ R1) Φ6 ∧ ∀ (w7 : World) (R8 : List Own), Ctx W w7 (R5 ++ R8) Φ6 → Calls Tryz.prog F.wire_Reader_Num
  #[Value.pointer p4] w7 fun (e9 : Ending) (w10 : World) => ∃ (n11 : Int), e9 = Ending.returned (Value.int IntKind.i64 n11) ∧ ∃ (R12 : List Own), ∃ (Φ13 : PW), Stable Φ13 ∧ Ctx W w10 (R12 ++
  R8) Φ13 ∧ exI fun (I14 : Option Addr → Nat → Nat → Int → List Own → PW → Nat → Prop) => (∃ (R15 : List Own), ∃ (Φ16 : PW), ∃ (k17 : Nat), Stable Φ16 ∧ (∀ (w18 : World) (R19 : List Own), Ctx
  W w18 (R12 ++ R19) Φ13 → Ctx W w18 (R15 ++ R19) Φ16) ∧ I14 none 0 0 n11 R15 Φ16 k17) ∧ ∀ (p20 : Option Addr) (k21 k22 : Nat) (n23 : Int) (R24 : List Own) (I25 : List Nat → World → Prop)
  (k26 : Nat), Stable I25 → I14 p20 k21 k22 n23 R24 I25 k26 → Br (decide (0 < n23)) (∀ (w27 : World) (R28 : List Own), Ctx W w27 (R24 ++ R28) I25 → Calls Tryz.prog F.wire_Reader_Left
  #[Value.pointer p4] w27 fun (e29 : Ending) (w30 : World) => ∃ (n31 : Int), e29 = Ending.returned (Value.int IntKind.i64 n31) ∧ ∃ (R32 : List Own), ∃ (Φ33 : PW), Stable Φ33 ∧ Ctx W w30 (R32
  ++ R28) Φ33 ∧ Br (decide (n31 = 0)) (∀ (w34 : World) (R35 : List Own), Ctx W w34 (R32 ++ R35) Φ33 → J (Value.tuple #[Value.slice none 0 0, Value.bool false]) w34) (∀ (w36 : World) (R37 :
  List Own), Ctx W w36 (R32 ++ R37) Φ33 → Calls Tryz.prog F.value_take #[Value.pointer p4] w36 fun (e38 : Ending) (w39 : World) => ∃ (n40 : Int), ∃ (n41 : Int), ∃ (s42 : ByteArray), e38 =
  Ending.returned (Value.agg #[Value.int IntKind.i64 n40, Value.int IntKind.i64 n41, Value.string s42]) ∧ ∃ (R43 : List Own), ∃ (Φ44 : PW), Stable Φ44 ∧ Ctx W w39 (R43 ++ R37) Φ44 ∧ ∀ (k45 :
  Nat) (w46 : World) (R47 : List Own), Ctx W w46 (Own.blk k45 [Value.int IntKind.i64 n40, Value.int IntKind.i64 n41, Value.string s42] 94 :: R43 ++ R47) Φ44 → ∃ (p48 : Option Addr), ∃ (k49 :
  Nat), ∃ (k50 : Nat), ∃ (w51 : World), Sem.run Tryz.prog (builtin Builtin.append #[44, 44] 44 #[false, false] #[Value.slice p20 k21 k22, Value.slice (some (Addr.mk k45 0 none)) 1 1]) w46 =
  Result.ok (Next.value (Value.slice p48 k49 k50)) w51 ∧ ∃ (R52 : List Own), ∃ (Φ53 : PW), Stable Φ53 ∧ Ctx W w51 (R52 ++ R47) Φ53 ∧ I64 (n23 - 1) ∧ ∃ (R54 : List Own), ∃ (Φ55 : PW), ∃ (k56 :
  Nat), Stable Φ55 ∧ (∀ (w57 : World) (R58 : List Own), Ctx W w57 (R52 ++ R58) Φ53 → Ctx W w57 (R54 ++ R58) Φ55) ∧ I14 p48 k49 k50 (n23 - 1) R54 Φ55 k56 ∧ k56 < k26)) (∀ (w59 : World) (R60 :
  List Own), Ctx W w59 (R24 ++ R60) I25 → Calls Tryz.prog F.wire_Reader_Done #[Value.pointer p4] w59 fun (e61 : Ending) (w62 : World) => ∃ (c63 : Bool), e61 = Ending.returned (Value.bool c63)
  ∧ ∃ (R64 : List Own), ∃ (Φ65 : PW), Stable Φ65 ∧ Ctx W w62 (R64 ++ R60) Φ65 ∧ Br (!c63) (∀ (w66 : World) (R67 : List Own), Ctx W w66 (R64 ++ R67) Φ65 → J (Value.tuple #[Value.slice none 0
  0, Value.bool false]) w66) (∀ (w68 : World) (R69 : List Own), Ctx W w68 (R64 ++ R69) Φ65 → J (Value.tuple #[Value.slice p20 k21 k22, Value.bool true]) w68))

theorem Bvalue_ReadRow_run (s : ByteArray) {W w : World} {R : List Own} {Φ : PW} [Stable Φ] {J : Value → World → Prop} (c : Ctx W w R Φ) (h : Bvalue_ReadRow s W R Φ J) : Calls Tryz.prog F.value_ReadRow #[.string s] w fun e w' => ∃ v, e = .returned v ∧ J v w' :=
  vcFS_sound (H := { keep := some [0, 2, 3, 4, 5, 6, 12, 17, 25], loops := [(4, [(5, .one (.slice)), (6, .one (.int .i64))], [])] }) (by rw [show vcFS Tryz.prog W { keep := some [0, 2, 3, 4, 5, 6, 12, 17, 25], loops := [(4, [(5, .one (.slice)), (6, .one (.int .i64))], [])] } F.value_ReadRow #[.string s] R Φ J = Bvalue_ReadRow s W R Φ J by kernel_rfl]; exact h) c

/-- (*wire.Reader).Text -/
def Bwire_Reader_Text (rB rO : Nat) (W : World) (R : List Own) (Φ : PW) (J : Value → World → Prop) : Prop :=
  ∀ (w0 : World) (R1 : List Own), Ctx W w0 (R ++ R1) Φ → Calls Tryz.prog F.wire_Reader_number #[Value.pointer (some (Addr.mk rB rO none)), Value.int IntKind.u8 58, Value.int IntKind.i64 0] w0
  fun (e2 : Ending) (w3 : World) => ∃ (n4 : Int), e2 = Ending.returned (Value.int IntKind.i64 n4) ∧ ∃ (R5 : List Own), ∃ (Φ6 : PW), Stable Φ6 ∧ Ctx W w3 (R5 ++ R1) Φ6 ∧ ∀ (w7 : World) (R8 :
  List Own), Ctx W w7 (R5 ++ R8) Φ6 → ∃ (s9 : ByteArray), w7.cell? (Addr.mk rB rO none) = some (Value.string s9) ∧ Br (decide ((↑s9.size : Int) < n4)) (∀ (w10 : World) (R11 : List Own), Ctx W
  w10 (R5 ++ R11) Φ6 → Calls Tryz.prog F.wire_Reader_fail #[Value.pointer (some (Addr.mk rB rO none))] w10 fun (e12 : Ending) (w13 : World) => e12 = Ending.returned (Value.tuple #[]) ∧ ∃ (R14
  : List Own), ∃ (Φ15 : PW), Stable Φ15 ∧ Ctx W w13 (R14 ++ R11) Φ15 ∧ ∀ (w16 : World) (R17 : List Own), Ctx W w16 (R14 ++ R17) Φ15 → J (Value.string (ByteArray.mk #[])) w16) (∀ (w18 : World)
  (R19 : List Own), Ctx W w18 (R5 ++ R19) Φ6 → ∃ (s20 : ByteArray), w18.cell? (Addr.mk rB rO none) = some (Value.string s20) ∧ (0 ≤ n4 ∧ n4 ≤ (↑s20.size : Int)) ∧ ∀ (w21 : World) (R22 : List
  Own), Ctx W w21 (R5 ++ R22) Φ6 → ∃ (s23 : ByteArray), w21.cell? (Addr.mk rB rO none) = some (Value.string s23) ∧ (0 ≤ n4 ∧ n4 ≤ (↑s23.size : Int) ∧ s23.size ≤ s23.size) ∧ ∀ (w24 : World)
  (R25 : List Own), Ctx W w24 (R5 ++ R25) Φ6 → CanWrite w24 rB rO 1 ∧ ∀ (w26 : World), w26 = w24.setCell (Addr.mk rB rO none) (Value.string (s23.extract n4.toNat s23.size)) → ∃ (R27 : List
  Own), ∃ (Φ28 : PW), Stable Φ28 ∧ Ctx W w26 (R27 ++ R25) Φ28 ∧ ∀ (w29 : World) (R30 : List Own), Ctx W w29 (R27 ++ R30) Φ28 → Calls Tryz.prog F.wire_Reader_close #[Value.pointer (some
  (Addr.mk rB rO none)), Value.string (ByteArray.mk #[OfNat.ofNat 44])] w29 fun (e31 : Ending) (w32 : World) => e31 = Ending.returned (Value.tuple #[]) ∧ ∃ (R33 : List Own), ∃ (Φ34 : PW),
  Stable Φ34 ∧ Ctx W w32 (R33 ++ R30) Φ34 ∧ ∀ (w35 : World) (R36 : List Own), Ctx W w35 (R33 ++ R36) Φ34 → ∃ (c37 : Bool), w35.cell? (Addr.mk rB (rO + 1) none) = some (Value.bool c37) ∧ Br
  c37 (∀ (w38 : World) (R39 : List Own), Ctx W w38 (R33 ++ R39) Φ34 → J (Value.string (ByteArray.mk #[])) w38) (∀ (w40 : World) (R41 : List Own), Ctx W w40 (R33 ++ R41) Φ34 → J (Value.string
  (s20.extract 0 n4.toNat)) w40))

theorem Bwire_Reader_Text_run (rB rO : Nat) {W w : World} {R : List Own} {Φ : PW} [Stable Φ] {J : Value → World → Prop} (c : Ctx W w R Φ) (h : Bwire_Reader_Text rB rO W R Φ J) : Calls Tryz.prog F.wire_Reader_Text #[.pointer (some ⟨rB, rO, none⟩)] w fun e w' => ∃ v, e = .returned v ∧ J v w' :=
  vcFS_sound (H := { keep := some [0, 2, 3, 4, 13, 36] }) (by rw [show vcFS Tryz.prog W { keep := some [0, 2, 3, 4, 13, 36] } F.wire_Reader_Text #[.pointer (some ⟨rB, rO, none⟩)] R Φ J = Bwire_Reader_Text rB rO W R Φ J by kernel_rfl]; exact h) c

/-- wire.list[int] -/
-- loop at region 4: 15 ; blocks 
def Bwire_list_int (lP : Option Addr) (lN lC : Nat) (oneF : FuncId) (oneC : Array Value) (W : World) (R : List Own) (Φ : PW) (J : Value → World → Prop) : Prop :=
  ∀ (k0 : Nat) (w1 : World) (R2 : List Own), Ctx W w1 (Own.blk k0 [Value.pointer none, Value.slice none 0 0] 111 :: R ++ R2) Φ → Calls Tryz.prog F.strconv_Itoa #[Value.int IntKind.i64 (↑lN :
  Int)] w1 fun (e3 : Ending) (w4 : World) => ∃ (s5 : ByteArray), e3 = Ending.returned (Value.string s5) ∧ ∃ (R6 : List Own), ∃ (Φ7 : PW), Stable Φ7 ∧ Ctx W w4 (R6 ++ R2) Φ7 ∧ (s5.size +
  (ByteArray.mk #[OfNat.ofNat 91]).size).le 9223372036854775807 ∧ ∀ (w8 : World) (R9 : List Own), Ctx W w8 (R6 ++ R9) Φ7 → Calls Tryz.prog F.strings_Builder_WriteString #[Value.pointer (some
  (Addr.mk k0 0 none)), Value.string (s5 ++ ByteArray.mk #[OfNat.ofNat 91])] w8 fun (e10 : Ending) (w11 : World) => ∃ (n12 : Int), ∃ (v13 : Value), e10 = Ending.returned (Value.tuple
  #[Value.int IntKind.i64 n12, v13]) ∧ ∃ (R14 : List Own), ∃ (Φ15 : PW), Stable Φ15 ∧ Ctx W w11 (R14 ++ R9) Φ15 ∧ exI fun (I16 : Int → List Own → PW → Nat → Prop) => (∃ (R17 : List Own), ∃
  (Φ18 : PW), ∃ (k19 : Nat), Stable Φ18 ∧ (∀ (w20 : World) (R21 : List Own), Ctx W w20 (R14 ++ R21) Φ15 → Ctx W w20 (R17 ++ R21) Φ18) ∧ I16 0 R17 Φ18 k19) ∧ ∀ (n22 : Int) (R23 : List Own)
  (I24 : List Nat → World → Prop) (k25 : Nat), Stable I24 → I16 n22 R23 I24 k25 → Br (decide (n22 < (↑lN : Int))) ((0 ≤ n22 ∧ n22 < (↑lN : Int)) ∧ ptrK none lP fun (k26 k27 : Nat) => ∀ (w28 :
  World) (R29 : List Own), Ctx W w28 (R23 ++ R29) I24 → ∃ (n30 : Int), w28.cell? (Addr.mk k26 (k27 + n22.toNat) none) = some (Value.int IntKind.i64 n30) ∧ ∀ (w31 : World) (R32 : List Own),
  Ctx W w31 (R23 ++ R32) I24 → okFun Tryz.prog oneF = true ∧ Calls Tryz.prog oneF (Array.mk (Value.int IntKind.i64 n30 :: oneC.toList)) w31 fun (e33 : Ending) (w34 : World) => ∃ (s35 :
  ByteArray), e33 = Ending.returned (Value.string s35) ∧ ∃ (R36 : List Own), ∃ (Φ37 : PW), Stable Φ37 ∧ Ctx W w34 (R36 ++ R32) Φ37 ∧ ∀ (w38 : World) (R39 : List Own), Ctx W w38 (R36 ++ R39)
  Φ37 → Calls Tryz.prog F.strings_Builder_WriteString #[Value.pointer (some (Addr.mk k0 0 none)), Value.string s35] w38 fun (e40 : Ending) (w41 : World) => ∃ (n42 : Int), ∃ (v43 : Value), e40
  = Ending.returned (Value.tuple #[Value.int IntKind.i64 n42, v43]) ∧ ∃ (R44 : List Own), ∃ (Φ45 : PW), Stable Φ45 ∧ Ctx W w41 (R44 ++ R39) Φ45 ∧ I64 (n22 + 1) ∧ ∃ (R46 : List Own), ∃ (Φ47 :
  PW), ∃ (k48 : Nat), Stable Φ47 ∧ (∀ (w49 : World) (R50 : List Own), Ctx W w49 (R44 ++ R50) Φ45 → Ctx W w49 (R46 ++ R50) Φ47) ∧ I16 (n22 + 1) R46 Φ47 k48 ∧ k48 < k25) (∀ (w51 : World) (R52 :
  List Own), Ctx W w51 (R23 ++ R52) I24 → Calls Tryz.prog F.strings_Builder_String #[Value.pointer (some (Addr.mk k0 0 none))] w51 fun (e53 : Ending) (w54 : World) => ∃ (s55 : ByteArray), e53
  = Ending.returned (Value.string s55) ∧ ∃ (R56 : List Own), ∃ (Φ57 : PW), Stable Φ57 ∧ Ctx W w54 (R56 ++ R52) Φ57 ∧ (s55.size + (ByteArray.mk #[OfNat.ofNat 93]).size).le 9223372036854775807
  ∧ ∀ (w58 : World) (R59 : List Own), Ctx W w58 (R56 ++ R59) Φ57 → J (Value.string (s55 ++ ByteArray.mk #[OfNat.ofNat 93])) w58)

theorem Bwire_list_int_run (lP : Option Addr) (lN lC : Nat) (oneF : FuncId) (oneC : Array Value) {W w : World} {R : List Own} {Φ : PW} [Stable Φ] {J : Value → World → Prop} (c : Ctx W w R Φ) (h : Bwire_list_int lP lN lC oneF oneC W R Φ J) : Calls Tryz.prog F.wire_list_int #[.slice lP lN lC, .func (.func oneF) #[] oneC] w fun e w' => ∃ v, e = .returned v ∧ J v w' :=
  vcFS_sound (H := { keep := some [0, 1, 4, 5, 7, 13, 14, 15, 16], wrap := [21], loops := [(4, [(15, .one (.int .i64))], [])] }) (by rw [show vcFS Tryz.prog W { keep := some [0, 1, 4, 5, 7, 13, 14, 15, 16], wrap := [21], loops := [(4, [(15, .one (.int .i64))], [])] } F.wire_list_int #[.slice lP lN lC, .func (.func oneF) #[] oneC] R Φ J = Bwire_list_int lP lN lC oneF oneC W R Φ J by kernel_rfl]; exact h) c

/-- (*strings.Builder).WriteString -/
def Bstrings_Builder_WriteString (bB bO : Nat) (s : ByteArray) (W : World) (R : List Own) (Φ : PW) (J : Value → World → Prop) : Prop :=
  ∀ (w0 : World) (R1 : List Own), Ctx W w0 (R ++ R1) Φ → Calls Tryz.prog F.strings_Builder_copyCheck #[Value.pointer (some (Addr.mk bB bO none))] w0 fun (e2 : Ending) (w3 : World) => e2 =
  Ending.returned (Value.tuple #[]) ∧ ∃ (R4 : List Own), ∃ (Φ5 : PW), Stable Φ5 ∧ Ctx W w3 (R4 ++ R1) Φ5 ∧ ∀ (w6 : World) (R7 : List Own), Ctx W w6 (R4 ++ R7) Φ5 → ∃ (p8 : Option Addr), ∃ (k9
  : Nat), ∃ (k10 : Nat), w6.cell? (Addr.mk bB (bO + 1) none) = some (Value.slice p8 k9 k10) ∧ ∀ (w11 : World) (R12 : List Own), Ctx W w11 (R4 ++ R12) Φ5 → ∃ (p13 : Option Addr), ∃ (k14 :
  Nat), ∃ (k15 : Nat), ∃ (w16 : World), Sem.run Tryz.prog (builtin Builtin.append #[109, 9] 109 #[false, false] #[Value.slice p8 k9 k10, Value.string s]) w11 = Result.ok (Next.value
  (Value.slice p13 k14 k15)) w16 ∧ ∃ (R17 : List Own), ∃ (Φ18 : PW), Stable Φ18 ∧ Ctx W w16 (R17 ++ R12) Φ18 ∧ ∀ (w19 : World) (R20 : List Own), Ctx W w19 (R17 ++ R20) Φ18 → CanWrite w19 bB
  (bO + 1) 1 ∧ ∀ (w21 : World), w21 = w19.setCell (Addr.mk bB (bO + 1) none) (Value.slice p13 k14 k15) → ∃ (R22 : List Own), ∃ (Φ23 : PW), Stable Φ23 ∧ Ctx W w21 (R22 ++ R20) Φ23 ∧ ∀ (w24 :
  World) (R25 : List Own), Ctx W w24 (R22 ++ R25) Φ23 → J (Value.tuple #[Value.int IntKind.i64 (↑s.size : Int), Value.nilIface]) w24

theorem Bstrings_Builder_WriteString_run (bB bO : Nat) (s : ByteArray) {W w : World} {R : List Own} {Φ : PW} [Stable Φ] {J : Value → World → Prop} (c : Ctx W w R Φ) (h : Bstrings_Builder_WriteString bB bO s W R Φ J) : Calls Tryz.prog F.strings_Builder_WriteString #[.pointer (some ⟨bB, bO, none⟩), .string s] w fun e w' => ∃ v, e = .returned v ∧ J v w' :=
  vcFS_sound (H := { keep := some [0, 1, 4, 5] }) (by rw [show vcFS Tryz.prog W { keep := some [0, 1, 4, 5] } F.strings_Builder_WriteString #[.pointer (some ⟨bB, bO, none⟩), .string s] R Φ J = Bstrings_Builder_WriteString bB bO s W R Φ J by kernel_rfl]; exact h) c

/-- wire.Num -/
def Bwire_Num (n : Int) (W : World) (R : List Own) (Φ : PW) (J : Value → World → Prop) : Prop :=
  Br (decide (n < 0)) (∀ (w0 : World) (R1 : List Own), Ctx W w0 (R ++ R1) Φ → J (Value.string (ByteArray.mk #[])) w0) (∀ (w2 : World) (R3 : List Own), Ctx W w2 (R ++ R3) Φ → Calls Tryz.prog
  F.wire_Int #[Value.int IntKind.i64 n] w2 fun (e4 : Ending) (w5 : World) => ∃ (s6 : ByteArray), e4 = Ending.returned (Value.string s6) ∧ ∃ (R7 : List Own), ∃ (Φ8 : PW), Stable Φ8 ∧ Ctx W w5
  (R7 ++ R3) Φ8 ∧ ∀ (w9 : World) (R10 : List Own), Ctx W w9 (R7 ++ R10) Φ8 → J (Value.string s6) w9)

theorem Bwire_Num_run (n : Int) {W w : World} {R : List Own} {Φ : PW} [Stable Φ] {J : Value → World → Prop} (c : Ctx W w R Φ) (h : Bwire_Num n W R Φ J) : Calls Tryz.prog F.wire_Num #[.int .i64 n] w fun e w' => ∃ v, e = .returned v ∧ J v w' :=
  vcFS_sound (H := { keep := some [0, 2, 4] }) (by rw [show vcFS Tryz.prog W { keep := some [0, 2, 4] } F.wire_Num #[.int .i64 n] R Φ J = Bwire_Num n W R Φ J by kernel_rfl]; exact h) c

/-- wire.Text -/
def Bwire_Text (s : ByteArray) (W : World) (R : List Own) (Φ : PW) (J : Value → World → Prop) : Prop :=
  ∀ (w0 : World) (R1 : List Own), Ctx W w0 (R ++ R1) Φ → Calls Tryz.prog F.strconv_Itoa #[Value.int IntKind.i64 (↑s.size : Int)] w0 fun (e2 : Ending) (w3 : World) => ∃ (s4 : ByteArray), e2 =
  Ending.returned (Value.string s4) ∧ ∃ (R5 : List Own), ∃ (Φ6 : PW), Stable Φ6 ∧ Ctx W w3 (R5 ++ R1) Φ6 ∧ (s4.size + (ByteArray.mk #[OfNat.ofNat 58]).size).le 9223372036854775807 ∧ ((s4 ++
  ByteArray.mk #[OfNat.ofNat 58]).size + s.size).le 9223372036854775807 ∧ ((s4 ++ ByteArray.mk #[OfNat.ofNat 58] ++ s).size + (ByteArray.mk #[OfNat.ofNat 44]).size).le 9223372036854775807 ∧ ∀
  (w7 : World) (R8 : List Own), Ctx W w7 (R5 ++ R8) Φ6 → J (Value.string (s4 ++ ByteArray.mk #[OfNat.ofNat 58] ++ s ++ ByteArray.mk #[OfNat.ofNat 44])) w7

theorem Bwire_Text_run (s : ByteArray) {W w : World} {R : List Own} {Φ : PW} [Stable Φ] {J : Value → World → Prop} (c : Ctx W w R Φ) (h : Bwire_Text s W R Φ J) : Calls Tryz.prog F.wire_Text #[.string s] w fun e w' => ∃ v, e = .returned v ∧ J v w' :=
  vcFS_sound (H := { keep := some [0, 2] }) (by rw [show vcFS Tryz.prog W { keep := some [0, 2] } F.wire_Text #[.string s] R Φ J = Bwire_Text s W R Φ J by kernel_rfl]; exact h) c

/-- value.Bytes -/
-- known blocks: 1 v
def Bvalue_Bytes (v0 : Int) (v1 : Int) (v2 : ByteArray) (W : World) (R : List Own) (Φ : PW) (J : Value → World → Prop) : Prop :=
  ∀ (b : Nat), ∃ (R0 : List Own), ∃ (Φ1 : PW), Stable Φ1 ∧ (∀ (w2 : World) (R3 : List Own), Ctx W w2 (R ++ R3) Φ → Ctx W w2 (R0 ++ R3) Φ1) ∧ ∀ (w4 : World) (R5 : List Own), Ctx W w4 (R ++ R5)
  Φ → Calls Tryz.prog F.wire_Int #[Value.int IntKind.i64 v0] w4 fun (e6 : Ending) (w7 : World) => ∃ (s8 : ByteArray), e6 = Ending.returned (Value.string s8) ∧ ∃ (R9 : List Own), ∃ (Φ10 : PW),
  Stable Φ10 ∧ Ctx W w7 (R9 ++ R5) Φ10 ∧ (∀ (w11 : World) (R12 : List Own), Ctx W w11 (R9 ++ R12) Φ10 → Ctx W w11 (R0 ++ R12) Φ1) ∧ ∀ (w13 : World) (R14 : List Own), Ctx W w13 (R9 ++ R14) Φ10
  → Calls Tryz.prog F.wire_Int #[Value.int IntKind.i64 v1] w13 fun (e15 : Ending) (w16 : World) => ∃ (s17 : ByteArray), e15 = Ending.returned (Value.string s17) ∧ ∃ (R18 : List Own), ∃ (Φ19 :
  PW), Stable Φ19 ∧ Ctx W w16 (R18 ++ R14) Φ19 ∧ (∀ (w20 : World) (R21 : List Own), Ctx W w20 (R18 ++ R21) Φ19 → Ctx W w20 (R0 ++ R21) Φ1) ∧ (s8.size + s17.size).le 9223372036854775807 ∧ ∀
  (w22 : World) (R23 : List Own), Ctx W w22 (R18 ++ R23) Φ19 → Calls Tryz.prog F.wire_Text #[Value.string v2] w22 fun (e24 : Ending) (w25 : World) => ∃ (s26 : ByteArray), e24 =
  Ending.returned (Value.string s26) ∧ ∃ (R27 : List Own), ∃ (Φ28 : PW), Stable Φ28 ∧ Ctx W w25 (R27 ++ R23) Φ28 ∧ (∀ (w29 : World) (R30 : List Own), Ctx W w29 (R27 ++ R30) Φ28 → Ctx W w29
  (R0 ++ R30) Φ1) ∧ ((s8 ++ s17).size + s26.size).le 9223372036854775807 ∧ ∀ (w31 : World) (R32 : List Own), Ctx W w31 (R27 ++ R32) Φ28 → J (Value.string (s8 ++ s17 ++ s26)) w31

theorem Bvalue_Bytes_run (v0 : Int) (v1 : Int) (v2 : ByteArray) {W w : World} {R : List Own} {Φ : PW} [Stable Φ] {J : Value → World → Prop} (c : Ctx W w R Φ) (h : Bvalue_Bytes v0 v1 v2 W R Φ J) : Calls Tryz.prog F.value_Bytes #[.agg #[.int .i64 v0, .int .i64 v1, .string v2]] w fun e w' => ∃ v, e = .returned v ∧ J v w' :=
  vcFS_sound (H := { keep := some [1, 2], track := [1], stages := [(1, [.held [(0, true), (3, true), (7, true), (1, true), (4, true), (8, true), (2, false), (5, false), (6, true), (9, false)], .stage [10, 11] none])] }) (by rw [show vcFS Tryz.prog W { keep := some [1, 2], track := [1], stages := [(1, [.held [(0, true), (3, true), (7, true), (1, true), (4, true), (8, true), (2, false), (5, false), (6, true), (9, false)], .stage [10, 11] none])] } F.value_Bytes #[.agg #[.int .i64 v0, .int .i64 v1, .string v2]] R Φ J = Bvalue_Bytes v0 v1 v2 W R Φ J by kernel_rfl]; exact h) c

/-- (*wire.Reader).fail -/
def Bwire_Reader_fail (rB rO : Nat) (W : World) (R : List Own) (Φ : PW) (J : Value → World → Prop) : Prop :=
  ∀ (w0 : World) (R1 : List Own), Ctx W w0 (R ++ R1) Φ → CanWrite w0 rB rO 1 ∧ ∀ (w2 : World), w2 = w0.setCell (Addr.mk rB rO none) (Value.string (ByteArray.mk #[])) → ∃ (R3 : List Own), ∃
  (Φ4 : PW), Stable Φ4 ∧ Ctx W w2 (R3 ++ R1) Φ4 ∧ ∀ (w5 : World) (R6 : List Own), Ctx W w5 (R3 ++ R6) Φ4 → CanWrite w5 rB (rO + 1) 1 ∧ ∀ (w7 : World), w7 = w5.setCell (Addr.mk rB (rO + 1)
  none) (Value.bool true) → ∃ (R8 : List Own), ∃ (Φ9 : PW), Stable Φ9 ∧ Ctx W w7 (R8 ++ R6) Φ9 ∧ ∀ (w10 : World) (R11 : List Own), Ctx W w10 (R8 ++ R11) Φ9 → J (Value.tuple #[]) w10

theorem Bwire_Reader_fail_run (rB rO : Nat) {W w : World} {R : List Own} {Φ : PW} [Stable Φ] {J : Value → World → Prop} (c : Ctx W w R Φ) (h : Bwire_Reader_fail rB rO W R Φ J) : Calls Tryz.prog F.wire_Reader_fail #[.pointer (some ⟨rB, rO, none⟩)] w fun e w' => ∃ v, e = .returned v ∧ J v w' :=
  vcFS_sound (H := { keep := some [] }) (by rw [show vcFS Tryz.prog W { keep := some [] } F.wire_Reader_fail #[.pointer (some ⟨rB, rO, none⟩)] R Φ J = Bwire_Reader_fail rB rO W R Φ J by kernel_rfl]; exact h) c

/-- (*wire.Reader).close -/
def Bwire_Reader_close (rB rO : Nat) (endx : ByteArray) (W : World) (R : List Own) (Φ : PW) (J : Value → World → Prop) : Prop :=
  ∀ (w0 : World) (R1 : List Own), Ctx W w0 (R ++ R1) Φ → ∃ (s2 : ByteArray), w0.cell? (Addr.mk rB rO none) = some (Value.string s2) ∧ ∀ (w3 : World) (R4 : List Own), Ctx W w3 (R ++ R4) Φ →
  Calls Tryz.prog F.strings_CutPrefix #[Value.string s2, Value.string endx] w3 fun (e5 : Ending) (w6 : World) => ∃ (s7 : ByteArray), ∃ (c8 : Bool), e5 = Ending.returned (Value.tuple
  #[Value.string s7, Value.bool c8]) ∧ ∃ (R9 : List Own), ∃ (Φ10 : PW), Stable Φ10 ∧ Ctx W w6 (R9 ++ R4) Φ10 ∧ ∀ (w11 : World) (R12 : List Own), Ctx W w11 (R9 ++ R12) Φ10 → CanWrite w11 rB rO
  1 ∧ ∀ (w13 : World), w13 = w11.setCell (Addr.mk rB rO none) (Value.string s7) → ∃ (R14 : List Own), ∃ (Φ15 : PW), Stable Φ15 ∧ Ctx W w13 (R14 ++ R12) Φ15 ∧ Br (!c8) (∀ (w16 : World) (R17 :
  List Own), Ctx W w16 (R14 ++ R17) Φ15 → Calls Tryz.prog F.wire_Reader_fail #[Value.pointer (some (Addr.mk rB rO none))] w16 fun (e18 : Ending) (w19 : World) => e18 = Ending.returned
  (Value.tuple #[]) ∧ ∃ (R20 : List Own), ∃ (Φ21 : PW), Stable Φ21 ∧ Ctx W w19 (R20 ++ R17) Φ21 ∧ ∀ (w22 : World) (R23 : List Own), Ctx W w22 (R20 ++ R23) Φ21 → J (Value.tuple #[]) w22) (∀
  (w24 : World) (R25 : List Own), Ctx W w24 (R14 ++ R25) Φ15 → J (Value.tuple #[]) w24)

theorem Bwire_Reader_close_run (rB rO : Nat) (endx : ByteArray) {W w : World} {R : List Own} {Φ : PW} [Stable Φ] {J : Value → World → Prop} (c : Ctx W w R Φ) (h : Bwire_Reader_close rB rO endx W R Φ J) : Calls Tryz.prog F.wire_Reader_close #[.pointer (some ⟨rB, rO, none⟩), .string endx] w fun e w' => ∃ v, e = .returned v ∧ J v w' :=
  vcFS_sound (H := { keep := some [0, 4, 5, 20] }) (by rw [show vcFS Tryz.prog W { keep := some [0, 4, 5, 20] } F.wire_Reader_close #[.pointer (some ⟨rB, rO, none⟩), .string endx] R Φ J = Bwire_Reader_close rB rO endx W R Φ J by kernel_rfl]; exact h) c

/-- (*wire.Reader).Left -/
def Bwire_Reader_Left (rB rO : Nat) (W : World) (R : List Own) (Φ : PW) (J : Value → World → Prop) : Prop :=
  ∀ (w0 : World) (R1 : List Own), Ctx W w0 (R ++ R1) Φ → ∃ (s2 : ByteArray), w0.cell? (Addr.mk rB rO none) = some (Value.string s2) ∧ ∀ (w3 : World) (R4 : List Own), Ctx W w3 (R ++ R4) Φ → J
  (Value.int IntKind.i64 (↑s2.size : Int)) w3

theorem Bwire_Reader_Left_run (rB rO : Nat) {W w : World} {R : List Own} {Φ : PW} [Stable Φ] {J : Value → World → Prop} (c : Ctx W w R Φ) (h : Bwire_Reader_Left rB rO W R Φ J) : Calls Tryz.prog F.wire_Reader_Left #[.pointer (some ⟨rB, rO, none⟩)] w fun e w' => ∃ v, e = .returned v ∧ J v w' :=
  vcFS_sound (H := { keep := some [0, 2] }) (by rw [show vcFS Tryz.prog W { keep := some [0, 2] } F.wire_Reader_Left #[.pointer (some ⟨rB, rO, none⟩)] R Φ J = Bwire_Reader_Left rB rO W R Φ J by kernel_rfl]; exact h) c

/-- value.take -/
-- known blocks: 2 , 3 v
def Bvalue_take (rB rO : Nat) (W : World) (R : List Own) (Φ : PW) (J : Value → World → Prop) : Prop :=
  ∀ (b : Nat) (w0 : World) (R1 : List Own), Ctx W w0 (R ++ R1) Φ → Calls Tryz.prog F.wire_Reader_Int #[Value.pointer (some (Addr.mk rB rO none))] w0 fun (e2 : Ending) (w3 : World) => ∃ (n4 :
  Int), e2 = Ending.returned (Value.int IntKind.i64 n4) ∧ ∃ (R5 : List Own), ∃ (Φ6 : PW), Stable Φ6 ∧ Ctx W w3 (R5 ++ R1) Φ6 ∧ ∀ (w7 : World) (R8 : List Own), Ctx W w7 (R5 ++ R8) Φ6 → Calls
  Tryz.prog F.wire_Reader_Int #[Value.pointer (some (Addr.mk rB rO none))] w7 fun (e9 : Ending) (w10 : World) => ∃ (n11 : Int), e9 = Ending.returned (Value.int IntKind.i64 n11) ∧ ∃ (R12 :
  List Own), ∃ (Φ13 : PW), Stable Φ13 ∧ Ctx W w10 (R12 ++ R8) Φ13 ∧ ∀ (b : Nat) (w14 : World) (R15 : List Own), Ctx W w14 (R12 ++ R15) Φ13 → Calls Tryz.prog F.wire_Reader_Text #[Value.pointer
  (some (Addr.mk rB rO none))] w14 fun (e16 : Ending) (w17 : World) => ∃ (s18 : ByteArray), e16 = Ending.returned (Value.string s18) ∧ ∃ (R19 : List Own), ∃ (Φ20 : PW), Stable Φ20 ∧ Ctx W w17
  (R19 ++ R15) Φ20 ∧ ∀ (w21 : World) (R22 : List Own), Ctx W w21 (R19 ++ R22) Φ20 → J (Value.agg #[Value.int IntKind.i64 n4, Value.int IntKind.i64 n11, Value.string s18]) w21

theorem Bvalue_take_run (rB rO : Nat) {W w : World} {R : List Own} {Φ : PW} [Stable Φ] {J : Value → World → Prop} (c : Ctx W w R Φ) (h : Bvalue_take rB rO W R Φ J) : Calls Tryz.prog F.value_take #[.pointer (some ⟨rB, rO, none⟩)] w fun e w' => ∃ v, e = .returned v ∧ J v w' :=
  vcFS_sound (H := { keep := some [0, 2, 3], track := [2, 3] }) (by rw [show vcFS Tryz.prog W { keep := some [0, 2, 3], track := [2, 3] } F.value_take #[.pointer (some ⟨rB, rO, none⟩)] R Φ J = Bvalue_take rB rO W R Φ J by kernel_rfl]; exact h) c

end Go.Proofs.YtjlfpkgjcffilaaGreatDoor
end

