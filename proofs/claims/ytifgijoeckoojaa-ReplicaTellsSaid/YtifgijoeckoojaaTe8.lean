/-
  The conditions of the walks of some functions, one formula each; 'B<f>_run' says that they suffice. The formulas are printed by a program; the kernel compares them with the functions' code.
-/
import Derived.Test.YtifgijoeckoojaaTe4

section
namespace Go.Proofs.Ytifgijoeckoojaa
set_option linter.unusedVariables false
set_option linter.unusedSimpArgs false
set_option maxRecDepth 100000
open Go.Vc

/-- errataref08.New -/
-- known blocks: 4 h
def Berrataref08_New (id : Int) (h0 : Int) (h1 : Int) (logP : Option Addr) (logN logC : Nat) (W : World) (R : List Own) (Φ : PW) (J : Value → World → Prop) : Prop :=
  ∀ (b : Nat), Br (decide (id < 0)) (∀ (w0 : World) (R1 : List Own), Ctx W w0 (R ++ R1) Φ → J (Value.pointer none) w0) (Br (decide (2 < id)) (∀ (w2 : World) (R3 : List Own), Ctx W w2 (R ++
  R3) Φ → J (Value.pointer none) w2) (Br (decide (h0 < 0)) (∀ (w4 : World) (R5 : List Own), Ctx W w4 (R ++ R5) Φ → J (Value.pointer none) w4) (Br (decide (1099511627776 < h0)) (∀ (w6 : World)
  (R7 : List Own), Ctx W w6 (R ++ R7) Φ → J (Value.pointer none) w6) (Br (decide (h1 < -1)) (∀ (w8 : World) (R9 : List Own), Ctx W w8 (R ++ R9) Φ → J (Value.pointer none) w8) (Br (decide (2 <
  h1)) (∀ (w10 : World) (R11 : List Own), Ctx W w10 (R ++ R11) Φ → J (Value.pointer none) w10) (Br (decide (4000 < (↑logN : Int))) (∀ (w12 : World) (R13 : List Own), Ctx W w12 (R ++ R13) Φ →
  J (Value.pointer none) w12) (∀ (w14 : World) (R15 : List Own), Ctx W w14 (R ++ R15) Φ → Calls Try.prog F.errataref08_sound #[Value.slice logP logN logC, Value.int IntKind.i64 1, Value.int
  IntKind.i64 h0] w14 fun (e16 : Ending) (w17 : World) => ∃ (c18 : Bool), e16 = Ending.returned (Value.bool c18) ∧ ∃ (R19 : List Own), ∃ (Φ20 : PW), Stable Φ20 ∧ Ctx W w17 (R19 ++ R15) Φ20 ∧
  Br (!c18) (∀ (w21 : World) (R22 : List Own), Ctx W w21 (R19 ++ R22) Φ20 → J (Value.pointer none) w21) (∃ (R23 : List Own), ∃ (Φ24 : PW), Stable Φ24 ∧ (∀ (w25 : World) (R26 : List Own), Ctx
  W w25 (R19 ++ R26) Φ20 → Ctx W w25 (R23 ++ R26) Φ24) ∧ (∀ (k27 : Nat), (∀ (w28 : World) (R29 : List Own), Ctx W w28 (Own.blk k27 [] 55 :: R19 ++ R29) Φ20 → Ctx W w28 (R23 ++ R29) Φ24) ∧ (∀
  (w30 : World) (R31 : List Own), Ctx W w30 (Own.blk k27 [] 55 :: R19 ++ R31) Φ20 → ∃ (p32 : Option Addr), ∃ (k33 : Nat), ∃ (k34 : Nat), ∃ (w35 : World), Sem.run Try.prog (builtin
  Builtin.append #[35, 35] 35 #[false, false] #[Value.slice (some (Addr.mk k27 0 none)) 0 0, Value.slice logP logN logC]) w30 = Result.ok (Next.value (Value.slice p32 k33 k34)) w35 ∧ ∃ (R36 :
  List Own), ∃ (Φ37 : PW), Stable Φ37 ∧ Ctx W w35 (R36 ++ R31) Φ37 ∧ (∀ (w38 : World) (R39 : List Own), Ctx W w38 (R36 ++ R39) Φ37 → Ctx W w38 (R23 ++ R39) Φ24) ∧ (((0 : Int) ≤ 3 ∧ (3 : Int)
  ≤ 3 ∧ (3 : Int) ≤ 281474976710656 ∧ (3 : Int) ≤ 9223372036854775807) ∧ ∀ (k40 : Nat), (∀ (w41 : World) (R42 : List Own), Ctx W w41 (Own.blk k40 [Value.bool false, Value.bool false,
  Value.bool false] 4 :: R36 ++ R42) Φ37 → Ctx W w41 (R23 ++ R42) Φ24) ∧ (((0 : Int) ≤ 3 ∧ (3 : Int) ≤ 3 ∧ (24 : Int) ≤ 281474976710656 ∧ (3 : Int) ≤ 9223372036854775807) ∧ ∀ (k43 : Nat), (∀
  (w44 : World) (R45 : List Own), Ctx W w44 (Own.blk k43 [Value.int IntKind.i64 0, Value.int IntKind.i64 0, Value.int IntKind.i64 0] 3 :: Own.blk k40 [Value.bool false, Value.bool false,
  Value.bool false] 4 :: R36 ++ R45) Φ37 → Ctx W w44 (R23 ++ R45) Φ24) ∧ (((0 : Int) ≤ 3 ∧ (3 : Int) ≤ 3 ∧ (24 : Int) ≤ 281474976710656 ∧ (3 : Int) ≤ 9223372036854775807) ∧ ∀ (k46 : Nat), (∀
  (w47 : World) (R48 : List Own), Ctx W w47 (Own.blk k46 [Value.int IntKind.i64 0, Value.int IntKind.i64 0, Value.int IntKind.i64 0] 3 :: Own.blk k43 [Value.int IntKind.i64 0, Value.int
  IntKind.i64 0, Value.int IntKind.i64 0] 3 :: Own.blk k40 [Value.bool false, Value.bool false, Value.bool false] 4 :: R36 ++ R48) Φ37 → Ctx W w47 (R23 ++ R48) Φ24) ∧ (∀ (k49 : Nat), (∀ (w50
  : World) (R51 : List Own), Ctx W w50 (Own.blk k49 [Value.int IntKind.i64 id, Value.int IntKind.i64 h0, Value.int IntKind.i64 h1, Value.slice p32 k33 k34, Value.int IntKind.i64 0, Value.int
  IntKind.i64 0, Value.slice (some (Addr.mk k40 0 none)) 3 3, Value.slice (some (Addr.mk k43 0 none)) 3 3, Value.slice (some (Addr.mk k46 0 none)) 3 3] 67 :: Own.blk k46 [Value.int
  IntKind.i64 0, Value.int IntKind.i64 0, Value.int IntKind.i64 0] 3 :: Own.blk k43 [Value.int IntKind.i64 0, Value.int IntKind.i64 0, Value.int IntKind.i64 0] 3 :: Own.blk k40 [Value.bool
  false, Value.bool false, Value.bool false] 4 :: R36 ++ R51) Φ37 → Ctx W w50 (R23 ++ R51) Φ24) ∧ ∀ (w52 : World) (R53 : List Own), Ctx W w52 (Own.blk k49 [Value.int IntKind.i64 id, Value.int
  IntKind.i64 h0, Value.int IntKind.i64 h1, Value.slice p32 k33 k34, Value.int IntKind.i64 0, Value.int IntKind.i64 0, Value.slice (some (Addr.mk k40 0 none)) 3 3, Value.slice (some (Addr.mk
  k43 0 none)) 3 3, Value.slice (some (Addr.mk k46 0 none)) 3 3] 67 :: Own.blk k46 [Value.int IntKind.i64 0, Value.int IntKind.i64 0, Value.int IntKind.i64 0] 3 :: Own.blk k43 [Value.int
  IntKind.i64 0, Value.int IntKind.i64 0, Value.int IntKind.i64 0] 3 :: Own.blk k40 [Value.bool false, Value.bool false, Value.bool false] 4 :: R36 ++ R53) Φ37 → J (Value.pointer (some
  (Addr.mk k49 0 none))) w52) ∧ True) ∧ True) ∧ (((0 : Int) ≤ 3 ∧ (3 : Int) ≤ 3 ∧ (24 : Int) ≤ 281474976710656 ∧ (3 : Int) ≤ 9223372036854775807) ∧ ∀ (k54 : Nat), (∀ (w55 : World) (R56 : List
  Own), Ctx W w55 (Own.blk k54 [Value.int IntKind.i64 0, Value.int IntKind.i64 0, Value.int IntKind.i64 0] 3 :: Own.blk k40 [Value.bool false, Value.bool false, Value.bool false] 4 :: R36 ++
  R56) Φ37 → Ctx W w55 (R23 ++ R56) Φ24) ∧ (((0 : Int) ≤ 3 ∧ (3 : Int) ≤ 3 ∧ (24 : Int) ≤ 281474976710656 ∧ (3 : Int) ≤ 9223372036854775807) ∧ ∀ (k57 : Nat), (∀ (w58 : World) (R59 : List
  Own), Ctx W w58 (Own.blk k57 [Value.int IntKind.i64 0, Value.int IntKind.i64 0, Value.int IntKind.i64 0] 3 :: Own.blk k54 [Value.int IntKind.i64 0, Value.int IntKind.i64 0, Value.int
  IntKind.i64 0] 3 :: Own.blk k40 [Value.bool false, Value.bool false, Value.bool false] 4 :: R36 ++ R59) Φ37 → Ctx W w58 (R23 ++ R59) Φ24) ∧ (∀ (k60 : Nat), (∀ (w61 : World) (R62 : List
  Own), Ctx W w61 (Own.blk k60 [Value.int IntKind.i64 id, Value.int IntKind.i64 h0, Value.int IntKind.i64 h1, Value.slice p32 k33 k34, Value.int IntKind.i64 0, Value.int IntKind.i64 0,
  Value.slice (some (Addr.mk k40 0 none)) 3 3, Value.slice (some (Addr.mk k57 0 none)) 3 3, Value.slice (some (Addr.mk k54 0 none)) 3 3] 67 :: Own.blk k57 [Value.int IntKind.i64 0, Value.int
  IntKind.i64 0, Value.int IntKind.i64 0] 3 :: Own.blk k54 [Value.int IntKind.i64 0, Value.int IntKind.i64 0, Value.int IntKind.i64 0] 3 :: Own.blk k40 [Value.bool false, Value.bool false,
  Value.bool false] 4 :: R36 ++ R62) Φ37 → Ctx W w61 (R23 ++ R62) Φ24) ∧ ∀ (w63 : World) (R64 : List Own), Ctx W w63 (Own.blk k60 [Value.int IntKind.i64 id, Value.int IntKind.i64 h0,
  Value.int IntKind.i64 h1, Value.slice p32 k33 k34, Value.int IntKind.i64 0, Value.int IntKind.i64 0, Value.slice (some (Addr.mk k40 0 none)) 3 3, Value.slice (some (Addr.mk k57 0 none)) 3
  3, Value.slice (some (Addr.mk k54 0 none)) 3 3] 67 :: Own.blk k57 [Value.int IntKind.i64 0, Value.int IntKind.i64 0, Value.int IntKind.i64 0] 3 :: Own.blk k54 [Value.int IntKind.i64 0,
  Value.int IntKind.i64 0, Value.int IntKind.i64 0] 3 :: Own.blk k40 [Value.bool false, Value.bool false, Value.bool false] 4 :: R36 ++ R64) Φ37 → J (Value.pointer (some (Addr.mk k60 0
  none))) w63) ∧ True) ∧ True) ∧ True) ∧ (((0 : Int) ≤ 3 ∧ (3 : Int) ≤ 3 ∧ (24 : Int) ≤ 281474976710656 ∧ (3 : Int) ≤ 9223372036854775807) ∧ ∀ (k65 : Nat), (∀ (w66 : World) (R67 : List Own),
  Ctx W w66 (Own.blk k65 [Value.int IntKind.i64 0, Value.int IntKind.i64 0, Value.int IntKind.i64 0] 3 :: R36 ++ R67) Φ37 → Ctx W w66 (R23 ++ R67) Φ24) ∧ (((0 : Int) ≤ 3 ∧ (3 : Int) ≤ 3 ∧ (3
  : Int) ≤ 281474976710656 ∧ (3 : Int) ≤ 9223372036854775807) ∧ ∀ (k68 : Nat), (∀ (w69 : World) (R70 : List Own), Ctx W w69 (Own.blk k68 [Value.bool false, Value.bool false, Value.bool false]
  4 :: Own.blk k65 [Value.int IntKind.i64 0, Value.int IntKind.i64 0, Value.int IntKind.i64 0] 3 :: R36 ++ R70) Φ37 → Ctx W w69 (R23 ++ R70) Φ24) ∧ (((0 : Int) ≤ 3 ∧ (3 : Int) ≤ 3 ∧ (24 :
  Int) ≤ 281474976710656 ∧ (3 : Int) ≤ 9223372036854775807) ∧ ∀ (k71 : Nat), (∀ (w72 : World) (R73 : List Own), Ctx W w72 (Own.blk k71 [Value.int IntKind.i64 0, Value.int IntKind.i64 0,
  Value.int IntKind.i64 0] 3 :: Own.blk k68 [Value.bool false, Value.bool false, Value.bool false] 4 :: Own.blk k65 [Value.int IntKind.i64 0, Value.int IntKind.i64 0, Value.int IntKind.i64 0]
  3 :: R36 ++ R73) Φ37 → Ctx W w72 (R23 ++ R73) Φ24) ∧ (∀ (k74 : Nat), (∀ (w75 : World) (R76 : List Own), Ctx W w75 (Own.blk k74 [Value.int IntKind.i64 id, Value.int IntKind.i64 h0, Value.int
  IntKind.i64 h1, Value.slice p32 k33 k34, Value.int IntKind.i64 0, Value.int IntKind.i64 0, Value.slice (some (Addr.mk k68 0 none)) 3 3, Value.slice (some (Addr.mk k65 0 none)) 3 3,
  Value.slice (some (Addr.mk k71 0 none)) 3 3] 67 :: Own.blk k71 [Value.int IntKind.i64 0, Value.int IntKind.i64 0, Value.int IntKind.i64 0] 3 :: Own.blk k68 [Value.bool false, Value.bool
  false, Value.bool false] 4 :: Own.blk k65 [Value.int IntKind.i64 0, Value.int IntKind.i64 0, Value.int IntKind.i64 0] 3 :: R36 ++ R76) Φ37 → Ctx W w75 (R23 ++ R76) Φ24) ∧ ∀ (w77 : World)
  (R78 : List Own), Ctx W w77 (Own.blk k74 [Value.int IntKind.i64 id, Value.int IntKind.i64 h0, Value.int IntKind.i64 h1, Value.slice p32 k33 k34, Value.int IntKind.i64 0, Value.int
  IntKind.i64 0, Value.slice (some (Addr.mk k68 0 none)) 3 3, Value.slice (some (Addr.mk k65 0 none)) 3 3, Value.slice (some (Addr.mk k71 0 none)) 3 3] 67 :: Own.blk k71 [Value.int
  IntKind.i64 0, Value.int IntKind.i64 0, Value.int IntKind.i64 0] 3 :: Own.blk k68 [Value.bool false, Value.bool false, Value.bool false] 4 :: Own.blk k65 [Value.int IntKind.i64 0, Value.int
  IntKind.i64 0, Value.int IntKind.i64 0] 3 :: R36 ++ R78) Φ37 → J (Value.pointer (some (Addr.mk k74 0 none))) w77) ∧ True) ∧ True) ∧ (((0 : Int) ≤ 3 ∧ (3 : Int) ≤ 3 ∧ (24 : Int) ≤
  281474976710656 ∧ (3 : Int) ≤ 9223372036854775807) ∧ ∀ (k79 : Nat), (∀ (w80 : World) (R81 : List Own), Ctx W w80 (Own.blk k79 [Value.int IntKind.i64 0, Value.int IntKind.i64 0, Value.int
  IntKind.i64 0] 3 :: Own.blk k65 [Value.int IntKind.i64 0, Value.int IntKind.i64 0, Value.int IntKind.i64 0] 3 :: R36 ++ R81) Φ37 → Ctx W w80 (R23 ++ R81) Φ24) ∧ (((0 : Int) ≤ 3 ∧ (3 : Int)
  ≤ 3 ∧ (3 : Int) ≤ 281474976710656 ∧ (3 : Int) ≤ 9223372036854775807) ∧ ∀ (k82 : Nat), (∀ (w83 : World) (R84 : List Own), Ctx W w83 (Own.blk k82 [Value.bool false, Value.bool false,
  Value.bool false] 4 :: Own.blk k79 [Value.int IntKind.i64 0, Value.int IntKind.i64 0, Value.int IntKind.i64 0] 3 :: Own.blk k65 [Value.int IntKind.i64 0, Value.int IntKind.i64 0, Value.int
  IntKind.i64 0] 3 :: R36 ++ R84) Φ37 → Ctx W w83 (R23 ++ R84) Φ24) ∧ (∀ (k85 : Nat), (∀ (w86 : World) (R87 : List Own), Ctx W w86 (Own.blk k85 [Value.int IntKind.i64 id, Value.int
  IntKind.i64 h0, Value.int IntKind.i64 h1, Value.slice p32 k33 k34, Value.int IntKind.i64 0, Value.int IntKind.i64 0, Value.slice (some (Addr.mk k82 0 none)) 3 3, Value.slice (some (Addr.mk
  k65 0 none)) 3 3, Value.slice (some (Addr.mk k79 0 none)) 3 3] 67 :: Own.blk k82 [Value.bool false, Value.bool false, Value.bool false] 4 :: Own.blk k79 [Value.int IntKind.i64 0, Value.int
  IntKind.i64 0, Value.int IntKind.i64 0] 3 :: Own.blk k65 [Value.int IntKind.i64 0, Value.int IntKind.i64 0, Value.int IntKind.i64 0] 3 :: R36 ++ R87) Φ37 → Ctx W w86 (R23 ++ R87) Φ24) ∧ ∀
  (w88 : World) (R89 : List Own), Ctx W w88 (Own.blk k85 [Value.int IntKind.i64 id, Value.int IntKind.i64 h0, Value.int IntKind.i64 h1, Value.slice p32 k33 k34, Value.int IntKind.i64 0,
  Value.int IntKind.i64 0, Value.slice (some (Addr.mk k82 0 none)) 3 3, Value.slice (some (Addr.mk k65 0 none)) 3 3, Value.slice (some (Addr.mk k79 0 none)) 3 3] 67 :: Own.blk k82 [Value.bool
  false, Value.bool false, Value.bool false] 4 :: Own.blk k79 [Value.int IntKind.i64 0, Value.int IntKind.i64 0, Value.int IntKind.i64 0] 3 :: Own.blk k65 [Value.int IntKind.i64 0, Value.int
  IntKind.i64 0, Value.int IntKind.i64 0] 3 :: R36 ++ R89) Φ37 → J (Value.pointer (some (Addr.mk k85 0 none))) w88) ∧ True) ∧ True) ∧ True) ∧ (((0 : Int) ≤ 3 ∧ (3 : Int) ≤ 3 ∧ (24 : Int) ≤
  281474976710656 ∧ (3 : Int) ≤ 9223372036854775807) ∧ ∀ (k90 : Nat), (∀ (w91 : World) (R92 : List Own), Ctx W w91 (Own.blk k90 [Value.int IntKind.i64 0, Value.int IntKind.i64 0, Value.int
  IntKind.i64 0] 3 :: R36 ++ R92) Φ37 → Ctx W w91 (R23 ++ R92) Φ24) ∧ (((0 : Int) ≤ 3 ∧ (3 : Int) ≤ 3 ∧ (3 : Int) ≤ 281474976710656 ∧ (3 : Int) ≤ 9223372036854775807) ∧ ∀ (k93 : Nat), (∀ (w94
  : World) (R95 : List Own), Ctx W w94 (Own.blk k93 [Value.bool false, Value.bool false, Value.bool false] 4 :: Own.blk k90 [Value.int IntKind.i64 0, Value.int IntKind.i64 0, Value.int
  IntKind.i64 0] 3 :: R36 ++ R95) Φ37 → Ctx W w94 (R23 ++ R95) Φ24) ∧ (((0 : Int) ≤ 3 ∧ (3 : Int) ≤ 3 ∧ (24 : Int) ≤ 281474976710656 ∧ (3 : Int) ≤ 9223372036854775807) ∧ ∀ (k96 : Nat), (∀
  (w97 : World) (R98 : List Own), Ctx W w97 (Own.blk k96 [Value.int IntKind.i64 0, Value.int IntKind.i64 0, Value.int IntKind.i64 0] 3 :: Own.blk k93 [Value.bool false, Value.bool false,
  Value.bool false] 4 :: Own.blk k90 [Value.int IntKind.i64 0, Value.int IntKind.i64 0, Value.int IntKind.i64 0] 3 :: R36 ++ R98) Φ37 → Ctx W w97 (R23 ++ R98) Φ24) ∧ (∀ (k99 : Nat), (∀ (w100
  : World) (R101 : List Own), Ctx W w100 (Own.blk k99 [Value.int IntKind.i64 id, Value.int IntKind.i64 h0, Value.int IntKind.i64 h1, Value.slice p32 k33 k34, Value.int IntKind.i64 0,
  Value.int IntKind.i64 0, Value.slice (some (Addr.mk k93 0 none)) 3 3, Value.slice (some (Addr.mk k96 0 none)) 3 3, Value.slice (some (Addr.mk k90 0 none)) 3 3] 67 :: Own.blk k96 [Value.int
  IntKind.i64 0, Value.int IntKind.i64 0, Value.int IntKind.i64 0] 3 :: Own.blk k93 [Value.bool false, Value.bool false, Value.bool false] 4 :: Own.blk k90 [Value.int IntKind.i64 0, Value.int
  IntKind.i64 0, Value.int IntKind.i64 0] 3 :: R36 ++ R101) Φ37 → Ctx W w100 (R23 ++ R101) Φ24) ∧ ∀ (w102 : World) (R103 : List Own), Ctx W w102 (Own.blk k99 [Value.int IntKind.i64 id,
  Value.int IntKind.i64 h0, Value.int IntKind.i64 h1, Value.slice p32 k33 k34, Value.int IntKind.i64 0, Value.int IntKind.i64 0, Value.slice (some (Addr.mk k93 0 none)) 3 3, Value.slice (some
  (Addr.mk k96 0 none)) 3 3, Value.slice (some (Addr.mk k90 0 none)) 3 3] 67 :: Own.blk k96 [Value.int IntKind.i64 0, Value.int IntKind.i64 0, Value.int IntKind.i64 0] 3 :: Own.blk k93
  [Value.bool false, Value.bool false, Value.bool false] 4 :: Own.blk k90 [Value.int IntKind.i64 0, Value.int IntKind.i64 0, Value.int IntKind.i64 0] 3 :: R36 ++ R103) Φ37 → J (Value.pointer
  (some (Addr.mk k99 0 none))) w102) ∧ True) ∧ True) ∧ (((0 : Int) ≤ 3 ∧ (3 : Int) ≤ 3 ∧ (24 : Int) ≤ 281474976710656 ∧ (3 : Int) ≤ 9223372036854775807) ∧ ∀ (k104 : Nat), (∀ (w105 : World)
  (R106 : List Own), Ctx W w105 (Own.blk k104 [Value.int IntKind.i64 0, Value.int IntKind.i64 0, Value.int IntKind.i64 0] 3 :: Own.blk k90 [Value.int IntKind.i64 0, Value.int IntKind.i64 0,
  Value.int IntKind.i64 0] 3 :: R36 ++ R106) Φ37 → Ctx W w105 (R23 ++ R106) Φ24) ∧ (((0 : Int) ≤ 3 ∧ (3 : Int) ≤ 3 ∧ (3 : Int) ≤ 281474976710656 ∧ (3 : Int) ≤ 9223372036854775807) ∧ ∀ (k107 :
  Nat), (∀ (w108 : World) (R109 : List Own), Ctx W w108 (Own.blk k107 [Value.bool false, Value.bool false, Value.bool false] 4 :: Own.blk k104 [Value.int IntKind.i64 0, Value.int IntKind.i64
  0, Value.int IntKind.i64 0] 3 :: Own.blk k90 [Value.int IntKind.i64 0, Value.int IntKind.i64 0, Value.int IntKind.i64 0] 3 :: R36 ++ R109) Φ37 → Ctx W w108 (R23 ++ R109) Φ24) ∧ (∀ (k110 :
  Nat), (∀ (w111 : World) (R112 : List Own), Ctx W w111 (Own.blk k110 [Value.int IntKind.i64 id, Value.int IntKind.i64 h0, Value.int IntKind.i64 h1, Value.slice p32 k33 k34, Value.int
  IntKind.i64 0, Value.int IntKind.i64 0, Value.slice (some (Addr.mk k107 0 none)) 3 3, Value.slice (some (Addr.mk k104 0 none)) 3 3, Value.slice (some (Addr.mk k90 0 none)) 3 3] 67 ::
  Own.blk k107 [Value.bool false, Value.bool false, Value.bool false] 4 :: Own.blk k104 [Value.int IntKind.i64 0, Value.int IntKind.i64 0, Value.int IntKind.i64 0] 3 :: Own.blk k90 [Value.int
  IntKind.i64 0, Value.int IntKind.i64 0, Value.int IntKind.i64 0] 3 :: R36 ++ R112) Φ37 → Ctx W w111 (R23 ++ R112) Φ24) ∧ ∀ (w113 : World) (R114 : List Own), Ctx W w113 (Own.blk k110
  [Value.int IntKind.i64 id, Value.int IntKind.i64 h0, Value.int IntKind.i64 h1, Value.slice p32 k33 k34, Value.int IntKind.i64 0, Value.int IntKind.i64 0, Value.slice (some (Addr.mk k107 0
  none)) 3 3, Value.slice (some (Addr.mk k104 0 none)) 3 3, Value.slice (some (Addr.mk k90 0 none)) 3 3] 67 :: Own.blk k107 [Value.bool false, Value.bool false, Value.bool false] 4 :: Own.blk
  k104 [Value.int IntKind.i64 0, Value.int IntKind.i64 0, Value.int IntKind.i64 0] 3 :: Own.blk k90 [Value.int IntKind.i64 0, Value.int IntKind.i64 0, Value.int IntKind.i64 0] 3 :: R36 ++
  R114) Φ37 → J (Value.pointer (some (Addr.mk k110 0 none))) w113) ∧ True) ∧ True) ∧ True) ∧ True) ∧ (((0 : Int) ≤ 3 ∧ (3 : Int) ≤ 3 ∧ (3 : Int) ≤ 281474976710656 ∧ (3 : Int) ≤
  9223372036854775807) ∧ ∀ (k115 : Nat), (∀ (w116 : World) (R117 : List Own), Ctx W w116 (Own.blk k115 [Value.bool false, Value.bool false, Value.bool false] 4 :: Own.blk k27 [] 55 :: R19 ++
  R117) Φ20 → Ctx W w116 (R23 ++ R117) Φ24) ∧ (∀ (w118 : World) (R119 : List Own), Ctx W w118 (Own.blk k115 [Value.bool false, Value.bool false, Value.bool false] 4 :: Own.blk k27 [] 55 ::
  R19 ++ R119) Φ20 → ∃ (p120 : Option Addr), ∃ (k121 : Nat), ∃ (k122 : Nat), ∃ (w123 : World), Sem.run Try.prog (builtin Builtin.append #[35, 35] 35 #[false, false] #[Value.slice (some
  (Addr.mk k27 0 none)) 0 0, Value.slice logP logN logC]) w118 = Result.ok (Next.value (Value.slice p120 k121 k122)) w123 ∧ ∃ (R124 : List Own), ∃ (Φ125 : PW), Stable Φ125 ∧ Ctx W w123 (R124
  ++ R119) Φ125 ∧ (∀ (w126 : World) (R127 : List Own), Ctx W w126 (R124 ++ R127) Φ125 → Ctx W w126 (R23 ++ R127) Φ24) ∧ (((0 : Int) ≤ 3 ∧ (3 : Int) ≤ 3 ∧ (24 : Int) ≤ 281474976710656 ∧ (3 :
  Int) ≤ 9223372036854775807) ∧ ∀ (k128 : Nat), (∀ (w129 : World) (R130 : List Own), Ctx W w129 (Own.blk k128 [Value.int IntKind.i64 0, Value.int IntKind.i64 0, Value.int IntKind.i64 0] 3 ::
  R124 ++ R130) Φ125 → Ctx W w129 (R23 ++ R130) Φ24) ∧ (((0 : Int) ≤ 3 ∧ (3 : Int) ≤ 3 ∧ (24 : Int) ≤ 281474976710656 ∧ (3 : Int) ≤ 9223372036854775807) ∧ ∀ (k131 : Nat), (∀ (w132 : World)
  (R133 : List Own), Ctx W w132 (Own.blk k131 [Value.int IntKind.i64 0, Value.int IntKind.i64 0, Value.int IntKind.i64 0] 3 :: Own.blk k128 [Value.int IntKind.i64 0, Value.int IntKind.i64 0,
  Value.int IntKind.i64 0] 3 :: R124 ++ R133) Φ125 → Ctx W w132 (R23 ++ R133) Φ24) ∧ (∀ (k134 : Nat), (∀ (w135 : World) (R136 : List Own), Ctx W w135 (Own.blk k134 [Value.int IntKind.i64 id,
  Value.int IntKind.i64 h0, Value.int IntKind.i64 h1, Value.slice p120 k121 k122, Value.int IntKind.i64 0, Value.int IntKind.i64 0, Value.slice (some (Addr.mk k115 0 none)) 3 3, Value.slice
  (some (Addr.mk k128 0 none)) 3 3, Value.slice (some (Addr.mk k131 0 none)) 3 3] 67 :: Own.blk k131 [Value.int IntKind.i64 0, Value.int IntKind.i64 0, Value.int IntKind.i64 0] 3 :: Own.blk
  k128 [Value.int IntKind.i64 0, Value.int IntKind.i64 0, Value.int IntKind.i64 0] 3 :: R124 ++ R136) Φ125 → Ctx W w135 (R23 ++ R136) Φ24) ∧ ∀ (w137 : World) (R138 : List Own), Ctx W w137
  (Own.blk k134 [Value.int IntKind.i64 id, Value.int IntKind.i64 h0, Value.int IntKind.i64 h1, Value.slice p120 k121 k122, Value.int IntKind.i64 0, Value.int IntKind.i64 0, Value.slice (some
  (Addr.mk k115 0 none)) 3 3, Value.slice (some (Addr.mk k128 0 none)) 3 3, Value.slice (some (Addr.mk k131 0 none)) 3 3] 67 :: Own.blk k131 [Value.int IntKind.i64 0, Value.int IntKind.i64 0,
  Value.int IntKind.i64 0] 3 :: Own.blk k128 [Value.int IntKind.i64 0, Value.int IntKind.i64 0, Value.int IntKind.i64 0] 3 :: R124 ++ R138) Φ125 → J (Value.pointer (some (Addr.mk k134 0
  none))) w137) ∧ True) ∧ True) ∧ (((0 : Int) ≤ 3 ∧ (3 : Int) ≤ 3 ∧ (24 : Int) ≤ 281474976710656 ∧ (3 : Int) ≤ 9223372036854775807) ∧ ∀ (k139 : Nat), (∀ (w140 : World) (R141 : List Own), Ctx
  W w140 (Own.blk k139 [Value.int IntKind.i64 0, Value.int IntKind.i64 0, Value.int IntKind.i64 0] 3 :: R124 ++ R141) Φ125 → Ctx W w140 (R23 ++ R141) Φ24) ∧ (((0 : Int) ≤ 3 ∧ (3 : Int) ≤ 3 ∧
  (24 : Int) ≤ 281474976710656 ∧ (3 : Int) ≤ 9223372036854775807) ∧ ∀ (k142 : Nat), (∀ (w143 : World) (R144 : List Own), Ctx W w143 (Own.blk k142 [Value.int IntKind.i64 0, Value.int
  IntKind.i64 0, Value.int IntKind.i64 0] 3 :: Own.blk k139 [Value.int IntKind.i64 0, Value.int IntKind.i64 0, Value.int IntKind.i64 0] 3 :: R124 ++ R144) Φ125 → Ctx W w143 (R23 ++ R144) Φ24)
  ∧ (∀ (k145 : Nat), (∀ (w146 : World) (R147 : List Own), Ctx W w146 (Own.blk k145 [Value.int IntKind.i64 id, Value.int IntKind.i64 h0, Value.int IntKind.i64 h1, Value.slice p120 k121 k122,
  Value.int IntKind.i64 0, Value.int IntKind.i64 0, Value.slice (some (Addr.mk k115 0 none)) 3 3, Value.slice (some (Addr.mk k142 0 none)) 3 3, Value.slice (some (Addr.mk k139 0 none)) 3 3]
  67 :: Own.blk k142 [Value.int IntKind.i64 0, Value.int IntKind.i64 0, Value.int IntKind.i64 0] 3 :: Own.blk k139 [Value.int IntKind.i64 0, Value.int IntKind.i64 0, Value.int IntKind.i64 0]
  3 :: R124 ++ R147) Φ125 → Ctx W w146 (R23 ++ R147) Φ24) ∧ ∀ (w148 : World) (R149 : List Own), Ctx W w148 (Own.blk k145 [Value.int IntKind.i64 id, Value.int IntKind.i64 h0, Value.int
  IntKind.i64 h1, Value.slice p120 k121 k122, Value.int IntKind.i64 0, Value.int IntKind.i64 0, Value.slice (some (Addr.mk k115 0 none)) 3 3, Value.slice (some (Addr.mk k142 0 none)) 3 3,
  Value.slice (some (Addr.mk k139 0 none)) 3 3] 67 :: Own.blk k142 [Value.int IntKind.i64 0, Value.int IntKind.i64 0, Value.int IntKind.i64 0] 3 :: Own.blk k139 [Value.int IntKind.i64 0,
  Value.int IntKind.i64 0, Value.int IntKind.i64 0] 3 :: R124 ++ R149) Φ125 → J (Value.pointer (some (Addr.mk k145 0 none))) w148) ∧ True) ∧ True) ∧ True) ∧ (((0 : Int) ≤ 3 ∧ (3 : Int) ≤ 3 ∧
  (24 : Int) ≤ 281474976710656 ∧ (3 : Int) ≤ 9223372036854775807) ∧ ∀ (k150 : Nat), (∀ (w151 : World) (R152 : List Own), Ctx W w151 (Own.blk k150 [Value.int IntKind.i64 0, Value.int
  IntKind.i64 0, Value.int IntKind.i64 0] 3 :: Own.blk k115 [Value.bool false, Value.bool false, Value.bool false] 4 :: Own.blk k27 [] 55 :: R19 ++ R152) Φ20 → Ctx W w151 (R23 ++ R152) Φ24) ∧
  (∀ (w153 : World) (R154 : List Own), Ctx W w153 (Own.blk k150 [Value.int IntKind.i64 0, Value.int IntKind.i64 0, Value.int IntKind.i64 0] 3 :: Own.blk k115 [Value.bool false, Value.bool
  false, Value.bool false] 4 :: Own.blk k27 [] 55 :: R19 ++ R154) Φ20 → ∃ (p155 : Option Addr), ∃ (k156 : Nat), ∃ (k157 : Nat), ∃ (w158 : World), Sem.run Try.prog (builtin Builtin.append
  #[35, 35] 35 #[false, false] #[Value.slice (some (Addr.mk k27 0 none)) 0 0, Value.slice logP logN logC]) w153 = Result.ok (Next.value (Value.slice p155 k156 k157)) w158 ∧ ∃ (R159 : List
  Own), ∃ (Φ160 : PW), Stable Φ160 ∧ Ctx W w158 (R159 ++ R154) Φ160 ∧ (∀ (w161 : World) (R162 : List Own), Ctx W w161 (R159 ++ R162) Φ160 → Ctx W w161 (R23 ++ R162) Φ24) ∧ (((0 : Int) ≤ 3 ∧
  (3 : Int) ≤ 3 ∧ (24 : Int) ≤ 281474976710656 ∧ (3 : Int) ≤ 9223372036854775807) ∧ ∀ (k163 : Nat), (∀ (w164 : World) (R165 : List Own), Ctx W w164 (Own.blk k163 [Value.int IntKind.i64 0,
  Value.int IntKind.i64 0, Value.int IntKind.i64 0] 3 :: R159 ++ R165) Φ160 → Ctx W w164 (R23 ++ R165) Φ24) ∧ (∀ (k166 : Nat), (∀ (w167 : World) (R168 : List Own), Ctx W w167 (Own.blk k166
  [Value.int IntKind.i64 id, Value.int IntKind.i64 h0, Value.int IntKind.i64 h1, Value.slice p155 k156 k157, Value.int IntKind.i64 0, Value.int IntKind.i64 0, Value.slice (some (Addr.mk k115
  0 none)) 3 3, Value.slice (some (Addr.mk k150 0 none)) 3 3, Value.slice (some (Addr.mk k163 0 none)) 3 3] 67 :: Own.blk k163 [Value.int IntKind.i64 0, Value.int IntKind.i64 0, Value.int
  IntKind.i64 0] 3 :: R159 ++ R168) Φ160 → Ctx W w167 (R23 ++ R168) Φ24) ∧ ∀ (w169 : World) (R170 : List Own), Ctx W w169 (Own.blk k166 [Value.int IntKind.i64 id, Value.int IntKind.i64 h0,
  Value.int IntKind.i64 h1, Value.slice p155 k156 k157, Value.int IntKind.i64 0, Value.int IntKind.i64 0, Value.slice (some (Addr.mk k115 0 none)) 3 3, Value.slice (some (Addr.mk k150 0
  none)) 3 3, Value.slice (some (Addr.mk k163 0 none)) 3 3] 67 :: Own.blk k163 [Value.int IntKind.i64 0, Value.int IntKind.i64 0, Value.int IntKind.i64 0] 3 :: R159 ++ R170) Φ160 → J
  (Value.pointer (some (Addr.mk k166 0 none))) w169) ∧ True) ∧ True) ∧ (((0 : Int) ≤ 3 ∧ (3 : Int) ≤ 3 ∧ (24 : Int) ≤ 281474976710656 ∧ (3 : Int) ≤ 9223372036854775807) ∧ ∀ (k171 : Nat), (∀
  (w172 : World) (R173 : List Own), Ctx W w172 (Own.blk k171 [Value.int IntKind.i64 0, Value.int IntKind.i64 0, Value.int IntKind.i64 0] 3 :: Own.blk k150 [Value.int IntKind.i64 0, Value.int
  IntKind.i64 0, Value.int IntKind.i64 0] 3 :: Own.blk k115 [Value.bool false, Value.bool false, Value.bool false] 4 :: Own.blk k27 [] 55 :: R19 ++ R173) Φ20 → Ctx W w172 (R23 ++ R173) Φ24) ∧
  (∀ (w174 : World) (R175 : List Own), Ctx W w174 (Own.blk k171 [Value.int IntKind.i64 0, Value.int IntKind.i64 0, Value.int IntKind.i64 0] 3 :: Own.blk k150 [Value.int IntKind.i64 0,
  Value.int IntKind.i64 0, Value.int IntKind.i64 0] 3 :: Own.blk k115 [Value.bool false, Value.bool false, Value.bool false] 4 :: Own.blk k27 [] 55 :: R19 ++ R175) Φ20 → ∃ (p176 : Option
  Addr), ∃ (k177 : Nat), ∃ (k178 : Nat), ∃ (w179 : World), Sem.run Try.prog (builtin Builtin.append #[35, 35] 35 #[false, false] #[Value.slice (some (Addr.mk k27 0 none)) 0 0, Value.slice
  logP logN logC]) w174 = Result.ok (Next.value (Value.slice p176 k177 k178)) w179 ∧ ∃ (R180 : List Own), ∃ (Φ181 : PW), Stable Φ181 ∧ Ctx W w179 (R180 ++ R175) Φ181 ∧ (∀ (w182 : World) (R183
  : List Own), Ctx W w182 (R180 ++ R183) Φ181 → Ctx W w182 (R23 ++ R183) Φ24) ∧ (∀ (k184 : Nat), (∀ (w185 : World) (R186 : List Own), Ctx W w185 (Own.blk k184 [Value.int IntKind.i64 id,
  Value.int IntKind.i64 h0, Value.int IntKind.i64 h1, Value.slice p176 k177 k178, Value.int IntKind.i64 0, Value.int IntKind.i64 0, Value.slice (some (Addr.mk k115 0 none)) 3 3, Value.slice
  (some (Addr.mk k150 0 none)) 3 3, Value.slice (some (Addr.mk k171 0 none)) 3 3] 67 :: R180 ++ R186) Φ181 → Ctx W w185 (R23 ++ R186) Φ24) ∧ ∀ (w187 : World) (R188 : List Own), Ctx W w187
  (Own.blk k184 [Value.int IntKind.i64 id, Value.int IntKind.i64 h0, Value.int IntKind.i64 h1, Value.slice p176 k177 k178, Value.int IntKind.i64 0, Value.int IntKind.i64 0, Value.slice (some
  (Addr.mk k115 0 none)) 3 3, Value.slice (some (Addr.mk k150 0 none)) 3 3, Value.slice (some (Addr.mk k171 0 none)) 3 3] 67 :: R180 ++ R188) Φ181 → J (Value.pointer (some (Addr.mk k184 0
  none))) w187) ∧ True) ∧ True) ∧ True) ∧ (((0 : Int) ≤ 3 ∧ (3 : Int) ≤ 3 ∧ (24 : Int) ≤ 281474976710656 ∧ (3 : Int) ≤ 9223372036854775807) ∧ ∀ (k189 : Nat), (∀ (w190 : World) (R191 : List
  Own), Ctx W w190 (Own.blk k189 [Value.int IntKind.i64 0, Value.int IntKind.i64 0, Value.int IntKind.i64 0] 3 :: Own.blk k115 [Value.bool false, Value.bool false, Value.bool false] 4 ::
  Own.blk k27 [] 55 :: R19 ++ R191) Φ20 → Ctx W w190 (R23 ++ R191) Φ24) ∧ (∀ (w192 : World) (R193 : List Own), Ctx W w192 (Own.blk k189 [Value.int IntKind.i64 0, Value.int IntKind.i64 0,
  Value.int IntKind.i64 0] 3 :: Own.blk k115 [Value.bool false, Value.bool false, Value.bool false] 4 :: Own.blk k27 [] 55 :: R19 ++ R193) Φ20 → ∃ (p194 : Option Addr), ∃ (k195 : Nat), ∃
  (k196 : Nat), ∃ (w197 : World), Sem.run Try.prog (builtin Builtin.append #[35, 35] 35 #[false, false] #[Value.slice (some (Addr.mk k27 0 none)) 0 0, Value.slice logP logN logC]) w192 =
  Result.ok (Next.value (Value.slice p194 k195 k196)) w197 ∧ ∃ (R198 : List Own), ∃ (Φ199 : PW), Stable Φ199 ∧ Ctx W w197 (R198 ++ R193) Φ199 ∧ (∀ (w200 : World) (R201 : List Own), Ctx W w200
  (R198 ++ R201) Φ199 → Ctx W w200 (R23 ++ R201) Φ24) ∧ (((0 : Int) ≤ 3 ∧ (3 : Int) ≤ 3 ∧ (24 : Int) ≤ 281474976710656 ∧ (3 : Int) ≤ 9223372036854775807) ∧ ∀ (k202 : Nat), (∀ (w203 : World)
  (R204 : List Own), Ctx W w203 (Own.blk k202 [Value.int IntKind.i64 0, Value.int IntKind.i64 0, Value.int IntKind.i64 0] 3 :: R198 ++ R204) Φ199 → Ctx W w203 (R23 ++ R204) Φ24) ∧ (∀ (k205 :
  Nat), (∀ (w206 : World) (R207 : List Own), Ctx W w206 (Own.blk k205 [Value.int IntKind.i64 id, Value.int IntKind.i64 h0, Value.int IntKind.i64 h1, Value.slice p194 k195 k196, Value.int
  IntKind.i64 0, Value.int IntKind.i64 0, Value.slice (some (Addr.mk k115 0 none)) 3 3, Value.slice (some (Addr.mk k202 0 none)) 3 3, Value.slice (some (Addr.mk k189 0 none)) 3 3] 67 ::
  Own.blk k202 [Value.int IntKind.i64 0, Value.int IntKind.i64 0, Value.int IntKind.i64 0] 3 :: R198 ++ R207) Φ199 → Ctx W w206 (R23 ++ R207) Φ24) ∧ ∀ (w208 : World) (R209 : List Own), Ctx W
  w208 (Own.blk k205 [Value.int IntKind.i64 id, Value.int IntKind.i64 h0, Value.int IntKind.i64 h1, Value.slice p194 k195 k196, Value.int IntKind.i64 0, Value.int IntKind.i64 0, Value.slice
  (some (Addr.mk k115 0 none)) 3 3, Value.slice (some (Addr.mk k202 0 none)) 3 3, Value.slice (some (Addr.mk k189 0 none)) 3 3] 67 :: Own.blk k202 [Value.int IntKind.i64 0, Value.int
  IntKind.i64 0, Value.int IntKind.i64 0] 3 :: R198 ++ R209) Φ199 → J (Value.pointer (some (Addr.mk k205 0 none))) w208) ∧ True) ∧ True) ∧ (((0 : Int) ≤ 3 ∧ (3 : Int) ≤ 3 ∧ (24 : Int) ≤
  281474976710656 ∧ (3 : Int) ≤ 9223372036854775807) ∧ ∀ (k210 : Nat), (∀ (w211 : World) (R212 : List Own), Ctx W w211 (Own.blk k210 [Value.int IntKind.i64 0, Value.int IntKind.i64 0,
  Value.int IntKind.i64 0] 3 :: Own.blk k189 [Value.int IntKind.i64 0, Value.int IntKind.i64 0, Value.int IntKind.i64 0] 3 :: Own.blk k115 [Value.bool false, Value.bool false, Value.bool
  false] 4 :: Own.blk k27 [] 55 :: R19 ++ R212) Φ20 → Ctx W w211 (R23 ++ R212) Φ24) ∧ (∀ (w213 : World) (R214 : List Own), Ctx W w213 (Own.blk k210 [Value.int IntKind.i64 0, Value.int
  IntKind.i64 0, Value.int IntKind.i64 0] 3 :: Own.blk k189 [Value.int IntKind.i64 0, Value.int IntKind.i64 0, Value.int IntKind.i64 0] 3 :: Own.blk k115 [Value.bool false, Value.bool false,
  Value.bool false] 4 :: Own.blk k27 [] 55 :: R19 ++ R214) Φ20 → ∃ (p215 : Option Addr), ∃ (k216 : Nat), ∃ (k217 : Nat), ∃ (w218 : World), Sem.run Try.prog (builtin Builtin.append #[35, 35]
  35 #[false, false] #[Value.slice (some (Addr.mk k27 0 none)) 0 0, Value.slice logP logN logC]) w213 = Result.ok (Next.value (Value.slice p215 k216 k217)) w218 ∧ ∃ (R219 : List Own), ∃ (Φ220
  : PW), Stable Φ220 ∧ Ctx W w218 (R219 ++ R214) Φ220 ∧ (∀ (w221 : World) (R222 : List Own), Ctx W w221 (R219 ++ R222) Φ220 → Ctx W w221 (R23 ++ R222) Φ24) ∧ (∀ (k223 : Nat), (∀ (w224 :
  World) (R225 : List Own), Ctx W w224 (Own.blk k223 [Value.int IntKind.i64 id, Value.int IntKind.i64 h0, Value.int IntKind.i64 h1, Value.slice p215 k216 k217, Value.int IntKind.i64 0,
  Value.int IntKind.i64 0, Value.slice (some (Addr.mk k115 0 none)) 3 3, Value.slice (some (Addr.mk k210 0 none)) 3 3, Value.slice (some (Addr.mk k189 0 none)) 3 3] 67 :: R219 ++ R225) Φ220 →
  Ctx W w224 (R23 ++ R225) Φ24) ∧ ∀ (w226 : World) (R227 : List Own), Ctx W w226 (Own.blk k223 [Value.int IntKind.i64 id, Value.int IntKind.i64 h0, Value.int IntKind.i64 h1, Value.slice p215
  k216 k217, Value.int IntKind.i64 0, Value.int IntKind.i64 0, Value.slice (some (Addr.mk k115 0 none)) 3 3, Value.slice (some (Addr.mk k210 0 none)) 3 3, Value.slice (some (Addr.mk k189 0
  none)) 3 3] 67 :: R219 ++ R227) Φ220 → J (Value.pointer (some (Addr.mk k223 0 none))) w226) ∧ True) ∧ True) ∧ True) ∧ True) ∧ (((0 : Int) ≤ 3 ∧ (3 : Int) ≤ 3 ∧ (24 : Int) ≤ 281474976710656
  ∧ (3 : Int) ≤ 9223372036854775807) ∧ ∀ (k228 : Nat), (∀ (w229 : World) (R230 : List Own), Ctx W w229 (Own.blk k228 [Value.int IntKind.i64 0, Value.int IntKind.i64 0, Value.int IntKind.i64
  0] 3 :: Own.blk k27 [] 55 :: R19 ++ R230) Φ20 → Ctx W w229 (R23 ++ R230) Φ24) ∧ (∀ (w231 : World) (R232 : List Own), Ctx W w231 (Own.blk k228 [Value.int IntKind.i64 0, Value.int IntKind.i64
  0, Value.int IntKind.i64 0] 3 :: Own.blk k27 [] 55 :: R19 ++ R232) Φ20 → ∃ (p233 : Option Addr), ∃ (k234 : Nat), ∃ (k235 : Nat), ∃ (w236 : World), Sem.run Try.prog (builtin Builtin.append
  #[35, 35] 35 #[false, false] #[Value.slice (some (Addr.mk k27 0 none)) 0 0, Value.slice logP logN logC]) w231 = Result.ok (Next.value (Value.slice p233 k234 k235)) w236 ∧ ∃ (R237 : List
  Own), ∃ (Φ238 : PW), Stable Φ238 ∧ Ctx W w236 (R237 ++ R232) Φ238 ∧ (∀ (w239 : World) (R240 : List Own), Ctx W w239 (R237 ++ R240) Φ238 → Ctx W w239 (R23 ++ R240) Φ24) ∧ (((0 : Int) ≤ 3 ∧
  (3 : Int) ≤ 3 ∧ (3 : Int) ≤ 281474976710656 ∧ (3 : Int) ≤ 9223372036854775807) ∧ ∀ (k241 : Nat), (∀ (w242 : World) (R243 : List Own), Ctx W w242 (Own.blk k241 [Value.bool false, Value.bool
  false, Value.bool false] 4 :: R237 ++ R243) Φ238 → Ctx W w242 (R23 ++ R243) Φ24) ∧ (((0 : Int) ≤ 3 ∧ (3 : Int) ≤ 3 ∧ (24 : Int) ≤ 281474976710656 ∧ (3 : Int) ≤ 9223372036854775807) ∧ ∀
  (k244 : Nat), (∀ (w245 : World) (R246 : List Own), Ctx W w245 (Own.blk k244 [Value.int IntKind.i64 0, Value.int IntKind.i64 0, Value.int IntKind.i64 0] 3 :: Own.blk k241 [Value.bool false,
  Value.bool false, Value.bool false] 4 :: R237 ++ R246) Φ238 → Ctx W w245 (R23 ++ R246) Φ24) ∧ (∀ (k247 : Nat), (∀ (w248 : World) (R249 : List Own), Ctx W w248 (Own.blk k247 [Value.int
  IntKind.i64 id, Value.int IntKind.i64 h0, Value.int IntKind.i64 h1, Value.slice p233 k234 k235, Value.int IntKind.i64 0, Value.int IntKind.i64 0, Value.slice (some (Addr.mk k241 0 none)) 3
  3, Value.slice (some (Addr.mk k228 0 none)) 3 3, Value.slice (some (Addr.mk k244 0 none)) 3 3] 67 :: Own.blk k244 [Value.int IntKind.i64 0, Value.int IntKind.i64 0, Value.int IntKind.i64 0]
  3 :: Own.blk k241 [Value.bool false, Value.bool false, Value.bool false] 4 :: R237 ++ R249) Φ238 → Ctx W w248 (R23 ++ R249) Φ24) ∧ ∀ (w250 : World) (R251 : List Own), Ctx W w250 (Own.blk
  k247 [Value.int IntKind.i64 id, Value.int IntKind.i64 h0, Value.int IntKind.i64 h1, Value.slice p233 k234 k235, Value.int IntKind.i64 0, Value.int IntKind.i64 0, Value.slice (some (Addr.mk
  k241 0 none)) 3 3, Value.slice (some (Addr.mk k228 0 none)) 3 3, Value.slice (some (Addr.mk k244 0 none)) 3 3] 67 :: Own.blk k244 [Value.int IntKind.i64 0, Value.int IntKind.i64 0,
  Value.int IntKind.i64 0] 3 :: Own.blk k241 [Value.bool false, Value.bool false, Value.bool false] 4 :: R237 ++ R251) Φ238 → J (Value.pointer (some (Addr.mk k247 0 none))) w250) ∧ True) ∧
  True) ∧ (((0 : Int) ≤ 3 ∧ (3 : Int) ≤ 3 ∧ (24 : Int) ≤ 281474976710656 ∧ (3 : Int) ≤ 9223372036854775807) ∧ ∀ (k252 : Nat), (∀ (w253 : World) (R254 : List Own), Ctx W w253 (Own.blk k252
  [Value.int IntKind.i64 0, Value.int IntKind.i64 0, Value.int IntKind.i64 0] 3 :: R237 ++ R254) Φ238 → Ctx W w253 (R23 ++ R254) Φ24) ∧ (((0 : Int) ≤ 3 ∧ (3 : Int) ≤ 3 ∧ (3 : Int) ≤
  281474976710656 ∧ (3 : Int) ≤ 9223372036854775807) ∧ ∀ (k255 : Nat), (∀ (w256 : World) (R257 : List Own), Ctx W w256 (Own.blk k255 [Value.bool false, Value.bool false, Value.bool false] 4
  :: Own.blk k252 [Value.int IntKind.i64 0, Value.int IntKind.i64 0, Value.int IntKind.i64 0] 3 :: R237 ++ R257) Φ238 → Ctx W w256 (R23 ++ R257) Φ24) ∧ (∀ (k258 : Nat), (∀ (w259 : World)
  (R260 : List Own), Ctx W w259 (Own.blk k258 [Value.int IntKind.i64 id, Value.int IntKind.i64 h0, Value.int IntKind.i64 h1, Value.slice p233 k234 k235, Value.int IntKind.i64 0, Value.int
  IntKind.i64 0, Value.slice (some (Addr.mk k255 0 none)) 3 3, Value.slice (some (Addr.mk k228 0 none)) 3 3, Value.slice (some (Addr.mk k252 0 none)) 3 3] 67 :: Own.blk k255 [Value.bool
  false, Value.bool false, Value.bool false] 4 :: Own.blk k252 [Value.int IntKind.i64 0, Value.int IntKind.i64 0, Value.int IntKind.i64 0] 3 :: R237 ++ R260) Φ238 → Ctx W w259 (R23 ++ R260)
  Φ24) ∧ ∀ (w261 : World) (R262 : List Own), Ctx W w261 (Own.blk k258 [Value.int IntKind.i64 id, Value.int IntKind.i64 h0, Value.int IntKind.i64 h1, Value.slice p233 k234 k235, Value.int
  IntKind.i64 0, Value.int IntKind.i64 0, Value.slice (some (Addr.mk k255 0 none)) 3 3, Value.slice (some (Addr.mk k228 0 none)) 3 3, Value.slice (some (Addr.mk k252 0 none)) 3 3] 67 ::
  Own.blk k255 [Value.bool false, Value.bool false, Value.bool false] 4 :: Own.blk k252 [Value.int IntKind.i64 0, Value.int IntKind.i64 0, Value.int IntKind.i64 0] 3 :: R237 ++ R262) Φ238 → J
  (Value.pointer (some (Addr.mk k258 0 none))) w261) ∧ True) ∧ True) ∧ True) ∧ (((0 : Int) ≤ 3 ∧ (3 : Int) ≤ 3 ∧ (3 : Int) ≤ 281474976710656 ∧ (3 : Int) ≤ 9223372036854775807) ∧ ∀ (k263 :
  Nat), (∀ (w264 : World) (R265 : List Own), Ctx W w264 (Own.blk k263 [Value.bool false, Value.bool false, Value.bool false] 4 :: Own.blk k228 [Value.int IntKind.i64 0, Value.int IntKind.i64
  0, Value.int IntKind.i64 0] 3 :: Own.blk k27 [] 55 :: R19 ++ R265) Φ20 → Ctx W w264 (R23 ++ R265) Φ24) ∧ (∀ (w266 : World) (R267 : List Own), Ctx W w266 (Own.blk k263 [Value.bool false,
  Value.bool false, Value.bool false] 4 :: Own.blk k228 [Value.int IntKind.i64 0, Value.int IntKind.i64 0, Value.int IntKind.i64 0] 3 :: Own.blk k27 [] 55 :: R19 ++ R267) Φ20 → ∃ (p268 :
  Option Addr), ∃ (k269 : Nat), ∃ (k270 : Nat), ∃ (w271 : World), Sem.run Try.prog (builtin Builtin.append #[35, 35] 35 #[false, false] #[Value.slice (some (Addr.mk k27 0 none)) 0 0,
  Value.slice logP logN logC]) w266 = Result.ok (Next.value (Value.slice p268 k269 k270)) w271 ∧ ∃ (R272 : List Own), ∃ (Φ273 : PW), Stable Φ273 ∧ Ctx W w271 (R272 ++ R267) Φ273 ∧ (∀ (w274 :
  World) (R275 : List Own), Ctx W w274 (R272 ++ R275) Φ273 → Ctx W w274 (R23 ++ R275) Φ24) ∧ (((0 : Int) ≤ 3 ∧ (3 : Int) ≤ 3 ∧ (24 : Int) ≤ 281474976710656 ∧ (3 : Int) ≤ 9223372036854775807)
  ∧ ∀ (k276 : Nat), (∀ (w277 : World) (R278 : List Own), Ctx W w277 (Own.blk k276 [Value.int IntKind.i64 0, Value.int IntKind.i64 0, Value.int IntKind.i64 0] 3 :: R272 ++ R278) Φ273 → Ctx W
  w277 (R23 ++ R278) Φ24) ∧ (∀ (k279 : Nat), (∀ (w280 : World) (R281 : List Own), Ctx W w280 (Own.blk k279 [Value.int IntKind.i64 id, Value.int IntKind.i64 h0, Value.int IntKind.i64 h1,
  Value.slice p268 k269 k270, Value.int IntKind.i64 0, Value.int IntKind.i64 0, Value.slice (some (Addr.mk k263 0 none)) 3 3, Value.slice (some (Addr.mk k228 0 none)) 3 3, Value.slice (some
  (Addr.mk k276 0 none)) 3 3] 67 :: Own.blk k276 [Value.int IntKind.i64 0, Value.int IntKind.i64 0, Value.int IntKind.i64 0] 3 :: R272 ++ R281) Φ273 → Ctx W w280 (R23 ++ R281) Φ24) ∧ ∀ (w282
  : World) (R283 : List Own), Ctx W w282 (Own.blk k279 [Value.int IntKind.i64 id, Value.int IntKind.i64 h0, Value.int IntKind.i64 h1, Value.slice p268 k269 k270, Value.int IntKind.i64 0,
  Value.int IntKind.i64 0, Value.slice (some (Addr.mk k263 0 none)) 3 3, Value.slice (some (Addr.mk k228 0 none)) 3 3, Value.slice (some (Addr.mk k276 0 none)) 3 3] 67 :: Own.blk k276
  [Value.int IntKind.i64 0, Value.int IntKind.i64 0, Value.int IntKind.i64 0] 3 :: R272 ++ R283) Φ273 → J (Value.pointer (some (Addr.mk k279 0 none))) w282) ∧ True) ∧ True) ∧ (((0 : Int) ≤ 3
  ∧ (3 : Int) ≤ 3 ∧ (24 : Int) ≤ 281474976710656 ∧ (3 : Int) ≤ 9223372036854775807) ∧ ∀ (k284 : Nat), (∀ (w285 : World) (R286 : List Own), Ctx W w285 (Own.blk k284 [Value.int IntKind.i64 0,
  Value.int IntKind.i64 0, Value.int IntKind.i64 0] 3 :: Own.blk k263 [Value.bool false, Value.bool false, Value.bool false] 4 :: Own.blk k228 [Value.int IntKind.i64 0, Value.int IntKind.i64
  0, Value.int IntKind.i64 0] 3 :: Own.blk k27 [] 55 :: R19 ++ R286) Φ20 → Ctx W w285 (R23 ++ R286) Φ24) ∧ (∀ (w287 : World) (R288 : List Own), Ctx W w287 (Own.blk k284 [Value.int IntKind.i64
  0, Value.int IntKind.i64 0, Value.int IntKind.i64 0] 3 :: Own.blk k263 [Value.bool false, Value.bool false, Value.bool false] 4 :: Own.blk k228 [Value.int IntKind.i64 0, Value.int
  IntKind.i64 0, Value.int IntKind.i64 0] 3 :: Own.blk k27 [] 55 :: R19 ++ R288) Φ20 → ∃ (p289 : Option Addr), ∃ (k290 : Nat), ∃ (k291 : Nat), ∃ (w292 : World), Sem.run Try.prog (builtin
  Builtin.append #[35, 35] 35 #[false, false] #[Value.slice (some (Addr.mk k27 0 none)) 0 0, Value.slice logP logN logC]) w287 = Result.ok (Next.value (Value.slice p289 k290 k291)) w292 ∧ ∃
  (R293 : List Own), ∃ (Φ294 : PW), Stable Φ294 ∧ Ctx W w292 (R293 ++ R288) Φ294 ∧ (∀ (w295 : World) (R296 : List Own), Ctx W w295 (R293 ++ R296) Φ294 → Ctx W w295 (R23 ++ R296) Φ24) ∧ (∀
  (k297 : Nat), (∀ (w298 : World) (R299 : List Own), Ctx W w298 (Own.blk k297 [Value.int IntKind.i64 id, Value.int IntKind.i64 h0, Value.int IntKind.i64 h1, Value.slice p289 k290 k291,
  Value.int IntKind.i64 0, Value.int IntKind.i64 0, Value.slice (some (Addr.mk k263 0 none)) 3 3, Value.slice (some (Addr.mk k228 0 none)) 3 3, Value.slice (some (Addr.mk k284 0 none)) 3 3]
  67 :: R293 ++ R299) Φ294 → Ctx W w298 (R23 ++ R299) Φ24) ∧ ∀ (w300 : World) (R301 : List Own), Ctx W w300 (Own.blk k297 [Value.int IntKind.i64 id, Value.int IntKind.i64 h0, Value.int
  IntKind.i64 h1, Value.slice p289 k290 k291, Value.int IntKind.i64 0, Value.int IntKind.i64 0, Value.slice (some (Addr.mk k263 0 none)) 3 3, Value.slice (some (Addr.mk k228 0 none)) 3 3,
  Value.slice (some (Addr.mk k284 0 none)) 3 3] 67 :: R293 ++ R301) Φ294 → J (Value.pointer (some (Addr.mk k297 0 none))) w300) ∧ True) ∧ True) ∧ True) ∧ (((0 : Int) ≤ 3 ∧ (3 : Int) ≤ 3 ∧ (24
  : Int) ≤ 281474976710656 ∧ (3 : Int) ≤ 9223372036854775807) ∧ ∀ (k302 : Nat), (∀ (w303 : World) (R304 : List Own), Ctx W w303 (Own.blk k302 [Value.int IntKind.i64 0, Value.int IntKind.i64
  0, Value.int IntKind.i64 0] 3 :: Own.blk k228 [Value.int IntKind.i64 0, Value.int IntKind.i64 0, Value.int IntKind.i64 0] 3 :: Own.blk k27 [] 55 :: R19 ++ R304) Φ20 → Ctx W w303 (R23 ++
  R304) Φ24) ∧ (∀ (w305 : World) (R306 : List Own), Ctx W w305 (Own.blk k302 [Value.int IntKind.i64 0, Value.int IntKind.i64 0, Value.int IntKind.i64 0] 3 :: Own.blk k228 [Value.int
  IntKind.i64 0, Value.int IntKind.i64 0, Value.int IntKind.i64 0] 3 :: Own.blk k27 [] 55 :: R19 ++ R306) Φ20 → ∃ (p307 : Option Addr), ∃ (k308 : Nat), ∃ (k309 : Nat), ∃ (w310 : World),
  Sem.run Try.prog (builtin Builtin.append #[35, 35] 35 #[false, false] #[Value.slice (some (Addr.mk k27 0 none)) 0 0, Value.slice logP logN logC]) w305 = Result.ok (Next.value (Value.slice
  p307 k308 k309)) w310 ∧ ∃ (R311 : List Own), ∃ (Φ312 : PW), Stable Φ312 ∧ Ctx W w310 (R311 ++ R306) Φ312 ∧ (∀ (w313 : World) (R314 : List Own), Ctx W w313 (R311 ++ R314) Φ312 → Ctx W w313
  (R23 ++ R314) Φ24) ∧ (((0 : Int) ≤ 3 ∧ (3 : Int) ≤ 3 ∧ (3 : Int) ≤ 281474976710656 ∧ (3 : Int) ≤ 9223372036854775807) ∧ ∀ (k315 : Nat), (∀ (w316 : World) (R317 : List Own), Ctx W w316
  (Own.blk k315 [Value.bool false, Value.bool false, Value.bool false] 4 :: R311 ++ R317) Φ312 → Ctx W w316 (R23 ++ R317) Φ24) ∧ (∀ (k318 : Nat), (∀ (w319 : World) (R320 : List Own), Ctx W
  w319 (Own.blk k318 [Value.int IntKind.i64 id, Value.int IntKind.i64 h0, Value.int IntKind.i64 h1, Value.slice p307 k308 k309, Value.int IntKind.i64 0, Value.int IntKind.i64 0, Value.slice
  (some (Addr.mk k315 0 none)) 3 3, Value.slice (some (Addr.mk k228 0 none)) 3 3, Value.slice (some (Addr.mk k302 0 none)) 3 3] 67 :: Own.blk k315 [Value.bool false, Value.bool false,
  Value.bool false] 4 :: R311 ++ R320) Φ312 → Ctx W w319 (R23 ++ R320) Φ24) ∧ ∀ (w321 : World) (R322 : List Own), Ctx W w321 (Own.blk k318 [Value.int IntKind.i64 id, Value.int IntKind.i64 h0,
  Value.int IntKind.i64 h1, Value.slice p307 k308 k309, Value.int IntKind.i64 0, Value.int IntKind.i64 0, Value.slice (some (Addr.mk k315 0 none)) 3 3, Value.slice (some (Addr.mk k228 0
  none)) 3 3, Value.slice (some (Addr.mk k302 0 none)) 3 3] 67 :: Own.blk k315 [Value.bool false, Value.bool false, Value.bool false] 4 :: R311 ++ R322) Φ312 → J (Value.pointer (some (Addr.mk
  k318 0 none))) w321) ∧ True) ∧ True) ∧ (((0 : Int) ≤ 3 ∧ (3 : Int) ≤ 3 ∧ (3 : Int) ≤ 281474976710656 ∧ (3 : Int) ≤ 9223372036854775807) ∧ ∀ (k323 : Nat), (∀ (w324 : World) (R325 : List
  Own), Ctx W w324 (Own.blk k323 [Value.bool false, Value.bool false, Value.bool false] 4 :: Own.blk k302 [Value.int IntKind.i64 0, Value.int IntKind.i64 0, Value.int IntKind.i64 0] 3 ::
  Own.blk k228 [Value.int IntKind.i64 0, Value.int IntKind.i64 0, Value.int IntKind.i64 0] 3 :: Own.blk k27 [] 55 :: R19 ++ R325) Φ20 → Ctx W w324 (R23 ++ R325) Φ24) ∧ (∀ (w326 : World) (R327
  : List Own), Ctx W w326 (Own.blk k323 [Value.bool false, Value.bool false, Value.bool false] 4 :: Own.blk k302 [Value.int IntKind.i64 0, Value.int IntKind.i64 0, Value.int IntKind.i64 0] 3
  :: Own.blk k228 [Value.int IntKind.i64 0, Value.int IntKind.i64 0, Value.int IntKind.i64 0] 3 :: Own.blk k27 [] 55 :: R19 ++ R327) Φ20 → ∃ (p328 : Option Addr), ∃ (k329 : Nat), ∃ (k330 :
  Nat), ∃ (w331 : World), Sem.run Try.prog (builtin Builtin.append #[35, 35] 35 #[false, false] #[Value.slice (some (Addr.mk k27 0 none)) 0 0, Value.slice logP logN logC]) w326 = Result.ok
  (Next.value (Value.slice p328 k329 k330)) w331 ∧ ∃ (R332 : List Own), ∃ (Φ333 : PW), Stable Φ333 ∧ Ctx W w331 (R332 ++ R327) Φ333 ∧ (∀ (w334 : World) (R335 : List Own), Ctx W w334 (R332 ++
  R335) Φ333 → Ctx W w334 (R23 ++ R335) Φ24) ∧ (∀ (k336 : Nat), (∀ (w337 : World) (R338 : List Own), Ctx W w337 (Own.blk k336 [Value.int IntKind.i64 id, Value.int IntKind.i64 h0, Value.int
  IntKind.i64 h1, Value.slice p328 k329 k330, Value.int IntKind.i64 0, Value.int IntKind.i64 0, Value.slice (some (Addr.mk k323 0 none)) 3 3, Value.slice (some (Addr.mk k228 0 none)) 3 3,
  Value.slice (some (Addr.mk k302 0 none)) 3 3] 67 :: R332 ++ R338) Φ333 → Ctx W w337 (R23 ++ R338) Φ24) ∧ ∀ (w339 : World) (R340 : List Own), Ctx W w339 (Own.blk k336 [Value.int IntKind.i64
  id, Value.int IntKind.i64 h0, Value.int IntKind.i64 h1, Value.slice p328 k329 k330, Value.int IntKind.i64 0, Value.int IntKind.i64 0, Value.slice (some (Addr.mk k323 0 none)) 3 3,
  Value.slice (some (Addr.mk k228 0 none)) 3 3, Value.slice (some (Addr.mk k302 0 none)) 3 3] 67 :: R332 ++ R340) Φ333 → J (Value.pointer (some (Addr.mk k336 0 none))) w339) ∧ True) ∧ True) ∧
  True) ∧ True) ∧ (((0 : Int) ≤ 3 ∧ (3 : Int) ≤ 3 ∧ (24 : Int) ≤ 281474976710656 ∧ (3 : Int) ≤ 9223372036854775807) ∧ ∀ (k341 : Nat), (∀ (w342 : World) (R343 : List Own), Ctx W w342 (Own.blk
  k341 [Value.int IntKind.i64 0, Value.int IntKind.i64 0, Value.int IntKind.i64 0] 3 :: Own.blk k27 [] 55 :: R19 ++ R343) Φ20 → Ctx W w342 (R23 ++ R343) Φ24) ∧ (∀ (w344 : World) (R345 : List
  Own), Ctx W w344 (Own.blk k341 [Value.int IntKind.i64 0, Value.int IntKind.i64 0, Value.int IntKind.i64 0] 3 :: Own.blk k27 [] 55 :: R19 ++ R345) Φ20 → ∃ (p346 : Option Addr), ∃ (k347 :
  Nat), ∃ (k348 : Nat), ∃ (w349 : World), Sem.run Try.prog (builtin Builtin.append #[35, 35] 35 #[false, false] #[Value.slice (some (Addr.mk k27 0 none)) 0 0, Value.slice logP logN logC])
  w344 = Result.ok (Next.value (Value.slice p346 k347 k348)) w349 ∧ ∃ (R350 : List Own), ∃ (Φ351 : PW), Stable Φ351 ∧ Ctx W w349 (R350 ++ R345) Φ351 ∧ (∀ (w352 : World) (R353 : List Own), Ctx
  W w352 (R350 ++ R353) Φ351 → Ctx W w352 (R23 ++ R353) Φ24) ∧ (((0 : Int) ≤ 3 ∧ (3 : Int) ≤ 3 ∧ (3 : Int) ≤ 281474976710656 ∧ (3 : Int) ≤ 9223372036854775807) ∧ ∀ (k354 : Nat), (∀ (w355 :
  World) (R356 : List Own), Ctx W w355 (Own.blk k354 [Value.bool false, Value.bool false, Value.bool false] 4 :: R350 ++ R356) Φ351 → Ctx W w355 (R23 ++ R356) Φ24) ∧ (((0 : Int) ≤ 3 ∧ (3 :
  Int) ≤ 3 ∧ (24 : Int) ≤ 281474976710656 ∧ (3 : Int) ≤ 9223372036854775807) ∧ ∀ (k357 : Nat), (∀ (w358 : World) (R359 : List Own), Ctx W w358 (Own.blk k357 [Value.int IntKind.i64 0,
  Value.int IntKind.i64 0, Value.int IntKind.i64 0] 3 :: Own.blk k354 [Value.bool false, Value.bool false, Value.bool false] 4 :: R350 ++ R359) Φ351 → Ctx W w358 (R23 ++ R359) Φ24) ∧ (∀ (k360
  : Nat), (∀ (w361 : World) (R362 : List Own), Ctx W w361 (Own.blk k360 [Value.int IntKind.i64 id, Value.int IntKind.i64 h0, Value.int IntKind.i64 h1, Value.slice p346 k347 k348, Value.int
  IntKind.i64 0, Value.int IntKind.i64 0, Value.slice (some (Addr.mk k354 0 none)) 3 3, Value.slice (some (Addr.mk k357 0 none)) 3 3, Value.slice (some (Addr.mk k341 0 none)) 3 3] 67 ::
  Own.blk k357 [Value.int IntKind.i64 0, Value.int IntKind.i64 0, Value.int IntKind.i64 0] 3 :: Own.blk k354 [Value.bool false, Value.bool false, Value.bool false] 4 :: R350 ++ R362) Φ351 →
  Ctx W w361 (R23 ++ R362) Φ24) ∧ ∀ (w363 : World) (R364 : List Own), Ctx W w363 (Own.blk k360 [Value.int IntKind.i64 id, Value.int IntKind.i64 h0, Value.int IntKind.i64 h1, Value.slice p346
  k347 k348, Value.int IntKind.i64 0, Value.int IntKind.i64 0, Value.slice (some (Addr.mk k354 0 none)) 3 3, Value.slice (some (Addr.mk k357 0 none)) 3 3, Value.slice (some (Addr.mk k341 0
  none)) 3 3] 67 :: Own.blk k357 [Value.int IntKind.i64 0, Value.int IntKind.i64 0, Value.int IntKind.i64 0] 3 :: Own.blk k354 [Value.bool false, Value.bool false, Value.bool false] 4 :: R350
  ++ R364) Φ351 → J (Value.pointer (some (Addr.mk k360 0 none))) w363) ∧ True) ∧ True) ∧ (((0 : Int) ≤ 3 ∧ (3 : Int) ≤ 3 ∧ (24 : Int) ≤ 281474976710656 ∧ (3 : Int) ≤ 9223372036854775807) ∧ ∀
  (k365 : Nat), (∀ (w366 : World) (R367 : List Own), Ctx W w366 (Own.blk k365 [Value.int IntKind.i64 0, Value.int IntKind.i64 0, Value.int IntKind.i64 0] 3 :: R350 ++ R367) Φ351 → Ctx W w366
  (R23 ++ R367) Φ24) ∧ (((0 : Int) ≤ 3 ∧ (3 : Int) ≤ 3 ∧ (3 : Int) ≤ 281474976710656 ∧ (3 : Int) ≤ 9223372036854775807) ∧ ∀ (k368 : Nat), (∀ (w369 : World) (R370 : List Own), Ctx W w369
  (Own.blk k368 [Value.bool false, Value.bool false, Value.bool false] 4 :: Own.blk k365 [Value.int IntKind.i64 0, Value.int IntKind.i64 0, Value.int IntKind.i64 0] 3 :: R350 ++ R370) Φ351 →
  Ctx W w369 (R23 ++ R370) Φ24) ∧ (∀ (k371 : Nat), (∀ (w372 : World) (R373 : List Own), Ctx W w372 (Own.blk k371 [Value.int IntKind.i64 id, Value.int IntKind.i64 h0, Value.int IntKind.i64 h1,
  Value.slice p346 k347 k348, Value.int IntKind.i64 0, Value.int IntKind.i64 0, Value.slice (some (Addr.mk k368 0 none)) 3 3, Value.slice (some (Addr.mk k365 0 none)) 3 3, Value.slice (some
  (Addr.mk k341 0 none)) 3 3] 67 :: Own.blk k368 [Value.bool false, Value.bool false, Value.bool false] 4 :: Own.blk k365 [Value.int IntKind.i64 0, Value.int IntKind.i64 0, Value.int
  IntKind.i64 0] 3 :: R350 ++ R373) Φ351 → Ctx W w372 (R23 ++ R373) Φ24) ∧ ∀ (w374 : World) (R375 : List Own), Ctx W w374 (Own.blk k371 [Value.int IntKind.i64 id, Value.int IntKind.i64 h0,
  Value.int IntKind.i64 h1, Value.slice p346 k347 k348, Value.int IntKind.i64 0, Value.int IntKind.i64 0, Value.slice (some (Addr.mk k368 0 none)) 3 3, Value.slice (some (Addr.mk k365 0
  none)) 3 3, Value.slice (some (Addr.mk k341 0 none)) 3 3] 67 :: Own.blk k368 [Value.bool false, Value.bool false, Value.bool false] 4 :: Own.blk k365 [Value.int IntKind.i64 0, Value.int
  IntKind.i64 0, Value.int IntKind.i64 0] 3 :: R350 ++ R375) Φ351 → J (Value.pointer (some (Addr.mk k371 0 none))) w374) ∧ True) ∧ True) ∧ True) ∧ (((0 : Int) ≤ 3 ∧ (3 : Int) ≤ 3 ∧ (3 : Int)
  ≤ 281474976710656 ∧ (3 : Int) ≤ 9223372036854775807) ∧ ∀ (k376 : Nat), (∀ (w377 : World) (R378 : List Own), Ctx W w377 (Own.blk k376 [Value.bool false, Value.bool false, Value.bool false] 4
  :: Own.blk k341 [Value.int IntKind.i64 0, Value.int IntKind.i64 0, Value.int IntKind.i64 0] 3 :: Own.blk k27 [] 55 :: R19 ++ R378) Φ20 → Ctx W w377 (R23 ++ R378) Φ24) ∧ (∀ (w379 : World)
  (R380 : List Own), Ctx W w379 (Own.blk k376 [Value.bool false, Value.bool false, Value.bool false] 4 :: Own.blk k341 [Value.int IntKind.i64 0, Value.int IntKind.i64 0, Value.int IntKind.i64
  0] 3 :: Own.blk k27 [] 55 :: R19 ++ R380) Φ20 → ∃ (p381 : Option Addr), ∃ (k382 : Nat), ∃ (k383 : Nat), ∃ (w384 : World), Sem.run Try.prog (builtin Builtin.append #[35, 35] 35 #[false,
  false] #[Value.slice (some (Addr.mk k27 0 none)) 0 0, Value.slice logP logN logC]) w379 = Result.ok (Next.value (Value.slice p381 k382 k383)) w384 ∧ ∃ (R385 : List Own), ∃ (Φ386 : PW),
  Stable Φ386 ∧ Ctx W w384 (R385 ++ R380) Φ386 ∧ (∀ (w387 : World) (R388 : List Own), Ctx W w387 (R385 ++ R388) Φ386 → Ctx W w387 (R23 ++ R388) Φ24) ∧ (((0 : Int) ≤ 3 ∧ (3 : Int) ≤ 3 ∧ (24 :
  Int) ≤ 281474976710656 ∧ (3 : Int) ≤ 9223372036854775807) ∧ ∀ (k389 : Nat), (∀ (w390 : World) (R391 : List Own), Ctx W w390 (Own.blk k389 [Value.int IntKind.i64 0, Value.int IntKind.i64 0,
  Value.int IntKind.i64 0] 3 :: R385 ++ R391) Φ386 → Ctx W w390 (R23 ++ R391) Φ24) ∧ (∀ (k392 : Nat), (∀ (w393 : World) (R394 : List Own), Ctx W w393 (Own.blk k392 [Value.int IntKind.i64 id,
  Value.int IntKind.i64 h0, Value.int IntKind.i64 h1, Value.slice p381 k382 k383, Value.int IntKind.i64 0, Value.int IntKind.i64 0, Value.slice (some (Addr.mk k376 0 none)) 3 3, Value.slice
  (some (Addr.mk k389 0 none)) 3 3, Value.slice (some (Addr.mk k341 0 none)) 3 3] 67 :: Own.blk k389 [Value.int IntKind.i64 0, Value.int IntKind.i64 0, Value.int IntKind.i64 0] 3 :: R385 ++
  R394) Φ386 → Ctx W w393 (R23 ++ R394) Φ24) ∧ ∀ (w395 : World) (R396 : List Own), Ctx W w395 (Own.blk k392 [Value.int IntKind.i64 id, Value.int IntKind.i64 h0, Value.int IntKind.i64 h1,
  Value.slice p381 k382 k383, Value.int IntKind.i64 0, Value.int IntKind.i64 0, Value.slice (some (Addr.mk k376 0 none)) 3 3, Value.slice (some (Addr.mk k389 0 none)) 3 3, Value.slice (some
  (Addr.mk k341 0 none)) 3 3] 67 :: Own.blk k389 [Value.int IntKind.i64 0, Value.int IntKind.i64 0, Value.int IntKind.i64 0] 3 :: R385 ++ R396) Φ386 → J (Value.pointer (some (Addr.mk k392 0
  none))) w395) ∧ True) ∧ True) ∧ (((0 : Int) ≤ 3 ∧ (3 : Int) ≤ 3 ∧ (24 : Int) ≤ 281474976710656 ∧ (3 : Int) ≤ 9223372036854775807) ∧ ∀ (k397 : Nat), (∀ (w398 : World) (R399 : List Own), Ctx
  W w398 (Own.blk k397 [Value.int IntKind.i64 0, Value.int IntKind.i64 0, Value.int IntKind.i64 0] 3 :: Own.blk k376 [Value.bool false, Value.bool false, Value.bool false] 4 :: Own.blk k341
  [Value.int IntKind.i64 0, Value.int IntKind.i64 0, Value.int IntKind.i64 0] 3 :: Own.blk k27 [] 55 :: R19 ++ R399) Φ20 → Ctx W w398 (R23 ++ R399) Φ24) ∧ (∀ (w400 : World) (R401 : List Own),
  Ctx W w400 (Own.blk k397 [Value.int IntKind.i64 0, Value.int IntKind.i64 0, Value.int IntKind.i64 0] 3 :: Own.blk k376 [Value.bool false, Value.bool false, Value.bool false] 4 :: Own.blk
  k341 [Value.int IntKind.i64 0, Value.int IntKind.i64 0, Value.int IntKind.i64 0] 3 :: Own.blk k27 [] 55 :: R19 ++ R401) Φ20 → ∃ (p402 : Option Addr), ∃ (k403 : Nat), ∃ (k404 : Nat), ∃ (w405
  : World), Sem.run Try.prog (builtin Builtin.append #[35, 35] 35 #[false, false] #[Value.slice (some (Addr.mk k27 0 none)) 0 0, Value.slice logP logN logC]) w400 = Result.ok (Next.value
  (Value.slice p402 k403 k404)) w405 ∧ ∃ (R406 : List Own), ∃ (Φ407 : PW), Stable Φ407 ∧ Ctx W w405 (R406 ++ R401) Φ407 ∧ (∀ (w408 : World) (R409 : List Own), Ctx W w408 (R406 ++ R409) Φ407 →
  Ctx W w408 (R23 ++ R409) Φ24) ∧ (∀ (k410 : Nat), (∀ (w411 : World) (R412 : List Own), Ctx W w411 (Own.blk k410 [Value.int IntKind.i64 id, Value.int IntKind.i64 h0, Value.int IntKind.i64 h1,
  Value.slice p402 k403 k404, Value.int IntKind.i64 0, Value.int IntKind.i64 0, Value.slice (some (Addr.mk k376 0 none)) 3 3, Value.slice (some (Addr.mk k397 0 none)) 3 3, Value.slice (some
  (Addr.mk k341 0 none)) 3 3] 67 :: R406 ++ R412) Φ407 → Ctx W w411 (R23 ++ R412) Φ24) ∧ ∀ (w413 : World) (R414 : List Own), Ctx W w413 (Own.blk k410 [Value.int IntKind.i64 id, Value.int
  IntKind.i64 h0, Value.int IntKind.i64 h1, Value.slice p402 k403 k404, Value.int IntKind.i64 0, Value.int IntKind.i64 0, Value.slice (some (Addr.mk k376 0 none)) 3 3, Value.slice (some
  (Addr.mk k397 0 none)) 3 3, Value.slice (some (Addr.mk k341 0 none)) 3 3] 67 :: R406 ++ R414) Φ407 → J (Value.pointer (some (Addr.mk k410 0 none))) w413) ∧ True) ∧ True) ∧ True) ∧ (((0 :
  Int) ≤ 3 ∧ (3 : Int) ≤ 3 ∧ (24 : Int) ≤ 281474976710656 ∧ (3 : Int) ≤ 9223372036854775807) ∧ ∀ (k415 : Nat), (∀ (w416 : World) (R417 : List Own), Ctx W w416 (Own.blk k415 [Value.int
  IntKind.i64 0, Value.int IntKind.i64 0, Value.int IntKind.i64 0] 3 :: Own.blk k341 [Value.int IntKind.i64 0, Value.int IntKind.i64 0, Value.int IntKind.i64 0] 3 :: Own.blk k27 [] 55 :: R19
  ++ R417) Φ20 → Ctx W w416 (R23 ++ R417) Φ24) ∧ (∀ (w418 : World) (R419 : List Own), Ctx W w418 (Own.blk k415 [Value.int IntKind.i64 0, Value.int IntKind.i64 0, Value.int IntKind.i64 0] 3 ::
  Own.blk k341 [Value.int IntKind.i64 0, Value.int IntKind.i64 0, Value.int IntKind.i64 0] 3 :: Own.blk k27 [] 55 :: R19 ++ R419) Φ20 → ∃ (p420 : Option Addr), ∃ (k421 : Nat), ∃ (k422 : Nat),
  ∃ (w423 : World), Sem.run Try.prog (builtin Builtin.append #[35, 35] 35 #[false, false] #[Value.slice (some (Addr.mk k27 0 none)) 0 0, Value.slice logP logN logC]) w418 = Result.ok
  (Next.value (Value.slice p420 k421 k422)) w423 ∧ ∃ (R424 : List Own), ∃ (Φ425 : PW), Stable Φ425 ∧ Ctx W w423 (R424 ++ R419) Φ425 ∧ (∀ (w426 : World) (R427 : List Own), Ctx W w426 (R424 ++
  R427) Φ425 → Ctx W w426 (R23 ++ R427) Φ24) ∧ (((0 : Int) ≤ 3 ∧ (3 : Int) ≤ 3 ∧ (3 : Int) ≤ 281474976710656 ∧ (3 : Int) ≤ 9223372036854775807) ∧ ∀ (k428 : Nat), (∀ (w429 : World) (R430 :
  List Own), Ctx W w429 (Own.blk k428 [Value.bool false, Value.bool false, Value.bool false] 4 :: R424 ++ R430) Φ425 → Ctx W w429 (R23 ++ R430) Φ24) ∧ (∀ (k431 : Nat), (∀ (w432 : World) (R433
  : List Own), Ctx W w432 (Own.blk k431 [Value.int IntKind.i64 id, Value.int IntKind.i64 h0, Value.int IntKind.i64 h1, Value.slice p420 k421 k422, Value.int IntKind.i64 0, Value.int
  IntKind.i64 0, Value.slice (some (Addr.mk k428 0 none)) 3 3, Value.slice (some (Addr.mk k415 0 none)) 3 3, Value.slice (some (Addr.mk k341 0 none)) 3 3] 67 :: Own.blk k428 [Value.bool
  false, Value.bool false, Value.bool false] 4 :: R424 ++ R433) Φ425 → Ctx W w432 (R23 ++ R433) Φ24) ∧ ∀ (w434 : World) (R435 : List Own), Ctx W w434 (Own.blk k431 [Value.int IntKind.i64 id,
  Value.int IntKind.i64 h0, Value.int IntKind.i64 h1, Value.slice p420 k421 k422, Value.int IntKind.i64 0, Value.int IntKind.i64 0, Value.slice (some (Addr.mk k428 0 none)) 3 3, Value.slice
  (some (Addr.mk k415 0 none)) 3 3, Value.slice (some (Addr.mk k341 0 none)) 3 3] 67 :: Own.blk k428 [Value.bool false, Value.bool false, Value.bool false] 4 :: R424 ++ R435) Φ425 → J
  (Value.pointer (some (Addr.mk k431 0 none))) w434) ∧ True) ∧ True) ∧ (((0 : Int) ≤ 3 ∧ (3 : Int) ≤ 3 ∧ (3 : Int) ≤ 281474976710656 ∧ (3 : Int) ≤ 9223372036854775807) ∧ ∀ (k436 : Nat), (∀
  (w437 : World) (R438 : List Own), Ctx W w437 (Own.blk k436 [Value.bool false, Value.bool false, Value.bool false] 4 :: Own.blk k415 [Value.int IntKind.i64 0, Value.int IntKind.i64 0,
  Value.int IntKind.i64 0] 3 :: Own.blk k341 [Value.int IntKind.i64 0, Value.int IntKind.i64 0, Value.int IntKind.i64 0] 3 :: Own.blk k27 [] 55 :: R19 ++ R438) Φ20 → Ctx W w437 (R23 ++ R438)
  Φ24) ∧ (∀ (w439 : World) (R440 : List Own), Ctx W w439 (Own.blk k436 [Value.bool false, Value.bool false, Value.bool false] 4 :: Own.blk k415 [Value.int IntKind.i64 0, Value.int IntKind.i64
  0, Value.int IntKind.i64 0] 3 :: Own.blk k341 [Value.int IntKind.i64 0, Value.int IntKind.i64 0, Value.int IntKind.i64 0] 3 :: Own.blk k27 [] 55 :: R19 ++ R440) Φ20 → ∃ (p441 : Option
  Addr), ∃ (k442 : Nat), ∃ (k443 : Nat), ∃ (w444 : World), Sem.run Try.prog (builtin Builtin.append #[35, 35] 35 #[false, false] #[Value.slice (some (Addr.mk k27 0 none)) 0 0, Value.slice
  logP logN logC]) w439 = Result.ok (Next.value (Value.slice p441 k442 k443)) w444 ∧ ∃ (R445 : List Own), ∃ (Φ446 : PW), Stable Φ446 ∧ Ctx W w444 (R445 ++ R440) Φ446 ∧ (∀ (w447 : World) (R448
  : List Own), Ctx W w447 (R445 ++ R448) Φ446 → Ctx W w447 (R23 ++ R448) Φ24) ∧ (∀ (k449 : Nat), (∀ (w450 : World) (R451 : List Own), Ctx W w450 (Own.blk k449 [Value.int IntKind.i64 id,
  Value.int IntKind.i64 h0, Value.int IntKind.i64 h1, Value.slice p441 k442 k443, Value.int IntKind.i64 0, Value.int IntKind.i64 0, Value.slice (some (Addr.mk k436 0 none)) 3 3, Value.slice
  (some (Addr.mk k415 0 none)) 3 3, Value.slice (some (Addr.mk k341 0 none)) 3 3] 67 :: R445 ++ R451) Φ446 → Ctx W w450 (R23 ++ R451) Φ24) ∧ ∀ (w452 : World) (R453 : List Own), Ctx W w452
  (Own.blk k449 [Value.int IntKind.i64 id, Value.int IntKind.i64 h0, Value.int IntKind.i64 h1, Value.slice p441 k442 k443, Value.int IntKind.i64 0, Value.int IntKind.i64 0, Value.slice (some
  (Addr.mk k436 0 none)) 3 3, Value.slice (some (Addr.mk k415 0 none)) 3 3, Value.slice (some (Addr.mk k341 0 none)) 3 3] 67 :: R445 ++ R453) Φ446 → J (Value.pointer (some (Addr.mk k449 0
  none))) w452) ∧ True) ∧ True) ∧ True) ∧ True) ∧ True) ∧ (((0 : Int) ≤ 3 ∧ (3 : Int) ≤ 3 ∧ (3 : Int) ≤ 281474976710656 ∧ (3 : Int) ≤ 9223372036854775807) ∧ ∀ (k454 : Nat), (∀ (w455 : World)
  (R456 : List Own), Ctx W w455 (Own.blk k454 [Value.bool false, Value.bool false, Value.bool false] 4 :: R19 ++ R456) Φ20 → Ctx W w455 (R23 ++ R456) Φ24) ∧ (∀ (k457 : Nat), (∀ (w458 : World)
  (R459 : List Own), Ctx W w458 (Own.blk k457 [] 55 :: Own.blk k454 [Value.bool false, Value.bool false, Value.bool false] 4 :: R19 ++ R459) Φ20 → Ctx W w458 (R23 ++ R459) Φ24) ∧ (∀ (w460 :
  World) (R461 : List Own), Ctx W w460 (Own.blk k457 [] 55 :: Own.blk k454 [Value.bool false, Value.bool false, Value.bool false] 4 :: R19 ++ R461) Φ20 → ∃ (p462 : Option Addr), ∃ (k463 :
  Nat), ∃ (k464 : Nat), ∃ (w465 : World), Sem.run Try.prog (builtin Builtin.append #[35, 35] 35 #[false, false] #[Value.slice (some (Addr.mk k457 0 none)) 0 0, Value.slice logP logN logC])
  w460 = Result.ok (Next.value (Value.slice p462 k463 k464)) w465 ∧ ∃ (R466 : List Own), ∃ (Φ467 : PW), Stable Φ467 ∧ Ctx W w465 (R466 ++ R461) Φ467 ∧ (∀ (w468 : World) (R469 : List Own), Ctx
  W w468 (R466 ++ R469) Φ467 → Ctx W w468 (R23 ++ R469) Φ24) ∧ (((0 : Int) ≤ 3 ∧ (3 : Int) ≤ 3 ∧ (24 : Int) ≤ 281474976710656 ∧ (3 : Int) ≤ 9223372036854775807) ∧ ∀ (k470 : Nat), (∀ (w471 :
  World) (R472 : List Own), Ctx W w471 (Own.blk k470 [Value.int IntKind.i64 0, Value.int IntKind.i64 0, Value.int IntKind.i64 0] 3 :: R466 ++ R472) Φ467 → Ctx W w471 (R23 ++ R472) Φ24) ∧ (((0
  : Int) ≤ 3 ∧ (3 : Int) ≤ 3 ∧ (24 : Int) ≤ 281474976710656 ∧ (3 : Int) ≤ 9223372036854775807) ∧ ∀ (k473 : Nat), (∀ (w474 : World) (R475 : List Own), Ctx W w474 (Own.blk k473 [Value.int
  IntKind.i64 0, Value.int IntKind.i64 0, Value.int IntKind.i64 0] 3 :: Own.blk k470 [Value.int IntKind.i64 0, Value.int IntKind.i64 0, Value.int IntKind.i64 0] 3 :: R466 ++ R475) Φ467 → Ctx
  W w474 (R23 ++ R475) Φ24) ∧ (∀ (k476 : Nat), (∀ (w477 : World) (R478 : List Own), Ctx W w477 (Own.blk k476 [Value.int IntKind.i64 id, Value.int IntKind.i64 h0, Value.int IntKind.i64 h1,
  Value.slice p462 k463 k464, Value.int IntKind.i64 0, Value.int IntKind.i64 0, Value.slice (some (Addr.mk k454 0 none)) 3 3, Value.slice (some (Addr.mk k470 0 none)) 3 3, Value.slice (some
  (Addr.mk k473 0 none)) 3 3] 67 :: Own.blk k473 [Value.int IntKind.i64 0, Value.int IntKind.i64 0, Value.int IntKind.i64 0] 3 :: Own.blk k470 [Value.int IntKind.i64 0, Value.int IntKind.i64
  0, Value.int IntKind.i64 0] 3 :: R466 ++ R478) Φ467 → Ctx W w477 (R23 ++ R478) Φ24) ∧ ∀ (w479 : World) (R480 : List Own), Ctx W w479 (Own.blk k476 [Value.int IntKind.i64 id, Value.int
  IntKind.i64 h0, Value.int IntKind.i64 h1, Value.slice p462 k463 k464, Value.int IntKind.i64 0, Value.int IntKind.i64 0, Value.slice (some (Addr.mk k454 0 none)) 3 3, Value.slice (some
  (Addr.mk k470 0 none)) 3 3, Value.slice (some (Addr.mk k473 0 none)) 3 3] 67 :: Own.blk k473 [Value.int IntKind.i64 0, Value.int IntKind.i64 0, Value.int IntKind.i64 0] 3 :: Own.blk k470
  [Value.int IntKind.i64 0, Value.int IntKind.i64 0, Value.int IntKind.i64 0] 3 :: R466 ++ R480) Φ467 → J (Value.pointer (some (Addr.mk k476 0 none))) w479) ∧ True) ∧ True) ∧ (((0 : Int) ≤ 3
  ∧ (3 : Int) ≤ 3 ∧ (24 : Int) ≤ 281474976710656 ∧ (3 : Int) ≤ 9223372036854775807) ∧ ∀ (k481 : Nat), (∀ (w482 : World) (R483 : List Own), Ctx W w482 (Own.blk k481 [Value.int IntKind.i64 0,
  Value.int IntKind.i64 0, Value.int IntKind.i64 0] 3 :: R466 ++ R483) Φ467 → Ctx W w482 (R23 ++ R483) Φ24) ∧ (((0 : Int) ≤ 3 ∧ (3 : Int) ≤ 3 ∧ (24 : Int) ≤ 281474976710656 ∧ (3 : Int) ≤
  9223372036854775807) ∧ ∀ (k484 : Nat), (∀ (w485 : World) (R486 : List Own), Ctx W w485 (Own.blk k484 [Value.int IntKind.i64 0, Value.int IntKind.i64 0, Value.int IntKind.i64 0] 3 :: Own.blk
  k481 [Value.int IntKind.i64 0, Value.int IntKind.i64 0, Value.int IntKind.i64 0] 3 :: R466 ++ R486) Φ467 → Ctx W w485 (R23 ++ R486) Φ24) ∧ (∀ (k487 : Nat), (∀ (w488 : World) (R489 : List
  Own), Ctx W w488 (Own.blk k487 [Value.int IntKind.i64 id, Value.int IntKind.i64 h0, Value.int IntKind.i64 h1, Value.slice p462 k463 k464, Value.int IntKind.i64 0, Value.int IntKind.i64 0,
  Value.slice (some (Addr.mk k454 0 none)) 3 3, Value.slice (some (Addr.mk k484 0 none)) 3 3, Value.slice (some (Addr.mk k481 0 none)) 3 3] 67 :: Own.blk k484 [Value.int IntKind.i64 0,
  Value.int IntKind.i64 0, Value.int IntKind.i64 0] 3 :: Own.blk k481 [Value.int IntKind.i64 0, Value.int IntKind.i64 0, Value.int IntKind.i64 0] 3 :: R466 ++ R489) Φ467 → Ctx W w488 (R23 ++
  R489) Φ24) ∧ ∀ (w490 : World) (R491 : List Own), Ctx W w490 (Own.blk k487 [Value.int IntKind.i64 id, Value.int IntKind.i64 h0, Value.int IntKind.i64 h1, Value.slice p462 k463 k464,
  Value.int IntKind.i64 0, Value.int IntKind.i64 0, Value.slice (some (Addr.mk k454 0 none)) 3 3, Value.slice (some (Addr.mk k484 0 none)) 3 3, Value.slice (some (Addr.mk k481 0 none)) 3 3]
  67 :: Own.blk k484 [Value.int IntKind.i64 0, Value.int IntKind.i64 0, Value.int IntKind.i64 0] 3 :: Own.blk k481 [Value.int IntKind.i64 0, Value.int IntKind.i64 0, Value.int IntKind.i64 0]
  3 :: R466 ++ R491) Φ467 → J (Value.pointer (some (Addr.mk k487 0 none))) w490) ∧ True) ∧ True) ∧ True) ∧ (((0 : Int) ≤ 3 ∧ (3 : Int) ≤ 3 ∧ (24 : Int) ≤ 281474976710656 ∧ (3 : Int) ≤
  9223372036854775807) ∧ ∀ (k492 : Nat), (∀ (w493 : World) (R494 : List Own), Ctx W w493 (Own.blk k492 [Value.int IntKind.i64 0, Value.int IntKind.i64 0, Value.int IntKind.i64 0] 3 :: Own.blk
  k457 [] 55 :: Own.blk k454 [Value.bool false, Value.bool false, Value.bool false] 4 :: R19 ++ R494) Φ20 → Ctx W w493 (R23 ++ R494) Φ24) ∧ (∀ (w495 : World) (R496 : List Own), Ctx W w495
  (Own.blk k492 [Value.int IntKind.i64 0, Value.int IntKind.i64 0, Value.int IntKind.i64 0] 3 :: Own.blk k457 [] 55 :: Own.blk k454 [Value.bool false, Value.bool false, Value.bool false] 4 ::
  R19 ++ R496) Φ20 → ∃ (p497 : Option Addr), ∃ (k498 : Nat), ∃ (k499 : Nat), ∃ (w500 : World), Sem.run Try.prog (builtin Builtin.append #[35, 35] 35 #[false, false] #[Value.slice (some
  (Addr.mk k457 0 none)) 0 0, Value.slice logP logN logC]) w495 = Result.ok (Next.value (Value.slice p497 k498 k499)) w500 ∧ ∃ (R501 : List Own), ∃ (Φ502 : PW), Stable Φ502 ∧ Ctx W w500 (R501
  ++ R496) Φ502 ∧ (∀ (w503 : World) (R504 : List Own), Ctx W w503 (R501 ++ R504) Φ502 → Ctx W w503 (R23 ++ R504) Φ24) ∧ (((0 : Int) ≤ 3 ∧ (3 : Int) ≤ 3 ∧ (24 : Int) ≤ 281474976710656 ∧ (3 :
  Int) ≤ 9223372036854775807) ∧ ∀ (k505 : Nat), (∀ (w506 : World) (R507 : List Own), Ctx W w506 (Own.blk k505 [Value.int IntKind.i64 0, Value.int IntKind.i64 0, Value.int IntKind.i64 0] 3 ::
  R501 ++ R507) Φ502 → Ctx W w506 (R23 ++ R507) Φ24) ∧ (∀ (k508 : Nat), (∀ (w509 : World) (R510 : List Own), Ctx W w509 (Own.blk k508 [Value.int IntKind.i64 id, Value.int IntKind.i64 h0,
  Value.int IntKind.i64 h1, Value.slice p497 k498 k499, Value.int IntKind.i64 0, Value.int IntKind.i64 0, Value.slice (some (Addr.mk k454 0 none)) 3 3, Value.slice (some (Addr.mk k492 0
  none)) 3 3, Value.slice (some (Addr.mk k505 0 none)) 3 3] 67 :: Own.blk k505 [Value.int IntKind.i64 0, Value.int IntKind.i64 0, Value.int IntKind.i64 0] 3 :: R501 ++ R510) Φ502 → Ctx W w509
  (R23 ++ R510) Φ24) ∧ ∀ (w511 : World) (R512 : List Own), Ctx W w511 (Own.blk k508 [Value.int IntKind.i64 id, Value.int IntKind.i64 h0, Value.int IntKind.i64 h1, Value.slice p497 k498 k499,
  Value.int IntKind.i64 0, Value.int IntKind.i64 0, Value.slice (some (Addr.mk k454 0 none)) 3 3, Value.slice (some (Addr.mk k492 0 none)) 3 3, Value.slice (some (Addr.mk k505 0 none)) 3 3]
  67 :: Own.blk k505 [Value.int IntKind.i64 0, Value.int IntKind.i64 0, Value.int IntKind.i64 0] 3 :: R501 ++ R512) Φ502 → J (Value.pointer (some (Addr.mk k508 0 none))) w511) ∧ True) ∧ True)
  ∧ (((0 : Int) ≤ 3 ∧ (3 : Int) ≤ 3 ∧ (24 : Int) ≤ 281474976710656 ∧ (3 : Int) ≤ 9223372036854775807) ∧ ∀ (k513 : Nat), (∀ (w514 : World) (R515 : List Own), Ctx W w514 (Own.blk k513
  [Value.int IntKind.i64 0, Value.int IntKind.i64 0, Value.int IntKind.i64 0] 3 :: Own.blk k492 [Value.int IntKind.i64 0, Value.int IntKind.i64 0, Value.int IntKind.i64 0] 3 :: Own.blk k457
  [] 55 :: Own.blk k454 [Value.bool false, Value.bool false, Value.bool false] 4 :: R19 ++ R515) Φ20 → Ctx W w514 (R23 ++ R515) Φ24) ∧ (∀ (w516 : World) (R517 : List Own), Ctx W w516 (Own.blk
  k513 [Value.int IntKind.i64 0, Value.int IntKind.i64 0, Value.int IntKind.i64 0] 3 :: Own.blk k492 [Value.int IntKind.i64 0, Value.int IntKind.i64 0, Value.int IntKind.i64 0] 3 :: Own.blk
  k457 [] 55 :: Own.blk k454 [Value.bool false, Value.bool false, Value.bool false] 4 :: R19 ++ R517) Φ20 → ∃ (p518 : Option Addr), ∃ (k519 : Nat), ∃ (k520 : Nat), ∃ (w521 : World), Sem.run
  Try.prog (builtin Builtin.append #[35, 35] 35 #[false, false] #[Value.slice (some (Addr.mk k457 0 none)) 0 0, Value.slice logP logN logC]) w516 = Result.ok (Next.value (Value.slice p518
  k519 k520)) w521 ∧ ∃ (R522 : List Own), ∃ (Φ523 : PW), Stable Φ523 ∧ Ctx W w521 (R522 ++ R517) Φ523 ∧ (∀ (w524 : World) (R525 : List Own), Ctx W w524 (R522 ++ R525) Φ523 → Ctx W w524 (R23
  ++ R525) Φ24) ∧ (∀ (k526 : Nat), (∀ (w527 : World) (R528 : List Own), Ctx W w527 (Own.blk k526 [Value.int IntKind.i64 id, Value.int IntKind.i64 h0, Value.int IntKind.i64 h1, Value.slice
  p518 k519 k520, Value.int IntKind.i64 0, Value.int IntKind.i64 0, Value.slice (some (Addr.mk k454 0 none)) 3 3, Value.slice (some (Addr.mk k492 0 none)) 3 3, Value.slice (some (Addr.mk k513
  0 none)) 3 3] 67 :: R522 ++ R528) Φ523 → Ctx W w527 (R23 ++ R528) Φ24) ∧ ∀ (w529 : World) (R530 : List Own), Ctx W w529 (Own.blk k526 [Value.int IntKind.i64 id, Value.int IntKind.i64 h0,
  Value.int IntKind.i64 h1, Value.slice p518 k519 k520, Value.int IntKind.i64 0, Value.int IntKind.i64 0, Value.slice (some (Addr.mk k454 0 none)) 3 3, Value.slice (some (Addr.mk k492 0
  none)) 3 3, Value.slice (some (Addr.mk k513 0 none)) 3 3] 67 :: R522 ++ R530) Φ523 → J (Value.pointer (some (Addr.mk k526 0 none))) w529) ∧ True) ∧ True) ∧ True) ∧ (((0 : Int) ≤ 3 ∧ (3 :
  Int) ≤ 3 ∧ (24 : Int) ≤ 281474976710656 ∧ (3 : Int) ≤ 9223372036854775807) ∧ ∀ (k531 : Nat), (∀ (w532 : World) (R533 : List Own), Ctx W w532 (Own.blk k531 [Value.int IntKind.i64 0,
  Value.int IntKind.i64 0, Value.int IntKind.i64 0] 3 :: Own.blk k457 [] 55 :: Own.blk k454 [Value.bool false, Value.bool false, Value.bool false] 4 :: R19 ++ R533) Φ20 → Ctx W w532 (R23 ++
  R533) Φ24) ∧ (∀ (w534 : World) (R535 : List Own), Ctx W w534 (Own.blk k531 [Value.int IntKind.i64 0, Value.int IntKind.i64 0, Value.int IntKind.i64 0] 3 :: Own.blk k457 [] 55 :: Own.blk
  k454 [Value.bool false, Value.bool false, Value.bool false] 4 :: R19 ++ R535) Φ20 → ∃ (p536 : Option Addr), ∃ (k537 : Nat), ∃ (k538 : Nat), ∃ (w539 : World), Sem.run Try.prog (builtin
  Builtin.append #[35, 35] 35 #[false, false] #[Value.slice (some (Addr.mk k457 0 none)) 0 0, Value.slice logP logN logC]) w534 = Result.ok (Next.value (Value.slice p536 k537 k538)) w539 ∧ ∃
  (R540 : List Own), ∃ (Φ541 : PW), Stable Φ541 ∧ Ctx W w539 (R540 ++ R535) Φ541 ∧ (∀ (w542 : World) (R543 : List Own), Ctx W w542 (R540 ++ R543) Φ541 → Ctx W w542 (R23 ++ R543) Φ24) ∧ (((0 :
  Int) ≤ 3 ∧ (3 : Int) ≤ 3 ∧ (24 : Int) ≤ 281474976710656 ∧ (3 : Int) ≤ 9223372036854775807) ∧ ∀ (k544 : Nat), (∀ (w545 : World) (R546 : List Own), Ctx W w545 (Own.blk k544 [Value.int
  IntKind.i64 0, Value.int IntKind.i64 0, Value.int IntKind.i64 0] 3 :: R540 ++ R546) Φ541 → Ctx W w545 (R23 ++ R546) Φ24) ∧ (∀ (k547 : Nat), (∀ (w548 : World) (R549 : List Own), Ctx W w548
  (Own.blk k547 [Value.int IntKind.i64 id, Value.int IntKind.i64 h0, Value.int IntKind.i64 h1, Value.slice p536 k537 k538, Value.int IntKind.i64 0, Value.int IntKind.i64 0, Value.slice (some
  (Addr.mk k454 0 none)) 3 3, Value.slice (some (Addr.mk k544 0 none)) 3 3, Value.slice (some (Addr.mk k531 0 none)) 3 3] 67 :: Own.blk k544 [Value.int IntKind.i64 0, Value.int IntKind.i64 0,
  Value.int IntKind.i64 0] 3 :: R540 ++ R549) Φ541 → Ctx W w548 (R23 ++ R549) Φ24) ∧ ∀ (w550 : World) (R551 : List Own), Ctx W w550 (Own.blk k547 [Value.int IntKind.i64 id, Value.int
  IntKind.i64 h0, Value.int IntKind.i64 h1, Value.slice p536 k537 k538, Value.int IntKind.i64 0, Value.int IntKind.i64 0, Value.slice (some (Addr.mk k454 0 none)) 3 3, Value.slice (some
  (Addr.mk k544 0 none)) 3 3, Value.slice (some (Addr.mk k531 0 none)) 3 3] 67 :: Own.blk k544 [Value.int IntKind.i64 0, Value.int IntKind.i64 0, Value.int IntKind.i64 0] 3 :: R540 ++ R551)
  Φ541 → J (Value.pointer (some (Addr.mk k547 0 none))) w550) ∧ True) ∧ True) ∧ (((0 : Int) ≤ 3 ∧ (3 : Int) ≤ 3 ∧ (24 : Int) ≤ 281474976710656 ∧ (3 : Int) ≤ 9223372036854775807) ∧ ∀ (k552 :
  Nat), (∀ (w553 : World) (R554 : List Own), Ctx W w553 (Own.blk k552 [Value.int IntKind.i64 0, Value.int IntKind.i64 0, Value.int IntKind.i64 0] 3 :: Own.blk k531 [Value.int IntKind.i64 0,
  Value.int IntKind.i64 0, Value.int IntKind.i64 0] 3 :: Own.blk k457 [] 55 :: Own.blk k454 [Value.bool false, Value.bool false, Value.bool false] 4 :: R19 ++ R554) Φ20 → Ctx W w553 (R23 ++
  R554) Φ24) ∧ (∀ (w555 : World) (R556 : List Own), Ctx W w555 (Own.blk k552 [Value.int IntKind.i64 0, Value.int IntKind.i64 0, Value.int IntKind.i64 0] 3 :: Own.blk k531 [Value.int
  IntKind.i64 0, Value.int IntKind.i64 0, Value.int IntKind.i64 0] 3 :: Own.blk k457 [] 55 :: Own.blk k454 [Value.bool false, Value.bool false, Value.bool false] 4 :: R19 ++ R556) Φ20 → ∃
  (p557 : Option Addr), ∃ (k558 : Nat), ∃ (k559 : Nat), ∃ (w560 : World), Sem.run Try.prog (builtin Builtin.append #[35, 35] 35 #[false, false] #[Value.slice (some (Addr.mk k457 0 none)) 0 0,
  Value.slice logP logN logC]) w555 = Result.ok (Next.value (Value.slice p557 k558 k559)) w560 ∧ ∃ (R561 : List Own), ∃ (Φ562 : PW), Stable Φ562 ∧ Ctx W w560 (R561 ++ R556) Φ562 ∧ (∀ (w563 :
  World) (R564 : List Own), Ctx W w563 (R561 ++ R564) Φ562 → Ctx W w563 (R23 ++ R564) Φ24) ∧ (∀ (k565 : Nat), (∀ (w566 : World) (R567 : List Own), Ctx W w566 (Own.blk k565 [Value.int
  IntKind.i64 id, Value.int IntKind.i64 h0, Value.int IntKind.i64 h1, Value.slice p557 k558 k559, Value.int IntKind.i64 0, Value.int IntKind.i64 0, Value.slice (some (Addr.mk k454 0 none)) 3
  3, Value.slice (some (Addr.mk k552 0 none)) 3 3, Value.slice (some (Addr.mk k531 0 none)) 3 3] 67 :: R561 ++ R567) Φ562 → Ctx W w566 (R23 ++ R567) Φ24) ∧ ∀ (w568 : World) (R569 : List Own),
  Ctx W w568 (Own.blk k565 [Value.int IntKind.i64 id, Value.int IntKind.i64 h0, Value.int IntKind.i64 h1, Value.slice p557 k558 k559, Value.int IntKind.i64 0, Value.int IntKind.i64 0,
  Value.slice (some (Addr.mk k454 0 none)) 3 3, Value.slice (some (Addr.mk k552 0 none)) 3 3, Value.slice (some (Addr.mk k531 0 none)) 3 3] 67 :: R561 ++ R569) Φ562 → J (Value.pointer (some
  (Addr.mk k565 0 none))) w568) ∧ True) ∧ True) ∧ True) ∧ True) ∧ (((0 : Int) ≤ 3 ∧ (3 : Int) ≤ 3 ∧ (24 : Int) ≤ 281474976710656 ∧ (3 : Int) ≤ 9223372036854775807) ∧ ∀ (k570 : Nat), (∀ (w571
  : World) (R572 : List Own), Ctx W w571 (Own.blk k570 [Value.int IntKind.i64 0, Value.int IntKind.i64 0, Value.int IntKind.i64 0] 3 :: Own.blk k454 [Value.bool false, Value.bool false,
  Value.bool false] 4 :: R19 ++ R572) Φ20 → Ctx W w571 (R23 ++ R572) Φ24) ∧ (∀ (k573 : Nat), (∀ (w574 : World) (R575 : List Own), Ctx W w574 (Own.blk k573 [] 55 :: Own.blk k570 [Value.int
  IntKind.i64 0, Value.int IntKind.i64 0, Value.int IntKind.i64 0] 3 :: Own.blk k454 [Value.bool false, Value.bool false, Value.bool false] 4 :: R19 ++ R575) Φ20 → Ctx W w574 (R23 ++ R575)
  Φ24) ∧ (∀ (w576 : World) (R577 : List Own), Ctx W w576 (Own.blk k573 [] 55 :: Own.blk k570 [Value.int IntKind.i64 0, Value.int IntKind.i64 0, Value.int IntKind.i64 0] 3 :: Own.blk k454
  [Value.bool false, Value.bool false, Value.bool false] 4 :: R19 ++ R577) Φ20 → ∃ (p578 : Option Addr), ∃ (k579 : Nat), ∃ (k580 : Nat), ∃ (w581 : World), Sem.run Try.prog (builtin
  Builtin.append #[35, 35] 35 #[false, false] #[Value.slice (some (Addr.mk k573 0 none)) 0 0, Value.slice logP logN logC]) w576 = Result.ok (Next.value (Value.slice p578 k579 k580)) w581 ∧ ∃
  (R582 : List Own), ∃ (Φ583 : PW), Stable Φ583 ∧ Ctx W w581 (R582 ++ R577) Φ583 ∧ (∀ (w584 : World) (R585 : List Own), Ctx W w584 (R582 ++ R585) Φ583 → Ctx W w584 (R23 ++ R585) Φ24) ∧ (((0 :
  Int) ≤ 3 ∧ (3 : Int) ≤ 3 ∧ (24 : Int) ≤ 281474976710656 ∧ (3 : Int) ≤ 9223372036854775807) ∧ ∀ (k586 : Nat), (∀ (w587 : World) (R588 : List Own), Ctx W w587 (Own.blk k586 [Value.int
  IntKind.i64 0, Value.int IntKind.i64 0, Value.int IntKind.i64 0] 3 :: R582 ++ R588) Φ583 → Ctx W w587 (R23 ++ R588) Φ24) ∧ (∀ (k589 : Nat), (∀ (w590 : World) (R591 : List Own), Ctx W w590
  (Own.blk k589 [Value.int IntKind.i64 id, Value.int IntKind.i64 h0, Value.int IntKind.i64 h1, Value.slice p578 k579 k580, Value.int IntKind.i64 0, Value.int IntKind.i64 0, Value.slice (some
  (Addr.mk k454 0 none)) 3 3, Value.slice (some (Addr.mk k570 0 none)) 3 3, Value.slice (some (Addr.mk k586 0 none)) 3 3] 67 :: Own.blk k586 [Value.int IntKind.i64 0, Value.int IntKind.i64 0,
  Value.int IntKind.i64 0] 3 :: R582 ++ R591) Φ583 → Ctx W w590 (R23 ++ R591) Φ24) ∧ ∀ (w592 : World) (R593 : List Own), Ctx W w592 (Own.blk k589 [Value.int IntKind.i64 id, Value.int
  IntKind.i64 h0, Value.int IntKind.i64 h1, Value.slice p578 k579 k580, Value.int IntKind.i64 0, Value.int IntKind.i64 0, Value.slice (some (Addr.mk k454 0 none)) 3 3, Value.slice (some
  (Addr.mk k570 0 none)) 3 3, Value.slice (some (Addr.mk k586 0 none)) 3 3] 67 :: Own.blk k586 [Value.int IntKind.i64 0, Value.int IntKind.i64 0, Value.int IntKind.i64 0] 3 :: R582 ++ R593)
  Φ583 → J (Value.pointer (some (Addr.mk k589 0 none))) w592) ∧ True) ∧ True) ∧ (((0 : Int) ≤ 3 ∧ (3 : Int) ≤ 3 ∧ (24 : Int) ≤ 281474976710656 ∧ (3 : Int) ≤ 9223372036854775807) ∧ ∀ (k594 :
  Nat), (∀ (w595 : World) (R596 : List Own), Ctx W w595 (Own.blk k594 [Value.int IntKind.i64 0, Value.int IntKind.i64 0, Value.int IntKind.i64 0] 3 :: Own.blk k573 [] 55 :: Own.blk k570
  [Value.int IntKind.i64 0, Value.int IntKind.i64 0, Value.int IntKind.i64 0] 3 :: Own.blk k454 [Value.bool false, Value.bool false, Value.bool false] 4 :: R19 ++ R596) Φ20 → Ctx W w595 (R23
  ++ R596) Φ24) ∧ (∀ (w597 : World) (R598 : List Own), Ctx W w597 (Own.blk k594 [Value.int IntKind.i64 0, Value.int IntKind.i64 0, Value.int IntKind.i64 0] 3 :: Own.blk k573 [] 55 :: Own.blk
  k570 [Value.int IntKind.i64 0, Value.int IntKind.i64 0, Value.int IntKind.i64 0] 3 :: Own.blk k454 [Value.bool false, Value.bool false, Value.bool false] 4 :: R19 ++ R598) Φ20 → ∃ (p599 :
  Option Addr), ∃ (k600 : Nat), ∃ (k601 : Nat), ∃ (w602 : World), Sem.run Try.prog (builtin Builtin.append #[35, 35] 35 #[false, false] #[Value.slice (some (Addr.mk k573 0 none)) 0 0,
  Value.slice logP logN logC]) w597 = Result.ok (Next.value (Value.slice p599 k600 k601)) w602 ∧ ∃ (R603 : List Own), ∃ (Φ604 : PW), Stable Φ604 ∧ Ctx W w602 (R603 ++ R598) Φ604 ∧ (∀ (w605 :
  World) (R606 : List Own), Ctx W w605 (R603 ++ R606) Φ604 → Ctx W w605 (R23 ++ R606) Φ24) ∧ (∀ (k607 : Nat), (∀ (w608 : World) (R609 : List Own), Ctx W w608 (Own.blk k607 [Value.int
  IntKind.i64 id, Value.int IntKind.i64 h0, Value.int IntKind.i64 h1, Value.slice p599 k600 k601, Value.int IntKind.i64 0, Value.int IntKind.i64 0, Value.slice (some (Addr.mk k454 0 none)) 3
  3, Value.slice (some (Addr.mk k570 0 none)) 3 3, Value.slice (some (Addr.mk k594 0 none)) 3 3] 67 :: R603 ++ R609) Φ604 → Ctx W w608 (R23 ++ R609) Φ24) ∧ ∀ (w610 : World) (R611 : List Own),
  Ctx W w610 (Own.blk k607 [Value.int IntKind.i64 id, Value.int IntKind.i64 h0, Value.int IntKind.i64 h1, Value.slice p599 k600 k601, Value.int IntKind.i64 0, Value.int IntKind.i64 0,
  Value.slice (some (Addr.mk k454 0 none)) 3 3, Value.slice (some (Addr.mk k570 0 none)) 3 3, Value.slice (some (Addr.mk k594 0 none)) 3 3] 67 :: R603 ++ R611) Φ604 → J (Value.pointer (some
  (Addr.mk k607 0 none))) w610) ∧ True) ∧ True) ∧ True) ∧ (((0 : Int) ≤ 3 ∧ (3 : Int) ≤ 3 ∧ (24 : Int) ≤ 281474976710656 ∧ (3 : Int) ≤ 9223372036854775807) ∧ ∀ (k612 : Nat), (∀ (w613 : World)
  (R614 : List Own), Ctx W w613 (Own.blk k612 [Value.int IntKind.i64 0, Value.int IntKind.i64 0, Value.int IntKind.i64 0] 3 :: Own.blk k570 [Value.int IntKind.i64 0, Value.int IntKind.i64 0,
  Value.int IntKind.i64 0] 3 :: Own.blk k454 [Value.bool false, Value.bool false, Value.bool false] 4 :: R19 ++ R614) Φ20 → Ctx W w613 (R23 ++ R614) Φ24) ∧ (∀ (k615 : Nat), (∀ (w616 : World)
  (R617 : List Own), Ctx W w616 (Own.blk k615 [] 55 :: Own.blk k612 [Value.int IntKind.i64 0, Value.int IntKind.i64 0, Value.int IntKind.i64 0] 3 :: Own.blk k570 [Value.int IntKind.i64 0,
  Value.int IntKind.i64 0, Value.int IntKind.i64 0] 3 :: Own.blk k454 [Value.bool false, Value.bool false, Value.bool false] 4 :: R19 ++ R617) Φ20 → Ctx W w616 (R23 ++ R617) Φ24) ∧ (∀ (w618 :
  World) (R619 : List Own), Ctx W w618 (Own.blk k615 [] 55 :: Own.blk k612 [Value.int IntKind.i64 0, Value.int IntKind.i64 0, Value.int IntKind.i64 0] 3 :: Own.blk k570 [Value.int IntKind.i64
  0, Value.int IntKind.i64 0, Value.int IntKind.i64 0] 3 :: Own.blk k454 [Value.bool false, Value.bool false, Value.bool false] 4 :: R19 ++ R619) Φ20 → ∃ (p620 : Option Addr), ∃ (k621 : Nat),
  ∃ (k622 : Nat), ∃ (w623 : World), Sem.run Try.prog (builtin Builtin.append #[35, 35] 35 #[false, false] #[Value.slice (some (Addr.mk k615 0 none)) 0 0, Value.slice logP logN logC]) w618 =
  Result.ok (Next.value (Value.slice p620 k621 k622)) w623 ∧ ∃ (R624 : List Own), ∃ (Φ625 : PW), Stable Φ625 ∧ Ctx W w623 (R624 ++ R619) Φ625 ∧ (∀ (w626 : World) (R627 : List Own), Ctx W w626
  (R624 ++ R627) Φ625 → Ctx W w626 (R23 ++ R627) Φ24) ∧ (∀ (k628 : Nat), (∀ (w629 : World) (R630 : List Own), Ctx W w629 (Own.blk k628 [Value.int IntKind.i64 id, Value.int IntKind.i64 h0,
  Value.int IntKind.i64 h1, Value.slice p620 k621 k622, Value.int IntKind.i64 0, Value.int IntKind.i64 0, Value.slice (some (Addr.mk k454 0 none)) 3 3, Value.slice (some (Addr.mk k570 0
  none)) 3 3, Value.slice (some (Addr.mk k612 0 none)) 3 3] 67 :: R624 ++ R630) Φ625 → Ctx W w629 (R23 ++ R630) Φ24) ∧ ∀ (w631 : World) (R632 : List Own), Ctx W w631 (Own.blk k628 [Value.int
  IntKind.i64 id, Value.int IntKind.i64 h0, Value.int IntKind.i64 h1, Value.slice p620 k621 k622, Value.int IntKind.i64 0, Value.int IntKind.i64 0, Value.slice (some (Addr.mk k454 0 none)) 3
  3, Value.slice (some (Addr.mk k570 0 none)) 3 3, Value.slice (some (Addr.mk k612 0 none)) 3 3] 67 :: R624 ++ R632) Φ625 → J (Value.pointer (some (Addr.mk k628 0 none))) w631) ∧ True) ∧
  True) ∧ True) ∧ True) ∧ (((0 : Int) ≤ 3 ∧ (3 : Int) ≤ 3 ∧ (24 : Int) ≤ 281474976710656 ∧ (3 : Int) ≤ 9223372036854775807) ∧ ∀ (k633 : Nat), (∀ (w634 : World) (R635 : List Own), Ctx W w634
  (Own.blk k633 [Value.int IntKind.i64 0, Value.int IntKind.i64 0, Value.int IntKind.i64 0] 3 :: Own.blk k454 [Value.bool false, Value.bool false, Value.bool false] 4 :: R19 ++ R635) Φ20 →
  Ctx W w634 (R23 ++ R635) Φ24) ∧ (∀ (k636 : Nat), (∀ (w637 : World) (R638 : List Own), Ctx W w637 (Own.blk k636 [] 55 :: Own.blk k633 [Value.int IntKind.i64 0, Value.int IntKind.i64 0,
  Value.int IntKind.i64 0] 3 :: Own.blk k454 [Value.bool false, Value.bool false, Value.bool false] 4 :: R19 ++ R638) Φ20 → Ctx W w637 (R23 ++ R638) Φ24) ∧ (∀ (w639 : World) (R640 : List
  Own), Ctx W w639 (Own.blk k636 [] 55 :: Own.blk k633 [Value.int IntKind.i64 0, Value.int IntKind.i64 0, Value.int IntKind.i64 0] 3 :: Own.blk k454 [Value.bool false, Value.bool false,
  Value.bool false] 4 :: R19 ++ R640) Φ20 → ∃ (p641 : Option Addr), ∃ (k642 : Nat), ∃ (k643 : Nat), ∃ (w644 : World), Sem.run Try.prog (builtin Builtin.append #[35, 35] 35 #[false, false]
  #[Value.slice (some (Addr.mk k636 0 none)) 0 0, Value.slice logP logN logC]) w639 = Result.ok (Next.value (Value.slice p641 k642 k643)) w644 ∧ ∃ (R645 : List Own), ∃ (Φ646 : PW), Stable
  Φ646 ∧ Ctx W w644 (R645 ++ R640) Φ646 ∧ (∀ (w647 : World) (R648 : List Own), Ctx W w647 (R645 ++ R648) Φ646 → Ctx W w647 (R23 ++ R648) Φ24) ∧ (((0 : Int) ≤ 3 ∧ (3 : Int) ≤ 3 ∧ (24 : Int) ≤
  281474976710656 ∧ (3 : Int) ≤ 9223372036854775807) ∧ ∀ (k649 : Nat), (∀ (w650 : World) (R651 : List Own), Ctx W w650 (Own.blk k649 [Value.int IntKind.i64 0, Value.int IntKind.i64 0,
  Value.int IntKind.i64 0] 3 :: R645 ++ R651) Φ646 → Ctx W w650 (R23 ++ R651) Φ24) ∧ (∀ (k652 : Nat), (∀ (w653 : World) (R654 : List Own), Ctx W w653 (Own.blk k652 [Value.int IntKind.i64 id,
  Value.int IntKind.i64 h0, Value.int IntKind.i64 h1, Value.slice p641 k642 k643, Value.int IntKind.i64 0, Value.int IntKind.i64 0, Value.slice (some (Addr.mk k454 0 none)) 3 3, Value.slice
  (some (Addr.mk k649 0 none)) 3 3, Value.slice (some (Addr.mk k633 0 none)) 3 3] 67 :: Own.blk k649 [Value.int IntKind.i64 0, Value.int IntKind.i64 0, Value.int IntKind.i64 0] 3 :: R645 ++
  R654) Φ646 → Ctx W w653 (R23 ++ R654) Φ24) ∧ ∀ (w655 : World) (R656 : List Own), Ctx W w655 (Own.blk k652 [Value.int IntKind.i64 id, Value.int IntKind.i64 h0, Value.int IntKind.i64 h1,
  Value.slice p641 k642 k643, Value.int IntKind.i64 0, Value.int IntKind.i64 0, Value.slice (some (Addr.mk k454 0 none)) 3 3, Value.slice (some (Addr.mk k649 0 none)) 3 3, Value.slice (some
  (Addr.mk k633 0 none)) 3 3] 67 :: Own.blk k649 [Value.int IntKind.i64 0, Value.int IntKind.i64 0, Value.int IntKind.i64 0] 3 :: R645 ++ R656) Φ646 → J (Value.pointer (some (Addr.mk k652 0
  none))) w655) ∧ True) ∧ True) ∧ (((0 : Int) ≤ 3 ∧ (3 : Int) ≤ 3 ∧ (24 : Int) ≤ 281474976710656 ∧ (3 : Int) ≤ 9223372036854775807) ∧ ∀ (k657 : Nat), (∀ (w658 : World) (R659 : List Own), Ctx
  W w658 (Own.blk k657 [Value.int IntKind.i64 0, Value.int IntKind.i64 0, Value.int IntKind.i64 0] 3 :: Own.blk k636 [] 55 :: Own.blk k633 [Value.int IntKind.i64 0, Value.int IntKind.i64 0,
  Value.int IntKind.i64 0] 3 :: Own.blk k454 [Value.bool false, Value.bool false, Value.bool false] 4 :: R19 ++ R659) Φ20 → Ctx W w658 (R23 ++ R659) Φ24) ∧ (∀ (w660 : World) (R661 : List
  Own), Ctx W w660 (Own.blk k657 [Value.int IntKind.i64 0, Value.int IntKind.i64 0, Value.int IntKind.i64 0] 3 :: Own.blk k636 [] 55 :: Own.blk k633 [Value.int IntKind.i64 0, Value.int
  IntKind.i64 0, Value.int IntKind.i64 0] 3 :: Own.blk k454 [Value.bool false, Value.bool false, Value.bool false] 4 :: R19 ++ R661) Φ20 → ∃ (p662 : Option Addr), ∃ (k663 : Nat), ∃ (k664 :
  Nat), ∃ (w665 : World), Sem.run Try.prog (builtin Builtin.append #[35, 35] 35 #[false, false] #[Value.slice (some (Addr.mk k636 0 none)) 0 0, Value.slice logP logN logC]) w660 = Result.ok
  (Next.value (Value.slice p662 k663 k664)) w665 ∧ ∃ (R666 : List Own), ∃ (Φ667 : PW), Stable Φ667 ∧ Ctx W w665 (R666 ++ R661) Φ667 ∧ (∀ (w668 : World) (R669 : List Own), Ctx W w668 (R666 ++
  R669) Φ667 → Ctx W w668 (R23 ++ R669) Φ24) ∧ (∀ (k670 : Nat), (∀ (w671 : World) (R672 : List Own), Ctx W w671 (Own.blk k670 [Value.int IntKind.i64 id, Value.int IntKind.i64 h0, Value.int
  IntKind.i64 h1, Value.slice p662 k663 k664, Value.int IntKind.i64 0, Value.int IntKind.i64 0, Value.slice (some (Addr.mk k454 0 none)) 3 3, Value.slice (some (Addr.mk k657 0 none)) 3 3,
  Value.slice (some (Addr.mk k633 0 none)) 3 3] 67 :: R666 ++ R672) Φ667 → Ctx W w671 (R23 ++ R672) Φ24) ∧ ∀ (w673 : World) (R674 : List Own), Ctx W w673 (Own.blk k670 [Value.int IntKind.i64
  id, Value.int IntKind.i64 h0, Value.int IntKind.i64 h1, Value.slice p662 k663 k664, Value.int IntKind.i64 0, Value.int IntKind.i64 0, Value.slice (some (Addr.mk k454 0 none)) 3 3,
  Value.slice (some (Addr.mk k657 0 none)) 3 3, Value.slice (some (Addr.mk k633 0 none)) 3 3] 67 :: R666 ++ R674) Φ667 → J (Value.pointer (some (Addr.mk k670 0 none))) w673) ∧ True) ∧ True) ∧
  True) ∧ (((0 : Int) ≤ 3 ∧ (3 : Int) ≤ 3 ∧ (24 : Int) ≤ 281474976710656 ∧ (3 : Int) ≤ 9223372036854775807) ∧ ∀ (k675 : Nat), (∀ (w676 : World) (R677 : List Own), Ctx W w676 (Own.blk k675
  [Value.int IntKind.i64 0, Value.int IntKind.i64 0, Value.int IntKind.i64 0] 3 :: Own.blk k633 [Value.int IntKind.i64 0, Value.int IntKind.i64 0, Value.int IntKind.i64 0] 3 :: Own.blk k454
  [Value.bool false, Value.bool false, Value.bool false] 4 :: R19 ++ R677) Φ20 → Ctx W w676 (R23 ++ R677) Φ24) ∧ (∀ (k678 : Nat), (∀ (w679 : World) (R680 : List Own), Ctx W w679 (Own.blk k678
  [] 55 :: Own.blk k675 [Value.int IntKind.i64 0, Value.int IntKind.i64 0, Value.int IntKind.i64 0] 3 :: Own.blk k633 [Value.int IntKind.i64 0, Value.int IntKind.i64 0, Value.int IntKind.i64
  0] 3 :: Own.blk k454 [Value.bool false, Value.bool false, Value.bool false] 4 :: R19 ++ R680) Φ20 → Ctx W w679 (R23 ++ R680) Φ24) ∧ (∀ (w681 : World) (R682 : List Own), Ctx W w681 (Own.blk
  k678 [] 55 :: Own.blk k675 [Value.int IntKind.i64 0, Value.int IntKind.i64 0, Value.int IntKind.i64 0] 3 :: Own.blk k633 [Value.int IntKind.i64 0, Value.int IntKind.i64 0, Value.int
  IntKind.i64 0] 3 :: Own.blk k454 [Value.bool false, Value.bool false, Value.bool false] 4 :: R19 ++ R682) Φ20 → ∃ (p683 : Option Addr), ∃ (k684 : Nat), ∃ (k685 : Nat), ∃ (w686 : World),
  Sem.run Try.prog (builtin Builtin.append #[35, 35] 35 #[false, false] #[Value.slice (some (Addr.mk k678 0 none)) 0 0, Value.slice logP logN logC]) w681 = Result.ok (Next.value (Value.slice
  p683 k684 k685)) w686 ∧ ∃ (R687 : List Own), ∃ (Φ688 : PW), Stable Φ688 ∧ Ctx W w686 (R687 ++ R682) Φ688 ∧ (∀ (w689 : World) (R690 : List Own), Ctx W w689 (R687 ++ R690) Φ688 → Ctx W w689
  (R23 ++ R690) Φ24) ∧ (∀ (k691 : Nat), (∀ (w692 : World) (R693 : List Own), Ctx W w692 (Own.blk k691 [Value.int IntKind.i64 id, Value.int IntKind.i64 h0, Value.int IntKind.i64 h1,
  Value.slice p683 k684 k685, Value.int IntKind.i64 0, Value.int IntKind.i64 0, Value.slice (some (Addr.mk k454 0 none)) 3 3, Value.slice (some (Addr.mk k675 0 none)) 3 3, Value.slice (some
  (Addr.mk k633 0 none)) 3 3] 67 :: R687 ++ R693) Φ688 → Ctx W w692 (R23 ++ R693) Φ24) ∧ ∀ (w694 : World) (R695 : List Own), Ctx W w694 (Own.blk k691 [Value.int IntKind.i64 id, Value.int
  IntKind.i64 h0, Value.int IntKind.i64 h1, Value.slice p683 k684 k685, Value.int IntKind.i64 0, Value.int IntKind.i64 0, Value.slice (some (Addr.mk k454 0 none)) 3 3, Value.slice (some
  (Addr.mk k675 0 none)) 3 3, Value.slice (some (Addr.mk k633 0 none)) 3 3] 67 :: R687 ++ R695) Φ688 → J (Value.pointer (some (Addr.mk k691 0 none))) w694) ∧ True) ∧ True) ∧ True) ∧ True) ∧
  True) ∧ (((0 : Int) ≤ 3 ∧ (3 : Int) ≤ 3 ∧ (24 : Int) ≤ 281474976710656 ∧ (3 : Int) ≤ 9223372036854775807) ∧ ∀ (k696 : Nat), (∀ (w697 : World) (R698 : List Own), Ctx W w697 (Own.blk k696
  [Value.int IntKind.i64 0, Value.int IntKind.i64 0, Value.int IntKind.i64 0] 3 :: R19 ++ R698) Φ20 → Ctx W w697 (R23 ++ R698) Φ24) ∧ (∀ (k699 : Nat), (∀ (w700 : World) (R701 : List Own), Ctx
  W w700 (Own.blk k699 [] 55 :: Own.blk k696 [Value.int IntKind.i64 0, Value.int IntKind.i64 0, Value.int IntKind.i64 0] 3 :: R19 ++ R701) Φ20 → Ctx W w700 (R23 ++ R701) Φ24) ∧ (∀ (w702 :
  World) (R703 : List Own), Ctx W w702 (Own.blk k699 [] 55 :: Own.blk k696 [Value.int IntKind.i64 0, Value.int IntKind.i64 0, Value.int IntKind.i64 0] 3 :: R19 ++ R703) Φ20 → ∃ (p704 : Option
  Addr), ∃ (k705 : Nat), ∃ (k706 : Nat), ∃ (w707 : World), Sem.run Try.prog (builtin Builtin.append #[35, 35] 35 #[false, false] #[Value.slice (some (Addr.mk k699 0 none)) 0 0, Value.slice
  logP logN logC]) w702 = Result.ok (Next.value (Value.slice p704 k705 k706)) w707 ∧ ∃ (R708 : List Own), ∃ (Φ709 : PW), Stable Φ709 ∧ Ctx W w707 (R708 ++ R703) Φ709 ∧ (∀ (w710 : World) (R711
  : List Own), Ctx W w710 (R708 ++ R711) Φ709 → Ctx W w710 (R23 ++ R711) Φ24) ∧ (((0 : Int) ≤ 3 ∧ (3 : Int) ≤ 3 ∧ (3 : Int) ≤ 281474976710656 ∧ (3 : Int) ≤ 9223372036854775807) ∧ ∀ (k712 :
  Nat), (∀ (w713 : World) (R714 : List Own), Ctx W w713 (Own.blk k712 [Value.bool false, Value.bool false, Value.bool false] 4 :: R708 ++ R714) Φ709 → Ctx W w713 (R23 ++ R714) Φ24) ∧ (((0 :
  Int) ≤ 3 ∧ (3 : Int) ≤ 3 ∧ (24 : Int) ≤ 281474976710656 ∧ (3 : Int) ≤ 9223372036854775807) ∧ ∀ (k715 : Nat), (∀ (w716 : World) (R717 : List Own), Ctx W w716 (Own.blk k715 [Value.int
  IntKind.i64 0, Value.int IntKind.i64 0, Value.int IntKind.i64 0] 3 :: Own.blk k712 [Value.bool false, Value.bool false, Value.bool false] 4 :: R708 ++ R717) Φ709 → Ctx W w716 (R23 ++ R717)
  Φ24) ∧ (∀ (k718 : Nat), (∀ (w719 : World) (R720 : List Own), Ctx W w719 (Own.blk k718 [Value.int IntKind.i64 id, Value.int IntKind.i64 h0, Value.int IntKind.i64 h1, Value.slice p704 k705
  k706, Value.int IntKind.i64 0, Value.int IntKind.i64 0, Value.slice (some (Addr.mk k712 0 none)) 3 3, Value.slice (some (Addr.mk k696 0 none)) 3 3, Value.slice (some (Addr.mk k715 0 none))
  3 3] 67 :: Own.blk k715 [Value.int IntKind.i64 0, Value.int IntKind.i64 0, Value.int IntKind.i64 0] 3 :: Own.blk k712 [Value.bool false, Value.bool false, Value.bool false] 4 :: R708 ++
  R720) Φ709 → Ctx W w719 (R23 ++ R720) Φ24) ∧ ∀ (w721 : World) (R722 : List Own), Ctx W w721 (Own.blk k718 [Value.int IntKind.i64 id, Value.int IntKind.i64 h0, Value.int IntKind.i64 h1,
  Value.slice p704 k705 k706, Value.int IntKind.i64 0, Value.int IntKind.i64 0, Value.slice (some (Addr.mk k712 0 none)) 3 3, Value.slice (some (Addr.mk k696 0 none)) 3 3, Value.slice (some
  (Addr.mk k715 0 none)) 3 3] 67 :: Own.blk k715 [Value.int IntKind.i64 0, Value.int IntKind.i64 0, Value.int IntKind.i64 0] 3 :: Own.blk k712 [Value.bool false, Value.bool false, Value.bool
  false] 4 :: R708 ++ R722) Φ709 → J (Value.pointer (some (Addr.mk k718 0 none))) w721) ∧ True) ∧ True) ∧ (((0 : Int) ≤ 3 ∧ (3 : Int) ≤ 3 ∧ (24 : Int) ≤ 281474976710656 ∧ (3 : Int) ≤
  9223372036854775807) ∧ ∀ (k723 : Nat), (∀ (w724 : World) (R725 : List Own), Ctx W w724 (Own.blk k723 [Value.int IntKind.i64 0, Value.int IntKind.i64 0, Value.int IntKind.i64 0] 3 :: R708 ++
  R725) Φ709 → Ctx W w724 (R23 ++ R725) Φ24) ∧ (((0 : Int) ≤ 3 ∧ (3 : Int) ≤ 3 ∧ (3 : Int) ≤ 281474976710656 ∧ (3 : Int) ≤ 9223372036854775807) ∧ ∀ (k726 : Nat), (∀ (w727 : World) (R728 :
  List Own), Ctx W w727 (Own.blk k726 [Value.bool false, Value.bool false, Value.bool false] 4 :: Own.blk k723 [Value.int IntKind.i64 0, Value.int IntKind.i64 0, Value.int IntKind.i64 0] 3 ::
  R708 ++ R728) Φ709 → Ctx W w727 (R23 ++ R728) Φ24) ∧ (∀ (k729 : Nat), (∀ (w730 : World) (R731 : List Own), Ctx W w730 (Own.blk k729 [Value.int IntKind.i64 id, Value.int IntKind.i64 h0,
  Value.int IntKind.i64 h1, Value.slice p704 k705 k706, Value.int IntKind.i64 0, Value.int IntKind.i64 0, Value.slice (some (Addr.mk k726 0 none)) 3 3, Value.slice (some (Addr.mk k696 0
  none)) 3 3, Value.slice (some (Addr.mk k723 0 none)) 3 3] 67 :: Own.blk k726 [Value.bool false, Value.bool false, Value.bool false] 4 :: Own.blk k723 [Value.int IntKind.i64 0, Value.int
  IntKind.i64 0, Value.int IntKind.i64 0] 3 :: R708 ++ R731) Φ709 → Ctx W w730 (R23 ++ R731) Φ24) ∧ ∀ (w732 : World) (R733 : List Own), Ctx W w732 (Own.blk k729 [Value.int IntKind.i64 id,
  Value.int IntKind.i64 h0, Value.int IntKind.i64 h1, Value.slice p704 k705 k706, Value.int IntKind.i64 0, Value.int IntKind.i64 0, Value.slice (some (Addr.mk k726 0 none)) 3 3, Value.slice
  (some (Addr.mk k696 0 none)) 3 3, Value.slice (some (Addr.mk k723 0 none)) 3 3] 67 :: Own.blk k726 [Value.bool false, Value.bool false, Value.bool false] 4 :: Own.blk k723 [Value.int
  IntKind.i64 0, Value.int IntKind.i64 0, Value.int IntKind.i64 0] 3 :: R708 ++ R733) Φ709 → J (Value.pointer (some (Addr.mk k729 0 none))) w732) ∧ True) ∧ True) ∧ True) ∧ (((0 : Int) ≤ 3 ∧
  (3 : Int) ≤ 3 ∧ (3 : Int) ≤ 281474976710656 ∧ (3 : Int) ≤ 9223372036854775807) ∧ ∀ (k734 : Nat), (∀ (w735 : World) (R736 : List Own), Ctx W w735 (Own.blk k734 [Value.bool false, Value.bool
  false, Value.bool false] 4 :: Own.blk k699 [] 55 :: Own.blk k696 [Value.int IntKind.i64 0, Value.int IntKind.i64 0, Value.int IntKind.i64 0] 3 :: R19 ++ R736) Φ20 → Ctx W w735 (R23 ++ R736)
  Φ24) ∧ (∀ (w737 : World) (R738 : List Own), Ctx W w737 (Own.blk k734 [Value.bool false, Value.bool false, Value.bool false] 4 :: Own.blk k699 [] 55 :: Own.blk k696 [Value.int IntKind.i64 0,
  Value.int IntKind.i64 0, Value.int IntKind.i64 0] 3 :: R19 ++ R738) Φ20 → ∃ (p739 : Option Addr), ∃ (k740 : Nat), ∃ (k741 : Nat), ∃ (w742 : World), Sem.run Try.prog (builtin Builtin.append
  #[35, 35] 35 #[false, false] #[Value.slice (some (Addr.mk k699 0 none)) 0 0, Value.slice logP logN logC]) w737 = Result.ok (Next.value (Value.slice p739 k740 k741)) w742 ∧ ∃ (R743 : List
  Own), ∃ (Φ744 : PW), Stable Φ744 ∧ Ctx W w742 (R743 ++ R738) Φ744 ∧ (∀ (w745 : World) (R746 : List Own), Ctx W w745 (R743 ++ R746) Φ744 → Ctx W w745 (R23 ++ R746) Φ24) ∧ (((0 : Int) ≤ 3 ∧
  (3 : Int) ≤ 3 ∧ (24 : Int) ≤ 281474976710656 ∧ (3 : Int) ≤ 9223372036854775807) ∧ ∀ (k747 : Nat), (∀ (w748 : World) (R749 : List Own), Ctx W w748 (Own.blk k747 [Value.int IntKind.i64 0,
  Value.int IntKind.i64 0, Value.int IntKind.i64 0] 3 :: R743 ++ R749) Φ744 → Ctx W w748 (R23 ++ R749) Φ24) ∧ (∀ (k750 : Nat), (∀ (w751 : World) (R752 : List Own), Ctx W w751 (Own.blk k750
  [Value.int IntKind.i64 id, Value.int IntKind.i64 h0, Value.int IntKind.i64 h1, Value.slice p739 k740 k741, Value.int IntKind.i64 0, Value.int IntKind.i64 0, Value.slice (some (Addr.mk k734
  0 none)) 3 3, Value.slice (some (Addr.mk k696 0 none)) 3 3, Value.slice (some (Addr.mk k747 0 none)) 3 3] 67 :: Own.blk k747 [Value.int IntKind.i64 0, Value.int IntKind.i64 0, Value.int
  IntKind.i64 0] 3 :: R743 ++ R752) Φ744 → Ctx W w751 (R23 ++ R752) Φ24) ∧ ∀ (w753 : World) (R754 : List Own), Ctx W w753 (Own.blk k750 [Value.int IntKind.i64 id, Value.int IntKind.i64 h0,
  Value.int IntKind.i64 h1, Value.slice p739 k740 k741, Value.int IntKind.i64 0, Value.int IntKind.i64 0, Value.slice (some (Addr.mk k734 0 none)) 3 3, Value.slice (some (Addr.mk k696 0
  none)) 3 3, Value.slice (some (Addr.mk k747 0 none)) 3 3] 67 :: Own.blk k747 [Value.int IntKind.i64 0, Value.int IntKind.i64 0, Value.int IntKind.i64 0] 3 :: R743 ++ R754) Φ744 → J
  (Value.pointer (some (Addr.mk k750 0 none))) w753) ∧ True) ∧ True) ∧ (((0 : Int) ≤ 3 ∧ (3 : Int) ≤ 3 ∧ (24 : Int) ≤ 281474976710656 ∧ (3 : Int) ≤ 9223372036854775807) ∧ ∀ (k755 : Nat), (∀
  (w756 : World) (R757 : List Own), Ctx W w756 (Own.blk k755 [Value.int IntKind.i64 0, Value.int IntKind.i64 0, Value.int IntKind.i64 0] 3 :: Own.blk k734 [Value.bool false, Value.bool false,
  Value.bool false] 4 :: Own.blk k699 [] 55 :: Own.blk k696 [Value.int IntKind.i64 0, Value.int IntKind.i64 0, Value.int IntKind.i64 0] 3 :: R19 ++ R757) Φ20 → Ctx W w756 (R23 ++ R757) Φ24) ∧
  (∀ (w758 : World) (R759 : List Own), Ctx W w758 (Own.blk k755 [Value.int IntKind.i64 0, Value.int IntKind.i64 0, Value.int IntKind.i64 0] 3 :: Own.blk k734 [Value.bool false, Value.bool
  false, Value.bool false] 4 :: Own.blk k699 [] 55 :: Own.blk k696 [Value.int IntKind.i64 0, Value.int IntKind.i64 0, Value.int IntKind.i64 0] 3 :: R19 ++ R759) Φ20 → ∃ (p760 : Option Addr),
  ∃ (k761 : Nat), ∃ (k762 : Nat), ∃ (w763 : World), Sem.run Try.prog (builtin Builtin.append #[35, 35] 35 #[false, false] #[Value.slice (some (Addr.mk k699 0 none)) 0 0, Value.slice logP logN
  logC]) w758 = Result.ok (Next.value (Value.slice p760 k761 k762)) w763 ∧ ∃ (R764 : List Own), ∃ (Φ765 : PW), Stable Φ765 ∧ Ctx W w763 (R764 ++ R759) Φ765 ∧ (∀ (w766 : World) (R767 : List
  Own), Ctx W w766 (R764 ++ R767) Φ765 → Ctx W w766 (R23 ++ R767) Φ24) ∧ (∀ (k768 : Nat), (∀ (w769 : World) (R770 : List Own), Ctx W w769 (Own.blk k768 [Value.int IntKind.i64 id, Value.int
  IntKind.i64 h0, Value.int IntKind.i64 h1, Value.slice p760 k761 k762, Value.int IntKind.i64 0, Value.int IntKind.i64 0, Value.slice (some (Addr.mk k734 0 none)) 3 3, Value.slice (some
  (Addr.mk k696 0 none)) 3 3, Value.slice (some (Addr.mk k755 0 none)) 3 3] 67 :: R764 ++ R770) Φ765 → Ctx W w769 (R23 ++ R770) Φ24) ∧ ∀ (w771 : World) (R772 : List Own), Ctx W w771 (Own.blk
  k768 [Value.int IntKind.i64 id, Value.int IntKind.i64 h0, Value.int IntKind.i64 h1, Value.slice p760 k761 k762, Value.int IntKind.i64 0, Value.int IntKind.i64 0, Value.slice (some (Addr.mk
  k734 0 none)) 3 3, Value.slice (some (Addr.mk k696 0 none)) 3 3, Value.slice (some (Addr.mk k755 0 none)) 3 3] 67 :: R764 ++ R772) Φ765 → J (Value.pointer (some (Addr.mk k768 0 none)))
  w771) ∧ True) ∧ True) ∧ True) ∧ (((0 : Int) ≤ 3 ∧ (3 : Int) ≤ 3 ∧ (24 : Int) ≤ 281474976710656 ∧ (3 : Int) ≤ 9223372036854775807) ∧ ∀ (k773 : Nat), (∀ (w774 : World) (R775 : List Own), Ctx
  W w774 (Own.blk k773 [Value.int IntKind.i64 0, Value.int IntKind.i64 0, Value.int IntKind.i64 0] 3 :: Own.blk k699 [] 55 :: Own.blk k696 [Value.int IntKind.i64 0, Value.int IntKind.i64 0,
  Value.int IntKind.i64 0] 3 :: R19 ++ R775) Φ20 → Ctx W w774 (R23 ++ R775) Φ24) ∧ (∀ (w776 : World) (R777 : List Own), Ctx W w776 (Own.blk k773 [Value.int IntKind.i64 0, Value.int
  IntKind.i64 0, Value.int IntKind.i64 0] 3 :: Own.blk k699 [] 55 :: Own.blk k696 [Value.int IntKind.i64 0, Value.int IntKind.i64 0, Value.int IntKind.i64 0] 3 :: R19 ++ R777) Φ20 → ∃ (p778 :
  Option Addr), ∃ (k779 : Nat), ∃ (k780 : Nat), ∃ (w781 : World), Sem.run Try.prog (builtin Builtin.append #[35, 35] 35 #[false, false] #[Value.slice (some (Addr.mk k699 0 none)) 0 0,
  Value.slice logP logN logC]) w776 = Result.ok (Next.value (Value.slice p778 k779 k780)) w781 ∧ ∃ (R782 : List Own), ∃ (Φ783 : PW), Stable Φ783 ∧ Ctx W w781 (R782 ++ R777) Φ783 ∧ (∀ (w784 :
  World) (R785 : List Own), Ctx W w784 (R782 ++ R785) Φ783 → Ctx W w784 (R23 ++ R785) Φ24) ∧ (((0 : Int) ≤ 3 ∧ (3 : Int) ≤ 3 ∧ (3 : Int) ≤ 281474976710656 ∧ (3 : Int) ≤ 9223372036854775807) ∧
  ∀ (k786 : Nat), (∀ (w787 : World) (R788 : List Own), Ctx W w787 (Own.blk k786 [Value.bool false, Value.bool false, Value.bool false] 4 :: R782 ++ R788) Φ783 → Ctx W w787 (R23 ++ R788) Φ24)
  ∧ (∀ (k789 : Nat), (∀ (w790 : World) (R791 : List Own), Ctx W w790 (Own.blk k789 [Value.int IntKind.i64 id, Value.int IntKind.i64 h0, Value.int IntKind.i64 h1, Value.slice p778 k779 k780,
  Value.int IntKind.i64 0, Value.int IntKind.i64 0, Value.slice (some (Addr.mk k786 0 none)) 3 3, Value.slice (some (Addr.mk k696 0 none)) 3 3, Value.slice (some (Addr.mk k773 0 none)) 3 3]
  67 :: Own.blk k786 [Value.bool false, Value.bool false, Value.bool false] 4 :: R782 ++ R791) Φ783 → Ctx W w790 (R23 ++ R791) Φ24) ∧ ∀ (w792 : World) (R793 : List Own), Ctx W w792 (Own.blk
  k789 [Value.int IntKind.i64 id, Value.int IntKind.i64 h0, Value.int IntKind.i64 h1, Value.slice p778 k779 k780, Value.int IntKind.i64 0, Value.int IntKind.i64 0, Value.slice (some (Addr.mk
  k786 0 none)) 3 3, Value.slice (some (Addr.mk k696 0 none)) 3 3, Value.slice (some (Addr.mk k773 0 none)) 3 3] 67 :: Own.blk k786 [Value.bool false, Value.bool false, Value.bool false] 4 ::
  R782 ++ R793) Φ783 → J (Value.pointer (some (Addr.mk k789 0 none))) w792) ∧ True) ∧ True) ∧ (((0 : Int) ≤ 3 ∧ (3 : Int) ≤ 3 ∧ (3 : Int) ≤ 281474976710656 ∧ (3 : Int) ≤ 9223372036854775807)
  ∧ ∀ (k794 : Nat), (∀ (w795 : World) (R796 : List Own), Ctx W w795 (Own.blk k794 [Value.bool false, Value.bool false, Value.bool false] 4 :: Own.blk k773 [Value.int IntKind.i64 0, Value.int
  IntKind.i64 0, Value.int IntKind.i64 0] 3 :: Own.blk k699 [] 55 :: Own.blk k696 [Value.int IntKind.i64 0, Value.int IntKind.i64 0, Value.int IntKind.i64 0] 3 :: R19 ++ R796) Φ20 → Ctx W
  w795 (R23 ++ R796) Φ24) ∧ (∀ (w797 : World) (R798 : List Own), Ctx W w797 (Own.blk k794 [Value.bool false, Value.bool false, Value.bool false] 4 :: Own.blk k773 [Value.int IntKind.i64 0,
  Value.int IntKind.i64 0, Value.int IntKind.i64 0] 3 :: Own.blk k699 [] 55 :: Own.blk k696 [Value.int IntKind.i64 0, Value.int IntKind.i64 0, Value.int IntKind.i64 0] 3 :: R19 ++ R798) Φ20 →
  ∃ (p799 : Option Addr), ∃ (k800 : Nat), ∃ (k801 : Nat), ∃ (w802 : World), Sem.run Try.prog (builtin Builtin.append #[35, 35] 35 #[false, false] #[Value.slice (some (Addr.mk k699 0 none)) 0
  0, Value.slice logP logN logC]) w797 = Result.ok (Next.value (Value.slice p799 k800 k801)) w802 ∧ ∃ (R803 : List Own), ∃ (Φ804 : PW), Stable Φ804 ∧ Ctx W w802 (R803 ++ R798) Φ804 ∧ (∀ (w805
  : World) (R806 : List Own), Ctx W w805 (R803 ++ R806) Φ804 → Ctx W w805 (R23 ++ R806) Φ24) ∧ (∀ (k807 : Nat), (∀ (w808 : World) (R809 : List Own), Ctx W w808 (Own.blk k807 [Value.int
  IntKind.i64 id, Value.int IntKind.i64 h0, Value.int IntKind.i64 h1, Value.slice p799 k800 k801, Value.int IntKind.i64 0, Value.int IntKind.i64 0, Value.slice (some (Addr.mk k794 0 none)) 3
  3, Value.slice (some (Addr.mk k696 0 none)) 3 3, Value.slice (some (Addr.mk k773 0 none)) 3 3] 67 :: R803 ++ R809) Φ804 → Ctx W w808 (R23 ++ R809) Φ24) ∧ ∀ (w810 : World) (R811 : List Own),
  Ctx W w810 (Own.blk k807 [Value.int IntKind.i64 id, Value.int IntKind.i64 h0, Value.int IntKind.i64 h1, Value.slice p799 k800 k801, Value.int IntKind.i64 0, Value.int IntKind.i64 0,
  Value.slice (some (Addr.mk k794 0 none)) 3 3, Value.slice (some (Addr.mk k696 0 none)) 3 3, Value.slice (some (Addr.mk k773 0 none)) 3 3] 67 :: R803 ++ R811) Φ804 → J (Value.pointer (some
  (Addr.mk k807 0 none))) w810) ∧ True) ∧ True) ∧ True) ∧ True) ∧ (((0 : Int) ≤ 3 ∧ (3 : Int) ≤ 3 ∧ (3 : Int) ≤ 281474976710656 ∧ (3 : Int) ≤ 9223372036854775807) ∧ ∀ (k812 : Nat), (∀ (w813 :
  World) (R814 : List Own), Ctx W w813 (Own.blk k812 [Value.bool false, Value.bool false, Value.bool false] 4 :: Own.blk k696 [Value.int IntKind.i64 0, Value.int IntKind.i64 0, Value.int
  IntKind.i64 0] 3 :: R19 ++ R814) Φ20 → Ctx W w813 (R23 ++ R814) Φ24) ∧ (∀ (k815 : Nat), (∀ (w816 : World) (R817 : List Own), Ctx W w816 (Own.blk k815 [] 55 :: Own.blk k812 [Value.bool
  false, Value.bool false, Value.bool false] 4 :: Own.blk k696 [Value.int IntKind.i64 0, Value.int IntKind.i64 0, Value.int IntKind.i64 0] 3 :: R19 ++ R817) Φ20 → Ctx W w816 (R23 ++ R817)
  Φ24) ∧ (∀ (w818 : World) (R819 : List Own), Ctx W w818 (Own.blk k815 [] 55 :: Own.blk k812 [Value.bool false, Value.bool false, Value.bool false] 4 :: Own.blk k696 [Value.int IntKind.i64 0,
  Value.int IntKind.i64 0, Value.int IntKind.i64 0] 3 :: R19 ++ R819) Φ20 → ∃ (p820 : Option Addr), ∃ (k821 : Nat), ∃ (k822 : Nat), ∃ (w823 : World), Sem.run Try.prog (builtin Builtin.append
  #[35, 35] 35 #[false, false] #[Value.slice (some (Addr.mk k815 0 none)) 0 0, Value.slice logP logN logC]) w818 = Result.ok (Next.value (Value.slice p820 k821 k822)) w823 ∧ ∃ (R824 : List
  Own), ∃ (Φ825 : PW), Stable Φ825 ∧ Ctx W w823 (R824 ++ R819) Φ825 ∧ (∀ (w826 : World) (R827 : List Own), Ctx W w826 (R824 ++ R827) Φ825 → Ctx W w826 (R23 ++ R827) Φ24) ∧ (((0 : Int) ≤ 3 ∧
  (3 : Int) ≤ 3 ∧ (24 : Int) ≤ 281474976710656 ∧ (3 : Int) ≤ 9223372036854775807) ∧ ∀ (k828 : Nat), (∀ (w829 : World) (R830 : List Own), Ctx W w829 (Own.blk k828 [Value.int IntKind.i64 0,
  Value.int IntKind.i64 0, Value.int IntKind.i64 0] 3 :: R824 ++ R830) Φ825 → Ctx W w829 (R23 ++ R830) Φ24) ∧ (∀ (k831 : Nat), (∀ (w832 : World) (R833 : List Own), Ctx W w832 (Own.blk k831
  [Value.int IntKind.i64 id, Value.int IntKind.i64 h0, Value.int IntKind.i64 h1, Value.slice p820 k821 k822, Value.int IntKind.i64 0, Value.int IntKind.i64 0, Value.slice (some (Addr.mk k812
  0 none)) 3 3, Value.slice (some (Addr.mk k696 0 none)) 3 3, Value.slice (some (Addr.mk k828 0 none)) 3 3] 67 :: Own.blk k828 [Value.int IntKind.i64 0, Value.int IntKind.i64 0, Value.int
  IntKind.i64 0] 3 :: R824 ++ R833) Φ825 → Ctx W w832 (R23 ++ R833) Φ24) ∧ ∀ (w834 : World) (R835 : List Own), Ctx W w834 (Own.blk k831 [Value.int IntKind.i64 id, Value.int IntKind.i64 h0,
  Value.int IntKind.i64 h1, Value.slice p820 k821 k822, Value.int IntKind.i64 0, Value.int IntKind.i64 0, Value.slice (some (Addr.mk k812 0 none)) 3 3, Value.slice (some (Addr.mk k696 0
  none)) 3 3, Value.slice (some (Addr.mk k828 0 none)) 3 3] 67 :: Own.blk k828 [Value.int IntKind.i64 0, Value.int IntKind.i64 0, Value.int IntKind.i64 0] 3 :: R824 ++ R835) Φ825 → J
  (Value.pointer (some (Addr.mk k831 0 none))) w834) ∧ True) ∧ True) ∧ (((0 : Int) ≤ 3 ∧ (3 : Int) ≤ 3 ∧ (24 : Int) ≤ 281474976710656 ∧ (3 : Int) ≤ 9223372036854775807) ∧ ∀ (k836 : Nat), (∀
  (w837 : World) (R838 : List Own), Ctx W w837 (Own.blk k836 [Value.int IntKind.i64 0, Value.int IntKind.i64 0, Value.int IntKind.i64 0] 3 :: Own.blk k815 [] 55 :: Own.blk k812 [Value.bool
  false, Value.bool false, Value.bool false] 4 :: Own.blk k696 [Value.int IntKind.i64 0, Value.int IntKind.i64 0, Value.int IntKind.i64 0] 3 :: R19 ++ R838) Φ20 → Ctx W w837 (R23 ++ R838)
  Φ24) ∧ (∀ (w839 : World) (R840 : List Own), Ctx W w839 (Own.blk k836 [Value.int IntKind.i64 0, Value.int IntKind.i64 0, Value.int IntKind.i64 0] 3 :: Own.blk k815 [] 55 :: Own.blk k812
  [Value.bool false, Value.bool false, Value.bool false] 4 :: Own.blk k696 [Value.int IntKind.i64 0, Value.int IntKind.i64 0, Value.int IntKind.i64 0] 3 :: R19 ++ R840) Φ20 → ∃ (p841 : Option
  Addr), ∃ (k842 : Nat), ∃ (k843 : Nat), ∃ (w844 : World), Sem.run Try.prog (builtin Builtin.append #[35, 35] 35 #[false, false] #[Value.slice (some (Addr.mk k815 0 none)) 0 0, Value.slice
  logP logN logC]) w839 = Result.ok (Next.value (Value.slice p841 k842 k843)) w844 ∧ ∃ (R845 : List Own), ∃ (Φ846 : PW), Stable Φ846 ∧ Ctx W w844 (R845 ++ R840) Φ846 ∧ (∀ (w847 : World) (R848
  : List Own), Ctx W w847 (R845 ++ R848) Φ846 → Ctx W w847 (R23 ++ R848) Φ24) ∧ (∀ (k849 : Nat), (∀ (w850 : World) (R851 : List Own), Ctx W w850 (Own.blk k849 [Value.int IntKind.i64 id,
  Value.int IntKind.i64 h0, Value.int IntKind.i64 h1, Value.slice p841 k842 k843, Value.int IntKind.i64 0, Value.int IntKind.i64 0, Value.slice (some (Addr.mk k812 0 none)) 3 3, Value.slice
  (some (Addr.mk k696 0 none)) 3 3, Value.slice (some (Addr.mk k836 0 none)) 3 3] 67 :: R845 ++ R851) Φ846 → Ctx W w850 (R23 ++ R851) Φ24) ∧ ∀ (w852 : World) (R853 : List Own), Ctx W w852
  (Own.blk k849 [Value.int IntKind.i64 id, Value.int IntKind.i64 h0, Value.int IntKind.i64 h1, Value.slice p841 k842 k843, Value.int IntKind.i64 0, Value.int IntKind.i64 0, Value.slice (some
  (Addr.mk k812 0 none)) 3 3, Value.slice (some (Addr.mk k696 0 none)) 3 3, Value.slice (some (Addr.mk k836 0 none)) 3 3] 67 :: R845 ++ R853) Φ846 → J (Value.pointer (some (Addr.mk k849 0
  none))) w852) ∧ True) ∧ True) ∧ True) ∧ (((0 : Int) ≤ 3 ∧ (3 : Int) ≤ 3 ∧ (24 : Int) ≤ 281474976710656 ∧ (3 : Int) ≤ 9223372036854775807) ∧ ∀ (k854 : Nat), (∀ (w855 : World) (R856 : List
  Own), Ctx W w855 (Own.blk k854 [Value.int IntKind.i64 0, Value.int IntKind.i64 0, Value.int IntKind.i64 0] 3 :: Own.blk k812 [Value.bool false, Value.bool false, Value.bool false] 4 ::
  Own.blk k696 [Value.int IntKind.i64 0, Value.int IntKind.i64 0, Value.int IntKind.i64 0] 3 :: R19 ++ R856) Φ20 → Ctx W w855 (R23 ++ R856) Φ24) ∧ (∀ (k857 : Nat), (∀ (w858 : World) (R859 :
  List Own), Ctx W w858 (Own.blk k857 [] 55 :: Own.blk k854 [Value.int IntKind.i64 0, Value.int IntKind.i64 0, Value.int IntKind.i64 0] 3 :: Own.blk k812 [Value.bool false, Value.bool false,
  Value.bool false] 4 :: Own.blk k696 [Value.int IntKind.i64 0, Value.int IntKind.i64 0, Value.int IntKind.i64 0] 3 :: R19 ++ R859) Φ20 → Ctx W w858 (R23 ++ R859) Φ24) ∧ (∀ (w860 : World)
  (R861 : List Own), Ctx W w860 (Own.blk k857 [] 55 :: Own.blk k854 [Value.int IntKind.i64 0, Value.int IntKind.i64 0, Value.int IntKind.i64 0] 3 :: Own.blk k812 [Value.bool false, Value.bool
  false, Value.bool false] 4 :: Own.blk k696 [Value.int IntKind.i64 0, Value.int IntKind.i64 0, Value.int IntKind.i64 0] 3 :: R19 ++ R861) Φ20 → ∃ (p862 : Option Addr), ∃ (k863 : Nat), ∃
  (k864 : Nat), ∃ (w865 : World), Sem.run Try.prog (builtin Builtin.append #[35, 35] 35 #[false, false] #[Value.slice (some (Addr.mk k857 0 none)) 0 0, Value.slice logP logN logC]) w860 =
  Result.ok (Next.value (Value.slice p862 k863 k864)) w865 ∧ ∃ (R866 : List Own), ∃ (Φ867 : PW), Stable Φ867 ∧ Ctx W w865 (R866 ++ R861) Φ867 ∧ (∀ (w868 : World) (R869 : List Own), Ctx W w868
  (R866 ++ R869) Φ867 → Ctx W w868 (R23 ++ R869) Φ24) ∧ (∀ (k870 : Nat), (∀ (w871 : World) (R872 : List Own), Ctx W w871 (Own.blk k870 [Value.int IntKind.i64 id, Value.int IntKind.i64 h0,
  Value.int IntKind.i64 h1, Value.slice p862 k863 k864, Value.int IntKind.i64 0, Value.int IntKind.i64 0, Value.slice (some (Addr.mk k812 0 none)) 3 3, Value.slice (some (Addr.mk k696 0
  none)) 3 3, Value.slice (some (Addr.mk k854 0 none)) 3 3] 67 :: R866 ++ R872) Φ867 → Ctx W w871 (R23 ++ R872) Φ24) ∧ ∀ (w873 : World) (R874 : List Own), Ctx W w873 (Own.blk k870 [Value.int
  IntKind.i64 id, Value.int IntKind.i64 h0, Value.int IntKind.i64 h1, Value.slice p862 k863 k864, Value.int IntKind.i64 0, Value.int IntKind.i64 0, Value.slice (some (Addr.mk k812 0 none)) 3
  3, Value.slice (some (Addr.mk k696 0 none)) 3 3, Value.slice (some (Addr.mk k854 0 none)) 3 3] 67 :: R866 ++ R874) Φ867 → J (Value.pointer (some (Addr.mk k870 0 none))) w873) ∧ True) ∧
  True) ∧ True) ∧ True) ∧ (((0 : Int) ≤ 3 ∧ (3 : Int) ≤ 3 ∧ (24 : Int) ≤ 281474976710656 ∧ (3 : Int) ≤ 9223372036854775807) ∧ ∀ (k875 : Nat), (∀ (w876 : World) (R877 : List Own), Ctx W w876
  (Own.blk k875 [Value.int IntKind.i64 0, Value.int IntKind.i64 0, Value.int IntKind.i64 0] 3 :: Own.blk k696 [Value.int IntKind.i64 0, Value.int IntKind.i64 0, Value.int IntKind.i64 0] 3 ::
  R19 ++ R877) Φ20 → Ctx W w876 (R23 ++ R877) Φ24) ∧ (∀ (k878 : Nat), (∀ (w879 : World) (R880 : List Own), Ctx W w879 (Own.blk k878 [] 55 :: Own.blk k875 [Value.int IntKind.i64 0, Value.int
  IntKind.i64 0, Value.int IntKind.i64 0] 3 :: Own.blk k696 [Value.int IntKind.i64 0, Value.int IntKind.i64 0, Value.int IntKind.i64 0] 3 :: R19 ++ R880) Φ20 → Ctx W w879 (R23 ++ R880) Φ24) ∧
  (∀ (w881 : World) (R882 : List Own), Ctx W w881 (Own.blk k878 [] 55 :: Own.blk k875 [Value.int IntKind.i64 0, Value.int IntKind.i64 0, Value.int IntKind.i64 0] 3 :: Own.blk k696 [Value.int
  IntKind.i64 0, Value.int IntKind.i64 0, Value.int IntKind.i64 0] 3 :: R19 ++ R882) Φ20 → ∃ (p883 : Option Addr), ∃ (k884 : Nat), ∃ (k885 : Nat), ∃ (w886 : World), Sem.run Try.prog (builtin
  Builtin.append #[35, 35] 35 #[false, false] #[Value.slice (some (Addr.mk k878 0 none)) 0 0, Value.slice logP logN logC]) w881 = Result.ok (Next.value (Value.slice p883 k884 k885)) w886 ∧ ∃
  (R887 : List Own), ∃ (Φ888 : PW), Stable Φ888 ∧ Ctx W w886 (R887 ++ R882) Φ888 ∧ (∀ (w889 : World) (R890 : List Own), Ctx W w889 (R887 ++ R890) Φ888 → Ctx W w889 (R23 ++ R890) Φ24) ∧ (((0 :
  Int) ≤ 3 ∧ (3 : Int) ≤ 3 ∧ (3 : Int) ≤ 281474976710656 ∧ (3 : Int) ≤ 9223372036854775807) ∧ ∀ (k891 : Nat), (∀ (w892 : World) (R893 : List Own), Ctx W w892 (Own.blk k891 [Value.bool false,
  Value.bool false, Value.bool false] 4 :: R887 ++ R893) Φ888 → Ctx W w892 (R23 ++ R893) Φ24) ∧ (∀ (k894 : Nat), (∀ (w895 : World) (R896 : List Own), Ctx W w895 (Own.blk k894 [Value.int
  IntKind.i64 id, Value.int IntKind.i64 h0, Value.int IntKind.i64 h1, Value.slice p883 k884 k885, Value.int IntKind.i64 0, Value.int IntKind.i64 0, Value.slice (some (Addr.mk k891 0 none)) 3
  3, Value.slice (some (Addr.mk k696 0 none)) 3 3, Value.slice (some (Addr.mk k875 0 none)) 3 3] 67 :: Own.blk k891 [Value.bool false, Value.bool false, Value.bool false] 4 :: R887 ++ R896)
  Φ888 → Ctx W w895 (R23 ++ R896) Φ24) ∧ ∀ (w897 : World) (R898 : List Own), Ctx W w897 (Own.blk k894 [Value.int IntKind.i64 id, Value.int IntKind.i64 h0, Value.int IntKind.i64 h1,
  Value.slice p883 k884 k885, Value.int IntKind.i64 0, Value.int IntKind.i64 0, Value.slice (some (Addr.mk k891 0 none)) 3 3, Value.slice (some (Addr.mk k696 0 none)) 3 3, Value.slice (some
  (Addr.mk k875 0 none)) 3 3] 67 :: Own.blk k891 [Value.bool false, Value.bool false, Value.bool false] 4 :: R887 ++ R898) Φ888 → J (Value.pointer (some (Addr.mk k894 0 none))) w897) ∧ True)
  ∧ True) ∧ (((0 : Int) ≤ 3 ∧ (3 : Int) ≤ 3 ∧ (3 : Int) ≤ 281474976710656 ∧ (3 : Int) ≤ 9223372036854775807) ∧ ∀ (k899 : Nat), (∀ (w900 : World) (R901 : List Own), Ctx W w900 (Own.blk k899
  [Value.bool false, Value.bool false, Value.bool false] 4 :: Own.blk k878 [] 55 :: Own.blk k875 [Value.int IntKind.i64 0, Value.int IntKind.i64 0, Value.int IntKind.i64 0] 3 :: Own.blk k696
  [Value.int IntKind.i64 0, Value.int IntKind.i64 0, Value.int IntKind.i64 0] 3 :: R19 ++ R901) Φ20 → Ctx W w900 (R23 ++ R901) Φ24) ∧ (∀ (w902 : World) (R903 : List Own), Ctx W w902 (Own.blk
  k899 [Value.bool false, Value.bool false, Value.bool false] 4 :: Own.blk k878 [] 55 :: Own.blk k875 [Value.int IntKind.i64 0, Value.int IntKind.i64 0, Value.int IntKind.i64 0] 3 :: Own.blk
  k696 [Value.int IntKind.i64 0, Value.int IntKind.i64 0, Value.int IntKind.i64 0] 3 :: R19 ++ R903) Φ20 → ∃ (p904 : Option Addr), ∃ (k905 : Nat), ∃ (k906 : Nat), ∃ (w907 : World), Sem.run
  Try.prog (builtin Builtin.append #[35, 35] 35 #[false, false] #[Value.slice (some (Addr.mk k878 0 none)) 0 0, Value.slice logP logN logC]) w902 = Result.ok (Next.value (Value.slice p904
  k905 k906)) w907 ∧ ∃ (R908 : List Own), ∃ (Φ909 : PW), Stable Φ909 ∧ Ctx W w907 (R908 ++ R903) Φ909 ∧ (∀ (w910 : World) (R911 : List Own), Ctx W w910 (R908 ++ R911) Φ909 → Ctx W w910 (R23
  ++ R911) Φ24) ∧ (∀ (k912 : Nat), (∀ (w913 : World) (R914 : List Own), Ctx W w913 (Own.blk k912 [Value.int IntKind.i64 id, Value.int IntKind.i64 h0, Value.int IntKind.i64 h1, Value.slice
  p904 k905 k906, Value.int IntKind.i64 0, Value.int IntKind.i64 0, Value.slice (some (Addr.mk k899 0 none)) 3 3, Value.slice (some (Addr.mk k696 0 none)) 3 3, Value.slice (some (Addr.mk k875
  0 none)) 3 3] 67 :: R908 ++ R914) Φ909 → Ctx W w913 (R23 ++ R914) Φ24) ∧ ∀ (w915 : World) (R916 : List Own), Ctx W w915 (Own.blk k912 [Value.int IntKind.i64 id, Value.int IntKind.i64 h0,
  Value.int IntKind.i64 h1, Value.slice p904 k905 k906, Value.int IntKind.i64 0, Value.int IntKind.i64 0, Value.slice (some (Addr.mk k899 0 none)) 3 3, Value.slice (some (Addr.mk k696 0
  none)) 3 3, Value.slice (some (Addr.mk k875 0 none)) 3 3] 67 :: R908 ++ R916) Φ909 → J (Value.pointer (some (Addr.mk k912 0 none))) w915) ∧ True) ∧ True) ∧ True) ∧ (((0 : Int) ≤ 3 ∧ (3 :
  Int) ≤ 3 ∧ (3 : Int) ≤ 281474976710656 ∧ (3 : Int) ≤ 9223372036854775807) ∧ ∀ (k917 : Nat), (∀ (w918 : World) (R919 : List Own), Ctx W w918 (Own.blk k917 [Value.bool false, Value.bool
  false, Value.bool false] 4 :: Own.blk k875 [Value.int IntKind.i64 0, Value.int IntKind.i64 0, Value.int IntKind.i64 0] 3 :: Own.blk k696 [Value.int IntKind.i64 0, Value.int IntKind.i64 0,
  Value.int IntKind.i64 0] 3 :: R19 ++ R919) Φ20 → Ctx W w918 (R23 ++ R919) Φ24) ∧ (∀ (k920 : Nat), (∀ (w921 : World) (R922 : List Own), Ctx W w921 (Own.blk k920 [] 55 :: Own.blk k917
  [Value.bool false, Value.bool false, Value.bool false] 4 :: Own.blk k875 [Value.int IntKind.i64 0, Value.int IntKind.i64 0, Value.int IntKind.i64 0] 3 :: Own.blk k696 [Value.int IntKind.i64
  0, Value.int IntKind.i64 0, Value.int IntKind.i64 0] 3 :: R19 ++ R922) Φ20 → Ctx W w921 (R23 ++ R922) Φ24) ∧ (∀ (w923 : World) (R924 : List Own), Ctx W w923 (Own.blk k920 [] 55 :: Own.blk
  k917 [Value.bool false, Value.bool false, Value.bool false] 4 :: Own.blk k875 [Value.int IntKind.i64 0, Value.int IntKind.i64 0, Value.int IntKind.i64 0] 3 :: Own.blk k696 [Value.int
  IntKind.i64 0, Value.int IntKind.i64 0, Value.int IntKind.i64 0] 3 :: R19 ++ R924) Φ20 → ∃ (p925 : Option Addr), ∃ (k926 : Nat), ∃ (k927 : Nat), ∃ (w928 : World), Sem.run Try.prog (builtin
  Builtin.append #[35, 35] 35 #[false, false] #[Value.slice (some (Addr.mk k920 0 none)) 0 0, Value.slice logP logN logC]) w923 = Result.ok (Next.value (Value.slice p925 k926 k927)) w928 ∧ ∃
  (R929 : List Own), ∃ (Φ930 : PW), Stable Φ930 ∧ Ctx W w928 (R929 ++ R924) Φ930 ∧ (∀ (w931 : World) (R932 : List Own), Ctx W w931 (R929 ++ R932) Φ930 → Ctx W w931 (R23 ++ R932) Φ24) ∧ (∀
  (k933 : Nat), (∀ (w934 : World) (R935 : List Own), Ctx W w934 (Own.blk k933 [Value.int IntKind.i64 id, Value.int IntKind.i64 h0, Value.int IntKind.i64 h1, Value.slice p925 k926 k927,
  Value.int IntKind.i64 0, Value.int IntKind.i64 0, Value.slice (some (Addr.mk k917 0 none)) 3 3, Value.slice (some (Addr.mk k696 0 none)) 3 3, Value.slice (some (Addr.mk k875 0 none)) 3 3]
  67 :: R929 ++ R935) Φ930 → Ctx W w934 (R23 ++ R935) Φ24) ∧ ∀ (w936 : World) (R937 : List Own), Ctx W w936 (Own.blk k933 [Value.int IntKind.i64 id, Value.int IntKind.i64 h0, Value.int
  IntKind.i64 h1, Value.slice p925 k926 k927, Value.int IntKind.i64 0, Value.int IntKind.i64 0, Value.slice (some (Addr.mk k917 0 none)) 3 3, Value.slice (some (Addr.mk k696 0 none)) 3 3,
  Value.slice (some (Addr.mk k875 0 none)) 3 3] 67 :: R929 ++ R937) Φ930 → J (Value.pointer (some (Addr.mk k933 0 none))) w936) ∧ True) ∧ True) ∧ True) ∧ True) ∧ True) ∧ (((0 : Int) ≤ 3 ∧ (3
  : Int) ≤ 3 ∧ (24 : Int) ≤ 281474976710656 ∧ (3 : Int) ≤ 9223372036854775807) ∧ ∀ (k938 : Nat), (∀ (w939 : World) (R940 : List Own), Ctx W w939 (Own.blk k938 [Value.int IntKind.i64 0,
  Value.int IntKind.i64 0, Value.int IntKind.i64 0] 3 :: R19 ++ R940) Φ20 → Ctx W w939 (R23 ++ R940) Φ24) ∧ (∀ (k941 : Nat), (∀ (w942 : World) (R943 : List Own), Ctx W w942 (Own.blk k941 []
  55 :: Own.blk k938 [Value.int IntKind.i64 0, Value.int IntKind.i64 0, Value.int IntKind.i64 0] 3 :: R19 ++ R943) Φ20 → Ctx W w942 (R23 ++ R943) Φ24) ∧ (∀ (w944 : World) (R945 : List Own),
  Ctx W w944 (Own.blk k941 [] 55 :: Own.blk k938 [Value.int IntKind.i64 0, Value.int IntKind.i64 0, Value.int IntKind.i64 0] 3 :: R19 ++ R945) Φ20 → ∃ (p946 : Option Addr), ∃ (k947 : Nat), ∃
  (k948 : Nat), ∃ (w949 : World), Sem.run Try.prog (builtin Builtin.append #[35, 35] 35 #[false, false] #[Value.slice (some (Addr.mk k941 0 none)) 0 0, Value.slice logP logN logC]) w944 =
  Result.ok (Next.value (Value.slice p946 k947 k948)) w949 ∧ ∃ (R950 : List Own), ∃ (Φ951 : PW), Stable Φ951 ∧ Ctx W w949 (R950 ++ R945) Φ951 ∧ (∀ (w952 : World) (R953 : List Own), Ctx W w952
  (R950 ++ R953) Φ951 → Ctx W w952 (R23 ++ R953) Φ24) ∧ (((0 : Int) ≤ 3 ∧ (3 : Int) ≤ 3 ∧ (3 : Int) ≤ 281474976710656 ∧ (3 : Int) ≤ 9223372036854775807) ∧ ∀ (k954 : Nat), (∀ (w955 : World)
  (R956 : List Own), Ctx W w955 (Own.blk k954 [Value.bool false, Value.bool false, Value.bool false] 4 :: R950 ++ R956) Φ951 → Ctx W w955 (R23 ++ R956) Φ24) ∧ (((0 : Int) ≤ 3 ∧ (3 : Int) ≤ 3
  ∧ (24 : Int) ≤ 281474976710656 ∧ (3 : Int) ≤ 9223372036854775807) ∧ ∀ (k957 : Nat), (∀ (w958 : World) (R959 : List Own), Ctx W w958 (Own.blk k957 [Value.int IntKind.i64 0, Value.int
  IntKind.i64 0, Value.int IntKind.i64 0] 3 :: Own.blk k954 [Value.bool false, Value.bool false, Value.bool false] 4 :: R950 ++ R959) Φ951 → Ctx W w958 (R23 ++ R959) Φ24) ∧ (∀ (k960 : Nat),
  (∀ (w961 : World) (R962 : List Own), Ctx W w961 (Own.blk k960 [Value.int IntKind.i64 id, Value.int IntKind.i64 h0, Value.int IntKind.i64 h1, Value.slice p946 k947 k948, Value.int
  IntKind.i64 0, Value.int IntKind.i64 0, Value.slice (some (Addr.mk k954 0 none)) 3 3, Value.slice (some (Addr.mk k957 0 none)) 3 3, Value.slice (some (Addr.mk k938 0 none)) 3 3] 67 ::
  Own.blk k957 [Value.int IntKind.i64 0, Value.int IntKind.i64 0, Value.int IntKind.i64 0] 3 :: Own.blk k954 [Value.bool false, Value.bool false, Value.bool false] 4 :: R950 ++ R962) Φ951 →
  Ctx W w961 (R23 ++ R962) Φ24) ∧ ∀ (w963 : World) (R964 : List Own), Ctx W w963 (Own.blk k960 [Value.int IntKind.i64 id, Value.int IntKind.i64 h0, Value.int IntKind.i64 h1, Value.slice p946
  k947 k948, Value.int IntKind.i64 0, Value.int IntKind.i64 0, Value.slice (some (Addr.mk k954 0 none)) 3 3, Value.slice (some (Addr.mk k957 0 none)) 3 3, Value.slice (some (Addr.mk k938 0
  none)) 3 3] 67 :: Own.blk k957 [Value.int IntKind.i64 0, Value.int IntKind.i64 0, Value.int IntKind.i64 0] 3 :: Own.blk k954 [Value.bool false, Value.bool false, Value.bool false] 4 :: R950
  ++ R964) Φ951 → J (Value.pointer (some (Addr.mk k960 0 none))) w963) ∧ True) ∧ True) ∧ (((0 : Int) ≤ 3 ∧ (3 : Int) ≤ 3 ∧ (24 : Int) ≤ 281474976710656 ∧ (3 : Int) ≤ 9223372036854775807) ∧ ∀
  (k965 : Nat), (∀ (w966 : World) (R967 : List Own), Ctx W w966 (Own.blk k965 [Value.int IntKind.i64 0, Value.int IntKind.i64 0, Value.int IntKind.i64 0] 3 :: R950 ++ R967) Φ951 → Ctx W w966
  (R23 ++ R967) Φ24) ∧ (((0 : Int) ≤ 3 ∧ (3 : Int) ≤ 3 ∧ (3 : Int) ≤ 281474976710656 ∧ (3 : Int) ≤ 9223372036854775807) ∧ ∀ (k968 : Nat), (∀ (w969 : World) (R970 : List Own), Ctx W w969
  (Own.blk k968 [Value.bool false, Value.bool false, Value.bool false] 4 :: Own.blk k965 [Value.int IntKind.i64 0, Value.int IntKind.i64 0, Value.int IntKind.i64 0] 3 :: R950 ++ R970) Φ951 →
  Ctx W w969 (R23 ++ R970) Φ24) ∧ (∀ (k971 : Nat), (∀ (w972 : World) (R973 : List Own), Ctx W w972 (Own.blk k971 [Value.int IntKind.i64 id, Value.int IntKind.i64 h0, Value.int IntKind.i64 h1,
  Value.slice p946 k947 k948, Value.int IntKind.i64 0, Value.int IntKind.i64 0, Value.slice (some (Addr.mk k968 0 none)) 3 3, Value.slice (some (Addr.mk k965 0 none)) 3 3, Value.slice (some
  (Addr.mk k938 0 none)) 3 3] 67 :: Own.blk k968 [Value.bool false, Value.bool false, Value.bool false] 4 :: Own.blk k965 [Value.int IntKind.i64 0, Value.int IntKind.i64 0, Value.int
  IntKind.i64 0] 3 :: R950 ++ R973) Φ951 → Ctx W w972 (R23 ++ R973) Φ24) ∧ ∀ (w974 : World) (R975 : List Own), Ctx W w974 (Own.blk k971 [Value.int IntKind.i64 id, Value.int IntKind.i64 h0,
  Value.int IntKind.i64 h1, Value.slice p946 k947 k948, Value.int IntKind.i64 0, Value.int IntKind.i64 0, Value.slice (some (Addr.mk k968 0 none)) 3 3, Value.slice (some (Addr.mk k965 0
  none)) 3 3, Value.slice (some (Addr.mk k938 0 none)) 3 3] 67 :: Own.blk k968 [Value.bool false, Value.bool false, Value.bool false] 4 :: Own.blk k965 [Value.int IntKind.i64 0, Value.int
  IntKind.i64 0, Value.int IntKind.i64 0] 3 :: R950 ++ R975) Φ951 → J (Value.pointer (some (Addr.mk k971 0 none))) w974) ∧ True) ∧ True) ∧ True) ∧ (((0 : Int) ≤ 3 ∧ (3 : Int) ≤ 3 ∧ (3 : Int)
  ≤ 281474976710656 ∧ (3 : Int) ≤ 9223372036854775807) ∧ ∀ (k976 : Nat), (∀ (w977 : World) (R978 : List Own), Ctx W w977 (Own.blk k976 [Value.bool false, Value.bool false, Value.bool false] 4
  :: Own.blk k941 [] 55 :: Own.blk k938 [Value.int IntKind.i64 0, Value.int IntKind.i64 0, Value.int IntKind.i64 0] 3 :: R19 ++ R978) Φ20 → Ctx W w977 (R23 ++ R978) Φ24) ∧ (∀ (w979 : World)
  (R980 : List Own), Ctx W w979 (Own.blk k976 [Value.bool false, Value.bool false, Value.bool false] 4 :: Own.blk k941 [] 55 :: Own.blk k938 [Value.int IntKind.i64 0, Value.int IntKind.i64 0,
  Value.int IntKind.i64 0] 3 :: R19 ++ R980) Φ20 → ∃ (p981 : Option Addr), ∃ (k982 : Nat), ∃ (k983 : Nat), ∃ (w984 : World), Sem.run Try.prog (builtin Builtin.append #[35, 35] 35 #[false,
  false] #[Value.slice (some (Addr.mk k941 0 none)) 0 0, Value.slice logP logN logC]) w979 = Result.ok (Next.value (Value.slice p981 k982 k983)) w984 ∧ ∃ (R985 : List Own), ∃ (Φ986 : PW),
  Stable Φ986 ∧ Ctx W w984 (R985 ++ R980) Φ986 ∧ (∀ (w987 : World) (R988 : List Own), Ctx W w987 (R985 ++ R988) Φ986 → Ctx W w987 (R23 ++ R988) Φ24) ∧ (((0 : Int) ≤ 3 ∧ (3 : Int) ≤ 3 ∧ (24 :
  Int) ≤ 281474976710656 ∧ (3 : Int) ≤ 9223372036854775807) ∧ ∀ (k989 : Nat), (∀ (w990 : World) (R991 : List Own), Ctx W w990 (Own.blk k989 [Value.int IntKind.i64 0, Value.int IntKind.i64 0,
  Value.int IntKind.i64 0] 3 :: R985 ++ R991) Φ986 → Ctx W w990 (R23 ++ R991) Φ24) ∧ (∀ (k992 : Nat), (∀ (w993 : World) (R994 : List Own), Ctx W w993 (Own.blk k992 [Value.int IntKind.i64 id,
  Value.int IntKind.i64 h0, Value.int IntKind.i64 h1, Value.slice p981 k982 k983, Value.int IntKind.i64 0, Value.int IntKind.i64 0, Value.slice (some (Addr.mk k976 0 none)) 3 3, Value.slice
  (some (Addr.mk k989 0 none)) 3 3, Value.slice (some (Addr.mk k938 0 none)) 3 3] 67 :: Own.blk k989 [Value.int IntKind.i64 0, Value.int IntKind.i64 0, Value.int IntKind.i64 0] 3 :: R985 ++
  R994) Φ986 → Ctx W w993 (R23 ++ R994) Φ24) ∧ ∀ (w995 : World) (R996 : List Own), Ctx W w995 (Own.blk k992 [Value.int IntKind.i64 id, Value.int IntKind.i64 h0, Value.int IntKind.i64 h1,
  Value.slice p981 k982 k983, Value.int IntKind.i64 0, Value.int IntKind.i64 0, Value.slice (some (Addr.mk k976 0 none)) 3 3, Value.slice (some (Addr.mk k989 0 none)) 3 3, Value.slice (some
  (Addr.mk k938 0 none)) 3 3] 67 :: Own.blk k989 [Value.int IntKind.i64 0, Value.int IntKind.i64 0, Value.int IntKind.i64 0] 3 :: R985 ++ R996) Φ986 → J (Value.pointer (some (Addr.mk k992 0
  none))) w995) ∧ True) ∧ True) ∧ (((0 : Int) ≤ 3 ∧ (3 : Int) ≤ 3 ∧ (24 : Int) ≤ 281474976710656 ∧ (3 : Int) ≤ 9223372036854775807) ∧ ∀ (k997 : Nat), (∀ (w998 : World) (R999 : List Own), Ctx
  W w998 (Own.blk k997 [Value.int IntKind.i64 0, Value.int IntKind.i64 0, Value.int IntKind.i64 0] 3 :: Own.blk k976 [Value.bool false, Value.bool false, Value.bool false] 4 :: Own.blk k941
  [] 55 :: Own.blk k938 [Value.int IntKind.i64 0, Value.int IntKind.i64 0, Value.int IntKind.i64 0] 3 :: R19 ++ R999) Φ20 → Ctx W w998 (R23 ++ R999) Φ24) ∧ (∀ (w1000 : World) (R1001 : List
  Own), Ctx W w1000 (Own.blk k997 [Value.int IntKind.i64 0, Value.int IntKind.i64 0, Value.int IntKind.i64 0] 3 :: Own.blk k976 [Value.bool false, Value.bool false, Value.bool false] 4 ::
  Own.blk k941 [] 55 :: Own.blk k938 [Value.int IntKind.i64 0, Value.int IntKind.i64 0, Value.int IntKind.i64 0] 3 :: R19 ++ R1001) Φ20 → ∃ (p1002 : Option Addr), ∃ (k1003 : Nat), ∃ (k1004 :
  Nat), ∃ (w1005 : World), Sem.run Try.prog (builtin Builtin.append #[35, 35] 35 #[false, false] #[Value.slice (some (Addr.mk k941 0 none)) 0 0, Value.slice logP logN logC]) w1000 = Result.ok
  (Next.value (Value.slice p1002 k1003 k1004)) w1005 ∧ ∃ (R1006 : List Own), ∃ (Φ1007 : PW), Stable Φ1007 ∧ Ctx W w1005 (R1006 ++ R1001) Φ1007 ∧ (∀ (w1008 : World) (R1009 : List Own), Ctx W
  w1008 (R1006 ++ R1009) Φ1007 → Ctx W w1008 (R23 ++ R1009) Φ24) ∧ (∀ (k1010 : Nat), (∀ (w1011 : World) (R1012 : List Own), Ctx W w1011 (Own.blk k1010 [Value.int IntKind.i64 id, Value.int
  IntKind.i64 h0, Value.int IntKind.i64 h1, Value.slice p1002 k1003 k1004, Value.int IntKind.i64 0, Value.int IntKind.i64 0, Value.slice (some (Addr.mk k976 0 none)) 3 3, Value.slice (some
  (Addr.mk k997 0 none)) 3 3, Value.slice (some (Addr.mk k938 0 none)) 3 3] 67 :: R1006 ++ R1012) Φ1007 → Ctx W w1011 (R23 ++ R1012) Φ24) ∧ ∀ (w1013 : World) (R1014 : List Own), Ctx W w1013
  (Own.blk k1010 [Value.int IntKind.i64 id, Value.int IntKind.i64 h0, Value.int IntKind.i64 h1, Value.slice p1002 k1003 k1004, Value.int IntKind.i64 0, Value.int IntKind.i64 0, Value.slice
  (some (Addr.mk k976 0 none)) 3 3, Value.slice (some (Addr.mk k997 0 none)) 3 3, Value.slice (some (Addr.mk k938 0 none)) 3 3] 67 :: R1006 ++ R1014) Φ1007 → J (Value.pointer (some (Addr.mk
  k1010 0 none))) w1013) ∧ True) ∧ True) ∧ True) ∧ (((0 : Int) ≤ 3 ∧ (3 : Int) ≤ 3 ∧ (24 : Int) ≤ 281474976710656 ∧ (3 : Int) ≤ 9223372036854775807) ∧ ∀ (k1015 : Nat), (∀ (w1016 : World)
  (R1017 : List Own), Ctx W w1016 (Own.blk k1015 [Value.int IntKind.i64 0, Value.int IntKind.i64 0, Value.int IntKind.i64 0] 3 :: Own.blk k941 [] 55 :: Own.blk k938 [Value.int IntKind.i64 0,
  Value.int IntKind.i64 0, Value.int IntKind.i64 0] 3 :: R19 ++ R1017) Φ20 → Ctx W w1016 (R23 ++ R1017) Φ24) ∧ (∀ (w1018 : World) (R1019 : List Own), Ctx W w1018 (Own.blk k1015 [Value.int
  IntKind.i64 0, Value.int IntKind.i64 0, Value.int IntKind.i64 0] 3 :: Own.blk k941 [] 55 :: Own.blk k938 [Value.int IntKind.i64 0, Value.int IntKind.i64 0, Value.int IntKind.i64 0] 3 :: R19
  ++ R1019) Φ20 → ∃ (p1020 : Option Addr), ∃ (k1021 : Nat), ∃ (k1022 : Nat), ∃ (w1023 : World), Sem.run Try.prog (builtin Builtin.append #[35, 35] 35 #[false, false] #[Value.slice (some
  (Addr.mk k941 0 none)) 0 0, Value.slice logP logN logC]) w1018 = Result.ok (Next.value (Value.slice p1020 k1021 k1022)) w1023 ∧ ∃ (R1024 : List Own), ∃ (Φ1025 : PW), Stable Φ1025 ∧ Ctx W
  w1023 (R1024 ++ R1019) Φ1025 ∧ (∀ (w1026 : World) (R1027 : List Own), Ctx W w1026 (R1024 ++ R1027) Φ1025 → Ctx W w1026 (R23 ++ R1027) Φ24) ∧ (((0 : Int) ≤ 3 ∧ (3 : Int) ≤ 3 ∧ (3 : Int) ≤
  281474976710656 ∧ (3 : Int) ≤ 9223372036854775807) ∧ ∀ (k1028 : Nat), (∀ (w1029 : World) (R1030 : List Own), Ctx W w1029 (Own.blk k1028 [Value.bool false, Value.bool false, Value.bool
  false] 4 :: R1024 ++ R1030) Φ1025 → Ctx W w1029 (R23 ++ R1030) Φ24) ∧ (∀ (k1031 : Nat), (∀ (w1032 : World) (R1033 : List Own), Ctx W w1032 (Own.blk k1031 [Value.int IntKind.i64 id,
  Value.int IntKind.i64 h0, Value.int IntKind.i64 h1, Value.slice p1020 k1021 k1022, Value.int IntKind.i64 0, Value.int IntKind.i64 0, Value.slice (some (Addr.mk k1028 0 none)) 3 3,
  Value.slice (some (Addr.mk k1015 0 none)) 3 3, Value.slice (some (Addr.mk k938 0 none)) 3 3] 67 :: Own.blk k1028 [Value.bool false, Value.bool false, Value.bool false] 4 :: R1024 ++ R1033)
  Φ1025 → Ctx W w1032 (R23 ++ R1033) Φ24) ∧ ∀ (w1034 : World) (R1035 : List Own), Ctx W w1034 (Own.blk k1031 [Value.int IntKind.i64 id, Value.int IntKind.i64 h0, Value.int IntKind.i64 h1,
  Value.slice p1020 k1021 k1022, Value.int IntKind.i64 0, Value.int IntKind.i64 0, Value.slice (some (Addr.mk k1028 0 none)) 3 3, Value.slice (some (Addr.mk k1015 0 none)) 3 3, Value.slice
  (some (Addr.mk k938 0 none)) 3 3] 67 :: Own.blk k1028 [Value.bool false, Value.bool false, Value.bool false] 4 :: R1024 ++ R1035) Φ1025 → J (Value.pointer (some (Addr.mk k1031 0 none)))
  w1034) ∧ True) ∧ True) ∧ (((0 : Int) ≤ 3 ∧ (3 : Int) ≤ 3 ∧ (3 : Int) ≤ 281474976710656 ∧ (3 : Int) ≤ 9223372036854775807) ∧ ∀ (k1036 : Nat), (∀ (w1037 : World) (R1038 : List Own), Ctx W
  w1037 (Own.blk k1036 [Value.bool false, Value.bool false, Value.bool false] 4 :: Own.blk k1015 [Value.int IntKind.i64 0, Value.int IntKind.i64 0, Value.int IntKind.i64 0] 3 :: Own.blk k941
  [] 55 :: Own.blk k938 [Value.int IntKind.i64 0, Value.int IntKind.i64 0, Value.int IntKind.i64 0] 3 :: R19 ++ R1038) Φ20 → Ctx W w1037 (R23 ++ R1038) Φ24) ∧ (∀ (w1039 : World) (R1040 : List
  Own), Ctx W w1039 (Own.blk k1036 [Value.bool false, Value.bool false, Value.bool false] 4 :: Own.blk k1015 [Value.int IntKind.i64 0, Value.int IntKind.i64 0, Value.int IntKind.i64 0] 3 ::
  Own.blk k941 [] 55 :: Own.blk k938 [Value.int IntKind.i64 0, Value.int IntKind.i64 0, Value.int IntKind.i64 0] 3 :: R19 ++ R1040) Φ20 → ∃ (p1041 : Option Addr), ∃ (k1042 : Nat), ∃ (k1043 :
  Nat), ∃ (w1044 : World), Sem.run Try.prog (builtin Builtin.append #[35, 35] 35 #[false, false] #[Value.slice (some (Addr.mk k941 0 none)) 0 0, Value.slice logP logN logC]) w1039 = Result.ok
  (Next.value (Value.slice p1041 k1042 k1043)) w1044 ∧ ∃ (R1045 : List Own), ∃ (Φ1046 : PW), Stable Φ1046 ∧ Ctx W w1044 (R1045 ++ R1040) Φ1046 ∧ (∀ (w1047 : World) (R1048 : List Own), Ctx W
  w1047 (R1045 ++ R1048) Φ1046 → Ctx W w1047 (R23 ++ R1048) Φ24) ∧ (∀ (k1049 : Nat), (∀ (w1050 : World) (R1051 : List Own), Ctx W w1050 (Own.blk k1049 [Value.int IntKind.i64 id, Value.int
  IntKind.i64 h0, Value.int IntKind.i64 h1, Value.slice p1041 k1042 k1043, Value.int IntKind.i64 0, Value.int IntKind.i64 0, Value.slice (some (Addr.mk k1036 0 none)) 3 3, Value.slice (some
  (Addr.mk k1015 0 none)) 3 3, Value.slice (some (Addr.mk k938 0 none)) 3 3] 67 :: R1045 ++ R1051) Φ1046 → Ctx W w1050 (R23 ++ R1051) Φ24) ∧ ∀ (w1052 : World) (R1053 : List Own), Ctx W w1052
  (Own.blk k1049 [Value.int IntKind.i64 id, Value.int IntKind.i64 h0, Value.int IntKind.i64 h1, Value.slice p1041 k1042 k1043, Value.int IntKind.i64 0, Value.int IntKind.i64 0, Value.slice
  (some (Addr.mk k1036 0 none)) 3 3, Value.slice (some (Addr.mk k1015 0 none)) 3 3, Value.slice (some (Addr.mk k938 0 none)) 3 3] 67 :: R1045 ++ R1053) Φ1046 → J (Value.pointer (some (Addr.mk
  k1049 0 none))) w1052) ∧ True) ∧ True) ∧ True) ∧ True) ∧ (((0 : Int) ≤ 3 ∧ (3 : Int) ≤ 3 ∧ (3 : Int) ≤ 281474976710656 ∧ (3 : Int) ≤ 9223372036854775807) ∧ ∀ (k1054 : Nat), (∀ (w1055 :
  World) (R1056 : List Own), Ctx W w1055 (Own.blk k1054 [Value.bool false, Value.bool false, Value.bool false] 4 :: Own.blk k938 [Value.int IntKind.i64 0, Value.int IntKind.i64 0, Value.int
  IntKind.i64 0] 3 :: R19 ++ R1056) Φ20 → Ctx W w1055 (R23 ++ R1056) Φ24) ∧ (∀ (k1057 : Nat), (∀ (w1058 : World) (R1059 : List Own), Ctx W w1058 (Own.blk k1057 [] 55 :: Own.blk k1054
  [Value.bool false, Value.bool false, Value.bool false] 4 :: Own.blk k938 [Value.int IntKind.i64 0, Value.int IntKind.i64 0, Value.int IntKind.i64 0] 3 :: R19 ++ R1059) Φ20 → Ctx W w1058
  (R23 ++ R1059) Φ24) ∧ (∀ (w1060 : World) (R1061 : List Own), Ctx W w1060 (Own.blk k1057 [] 55 :: Own.blk k1054 [Value.bool false, Value.bool false, Value.bool false] 4 :: Own.blk k938
  [Value.int IntKind.i64 0, Value.int IntKind.i64 0, Value.int IntKind.i64 0] 3 :: R19 ++ R1061) Φ20 → ∃ (p1062 : Option Addr), ∃ (k1063 : Nat), ∃ (k1064 : Nat), ∃ (w1065 : World), Sem.run
  Try.prog (builtin Builtin.append #[35, 35] 35 #[false, false] #[Value.slice (some (Addr.mk k1057 0 none)) 0 0, Value.slice logP logN logC]) w1060 = Result.ok (Next.value (Value.slice p1062
  k1063 k1064)) w1065 ∧ ∃ (R1066 : List Own), ∃ (Φ1067 : PW), Stable Φ1067 ∧ Ctx W w1065 (R1066 ++ R1061) Φ1067 ∧ (∀ (w1068 : World) (R1069 : List Own), Ctx W w1068 (R1066 ++ R1069) Φ1067 →
  Ctx W w1068 (R23 ++ R1069) Φ24) ∧ (((0 : Int) ≤ 3 ∧ (3 : Int) ≤ 3 ∧ (24 : Int) ≤ 281474976710656 ∧ (3 : Int) ≤ 9223372036854775807) ∧ ∀ (k1070 : Nat), (∀ (w1071 : World) (R1072 : List Own),
  Ctx W w1071 (Own.blk k1070 [Value.int IntKind.i64 0, Value.int IntKind.i64 0, Value.int IntKind.i64 0] 3 :: R1066 ++ R1072) Φ1067 → Ctx W w1071 (R23 ++ R1072) Φ24) ∧ (∀ (k1073 : Nat), (∀
  (w1074 : World) (R1075 : List Own), Ctx W w1074 (Own.blk k1073 [Value.int IntKind.i64 id, Value.int IntKind.i64 h0, Value.int IntKind.i64 h1, Value.slice p1062 k1063 k1064, Value.int
  IntKind.i64 0, Value.int IntKind.i64 0, Value.slice (some (Addr.mk k1054 0 none)) 3 3, Value.slice (some (Addr.mk k1070 0 none)) 3 3, Value.slice (some (Addr.mk k938 0 none)) 3 3] 67 ::
  Own.blk k1070 [Value.int IntKind.i64 0, Value.int IntKind.i64 0, Value.int IntKind.i64 0] 3 :: R1066 ++ R1075) Φ1067 → Ctx W w1074 (R23 ++ R1075) Φ24) ∧ ∀ (w1076 : World) (R1077 : List
  Own), Ctx W w1076 (Own.blk k1073 [Value.int IntKind.i64 id, Value.int IntKind.i64 h0, Value.int IntKind.i64 h1, Value.slice p1062 k1063 k1064, Value.int IntKind.i64 0, Value.int IntKind.i64
  0, Value.slice (some (Addr.mk k1054 0 none)) 3 3, Value.slice (some (Addr.mk k1070 0 none)) 3 3, Value.slice (some (Addr.mk k938 0 none)) 3 3] 67 :: Own.blk k1070 [Value.int IntKind.i64 0,
  Value.int IntKind.i64 0, Value.int IntKind.i64 0] 3 :: R1066 ++ R1077) Φ1067 → J (Value.pointer (some (Addr.mk k1073 0 none))) w1076) ∧ True) ∧ True) ∧ (((0 : Int) ≤ 3 ∧ (3 : Int) ≤ 3 ∧ (24
  : Int) ≤ 281474976710656 ∧ (3 : Int) ≤ 9223372036854775807) ∧ ∀ (k1078 : Nat), (∀ (w1079 : World) (R1080 : List Own), Ctx W w1079 (Own.blk k1078 [Value.int IntKind.i64 0, Value.int
  IntKind.i64 0, Value.int IntKind.i64 0] 3 :: Own.blk k1057 [] 55 :: Own.blk k1054 [Value.bool false, Value.bool false, Value.bool false] 4 :: Own.blk k938 [Value.int IntKind.i64 0,
  Value.int IntKind.i64 0, Value.int IntKind.i64 0] 3 :: R19 ++ R1080) Φ20 → Ctx W w1079 (R23 ++ R1080) Φ24) ∧ (∀ (w1081 : World) (R1082 : List Own), Ctx W w1081 (Own.blk k1078 [Value.int
  IntKind.i64 0, Value.int IntKind.i64 0, Value.int IntKind.i64 0] 3 :: Own.blk k1057 [] 55 :: Own.blk k1054 [Value.bool false, Value.bool false, Value.bool false] 4 :: Own.blk k938
  [Value.int IntKind.i64 0, Value.int IntKind.i64 0, Value.int IntKind.i64 0] 3 :: R19 ++ R1082) Φ20 → ∃ (p1083 : Option Addr), ∃ (k1084 : Nat), ∃ (k1085 : Nat), ∃ (w1086 : World), Sem.run
  Try.prog (builtin Builtin.append #[35, 35] 35 #[false, false] #[Value.slice (some (Addr.mk k1057 0 none)) 0 0, Value.slice logP logN logC]) w1081 = Result.ok (Next.value (Value.slice p1083
  k1084 k1085)) w1086 ∧ ∃ (R1087 : List Own), ∃ (Φ1088 : PW), Stable Φ1088 ∧ Ctx W w1086 (R1087 ++ R1082) Φ1088 ∧ (∀ (w1089 : World) (R1090 : List Own), Ctx W w1089 (R1087 ++ R1090) Φ1088 →
  Ctx W w1089 (R23 ++ R1090) Φ24) ∧ (∀ (k1091 : Nat), (∀ (w1092 : World) (R1093 : List Own), Ctx W w1092 (Own.blk k1091 [Value.int IntKind.i64 id, Value.int IntKind.i64 h0, Value.int
  IntKind.i64 h1, Value.slice p1083 k1084 k1085, Value.int IntKind.i64 0, Value.int IntKind.i64 0, Value.slice (some (Addr.mk k1054 0 none)) 3 3, Value.slice (some (Addr.mk k1078 0 none)) 3
  3, Value.slice (some (Addr.mk k938 0 none)) 3 3] 67 :: R1087 ++ R1093) Φ1088 → Ctx W w1092 (R23 ++ R1093) Φ24) ∧ ∀ (w1094 : World) (R1095 : List Own), Ctx W w1094 (Own.blk k1091 [Value.int
  IntKind.i64 id, Value.int IntKind.i64 h0, Value.int IntKind.i64 h1, Value.slice p1083 k1084 k1085, Value.int IntKind.i64 0, Value.int IntKind.i64 0, Value.slice (some (Addr.mk k1054 0
  none)) 3 3, Value.slice (some (Addr.mk k1078 0 none)) 3 3, Value.slice (some (Addr.mk k938 0 none)) 3 3] 67 :: R1087 ++ R1095) Φ1088 → J (Value.pointer (some (Addr.mk k1091 0 none))) w1094)
  ∧ True) ∧ True) ∧ True) ∧ (((0 : Int) ≤ 3 ∧ (3 : Int) ≤ 3 ∧ (24 : Int) ≤ 281474976710656 ∧ (3 : Int) ≤ 9223372036854775807) ∧ ∀ (k1096 : Nat), (∀ (w1097 : World) (R1098 : List Own), Ctx W
  w1097 (Own.blk k1096 [Value.int IntKind.i64 0, Value.int IntKind.i64 0, Value.int IntKind.i64 0] 3 :: Own.blk k1054 [Value.bool false, Value.bool false, Value.bool false] 4 :: Own.blk k938
  [Value.int IntKind.i64 0, Value.int IntKind.i64 0, Value.int IntKind.i64 0] 3 :: R19 ++ R1098) Φ20 → Ctx W w1097 (R23 ++ R1098) Φ24) ∧ (∀ (k1099 : Nat), (∀ (w1100 : World) (R1101 : List
  Own), Ctx W w1100 (Own.blk k1099 [] 55 :: Own.blk k1096 [Value.int IntKind.i64 0, Value.int IntKind.i64 0, Value.int IntKind.i64 0] 3 :: Own.blk k1054 [Value.bool false, Value.bool false,
  Value.bool false] 4 :: Own.blk k938 [Value.int IntKind.i64 0, Value.int IntKind.i64 0, Value.int IntKind.i64 0] 3 :: R19 ++ R1101) Φ20 → Ctx W w1100 (R23 ++ R1101) Φ24) ∧ (∀ (w1102 : World)
  (R1103 : List Own), Ctx W w1102 (Own.blk k1099 [] 55 :: Own.blk k1096 [Value.int IntKind.i64 0, Value.int IntKind.i64 0, Value.int IntKind.i64 0] 3 :: Own.blk k1054 [Value.bool false,
  Value.bool false, Value.bool false] 4 :: Own.blk k938 [Value.int IntKind.i64 0, Value.int IntKind.i64 0, Value.int IntKind.i64 0] 3 :: R19 ++ R1103) Φ20 → ∃ (p1104 : Option Addr), ∃ (k1105
  : Nat), ∃ (k1106 : Nat), ∃ (w1107 : World), Sem.run Try.prog (builtin Builtin.append #[35, 35] 35 #[false, false] #[Value.slice (some (Addr.mk k1099 0 none)) 0 0, Value.slice logP logN
  logC]) w1102 = Result.ok (Next.value (Value.slice p1104 k1105 k1106)) w1107 ∧ ∃ (R1108 : List Own), ∃ (Φ1109 : PW), Stable Φ1109 ∧ Ctx W w1107 (R1108 ++ R1103) Φ1109 ∧ (∀ (w1110 : World)
  (R1111 : List Own), Ctx W w1110 (R1108 ++ R1111) Φ1109 → Ctx W w1110 (R23 ++ R1111) Φ24) ∧ (∀ (k1112 : Nat), (∀ (w1113 : World) (R1114 : List Own), Ctx W w1113 (Own.blk k1112 [Value.int
  IntKind.i64 id, Value.int IntKind.i64 h0, Value.int IntKind.i64 h1, Value.slice p1104 k1105 k1106, Value.int IntKind.i64 0, Value.int IntKind.i64 0, Value.slice (some (Addr.mk k1054 0
  none)) 3 3, Value.slice (some (Addr.mk k1096 0 none)) 3 3, Value.slice (some (Addr.mk k938 0 none)) 3 3] 67 :: R1108 ++ R1114) Φ1109 → Ctx W w1113 (R23 ++ R1114) Φ24) ∧ ∀ (w1115 : World)
  (R1116 : List Own), Ctx W w1115 (Own.blk k1112 [Value.int IntKind.i64 id, Value.int IntKind.i64 h0, Value.int IntKind.i64 h1, Value.slice p1104 k1105 k1106, Value.int IntKind.i64 0,
  Value.int IntKind.i64 0, Value.slice (some (Addr.mk k1054 0 none)) 3 3, Value.slice (some (Addr.mk k1096 0 none)) 3 3, Value.slice (some (Addr.mk k938 0 none)) 3 3] 67 :: R1108 ++ R1116)
  Φ1109 → J (Value.pointer (some (Addr.mk k1112 0 none))) w1115) ∧ True) ∧ True) ∧ True) ∧ True) ∧ (((0 : Int) ≤ 3 ∧ (3 : Int) ≤ 3 ∧ (24 : Int) ≤ 281474976710656 ∧ (3 : Int) ≤
  9223372036854775807) ∧ ∀ (k1117 : Nat), (∀ (w1118 : World) (R1119 : List Own), Ctx W w1118 (Own.blk k1117 [Value.int IntKind.i64 0, Value.int IntKind.i64 0, Value.int IntKind.i64 0] 3 ::
  Own.blk k938 [Value.int IntKind.i64 0, Value.int IntKind.i64 0, Value.int IntKind.i64 0] 3 :: R19 ++ R1119) Φ20 → Ctx W w1118 (R23 ++ R1119) Φ24) ∧ (∀ (k1120 : Nat), (∀ (w1121 : World)
  (R1122 : List Own), Ctx W w1121 (Own.blk k1120 [] 55 :: Own.blk k1117 [Value.int IntKind.i64 0, Value.int IntKind.i64 0, Value.int IntKind.i64 0] 3 :: Own.blk k938 [Value.int IntKind.i64 0,
  Value.int IntKind.i64 0, Value.int IntKind.i64 0] 3 :: R19 ++ R1122) Φ20 → Ctx W w1121 (R23 ++ R1122) Φ24) ∧ (∀ (w1123 : World) (R1124 : List Own), Ctx W w1123 (Own.blk k1120 [] 55 ::
  Own.blk k1117 [Value.int IntKind.i64 0, Value.int IntKind.i64 0, Value.int IntKind.i64 0] 3 :: Own.blk k938 [Value.int IntKind.i64 0, Value.int IntKind.i64 0, Value.int IntKind.i64 0] 3 ::
  R19 ++ R1124) Φ20 → ∃ (p1125 : Option Addr), ∃ (k1126 : Nat), ∃ (k1127 : Nat), ∃ (w1128 : World), Sem.run Try.prog (builtin Builtin.append #[35, 35] 35 #[false, false] #[Value.slice (some
  (Addr.mk k1120 0 none)) 0 0, Value.slice logP logN logC]) w1123 = Result.ok (Next.value (Value.slice p1125 k1126 k1127)) w1128 ∧ ∃ (R1129 : List Own), ∃ (Φ1130 : PW), Stable Φ1130 ∧ Ctx W
  w1128 (R1129 ++ R1124) Φ1130 ∧ (∀ (w1131 : World) (R1132 : List Own), Ctx W w1131 (R1129 ++ R1132) Φ1130 → Ctx W w1131 (R23 ++ R1132) Φ24) ∧ (((0 : Int) ≤ 3 ∧ (3 : Int) ≤ 3 ∧ (3 : Int) ≤
  281474976710656 ∧ (3 : Int) ≤ 9223372036854775807) ∧ ∀ (k1133 : Nat), (∀ (w1134 : World) (R1135 : List Own), Ctx W w1134 (Own.blk k1133 [Value.bool false, Value.bool false, Value.bool
  false] 4 :: R1129 ++ R1135) Φ1130 → Ctx W w1134 (R23 ++ R1135) Φ24) ∧ (∀ (k1136 : Nat), (∀ (w1137 : World) (R1138 : List Own), Ctx W w1137 (Own.blk k1136 [Value.int IntKind.i64 id,
  Value.int IntKind.i64 h0, Value.int IntKind.i64 h1, Value.slice p1125 k1126 k1127, Value.int IntKind.i64 0, Value.int IntKind.i64 0, Value.slice (some (Addr.mk k1133 0 none)) 3 3,
  Value.slice (some (Addr.mk k1117 0 none)) 3 3, Value.slice (some (Addr.mk k938 0 none)) 3 3] 67 :: Own.blk k1133 [Value.bool false, Value.bool false, Value.bool false] 4 :: R1129 ++ R1138)
  Φ1130 → Ctx W w1137 (R23 ++ R1138) Φ24) ∧ ∀ (w1139 : World) (R1140 : List Own), Ctx W w1139 (Own.blk k1136 [Value.int IntKind.i64 id, Value.int IntKind.i64 h0, Value.int IntKind.i64 h1,
  Value.slice p1125 k1126 k1127, Value.int IntKind.i64 0, Value.int IntKind.i64 0, Value.slice (some (Addr.mk k1133 0 none)) 3 3, Value.slice (some (Addr.mk k1117 0 none)) 3 3, Value.slice
  (some (Addr.mk k938 0 none)) 3 3] 67 :: Own.blk k1133 [Value.bool false, Value.bool false, Value.bool false] 4 :: R1129 ++ R1140) Φ1130 → J (Value.pointer (some (Addr.mk k1136 0 none)))
  w1139) ∧ True) ∧ True) ∧ (((0 : Int) ≤ 3 ∧ (3 : Int) ≤ 3 ∧ (3 : Int) ≤ 281474976710656 ∧ (3 : Int) ≤ 9223372036854775807) ∧ ∀ (k1141 : Nat), (∀ (w1142 : World) (R1143 : List Own), Ctx W
  w1142 (Own.blk k1141 [Value.bool false, Value.bool false, Value.bool false] 4 :: Own.blk k1120 [] 55 :: Own.blk k1117 [Value.int IntKind.i64 0, Value.int IntKind.i64 0, Value.int
  IntKind.i64 0] 3 :: Own.blk k938 [Value.int IntKind.i64 0, Value.int IntKind.i64 0, Value.int IntKind.i64 0] 3 :: R19 ++ R1143) Φ20 → Ctx W w1142 (R23 ++ R1143) Φ24) ∧ (∀ (w1144 : World)
  (R1145 : List Own), Ctx W w1144 (Own.blk k1141 [Value.bool false, Value.bool false, Value.bool false] 4 :: Own.blk k1120 [] 55 :: Own.blk k1117 [Value.int IntKind.i64 0, Value.int
  IntKind.i64 0, Value.int IntKind.i64 0] 3 :: Own.blk k938 [Value.int IntKind.i64 0, Value.int IntKind.i64 0, Value.int IntKind.i64 0] 3 :: R19 ++ R1145) Φ20 → ∃ (p1146 : Option Addr), ∃
  (k1147 : Nat), ∃ (k1148 : Nat), ∃ (w1149 : World), Sem.run Try.prog (builtin Builtin.append #[35, 35] 35 #[false, false] #[Value.slice (some (Addr.mk k1120 0 none)) 0 0, Value.slice logP
  logN logC]) w1144 = Result.ok (Next.value (Value.slice p1146 k1147 k1148)) w1149 ∧ ∃ (R1150 : List Own), ∃ (Φ1151 : PW), Stable Φ1151 ∧ Ctx W w1149 (R1150 ++ R1145) Φ1151 ∧ (∀ (w1152 :
  World) (R1153 : List Own), Ctx W w1152 (R1150 ++ R1153) Φ1151 → Ctx W w1152 (R23 ++ R1153) Φ24) ∧ (∀ (k1154 : Nat), (∀ (w1155 : World) (R1156 : List Own), Ctx W w1155 (Own.blk k1154
  [Value.int IntKind.i64 id, Value.int IntKind.i64 h0, Value.int IntKind.i64 h1, Value.slice p1146 k1147 k1148, Value.int IntKind.i64 0, Value.int IntKind.i64 0, Value.slice (some (Addr.mk
  k1141 0 none)) 3 3, Value.slice (some (Addr.mk k1117 0 none)) 3 3, Value.slice (some (Addr.mk k938 0 none)) 3 3] 67 :: R1150 ++ R1156) Φ1151 → Ctx W w1155 (R23 ++ R1156) Φ24) ∧ ∀ (w1157 :
  World) (R1158 : List Own), Ctx W w1157 (Own.blk k1154 [Value.int IntKind.i64 id, Value.int IntKind.i64 h0, Value.int IntKind.i64 h1, Value.slice p1146 k1147 k1148, Value.int IntKind.i64 0,
  Value.int IntKind.i64 0, Value.slice (some (Addr.mk k1141 0 none)) 3 3, Value.slice (some (Addr.mk k1117 0 none)) 3 3, Value.slice (some (Addr.mk k938 0 none)) 3 3] 67 :: R1150 ++ R1158)
  Φ1151 → J (Value.pointer (some (Addr.mk k1154 0 none))) w1157) ∧ True) ∧ True) ∧ True) ∧ (((0 : Int) ≤ 3 ∧ (3 : Int) ≤ 3 ∧ (3 : Int) ≤ 281474976710656 ∧ (3 : Int) ≤ 9223372036854775807) ∧ ∀
  (k1159 : Nat), (∀ (w1160 : World) (R1161 : List Own), Ctx W w1160 (Own.blk k1159 [Value.bool false, Value.bool false, Value.bool false] 4 :: Own.blk k1117 [Value.int IntKind.i64 0,
  Value.int IntKind.i64 0, Value.int IntKind.i64 0] 3 :: Own.blk k938 [Value.int IntKind.i64 0, Value.int IntKind.i64 0, Value.int IntKind.i64 0] 3 :: R19 ++ R1161) Φ20 → Ctx W w1160 (R23 ++
  R1161) Φ24) ∧ (∀ (k1162 : Nat), (∀ (w1163 : World) (R1164 : List Own), Ctx W w1163 (Own.blk k1162 [] 55 :: Own.blk k1159 [Value.bool false, Value.bool false, Value.bool false] 4 :: Own.blk
  k1117 [Value.int IntKind.i64 0, Value.int IntKind.i64 0, Value.int IntKind.i64 0] 3 :: Own.blk k938 [Value.int IntKind.i64 0, Value.int IntKind.i64 0, Value.int IntKind.i64 0] 3 :: R19 ++
  R1164) Φ20 → Ctx W w1163 (R23 ++ R1164) Φ24) ∧ (∀ (w1165 : World) (R1166 : List Own), Ctx W w1165 (Own.blk k1162 [] 55 :: Own.blk k1159 [Value.bool false, Value.bool false, Value.bool
  false] 4 :: Own.blk k1117 [Value.int IntKind.i64 0, Value.int IntKind.i64 0, Value.int IntKind.i64 0] 3 :: Own.blk k938 [Value.int IntKind.i64 0, Value.int IntKind.i64 0, Value.int
  IntKind.i64 0] 3 :: R19 ++ R1166) Φ20 → ∃ (p1167 : Option Addr), ∃ (k1168 : Nat), ∃ (k1169 : Nat), ∃ (w1170 : World), Sem.run Try.prog (builtin Builtin.append #[35, 35] 35 #[false, false]
  #[Value.slice (some (Addr.mk k1162 0 none)) 0 0, Value.slice logP logN logC]) w1165 = Result.ok (Next.value (Value.slice p1167 k1168 k1169)) w1170 ∧ ∃ (R1171 : List Own), ∃ (Φ1172 : PW),
  Stable Φ1172 ∧ Ctx W w1170 (R1171 ++ R1166) Φ1172 ∧ (∀ (w1173 : World) (R1174 : List Own), Ctx W w1173 (R1171 ++ R1174) Φ1172 → Ctx W w1173 (R23 ++ R1174) Φ24) ∧ (∀ (k1175 : Nat), (∀ (w1176
  : World) (R1177 : List Own), Ctx W w1176 (Own.blk k1175 [Value.int IntKind.i64 id, Value.int IntKind.i64 h0, Value.int IntKind.i64 h1, Value.slice p1167 k1168 k1169, Value.int IntKind.i64
  0, Value.int IntKind.i64 0, Value.slice (some (Addr.mk k1159 0 none)) 3 3, Value.slice (some (Addr.mk k1117 0 none)) 3 3, Value.slice (some (Addr.mk k938 0 none)) 3 3] 67 :: R1171 ++ R1177)
  Φ1172 → Ctx W w1176 (R23 ++ R1177) Φ24) ∧ ∀ (w1178 : World) (R1179 : List Own), Ctx W w1178 (Own.blk k1175 [Value.int IntKind.i64 id, Value.int IntKind.i64 h0, Value.int IntKind.i64 h1,
  Value.slice p1167 k1168 k1169, Value.int IntKind.i64 0, Value.int IntKind.i64 0, Value.slice (some (Addr.mk k1159 0 none)) 3 3, Value.slice (some (Addr.mk k1117 0 none)) 3 3, Value.slice
  (some (Addr.mk k938 0 none)) 3 3] 67 :: R1171 ++ R1179) Φ1172 → J (Value.pointer (some (Addr.mk k1175 0 none))) w1178) ∧ True) ∧ True) ∧ True) ∧ True) ∧ True) ∧ True))))))))

theorem Berrataref08_New_run (id : Int) (h0 : Int) (h1 : Int) (logP : Option Addr) (logN logC : Nat) {W w : World} {R : List Own} {Φ : PW} [Stable Φ] {J : Value → World → Prop} (c : Ctx W w R Φ) (h : Berrataref08_New id h0 h1 logP logN logC W R Φ J) : Calls Try.prog F.errataref08_New #[.int .i64 id, .agg #[.int .i64 h0, .int .i64 h1], .slice logP logN logC] w fun e w' => ∃ v, e = .returned v ∧ J v w' :=
  vcFS_sound (H := { keep := some [0, 2, 4, 6, 44], track := [4], stages := [(3, [.tree (.rd 0 (.rd 1 (.rd 3 (.alt 2 (.alt 4 (.alt 5 (.alt 6 (.alt 7 (.rd 8 (.alt 9 (.done) (.no))) (.no)) (.alt 7 (.alt 6 (.rd 8 (.alt 9 (.done) (.no))) (.no)) (.no))) (.alt 6 (.alt 5 (.alt 7 (.rd 8 (.alt 9 (.done) (.no))) (.no)) (.alt 7 (.alt 5 (.rd 8 (.alt 9 (.done) (.no))) (.no)) (.no))) (.alt 7 (.alt 5 (.alt 6 (.rd 8 (.alt 9 (.done) (.no))) (.no)) (.alt 6 (.alt 5 (.rd 8 (.alt 9 (.done) (.no))) (.no)) (.no))) (.no)))) (.alt 5 (.alt 4 (.alt 6 (.alt 7 (.rd 8 (.alt 9 (.done) (.no))) (.no)) (.alt 7 (.alt 6 (.rd 8 (.alt 9 (.done) (.no))) (.no)) (.no))) (.alt 6 (.alt 4 (.alt 7 (.rd 8 (.alt 9 (.done) (.no))) (.no)) (.alt 7 (.alt 4 (.rd 8 (.alt 9 (.done) (.no))) (.no)) (.no))) (.alt 7 (.alt 4 (.alt 6 (.rd 8 (.alt 9 (.done) (.no))) (.no)) (.alt 6 (.alt 4 (.rd 8 (.alt 9 (.done) (.no))) (.no)) (.no))) (.no)))) (.alt 6 (.alt 4 (.alt 5 (.alt 7 (.rd 8 (.alt 9 (.done) (.no))) (.no)) (.alt 7 (.alt 5 (.rd 8 (.alt 9 (.done) (.no))) (.no)) (.no))) (.alt 5 (.alt 4 (.alt 7 (.rd 8 (.alt 9 (.done) (.no))) (.no)) (.alt 7 (.alt 4 (.rd 8 (.alt 9 (.done) (.no))) (.no)) (.no))) (.alt 7 (.alt 4 (.alt 5 (.rd 8 (.alt 9 (.done) (.no))) (.no)) (.alt 5 (.alt 4 (.rd 8 (.alt 9 (.done) (.no))) (.no)) (.no))) (.no)))) (.alt 7 (.alt 4 (.alt 5 (.alt 6 (.rd 8 (.alt 9 (.done) (.no))) (.no)) (.alt 6 (.alt 5 (.rd 8 (.alt 9 (.done) (.no))) (.no)) (.no))) (.alt 5 (.alt 4 (.alt 6 (.rd 8 (.alt 9 (.done) (.no))) (.no)) (.alt 6 (.alt 4 (.rd 8 (.alt 9 (.done) (.no))) (.no)) (.no))) (.alt 6 (.alt 4 (.alt 5 (.rd 8 (.alt 9 (.done) (.no))) (.no)) (.alt 5 (.alt 4 (.rd 8 (.alt 9 (.done) (.no))) (.no)) (.no))) (.no)))) (.no))))) (.alt 5 (.alt 2 (.alt 4 (.alt 6 (.alt 7 (.rd 8 (.alt 9 (.done) (.no))) (.no)) (.alt 7 (.alt 6 (.rd 8 (.alt 9 (.done) (.no))) (.no)) (.no))) (.alt 6 (.alt 4 (.alt 7 (.rd 8 (.alt 9 (.done) (.no))) (.no)) (.alt 7 (.alt 4 (.rd 8 (.alt 9 (.done) (.no))) (.no)) (.no))) (.alt 7 (.alt 4 (.alt 6 (.rd 8 (.alt 9 (.done) (.no))) (.no)) (.alt 6 (.alt 4 (.rd 8 (.alt 9 (.done) (.no))) (.no)) (.no))) (.no)))) (.alt 6 (.alt 2 (.alt 4 (.alt 7 (.rd 8 (.alt 9 (.done) (.no))) (.no)) (.alt 7 (.alt 4 (.rd 8 (.alt 9 (.done) (.no))) (.no)) (.no))) (.alt 7 (.alt 2 (.alt 4 (.rd 8 (.alt 9 (.done) (.no))) (.no)) (.no)) (.no))) (.alt 7 (.alt 2 (.alt 4 (.alt 6 (.rd 8 (.alt 9 (.done) (.no))) (.no)) (.alt 6 (.alt 4 (.rd 8 (.alt 9 (.done) (.no))) (.no)) (.no))) (.alt 6 (.alt 2 (.alt 4 (.rd 8 (.alt 9 (.done) (.no))) (.no)) (.no)) (.no))) (.no)))) (.alt 6 (.alt 2 (.alt 4 (.alt 5 (.alt 7 (.rd 8 (.alt 9 (.done) (.no))) (.no)) (.alt 7 (.alt 5 (.rd 8 (.alt 9 (.done) (.no))) (.no)) (.no))) (.alt 5 (.alt 4 (.alt 7 (.rd 8 (.alt 9 (.done) (.no))) (.no)) (.alt 7 (.alt 4 (.rd 8 (.alt 9 (.done) (.no))) (.no)) (.no))) (.alt 7 (.alt 4 (.alt 5 (.rd 8 (.alt 9 (.done) (.no))) (.no)) (.alt 5 (.alt 4 (.rd 8 (.alt 9 (.done) (.no))) (.no)) (.no))) (.no)))) (.alt 5 (.alt 2 (.alt 4 (.alt 7 (.rd 8 (.alt 9 (.done) (.no))) (.no)) (.alt 7 (.alt 4 (.rd 8 (.alt 9 (.done) (.no))) (.no)) (.no))) (.alt 7 (.alt 2 (.alt 4 (.rd 8 (.alt 9 (.done) (.no))) (.no)) (.no)) (.no))) (.alt 7 (.alt 2 (.alt 4 (.alt 5 (.rd 8 (.alt 9 (.done) (.no))) (.no)) (.alt 5 (.alt 4 (.rd 8 (.alt 9 (.done) (.no))) (.no)) (.no))) (.alt 5 (.alt 2 (.alt 4 (.rd 8 (.alt 9 (.done) (.no))) (.no)) (.no)) (.no))) (.no)))) (.alt 7 (.alt 2 (.alt 4 (.alt 5 (.alt 6 (.rd 8 (.alt 9 (.done) (.no))) (.no)) (.alt 6 (.alt 5 (.rd 8 (.alt 9 (.done) (.no))) (.no)) (.no))) (.alt 5 (.alt 4 (.alt 6 (.rd 8 (.alt 9 (.done) (.no))) (.no)) (.alt 6 (.alt 4 (.rd 8 (.alt 9 (.done) (.no))) (.no)) (.no))) (.alt 6 (.alt 4 (.alt 5 (.rd 8 (.alt 9 (.done) (.no))) (.no)) (.alt 5 (.alt 4 (.rd 8 (.alt 9 (.done) (.no))) (.no)) (.no))) (.no)))) (.alt 5 (.alt 2 (.alt 4 (.alt 6 (.rd 8 (.alt 9 (.done) (.no))) (.no)) (.alt 6 (.alt 4 (.rd 8 (.alt 9 (.done) (.no))) (.no)) (.no))) (.alt 6 (.alt 2 (.alt 4 (.rd 8 (.alt 9 (.done) (.no))) (.no)) (.no)) (.no))) (.alt 6 (.alt 2 (.alt 4 (.alt 5 (.rd 8 (.alt 9 (.done) (.no))) (.no)) (.alt 5 (.alt 4 (.rd 8 (.alt 9 (.done) (.no))) (.no)) (.no))) (.alt 5 (.alt 2 (.alt 4 (.rd 8 (.alt 9 (.done) (.no))) (.no)) (.no)) (.no))) (.no)))) (.no)))))))) 10, .stage [10] none])], split := [1] }) (by rw [show vcFS Try.prog W { keep := some [0, 2, 4, 6, 44], track := [4], stages := [(3, [.tree (.rd 0 (.rd 1 (.rd 3 (.alt 2 (.alt 4 (.alt 5 (.alt 6 (.alt 7 (.rd 8 (.alt 9 (.done) (.no))) (.no)) (.alt 7 (.alt 6 (.rd 8 (.alt 9 (.done) (.no))) (.no)) (.no))) (.alt 6 (.alt 5 (.alt 7 (.rd 8 (.alt 9 (.done) (.no))) (.no)) (.alt 7 (.alt 5 (.rd 8 (.alt 9 (.done) (.no))) (.no)) (.no))) (.alt 7 (.alt 5 (.alt 6 (.rd 8 (.alt 9 (.done) (.no))) (.no)) (.alt 6 (.alt 5 (.rd 8 (.alt 9 (.done) (.no))) (.no)) (.no))) (.no)))) (.alt 5 (.alt 4 (.alt 6 (.alt 7 (.rd 8 (.alt 9 (.done) (.no))) (.no)) (.alt 7 (.alt 6 (.rd 8 (.alt 9 (.done) (.no))) (.no)) (.no))) (.alt 6 (.alt 4 (.alt 7 (.rd 8 (.alt 9 (.done) (.no))) (.no)) (.alt 7 (.alt 4 (.rd 8 (.alt 9 (.done) (.no))) (.no)) (.no))) (.alt 7 (.alt 4 (.alt 6 (.rd 8 (.alt 9 (.done) (.no))) (.no)) (.alt 6 (.alt 4 (.rd 8 (.alt 9 (.done) (.no))) (.no)) (.no))) (.no)))) (.alt 6 (.alt 4 (.alt 5 (.alt 7 (.rd 8 (.alt 9 (.done) (.no))) (.no)) (.alt 7 (.alt 5 (.rd 8 (.alt 9 (.done) (.no))) (.no)) (.no))) (.alt 5 (.alt 4 (.alt 7 (.rd 8 (.alt 9 (.done) (.no))) (.no)) (.alt 7 (.alt 4 (.rd 8 (.alt 9 (.done) (.no))) (.no)) (.no))) (.alt 7 (.alt 4 (.alt 5 (.rd 8 (.alt 9 (.done) (.no))) (.no)) (.alt 5 (.alt 4 (.rd 8 (.alt 9 (.done) (.no))) (.no)) (.no))) (.no)))) (.alt 7 (.alt 4 (.alt 5 (.alt 6 (.rd 8 (.alt 9 (.done) (.no))) (.no)) (.alt 6 (.alt 5 (.rd 8 (.alt 9 (.done) (.no))) (.no)) (.no))) (.alt 5 (.alt 4 (.alt 6 (.rd 8 (.alt 9 (.done) (.no))) (.no)) (.alt 6 (.alt 4 (.rd 8 (.alt 9 (.done) (.no))) (.no)) (.no))) (.alt 6 (.alt 4 (.alt 5 (.rd 8 (.alt 9 (.done) (.no))) (.no)) (.alt 5 (.alt 4 (.rd 8 (.alt 9 (.done) (.no))) (.no)) (.no))) (.no)))) (.no))))) (.alt 5 (.alt 2 (.alt 4 (.alt 6 (.alt 7 (.rd 8 (.alt 9 (.done) (.no))) (.no)) (.alt 7 (.alt 6 (.rd 8 (.alt 9 (.done) (.no))) (.no)) (.no))) (.alt 6 (.alt 4 (.alt 7 (.rd 8 (.alt 9 (.done) (.no))) (.no)) (.alt 7 (.alt 4 (.rd 8 (.alt 9 (.done) (.no))) (.no)) (.no))) (.alt 7 (.alt 4 (.alt 6 (.rd 8 (.alt 9 (.done) (.no))) (.no)) (.alt 6 (.alt 4 (.rd 8 (.alt 9 (.done) (.no))) (.no)) (.no))) (.no)))) (.alt 6 (.alt 2 (.alt 4 (.alt 7 (.rd 8 (.alt 9 (.done) (.no))) (.no)) (.alt 7 (.alt 4 (.rd 8 (.alt 9 (.done) (.no))) (.no)) (.no))) (.alt 7 (.alt 2 (.alt 4 (.rd 8 (.alt 9 (.done) (.no))) (.no)) (.no)) (.no))) (.alt 7 (.alt 2 (.alt 4 (.alt 6 (.rd 8 (.alt 9 (.done) (.no))) (.no)) (.alt 6 (.alt 4 (.rd 8 (.alt 9 (.done) (.no))) (.no)) (.no))) (.alt 6 (.alt 2 (.alt 4 (.rd 8 (.alt 9 (.done) (.no))) (.no)) (.no)) (.no))) (.no)))) (.alt 6 (.alt 2 (.alt 4 (.alt 5 (.alt 7 (.rd 8 (.alt 9 (.done) (.no))) (.no)) (.alt 7 (.alt 5 (.rd 8 (.alt 9 (.done) (.no))) (.no)) (.no))) (.alt 5 (.alt 4 (.alt 7 (.rd 8 (.alt 9 (.done) (.no))) (.no)) (.alt 7 (.alt 4 (.rd 8 (.alt 9 (.done) (.no))) (.no)) (.no))) (.alt 7 (.alt 4 (.alt 5 (.rd 8 (.alt 9 (.done) (.no))) (.no)) (.alt 5 (.alt 4 (.rd 8 (.alt 9 (.done) (.no))) (.no)) (.no))) (.no)))) (.alt 5 (.alt 2 (.alt 4 (.alt 7 (.rd 8 (.alt 9 (.done) (.no))) (.no)) (.alt 7 (.alt 4 (.rd 8 (.alt 9 (.done) (.no))) (.no)) (.no))) (.alt 7 (.alt 2 (.alt 4 (.rd 8 (.alt 9 (.done) (.no))) (.no)) (.no)) (.no))) (.alt 7 (.alt 2 (.alt 4 (.alt 5 (.rd 8 (.alt 9 (.done) (.no))) (.no)) (.alt 5 (.alt 4 (.rd 8 (.alt 9 (.done) (.no))) (.no)) (.no))) (.alt 5 (.alt 2 (.alt 4 (.rd 8 (.alt 9 (.done) (.no))) (.no)) (.no)) (.no))) (.no)))) (.alt 7 (.alt 2 (.alt 4 (.alt 5 (.alt 6 (.rd 8 (.alt 9 (.done) (.no))) (.no)) (.alt 6 (.alt 5 (.rd 8 (.alt 9 (.done) (.no))) (.no)) (.no))) (.alt 5 (.alt 4 (.alt 6 (.rd 8 (.alt 9 (.done) (.no))) (.no)) (.alt 6 (.alt 4 (.rd 8 (.alt 9 (.done) (.no))) (.no)) (.no))) (.alt 6 (.alt 4 (.alt 5 (.rd 8 (.alt 9 (.done) (.no))) (.no)) (.alt 5 (.alt 4 (.rd 8 (.alt 9 (.done) (.no))) (.no)) (.no))) (.no)))) (.alt 5 (.alt 2 (.alt 4 (.alt 6 (.rd 8 (.alt 9 (.done) (.no))) (.no)) (.alt 6 (.alt 4 (.rd 8 (.alt 9 (.done) (.no))) (.no)) (.no))) (.alt 6 (.alt 2 (.alt 4 (.rd 8 (.alt 9 (.done) (.no))) (.no)) (.no)) (.no))) (.alt 6 (.alt 2 (.alt 4 (.alt 5 (.rd 8 (.alt 9 (.done) (.no))) (.no)) (.alt 5 (.alt 4 (.rd 8 (.alt 9 (.done) (.no))) (.no)) (.no))) (.alt 5 (.alt 2 (.alt 4 (.rd 8 (.alt 9 (.done) (.no))) (.no)) (.no)) (.no))) (.no)))) (.no)))))))) 10, .stage [10] none])], split := [1] } F.errataref08_New #[.int .i64 id, .agg #[.int .i64 h0, .int .i64 h1], .slice logP logN logC] R Φ J = Berrataref08_New id h0 h1 logP logN logC W R Φ J by kernel_rfl]; exact h) c

end Go.Proofs.Ytifgijoeckoojaa
end

