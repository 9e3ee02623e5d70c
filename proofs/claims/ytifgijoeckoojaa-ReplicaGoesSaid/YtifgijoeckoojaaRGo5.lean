/-
  The conditions of the walks of some functions, one formula each; 'B<f>_run' says that they suffice. The formulas are printed by a program; the kernel compares them with the functions' code.
-/
import Derived.Test.YtifgijoeckoojaaRGo4
import Derived.Test.YtifgijoeckoojaaRows

section
namespace Go.Proofs.Ytifgijoeckoojaa
set_option linter.unusedVariables false
set_option linter.unusedSimpArgs false
set_option maxRecDepth 100000
open Go.Vc

abbrev F.erratalaw08_ReplicaGoes : Nat := 4
abbrev F.erratalaw08_small : Nat := 8
abbrev F.erratalaw08_begin : Nat := 9
abbrev F.erratalaw08_few : Nat := 10
abbrev F.erratalaw08_cluster_step : Nat := 11
abbrev F.erratalaw08_cluster_done : Nat := 12
abbrev F.replica_Replica_Tick : Nat := 13
abbrev F.erratalaw08_cluster_flow : Nat := 14
abbrev F.replica_Replica_Role : Nat := 15
abbrev F.replica_Replica_Propose : Nat := 16
abbrev F.replica_Replica_Commit : Nat := 17
abbrev F.errataref08_SameRecs : Nat := 18
abbrev F.replica_Replica_Log : Nat := 19
abbrev F.replica_New : Nat := 21
abbrev F.replica_Replica_Hear : Nat := 23
abbrev F.erratalaw08_pick : Nat := 30
abbrev F.erratalaw08_cluster_arrive : Nat := 31
abbrev F.erratalaw08_cluster_start : Nat := 32
abbrev F.replica_Replica_all : Nat := 33
abbrev F.replica_Replica_others : Nat := 34
abbrev F.replica_Replica_message : Nat := 35
abbrev F.replica_Replica_term : Nat := 36
abbrev F.slices_Clone_api_Rec_api_Rec : Nat := 37
abbrev F.replica_between : Nat := 38
abbrev F.replica_sound : Nat := 39
abbrev F.replica_Replica_right : Nat := 41
abbrev F.replica_Replica_vote : Nat := 42
abbrev F.replica_Replica_voted : Nat := 43
abbrev F.replica_Replica_append : Nat := 44
abbrev F.replica_Replica_appended : Nat := 45
abbrev F.replica_Replica_entries : Nat := 55
abbrev F.slices_DeleteFunc_int_int : Nat := 56
abbrev F.replica_Replica_others_1 : Nat := 57
abbrev F.replica_answer : Nat := 58
abbrev F.replica_Replica_advance : Nat := 59
abbrev F.slices_IndexFunc_int_int : Nat := 61
/-- (*replica.Replica).Tick -/
-- loop at region 10: 59 ; blocks 3 o
-- known blocks: 2 , 3 o
def Breplica_Replica_Tick (rB rO : Nat) (W : World) (R : List Own) (Φ : PW) (J : Value → World → Prop) : Prop :=
  ∀ (b : Nat) (w0 : World) (R1 : List Own), Ctx W w0 (R ++ R1) Φ → ∃ (n2 : Int), w0.cell? (Addr.mk rB (rO + 4) none) = some (Value.int IntKind.i64 n2) ∧ Br (decide (n2 = 2)) (∀ (w3 : World)
  (R4 : List Own), Ctx W w3 (R ++ R4) Φ → Calls Try.prog F.replica_Replica_all #[Value.pointer (some (Addr.mk rB rO none))] w3 fun (e5 : Ending) (w6 : World) => ∃ (p7 : Option Addr), ∃ (k8 :
  Nat), ∃ (k9 : Nat), e5 = Ending.returned (Value.slice p7 k8 k9) ∧ ∃ (R10 : List Own), ∃ (Φ11 : PW), Stable Φ11 ∧ Ctx W w6 (R10 ++ R4) Φ11 ∧ ∀ (w12 : World) (R13 : List Own), Ctx W w12 (R10
  ++ R13) Φ11 → J (Value.agg #[Value.bool false, Value.int IntKind.i64 0, Value.int IntKind.i64 0, Value.int IntKind.i64 0, Value.slice none 0 0, Value.slice p7 k8 k9]) w12) (∀ (w14 : World)
  (R15 : List Own), Ctx W w14 (R ++ R15) Φ → ∃ (n16 : Int), w14.cell? (Addr.mk rB (rO + 1) none) = some (Value.int IntKind.i64 n16) ∧ Br (decide (n16 = 1099511627776)) (∀ (w17 : World) (R18 :
  List Own), Ctx W w17 (R ++ R18) Φ → J (Value.agg #[Value.bool false, Value.int IntKind.i64 0, Value.int IntKind.i64 0, Value.int IntKind.i64 0, Value.slice none 0 0, Value.slice none 0 0])
  w17) (∀ (w19 : World) (R20 : List Own), Ctx W w19 (R ++ R20) Φ → ∃ (n21 : Int), w19.cell? (Addr.mk rB rO none) = some (Value.int IntKind.i64 n21) ∧ ∀ (w22 : World) (R23 : List Own), Ctx W
  w22 (R ++ R23) Φ → ∃ (n24 : Int), w22.cell? (Addr.mk rB (rO + 1) none) = some (Value.int IntKind.i64 n24) ∧ I64 (n24 + 1) ∧ ∀ (w25 : World) (R26 : List Own), Ctx W w25 (R ++ R26) Φ →
  CanWrite w25 rB (rO + 1) 2 ∧ ∀ (w27 : World), w27 = w25.setCells rB (rO + 1) [Value.int IntKind.i64 (n24 + 1), Value.int IntKind.i64 n21] → ∃ (R28 : List Own), ∃ (Φ29 : PW), Stable Φ29 ∧
  Ctx W w27 (R28 ++ R26) Φ29 ∧ ∀ (w30 : World) (R31 : List Own), Ctx W w30 (R28 ++ R31) Φ29 → CanWrite w30 rB (rO + 4) 1 ∧ ∀ (w32 : World), w32 = w30.setCell (Addr.mk rB (rO + 4) none)
  (Value.int IntKind.i64 1) → ∃ (R33 : List Own), ∃ (Φ34 : PW), Stable Φ34 ∧ Ctx W w32 (R33 ++ R31) Φ34 ∧ ∀ (w35 : World) (R36 : List Own), Ctx W w35 (R33 ++ R36) Φ34 → CanWrite w35 rB (rO +
  6) 3 ∧ ∀ (w37 : World), w37 = w35.setCells rB (rO + 6) [Value.bool false, Value.bool false, Value.bool false] → ∃ (R38 : List Own), ∃ (Φ39 : PW), Stable Φ39 ∧ Ctx W w37 (R38 ++ R36) Φ39 ∧ ∃
  (R40 : List Own), ∃ (Φ41 : PW), Stable Φ41 ∧ (∀ (w42 : World) (R43 : List Own), Ctx W w42 (R38 ++ R43) Φ39 → Ctx W w42 (R40 ++ R43) Φ41) ∧ ∀ (w44 : World) (R45 : List Own), Ctx W w44 (R38
  ++ R45) Φ39 → ∃ (n46 : Int), w44.cell? (Addr.mk rB rO none) = some (Value.int IntKind.i64 n46) ∧ (0 ≤ n46 ∧ n46 < 3) ∧ ∀ (w47 : World) (R48 : List Own), Ctx W w47 (R38 ++ R48) Φ39 →
  CanWrite w47 rB (rO + 6 + n46.toNat) 1 ∧ ∀ (w49 : World), w49 = w47.setCell (Addr.mk rB (rO + 6 + n46.toNat) none) (Value.bool true) → ∃ (R50 : List Own), ∃ (Φ51 : PW), Stable Φ51 ∧ Ctx W
  w49 (R50 ++ R48) Φ51 ∧ (∀ (w52 : World) (R53 : List Own), Ctx W w52 (R50 ++ R53) Φ51 → Ctx W w52 (R40 ++ R53) Φ41) ∧ ∀ (w54 : World) (R55 : List Own), Ctx W w54 (R50 ++ R55) Φ51 → ∃ (n56 :
  Int), ∃ (n57 : Int), RowAt w54 rB (rO + 1) [Value.int IntKind.i64 n56, Value.int IntKind.i64 n57] ∧ ∀ (b : Nat) (w58 : World) (R59 : List Own), Ctx W w58 (R50 ++ R59) Φ51 → Calls Try.prog
  F.replica_Replica_others #[Value.pointer (some (Addr.mk rB rO none))] w58 fun (e60 : Ending) (w61 : World) => ∃ (p62 : Option Addr), ∃ (k63 : Nat), ∃ (k64 : Nat), e60 = Ending.returned
  (Value.slice p62 k63 k64) ∧ ∃ (R65 : List Own), ∃ (Φ66 : PW), Stable Φ66 ∧ Ctx W w61 (R65 ++ R59) Φ66 ∧ exI fun (I67 : Int → Bool → Int → Int → Int → Option Addr → Nat → Nat → Option Addr →
  Nat → Nat → List Own → PW → Nat → Prop) => (∃ (R68 : List Own), ∃ (Φ69 : PW), ∃ (k70 : Nat), Stable Φ69 ∧ (∀ (w71 : World) (R72 : List Own), Ctx W w71 (R65 ++ R72) Φ66 → Ctx W w71 (R68 ++
  R72) Φ69) ∧ I67 0 true n56 n57 0 none 0 0 none 0 0 R68 Φ69 k70) ∧ ∀ (n73 : Int) (c74 : Bool) (n75 n76 n77 : Int) (p78 : Option Addr) (k79 k80 : Nat) (p81 : Option Addr) (k82 k83 : Nat) (R84
  : List Own) (I85 : List Nat → World → Prop) (k86 : Nat), Stable I85 → I67 n73 c74 n75 n76 n77 p78 k79 k80 p81 k82 k83 R84 I85 k86 → Br (decide (n73 < (↑k63 : Int))) ((0 ≤ n73 ∧ n73 < (↑k63
  : Int)) ∧ ptrK none p62 fun (k87 k88 : Nat) => ∀ (w89 : World) (R90 : List Own), Ctx W w89 (R84 ++ R90) I85 → ∃ (n91 : Int), w89.cell? (Addr.mk k87 (k88 + n73.toNat) none) = some (Value.int
  IntKind.i64 n91) ∧ ∀ (w92 : World) (R93 : List Own), Ctx W w92 (R84 ++ R93) I85 → Calls Try.prog F.replica_Replica_message #[Value.pointer (some (Addr.mk rB rO none)), Value.int IntKind.i64
  0, Value.int IntKind.i64 n91] w92 fun (e94 : Ending) (w95 : World) => ∃ (n96 : Int), ∃ (n97 : Int), ∃ (n98 : Int), ∃ (n99 : Int), ∃ (n100 : Int), ∃ (n101 : Int), ∃ (n102 : Int), ∃ (c103 :
  Bool), ∃ (p104 : Option Addr), ∃ (k105 : Nat), ∃ (k106 : Nat), e94 = Ending.returned (Value.agg #[Value.int IntKind.i64 n96, Value.int IntKind.i64 n97, Value.int IntKind.i64 n98, Value.int
  IntKind.i64 n99, Value.int IntKind.i64 n100, Value.int IntKind.i64 n101, Value.int IntKind.i64 n102, Value.bool c103, Value.slice p104 k105 k106]) ∧ ∃ (R107 : List Own), ∃ (Φ108 : PW),
  Stable Φ108 ∧ Ctx W w95 (R107 ++ R93) Φ108 ∧ ∀ (k109 : Nat) (w110 : World) (R111 : List Own), Ctx W w110 (Own.blk k109 [Value.int IntKind.i64 0, Value.int IntKind.i64 0, Value.int
  IntKind.i64 0, Value.int IntKind.i64 0, Value.int IntKind.i64 0, Value.int IntKind.i64 0, Value.int IntKind.i64 0, Value.bool false, Value.slice none 0 0] 37 :: R107 ++ R111) Φ108 →
  CanWrite w110 k109 0 9 ∧ ∀ (w112 : World), w112 = w110.setCells k109 0 [Value.int IntKind.i64 n96, Value.int IntKind.i64 n97, Value.int IntKind.i64 n98, Value.int IntKind.i64 n99, Value.int
  IntKind.i64 n100, Value.int IntKind.i64 n101, Value.int IntKind.i64 n102, Value.bool c103, Value.slice p104 k105 k106] → ∃ (R113 : List Own), ∃ (Φ114 : PW), Stable Φ114 ∧ Ctx W w112 (R113
  ++ R111) Φ114 ∧ ∃ (R115 : List Own), ∃ (Φ116 : PW), Stable Φ116 ∧ (∀ (w117 : World) (R118 : List Own), Ctx W w117 (R113 ++ R118) Φ114 → Ctx W w117 (R115 ++ R118) Φ116) ∧ ∃ (p119 : Option
  Addr), ∃ (k120 : Nat), ∃ (k121 : Nat), (∀ (w122 : World) (R123 : List Own), Ctx W w122 (R115 ++ R123) Φ116 → ∃ (p124 : Option Addr), ∃ (k125 : Nat), ∃ (k126 : Nat), w122.cell? (Addr.mk rB
  (rO + 3) none) = some (Value.slice p124 k125 k126) ∧ Value.slice p124 k125 k126 = Value.slice p119 k120 k121) ∧ ∃ (p127 : Option Addr), ∃ (k128 : Nat), ∃ (k129 : Nat), (∀ (w130 : World)
  (R131 : List Own), Ctx W w130 (R115 ++ R131) Φ116 → ∃ (p132 : Option Addr), ∃ (k133 : Nat), ∃ (k134 : Nat), w130.cell? (Addr.mk rB (rO + 3) none) = some (Value.slice p132 k133 k134) ∧
  Value.slice p132 k133 k134 = Value.slice p127 k128 k129) ∧ ∀ (w135 : World) (R136 : List Own), Ctx W w135 (R113 ++ R136) Φ114 → Calls Try.prog F.replica_Replica_term #[Value.pointer (some
  (Addr.mk rB rO none)), Value.int IntKind.i64 (↑k128 : Int)] w135 fun (e137 : Ending) (w138 : World) => ∃ (n139 : Int), e137 = Ending.returned (Value.int IntKind.i64 n139) ∧ ∃ (R140 : List
  Own), ∃ (Φ141 : PW), Stable Φ141 ∧ Ctx W w138 (R140 ++ R136) Φ141 ∧ (∀ (w142 : World) (R143 : List Own), Ctx W w142 (R140 ++ R143) Φ141 → Ctx W w142 (R115 ++ R143) Φ116) ∧ ∀ (w144 : World)
  (R145 : List Own), Ctx W w144 (R140 ++ R145) Φ141 → CanWrite w144 k109 4 1 ∧ ∀ (w146 : World), w146 = w144.setCell (Addr.mk k109 4 none) (Value.int IntKind.i64 (↑k120 : Int)) → ∃ (R147 :
  List Own), ∃ (Φ148 : PW), Stable Φ148 ∧ Ctx W w146 (R147 ++ R145) Φ148 ∧ (∀ (w149 : World) (R150 : List Own), Ctx W w149 (R147 ++ R150) Φ148 → Ctx W w149 (R115 ++ R150) Φ116) ∧ ∀ (w151 :
  World) (R152 : List Own), Ctx W w151 (R147 ++ R152) Φ148 → CanWrite w151 k109 5 1 ∧ ∀ (w153 : World), w153 = w151.setCell (Addr.mk k109 5 none) (Value.int IntKind.i64 n139) → ∃ (R154 : List
  Own), ∃ (Φ155 : PW), Stable Φ155 ∧ Ctx W w153 (R154 ++ R152) Φ155 ∧ ∀ (w156 : World) (R157 : List Own), Ctx W w156 (R154 ++ R157) Φ155 → ∃ (n158 : Int), ∃ (n159 : Int), ∃ (n160 : Int), ∃
  (n161 : Int), ∃ (n162 : Int), ∃ (n163 : Int), ∃ (n164 : Int), ∃ (c165 : Bool), ∃ (p166 : Option Addr), ∃ (k167 : Nat), ∃ (k168 : Nat), RowAt w156 k109 0 [Value.int IntKind.i64 n158,
  Value.int IntKind.i64 n159, Value.int IntKind.i64 n160, Value.int IntKind.i64 n161, Value.int IntKind.i64 n162, Value.int IntKind.i64 n163, Value.int IntKind.i64 n164, Value.bool c165,
  Value.slice p166 k167 k168] ∧ ∀ (k169 : Nat) (w170 : World) (R171 : List Own), Ctx W w170 (Own.blk k169 [Value.int IntKind.i64 n158, Value.int IntKind.i64 n159, Value.int IntKind.i64 n160,
  Value.int IntKind.i64 n161, Value.int IntKind.i64 n162, Value.int IntKind.i64 n163, Value.int IntKind.i64 n164, Value.bool c165, Value.slice p166 k167 k168] 37 :: R154 ++ R171) Φ155 → ∃
  (p172 : Option Addr), ∃ (k173 : Nat), ∃ (k174 : Nat), ∃ (w175 : World), Sem.run Try.prog (builtin Builtin.append #[27, 27] 27 #[false, false] #[Value.slice p81 k82 k83, Value.slice (some
  (Addr.mk k169 0 none)) 1 1]) w170 = Result.ok (Next.value (Value.slice p172 k173 k174)) w175 ∧ ∃ (R176 : List Own), ∃ (Φ177 : PW), Stable Φ177 ∧ Ctx W w175 (R176 ++ R171) Φ177 ∧ I64 (n73 +
  1) ∧ ∃ (R178 : List Own), ∃ (Φ179 : PW), ∃ (k180 : Nat), Stable Φ179 ∧ (∀ (w181 : World) (R182 : List Own), Ctx W w181 (R176 ++ R182) Φ177 → Ctx W w181 (R178 ++ R182) Φ179) ∧ I67 (n73 + 1)
  c74 n75 n76 n77 p78 k79 k80 p172 k173 k174 R178 Φ179 k180 ∧ k180 < k86) (∀ (w183 : World) (R184 : List Own), Ctx W w183 (R84 ++ R184) I85 → J (Value.agg #[Value.bool c74, Value.int
  IntKind.i64 n75, Value.int IntKind.i64 n76, Value.int IntKind.i64 n77, Value.slice p78 k79 k80, Value.slice p81 k82 k83]) w183)))

theorem Breplica_Replica_Tick_run (rB rO : Nat) {W w : World} {R : List Own} {Φ : PW} [Stable Φ] {J : Value → World → Prop} (c : Ctx W w R Φ) (h : Breplica_Replica_Tick rB rO W R Φ J) : Calls Try.prog F.replica_Replica_Tick #[.pointer (some ⟨rB, rO, none⟩)] w fun e w' => ∃ v, e = .returned v ∧ J v w' :=
  vcFS_sound (H := { keep := some [0, 2, 3, 5, 6, 11, 20, 57, 58, 59, 60], track := [2, 3], stages := [(5, [.stage [0, 1, 7, 2, 8, 3, 9, 4, 10, 5, 6, 11] none, .stage [12] none, .stage [13] (some 14)]), (7, [.late [0, 1, 2, 3, 4, 7] [0, 1, 2, 5, 3, 6, 4, 7] [(8, [])]]), (13, [.held [(0, true), (5, true), (6, true), (1, true), (7, true), (2, true), (8, true), (3, true), (9, true), (4, true), (10, true), (12, true), (11, false), (13, false)], .stage [14] (some 15)])], loops := [(10, [(59, .one (.int .i64))], [(3, .agg [.bool, .int .i64, .int .i64, .int .i64, .slice, .slice])])] }) (by rw [show vcFS Try.prog W { keep := some [0, 2, 3, 5, 6, 11, 20, 57, 58, 59, 60], track := [2, 3], stages := [(5, [.stage [0, 1, 7, 2, 8, 3, 9, 4, 10, 5, 6, 11] none, .stage [12] none, .stage [13] (some 14)]), (7, [.late [0, 1, 2, 3, 4, 7] [0, 1, 2, 5, 3, 6, 4, 7] [(8, [])]]), (13, [.held [(0, true), (5, true), (6, true), (1, true), (7, true), (2, true), (8, true), (3, true), (9, true), (4, true), (10, true), (12, true), (11, false), (13, false)], .stage [14] (some 15)])], loops := [(10, [(59, .one (.int .i64))], [(3, .agg [.bool, .int .i64, .int .i64, .int .i64, .slice, .slice])])] } F.replica_Replica_Tick #[.pointer (some ⟨rB, rO, none⟩)] R Φ J = Breplica_Replica_Tick rB rO W R Φ J by kernel_rfl]; exact h) c

/-- (*replica.Replica).Propose -/
-- known blocks: 7 x
def Breplica_Replica_Propose (rB rO : Nat) (data : ByteArray) (W : World) (R : List Own) (Φ : PW) (J : Value → World → Prop) : Prop :=
  ∀ (k0 : Nat) (w1 : World) (R2 : List Own), Ctx W w1 (Own.blk k0 [Value.bool false, Value.int IntKind.i64 0, Value.int IntKind.i64 0, Value.int IntKind.i64 0, Value.slice none 0 0,
  Value.slice none 0 0] 45 :: R ++ R2) Φ → ∃ (n3 : Int), w1.cell? (Addr.mk rB (rO + 4) none) = some (Value.int IntKind.i64 n3) ∧ Br (decide (n3 ≠ 2)) (∀ (w4 : World) (R5 : List Own), Ctx W w4
  (Own.blk k0 [Value.bool false, Value.int IntKind.i64 0, Value.int IntKind.i64 0, Value.int IntKind.i64 0, Value.slice none 0 0, Value.slice none 0 0] 45 :: R ++ R5) Φ → CanWrite w4 k0 0 6 ∧
  ∀ (w6 : World), w6 = w4.setCells k0 0 [Value.bool false, Value.int IntKind.i64 0, Value.int IntKind.i64 0, Value.int IntKind.i64 0, Value.slice none 0 0, Value.slice none 0 0] → ∃ (R7 :
  List Own), ∃ (Φ8 : PW), Stable Φ8 ∧ Ctx W w6 (R7 ++ R5) Φ8 ∧ ∀ (w9 : World) (R10 : List Own), Ctx W w9 (R7 ++ R10) Φ8 → ∃ (c11 : Bool), ∃ (n12 : Int), ∃ (n13 : Int), ∃ (n14 : Int), ∃ (p15 :
  Option Addr), ∃ (k16 : Nat), ∃ (k17 : Nat), ∃ (p18 : Option Addr), ∃ (k19 : Nat), ∃ (k20 : Nat), RowAt w9 k0 0 [Value.bool c11, Value.int IntKind.i64 n12, Value.int IntKind.i64 n13,
  Value.int IntKind.i64 n14, Value.slice p15 k16 k17, Value.slice p18 k19 k20] ∧ ∀ (w21 : World) (R22 : List Own), Ctx W w21 (R7 ++ R22) Φ8 → J (Value.tuple #[Value.int IntKind.i64 0,
  Value.int IntKind.i64 24, Value.agg #[Value.bool c11, Value.int IntKind.i64 n12, Value.int IntKind.i64 n13, Value.int IntKind.i64 n14, Value.slice p15 k16 k17, Value.slice p18 k19 k20]])
  w21) (Br (decide (2000 < (↑data.size : Int))) (∀ (w23 : World) (R24 : List Own), Ctx W w23 (Own.blk k0 [Value.bool false, Value.int IntKind.i64 0, Value.int IntKind.i64 0, Value.int
  IntKind.i64 0, Value.slice none 0 0, Value.slice none 0 0] 45 :: R ++ R24) Φ → CanWrite w23 k0 0 6 ∧ ∀ (w25 : World), w25 = w23.setCells k0 0 [Value.bool false, Value.int IntKind.i64 0,
  Value.int IntKind.i64 0, Value.int IntKind.i64 0, Value.slice none 0 0, Value.slice none 0 0] → ∃ (R26 : List Own), ∃ (Φ27 : PW), Stable Φ27 ∧ Ctx W w25 (R26 ++ R24) Φ27 ∧ ∀ (w28 : World)
  (R29 : List Own), Ctx W w28 (R26 ++ R29) Φ27 → ∃ (c30 : Bool), ∃ (n31 : Int), ∃ (n32 : Int), ∃ (n33 : Int), ∃ (p34 : Option Addr), ∃ (k35 : Nat), ∃ (k36 : Nat), ∃ (p37 : Option Addr), ∃
  (k38 : Nat), ∃ (k39 : Nat), RowAt w28 k0 0 [Value.bool c30, Value.int IntKind.i64 n31, Value.int IntKind.i64 n32, Value.int IntKind.i64 n33, Value.slice p34 k35 k36, Value.slice p37 k38
  k39] ∧ ∀ (w40 : World) (R41 : List Own), Ctx W w40 (R26 ++ R41) Φ27 → J (Value.tuple #[Value.int IntKind.i64 0, Value.int IntKind.i64 1, Value.agg #[Value.bool c30, Value.int IntKind.i64
  n31, Value.int IntKind.i64 n32, Value.int IntKind.i64 n33, Value.slice p34 k35 k36, Value.slice p37 k38 k39]]) w40) (∀ (w42 : World) (R43 : List Own), Ctx W w42 (Own.blk k0 [Value.bool
  false, Value.int IntKind.i64 0, Value.int IntKind.i64 0, Value.int IntKind.i64 0, Value.slice none 0 0, Value.slice none 0 0] 45 :: R ++ R43) Φ → ∃ (p44 : Option Addr), ∃ (k45 : Nat), ∃
  (k46 : Nat), w42.cell? (Addr.mk rB (rO + 3) none) = some (Value.slice p44 k45 k46) ∧ Br (decide ((↑k45 : Int) = 4000)) (∀ (w47 : World) (R48 : List Own), Ctx W w47 (Own.blk k0 [Value.bool
  false, Value.int IntKind.i64 0, Value.int IntKind.i64 0, Value.int IntKind.i64 0, Value.slice none 0 0, Value.slice none 0 0] 45 :: R ++ R48) Φ → CanWrite w47 k0 0 6 ∧ ∀ (w49 : World), w49
  = w47.setCells k0 0 [Value.bool false, Value.int IntKind.i64 0, Value.int IntKind.i64 0, Value.int IntKind.i64 0, Value.slice none 0 0, Value.slice none 0 0] → ∃ (R50 : List Own), ∃ (Φ51 :
  PW), Stable Φ51 ∧ Ctx W w49 (R50 ++ R48) Φ51 ∧ ∀ (w52 : World) (R53 : List Own), Ctx W w52 (R50 ++ R53) Φ51 → ∃ (c54 : Bool), ∃ (n55 : Int), ∃ (n56 : Int), ∃ (n57 : Int), ∃ (p58 : Option
  Addr), ∃ (k59 : Nat), ∃ (k60 : Nat), ∃ (p61 : Option Addr), ∃ (k62 : Nat), ∃ (k63 : Nat), RowAt w52 k0 0 [Value.bool c54, Value.int IntKind.i64 n55, Value.int IntKind.i64 n56, Value.int
  IntKind.i64 n57, Value.slice p58 k59 k60, Value.slice p61 k62 k63] ∧ ∀ (w64 : World) (R65 : List Own), Ctx W w64 (R50 ++ R65) Φ51 → J (Value.tuple #[Value.int IntKind.i64 0, Value.int
  IntKind.i64 6, Value.agg #[Value.bool c54, Value.int IntKind.i64 n55, Value.int IntKind.i64 n56, Value.int IntKind.i64 n57, Value.slice p58 k59 k60, Value.slice p61 k62 k63]]) w64) (∀ (w66
  : World) (R67 : List Own), Ctx W w66 (Own.blk k0 [Value.bool false, Value.int IntKind.i64 0, Value.int IntKind.i64 0, Value.int IntKind.i64 0, Value.slice none 0 0, Value.slice none 0 0] 45
  :: R ++ R67) Φ → ∃ (n68 : Int), w66.cell? (Addr.mk rB (rO + 1) none) = some (Value.int IntKind.i64 n68) ∧ ∀ (b : Nat), ∃ (R69 : List Own), ∃ (Φ70 : PW), Stable Φ70 ∧ (∀ (w71 : World) (R72 :
  List Own), Ctx W w71 (Own.blk k0 [Value.bool false, Value.int IntKind.i64 0, Value.int IntKind.i64 0, Value.int IntKind.i64 0, Value.slice none 0 0, Value.slice none 0 0] 45 :: R ++ R72) Φ
  → Ctx W w71 (R69 ++ R72) Φ70) ∧ ∃ (p73 : Option Addr), ∃ (k74 : Nat), ∃ (k75 : Nat), (∀ (w76 : World) (R77 : List Own), Ctx W w76 (R69 ++ R77) Φ70 → ∃ (p78 : Option Addr), ∃ (k79 : Nat), ∃
  (k80 : Nat), w76.cell? (Addr.mk rB (rO + 3) none) = some (Value.slice p78 k79 k80) ∧ Value.slice p78 k79 k80 = Value.slice p73 k74 k75) ∧ ∀ (k81 : Nat), (∀ (w82 : World) (R83 : List Own),
  Ctx W w82 (Own.blk k81 [Value.int IntKind.i64 n68, Value.string data] 55 :: Own.blk k0 [Value.bool false, Value.int IntKind.i64 0, Value.int IntKind.i64 0, Value.int IntKind.i64 0,
  Value.slice none 0 0, Value.slice none 0 0] 45 :: R ++ R83) Φ → Ctx W w82 (R69 ++ R83) Φ70) ∧ ∀ (w84 : World) (R85 : List Own), Ctx W w84 (Own.blk k81 [Value.int IntKind.i64 n68,
  Value.string data] 55 :: Own.blk k0 [Value.bool false, Value.int IntKind.i64 0, Value.int IntKind.i64 0, Value.int IntKind.i64 0, Value.slice none 0 0, Value.slice none 0 0] 45 :: R ++ R85)
  Φ → ∃ (p86 : Option Addr), ∃ (k87 : Nat), ∃ (k88 : Nat), ∃ (w89 : World), Sem.run Try.prog (builtin Builtin.append #[35, 35] 35 #[false, false] #[Value.slice p73 k74 k75, Value.slice (some
  (Addr.mk k81 0 none)) 1 1]) w84 = Result.ok (Next.value (Value.slice p86 k87 k88)) w89 ∧ ∃ (R90 : List Own), ∃ (Φ91 : PW), Stable Φ91 ∧ Ctx W w89 (R90 ++ R85) Φ91 ∧ (∀ (w92 : World) (R93 :
  List Own), Ctx W w92 (R90 ++ R93) Φ91 → Ctx W w92 (R69 ++ R93) Φ70) ∧ ∀ (w94 : World) (R95 : List Own), Ctx W w94 (R90 ++ R95) Φ91 → CanWrite w94 rB (rO + 3) 1 ∧ ∀ (w96 : World), w96 =
  w94.setCell (Addr.mk rB (rO + 3) none) (Value.slice p86 k87 k88) → ∃ (R97 : List Own), ∃ (Φ98 : PW), Stable Φ98 ∧ Ctx W w96 (R97 ++ R95) Φ98 ∧ ∃ (R99 : List Own), ∃ (Φ100 : PW), Stable Φ100
  ∧ (∀ (w101 : World) (R102 : List Own), Ctx W w101 (R97 ++ R102) Φ98 → Ctx W w101 (R99 ++ R102) Φ100) ∧ ∃ (p103 : Option Addr), ∃ (k104 : Nat), ∃ (k105 : Nat), (∀ (w106 : World) (R107 : List
  Own), Ctx W w106 (R99 ++ R107) Φ100 → ∃ (p108 : Option Addr), ∃ (k109 : Nat), ∃ (k110 : Nat), w106.cell? (Addr.mk rB (rO + 3) none) = some (Value.slice p108 k109 k110) ∧ Value.slice p108
  k109 k110 = Value.slice p103 k104 k105) ∧ ∃ (p111 : Option Addr), ∃ (k112 : Nat), ∃ (k113 : Nat), (∀ (w114 : World) (R115 : List Own), Ctx W w114 (R99 ++ R115) Φ100 → ∃ (p116 : Option
  Addr), ∃ (k117 : Nat), ∃ (k118 : Nat), w114.cell? (Addr.mk rB (rO + 3) none) = some (Value.slice p116 k117 k118) ∧ Value.slice p116 k117 k118 = Value.slice p111 k112 k113) ∧ (∀ (k119 :
  Nat), (∀ (w120 : World) (R121 : List Own), Ctx W w120 (Own.blk k119 [Value.int IntKind.i64 n68, Value.string data] 55 :: R97 ++ R121) Φ98 → Ctx W w120 (R99 ++ R121) Φ100) ∧ (∀ (w122 :
  World) (R123 : List Own), Ctx W w122 (Own.blk k119 [Value.int IntKind.i64 n68, Value.string data] 55 :: R97 ++ R123) Φ98 → Calls Try.prog F.replica_Replica_all #[Value.pointer (some
  (Addr.mk rB rO none))] w122 fun (e124 : Ending) (w125 : World) => ∃ (p126 : Option Addr), ∃ (k127 : Nat), ∃ (k128 : Nat), e124 = Ending.returned (Value.slice p126 k127 k128) ∧ ∃ (R129 :
  List Own), ∃ (Φ130 : PW), Stable Φ130 ∧ Ctx W w125 (R129 ++ R123) Φ130 ∧ (∀ (w131 : World) (R132 : List Own), Ctx W w131 (R129 ++ R132) Φ130 → Ctx W w131 (R99 ++ R132) Φ100) ∧ (∀ (w133 :
  World) (R134 : List Own), Ctx W w133 (R129 ++ R134) Φ130 → CanWrite w133 k0 0 6 ∧ ∀ (w135 : World), w135 = w133.setCells k0 0 [Value.bool false, Value.int IntKind.i64 0, Value.int
  IntKind.i64 0, Value.int IntKind.i64 (↑k112 : Int), Value.slice (some (Addr.mk k119 0 none)) 1 1, Value.slice p126 k127 k128] → ∃ (R136 : List Own), ∃ (Φ137 : PW), Stable Φ137 ∧ Ctx W w135
  (R136 ++ R134) Φ137 ∧ (∀ (w138 : World) (R139 : List Own), Ctx W w138 (R136 ++ R139) Φ137 → Ctx W w138 (R99 ++ R139) Φ100) ∧ ∀ (w140 : World) (R141 : List Own), Ctx W w140 (R136 ++ R141)
  Φ137 → ∃ (c142 : Bool), ∃ (n143 : Int), ∃ (n144 : Int), ∃ (n145 : Int), ∃ (p146 : Option Addr), ∃ (k147 : Nat), ∃ (k148 : Nat), ∃ (p149 : Option Addr), ∃ (k150 : Nat), ∃ (k151 : Nat), RowAt
  w140 k0 0 [Value.bool c142, Value.int IntKind.i64 n143, Value.int IntKind.i64 n144, Value.int IntKind.i64 n145, Value.slice p146 k147 k148, Value.slice p149 k150 k151] ∧ ∀ (w152 : World)
  (R153 : List Own), Ctx W w152 (R136 ++ R153) Φ137 → J (Value.tuple #[Value.int IntKind.i64 (↑k104 : Int), Value.int IntKind.i64 0, Value.agg #[Value.bool c142, Value.int IntKind.i64 n143,
  Value.int IntKind.i64 n144, Value.int IntKind.i64 n145, Value.slice p146 k147 k148, Value.slice p149 k150 k151]]) w152) ∧ True) ∧ True) ∧ (∀ (w154 : World) (R155 : List Own), Ctx W w154
  (R97 ++ R155) Φ98 → Calls Try.prog F.replica_Replica_all #[Value.pointer (some (Addr.mk rB rO none))] w154 fun (e156 : Ending) (w157 : World) => ∃ (p158 : Option Addr), ∃ (k159 : Nat), ∃
  (k160 : Nat), e156 = Ending.returned (Value.slice p158 k159 k160) ∧ ∃ (R161 : List Own), ∃ (Φ162 : PW), Stable Φ162 ∧ Ctx W w157 (R161 ++ R155) Φ162 ∧ (∀ (w163 : World) (R164 : List Own),
  Ctx W w163 (R161 ++ R164) Φ162 → Ctx W w163 (R99 ++ R164) Φ100) ∧ (∀ (k165 : Nat), (∀ (w166 : World) (R167 : List Own), Ctx W w166 (Own.blk k165 [Value.int IntKind.i64 n68, Value.string
  data] 55 :: R161 ++ R167) Φ162 → Ctx W w166 (R99 ++ R167) Φ100) ∧ (∀ (w168 : World) (R169 : List Own), Ctx W w168 (Own.blk k165 [Value.int IntKind.i64 n68, Value.string data] 55 :: R161 ++
  R169) Φ162 → CanWrite w168 k0 0 6 ∧ ∀ (w170 : World), w170 = w168.setCells k0 0 [Value.bool false, Value.int IntKind.i64 0, Value.int IntKind.i64 0, Value.int IntKind.i64 (↑k112 : Int),
  Value.slice (some (Addr.mk k165 0 none)) 1 1, Value.slice p158 k159 k160] → ∃ (R171 : List Own), ∃ (Φ172 : PW), Stable Φ172 ∧ Ctx W w170 (R171 ++ R169) Φ172 ∧ (∀ (w173 : World) (R174 : List
  Own), Ctx W w173 (R171 ++ R174) Φ172 → Ctx W w173 (R99 ++ R174) Φ100) ∧ ∀ (w175 : World) (R176 : List Own), Ctx W w175 (R171 ++ R176) Φ172 → ∃ (c177 : Bool), ∃ (n178 : Int), ∃ (n179 : Int),
  ∃ (n180 : Int), ∃ (p181 : Option Addr), ∃ (k182 : Nat), ∃ (k183 : Nat), ∃ (p184 : Option Addr), ∃ (k185 : Nat), ∃ (k186 : Nat), RowAt w175 k0 0 [Value.bool c177, Value.int IntKind.i64 n178,
  Value.int IntKind.i64 n179, Value.int IntKind.i64 n180, Value.slice p181 k182 k183, Value.slice p184 k185 k186] ∧ ∀ (w187 : World) (R188 : List Own), Ctx W w187 (R171 ++ R188) Φ172 → J
  (Value.tuple #[Value.int IntKind.i64 (↑k104 : Int), Value.int IntKind.i64 0, Value.agg #[Value.bool c177, Value.int IntKind.i64 n178, Value.int IntKind.i64 n179, Value.int IntKind.i64 n180,
  Value.slice p181 k182 k183, Value.slice p184 k185 k186]]) w187) ∧ True) ∧ True) ∧ True)))

theorem Breplica_Replica_Propose_run (rB rO : Nat) (data : ByteArray) {W w : World} {R : List Own} {Φ : PW} [Stable Φ] {J : Value → World → Prop} (c : Ctx W w R Φ) (h : Breplica_Replica_Propose rB rO data W R Φ J) : Calls Try.prog F.replica_Replica_Propose #[.pointer (some ⟨rB, rO, none⟩), .string data] w fun e w' => ∃ v, e = .returned v ∧ J v w' :=
  vcFS_sound (H := { keep := some [0, 1, 4, 5, 6, 7, 8, 15, 20], track := [7], stages := [(8, [.held [(0, true), (1, true), (5, true), (2, true), (3, true), (4, true), (6, false), (7, false)], .stage [8] none, .stage [9] (some 10)]), (9, [.tree (.rd 0 (.rd 5 (.rd 10 (.rd 12 (.rd 1 (.rd 6 (.rd 2 (.rd 7 (.rd 3 (.rd 8 (.rd 4 (.rd 9 (.alt 11 (.alt 13 (.rd 14 (.rd 15 (.rd 16 (.alt 17 (.done) (.no))))) (.no)) (.alt 13 (.rd 15 (.rd 16 (.alt 11 (.rd 14 (.alt 17 (.done) (.no))) (.no)))) (.no))))))))))))))) 18])] }) (by rw [show vcFS Try.prog W { keep := some [0, 1, 4, 5, 6, 7, 8, 15, 20], track := [7], stages := [(8, [.held [(0, true), (1, true), (5, true), (2, true), (3, true), (4, true), (6, false), (7, false)], .stage [8] none, .stage [9] (some 10)]), (9, [.tree (.rd 0 (.rd 5 (.rd 10 (.rd 12 (.rd 1 (.rd 6 (.rd 2 (.rd 7 (.rd 3 (.rd 8 (.rd 4 (.rd 9 (.alt 11 (.alt 13 (.rd 14 (.rd 15 (.rd 16 (.alt 17 (.done) (.no))))) (.no)) (.alt 13 (.rd 15 (.rd 16 (.alt 11 (.rd 14 (.alt 17 (.done) (.no))) (.no)))) (.no))))))))))))))) 18])] } F.replica_Replica_Propose #[.pointer (some ⟨rB, rO, none⟩), .string data] R Φ J = Breplica_Replica_Propose rB rO data W R Φ J by kernel_rfl]; exact h) c

/-- (*replica.Replica).Log -/
def Breplica_Replica_Log (rB rO : Nat) (W : World) (R : List Own) (Φ : PW) (J : Value → World → Prop) : Prop :=
  ∀ (w0 : World) (R1 : List Own), Ctx W w0 (R ++ R1) Φ → ∃ (p2 : Option Addr), ∃ (k3 : Nat), ∃ (k4 : Nat), w0.cell? (Addr.mk rB (rO + 3) none) = some (Value.slice p2 k3 k4) ∧ ∀ (w5 : World)
  (R6 : List Own), Ctx W w5 (R ++ R6) Φ → Calls Try.prog F.slices_Clone_api_Rec_api_Rec #[Value.slice p2 k3 k4] w5 fun (e7 : Ending) (w8 : World) => ∃ (p9 : Option Addr), ∃ (k10 : Nat), ∃
  (k11 : Nat), e7 = Ending.returned (Value.slice p9 k10 k11) ∧ ∃ (R12 : List Own), ∃ (Φ13 : PW), Stable Φ13 ∧ Ctx W w8 (R12 ++ R6) Φ13 ∧ ∀ (w14 : World) (R15 : List Own), Ctx W w14 (R12 ++
  R15) Φ13 → J (Value.slice p9 k10 k11) w14

theorem Breplica_Replica_Log_run (rB rO : Nat) {W w : World} {R : List Own} {Φ : PW} [Stable Φ] {J : Value → World → Prop} (c : Ctx W w R Φ) (h : Breplica_Replica_Log rB rO W R Φ J) : Calls Try.prog F.replica_Replica_Log #[.pointer (some ⟨rB, rO, none⟩)] w fun e w' => ∃ v, e = .returned v ∧ J v w' :=
  vcFS_sound (H := { keep := some [0, 2] }) (by rw [show vcFS Try.prog W { keep := some [0, 2] } F.replica_Replica_Log #[.pointer (some ⟨rB, rO, none⟩)] R Φ J = Breplica_Replica_Log rB rO W R Φ J by kernel_rfl]; exact h) c

/-- replica.New -/
-- known blocks: 4 h
def Breplica_New (id : Int) (h0 : Int) (h1 : Int) (logP : Option Addr) (logN logC : Nat) (W : World) (R : List Own) (Φ : PW) (J : Value → World → Prop) : Prop :=
  ∀ (b : Nat) (w0 : World) (R1 : List Own), Ctx W w0 (R ++ R1) Φ → Calls Try.prog F.replica_between #[Value.int IntKind.i64 id, Value.int IntKind.i64 0, Value.int IntKind.i64 2] w0 fun (e2 :
  Ending) (w3 : World) => ∃ (c4 : Bool), e2 = Ending.returned (Value.bool c4) ∧ ∃ (R5 : List Own), ∃ (Φ6 : PW), Stable Φ6 ∧ Ctx W w3 (R5 ++ R1) Φ6 ∧ Br (!c4) (∀ (w7 : World) (R8 : List Own),
  Ctx W w7 (R5 ++ R8) Φ6 → J (Value.pointer none) w7) (∀ (w9 : World) (R10 : List Own), Ctx W w9 (R5 ++ R10) Φ6 → Calls Try.prog F.replica_between #[Value.int IntKind.i64 h0, Value.int
  IntKind.i64 0, Value.int IntKind.i64 1099511627776] w9 fun (e11 : Ending) (w12 : World) => ∃ (c13 : Bool), e11 = Ending.returned (Value.bool c13) ∧ ∃ (R14 : List Own), ∃ (Φ15 : PW), Stable
  Φ15 ∧ Ctx W w12 (R14 ++ R10) Φ15 ∧ Br (!c13) (∀ (w16 : World) (R17 : List Own), Ctx W w16 (R14 ++ R17) Φ15 → J (Value.pointer none) w16) (∀ (w18 : World) (R19 : List Own), Ctx W w18 (R14 ++
  R19) Φ15 → Calls Try.prog F.replica_between #[Value.int IntKind.i64 h1, Value.int IntKind.i64 (-1), Value.int IntKind.i64 2] w18 fun (e20 : Ending) (w21 : World) => ∃ (c22 : Bool), e20 =
  Ending.returned (Value.bool c22) ∧ ∃ (R23 : List Own), ∃ (Φ24 : PW), Stable Φ24 ∧ Ctx W w21 (R23 ++ R19) Φ24 ∧ Br (!c22) (∀ (w25 : World) (R26 : List Own), Ctx W w25 (R23 ++ R26) Φ24 → J
  (Value.pointer none) w25) (Br (decide (4000 < (↑logN : Int))) (∀ (w27 : World) (R28 : List Own), Ctx W w27 (R23 ++ R28) Φ24 → J (Value.pointer none) w27) (∀ (w29 : World) (R30 : List Own),
  Ctx W w29 (R23 ++ R30) Φ24 → Calls Try.prog F.replica_sound #[Value.slice logP logN logC, Value.int IntKind.i64 1, Value.int IntKind.i64 h0] w29 fun (e31 : Ending) (w32 : World) => ∃ (c33 :
  Bool), e31 = Ending.returned (Value.bool c33) ∧ ∃ (R34 : List Own), ∃ (Φ35 : PW), Stable Φ35 ∧ Ctx W w32 (R34 ++ R30) Φ35 ∧ Br (!c33) (∀ (w36 : World) (R37 : List Own), Ctx W w36 (R34 ++
  R37) Φ35 → J (Value.pointer none) w36) (∃ (R38 : List Own), ∃ (Φ39 : PW), Stable Φ39 ∧ (∀ (w40 : World) (R41 : List Own), Ctx W w40 (R34 ++ R41) Φ35 → Ctx W w40 (R38 ++ R41) Φ39) ∧ ∀ (w42 :
  World) (R43 : List Own), Ctx W w42 (R34 ++ R43) Φ35 → Calls Try.prog F.slices_Clone_api_Rec_api_Rec #[Value.slice logP logN logC] w42 fun (e44 : Ending) (w45 : World) => ∃ (p46 : Option
  Addr), ∃ (k47 : Nat), ∃ (k48 : Nat), e44 = Ending.returned (Value.slice p46 k47 k48) ∧ ∃ (R49 : List Own), ∃ (Φ50 : PW), Stable Φ50 ∧ Ctx W w45 (R49 ++ R43) Φ50 ∧ (∀ (w51 : World) (R52 :
  List Own), Ctx W w51 (R49 ++ R52) Φ50 → Ctx W w51 (R38 ++ R52) Φ39) ∧ ∀ (k53 : Nat), (∀ (w54 : World) (R55 : List Own), Ctx W w54 (Own.blk k53 [Value.int IntKind.i64 id, Value.int
  IntKind.i64 h0, Value.int IntKind.i64 h1, Value.slice p46 k47 k48, Value.int IntKind.i64 0, Value.int IntKind.i64 0, Value.bool false, Value.bool false, Value.bool false, Value.int
  IntKind.i64 0, Value.int IntKind.i64 0, Value.int IntKind.i64 0, Value.int IntKind.i64 0, Value.int IntKind.i64 0, Value.int IntKind.i64 0] 76 :: R49 ++ R55) Φ50 → Ctx W w54 (R38 ++ R55)
  Φ39) ∧ ∀ (w56 : World) (R57 : List Own), Ctx W w56 (Own.blk k53 [Value.int IntKind.i64 id, Value.int IntKind.i64 h0, Value.int IntKind.i64 h1, Value.slice p46 k47 k48, Value.int IntKind.i64
  0, Value.int IntKind.i64 0, Value.bool false, Value.bool false, Value.bool false, Value.int IntKind.i64 0, Value.int IntKind.i64 0, Value.int IntKind.i64 0, Value.int IntKind.i64 0,
  Value.int IntKind.i64 0, Value.int IntKind.i64 0] 76 :: R49 ++ R57) Φ50 → J (Value.pointer (some (Addr.mk k53 0 none))) w56)))))

theorem Breplica_New_run (id : Int) (h0 : Int) (h1 : Int) (logP : Option Addr) (logN logC : Nat) {W w : World} {R : List Own} {Φ : PW} [Stable Φ] {J : Value → World → Prop} (c : Ctx W w R Φ) (h : Breplica_New id h0 h1 logP logN logC W R Φ J) : Calls Try.prog F.replica_New #[.int .i64 id, .agg #[.int .i64 h0, .int .i64 h1], .slice logP logN logC] w fun e w' => ∃ v, e = .returned v ∧ J v w' :=
  vcFS_sound (H := { keep := some [0, 2, 4, 6, 33], track := [4], stages := [(3, [.held [(0, true), (1, true), (2, true), (3, false), (4, true), (5, false)], .stage [6] none])], split := [1] }) (by rw [show vcFS Try.prog W { keep := some [0, 2, 4, 6, 33], track := [4], stages := [(3, [.held [(0, true), (1, true), (2, true), (3, false), (4, true), (5, false)], .stage [6] none])], split := [1] } F.replica_New #[.int .i64 id, .agg #[.int .i64 h0, .int .i64 h1], .slice logP logN logC] R Φ J = Breplica_New id h0 h1 logP logN logC W R Φ J by kernel_rfl]; exact h) c

/-- (*replica.Replica).Hear -/
-- known blocks: 3 m, 4 , 5 before, 6 o
def Breplica_Replica_Hear (rB rO : Nat) (m0 : Int) (m1 : Int) (m2 : Int) (m3 : Int) (m4 : Int) (m5 : Int) (m6 : Int) (m7 : Bool) (m8P : Option Addr) (m8N m8C : Nat) (W : World) (R : List Own) (Φ : PW) (J : Value → World → Prop) : Prop :=
  ∀ (b b : Nat) (w0 : World) (R1 : List Own), Ctx W w0 (R ++ R1) Φ → Calls Try.prog F.replica_Replica_right #[Value.pointer (some (Addr.mk rB rO none)), Value.agg #[Value.int IntKind.i64 m0,
  Value.int IntKind.i64 m1, Value.int IntKind.i64 m2, Value.int IntKind.i64 m3, Value.int IntKind.i64 m4, Value.int IntKind.i64 m5, Value.int IntKind.i64 m6, Value.bool m7, Value.slice m8P
  m8N m8C]] w0 fun (e2 : Ending) (w3 : World) => ∃ (c4 : Bool), e2 = Ending.returned (Value.bool c4) ∧ ∃ (R5 : List Own), ∃ (Φ6 : PW), Stable Φ6 ∧ Ctx W w3 (R5 ++ R1) Φ6 ∧ Br (!c4) (∀ (w7 :
  World) (R8 : List Own), Ctx W w7 (R5 ++ R8) Φ6 → J (Value.agg #[Value.bool false, Value.int IntKind.i64 0, Value.int IntKind.i64 0, Value.int IntKind.i64 0, Value.slice none 0 0,
  Value.slice none 0 0]) w7) (∀ (w9 : World) (R10 : List Own), Ctx W w9 (R5 ++ R10) Φ6 → ∃ (n11 : Int), ∃ (n12 : Int), RowAt w9 rB (rO + 1) [Value.int IntKind.i64 n11, Value.int IntKind.i64
  n12] ∧ ∀ (b : Nat) (w13 : World) (R14 : List Own), Ctx W w13 (R5 ++ R14) Φ6 → ∃ (n15 : Int), w13.cell? (Addr.mk rB (rO + 1) none) = some (Value.int IntKind.i64 n15) ∧ Br (decide (n15 < m3))
  (∀ (w16 : World) (R17 : List Own), Ctx W w16 (R5 ++ R17) Φ6 → CanWrite w16 rB (rO + 1) 2 ∧ ∀ (w18 : World), w18 = w16.setCells rB (rO + 1) [Value.int IntKind.i64 m3, Value.int IntKind.i64
  (-1)] → ∃ (R19 : List Own), ∃ (Φ20 : PW), Stable Φ20 ∧ Ctx W w18 (R19 ++ R17) Φ20 ∧ ∀ (w21 : World) (R22 : List Own), Ctx W w21 (R19 ++ R22) Φ20 → CanWrite w21 rB (rO + 4) 1 ∧ ∀ (w23 :
  World), w23 = w21.setCell (Addr.mk rB (rO + 4) none) (Value.int IntKind.i64 0) → ∃ (R24 : List Own), ∃ (Φ25 : PW), Stable Φ25 ∧ Ctx W w23 (R24 ++ R22) Φ25 ∧ ∀ (b : Nat), Br (decide (m0 =
  0)) (∀ (w26 : World) (R27 : List Own), Ctx W w26 (R24 ++ R27) Φ25 → Calls Try.prog F.replica_Replica_vote #[Value.pointer (some (Addr.mk rB rO none)), Value.agg #[Value.int IntKind.i64 m0,
  Value.int IntKind.i64 m1, Value.int IntKind.i64 m2, Value.int IntKind.i64 m3, Value.int IntKind.i64 m4, Value.int IntKind.i64 m5, Value.int IntKind.i64 m6, Value.bool m7, Value.slice m8P
  m8N m8C]] w26 fun (e28 : Ending) (w29 : World) => ∃ (c30 : Bool), ∃ (n31 : Int), ∃ (n32 : Int), ∃ (n33 : Int), ∃ (p34 : Option Addr), ∃ (k35 : Nat), ∃ (k36 : Nat), ∃ (p37 : Option Addr), ∃
  (k38 : Nat), ∃ (k39 : Nat), e28 = Ending.returned (Value.agg #[Value.bool c30, Value.int IntKind.i64 n31, Value.int IntKind.i64 n32, Value.int IntKind.i64 n33, Value.slice p34 k35 k36,
  Value.slice p37 k38 k39]) ∧ ∃ (R40 : List Own), ∃ (Φ41 : PW), Stable Φ41 ∧ Ctx W w29 (R40 ++ R27) Φ41 ∧ ∀ (w42 : World) (R43 : List Own), Ctx W w42 (R40 ++ R43) Φ41 → ∃ (n44 : Int), ∃ (n45
  : Int), RowAt w42 rB (rO + 1) [Value.int IntKind.i64 n44, Value.int IntKind.i64 n45] ∧ okAgg Try.prog 40 = true ∧ Br (!(decide (n44 = n11) && (decide (n45 = n12) && true))) (∃ (R46 : List
  Own), ∃ (Φ47 : PW), Stable Φ47 ∧ (∀ (w48 : World) (R49 : List Own), Ctx W w48 (R40 ++ R49) Φ41 → Ctx W w48 (R46 ++ R49) Φ47) ∧ ∃ (n50 : Int), ∃ (n51 : Int), (∀ (w52 : World) (R53 : List
  Own), Ctx W w52 (R46 ++ R53) Φ47 → ∃ (n54 : Int), ∃ (n55 : Int), RowAt w52 rB (rO + 1) [Value.int IntKind.i64 n54, Value.int IntKind.i64 n55] ∧ Value.agg #[Value.int IntKind.i64 n54,
  Value.int IntKind.i64 n55] = Value.agg #[Value.int IntKind.i64 n50, Value.int IntKind.i64 n51]) ∧ (∀ (w56 : World) (R57 : List Own), Ctx W w56 (R40 ++ R57) Φ41 → Ctx W w56 (R46 ++ R57) Φ47)
  ∧ (∀ (w58 : World) (R59 : List Own), Ctx W w58 (R40 ++ R59) Φ41 → Ctx W w58 (R46 ++ R59) Φ47) ∧ ∀ (w60 : World) (R61 : List Own), Ctx W w60 (R40 ++ R61) Φ41 → J (Value.agg #[Value.bool
  true, Value.int IntKind.i64 n50, Value.int IntKind.i64 n51, Value.int IntKind.i64 n33, Value.slice p34 k35 k36, Value.slice p37 k38 k39]) w60) (∀ (w62 : World) (R63 : List Own), Ctx W w62
  (R40 ++ R63) Φ41 → J (Value.agg #[Value.bool c30, Value.int IntKind.i64 n31, Value.int IntKind.i64 n32, Value.int IntKind.i64 n33, Value.slice p34 k35 k36, Value.slice p37 k38 k39]) w62))
  (Br (decide (m0 = 1)) (∀ (w64 : World) (R65 : List Own), Ctx W w64 (R24 ++ R65) Φ25 → Calls Try.prog F.replica_Replica_voted #[Value.pointer (some (Addr.mk rB rO none)), Value.agg
  #[Value.int IntKind.i64 m0, Value.int IntKind.i64 m1, Value.int IntKind.i64 m2, Value.int IntKind.i64 m3, Value.int IntKind.i64 m4, Value.int IntKind.i64 m5, Value.int IntKind.i64 m6,
  Value.bool m7, Value.slice m8P m8N m8C]] w64 fun (e66 : Ending) (w67 : World) => ∃ (c68 : Bool), ∃ (n69 : Int), ∃ (n70 : Int), ∃ (n71 : Int), ∃ (p72 : Option Addr), ∃ (k73 : Nat), ∃ (k74 :
  Nat), ∃ (p75 : Option Addr), ∃ (k76 : Nat), ∃ (k77 : Nat), e66 = Ending.returned (Value.agg #[Value.bool c68, Value.int IntKind.i64 n69, Value.int IntKind.i64 n70, Value.int IntKind.i64
  n71, Value.slice p72 k73 k74, Value.slice p75 k76 k77]) ∧ ∃ (R78 : List Own), ∃ (Φ79 : PW), Stable Φ79 ∧ Ctx W w67 (R78 ++ R65) Φ79 ∧ ∀ (w80 : World) (R81 : List Own), Ctx W w80 (R78 ++
  R81) Φ79 → ∃ (n82 : Int), ∃ (n83 : Int), RowAt w80 rB (rO + 1) [Value.int IntKind.i64 n82, Value.int IntKind.i64 n83] ∧ okAgg Try.prog 40 = true ∧ Br (!(decide (n82 = n11) && (decide (n83 =
  n12) && true))) (∃ (R84 : List Own), ∃ (Φ85 : PW), Stable Φ85 ∧ (∀ (w86 : World) (R87 : List Own), Ctx W w86 (R78 ++ R87) Φ79 → Ctx W w86 (R84 ++ R87) Φ85) ∧ ∃ (n88 : Int), ∃ (n89 : Int),
  (∀ (w90 : World) (R91 : List Own), Ctx W w90 (R84 ++ R91) Φ85 → ∃ (n92 : Int), ∃ (n93 : Int), RowAt w90 rB (rO + 1) [Value.int IntKind.i64 n92, Value.int IntKind.i64 n93] ∧ Value.agg
  #[Value.int IntKind.i64 n92, Value.int IntKind.i64 n93] = Value.agg #[Value.int IntKind.i64 n88, Value.int IntKind.i64 n89]) ∧ (∀ (w94 : World) (R95 : List Own), Ctx W w94 (R78 ++ R95) Φ79
  → Ctx W w94 (R84 ++ R95) Φ85) ∧ (∀ (w96 : World) (R97 : List Own), Ctx W w96 (R78 ++ R97) Φ79 → Ctx W w96 (R84 ++ R97) Φ85) ∧ ∀ (w98 : World) (R99 : List Own), Ctx W w98 (R78 ++ R99) Φ79 →
  J (Value.agg #[Value.bool true, Value.int IntKind.i64 n88, Value.int IntKind.i64 n89, Value.int IntKind.i64 n71, Value.slice p72 k73 k74, Value.slice p75 k76 k77]) w98) (∀ (w100 : World)
  (R101 : List Own), Ctx W w100 (R78 ++ R101) Φ79 → J (Value.agg #[Value.bool c68, Value.int IntKind.i64 n69, Value.int IntKind.i64 n70, Value.int IntKind.i64 n71, Value.slice p72 k73 k74,
  Value.slice p75 k76 k77]) w100)) (Br (decide (m0 = 2)) (∀ (w102 : World) (R103 : List Own), Ctx W w102 (R24 ++ R103) Φ25 → Calls Try.prog F.replica_Replica_append #[Value.pointer (some
  (Addr.mk rB rO none)), Value.agg #[Value.int IntKind.i64 m0, Value.int IntKind.i64 m1, Value.int IntKind.i64 m2, Value.int IntKind.i64 m3, Value.int IntKind.i64 m4, Value.int IntKind.i64
  m5, Value.int IntKind.i64 m6, Value.bool m7, Value.slice m8P m8N m8C]] w102 fun (e104 : Ending) (w105 : World) => ∃ (c106 : Bool), ∃ (n107 : Int), ∃ (n108 : Int), ∃ (n109 : Int), ∃ (p110 :
  Option Addr), ∃ (k111 : Nat), ∃ (k112 : Nat), ∃ (p113 : Option Addr), ∃ (k114 : Nat), ∃ (k115 : Nat), e104 = Ending.returned (Value.agg #[Value.bool c106, Value.int IntKind.i64 n107,
  Value.int IntKind.i64 n108, Value.int IntKind.i64 n109, Value.slice p110 k111 k112, Value.slice p113 k114 k115]) ∧ ∃ (R116 : List Own), ∃ (Φ117 : PW), Stable Φ117 ∧ Ctx W w105 (R116 ++
  R103) Φ117 ∧ ∀ (w118 : World) (R119 : List Own), Ctx W w118 (R116 ++ R119) Φ117 → ∃ (n120 : Int), ∃ (n121 : Int), RowAt w118 rB (rO + 1) [Value.int IntKind.i64 n120, Value.int IntKind.i64
  n121] ∧ okAgg Try.prog 40 = true ∧ Br (!(decide (n120 = n11) && (decide (n121 = n12) && true))) (∃ (R122 : List Own), ∃ (Φ123 : PW), Stable Φ123 ∧ (∀ (w124 : World) (R125 : List Own), Ctx W
  w124 (R116 ++ R125) Φ117 → Ctx W w124 (R122 ++ R125) Φ123) ∧ ∃ (n126 : Int), ∃ (n127 : Int), (∀ (w128 : World) (R129 : List Own), Ctx W w128 (R122 ++ R129) Φ123 → ∃ (n130 : Int), ∃ (n131 :
  Int), RowAt w128 rB (rO + 1) [Value.int IntKind.i64 n130, Value.int IntKind.i64 n131] ∧ Value.agg #[Value.int IntKind.i64 n130, Value.int IntKind.i64 n131] = Value.agg #[Value.int
  IntKind.i64 n126, Value.int IntKind.i64 n127]) ∧ (∀ (w132 : World) (R133 : List Own), Ctx W w132 (R116 ++ R133) Φ117 → Ctx W w132 (R122 ++ R133) Φ123) ∧ (∀ (w134 : World) (R135 : List Own),
  Ctx W w134 (R116 ++ R135) Φ117 → Ctx W w134 (R122 ++ R135) Φ123) ∧ ∀ (w136 : World) (R137 : List Own), Ctx W w136 (R116 ++ R137) Φ117 → J (Value.agg #[Value.bool true, Value.int IntKind.i64
  n126, Value.int IntKind.i64 n127, Value.int IntKind.i64 n109, Value.slice p110 k111 k112, Value.slice p113 k114 k115]) w136) (∀ (w138 : World) (R139 : List Own), Ctx W w138 (R116 ++ R139)
  Φ117 → J (Value.agg #[Value.bool c106, Value.int IntKind.i64 n107, Value.int IntKind.i64 n108, Value.int IntKind.i64 n109, Value.slice p110 k111 k112, Value.slice p113 k114 k115]) w138))
  (Br (decide (m0 = 3)) (∀ (w140 : World) (R141 : List Own), Ctx W w140 (R24 ++ R141) Φ25 → Calls Try.prog F.replica_Replica_appended #[Value.pointer (some (Addr.mk rB rO none)), Value.agg
  #[Value.int IntKind.i64 m0, Value.int IntKind.i64 m1, Value.int IntKind.i64 m2, Value.int IntKind.i64 m3, Value.int IntKind.i64 m4, Value.int IntKind.i64 m5, Value.int IntKind.i64 m6,
  Value.bool m7, Value.slice m8P m8N m8C]] w140 fun (e142 : Ending) (w143 : World) => ∃ (c144 : Bool), ∃ (n145 : Int), ∃ (n146 : Int), ∃ (n147 : Int), ∃ (p148 : Option Addr), ∃ (k149 : Nat),
  ∃ (k150 : Nat), ∃ (p151 : Option Addr), ∃ (k152 : Nat), ∃ (k153 : Nat), e142 = Ending.returned (Value.agg #[Value.bool c144, Value.int IntKind.i64 n145, Value.int IntKind.i64 n146,
  Value.int IntKind.i64 n147, Value.slice p148 k149 k150, Value.slice p151 k152 k153]) ∧ ∃ (R154 : List Own), ∃ (Φ155 : PW), Stable Φ155 ∧ Ctx W w143 (R154 ++ R141) Φ155 ∧ ∀ (w156 : World)
  (R157 : List Own), Ctx W w156 (R154 ++ R157) Φ155 → ∃ (n158 : Int), ∃ (n159 : Int), RowAt w156 rB (rO + 1) [Value.int IntKind.i64 n158, Value.int IntKind.i64 n159] ∧ okAgg Try.prog 40 =
  true ∧ Br (!(decide (n158 = n11) && (decide (n159 = n12) && true))) (∃ (R160 : List Own), ∃ (Φ161 : PW), Stable Φ161 ∧ (∀ (w162 : World) (R163 : List Own), Ctx W w162 (R154 ++ R163) Φ155 →
  Ctx W w162 (R160 ++ R163) Φ161) ∧ ∃ (n164 : Int), ∃ (n165 : Int), (∀ (w166 : World) (R167 : List Own), Ctx W w166 (R160 ++ R167) Φ161 → ∃ (n168 : Int), ∃ (n169 : Int), RowAt w166 rB (rO +
  1) [Value.int IntKind.i64 n168, Value.int IntKind.i64 n169] ∧ Value.agg #[Value.int IntKind.i64 n168, Value.int IntKind.i64 n169] = Value.agg #[Value.int IntKind.i64 n164, Value.int
  IntKind.i64 n165]) ∧ (∀ (w170 : World) (R171 : List Own), Ctx W w170 (R154 ++ R171) Φ155 → Ctx W w170 (R160 ++ R171) Φ161) ∧ (∀ (w172 : World) (R173 : List Own), Ctx W w172 (R154 ++ R173)
  Φ155 → Ctx W w172 (R160 ++ R173) Φ161) ∧ ∀ (w174 : World) (R175 : List Own), Ctx W w174 (R154 ++ R175) Φ155 → J (Value.agg #[Value.bool true, Value.int IntKind.i64 n164, Value.int
  IntKind.i64 n165, Value.int IntKind.i64 n147, Value.slice p148 k149 k150, Value.slice p151 k152 k153]) w174) (∀ (w176 : World) (R177 : List Own), Ctx W w176 (R154 ++ R177) Φ155 → J
  (Value.agg #[Value.bool c144, Value.int IntKind.i64 n145, Value.int IntKind.i64 n146, Value.int IntKind.i64 n147, Value.slice p148 k149 k150, Value.slice p151 k152 k153]) w176)) (∀ (w178 :
  World) (R179 : List Own), Ctx W w178 (R24 ++ R179) Φ25 → ∃ (n180 : Int), ∃ (n181 : Int), RowAt w178 rB (rO + 1) [Value.int IntKind.i64 n180, Value.int IntKind.i64 n181] ∧ okAgg Try.prog 40
  = true ∧ Br (!(decide (n180 = n11) && (decide (n181 = n12) && true))) (∃ (R182 : List Own), ∃ (Φ183 : PW), Stable Φ183 ∧ (∀ (w184 : World) (R185 : List Own), Ctx W w184 (R24 ++ R185) Φ25 →
  Ctx W w184 (R182 ++ R185) Φ183) ∧ ∃ (n186 : Int), ∃ (n187 : Int), (∀ (w188 : World) (R189 : List Own), Ctx W w188 (R182 ++ R189) Φ183 → ∃ (n190 : Int), ∃ (n191 : Int), RowAt w188 rB (rO +
  1) [Value.int IntKind.i64 n190, Value.int IntKind.i64 n191] ∧ Value.agg #[Value.int IntKind.i64 n190, Value.int IntKind.i64 n191] = Value.agg #[Value.int IntKind.i64 n186, Value.int
  IntKind.i64 n187]) ∧ (∀ (w192 : World) (R193 : List Own), Ctx W w192 (R24 ++ R193) Φ25 → Ctx W w192 (R182 ++ R193) Φ183) ∧ (∀ (w194 : World) (R195 : List Own), Ctx W w194 (R24 ++ R195) Φ25
  → Ctx W w194 (R182 ++ R195) Φ183) ∧ ∀ (w196 : World) (R197 : List Own), Ctx W w196 (R24 ++ R197) Φ25 → J (Value.agg #[Value.bool true, Value.int IntKind.i64 n186, Value.int IntKind.i64
  n187, Value.int IntKind.i64 0, Value.slice none 0 0, Value.slice none 0 0]) w196) (∀ (w198 : World) (R199 : List Own), Ctx W w198 (R24 ++ R199) Φ25 → J (Value.agg #[Value.bool false,
  Value.int IntKind.i64 0, Value.int IntKind.i64 0, Value.int IntKind.i64 0, Value.slice none 0 0, Value.slice none 0 0]) w198)))))) (∀ (b : Nat), Br (decide (m0 = 0)) (∀ (w200 : World) (R201
  : List Own), Ctx W w200 (R5 ++ R201) Φ6 → Calls Try.prog F.replica_Replica_vote #[Value.pointer (some (Addr.mk rB rO none)), Value.agg #[Value.int IntKind.i64 m0, Value.int IntKind.i64 m1,
  Value.int IntKind.i64 m2, Value.int IntKind.i64 m3, Value.int IntKind.i64 m4, Value.int IntKind.i64 m5, Value.int IntKind.i64 m6, Value.bool m7, Value.slice m8P m8N m8C]] w200 fun (e202 :
  Ending) (w203 : World) => ∃ (c204 : Bool), ∃ (n205 : Int), ∃ (n206 : Int), ∃ (n207 : Int), ∃ (p208 : Option Addr), ∃ (k209 : Nat), ∃ (k210 : Nat), ∃ (p211 : Option Addr), ∃ (k212 : Nat), ∃
  (k213 : Nat), e202 = Ending.returned (Value.agg #[Value.bool c204, Value.int IntKind.i64 n205, Value.int IntKind.i64 n206, Value.int IntKind.i64 n207, Value.slice p208 k209 k210,
  Value.slice p211 k212 k213]) ∧ ∃ (R214 : List Own), ∃ (Φ215 : PW), Stable Φ215 ∧ Ctx W w203 (R214 ++ R201) Φ215 ∧ ∀ (w216 : World) (R217 : List Own), Ctx W w216 (R214 ++ R217) Φ215 → ∃
  (n218 : Int), ∃ (n219 : Int), RowAt w216 rB (rO + 1) [Value.int IntKind.i64 n218, Value.int IntKind.i64 n219] ∧ okAgg Try.prog 40 = true ∧ Br (!(decide (n218 = n11) && (decide (n219 = n12)
  && true))) (∃ (R220 : List Own), ∃ (Φ221 : PW), Stable Φ221 ∧ (∀ (w222 : World) (R223 : List Own), Ctx W w222 (R214 ++ R223) Φ215 → Ctx W w222 (R220 ++ R223) Φ221) ∧ ∃ (n224 : Int), ∃ (n225
  : Int), (∀ (w226 : World) (R227 : List Own), Ctx W w226 (R220 ++ R227) Φ221 → ∃ (n228 : Int), ∃ (n229 : Int), RowAt w226 rB (rO + 1) [Value.int IntKind.i64 n228, Value.int IntKind.i64 n229]
  ∧ Value.agg #[Value.int IntKind.i64 n228, Value.int IntKind.i64 n229] = Value.agg #[Value.int IntKind.i64 n224, Value.int IntKind.i64 n225]) ∧ (∀ (w230 : World) (R231 : List Own), Ctx W
  w230 (R214 ++ R231) Φ215 → Ctx W w230 (R220 ++ R231) Φ221) ∧ (∀ (w232 : World) (R233 : List Own), Ctx W w232 (R214 ++ R233) Φ215 → Ctx W w232 (R220 ++ R233) Φ221) ∧ ∀ (w234 : World) (R235 :
  List Own), Ctx W w234 (R214 ++ R235) Φ215 → J (Value.agg #[Value.bool true, Value.int IntKind.i64 n224, Value.int IntKind.i64 n225, Value.int IntKind.i64 n207, Value.slice p208 k209 k210,
  Value.slice p211 k212 k213]) w234) (∀ (w236 : World) (R237 : List Own), Ctx W w236 (R214 ++ R237) Φ215 → J (Value.agg #[Value.bool c204, Value.int IntKind.i64 n205, Value.int IntKind.i64
  n206, Value.int IntKind.i64 n207, Value.slice p208 k209 k210, Value.slice p211 k212 k213]) w236)) (Br (decide (m0 = 1)) (∀ (w238 : World) (R239 : List Own), Ctx W w238 (R5 ++ R239) Φ6 →
  Calls Try.prog F.replica_Replica_voted #[Value.pointer (some (Addr.mk rB rO none)), Value.agg #[Value.int IntKind.i64 m0, Value.int IntKind.i64 m1, Value.int IntKind.i64 m2, Value.int
  IntKind.i64 m3, Value.int IntKind.i64 m4, Value.int IntKind.i64 m5, Value.int IntKind.i64 m6, Value.bool m7, Value.slice m8P m8N m8C]] w238 fun (e240 : Ending) (w241 : World) => ∃ (c242 :
  Bool), ∃ (n243 : Int), ∃ (n244 : Int), ∃ (n245 : Int), ∃ (p246 : Option Addr), ∃ (k247 : Nat), ∃ (k248 : Nat), ∃ (p249 : Option Addr), ∃ (k250 : Nat), ∃ (k251 : Nat), e240 = Ending.returned
  (Value.agg #[Value.bool c242, Value.int IntKind.i64 n243, Value.int IntKind.i64 n244, Value.int IntKind.i64 n245, Value.slice p246 k247 k248, Value.slice p249 k250 k251]) ∧ ∃ (R252 : List
  Own), ∃ (Φ253 : PW), Stable Φ253 ∧ Ctx W w241 (R252 ++ R239) Φ253 ∧ ∀ (w254 : World) (R255 : List Own), Ctx W w254 (R252 ++ R255) Φ253 → ∃ (n256 : Int), ∃ (n257 : Int), RowAt w254 rB (rO +
  1) [Value.int IntKind.i64 n256, Value.int IntKind.i64 n257] ∧ okAgg Try.prog 40 = true ∧ Br (!(decide (n256 = n11) && (decide (n257 = n12) && true))) (∃ (R258 : List Own), ∃ (Φ259 : PW),
  Stable Φ259 ∧ (∀ (w260 : World) (R261 : List Own), Ctx W w260 (R252 ++ R261) Φ253 → Ctx W w260 (R258 ++ R261) Φ259) ∧ ∃ (n262 : Int), ∃ (n263 : Int), (∀ (w264 : World) (R265 : List Own),
  Ctx W w264 (R258 ++ R265) Φ259 → ∃ (n266 : Int), ∃ (n267 : Int), RowAt w264 rB (rO + 1) [Value.int IntKind.i64 n266, Value.int IntKind.i64 n267] ∧ Value.agg #[Value.int IntKind.i64 n266,
  Value.int IntKind.i64 n267] = Value.agg #[Value.int IntKind.i64 n262, Value.int IntKind.i64 n263]) ∧ (∀ (w268 : World) (R269 : List Own), Ctx W w268 (R252 ++ R269) Φ253 → Ctx W w268 (R258
  ++ R269) Φ259) ∧ (∀ (w270 : World) (R271 : List Own), Ctx W w270 (R252 ++ R271) Φ253 → Ctx W w270 (R258 ++ R271) Φ259) ∧ ∀ (w272 : World) (R273 : List Own), Ctx W w272 (R252 ++ R273) Φ253 →
  J (Value.agg #[Value.bool true, Value.int IntKind.i64 n262, Value.int IntKind.i64 n263, Value.int IntKind.i64 n245, Value.slice p246 k247 k248, Value.slice p249 k250 k251]) w272) (∀ (w274 :
  World) (R275 : List Own), Ctx W w274 (R252 ++ R275) Φ253 → J (Value.agg #[Value.bool c242, Value.int IntKind.i64 n243, Value.int IntKind.i64 n244, Value.int IntKind.i64 n245, Value.slice
  p246 k247 k248, Value.slice p249 k250 k251]) w274)) (Br (decide (m0 = 2)) (∀ (w276 : World) (R277 : List Own), Ctx W w276 (R5 ++ R277) Φ6 → Calls Try.prog F.replica_Replica_append
  #[Value.pointer (some (Addr.mk rB rO none)), Value.agg #[Value.int IntKind.i64 m0, Value.int IntKind.i64 m1, Value.int IntKind.i64 m2, Value.int IntKind.i64 m3, Value.int IntKind.i64 m4,
  Value.int IntKind.i64 m5, Value.int IntKind.i64 m6, Value.bool m7, Value.slice m8P m8N m8C]] w276 fun (e278 : Ending) (w279 : World) => ∃ (c280 : Bool), ∃ (n281 : Int), ∃ (n282 : Int), ∃
  (n283 : Int), ∃ (p284 : Option Addr), ∃ (k285 : Nat), ∃ (k286 : Nat), ∃ (p287 : Option Addr), ∃ (k288 : Nat), ∃ (k289 : Nat), e278 = Ending.returned (Value.agg #[Value.bool c280, Value.int
  IntKind.i64 n281, Value.int IntKind.i64 n282, Value.int IntKind.i64 n283, Value.slice p284 k285 k286, Value.slice p287 k288 k289]) ∧ ∃ (R290 : List Own), ∃ (Φ291 : PW), Stable Φ291 ∧ Ctx W
  w279 (R290 ++ R277) Φ291 ∧ ∀ (w292 : World) (R293 : List Own), Ctx W w292 (R290 ++ R293) Φ291 → ∃ (n294 : Int), ∃ (n295 : Int), RowAt w292 rB (rO + 1) [Value.int IntKind.i64 n294, Value.int
  IntKind.i64 n295] ∧ okAgg Try.prog 40 = true ∧ Br (!(decide (n294 = n11) && (decide (n295 = n12) && true))) (∃ (R296 : List Own), ∃ (Φ297 : PW), Stable Φ297 ∧ (∀ (w298 : World) (R299 : List
  Own), Ctx W w298 (R290 ++ R299) Φ291 → Ctx W w298 (R296 ++ R299) Φ297) ∧ ∃ (n300 : Int), ∃ (n301 : Int), (∀ (w302 : World) (R303 : List Own), Ctx W w302 (R296 ++ R303) Φ297 → ∃ (n304 :
  Int), ∃ (n305 : Int), RowAt w302 rB (rO + 1) [Value.int IntKind.i64 n304, Value.int IntKind.i64 n305] ∧ Value.agg #[Value.int IntKind.i64 n304, Value.int IntKind.i64 n305] = Value.agg
  #[Value.int IntKind.i64 n300, Value.int IntKind.i64 n301]) ∧ (∀ (w306 : World) (R307 : List Own), Ctx W w306 (R290 ++ R307) Φ291 → Ctx W w306 (R296 ++ R307) Φ297) ∧ (∀ (w308 : World) (R309
  : List Own), Ctx W w308 (R290 ++ R309) Φ291 → Ctx W w308 (R296 ++ R309) Φ297) ∧ ∀ (w310 : World) (R311 : List Own), Ctx W w310 (R290 ++ R311) Φ291 → J (Value.agg #[Value.bool true,
  Value.int IntKind.i64 n300, Value.int IntKind.i64 n301, Value.int IntKind.i64 n283, Value.slice p284 k285 k286, Value.slice p287 k288 k289]) w310) (∀ (w312 : World) (R313 : List Own), Ctx W
  w312 (R290 ++ R313) Φ291 → J (Value.agg #[Value.bool c280, Value.int IntKind.i64 n281, Value.int IntKind.i64 n282, Value.int IntKind.i64 n283, Value.slice p284 k285 k286, Value.slice p287
  k288 k289]) w312)) (Br (decide (m0 = 3)) (∀ (w314 : World) (R315 : List Own), Ctx W w314 (R5 ++ R315) Φ6 → Calls Try.prog F.replica_Replica_appended #[Value.pointer (some (Addr.mk rB rO
  none)), Value.agg #[Value.int IntKind.i64 m0, Value.int IntKind.i64 m1, Value.int IntKind.i64 m2, Value.int IntKind.i64 m3, Value.int IntKind.i64 m4, Value.int IntKind.i64 m5, Value.int
  IntKind.i64 m6, Value.bool m7, Value.slice m8P m8N m8C]] w314 fun (e316 : Ending) (w317 : World) => ∃ (c318 : Bool), ∃ (n319 : Int), ∃ (n320 : Int), ∃ (n321 : Int), ∃ (p322 : Option Addr),
  ∃ (k323 : Nat), ∃ (k324 : Nat), ∃ (p325 : Option Addr), ∃ (k326 : Nat), ∃ (k327 : Nat), e316 = Ending.returned (Value.agg #[Value.bool c318, Value.int IntKind.i64 n319, Value.int
  IntKind.i64 n320, Value.int IntKind.i64 n321, Value.slice p322 k323 k324, Value.slice p325 k326 k327]) ∧ ∃ (R328 : List Own), ∃ (Φ329 : PW), Stable Φ329 ∧ Ctx W w317 (R328 ++ R315) Φ329 ∧ ∀
  (w330 : World) (R331 : List Own), Ctx W w330 (R328 ++ R331) Φ329 → ∃ (n332 : Int), ∃ (n333 : Int), RowAt w330 rB (rO + 1) [Value.int IntKind.i64 n332, Value.int IntKind.i64 n333] ∧ okAgg
  Try.prog 40 = true ∧ Br (!(decide (n332 = n11) && (decide (n333 = n12) && true))) (∃ (R334 : List Own), ∃ (Φ335 : PW), Stable Φ335 ∧ (∀ (w336 : World) (R337 : List Own), Ctx W w336 (R328 ++
  R337) Φ329 → Ctx W w336 (R334 ++ R337) Φ335) ∧ ∃ (n338 : Int), ∃ (n339 : Int), (∀ (w340 : World) (R341 : List Own), Ctx W w340 (R334 ++ R341) Φ335 → ∃ (n342 : Int), ∃ (n343 : Int), RowAt
  w340 rB (rO + 1) [Value.int IntKind.i64 n342, Value.int IntKind.i64 n343] ∧ Value.agg #[Value.int IntKind.i64 n342, Value.int IntKind.i64 n343] = Value.agg #[Value.int IntKind.i64 n338,
  Value.int IntKind.i64 n339]) ∧ (∀ (w344 : World) (R345 : List Own), Ctx W w344 (R328 ++ R345) Φ329 → Ctx W w344 (R334 ++ R345) Φ335) ∧ (∀ (w346 : World) (R347 : List Own), Ctx W w346 (R328
  ++ R347) Φ329 → Ctx W w346 (R334 ++ R347) Φ335) ∧ ∀ (w348 : World) (R349 : List Own), Ctx W w348 (R328 ++ R349) Φ329 → J (Value.agg #[Value.bool true, Value.int IntKind.i64 n338, Value.int
  IntKind.i64 n339, Value.int IntKind.i64 n321, Value.slice p322 k323 k324, Value.slice p325 k326 k327]) w348) (∀ (w350 : World) (R351 : List Own), Ctx W w350 (R328 ++ R351) Φ329 → J
  (Value.agg #[Value.bool c318, Value.int IntKind.i64 n319, Value.int IntKind.i64 n320, Value.int IntKind.i64 n321, Value.slice p322 k323 k324, Value.slice p325 k326 k327]) w350)) (∀ (w352 :
  World) (R353 : List Own), Ctx W w352 (R5 ++ R353) Φ6 → ∃ (n354 : Int), ∃ (n355 : Int), RowAt w352 rB (rO + 1) [Value.int IntKind.i64 n354, Value.int IntKind.i64 n355] ∧ okAgg Try.prog 40 =
  true ∧ Br (!(decide (n354 = n11) && (decide (n355 = n12) && true))) (∃ (R356 : List Own), ∃ (Φ357 : PW), Stable Φ357 ∧ (∀ (w358 : World) (R359 : List Own), Ctx W w358 (R5 ++ R359) Φ6 → Ctx
  W w358 (R356 ++ R359) Φ357) ∧ ∃ (n360 : Int), ∃ (n361 : Int), (∀ (w362 : World) (R363 : List Own), Ctx W w362 (R356 ++ R363) Φ357 → ∃ (n364 : Int), ∃ (n365 : Int), RowAt w362 rB (rO + 1)
  [Value.int IntKind.i64 n364, Value.int IntKind.i64 n365] ∧ Value.agg #[Value.int IntKind.i64 n364, Value.int IntKind.i64 n365] = Value.agg #[Value.int IntKind.i64 n360, Value.int
  IntKind.i64 n361]) ∧ (∀ (w366 : World) (R367 : List Own), Ctx W w366 (R5 ++ R367) Φ6 → Ctx W w366 (R356 ++ R367) Φ357) ∧ (∀ (w368 : World) (R369 : List Own), Ctx W w368 (R5 ++ R369) Φ6 →
  Ctx W w368 (R356 ++ R369) Φ357) ∧ ∀ (w370 : World) (R371 : List Own), Ctx W w370 (R5 ++ R371) Φ6 → J (Value.agg #[Value.bool true, Value.int IntKind.i64 n360, Value.int IntKind.i64 n361,
  Value.int IntKind.i64 0, Value.slice none 0 0, Value.slice none 0 0]) w370) (∀ (w372 : World) (R373 : List Own), Ctx W w372 (R5 ++ R373) Φ6 → J (Value.agg #[Value.bool false, Value.int
  IntKind.i64 0, Value.int IntKind.i64 0, Value.int IntKind.i64 0, Value.slice none 0 0, Value.slice none 0 0]) w372)))))))

theorem Breplica_Replica_Hear_run (rB rO : Nat) (m0 : Int) (m1 : Int) (m2 : Int) (m3 : Int) (m4 : Int) (m5 : Int) (m6 : Int) (m7 : Bool) (m8P : Option Addr) (m8N m8C : Nat) {W w : World} {R : List Own} {Φ : PW} [Stable Φ] {J : Value → World → Prop} (c : Ctx W w R Φ) (h : Breplica_Replica_Hear rB rO m0 m1 m2 m3 m4 m5 m6 m7 m8P m8N m8C W R Φ J) : Calls Try.prog F.replica_Replica_Hear #[.pointer (some ⟨rB, rO, none⟩), .agg #[.int .i64 m0, .int .i64 m1, .int .i64 m2, .int .i64 m3, .int .i64 m4, .int .i64 m5, .int .i64 m6, .bool m7, .slice m8P m8N m8C]] w fun e w' => ∃ v, e = .returned v ∧ J v w' :=
  vcFS_sound (H := { keep := some [0, 3, 4, 5, 6, 10, 23, 34, 35, 40, 45, 50, 60], track := [3, 4, 5, 6], stages := [(17, [.late [4] [0, 4, 1, 2, 3] [(5, [6]), (7, [])]])] }) (by rw [show vcFS Try.prog W { keep := some [0, 3, 4, 5, 6, 10, 23, 34, 35, 40, 45, 50, 60], track := [3, 4, 5, 6], stages := [(17, [.late [4] [0, 4, 1, 2, 3] [(5, [6]), (7, [])]])] } F.replica_Replica_Hear #[.pointer (some ⟨rB, rO, none⟩), .agg #[.int .i64 m0, .int .i64 m1, .int .i64 m2, .int .i64 m3, .int .i64 m4, .int .i64 m5, .int .i64 m6, .bool m7, .slice m8P m8N m8C]] R Φ J = Breplica_Replica_Hear rB rO m0 m1 m2 m3 m4 m5 m6 m7 m8P m8N m8C W R Φ J by kernel_rfl]; exact h) c

/-- (*replica.Replica).all -/
-- loop at region 3: 3 out, 9 ; blocks 
def Breplica_Replica_all (rB rO : Nat) (W : World) (R : List Own) (Φ : PW) (J : Value → World → Prop) : Prop :=
  ∀ (w0 : World) (R1 : List Own), Ctx W w0 (R ++ R1) Φ → Calls Try.prog F.replica_Replica_others #[Value.pointer (some (Addr.mk rB rO none))] w0 fun (e2 : Ending) (w3 : World) => ∃ (p4 :
  Option Addr), ∃ (k5 : Nat), ∃ (k6 : Nat), e2 = Ending.returned (Value.slice p4 k5 k6) ∧ ∃ (R7 : List Own), ∃ (Φ8 : PW), Stable Φ8 ∧ Ctx W w3 (R7 ++ R1) Φ8 ∧ exI fun (I9 : Option Addr → Nat
  → Nat → Int → List Own → PW → Nat → Prop) => (∃ (R10 : List Own), ∃ (Φ11 : PW), ∃ (k12 : Nat), Stable Φ11 ∧ (∀ (w13 : World) (R14 : List Own), Ctx W w13 (R7 ++ R14) Φ8 → Ctx W w13 (R10 ++
  R14) Φ11) ∧ I9 none 0 0 0 R10 Φ11 k12) ∧ ∀ (p15 : Option Addr) (k16 k17 : Nat) (n18 : Int) (R19 : List Own) (I20 : List Nat → World → Prop) (k21 : Nat), Stable I20 → I9 p15 k16 k17 n18 R19
  I20 k21 → Br (decide (n18 < (↑k5 : Int))) ((0 ≤ n18 ∧ n18 < (↑k5 : Int)) ∧ ptrK none p4 fun (k22 k23 : Nat) => ∀ (w24 : World) (R25 : List Own), Ctx W w24 (R19 ++ R25) I20 → ∃ (n26 : Int),
  w24.cell? (Addr.mk k22 (k23 + n18.toNat) none) = some (Value.int IntKind.i64 n26) ∧ ∀ (w27 : World) (R28 : List Own), Ctx W w27 (R19 ++ R28) I20 → Calls Try.prog F.replica_Replica_entries
  #[Value.pointer (some (Addr.mk rB rO none)), Value.int IntKind.i64 n26] w27 fun (e29 : Ending) (w30 : World) => ∃ (n31 : Int), ∃ (n32 : Int), ∃ (n33 : Int), ∃ (n34 : Int), ∃ (n35 : Int), ∃
  (n36 : Int), ∃ (n37 : Int), ∃ (c38 : Bool), ∃ (p39 : Option Addr), ∃ (k40 : Nat), ∃ (k41 : Nat), e29 = Ending.returned (Value.agg #[Value.int IntKind.i64 n31, Value.int IntKind.i64 n32,
  Value.int IntKind.i64 n33, Value.int IntKind.i64 n34, Value.int IntKind.i64 n35, Value.int IntKind.i64 n36, Value.int IntKind.i64 n37, Value.bool c38, Value.slice p39 k40 k41]) ∧ ∃ (R42 :
  List Own), ∃ (Φ43 : PW), Stable Φ43 ∧ Ctx W w30 (R42 ++ R28) Φ43 ∧ ∀ (k44 : Nat) (w45 : World) (R46 : List Own), Ctx W w45 (Own.blk k44 [Value.int IntKind.i64 n31, Value.int IntKind.i64
  n32, Value.int IntKind.i64 n33, Value.int IntKind.i64 n34, Value.int IntKind.i64 n35, Value.int IntKind.i64 n36, Value.int IntKind.i64 n37, Value.bool c38, Value.slice p39 k40 k41] 37 ::
  R42 ++ R46) Φ43 → ∃ (p47 : Option Addr), ∃ (k48 : Nat), ∃ (k49 : Nat), ∃ (w50 : World), Sem.run Try.prog (builtin Builtin.append #[27, 27] 27 #[false, false] #[Value.slice p15 k16 k17,
  Value.slice (some (Addr.mk k44 0 none)) 1 1]) w45 = Result.ok (Next.value (Value.slice p47 k48 k49)) w50 ∧ ∃ (R51 : List Own), ∃ (Φ52 : PW), Stable Φ52 ∧ Ctx W w50 (R51 ++ R46) Φ52 ∧ I64
  (n18 + 1) ∧ ∃ (R53 : List Own), ∃ (Φ54 : PW), ∃ (k55 : Nat), Stable Φ54 ∧ (∀ (w56 : World) (R57 : List Own), Ctx W w56 (R51 ++ R57) Φ52 → Ctx W w56 (R53 ++ R57) Φ54) ∧ I9 p47 k48 k49 (n18 +
  1) R53 Φ54 k55 ∧ k55 < k21) (∀ (w58 : World) (R59 : List Own), Ctx W w58 (R19 ++ R59) I20 → J (Value.slice p15 k16 k17) w58)

theorem Breplica_Replica_all_run (rB rO : Nat) {W w : World} {R : List Own} {Φ : PW} [Stable Φ] {J : Value → World → Prop} (c : Ctx W w R Φ) (h : Breplica_Replica_all rB rO W R Φ J) : Calls Try.prog F.replica_Replica_all #[.pointer (some ⟨rB, rO, none⟩)] w fun e w' => ∃ v, e = .returned v ∧ J v w' :=
  vcFS_sound (H := { keep := some [0, 2, 3, 5, 7, 8, 9, 10], loops := [(3, [(3, .one (.slice)), (9, .one (.int .i64))], [])] }) (by rw [show vcFS Try.prog W { keep := some [0, 2, 3, 5, 7, 8, 9, 10], loops := [(3, [(3, .one (.slice)), (9, .one (.int .i64))], [])] } F.replica_Replica_all #[.pointer (some ⟨rB, rO, none⟩)] R Φ J = Breplica_Replica_all rB rO W R Φ J by kernel_rfl]; exact h) c

/-- (*replica.Replica).others -/
def Breplica_Replica_others (rB rO : Nat) (W : World) (R : List Own) (Φ : PW) (J : Value → World → Prop) : Prop :=
  ∀ (k0 k1 : Nat) (w2 : World) (R3 : List Own), Ctx W w2 (Own.blk k1 [Value.int IntKind.i64 0, Value.int IntKind.i64 1, Value.int IntKind.i64 2] 3 :: Own.blk k0 [Value.pointer (some (Addr.mk
  rB rO none))] 46 :: R ++ R3) Φ → Calls Try.prog F.slices_DeleteFunc_int_int #[Value.slice (some (Addr.mk k1 0 none)) 3 3, Value.func (Fn.func 57) #[] #[Value.pointer (some (Addr.mk k0 0
  none))]] w2 fun (e4 : Ending) (w5 : World) => ∃ (p6 : Option Addr), ∃ (k7 : Nat), ∃ (k8 : Nat), e4 = Ending.returned (Value.slice p6 k7 k8) ∧ ∃ (R9 : List Own), ∃ (Φ10 : PW), Stable Φ10 ∧
  Ctx W w5 (R9 ++ R3) Φ10 ∧ ∀ (w11 : World) (R12 : List Own), Ctx W w11 (R9 ++ R12) Φ10 → J (Value.slice p6 k7 k8) w11

theorem Breplica_Replica_others_run (rB rO : Nat) {W w : World} {R : List Own} {Φ : PW} [Stable Φ] {J : Value → World → Prop} (c : Ctx W w R Φ) (h : Breplica_Replica_others rB rO W R Φ J) : Calls Try.prog F.replica_Replica_others #[.pointer (some ⟨rB, rO, none⟩)] w fun e w' => ∃ v, e = .returned v ∧ J v w' :=
  vcFS_sound (H := { keep := some [1, 2] }) (by rw [show vcFS Try.prog W { keep := some [1, 2] } F.replica_Replica_others #[.pointer (some ⟨rB, rO, none⟩)] R Φ J = Breplica_Replica_others rB rO W R Φ J by kernel_rfl]; exact h) c

/-- (*replica.Replica).message -/
-- known blocks: 6 
def Breplica_Replica_message (rB rO : Nat) (kind : Int) (to : Int) (W : World) (R : List Own) (Φ : PW) (J : Value → World → Prop) : Prop :=
  ∀ (b : Nat) (w0 : World) (R1 : List Own), Ctx W w0 (R ++ R1) Φ → ∃ (n2 : Int), w0.cell? (Addr.mk rB rO none) = some (Value.int IntKind.i64 n2) ∧ ∀ (w3 : World) (R4 : List Own), Ctx W w3 (R
  ++ R4) Φ → ∃ (n5 : Int), w3.cell? (Addr.mk rB (rO + 1) none) = some (Value.int IntKind.i64 n5) ∧ ∀ (w6 : World) (R7 : List Own), Ctx W w6 (R ++ R7) Φ → J (Value.agg #[Value.int IntKind.i64
  kind, Value.int IntKind.i64 n2, Value.int IntKind.i64 to, Value.int IntKind.i64 n5, Value.int IntKind.i64 0, Value.int IntKind.i64 0, Value.int IntKind.i64 0, Value.bool false, Value.slice
  none 0 0]) w6

theorem Breplica_Replica_message_run (rB rO : Nat) (kind : Int) (to : Int) {W w : World} {R : List Own} {Φ : PW} [Stable Φ] {J : Value → World → Prop} (c : Ctx W w R Φ) (h : Breplica_Replica_message rB rO kind to W R Φ J) : Calls Try.prog F.replica_Replica_message #[.pointer (some ⟨rB, rO, none⟩), .int .i64 kind, .int .i64 to] w fun e w' => ∃ v, e = .returned v ∧ J v w' :=
  vcFS_sound (H := { keep := some [0, 1, 2, 6], track := [6], stages := [(1, [.stage [0, 1, 5, 6, 2, 7, 3, 8, 4, 9, 10, 11] (some 12)])] }) (by rw [show vcFS Try.prog W { keep := some [0, 1, 2, 6], track := [6], stages := [(1, [.stage [0, 1, 5, 6, 2, 7, 3, 8, 4, 9, 10, 11] (some 12)])] } F.replica_Replica_message #[.pointer (some ⟨rB, rO, none⟩), .int .i64 kind, .int .i64 to] R Φ J = Breplica_Replica_message rB rO kind to W R Φ J by kernel_rfl]; exact h) c

/-- slices.Clone[[]api.Rec,api.Rec] -/
def Bslices_Clone_api_Rec_api_Rec (sP : Option Addr) (sN sC : Nat) (W : World) (R : List Own) (Φ : PW) (J : Value → World → Prop) : Prop :=
  Br sP.isNone (∀ (w0 : World) (R1 : List Own), Ctx W w0 (R ++ R1) Φ → J (Value.slice none 0 0) w0) (∀ (k2 : Nat) (w3 : World) (R4 : List Own), Ctx W w3 (Own.blk k2 [] 55 :: R ++ R4) Φ → ∃
  (p5 : Option Addr), ∃ (k6 : Nat), ∃ (k7 : Nat), ∃ (w8 : World), Sem.run Try.prog (builtin Builtin.append #[35, 35] 35 #[false, false] #[Value.slice (some (Addr.mk k2 0 none)) 0 0,
  Value.slice sP sN sC]) w3 = Result.ok (Next.value (Value.slice p5 k6 k7)) w8 ∧ ∃ (R9 : List Own), ∃ (Φ10 : PW), Stable Φ10 ∧ Ctx W w8 (R9 ++ R4) Φ10 ∧ ∀ (w11 : World) (R12 : List Own), Ctx
  W w11 (R9 ++ R12) Φ10 → J (Value.slice p5 k6 k7) w11)

theorem Bslices_Clone_api_Rec_api_Rec_run (sP : Option Addr) (sN sC : Nat) {W w : World} {R : List Own} {Φ : PW} [Stable Φ] {J : Value → World → Prop} (c : Ctx W w R Φ) (h : Bslices_Clone_api_Rec_api_Rec sP sN sC W R Φ J) : Calls Try.prog F.slices_Clone_api_Rec_api_Rec #[.slice sP sN sC] w fun e w' => ∃ v, e = .returned v ∧ J v w' :=
  vcFS_sound (H := { keep := some [0, 2, 4] }) (by rw [show vcFS Try.prog W { keep := some [0, 2, 4] } F.slices_Clone_api_Rec_api_Rec #[.slice sP sN sC] R Φ J = Bslices_Clone_api_Rec_api_Rec sP sN sC W R Φ J by kernel_rfl]; exact h) c

/-- replica.sound -/
-- loop at region 2: 1 least, 11 ; blocks 
-- known blocks: 8 x
def Breplica_sound (lP : Option Addr) (lN lC : Nat) (least : Int) (most : Int) (W : World) (R : List Own) (Φ : PW) (J : Value → World → Prop) : Prop :=
  exI fun (I0 : Int → Int → List Own → PW → Nat → Prop) => (∃ (R1 : List Own), ∃ (Φ2 : PW), ∃ (k3 : Nat), Stable Φ2 ∧ (∀ (w4 : World) (R5 : List Own), Ctx W w4 (R ++ R5) Φ → Ctx W w4 (R1 ++
  R5) Φ2) ∧ I0 least 0 R1 Φ2 k3) ∧ ∀ (n6 n7 : Int) (R8 : List Own) (I9 : List Nat → World → Prop) (k10 : Nat), Stable I9 → I0 n6 n7 R8 I9 k10 → Br (decide (n7 < (↑lN : Int))) ((0 ≤ n7 ∧ n7 <
  (↑lN : Int)) ∧ ptrK none lP fun (k11 k12 : Nat) => ∀ (w13 : World) (R14 : List Own), Ctx W w13 (R8 ++ R14) I9 → ∃ (n15 : Int), ∃ (s16 : ByteArray), RowAt w13 k11 (k12 + n7.toNat * 2)
  [Value.int IntKind.i64 n15, Value.string s16] ∧ ∀ (b : Nat) (w17 : World) (R18 : List Own), Ctx W w17 (R8 ++ R18) I9 → Br (decide (n15 < n6) || decide (most < n15) || decide (2000 <
  (↑s16.size : Int))) (∀ (w19 : World) (R20 : List Own), Ctx W w19 (R8 ++ R20) I9 → J (Value.bool false) w19) (I64 (n7 + 1) ∧ ∃ (R21 : List Own), ∃ (Φ22 : PW), ∃ (k23 : Nat), Stable Φ22 ∧ (∀
  (w24 : World) (R25 : List Own), Ctx W w24 (R8 ++ R25) I9 → Ctx W w24 (R21 ++ R25) Φ22) ∧ I0 n15 (n7 + 1) R21 Φ22 k23 ∧ k23 < k10)) (∀ (w26 : World) (R27 : List Own), Ctx W w26 (R8 ++ R27)
  I9 → J (Value.bool true) w26)

theorem Breplica_sound_run (lP : Option Addr) (lN lC : Nat) (least : Int) (most : Int) {W w : World} {R : List Own} {Φ : PW} [Stable Φ] {J : Value → World → Prop} (c : Ctx W w R Φ) (h : Breplica_sound lP lN lC least most W R Φ J) : Calls Try.prog F.replica_sound #[.slice lP lN lC, .int .i64 least, .int .i64 most] w fun e w' => ∃ v, e = .returned v ∧ J v w' :=
  vcFS_sound (H := { keep := some [0, 1, 2, 6, 8, 9, 10, 11, 12, 30], track := [8], loops := [(2, [(1, .one (.int .i64)), (11, .one (.int .i64))], [])] }) (by rw [show vcFS Try.prog W { keep := some [0, 1, 2, 6, 8, 9, 10, 11, 12, 30], track := [8], loops := [(2, [(1, .one (.int .i64)), (11, .one (.int .i64))], [])] } F.replica_sound #[.slice lP lN lC, .int .i64 least, .int .i64 most] R Φ J = Breplica_sound lP lN lC least most W R Φ J by kernel_rfl]; exact h) c

/-- (*replica.Replica).right -/
-- known blocks: 3 m
def Breplica_Replica_right (rB rO : Nat) (m0 : Int) (m1 : Int) (m2 : Int) (m3 : Int) (m4 : Int) (m5 : Int) (m6 : Int) (m7 : Bool) (m8P : Option Addr) (m8N m8C : Nat) (W : World) (R : List Own) (Φ : PW) (J : Value → World → Prop) : Prop :=
  ∀ (b : Nat) (w0 : World) (R1 : List Own), Ctx W w0 (R ++ R1) Φ → ∃ (c2 : Bool), (∀ (w3 : World), (∃ (k4 : Nat), w3 = w0.drewN k4) → Calls Try.prog F.replica_between #[Value.int IntKind.i64
  m0, Value.int IntKind.i64 0, Value.int IntKind.i64 3] w3 fun (e5 : Ending) (w6 : World) => e5 = Ending.returned (Value.bool c2) ∧ ∃ (k7 : Nat), w6 = w0.drewN k7) ∧ ∃ (n8 : Int), ((!!c2) =
  true → w0.cell? (Addr.mk rB rO none) = some (Value.int IntKind.i64 n8)) ∧ ∃ (n9 : Int), ((!(!c2 || decide (m2 ≠ n8))) = true → w0.cell? (Addr.mk rB rO none) = some (Value.int IntKind.i64
  n9)) ∧ ∃ (c10 : Bool), ((!(!c2 || decide (m2 ≠ n8) || decide (m1 = n9))) = true → ∀ (w11 : World), (∃ (k12 : Nat), w11 = w0.drewN k12) → Calls Try.prog F.replica_between #[Value.int
  IntKind.i64 m1, Value.int IntKind.i64 0, Value.int IntKind.i64 2] w11 fun (e13 : Ending) (w14 : World) => e13 = Ending.returned (Value.bool c10) ∧ ∃ (k15 : Nat), w14 = w0.drewN k15) ∧ Br
  (!c2 || decide (m2 ≠ n8) || decide (m1 = n9) || !c10) (∀ (w16 : World) (R17 : List Own), Ctx W w16 (R ++ R17) Φ → J (Value.bool false) w16) (∀ (w18 : World) (R19 : List Own), Ctx W w18 (R
  ++ R19) Φ → ∃ (c20 : Bool), (∀ (w21 : World), w21 = w18 → Calls Try.prog F.replica_between #[Value.int IntKind.i64 m3, Value.int IntKind.i64 1, Value.int IntKind.i64 1099511627776] w21 fun
  (e22 : Ending) (w23 : World) => e22 = Ending.returned (Value.bool c20) ∧ w23 = w18) ∧ ∃ (c24 : Bool), ((!!c20) = true → ∀ (w25 : World), w25 = w18 → Calls Try.prog F.replica_between
  #[Value.int IntKind.i64 m4, Value.int IntKind.i64 0, Value.int IntKind.i64 4000] w25 fun (e26 : Ending) (w27 : World) => e26 = Ending.returned (Value.bool c24) ∧ w27 = w18) ∧ ∃ (c28 :
  Bool), ((!(!c20 || !c24)) = true → ∀ (w29 : World), w29 = w18 → Calls Try.prog F.replica_between #[Value.int IntKind.i64 m5, Value.int IntKind.i64 0, Value.int IntKind.i64 m3] w29 fun (e30
  : Ending) (w31 : World) => e30 = Ending.returned (Value.bool c28) ∧ w31 = w18) ∧ Br (!c20 || !c24 || !c28 || decide (m4 = 0) && decide (m5 ≠ 0)) (∀ (w32 : World) (R33 : List Own), Ctx W w32
  (R ++ R33) Φ → J (Value.bool false) w32) (∀ (w34 : World) (R35 : List Own), Ctx W w34 (R ++ R35) Φ → Calls Try.prog F.replica_between #[Value.int IntKind.i64 m6, Value.int IntKind.i64 0,
  Value.int IntKind.i64 4000] w34 fun (e36 : Ending) (w37 : World) => ∃ (c38 : Bool), e36 = Ending.returned (Value.bool c38) ∧ ∃ (R39 : List Own), ∃ (Φ40 : PW), Stable Φ40 ∧ Ctx W w37 (R39 ++
  R35) Φ40 ∧ Br c38 (Br (decide ((↑m8N : Int) ≤ 8)) (I64 (m4 + (↑m8N : Int)) ∧ Br (decide (m4 + (↑m8N : Int) ≤ 4000)) (∀ (w41 : World) (R42 : List Own), Ctx W w41 (R39 ++ R42) Φ40 → Calls
  Try.prog F.replica_sound #[Value.slice m8P m8N m8C, Value.int IntKind.i64 (max 1 m5), Value.int IntKind.i64 m3] w41 fun (e43 : Ending) (w44 : World) => ∃ (c45 : Bool), e43 = Ending.returned
  (Value.bool c45) ∧ ∃ (R46 : List Own), ∃ (Φ47 : PW), Stable Φ47 ∧ Ctx W w44 (R46 ++ R42) Φ47 ∧ ∀ (w48 : World) (R49 : List Own), Ctx W w48 (R46 ++ R49) Φ47 → J (Value.bool c45) w48) (∀ (w50
  : World) (R51 : List Own), Ctx W w50 (R39 ++ R51) Φ40 → J (Value.bool false) w50)) (∀ (w52 : World) (R53 : List Own), Ctx W w52 (R39 ++ R53) Φ40 → J (Value.bool false) w52)) (∀ (w54 :
  World) (R55 : List Own), Ctx W w54 (R39 ++ R55) Φ40 → J (Value.bool false) w54)))

theorem Breplica_Replica_right_run (rB rO : Nat) (m0 : Int) (m1 : Int) (m2 : Int) (m3 : Int) (m4 : Int) (m5 : Int) (m6 : Int) (m7 : Bool) (m8P : Option Addr) (m8N m8C : Nat) {W w : World} {R : List Own} {Φ : PW} [Stable Φ] {J : Value → World → Prop} (c : Ctx W w R Φ) (h : Breplica_Replica_right rB rO m0 m1 m2 m3 m4 m5 m6 m7 m8P m8N m8C W R Φ J) : Calls Try.prog F.replica_Replica_right #[.pointer (some ⟨rB, rO, none⟩), .agg #[.int .i64 m0, .int .i64 m1, .int .i64 m2, .int .i64 m3, .int .i64 m4, .int .i64 m5, .int .i64 m6, .bool m7, .slice m8P m8N m8C]] w fun e w' => ∃ v, e = .returned v ∧ J v w' :=
  vcFS_sound (H := { keep := some [0, 3, 4, 5, 34], track := [3], split := [5] }) (by rw [show vcFS Try.prog W { keep := some [0, 3, 4, 5, 34], track := [3], split := [5] } F.replica_Replica_right #[.pointer (some ⟨rB, rO, none⟩), .agg #[.int .i64 m0, .int .i64 m1, .int .i64 m2, .int .i64 m3, .int .i64 m4, .int .i64 m5, .int .i64 m6, .bool m7, .slice m8P m8N m8C]] R Φ J = Breplica_Replica_right rB rO m0 m1 m2 m3 m4 m5 m6 m7 m8P m8N m8C W R Φ J by kernel_rfl]; exact h) c

/-- (*replica.Replica).vote -/
-- known blocks: 3 m, 4 
def Breplica_Replica_vote (rB rO : Nat) (m0 : Int) (m1 : Int) (m2 : Int) (m3 : Int) (m4 : Int) (m5 : Int) (m6 : Int) (m7 : Bool) (m8P : Option Addr) (m8N m8C : Nat) (W : World) (R : List Own) (Φ : PW) (J : Value → World → Prop) : Prop :=
  ∀ (b b : Nat) (w0 : World) (R1 : List Own), Ctx W w0 (R ++ R1) Φ → Calls Try.prog F.replica_Replica_message #[Value.pointer (some (Addr.mk rB rO none)), Value.int IntKind.i64 1, Value.int
  IntKind.i64 m1] w0 fun (e2 : Ending) (w3 : World) => ∃ (n4 : Int), ∃ (n5 : Int), ∃ (n6 : Int), ∃ (n7 : Int), ∃ (n8 : Int), ∃ (n9 : Int), ∃ (n10 : Int), ∃ (c11 : Bool), ∃ (p12 : Option
  Addr), ∃ (k13 : Nat), ∃ (k14 : Nat), e2 = Ending.returned (Value.agg #[Value.int IntKind.i64 n4, Value.int IntKind.i64 n5, Value.int IntKind.i64 n6, Value.int IntKind.i64 n7, Value.int
  IntKind.i64 n8, Value.int IntKind.i64 n9, Value.int IntKind.i64 n10, Value.bool c11, Value.slice p12 k13 k14]) ∧ ∃ (R15 : List Own), ∃ (Φ16 : PW), Stable Φ16 ∧ Ctx W w3 (R15 ++ R1) Φ16 ∧ ∀
  (k17 : Nat) (w18 : World) (R19 : List Own), Ctx W w18 (Own.blk k17 [Value.int IntKind.i64 0, Value.int IntKind.i64 0, Value.int IntKind.i64 0, Value.int IntKind.i64 0, Value.int IntKind.i64
  0, Value.int IntKind.i64 0, Value.int IntKind.i64 0, Value.bool false, Value.slice none 0 0] 37 :: R15 ++ R19) Φ16 → CanWrite w18 k17 0 9 ∧ ∀ (w20 : World), w20 = w18.setCells k17 0
  [Value.int IntKind.i64 n4, Value.int IntKind.i64 n5, Value.int IntKind.i64 n6, Value.int IntKind.i64 n7, Value.int IntKind.i64 n8, Value.int IntKind.i64 n9, Value.int IntKind.i64 n10,
  Value.bool c11, Value.slice p12 k13 k14] → ∃ (R21 : List Own), ∃ (Φ22 : PW), Stable Φ22 ∧ Ctx W w20 (R21 ++ R19) Φ22 ∧ ∀ (w23 : World) (R24 : List Own), Ctx W w23 (R21 ++ R24) Φ22 → ∃ (p25
  : Option Addr), ∃ (k26 : Nat), ∃ (k27 : Nat), w23.cell? (Addr.mk rB (rO + 3) none) = some (Value.slice p25 k26 k27) ∧ ∀ (w28 : World) (R29 : List Own), Ctx W w28 (R21 ++ R29) Φ22 → Calls
  Try.prog F.replica_Replica_term #[Value.pointer (some (Addr.mk rB rO none)), Value.int IntKind.i64 (↑k26 : Int)] w28 fun (e30 : Ending) (w31 : World) => ∃ (n32 : Int), e30 = Ending.returned
  (Value.int IntKind.i64 n32) ∧ ∃ (R33 : List Own), ∃ (Φ34 : PW), Stable Φ34 ∧ Ctx W w31 (R33 ++ R29) Φ34 ∧ ∀ (w35 : World) (R36 : List Own), Ctx W w35 (R33 ++ R36) Φ34 → ∃ (p37 : Option
  Addr), ∃ (k38 : Nat), ∃ (k39 : Nat), ((!decide (n32 < m5) && decide (m5 = n32)) = true → w35.cell? (Addr.mk rB (rO + 3) none) = some (Value.slice p37 k38 k39)) ∧ ∀ (w40 : World) (R41 : List
  Own), Ctx W w40 (R33 ++ R41) Φ34 → ∃ (n42 : Int), w40.cell? (Addr.mk rB (rO + 1) none) = some (Value.int IntKind.i64 n42) ∧ ∃ (n43 : Int), (decide (m3 = n42) = true → w40.cell? (Addr.mk rB
  (rO + 2) none) = some (Value.int IntKind.i64 n43)) ∧ ∃ (n44 : Int), ((decide (m3 = n42) && !decide (n43 = -1)) = true → w40.cell? (Addr.mk rB (rO + 2) none) = some (Value.int IntKind.i64
  n44)) ∧ Br (decide (m3 = n42) && (decide (n43 = -1) || decide (n44 = m1)) && (decide (n32 < m5) || decide (m5 = n32) && decide ((↑k38 : Int) ≤ m4))) (∃ (R45 : List Own), ∃ (Φ46 : PW),
  Stable Φ46 ∧ (∀ (w47 : World) (R48 : List Own), Ctx W w47 (R33 ++ R48) Φ34 → Ctx W w47 (R45 ++ R48) Φ46) ∧ ∀ (w49 : World) (R50 : List Own), Ctx W w49 (R33 ++ R50) Φ34 → CanWrite w49 k17 7
  1 ∧ ∀ (w51 : World), w51 = w49.setCell (Addr.mk k17 7 none) (Value.bool true) → ∃ (R52 : List Own), ∃ (Φ53 : PW), Stable Φ53 ∧ Ctx W w51 (R52 ++ R50) Φ53 ∧ (∀ (w54 : World) (R55 : List
  Own), Ctx W w54 (R52 ++ R55) Φ53 → Ctx W w54 (R45 ++ R55) Φ46) ∧ ∀ (w56 : World) (R57 : List Own), Ctx W w56 (R52 ++ R57) Φ53 → CanWrite w56 rB (rO + 2) 1 ∧ ∀ (w58 : World), w58 =
  w56.setCell (Addr.mk rB (rO + 2) none) (Value.int IntKind.i64 m1) → ∃ (R59 : List Own), ∃ (Φ60 : PW), Stable Φ60 ∧ Ctx W w58 (R59 ++ R57) Φ60 ∧ ∀ (w61 : World) (R62 : List Own), Ctx W w61
  (R59 ++ R62) Φ60 → ∃ (n63 : Int), ∃ (n64 : Int), ∃ (n65 : Int), ∃ (n66 : Int), ∃ (n67 : Int), ∃ (n68 : Int), ∃ (n69 : Int), ∃ (c70 : Bool), ∃ (p71 : Option Addr), ∃ (k72 : Nat), ∃ (k73 :
  Nat), RowAt w61 k17 0 [Value.int IntKind.i64 n63, Value.int IntKind.i64 n64, Value.int IntKind.i64 n65, Value.int IntKind.i64 n66, Value.int IntKind.i64 n67, Value.int IntKind.i64 n68,
  Value.int IntKind.i64 n69, Value.bool c70, Value.slice p71 k72 k73] ∧ ∀ (w74 : World) (R75 : List Own), Ctx W w74 (R59 ++ R75) Φ60 → Calls Try.prog F.replica_answer #[Value.agg #[Value.int
  IntKind.i64 n63, Value.int IntKind.i64 n64, Value.int IntKind.i64 n65, Value.int IntKind.i64 n66, Value.int IntKind.i64 n67, Value.int IntKind.i64 n68, Value.int IntKind.i64 n69, Value.bool
  c70, Value.slice p71 k72 k73]] w74 fun (e76 : Ending) (w77 : World) => ∃ (c78 : Bool), ∃ (n79 : Int), ∃ (n80 : Int), ∃ (n81 : Int), ∃ (p82 : Option Addr), ∃ (k83 : Nat), ∃ (k84 : Nat), ∃
  (p85 : Option Addr), ∃ (k86 : Nat), ∃ (k87 : Nat), e76 = Ending.returned (Value.agg #[Value.bool c78, Value.int IntKind.i64 n79, Value.int IntKind.i64 n80, Value.int IntKind.i64 n81,
  Value.slice p82 k83 k84, Value.slice p85 k86 k87]) ∧ ∃ (R88 : List Own), ∃ (Φ89 : PW), Stable Φ89 ∧ Ctx W w77 (R88 ++ R75) Φ89 ∧ ∀ (w90 : World) (R91 : List Own), Ctx W w90 (R88 ++ R91) Φ89
  → J (Value.agg #[Value.bool c78, Value.int IntKind.i64 n79, Value.int IntKind.i64 n80, Value.int IntKind.i64 n81, Value.slice p82 k83 k84, Value.slice p85 k86 k87]) w90) (∀ (w92 : World)
  (R93 : List Own), Ctx W w92 (R33 ++ R93) Φ34 → ∃ (n94 : Int), ∃ (n95 : Int), ∃ (n96 : Int), ∃ (n97 : Int), ∃ (n98 : Int), ∃ (n99 : Int), ∃ (n100 : Int), ∃ (c101 : Bool), ∃ (p102 : Option
  Addr), ∃ (k103 : Nat), ∃ (k104 : Nat), RowAt w92 k17 0 [Value.int IntKind.i64 n94, Value.int IntKind.i64 n95, Value.int IntKind.i64 n96, Value.int IntKind.i64 n97, Value.int IntKind.i64
  n98, Value.int IntKind.i64 n99, Value.int IntKind.i64 n100, Value.bool c101, Value.slice p102 k103 k104] ∧ ∀ (w105 : World) (R106 : List Own), Ctx W w105 (R33 ++ R106) Φ34 → Calls Try.prog
  F.replica_answer #[Value.agg #[Value.int IntKind.i64 n94, Value.int IntKind.i64 n95, Value.int IntKind.i64 n96, Value.int IntKind.i64 n97, Value.int IntKind.i64 n98, Value.int IntKind.i64
  n99, Value.int IntKind.i64 n100, Value.bool c101, Value.slice p102 k103 k104]] w105 fun (e107 : Ending) (w108 : World) => ∃ (c109 : Bool), ∃ (n110 : Int), ∃ (n111 : Int), ∃ (n112 : Int), ∃
  (p113 : Option Addr), ∃ (k114 : Nat), ∃ (k115 : Nat), ∃ (p116 : Option Addr), ∃ (k117 : Nat), ∃ (k118 : Nat), e107 = Ending.returned (Value.agg #[Value.bool c109, Value.int IntKind.i64
  n110, Value.int IntKind.i64 n111, Value.int IntKind.i64 n112, Value.slice p113 k114 k115, Value.slice p116 k117 k118]) ∧ ∃ (R119 : List Own), ∃ (Φ120 : PW), Stable Φ120 ∧ Ctx W w108 (R119
  ++ R106) Φ120 ∧ ∀ (w121 : World) (R122 : List Own), Ctx W w121 (R119 ++ R122) Φ120 → J (Value.agg #[Value.bool c109, Value.int IntKind.i64 n110, Value.int IntKind.i64 n111, Value.int
  IntKind.i64 n112, Value.slice p113 k114 k115, Value.slice p116 k117 k118]) w121)

theorem Breplica_Replica_vote_run (rB rO : Nat) (m0 : Int) (m1 : Int) (m2 : Int) (m3 : Int) (m4 : Int) (m5 : Int) (m6 : Int) (m7 : Bool) (m8P : Option Addr) (m8N m8C : Nat) {W w : World} {R : List Own} {Φ : PW} [Stable Φ] {J : Value → World → Prop} (c : Ctx W w R Φ) (h : Breplica_Replica_vote rB rO m0 m1 m2 m3 m4 m5 m6 m7 m8P m8N m8C W R Φ J) : Calls Try.prog F.replica_Replica_vote #[.pointer (some ⟨rB, rO, none⟩), .agg #[.int .i64 m0, .int .i64 m1, .int .i64 m2, .int .i64 m3, .int .i64 m4, .int .i64 m5, .int .i64 m6, .bool m7, .slice m8P m8N m8C]] w fun e w' => ∃ v, e = .returned v ∧ J v w' :=
  vcFS_sound (H := { keep := some [0, 3, 4, 5, 6, 7, 67], track := [3, 4], stages := [(5, [.held [(0, true), (1, true), (3, true), (2, true), (4, false)], .stage [5] none, .stage [6] none, .stage [7] (some 8)])] }) (by rw [show vcFS Try.prog W { keep := some [0, 3, 4, 5, 6, 7, 67], track := [3, 4], stages := [(5, [.held [(0, true), (1, true), (3, true), (2, true), (4, false)], .stage [5] none, .stage [6] none, .stage [7] (some 8)])] } F.replica_Replica_vote #[.pointer (some ⟨rB, rO, none⟩), .agg #[.int .i64 m0, .int .i64 m1, .int .i64 m2, .int .i64 m3, .int .i64 m4, .int .i64 m5, .int .i64 m6, .bool m7, .slice m8P m8N m8C]] R Φ J = Breplica_Replica_vote rB rO m0 m1 m2 m3 m4 m5 m6 m7 m8P m8N m8C W R Φ J by kernel_rfl]; exact h) c

/-- (*replica.Replica).voted -/
-- loop at region 15: 53 ; blocks 
-- loop at region 6: 5 n, 40 ; blocks 
-- known blocks: 3 m, 4 
def Breplica_Replica_voted (rB rO : Nat) (m0 : Int) (m1 : Int) (m2 : Int) (m3 : Int) (m4 : Int) (m5 : Int) (m6 : Int) (m7 : Bool) (m8P : Option Addr) (m8N m8C : Nat) (W : World) (R : List Own) (Φ : PW) (J : Value → World → Prop) : Prop :=
  ∀ (b b : Nat) (w0 : World) (R1 : List Own), Ctx W w0 (R ++ R1) Φ → ∃ (n2 : Int), w0.cell? (Addr.mk rB (rO + 4) none) = some (Value.int IntKind.i64 n2) ∧ ∃ (n3 : Int), ((!decide (n2 ≠ 1)) =
  true → w0.cell? (Addr.mk rB (rO + 1) none) = some (Value.int IntKind.i64 n3)) ∧ Br (decide (n2 ≠ 1) || decide (m3 ≠ n3) || !m7) (∀ (w4 : World) (R5 : List Own), Ctx W w4 (R ++ R5) Φ → J
  (Value.agg #[Value.bool false, Value.int IntKind.i64 0, Value.int IntKind.i64 0, Value.int IntKind.i64 0, Value.slice none 0 0, Value.slice none 0 0]) w4) (∃ (R6 : List Own), ∃ (Φ7 : PW),
  Stable Φ7 ∧ (∀ (w8 : World) (R9 : List Own), Ctx W w8 (R ++ R9) Φ → Ctx W w8 (R6 ++ R9) Φ7) ∧ (0 ≤ m1 ∧ m1 < 3) ∧ ∀ (w10 : World) (R11 : List Own), Ctx W w10 (R ++ R11) Φ → CanWrite w10 rB
  (rO + 6 + m1.toNat) 1 ∧ ∀ (w12 : World), w12 = w10.setCell (Addr.mk rB (rO + 6 + m1.toNat) none) (Value.bool true) → ∃ (R13 : List Own), ∃ (Φ14 : PW), Stable Φ14 ∧ Ctx W w12 (R13 ++ R11)
  Φ14 ∧ (∀ (w15 : World) (R16 : List Own), Ctx W w15 (R13 ++ R16) Φ14 → Ctx W w15 (R6 ++ R16) Φ7) ∧ ∀ (w17 : World) (R18 : List Own), Ctx W w17 (R13 ++ R18) Φ14 → ∃ (c19 : Bool), ∃ (c20 :
  Bool), ∃ (c21 : Bool), RowAt w17 rB (rO + 6) [Value.bool c19, Value.bool c20, Value.bool c21] ∧ exI fun (I22 : Int → Int → List Own → PW → Nat → Prop) => (∃ (R23 : List Own), ∃ (Φ24 : PW),
  ∃ (k25 : Nat), Stable Φ24 ∧ (∀ (w26 : World) (R27 : List Own), Ctx W w26 (R13 ++ R27) Φ14 → Ctx W w26 (R23 ++ R27) Φ24) ∧ I22 0 0 R23 Φ24 k25) ∧ ∀ (n28 n29 : Int) (R30 : List Own) (I31 :
  List Nat → World → Prop) (k32 : Nat), Stable I31 → I22 n28 n29 R30 I31 k32 → Br (decide (n29 < 3)) (∃ (c33 : Bool), (0 ≤ n29 ∧ n29 < 3 ∧ aggAt (0 + n29.toNat) [Value.bool c19, Value.bool
  c20, Value.bool c21] = some (Value.bool c33)) ∧ Br c33 (I64 (n28 + 1) ∧ I64 (n29 + 1) ∧ ∃ (R34 : List Own), ∃ (Φ35 : PW), ∃ (k36 : Nat), Stable Φ35 ∧ (∀ (w37 : World) (R38 : List Own), Ctx
  W w37 (R30 ++ R38) I31 → Ctx W w37 (R34 ++ R38) Φ35) ∧ I22 (n28 + 1) (n29 + 1) R34 Φ35 k36 ∧ k36 < k32) (I64 (n29 + 1) ∧ ∃ (R39 : List Own), ∃ (Φ40 : PW), ∃ (k41 : Nat), Stable Φ40 ∧ (∀
  (w42 : World) (R43 : List Own), Ctx W w42 (R30 ++ R43) I31 → Ctx W w42 (R39 ++ R43) Φ40) ∧ I22 n28 (n29 + 1) R39 Φ40 k41 ∧ k41 < k32)) (Br (decide (n28 < 2)) (∀ (w44 : World) (R45 : List
  Own), Ctx W w44 (R30 ++ R45) I31 → J (Value.agg #[Value.bool false, Value.int IntKind.i64 0, Value.int IntKind.i64 0, Value.int IntKind.i64 0, Value.slice none 0 0, Value.slice none 0 0])
  w44) (∀ (w46 : World) (R47 : List Own), Ctx W w46 (R30 ++ R47) I31 → CanWrite w46 rB (rO + 4) 1 ∧ ∀ (w48 : World), w48 = w46.setCell (Addr.mk rB (rO + 4) none) (Value.int IntKind.i64 2) → ∃
  (R49 : List Own), ∃ (Φ50 : PW), Stable Φ50 ∧ Ctx W w48 (R49 ++ R47) Φ50 ∧ exI fun (I51 : Int → List Own → PW → Nat → Prop) => (∃ (R52 : List Own), ∃ (Φ53 : PW), ∃ (k54 : Nat), Stable Φ53 ∧
  (∀ (w55 : World) (R56 : List Own), Ctx W w55 (R49 ++ R56) Φ50 → Ctx W w55 (R52 ++ R56) Φ53) ∧ I51 0 R52 Φ53 k54) ∧ ∀ (n57 : Int) (R58 : List Own) (I59 : List Nat → World → Prop) (k60 :
  Nat), Stable I59 → I51 n57 R58 I59 k60 → Br (decide (n57 < 3)) (∃ (R61 : List Own), ∃ (Φ62 : PW), Stable Φ62 ∧ (∀ (w63 : World) (R64 : List Own), Ctx W w63 (R58 ++ R64) I59 → Ctx W w63 (R61
  ++ R64) Φ62) ∧ ∀ (w65 : World) (R66 : List Own), Ctx W w65 (R58 ++ R66) I59 → ∃ (p67 : Option Addr), ∃ (k68 : Nat), ∃ (k69 : Nat), w65.cell? (Addr.mk rB (rO + 3) none) = some (Value.slice
  p67 k68 k69) ∧ I64 ((↑k68 : Int) + 1) ∧ (0 ≤ n57 ∧ n57 < 3) ∧ ∀ (w70 : World) (R71 : List Own), Ctx W w70 (R58 ++ R71) I59 → CanWrite w70 rB (rO + 9 + n57.toNat) 1 ∧ ∀ (w72 : World), w72 =
  w70.setCell (Addr.mk rB (rO + 9 + n57.toNat) none) (Value.int IntKind.i64 ((↑k68 : Int) + 1)) → ∃ (R73 : List Own), ∃ (Φ74 : PW), Stable Φ74 ∧ Ctx W w72 (R73 ++ R71) Φ74 ∧ (∀ (w75 : World)
  (R76 : List Own), Ctx W w75 (R73 ++ R76) Φ74 → Ctx W w75 (R61 ++ R76) Φ62) ∧ (0 ≤ n57 ∧ n57 < 3) ∧ ∀ (w77 : World) (R78 : List Own), Ctx W w77 (R73 ++ R78) Φ74 → CanWrite w77 rB (rO + 12 +
  n57.toNat) 1 ∧ ∀ (w79 : World), w79 = w77.setCell (Addr.mk rB (rO + 12 + n57.toNat) none) (Value.int IntKind.i64 0) → ∃ (R80 : List Own), ∃ (Φ81 : PW), Stable Φ81 ∧ Ctx W w79 (R80 ++ R78)
  Φ81 ∧ (∀ (w82 : World) (R83 : List Own), Ctx W w82 (R80 ++ R83) Φ81 → Ctx W w82 (R61 ++ R83) Φ62) ∧ I64 (n57 + 1) ∧ ∃ (R84 : List Own), ∃ (Φ85 : PW), ∃ (k86 : Nat), Stable Φ85 ∧ (∀ (w87 :
  World) (R88 : List Own), Ctx W w87 (R80 ++ R88) Φ81 → Ctx W w87 (R84 ++ R88) Φ85) ∧ I51 (n57 + 1) R84 Φ85 k86 ∧ k86 < k60) (∀ (w89 : World) (R90 : List Own), Ctx W w89 (R58 ++ R90) I59 →
  Calls Try.prog F.replica_Replica_all #[Value.pointer (some (Addr.mk rB rO none))] w89 fun (e91 : Ending) (w92 : World) => ∃ (p93 : Option Addr), ∃ (k94 : Nat), ∃ (k95 : Nat), e91 =
  Ending.returned (Value.slice p93 k94 k95) ∧ ∃ (R96 : List Own), ∃ (Φ97 : PW), Stable Φ97 ∧ Ctx W w92 (R96 ++ R90) Φ97 ∧ ∀ (w98 : World) (R99 : List Own), Ctx W w98 (R96 ++ R99) Φ97 → J
  (Value.agg #[Value.bool false, Value.int IntKind.i64 0, Value.int IntKind.i64 0, Value.int IntKind.i64 0, Value.slice none 0 0, Value.slice p93 k94 k95]) w98))))

theorem Breplica_Replica_voted_run (rB rO : Nat) (m0 : Int) (m1 : Int) (m2 : Int) (m3 : Int) (m4 : Int) (m5 : Int) (m6 : Int) (m7 : Bool) (m8P : Option Addr) (m8N m8C : Nat) {W w : World} {R : List Own} {Φ : PW} [Stable Φ] {J : Value → World → Prop} (c : Ctx W w R Φ) (h : Breplica_Replica_voted rB rO m0 m1 m2 m3 m4 m5 m6 m7 m8P m8N m8C W R Φ J) : Calls Try.prog F.replica_Replica_voted #[.pointer (some ⟨rB, rO, none⟩), .agg #[.int .i64 m0, .int .i64 m1, .int .i64 m2, .int .i64 m3, .int .i64 m4, .int .i64 m5, .int .i64 m6, .bool m7, .slice m8P m8N m8C]] w fun e w' => ∃ v, e = .returned v ∧ J v w' :=
  vcFS_sound (H := { keep := some [0, 3, 4, 5, 7, 8, 28, 39, 40, 41, 43, 48, 53, 54], track := [3, 4], stages := [(3, [.late [0, 1, 2, 5] [0, 1, 2, 3, 4, 5] [(6, [])]]), (17, [.late [0, 1, 4, 5, 6, 7, 8, 9, 12] [0, 1, 2, 3, 4, 5, 10, 14, 6, 11, 15, 7, 8, 9, 12] [(13, [16]), (17, [])]])], loops := [(15, [(53, .one (.int .i64))], []), (6, [(5, .one (.int .i64)), (40, .one (.int .i64))], [])] }) (by rw [show vcFS Try.prog W { keep := some [0, 3, 4, 5, 7, 8, 28, 39, 40, 41, 43, 48, 53, 54], track := [3, 4], stages := [(3, [.late [0, 1, 2, 5] [0, 1, 2, 3, 4, 5] [(6, [])]]), (17, [.late [0, 1, 4, 5, 6, 7, 8, 9, 12] [0, 1, 2, 3, 4, 5, 10, 14, 6, 11, 15, 7, 8, 9, 12] [(13, [16]), (17, [])]])], loops := [(15, [(53, .one (.int .i64))], []), (6, [(5, .one (.int .i64)), (40, .one (.int .i64))], [])] } F.replica_Replica_voted #[.pointer (some ⟨rB, rO, none⟩), .agg #[.int .i64 m0, .int .i64 m1, .int .i64 m2, .int .i64 m3, .int .i64 m4, .int .i64 m5, .int .i64 m6, .bool m7, .slice m8P m8N m8C]] R Φ J = Breplica_Replica_voted rB rO m0 m1 m2 m3 m4 m5 m6 m7 m8P m8N m8C W R Φ J by kernel_rfl]; exact h) c

/-- (*replica.Replica).append -/
-- loop at region 12: 65 ; blocks 4 , 6 o
-- known blocks: 3 m, 4 , 6 o, 8 x
def Breplica_Replica_append (rB rO : Nat) (m0 : Int) (m1 : Int) (m2 : Int) (m3 : Int) (m4 : Int) (m5 : Int) (m6 : Int) (m7 : Bool) (m8P : Option Addr) (m8N m8C : Nat) (W : World) (R : List Own) (Φ : PW) (J : Value → World → Prop) : Prop :=
  ∀ (b b : Nat) (w0 : World) (R1 : List Own), Ctx W w0 (R ++ R1) Φ → Calls Try.prog F.replica_Replica_message #[Value.pointer (some (Addr.mk rB rO none)), Value.int IntKind.i64 3, Value.int
  IntKind.i64 m1] w0 fun (e2 : Ending) (w3 : World) => ∃ (n4 : Int), ∃ (n5 : Int), ∃ (n6 : Int), ∃ (n7 : Int), ∃ (n8 : Int), ∃ (n9 : Int), ∃ (n10 : Int), ∃ (c11 : Bool), ∃ (p12 : Option
  Addr), ∃ (k13 : Nat), ∃ (k14 : Nat), e2 = Ending.returned (Value.agg #[Value.int IntKind.i64 n4, Value.int IntKind.i64 n5, Value.int IntKind.i64 n6, Value.int IntKind.i64 n7, Value.int
  IntKind.i64 n8, Value.int IntKind.i64 n9, Value.int IntKind.i64 n10, Value.bool c11, Value.slice p12 k13 k14]) ∧ ∃ (R15 : List Own), ∃ (Φ16 : PW), Stable Φ16 ∧ Ctx W w3 (R15 ++ R1) Φ16 ∧ ∀
  (k17 : Nat) (w18 : World) (R19 : List Own), Ctx W w18 (Own.blk k17 [Value.int IntKind.i64 0, Value.int IntKind.i64 0, Value.int IntKind.i64 0, Value.int IntKind.i64 0, Value.int IntKind.i64
  0, Value.int IntKind.i64 0, Value.int IntKind.i64 0, Value.bool false, Value.slice none 0 0] 37 :: R15 ++ R19) Φ16 → CanWrite w18 k17 0 9 ∧ ∀ (w20 : World), w20 = w18.setCells k17 0
  [Value.int IntKind.i64 n4, Value.int IntKind.i64 n5, Value.int IntKind.i64 n6, Value.int IntKind.i64 n7, Value.int IntKind.i64 n8, Value.int IntKind.i64 n9, Value.int IntKind.i64 n10,
  Value.bool c11, Value.slice p12 k13 k14] → ∃ (R21 : List Own), ∃ (Φ22 : PW), Stable Φ22 ∧ Ctx W w20 (R21 ++ R19) Φ22 ∧ ∀ (w23 : World) (R24 : List Own), Ctx W w23 (R21 ++ R24) Φ22 → ∃ (n25
  : Int), w23.cell? (Addr.mk rB (rO + 1) none) = some (Value.int IntKind.i64 n25) ∧ Br (decide (m3 < n25)) (∀ (w26 : World) (R27 : List Own), Ctx W w26 (R21 ++ R27) Φ22 → ∃ (n28 : Int), ∃
  (n29 : Int), ∃ (n30 : Int), ∃ (n31 : Int), ∃ (n32 : Int), ∃ (n33 : Int), ∃ (n34 : Int), ∃ (c35 : Bool), ∃ (p36 : Option Addr), ∃ (k37 : Nat), ∃ (k38 : Nat), RowAt w26 k17 0 [Value.int
  IntKind.i64 n28, Value.int IntKind.i64 n29, Value.int IntKind.i64 n30, Value.int IntKind.i64 n31, Value.int IntKind.i64 n32, Value.int IntKind.i64 n33, Value.int IntKind.i64 n34, Value.bool
  c35, Value.slice p36 k37 k38] ∧ ∀ (w39 : World) (R40 : List Own), Ctx W w39 (R21 ++ R40) Φ22 → Calls Try.prog F.replica_answer #[Value.agg #[Value.int IntKind.i64 n28, Value.int IntKind.i64
  n29, Value.int IntKind.i64 n30, Value.int IntKind.i64 n31, Value.int IntKind.i64 n32, Value.int IntKind.i64 n33, Value.int IntKind.i64 n34, Value.bool c35, Value.slice p36 k37 k38]] w39 fun
  (e41 : Ending) (w42 : World) => ∃ (c43 : Bool), ∃ (n44 : Int), ∃ (n45 : Int), ∃ (n46 : Int), ∃ (p47 : Option Addr), ∃ (k48 : Nat), ∃ (k49 : Nat), ∃ (p50 : Option Addr), ∃ (k51 : Nat), ∃
  (k52 : Nat), e41 = Ending.returned (Value.agg #[Value.bool c43, Value.int IntKind.i64 n44, Value.int IntKind.i64 n45, Value.int IntKind.i64 n46, Value.slice p47 k48 k49, Value.slice p50 k51
  k52]) ∧ ∃ (R53 : List Own), ∃ (Φ54 : PW), Stable Φ54 ∧ Ctx W w42 (R53 ++ R40) Φ54 ∧ ∀ (w55 : World) (R56 : List Own), Ctx W w55 (R53 ++ R56) Φ54 → J (Value.agg #[Value.bool c43, Value.int
  IntKind.i64 n44, Value.int IntKind.i64 n45, Value.int IntKind.i64 n46, Value.slice p47 k48 k49, Value.slice p50 k51 k52]) w55) (∀ (w57 : World) (R58 : List Own), Ctx W w57 (R21 ++ R58) Φ22
  → ∃ (n59 : Int), w57.cell? (Addr.mk rB (rO + 4) none) = some (Value.int IntKind.i64 n59) ∧ Br (decide (n59 = 2)) (∀ (w60 : World) (R61 : List Own), Ctx W w60 (R21 ++ R61) Φ22 → J (Value.agg
  #[Value.bool false, Value.int IntKind.i64 0, Value.int IntKind.i64 0, Value.int IntKind.i64 0, Value.slice none 0 0, Value.slice none 0 0]) w60) (∀ (w62 : World) (R63 : List Own), Ctx W w62
  (R21 ++ R63) Φ22 → CanWrite w62 rB (rO + 4) 1 ∧ ∀ (w64 : World), w64 = w62.setCell (Addr.mk rB (rO + 4) none) (Value.int IntKind.i64 0) → ∃ (R65 : List Own), ∃ (Φ66 : PW), Stable Φ66 ∧ Ctx
  W w64 (R65 ++ R63) Φ66 ∧ ∀ (w67 : World) (R68 : List Own), Ctx W w67 (R65 ++ R68) Φ66 → ∃ (p69 : Option Addr), ∃ (k70 : Nat), ∃ (k71 : Nat), w67.cell? (Addr.mk rB (rO + 3) none) = some
  (Value.slice p69 k70 k71) ∧ ∃ (n72 : Int), ((!decide ((↑k70 : Int) < m4)) = true → ∀ (w73 : World), (∃ (k74 : Nat), w73 = w67.drewN k74) → Calls Try.prog F.replica_Replica_term
  #[Value.pointer (some (Addr.mk rB rO none)), Value.int IntKind.i64 m4] w73 fun (e75 : Ending) (w76 : World) => e75 = Ending.returned (Value.int IntKind.i64 n72) ∧ ∃ (k77 : Nat), w76 =
  w67.drewN k77) ∧ Br (decide ((↑k70 : Int) < m4) || decide (n72 ≠ m5)) (I64 (m4 - 1) ∧ ∀ (w78 : World) (R79 : List Own), Ctx W w78 (R65 ++ R79) Φ66 → ∃ (p80 : Option Addr), ∃ (k81 : Nat), ∃
  (k82 : Nat), w78.cell? (Addr.mk rB (rO + 3) none) = some (Value.slice p80 k81 k82) ∧ ∀ (w83 : World) (R84 : List Own), Ctx W w83 (R65 ++ R84) Φ66 → CanWrite w83 k17 4 1 ∧ ∀ (w85 : World),
  w85 = w83.setCell (Addr.mk k17 4 none) (Value.int IntKind.i64 (min (↑k81 : Int) (m4 - 1))) → ∃ (R86 : List Own), ∃ (Φ87 : PW), Stable Φ87 ∧ Ctx W w85 (R86 ++ R84) Φ87 ∧ ∀ (w88 : World) (R89
  : List Own), Ctx W w88 (R86 ++ R89) Φ87 → ∃ (n90 : Int), ∃ (n91 : Int), ∃ (n92 : Int), ∃ (n93 : Int), ∃ (n94 : Int), ∃ (n95 : Int), ∃ (n96 : Int), ∃ (c97 : Bool), ∃ (p98 : Option Addr), ∃
  (k99 : Nat), ∃ (k100 : Nat), RowAt w88 k17 0 [Value.int IntKind.i64 n90, Value.int IntKind.i64 n91, Value.int IntKind.i64 n92, Value.int IntKind.i64 n93, Value.int IntKind.i64 n94,
  Value.int IntKind.i64 n95, Value.int IntKind.i64 n96, Value.bool c97, Value.slice p98 k99 k100] ∧ ∀ (w101 : World) (R102 : List Own), Ctx W w101 (R86 ++ R102) Φ87 → Calls Try.prog
  F.replica_answer #[Value.agg #[Value.int IntKind.i64 n90, Value.int IntKind.i64 n91, Value.int IntKind.i64 n92, Value.int IntKind.i64 n93, Value.int IntKind.i64 n94, Value.int IntKind.i64
  n95, Value.int IntKind.i64 n96, Value.bool c97, Value.slice p98 k99 k100]] w101 fun (e103 : Ending) (w104 : World) => ∃ (c105 : Bool), ∃ (n106 : Int), ∃ (n107 : Int), ∃ (n108 : Int), ∃
  (p109 : Option Addr), ∃ (k110 : Nat), ∃ (k111 : Nat), ∃ (p112 : Option Addr), ∃ (k113 : Nat), ∃ (k114 : Nat), e103 = Ending.returned (Value.agg #[Value.bool c105, Value.int IntKind.i64
  n106, Value.int IntKind.i64 n107, Value.int IntKind.i64 n108, Value.slice p109 k110 k111, Value.slice p112 k113 k114]) ∧ ∃ (R115 : List Own), ∃ (Φ116 : PW), Stable Φ116 ∧ Ctx W w104 (R115
  ++ R102) Φ116 ∧ ∀ (w117 : World) (R118 : List Own), Ctx W w117 (R115 ++ R118) Φ116 → J (Value.agg #[Value.bool c105, Value.int IntKind.i64 n106, Value.int IntKind.i64 n107, Value.int
  IntKind.i64 n108, Value.slice p109 k110 k111, Value.slice p112 k113 k114]) w117) (∀ (b : Nat), exI fun (I119 : Int → Bool → Int → Int → Int → Option Addr → Nat → Nat → Option Addr → Nat →
  Nat → Bool → Int → Int → Int → Option Addr → Nat → Nat → Option Addr → Nat → Nat → List Own → PW → Nat → Prop) => (∃ (R120 : List Own), ∃ (Φ121 : PW), ∃ (k122 : Nat), Stable Φ121 ∧ (∀ (w123
  : World) (R124 : List Own), Ctx W w123 (R65 ++ R124) Φ66 → Ctx W w123 (R120 ++ R124) Φ121) ∧ I119 0 false 0 0 0 none 0 0 none 0 0 false 0 0 0 none 0 0 none 0 0 R120 Φ121 k122) ∧ ∀ (n125 :
  Int) (c126 : Bool) (n127 n128 n129 : Int) (p130 : Option Addr) (k131 k132 : Nat) (p133 : Option Addr) (k134 k135 : Nat) (c136 : Bool) (n137 n138 n139 : Int) (p140 : Option Addr) (k141 k142
  : Nat) (p143 : Option Addr) (k144 k145 : Nat) (R146 : List Own) (I147 : List Nat → World → Prop) (k148 : Nat), Stable I147 → I119 n125 c126 n127 n128 n129 p130 k131 k132 p133 k134 k135 c136
  n137 n138 n139 p140 k141 k142 p143 k144 k145 R146 I147 k148 → Br (decide (n125 < (↑m8N : Int))) ((0 ≤ n125 ∧ n125 < (↑m8N : Int)) ∧ ptrK none m8P fun (k149 k150 : Nat) => ∀ (w151 : World)
  (R152 : List Own), Ctx W w151 (R146 ++ R152) I147 → ∃ (n153 : Int), ∃ (s154 : ByteArray), RowAt w151 k149 (k150 + n125.toNat * 2) [Value.int IntKind.i64 n153, Value.string s154] ∧ ∀ (b :
  Nat), I64 (m4 + n125) ∧ I64 (m4 + n125 + 1) ∧ ∀ (w155 : World) (R156 : List Own), Ctx W w155 (R146 ++ R156) I147 → ∃ (p157 : Option Addr), ∃ (k158 : Nat), ∃ (k159 : Nat), w155.cell?
  (Addr.mk rB (rO + 3) none) = some (Value.slice p157 k158 k159) ∧ ∃ (n160 : Int), (decide (m4 + n125 + 1 ≤ (↑k158 : Int)) = true → ∀ (w161 : World), (∃ (k162 : Nat), w161 = w155.drewN k162)
  → Calls Try.prog F.replica_Replica_term #[Value.pointer (some (Addr.mk rB rO none)), Value.int IntKind.i64 (m4 + n125 + 1)] w161 fun (e163 : Ending) (w164 : World) => e163 = Ending.returned
  (Value.int IntKind.i64 n160) ∧ ∃ (k165 : Nat), w164 = w155.drewN k165) ∧ Br (decide (m4 + n125 + 1 ≤ (↑k158 : Int)) && decide (n160 = n153)) (I64 (n125 + 1) ∧ ∃ (R166 : List Own), ∃ (Φ167 :
  PW), ∃ (k168 : Nat), Stable Φ167 ∧ (∀ (w169 : World) (R170 : List Own), Ctx W w169 (R146 ++ R170) I147 → Ctx W w169 (R166 ++ R170) Φ167) ∧ I119 (n125 + 1) c126 n127 n128 n129 p130 k131 k132
  p133 k134 k135 c136 n137 n138 n139 p140 k141 k142 p143 k144 k145 R166 Φ167 k168 ∧ k168 < k148) (∀ (w171 : World) (R172 : List Own), Ctx W w171 (R146 ++ R172) I147 → ∃ (n173 : Int),
  w171.cell? (Addr.mk rB (rO + 5) none) = some (Value.int IntKind.i64 n173) ∧ Br (decide (m4 + n125 + 1 ≤ n173)) (∀ (w174 : World) (R175 : List Own), Ctx W w174 (R146 ++ R175) I147 → J
  (Value.agg #[Value.bool false, Value.int IntKind.i64 0, Value.int IntKind.i64 0, Value.int IntKind.i64 0, Value.slice none 0 0, Value.slice none 0 0]) w174) ((0 ≤ n125 ∧ n125 ≤ (↑m8N : Int)
  ∧ m8N ≤ m8C) ∧ ∀ (w176 : World) (R177 : List Own), Ctx W w176 (R146 ++ R177) I147 → Calls Try.prog F.slices_Clone_api_Rec_api_Rec #[Value.slice (subPtr m8P 2 n125.toNat m8C) (m8N -
  n125.toNat) (m8C - n125.toNat)] w176 fun (e178 : Ending) (w179 : World) => ∃ (p180 : Option Addr), ∃ (k181 : Nat), ∃ (k182 : Nat), e178 = Ending.returned (Value.slice p180 k181 k182) ∧ ∃
  (R183 : List Own), ∃ (Φ184 : PW), Stable Φ184 ∧ Ctx W w179 (R183 ++ R177) Φ184 ∧ ∃ (R185 : List Own), ∃ (Φ186 : PW), Stable Φ186 ∧ (∀ (w187 : World) (R188 : List Own), Ctx W w187 (R183 ++
  R188) Φ184 → Ctx W w187 (R185 ++ R188) Φ186) ∧ I64 (m4 + n125 + 1 - 1) ∧ ∃ (p189 : Option Addr), ∃ (k190 : Nat), ∃ (k191 : Nat), (∀ (w192 : World) (R193 : List Own), Ctx W w192 (R185 ++
  R193) Φ186 → ∃ (p194 : Option Addr), ∃ (k195 : Nat), ∃ (k196 : Nat), w192.cell? (Addr.mk rB (rO + 3) none) = some (Value.slice p194 k195 k196) ∧ Value.slice p194 k195 k196 = Value.slice
  p189 k190 k191) ∧ (0 ≤ m4 + n125 + 1 - 1 ∧ m4 + n125 + 1 - 1 ≤ (↑k191 : Int)) ∧ ∀ (w197 : World) (R198 : List Own), Ctx W w197 (R183 ++ R198) Φ184 → Calls Try.prog
  F.slices_Clone_api_Rec_api_Rec #[Value.slice (subPtr p189 2 0 k191) (m4 + n125 + 1 - 1).toNat k191] w197 fun (e199 : Ending) (w200 : World) => ∃ (p201 : Option Addr), ∃ (k202 : Nat), ∃
  (k203 : Nat), e199 = Ending.returned (Value.slice p201 k202 k203) ∧ ∃ (R204 : List Own), ∃ (Φ205 : PW), Stable Φ205 ∧ Ctx W w200 (R204 ++ R198) Φ205 ∧ (∀ (w206 : World) (R207 : List Own),
  Ctx W w206 (R204 ++ R207) Φ205 → Ctx W w206 (R185 ++ R207) Φ186) ∧ ∀ (w208 : World) (R209 : List Own), Ctx W w208 (R204 ++ R209) Φ205 → ∃ (p210 : Option Addr), ∃ (k211 : Nat), ∃ (k212 :
  Nat), ∃ (w213 : World), Sem.run Try.prog (builtin Builtin.append #[35, 35] 35 #[false, false] #[Value.slice p201 k202 k203, Value.slice p180 k181 k182]) w208 = Result.ok (Next.value
  (Value.slice p210 k211 k212)) w213 ∧ ∃ (R214 : List Own), ∃ (Φ215 : PW), Stable Φ215 ∧ Ctx W w213 (R214 ++ R209) Φ215 ∧ (∀ (w216 : World) (R217 : List Own), Ctx W w216 (R214 ++ R217) Φ215 →
  Ctx W w216 (R185 ++ R217) Φ186) ∧ ∀ (w218 : World) (R219 : List Own), Ctx W w218 (R214 ++ R219) Φ215 → CanWrite w218 rB (rO + 3) 1 ∧ ∀ (w220 : World), w220 = w218.setCell (Addr.mk rB (rO +
  3) none) (Value.slice p210 k211 k212) → ∃ (R221 : List Own), ∃ (Φ222 : PW), Stable Φ222 ∧ Ctx W w220 (R221 ++ R219) Φ222 ∧ ∃ (R223 : List Own), ∃ (Φ224 : PW), Stable Φ224 ∧ (∀ (w225 :
  World) (R226 : List Own), Ctx W w225 (R221 ++ R226) Φ222 → Ctx W w225 (R223 ++ R226) Φ224) ∧ I64 (m4 + (↑m8N : Int)) ∧ ∀ (w227 : World) (R228 : List Own), Ctx W w227 (R221 ++ R228) Φ222 →
  CanWrite w227 k17 7 1 ∧ ∀ (w229 : World), w229 = w227.setCell (Addr.mk k17 7 none) (Value.bool true) → ∃ (R230 : List Own), ∃ (Φ231 : PW), Stable Φ231 ∧ Ctx W w229 (R230 ++ R228) Φ231 ∧ (∀
  (w232 : World) (R233 : List Own), Ctx W w232 (R230 ++ R233) Φ231 → Ctx W w232 (R223 ++ R233) Φ224) ∧ ∀ (w234 : World) (R235 : List Own), Ctx W w234 (R230 ++ R235) Φ231 → CanWrite w234 k17 4
  1 ∧ ∀ (w236 : World), w236 = w234.setCell (Addr.mk k17 4 none) (Value.int IntKind.i64 (m4 + (↑m8N : Int))) → ∃ (R237 : List Own), ∃ (Φ238 : PW), Stable Φ238 ∧ Ctx W w236 (R237 ++ R235) Φ238
  ∧ ∀ (w239 : World) (R240 : List Own), Ctx W w239 (R237 ++ R240) Φ238 → ∃ (n241 : Int), w239.cell? (Addr.mk k17 4 none) = some (Value.int IntKind.i64 n241) ∧ ∀ (w242 : World) (R243 : List
  Own), Ctx W w242 (R237 ++ R243) Φ238 → ∃ (n244 : Int), w242.cell? (Addr.mk rB (rO + 5) none) = some (Value.int IntKind.i64 n244) ∧ ∀ (w245 : World) (R246 : List Own), Ctx W w245 (R237 ++
  R246) Φ238 → CanWrite w245 rB (rO + 5) 1 ∧ ∀ (w247 : World), w247 = w245.setCell (Addr.mk rB (rO + 5) none) (Value.int IntKind.i64 (max n244 (min m6 n241))) → ∃ (R248 : List Own), ∃ (Φ249 :
  PW), Stable Φ249 ∧ Ctx W w247 (R248 ++ R246) Φ249 ∧ ∀ (w250 : World) (R251 : List Own), Ctx W w250 (R248 ++ R251) Φ249 → ∃ (n252 : Int), ∃ (n253 : Int), ∃ (n254 : Int), ∃ (n255 : Int), ∃
  (n256 : Int), ∃ (n257 : Int), ∃ (n258 : Int), ∃ (c259 : Bool), ∃ (p260 : Option Addr), ∃ (k261 : Nat), ∃ (k262 : Nat), RowAt w250 k17 0 [Value.int IntKind.i64 n252, Value.int IntKind.i64
  n253, Value.int IntKind.i64 n254, Value.int IntKind.i64 n255, Value.int IntKind.i64 n256, Value.int IntKind.i64 n257, Value.int IntKind.i64 n258, Value.bool c259, Value.slice p260 k261
  k262] ∧ ∀ (k263 : Nat) (w264 : World) (R265 : List Own), Ctx W w264 (Own.blk k263 [Value.int IntKind.i64 n252, Value.int IntKind.i64 n253, Value.int IntKind.i64 n254, Value.int IntKind.i64
  n255, Value.int IntKind.i64 n256, Value.int IntKind.i64 n257, Value.int IntKind.i64 n258, Value.bool c259, Value.slice p260 k261 k262] 37 :: R248 ++ R265) Φ249 → J (Value.agg #[Value.bool
  c136, Value.int IntKind.i64 n137, Value.int IntKind.i64 n138, Value.int IntKind.i64 (m4 + n125 + 1), Value.slice p180 k181 k182, Value.slice (some (Addr.mk k263 0 none)) 1 1]) w264))) (∃
  (R266 : List Own), ∃ (Φ267 : PW), Stable Φ267 ∧ (∀ (w268 : World) (R269 : List Own), Ctx W w268 (R146 ++ R269) I147 → Ctx W w268 (R266 ++ R269) Φ267) ∧ I64 (m4 + (↑m8N : Int)) ∧ ∀ (w270 :
  World) (R271 : List Own), Ctx W w270 (R146 ++ R271) I147 → CanWrite w270 k17 7 1 ∧ ∀ (w272 : World), w272 = w270.setCell (Addr.mk k17 7 none) (Value.bool true) → ∃ (R273 : List Own), ∃
  (Φ274 : PW), Stable Φ274 ∧ Ctx W w272 (R273 ++ R271) Φ274 ∧ (∀ (w275 : World) (R276 : List Own), Ctx W w275 (R273 ++ R276) Φ274 → Ctx W w275 (R266 ++ R276) Φ267) ∧ ∀ (w277 : World) (R278 :
  List Own), Ctx W w277 (R273 ++ R278) Φ274 → CanWrite w277 k17 4 1 ∧ ∀ (w279 : World), w279 = w277.setCell (Addr.mk k17 4 none) (Value.int IntKind.i64 (m4 + (↑m8N : Int))) → ∃ (R280 : List
  Own), ∃ (Φ281 : PW), Stable Φ281 ∧ Ctx W w279 (R280 ++ R278) Φ281 ∧ ∀ (w282 : World) (R283 : List Own), Ctx W w282 (R280 ++ R283) Φ281 → ∃ (n284 : Int), w282.cell? (Addr.mk k17 4 none) =
  some (Value.int IntKind.i64 n284) ∧ ∀ (w285 : World) (R286 : List Own), Ctx W w285 (R280 ++ R286) Φ281 → ∃ (n287 : Int), w285.cell? (Addr.mk rB (rO + 5) none) = some (Value.int IntKind.i64
  n287) ∧ ∀ (w288 : World) (R289 : List Own), Ctx W w288 (R280 ++ R289) Φ281 → CanWrite w288 rB (rO + 5) 1 ∧ ∀ (w290 : World), w290 = w288.setCell (Addr.mk rB (rO + 5) none) (Value.int
  IntKind.i64 (max n287 (min m6 n284))) → ∃ (R291 : List Own), ∃ (Φ292 : PW), Stable Φ292 ∧ Ctx W w290 (R291 ++ R289) Φ292 ∧ ∀ (w293 : World) (R294 : List Own), Ctx W w293 (R291 ++ R294) Φ292
  → ∃ (n295 : Int), ∃ (n296 : Int), ∃ (n297 : Int), ∃ (n298 : Int), ∃ (n299 : Int), ∃ (n300 : Int), ∃ (n301 : Int), ∃ (c302 : Bool), ∃ (p303 : Option Addr), ∃ (k304 : Nat), ∃ (k305 : Nat),
  RowAt w293 k17 0 [Value.int IntKind.i64 n295, Value.int IntKind.i64 n296, Value.int IntKind.i64 n297, Value.int IntKind.i64 n298, Value.int IntKind.i64 n299, Value.int IntKind.i64 n300,
  Value.int IntKind.i64 n301, Value.bool c302, Value.slice p303 k304 k305] ∧ ∀ (k306 : Nat) (w307 : World) (R308 : List Own), Ctx W w307 (Own.blk k306 [Value.int IntKind.i64 n295, Value.int
  IntKind.i64 n296, Value.int IntKind.i64 n297, Value.int IntKind.i64 n298, Value.int IntKind.i64 n299, Value.int IntKind.i64 n300, Value.int IntKind.i64 n301, Value.bool c302, Value.slice
  p303 k304 k305] 37 :: R291 ++ R308) Φ292 → J (Value.agg #[Value.bool c136, Value.int IntKind.i64 n137, Value.int IntKind.i64 n138, Value.int IntKind.i64 n139, Value.slice p140 k141 k142,
  Value.slice (some (Addr.mk k306 0 none)) 1 1]) w307))))

theorem Breplica_Replica_append_run (rB rO : Nat) (m0 : Int) (m1 : Int) (m2 : Int) (m3 : Int) (m4 : Int) (m5 : Int) (m6 : Int) (m7 : Bool) (m8P : Option Addr) (m8N m8C : Nat) {W w : World} {R : List Own} {Φ : PW} [Stable Φ] {J : Value → World → Prop} (c : Ctx W w R Φ) (h : Breplica_Replica_append rB rO m0 m1 m2 m3 m4 m5 m6 m7 m8P m8N m8C W R Φ J) : Calls Try.prog F.replica_Replica_append #[.pointer (some ⟨rB, rO, none⟩), .agg #[.int .i64 m0, .int .i64 m1, .int .i64 m2, .int .i64 m3, .int .i64 m4, .int .i64 m5, .int .i64 m6, .bool m7, .slice m8P m8N m8C]] w fun e w' => ∃ v, e = .returned v ∧ J v w' :=
  vcFS_sound (H := { keep := some [0, 3, 4, 5, 6, 7, 8, 9, 21, 28, 49, 63, 64, 65, 66, 89, 95], track := [3, 4, 6, 8], stages := [(8, [.stage [0, 5, 1, 6, 2, 7, 3, 4, 8, 9] (some 10)]), (19, [.held [(0, true), (1, true), (5, true), (9, true), (2, true), (6, true), (10, true), (3, true), (4, true), (7, true), (8, false), (11, false)], .stage [12] none, .stage [13] (some 14)]), (21, [.held [(0, true), (2, true), (6, true), (1, true), (3, true), (4, true), (5, true), (7, false)], .stage [8] (some 9)]), (22, [.stage [0, 1, 5, 7, 2, 6, 8, 3, 9, 4, 10] none, .stage [11] none, .stage [12] (some 13)])], loops := [(12, [(65, .one (.int .i64))], [(4, .agg [.bool, .int .i64, .int .i64, .int .i64, .slice, .slice]), (6, .agg [.bool, .int .i64, .int .i64, .int .i64, .slice, .slice])])] }) (by rw [show vcFS Try.prog W { keep := some [0, 3, 4, 5, 6, 7, 8, 9, 21, 28, 49, 63, 64, 65, 66, 89, 95], track := [3, 4, 6, 8], stages := [(8, [.stage [0, 5, 1, 6, 2, 7, 3, 4, 8, 9] (some 10)]), (19, [.held [(0, true), (1, true), (5, true), (9, true), (2, true), (6, true), (10, true), (3, true), (4, true), (7, true), (8, false), (11, false)], .stage [12] none, .stage [13] (some 14)]), (21, [.held [(0, true), (2, true), (6, true), (1, true), (3, true), (4, true), (5, true), (7, false)], .stage [8] (some 9)]), (22, [.stage [0, 1, 5, 7, 2, 6, 8, 3, 9, 4, 10] none, .stage [11] none, .stage [12] (some 13)])], loops := [(12, [(65, .one (.int .i64))], [(4, .agg [.bool, .int .i64, .int .i64, .int .i64, .slice, .slice]), (6, .agg [.bool, .int .i64, .int .i64, .int .i64, .slice, .slice])])] } F.replica_Replica_append #[.pointer (some ⟨rB, rO, none⟩), .agg #[.int .i64 m0, .int .i64 m1, .int .i64 m2, .int .i64 m3, .int .i64 m4, .int .i64 m5, .int .i64 m6, .bool m7, .slice m8P m8N m8C]] R Φ J = Breplica_Replica_append rB rO m0 m1 m2 m3 m4 m5 m6 m7 m8P m8N m8C W R Φ J by kernel_rfl]; exact h) c

/-- (*replica.Replica).appended -/
-- known blocks: 3 m, 4 
def Breplica_Replica_appended (rB rO : Nat) (m0 : Int) (m1 : Int) (m2 : Int) (m3 : Int) (m4 : Int) (m5 : Int) (m6 : Int) (m7 : Bool) (m8P : Option Addr) (m8N m8C : Nat) (W : World) (R : List Own) (Φ : PW) (J : Value → World → Prop) : Prop :=
  ∀ (b b : Nat) (w0 : World) (R1 : List Own), Ctx W w0 (R ++ R1) Φ → ∃ (n2 : Int), w0.cell? (Addr.mk rB (rO + 4) none) = some (Value.int IntKind.i64 n2) ∧ ∃ (n3 : Int), ((!decide (n2 ≠ 2)) =
  true → w0.cell? (Addr.mk rB (rO + 1) none) = some (Value.int IntKind.i64 n3)) ∧ ∃ (p4 : Option Addr), ∃ (k5 : Nat), ∃ (k6 : Nat), ((!(decide (n2 ≠ 2) || decide (m3 ≠ n3)) && m7) = true →
  w0.cell? (Addr.mk rB (rO + 3) none) = some (Value.slice p4 k5 k6)) ∧ Br (decide (n2 ≠ 2) || decide (m3 ≠ n3) || m7 && decide ((↑k5 : Int) < m4)) (∀ (w7 : World) (R8 : List Own), Ctx W w7 (R
  ++ R8) Φ → J (Value.agg #[Value.bool false, Value.int IntKind.i64 0, Value.int IntKind.i64 0, Value.int IntKind.i64 0, Value.slice none 0 0, Value.slice none 0 0]) w7) (∀ (w9 : World) (R10
  : List Own), Ctx W w9 (R ++ R10) Φ → (0 ≤ m1 ∧ m1 < 3) ∧ (0 ≤ m1 ∧ m1 < 3) ∧ Br (!m7) (∀ (w11 : World) (R12 : List Own), Ctx W w11 (R ++ R12) Φ → ∃ (n13 : Int), w11.cell? (Addr.mk rB (rO +
  12 + m1.toNat) none) = some (Value.int IntKind.i64 n13) ∧ ∀ (w14 : World) (R15 : List Own), Ctx W w14 (R ++ R15) Φ → ∃ (n16 : Int), w14.cell? (Addr.mk rB (rO + 9 + m1.toNat) none) = some
  (Value.int IntKind.i64 n16) ∧ I64 (m4 + 1) ∧ I64 (n13 + 1) ∧ I64 (n16 - 1) ∧ ∀ (w17 : World) (R18 : List Own), Ctx W w17 (R ++ R18) Φ → CanWrite w17 rB (rO + 9 + m1.toNat) 1 ∧ ∀ (w19 :
  World), w19 = w17.setCell (Addr.mk rB (rO + 9 + m1.toNat) none) (Value.int IntKind.i64 (max (n13 + 1) (min (n16 - 1) (m4 + 1)))) → ∃ (R20 : List Own), ∃ (Φ21 : PW), Stable Φ21 ∧ Ctx W w19
  (R20 ++ R18) Φ21 ∧ ∀ (w22 : World) (R23 : List Own), Ctx W w22 (R20 ++ R23) Φ21 → Calls Try.prog F.replica_Replica_entries #[Value.pointer (some (Addr.mk rB rO none)), Value.int IntKind.i64
  m1] w22 fun (e24 : Ending) (w25 : World) => ∃ (n26 : Int), ∃ (n27 : Int), ∃ (n28 : Int), ∃ (n29 : Int), ∃ (n30 : Int), ∃ (n31 : Int), ∃ (n32 : Int), ∃ (c33 : Bool), ∃ (p34 : Option Addr), ∃
  (k35 : Nat), ∃ (k36 : Nat), e24 = Ending.returned (Value.agg #[Value.int IntKind.i64 n26, Value.int IntKind.i64 n27, Value.int IntKind.i64 n28, Value.int IntKind.i64 n29, Value.int
  IntKind.i64 n30, Value.int IntKind.i64 n31, Value.int IntKind.i64 n32, Value.bool c33, Value.slice p34 k35 k36]) ∧ ∃ (R37 : List Own), ∃ (Φ38 : PW), Stable Φ38 ∧ Ctx W w25 (R37 ++ R23) Φ38
  ∧ ∀ (w39 : World) (R40 : List Own), Ctx W w39 (R37 ++ R40) Φ38 → Calls Try.prog F.replica_answer #[Value.agg #[Value.int IntKind.i64 n26, Value.int IntKind.i64 n27, Value.int IntKind.i64
  n28, Value.int IntKind.i64 n29, Value.int IntKind.i64 n30, Value.int IntKind.i64 n31, Value.int IntKind.i64 n32, Value.bool c33, Value.slice p34 k35 k36]] w39 fun (e41 : Ending) (w42 :
  World) => ∃ (c43 : Bool), ∃ (n44 : Int), ∃ (n45 : Int), ∃ (n46 : Int), ∃ (p47 : Option Addr), ∃ (k48 : Nat), ∃ (k49 : Nat), ∃ (p50 : Option Addr), ∃ (k51 : Nat), ∃ (k52 : Nat), e41 =
  Ending.returned (Value.agg #[Value.bool c43, Value.int IntKind.i64 n44, Value.int IntKind.i64 n45, Value.int IntKind.i64 n46, Value.slice p47 k48 k49, Value.slice p50 k51 k52]) ∧ ∃ (R53 :
  List Own), ∃ (Φ54 : PW), Stable Φ54 ∧ Ctx W w42 (R53 ++ R40) Φ54 ∧ ∀ (w55 : World) (R56 : List Own), Ctx W w55 (R53 ++ R56) Φ54 → J (Value.agg #[Value.bool c43, Value.int IntKind.i64 n44,
  Value.int IntKind.i64 n45, Value.int IntKind.i64 n46, Value.slice p47 k48 k49, Value.slice p50 k51 k52]) w55) (∀ (w57 : World) (R58 : List Own), Ctx W w57 (R ++ R58) Φ → ∃ (n59 : Int),
  w57.cell? (Addr.mk rB (rO + 12 + m1.toNat) none) = some (Value.int IntKind.i64 n59) ∧ ∀ (w60 : World) (R61 : List Own), Ctx W w60 (R ++ R61) Φ → CanWrite w60 rB (rO + 12 + m1.toNat) 1 ∧ ∀
  (w62 : World), w62 = w60.setCell (Addr.mk rB (rO + 12 + m1.toNat) none) (Value.int IntKind.i64 (max n59 m4)) → ∃ (R63 : List Own), ∃ (Φ64 : PW), Stable Φ64 ∧ Ctx W w62 (R63 ++ R61) Φ64 ∧ ∀
  (w65 : World) (R66 : List Own), Ctx W w65 (R63 ++ R66) Φ64 → ∃ (n67 : Int), w65.cell? (Addr.mk rB (rO + 12 + m1.toNat) none) = some (Value.int IntKind.i64 n67) ∧ I64 (n67 + 1) ∧ ∀ (w68 :
  World) (R69 : List Own), Ctx W w68 (R63 ++ R69) Φ64 → CanWrite w68 rB (rO + 9 + m1.toNat) 1 ∧ ∀ (w70 : World), w70 = w68.setCell (Addr.mk rB (rO + 9 + m1.toNat) none) (Value.int IntKind.i64
  (n67 + 1)) → ∃ (R71 : List Own), ∃ (Φ72 : PW), Stable Φ72 ∧ Ctx W w70 (R71 ++ R69) Φ72 ∧ ∀ (w73 : World) (R74 : List Own), Ctx W w73 (R71 ++ R74) Φ72 → Calls Try.prog
  F.replica_Replica_advance #[Value.pointer (some (Addr.mk rB rO none))] w73 fun (e75 : Ending) (w76 : World) => e75 = Ending.returned (Value.tuple #[]) ∧ ∃ (R77 : List Own), ∃ (Φ78 : PW),
  Stable Φ78 ∧ Ctx W w76 (R77 ++ R74) Φ78 ∧ ∀ (w79 : World) (R80 : List Own), Ctx W w79 (R77 ++ R80) Φ78 → ∃ (n81 : Int), w79.cell? (Addr.mk rB (rO + 9 + m1.toNat) none) = some (Value.int
  IntKind.i64 n81) ∧ ∃ (p82 : Option Addr), ∃ (k83 : Nat), ∃ (k84 : Nat), w79.cell? (Addr.mk rB (rO + 3) none) = some (Value.slice p82 k83 k84) ∧ Br (decide (n81 ≤ (↑k83 : Int))) (∀ (w85 :
  World) (R86 : List Own), Ctx W w85 (R77 ++ R86) Φ78 → Calls Try.prog F.replica_Replica_entries #[Value.pointer (some (Addr.mk rB rO none)), Value.int IntKind.i64 m1] w85 fun (e87 : Ending)
  (w88 : World) => ∃ (n89 : Int), ∃ (n90 : Int), ∃ (n91 : Int), ∃ (n92 : Int), ∃ (n93 : Int), ∃ (n94 : Int), ∃ (n95 : Int), ∃ (c96 : Bool), ∃ (p97 : Option Addr), ∃ (k98 : Nat), ∃ (k99 :
  Nat), e87 = Ending.returned (Value.agg #[Value.int IntKind.i64 n89, Value.int IntKind.i64 n90, Value.int IntKind.i64 n91, Value.int IntKind.i64 n92, Value.int IntKind.i64 n93, Value.int
  IntKind.i64 n94, Value.int IntKind.i64 n95, Value.bool c96, Value.slice p97 k98 k99]) ∧ ∃ (R100 : List Own), ∃ (Φ101 : PW), Stable Φ101 ∧ Ctx W w88 (R100 ++ R86) Φ101 ∧ ∀ (w102 : World)
  (R103 : List Own), Ctx W w102 (R100 ++ R103) Φ101 → Calls Try.prog F.replica_answer #[Value.agg #[Value.int IntKind.i64 n89, Value.int IntKind.i64 n90, Value.int IntKind.i64 n91, Value.int
  IntKind.i64 n92, Value.int IntKind.i64 n93, Value.int IntKind.i64 n94, Value.int IntKind.i64 n95, Value.bool c96, Value.slice p97 k98 k99]] w102 fun (e104 : Ending) (w105 : World) => ∃
  (c106 : Bool), ∃ (n107 : Int), ∃ (n108 : Int), ∃ (n109 : Int), ∃ (p110 : Option Addr), ∃ (k111 : Nat), ∃ (k112 : Nat), ∃ (p113 : Option Addr), ∃ (k114 : Nat), ∃ (k115 : Nat), e104 =
  Ending.returned (Value.agg #[Value.bool c106, Value.int IntKind.i64 n107, Value.int IntKind.i64 n108, Value.int IntKind.i64 n109, Value.slice p110 k111 k112, Value.slice p113 k114 k115]) ∧
  ∃ (R116 : List Own), ∃ (Φ117 : PW), Stable Φ117 ∧ Ctx W w105 (R116 ++ R103) Φ117 ∧ ∀ (w118 : World) (R119 : List Own), Ctx W w118 (R116 ++ R119) Φ117 → J (Value.agg #[Value.bool c106,
  Value.int IntKind.i64 n107, Value.int IntKind.i64 n108, Value.int IntKind.i64 n109, Value.slice p110 k111 k112, Value.slice p113 k114 k115]) w118) (∀ (w120 : World) (R121 : List Own), Ctx W
  w120 (R77 ++ R121) Φ78 → J (Value.agg #[Value.bool false, Value.int IntKind.i64 0, Value.int IntKind.i64 0, Value.int IntKind.i64 0, Value.slice none 0 0, Value.slice none 0 0]) w120)))

theorem Breplica_Replica_appended_run (rB rO : Nat) (m0 : Int) (m1 : Int) (m2 : Int) (m3 : Int) (m4 : Int) (m5 : Int) (m6 : Int) (m7 : Bool) (m8P : Option Addr) (m8N m8C : Nat) {W w : World} {R : List Own} {Φ : PW} [Stable Φ] {J : Value → World → Prop} (c : Ctx W w R Φ) (h : Breplica_Replica_appended rB rO m0 m1 m2 m3 m4 m5 m6 m7 m8P m8N m8C W R Φ J) : Calls Try.prog F.replica_Replica_appended #[.pointer (some ⟨rB, rO, none⟩), .agg #[.int .i64 m0, .int .i64 m1, .int .i64 m2, .int .i64 m3, .int .i64 m4, .int .i64 m5, .int .i64 m6, .bool m7, .slice m8P m8N m8C]] w fun e w' => ∃ v, e = .returned v ∧ J v w' :=
  vcFS_sound (H := { keep := some [0, 3, 4, 5, 6, 35, 51, 96], track := [3, 4], stages := [(5, [.stage [0, 1, 5, 9, 2, 6, 10, 3, 7, 11, 4, 8, 12, 13, 14] (some 15)]), (7, [.stage [0, 1, 4, 2, 5, 3, 6, 7] (some 8)])] }) (by rw [show vcFS Try.prog W { keep := some [0, 3, 4, 5, 6, 35, 51, 96], track := [3, 4], stages := [(5, [.stage [0, 1, 5, 9, 2, 6, 10, 3, 7, 11, 4, 8, 12, 13, 14] (some 15)]), (7, [.stage [0, 1, 4, 2, 5, 3, 6, 7] (some 8)])] } F.replica_Replica_appended #[.pointer (some ⟨rB, rO, none⟩), .agg #[.int .i64 m0, .int .i64 m1, .int .i64 m2, .int .i64 m3, .int .i64 m4, .int .i64 m5, .int .i64 m6, .bool m7, .slice m8P m8N m8C]] R Φ J = Breplica_Replica_appended rB rO m0 m1 m2 m3 m4 m5 m6 m7 m8P m8N m8C W R Φ J by kernel_rfl]; exact h) c

/-- (*replica.Replica).entries -/
-- known blocks: 4 , 5 m
def Breplica_Replica_entries (rB rO : Nat) (to : Int) (W : World) (R : List Own) (Φ : PW) (J : Value → World → Prop) : Prop :=
  ∀ (b : Nat) (w0 : World) (R1 : List Own), Ctx W w0 (R ++ R1) Φ → Calls Try.prog F.replica_Replica_message #[Value.pointer (some (Addr.mk rB rO none)), Value.int IntKind.i64 2, Value.int
  IntKind.i64 to] w0 fun (e2 : Ending) (w3 : World) => ∃ (n4 : Int), ∃ (n5 : Int), ∃ (n6 : Int), ∃ (n7 : Int), ∃ (n8 : Int), ∃ (n9 : Int), ∃ (n10 : Int), ∃ (c11 : Bool), ∃ (p12 : Option
  Addr), ∃ (k13 : Nat), ∃ (k14 : Nat), e2 = Ending.returned (Value.agg #[Value.int IntKind.i64 n4, Value.int IntKind.i64 n5, Value.int IntKind.i64 n6, Value.int IntKind.i64 n7, Value.int
  IntKind.i64 n8, Value.int IntKind.i64 n9, Value.int IntKind.i64 n10, Value.bool c11, Value.slice p12 k13 k14]) ∧ ∃ (R15 : List Own), ∃ (Φ16 : PW), Stable Φ16 ∧ Ctx W w3 (R15 ++ R1) Φ16 ∧ ∀
  (b : Nat), (0 ≤ to ∧ to < 3) ∧ ∀ (w17 : World) (R18 : List Own), Ctx W w17 (R15 ++ R18) Φ16 → ∃ (n19 : Int), w17.cell? (Addr.mk rB (rO + 9 + to.toNat) none) = some (Value.int IntKind.i64
  n19) ∧ I64 (n19 - 1) ∧ ∃ (R20 : List Own), ∃ (Φ21 : PW), Stable Φ21 ∧ (∀ (w22 : World) (R23 : List Own), Ctx W w22 (R15 ++ R23) Φ16 → Ctx W w22 (R20 ++ R23) Φ21) ∧ ∃ (n24 : Int), (∀ (w25 :
  World) (R26 : List Own), Ctx W w25 (R20 ++ R26) Φ21 → ∃ (n27 : Int), w25.cell? (Addr.mk rB (rO + 5) none) = some (Value.int IntKind.i64 n27) ∧ Value.int IntKind.i64 n27 = Value.int
  IntKind.i64 n24) ∧ ∀ (w28 : World) (R29 : List Own), Ctx W w28 (R15 ++ R29) Φ16 → Calls Try.prog F.replica_Replica_term #[Value.pointer (some (Addr.mk rB rO none)), Value.int IntKind.i64
  (n19 - 1)] w28 fun (e30 : Ending) (w31 : World) => ∃ (n32 : Int), e30 = Ending.returned (Value.int IntKind.i64 n32) ∧ ∃ (R33 : List Own), ∃ (Φ34 : PW), Stable Φ34 ∧ Ctx W w31 (R33 ++ R29)
  Φ34 ∧ (∀ (w35 : World) (R36 : List Own), Ctx W w35 (R33 ++ R36) Φ34 → Ctx W w35 (R20 ++ R36) Φ21) ∧ (∀ (w37 : World) (R38 : List Own), Ctx W w37 (R33 ++ R38) Φ34 → Ctx W w37 (R20 ++ R38)
  Φ21) ∧ (∀ (w39 : World) (R40 : List Own), Ctx W w39 (R33 ++ R40) Φ34 → Ctx W w39 (R20 ++ R40) Φ21) ∧ ∃ (R41 : List Own), ∃ (Φ42 : PW), Stable Φ42 ∧ (∀ (w43 : World) (R44 : List Own), Ctx W
  w43 (R33 ++ R44) Φ34 → Ctx W w43 (R41 ++ R44) Φ42) ∧ I64 (n19 - 1 + 8) ∧ ∃ (p45 : Option Addr), ∃ (k46 : Nat), ∃ (k47 : Nat), (∀ (w48 : World) (R49 : List Own), Ctx W w48 (R41 ++ R49) Φ42 →
  ∃ (p50 : Option Addr), ∃ (k51 : Nat), ∃ (k52 : Nat), w48.cell? (Addr.mk rB (rO + 3) none) = some (Value.slice p50 k51 k52) ∧ Value.slice p50 k51 k52 = Value.slice p45 k46 k47) ∧ ∃ (p53 :
  Option Addr), ∃ (k54 : Nat), ∃ (k55 : Nat), (∀ (w56 : World) (R57 : List Own), Ctx W w56 (R41 ++ R57) Φ42 → ∃ (p58 : Option Addr), ∃ (k59 : Nat), ∃ (k60 : Nat), w56.cell? (Addr.mk rB (rO +
  3) none) = some (Value.slice p58 k59 k60) ∧ Value.slice p58 k59 k60 = Value.slice p53 k54 k55) ∧ (0 ≤ n19 - 1 ∧ n19 - 1 ≤ min (↑k54 : Int) (n19 - 1 + 8) ∧ min (↑k54 : Int) (n19 - 1 + 8) ≤
  (↑k47 : Int)) ∧ ∀ (w61 : World) (R62 : List Own), Ctx W w61 (R33 ++ R62) Φ34 → Calls Try.prog F.slices_Clone_api_Rec_api_Rec #[Value.slice (subPtr p45 2 (n19 - 1).toNat k47) ((min (↑k54 :
  Int) (n19 - 1 + 8)).toNat - (n19 - 1).toNat) (k47 - (n19 - 1).toNat)] w61 fun (e63 : Ending) (w64 : World) => ∃ (p65 : Option Addr), ∃ (k66 : Nat), ∃ (k67 : Nat), e63 = Ending.returned
  (Value.slice p65 k66 k67) ∧ ∃ (R68 : List Own), ∃ (Φ69 : PW), Stable Φ69 ∧ Ctx W w64 (R68 ++ R62) Φ69 ∧ (∀ (w70 : World) (R71 : List Own), Ctx W w70 (R68 ++ R71) Φ69 → Ctx W w70 (R41 ++
  R71) Φ42) ∧ ∀ (w72 : World) (R73 : List Own), Ctx W w72 (R68 ++ R73) Φ69 → J (Value.agg #[Value.int IntKind.i64 n4, Value.int IntKind.i64 n5, Value.int IntKind.i64 n6, Value.int IntKind.i64
  n7, Value.int IntKind.i64 (n19 - 1), Value.int IntKind.i64 n32, Value.int IntKind.i64 n24, Value.bool c11, Value.slice p65 k66 k67]) w72

theorem Breplica_Replica_entries_run (rB rO : Nat) (to : Int) {W w : World} {R : List Own} {Φ : PW} [Stable Φ] {J : Value → World → Prop} (c : Ctx W w R Φ) (h : Breplica_Replica_entries rB rO to W R Φ J) : Calls Try.prog F.replica_Replica_entries #[.pointer (some ⟨rB, rO, none⟩), .int .i64 to] w fun e w' => ∃ v, e = .returned v ∧ J v w' :=
  vcFS_sound (H := { keep := some [0, 1, 4, 5], track := [4, 5], stages := [(3, [.late [0, 2] [0, 1, 4, 2, 5, 6, 7] [(3, [8]), (9, [10]), (11, [])]]), (4, [.held [(0, true), (4, true), (6, true), (11, true), (1, true), (5, true), (7, true), (12, true), (2, true), (8, true), (13, true), (3, true), (9, true), (10, true), (14, true), (15, true), (16, false)], .stage [17] (some 18)])] }) (by rw [show vcFS Try.prog W { keep := some [0, 1, 4, 5], track := [4, 5], stages := [(3, [.late [0, 2] [0, 1, 4, 2, 5, 6, 7] [(3, [8]), (9, [10]), (11, [])]]), (4, [.held [(0, true), (4, true), (6, true), (11, true), (1, true), (5, true), (7, true), (12, true), (2, true), (8, true), (13, true), (3, true), (9, true), (10, true), (14, true), (15, true), (16, false)], .stage [17] (some 18)])] } F.replica_Replica_entries #[.pointer (some ⟨rB, rO, none⟩), .int .i64 to] R Φ J = Breplica_Replica_entries rB rO to W R Φ J by kernel_rfl]; exact h) c

/-- slices.DeleteFunc[[]int,int] -/
-- loop at region 5: 5 i, 6 j; blocks 
def Bslices_DeleteFunc_int_int (sP : Option Addr) (sN sC : Nat) (delF : FuncId) (delC : Array Value) (W : World) (R : List Own) (Φ : PW) (J : Value → World → Prop) : Prop :=
  ∀ (w0 : World) (R1 : List Own), Ctx W w0 (R ++ R1) Φ → Calls Try.prog F.slices_IndexFunc_int_int #[Value.slice sP sN sC, Value.func (Fn.func delF) #[] delC] w0 fun (e2 : Ending) (w3 :
  World) => ∃ (n4 : Int), e2 = Ending.returned (Value.int IntKind.i64 n4) ∧ ∃ (R5 : List Own), ∃ (Φ6 : PW), Stable Φ6 ∧ Ctx W w3 (R5 ++ R1) Φ6 ∧ Br (decide (n4 = -1)) (∀ (w7 : World) (R8 :
  List Own), Ctx W w7 (R5 ++ R8) Φ6 → J (Value.slice sP sN sC) w7) (I64 (n4 + 1) ∧ exI fun (I9 : Int → Int → List Own → PW → Nat → Prop) => (∃ (R10 : List Own), ∃ (Φ11 : PW), ∃ (k12 : Nat),
  Stable Φ11 ∧ (∀ (w13 : World) (R14 : List Own), Ctx W w13 (R5 ++ R14) Φ6 → Ctx W w13 (R10 ++ R14) Φ11) ∧ I9 n4 (n4 + 1) R10 Φ11 k12) ∧ ∀ (n15 n16 : Int) (R17 : List Own) (I18 : List Nat →
  World → Prop) (k19 : Nat), Stable I18 → I9 n15 n16 R17 I18 k19 → Br (decide (n16 < (↑sN : Int))) ((0 ≤ n16 ∧ n16 < (↑sN : Int)) ∧ ptrK none sP fun (k20 k21 : Nat) => ∀ (w22 : World) (R23 :
  List Own), Ctx W w22 (R17 ++ R23) I18 → ∃ (n24 : Int), w22.cell? (Addr.mk k20 (k21 + n16.toNat) none) = some (Value.int IntKind.i64 n24) ∧ ∀ (w25 : World) (R26 : List Own), Ctx W w25 (R17
  ++ R26) I18 → okFun Try.prog delF = true ∧ Calls Try.prog delF (Array.mk (Value.int IntKind.i64 n24 :: delC.toList)) w25 fun (e27 : Ending) (w28 : World) => ∃ (c29 : Bool), e27 =
  Ending.returned (Value.bool c29) ∧ ∃ (R30 : List Own), ∃ (Φ31 : PW), Stable Φ31 ∧ Ctx W w28 (R30 ++ R26) Φ31 ∧ Br (!c29) ((0 ≤ n15 ∧ n15 < (↑sN : Int)) ∧ ptrK none sP fun (k32 k33 : Nat) =>
  ∀ (w34 : World) (R35 : List Own), Ctx W w34 (R30 ++ R35) Φ31 → CanWrite w34 k32 (k33 + n15.toNat) 1 ∧ ∀ (w36 : World), w36 = w34.setCell (Addr.mk k32 (k33 + n15.toNat) none) (Value.int
  IntKind.i64 n24) → ∃ (R37 : List Own), ∃ (Φ38 : PW), Stable Φ38 ∧ Ctx W w36 (R37 ++ R35) Φ38 ∧ I64 (n15 + 1) ∧ I64 (n16 + 1) ∧ ∃ (R39 : List Own), ∃ (Φ40 : PW), ∃ (k41 : Nat), Stable Φ40 ∧
  (∀ (w42 : World) (R43 : List Own), Ctx W w42 (R37 ++ R43) Φ38 → Ctx W w42 (R39 ++ R43) Φ40) ∧ I9 (n15 + 1) (n16 + 1) R39 Φ40 k41 ∧ k41 < k19) (I64 (n16 + 1) ∧ ∃ (R44 : List Own), ∃ (Φ45 :
  PW), ∃ (k46 : Nat), Stable Φ45 ∧ (∀ (w47 : World) (R48 : List Own), Ctx W w47 (R30 ++ R48) Φ31 → Ctx W w47 (R44 ++ R48) Φ45) ∧ I9 n15 (n16 + 1) R44 Φ45 k46 ∧ k46 < k19)) ((0 ≤ n15 ∧ n15 ≤
  (↑sN : Int) ∧ sN ≤ sC) ∧ ∀ (w49 : World) (R50 : List Own), Ctx W w49 (R17 ++ R50) I18 → ∃ (w51 : World), Sem.run Try.prog (builtin Builtin.clear #[65] 0 #[false] #[Value.slice (subPtr sP 1
  n15.toNat sC) (sN - n15.toNat) (sC - n15.toNat)]) w49 = Result.ok (Next.value (Value.tuple #[])) w51 ∧ ∃ (R52 : List Own), ∃ (Φ53 : PW), Stable Φ53 ∧ Ctx W w51 (R52 ++ R50) Φ53 ∧ (0 ≤ n15 ∧
  n15 ≤ (↑sC : Int)) ∧ ∀ (w54 : World) (R55 : List Own), Ctx W w54 (R52 ++ R55) Φ53 → J (Value.slice (subPtr sP 1 0 sC) n15.toNat sC) w54))

theorem Bslices_DeleteFunc_int_int_run (sP : Option Addr) (sN sC : Nat) (delF : FuncId) (delC : Array Value) {W w : World} {R : List Own} {Φ : PW} [Stable Φ] {J : Value → World → Prop} (c : Ctx W w R Φ) (h : Bslices_DeleteFunc_int_int sP sN sC delF delC W R Φ J) : Calls Try.prog F.slices_DeleteFunc_int_int #[.slice sP sN sC, .func (.func delF) #[] delC] w fun e w' => ∃ v, e = .returned v ∧ J v w' :=
  vcFS_sound (H := { keep := some [0, 1, 4, 5, 6, 7, 12, 19, 29], wrap := [28], loops := [(5, [(5, .one (.int .i64)), (6, .one (.int .i64))], [])] }) (by rw [show vcFS Try.prog W { keep := some [0, 1, 4, 5, 6, 7, 12, 19, 29], wrap := [28], loops := [(5, [(5, .one (.int .i64)), (6, .one (.int .i64))], [])] } F.slices_DeleteFunc_int_int #[.slice sP sN sC, .func (.func delF) #[] delC] R Φ J = Bslices_DeleteFunc_int_int sP sN sC delF delC W R Φ J by kernel_rfl]; exact h) c

/-- (*replica.Replica).others$1 -/
def Breplica_Replica_others_1 (i : Int) (cB cO : Nat) (W : World) (R : List Own) (Φ : PW) (J : Value → World → Prop) : Prop :=
  ∀ (w0 : World) (R1 : List Own), Ctx W w0 (R ++ R1) Φ → ∃ (p2 : Option Addr), w0.cell? (Addr.mk cB cO none) = some (Value.pointer p2) ∧ ptrK none p2 fun (k3 k4 : Nat) => ∀ (w5 : World) (R6 :
  List Own), Ctx W w5 (R ++ R6) Φ → ∃ (n7 : Int), w5.cell? (Addr.mk k3 k4 none) = some (Value.int IntKind.i64 n7) ∧ ∀ (w8 : World) (R9 : List Own), Ctx W w8 (R ++ R9) Φ → J (Value.bool
  (decide (i = n7))) w8

theorem Breplica_Replica_others_1_run (i : Int) (cB cO : Nat) {W w : World} {R : List Own} {Φ : PW} [Stable Φ] {J : Value → World → Prop} (c : Ctx W w R Φ) (h : Breplica_Replica_others_1 i cB cO W R Φ J) : Calls Try.prog F.replica_Replica_others_1 #[.int .i64 i, .pointer (some (Addr.mk cB cO none))] w fun e w' => ∃ v, e = .returned v ∧ J v w' :=
  vcFS_sound (H := { keep := some [0, 1, 3] }) (by rw [show vcFS Try.prog W { keep := some [0, 1, 3] } F.replica_Replica_others_1 #[.int .i64 i, .pointer (some (Addr.mk cB cO none))] R Φ J = Breplica_Replica_others_1 i cB cO W R Φ J by kernel_rfl]; exact h) c

/-- replica.answer -/
-- known blocks: 1 m, 2 
def Breplica_answer (m0 : Int) (m1 : Int) (m2 : Int) (m3 : Int) (m4 : Int) (m5 : Int) (m6 : Int) (m7 : Bool) (m8P : Option Addr) (m8N m8C : Nat) (W : World) (R : List Own) (Φ : PW) (J : Value → World → Prop) : Prop :=
  ∀ (b b k0 : Nat) (w1 : World) (R2 : List Own), Ctx W w1 (Own.blk k0 [Value.int IntKind.i64 m0, Value.int IntKind.i64 m1, Value.int IntKind.i64 m2, Value.int IntKind.i64 m3, Value.int
  IntKind.i64 m4, Value.int IntKind.i64 m5, Value.int IntKind.i64 m6, Value.bool m7, Value.slice m8P m8N m8C] 37 :: R ++ R2) Φ → J (Value.agg #[Value.bool false, Value.int IntKind.i64 0,
  Value.int IntKind.i64 0, Value.int IntKind.i64 0, Value.slice none 0 0, Value.slice (some (Addr.mk k0 0 none)) 1 1]) w1

theorem Breplica_answer_run (m0 : Int) (m1 : Int) (m2 : Int) (m3 : Int) (m4 : Int) (m5 : Int) (m6 : Int) (m7 : Bool) (m8P : Option Addr) (m8N m8C : Nat) {W w : World} {R : List Own} {Φ : PW} [Stable Φ] {J : Value → World → Prop} (c : Ctx W w R Φ) (h : Breplica_answer m0 m1 m2 m3 m4 m5 m6 m7 m8P m8N m8C W R Φ J) : Calls Try.prog F.replica_answer #[.agg #[.int .i64 m0, .int .i64 m1, .int .i64 m2, .int .i64 m3, .int .i64 m4, .int .i64 m5, .int .i64 m6, .bool m7, .slice m8P m8N m8C]] w fun e w' => ∃ v, e = .returned v ∧ J v w' :=
  vcFS_sound (H := { keep := some [1, 2], track := [1, 2] }) (by rw [show vcFS Try.prog W { keep := some [1, 2], track := [1, 2] } F.replica_answer #[.agg #[.int .i64 m0, .int .i64 m1, .int .i64 m2, .int .i64 m3, .int .i64 m4, .int .i64 m5, .int .i64 m6, .bool m7, .slice m8P m8N m8C]] R Φ J = Breplica_answer m0 m1 m2 m3 m4 m5 m6 m7 m8P m8N m8C W R Φ J by kernel_rfl]; exact h) c

/-- (*replica.Replica).advance -/
-- loop at region 2: 2 most, 8 ; blocks 
def Breplica_Replica_advance (rB rO : Nat) (W : World) (R : List Own) (Φ : PW) (J : Value → World → Prop) : Prop :=
  ∀ (w0 : World) (R1 : List Own), Ctx W w0 (R ++ R1) Φ → Calls Try.prog F.replica_Replica_others #[Value.pointer (some (Addr.mk rB rO none))] w0 fun (e2 : Ending) (w3 : World) => ∃ (p4 :
  Option Addr), ∃ (k5 : Nat), ∃ (k6 : Nat), e2 = Ending.returned (Value.slice p4 k5 k6) ∧ ∃ (R7 : List Own), ∃ (Φ8 : PW), Stable Φ8 ∧ Ctx W w3 (R7 ++ R1) Φ8 ∧ exI fun (I9 : Int → Int → List
  Own → PW → Nat → Prop) => (∃ (R10 : List Own), ∃ (Φ11 : PW), ∃ (k12 : Nat), Stable Φ11 ∧ (∀ (w13 : World) (R14 : List Own), Ctx W w13 (R7 ++ R14) Φ8 → Ctx W w13 (R10 ++ R14) Φ11) ∧ I9 0 0
  R10 Φ11 k12) ∧ ∀ (n15 n16 : Int) (R17 : List Own) (I18 : List Nat → World → Prop) (k19 : Nat), Stable I18 → I9 n15 n16 R17 I18 k19 → Br (decide (n16 < (↑k5 : Int))) ((0 ≤ n16 ∧ n16 < (↑k5 :
  Int)) ∧ ptrK none p4 fun (k20 k21 : Nat) => ∀ (w22 : World) (R23 : List Own), Ctx W w22 (R17 ++ R23) I18 → ∃ (n24 : Int), w22.cell? (Addr.mk k20 (k21 + n16.toNat) none) = some (Value.int
  IntKind.i64 n24) ∧ (0 ≤ n24 ∧ n24 < 3) ∧ ∀ (w25 : World) (R26 : List Own), Ctx W w25 (R17 ++ R26) I18 → ∃ (n27 : Int), w25.cell? (Addr.mk rB (rO + 12 + n24.toNat) none) = some (Value.int
  IntKind.i64 n27) ∧ I64 (n16 + 1) ∧ ∃ (R28 : List Own), ∃ (Φ29 : PW), ∃ (k30 : Nat), Stable Φ29 ∧ (∀ (w31 : World) (R32 : List Own), Ctx W w31 (R17 ++ R32) I18 → Ctx W w31 (R28 ++ R32) Φ29)
  ∧ I9 (max n15 n27) (n16 + 1) R28 Φ29 k30 ∧ k30 < k19) (∀ (w33 : World) (R34 : List Own), Ctx W w33 (R17 ++ R34) I18 → ∃ (n35 : Int), w33.cell? (Addr.mk rB (rO + 5) none) = some (Value.int
  IntKind.i64 n35) ∧ ∃ (n36 : Int), (decide (n35 < n15) = true → ∀ (w37 : World), (∃ (k38 : Nat), w37 = w33.drewN k38) → Calls Try.prog F.replica_Replica_term #[Value.pointer (some (Addr.mk
  rB rO none)), Value.int IntKind.i64 n15] w37 fun (e39 : Ending) (w40 : World) => e39 = Ending.returned (Value.int IntKind.i64 n36) ∧ ∃ (k41 : Nat), w40 = w33.drewN k41) ∧ ∃ (n42 : Int),
  (decide (n35 < n15) = true → w33.cell? (Addr.mk rB (rO + 1) none) = some (Value.int IntKind.i64 n42)) ∧ Br (decide (n35 < n15) && decide (n36 = n42)) (∀ (w43 : World) (R44 : List Own), Ctx
  W w43 (R17 ++ R44) I18 → CanWrite w43 rB (rO + 5) 1 ∧ ∀ (w45 : World), w45 = w43.setCell (Addr.mk rB (rO + 5) none) (Value.int IntKind.i64 n15) → ∃ (R46 : List Own), ∃ (Φ47 : PW), Stable
  Φ47 ∧ Ctx W w45 (R46 ++ R44) Φ47 ∧ ∀ (w48 : World) (R49 : List Own), Ctx W w48 (R46 ++ R49) Φ47 → J (Value.tuple #[]) w48) (∀ (w50 : World) (R51 : List Own), Ctx W w50 (R17 ++ R51) I18 → J
  (Value.tuple #[]) w50))

theorem Breplica_Replica_advance_run (rB rO : Nat) {W w : World} {R : List Own} {Φ : PW} [Stable Φ] {J : Value → World → Prop} (c : Ctx W w R Φ) (h : Breplica_Replica_advance rB rO W R Φ J) : Calls Try.prog F.replica_Replica_advance #[.pointer (some ⟨rB, rO, none⟩)] w fun e w' => ∃ v, e = .returned v ∧ J v w' :=
  vcFS_sound (H := { keep := some [0, 2, 4, 6, 7, 8, 9, 37], loops := [(2, [(2, .one (.int .i64)), (8, .one (.int .i64))], [])] }) (by rw [show vcFS Try.prog W { keep := some [0, 2, 4, 6, 7, 8, 9, 37], loops := [(2, [(2, .one (.int .i64)), (8, .one (.int .i64))], [])] } F.replica_Replica_advance #[.pointer (some ⟨rB, rO, none⟩)] R Φ J = Breplica_Replica_advance rB rO W R Φ J by kernel_rfl]; exact h) c

/-- slices.IndexFunc[[]int,int] -/
-- loop at region 2: 8 ; blocks 
def Bslices_IndexFunc_int_int (sP : Option Addr) (sN sC : Nat) (fF : FuncId) (fC : Array Value) (W : World) (R : List Own) (Φ : PW) (J : Value → World → Prop) : Prop :=
  exI fun (I0 : Int → List Own → PW → Nat → Prop) => (∃ (R1 : List Own), ∃ (Φ2 : PW), ∃ (k3 : Nat), Stable Φ2 ∧ (∀ (w4 : World) (R5 : List Own), Ctx W w4 (R ++ R5) Φ → Ctx W w4 (R1 ++ R5) Φ2)
  ∧ I0 0 R1 Φ2 k3) ∧ ∀ (n6 : Int) (R7 : List Own) (I8 : List Nat → World → Prop) (k9 : Nat), Stable I8 → I0 n6 R7 I8 k9 → Br (decide (n6 < (↑sN : Int))) ((0 ≤ n6 ∧ n6 < (↑sN : Int)) ∧ ptrK
  none sP fun (k10 k11 : Nat) => ∀ (w12 : World) (R13 : List Own), Ctx W w12 (R7 ++ R13) I8 → ∃ (n14 : Int), w12.cell? (Addr.mk k10 (k11 + n6.toNat) none) = some (Value.int IntKind.i64 n14) ∧
  ∀ (w15 : World) (R16 : List Own), Ctx W w15 (R7 ++ R16) I8 → okFun Try.prog fF = true ∧ Calls Try.prog fF (Array.mk (Value.int IntKind.i64 n14 :: fC.toList)) w15 fun (e17 : Ending) (w18 :
  World) => ∃ (c19 : Bool), e17 = Ending.returned (Value.bool c19) ∧ ∃ (R20 : List Own), ∃ (Φ21 : PW), Stable Φ21 ∧ Ctx W w18 (R20 ++ R16) Φ21 ∧ Br c19 (∀ (w22 : World) (R23 : List Own), Ctx
  W w22 (R20 ++ R23) Φ21 → J (Value.int IntKind.i64 n6) w22) (I64 (n6 + 1) ∧ ∃ (R24 : List Own), ∃ (Φ25 : PW), ∃ (k26 : Nat), Stable Φ25 ∧ (∀ (w27 : World) (R28 : List Own), Ctx W w27 (R20 ++
  R28) Φ21 → Ctx W w27 (R24 ++ R28) Φ25) ∧ I0 (n6 + 1) R24 Φ25 k26 ∧ k26 < k9)) (∀ (w29 : World) (R30 : List Own), Ctx W w29 (R7 ++ R30) I8 → J (Value.int IntKind.i64 (-1)) w29)

theorem Bslices_IndexFunc_int_int_run (sP : Option Addr) (sN sC : Nat) (fF : FuncId) (fC : Array Value) {W w : World} {R : List Own} {Φ : PW} [Stable Φ] {J : Value → World → Prop} (c : Ctx W w R Φ) (h : Bslices_IndexFunc_int_int sP sN sC fF fC W R Φ J) : Calls Try.prog F.slices_IndexFunc_int_int #[.slice sP sN sC, .func (.func fF) #[] fC] w fun e w' => ∃ v, e = .returned v ∧ J v w' :=
  vcFS_sound (H := { keep := some [0, 1, 4, 5, 7, 8, 9, 16], wrap := [16], loops := [(2, [(8, .one (.int .i64))], [])] }) (by rw [show vcFS Try.prog W { keep := some [0, 1, 4, 5, 7, 8, 9, 16], wrap := [16], loops := [(2, [(8, .one (.int .i64))], [])] } F.slices_IndexFunc_int_int #[.slice sP sN sC, .func (.func fF) #[] fC] R Φ J = Bslices_IndexFunc_int_int sP sN sC fF fC W R Φ J by kernel_rfl]; exact h) c

end Go.Proofs.Ytifgijoeckoojaa
end

section
namespace Go.Proofs.Ytifgijoeckoojaa
set_option linter.unusedVariables false
set_option linter.unusedSimpArgs false
open Go.Vc

/-- (*replica.Replica).Role -/
def Qreplica_Replica_Role (rB rO : Nat) (w : World) (J : Value → World → Prop) : Prop :=
  ∃ (n0 : Int), w.cell? (Addr.mk rB (rO + 4) none) = some (Value.int IntKind.i64 n0) ∧ J (Value.int IntKind.i64 n0) w

theorem Qreplica_Replica_Role_run (rB rO : Nat) (w : World) (J : Value → World → Prop) (h : Qreplica_Replica_Role rB rO w J) : Calls Try.prog F.replica_Replica_Role #[.pointer (some ⟨rB, rO, none⟩)] w fun e w' => ∃ v, e = .returned v ∧ J v w' :=
  vcF_sound (H := { keep := some [0, 2] }) (by rw [show vcF Try.prog { keep := some [0, 2] } F.replica_Replica_Role #[.pointer (some ⟨rB, rO, none⟩)] w J = Qreplica_Replica_Role rB rO w J by kernel_rfl]; exact h)

/-- (*replica.Replica).Commit -/
def Qreplica_Replica_Commit (rB rO : Nat) (w : World) (J : Value → World → Prop) : Prop :=
  ∃ (n0 : Int), w.cell? (Addr.mk rB (rO + 5) none) = some (Value.int IntKind.i64 n0) ∧ J (Value.int IntKind.i64 n0) w

theorem Qreplica_Replica_Commit_run (rB rO : Nat) (w : World) (J : Value → World → Prop) (h : Qreplica_Replica_Commit rB rO w J) : Calls Try.prog F.replica_Replica_Commit #[.pointer (some ⟨rB, rO, none⟩)] w fun e w' => ∃ v, e = .returned v ∧ J v w' :=
  vcF_sound (H := { keep := some [0, 2] }) (by rw [show vcF Try.prog { keep := some [0, 2] } F.replica_Replica_Commit #[.pointer (some ⟨rB, rO, none⟩)] w J = Qreplica_Replica_Commit rB rO w J by kernel_rfl]; exact h)

/-- (*replica.Replica).term -/
def Qreplica_Replica_term (rB rO : Nat) (n : Int) (w : World) (J : Value → World → Prop) : Prop :=
  Br (decide (n = 0)) (J (Value.int IntKind.i64 0) w) (∃ (p0 : Option Addr), ∃ (k1 : Nat), ∃ (k2 : Nat), w.cell? (Addr.mk rB (rO + 3) none) = some (Value.slice p0 k1 k2) ∧ I64 (n - 1) ∧ (0 ≤
  n - 1 ∧ n - 1 < (↑k1 : Int)) ∧ ptrK none p0 fun (k3 k4 : Nat) => ∃ (n5 : Int), w.cell? (Addr.mk k3 (k4 + (n - 1).toNat * 2) none) = some (Value.int IntKind.i64 n5) ∧ J (Value.int
  IntKind.i64 n5) w)

theorem Qreplica_Replica_term_run (rB rO : Nat) (n : Int) (w : World) (J : Value → World → Prop) (h : Qreplica_Replica_term rB rO n w J) : Calls Try.prog F.replica_Replica_term #[.pointer (some ⟨rB, rO, none⟩), .int .i64 n] w fun e w' => ∃ v, e = .returned v ∧ J v w' :=
  vcF_sound (H := { keep := some [0, 1, 4, 6] }) (by rw [show vcF Try.prog { keep := some [0, 1, 4, 6] } F.replica_Replica_term #[.pointer (some ⟨rB, rO, none⟩), .int .i64 n] w J = Qreplica_Replica_term rB rO n w J by kernel_rfl]; exact h)

/-- replica.between -/
def Qreplica_between (n : Int) (a : Int) (b : Int) (w : World) (J : Value → World → Prop) : Prop :=
  J (Value.bool (decide (a ≤ n) && decide (n ≤ b))) w

theorem Qreplica_between_run (n : Int) (a : Int) (b : Int) (w : World) (J : Value → World → Prop) (h : Qreplica_between n a b w J) : Calls Try.prog F.replica_between #[.int .i64 n, .int .i64 a, .int .i64 b] w fun e w' => ∃ v, e = .returned v ∧ J v w' :=
  vcF_sound (H := { keep := some [0, 1, 2, 6] }) (by rw [show vcF Try.prog { keep := some [0, 1, 2, 6] } F.replica_between #[.int .i64 n, .int .i64 a, .int .i64 b] w J = Qreplica_between n a b w J by kernel_rfl]; exact h)

end Go.Proofs.Ytifgijoeckoojaa
end

/-
  CONTRACTS over what a walk owns: a function that hands back a plain value, or plain data.
-/
section
set_option linter.unusedVariables false
set_option linter.unusedSimpArgs false
namespace Go.Vc

section
variable {P : Program} {W w : World} {S F : List Own} {Φ Ψ : PW}

/-- the function only looks: it hands back v, and the world is as it was -/
structure Quiet (P : Program) (f : FuncId) (args : Array Value) (v : Value) : Prop where
  go : ∀ w, Calls P f args w fun e w' => e = .returned v ∧ w' = w

/-- the function hands back v; all that is owned or known stays -/
structure Gives (P : Program) (f : FuncId) (args : Array Value) (v : Value) : Prop where
  go : ∀ (W w : World) (S : List Own) (Φ : PW), Stable Φ → Ctx W w S Φ → Calls P f args w fun e w' => e = .returned v ∧ Ctx W w' S Φ

theorem Quiet.at {f : FuncId} {args : Array Value} {v : Value} (h : Quiet P f args v) {w w0 : World} (e : w = w0) : Calls P f args w fun e w' => e = .returned v ∧ w' = w0 := by subst e; exact h.go w
theorem Quiet.atN {f : FuncId} {args : Array Value} {v : Value} (h : Quiet P f args v) {w w0 : World} (e : ∃ n, w = w0.drewN n) : Calls P f args w fun e w' => e = .returned v ∧ ∃ n, w' = w0.drewN n := by
  obtain ⟨n, rfl⟩ := e
  exact (h.go _).mono fun e w' ⟨h1, h2⟩ => ⟨h1, n, h2⟩

theorem Quiet.gives {f : FuncId} {args : Array Value} {v : Value} (h : Quiet P f args v) : Gives P f args v :=
  ⟨fun W w S Φ _ c => (h.go w).mono fun e w' ⟨h1, h2⟩ => by subst h2; exact ⟨h1, c⟩⟩

theorem Gives.use {f : FuncId} {args : Array Value} {v : Value} (h : Gives P f args v) [hs : Stable Φ] (c : Ctx W w S Φ) {K : Ending → World → Prop} (hk : ∀ w', Ctx W w' S Φ → K (.returned v) w') : Calls P f args w K :=
  (h.go W w S Φ hs c).mono fun e w' ⟨he, c'⟩ => by subst he; exact hk w' c'

theorem gives_of {f : FuncId} {args : Array Value} {v : Value} {B : World → List Own → PW → (Value → World → Prop) → Prop}
    (run : ∀ {W w : World} {R : List Own} {Φ : PW} [Stable Φ] {J : Value → World → Prop}, Ctx W w R Φ → B W R Φ J → Calls P f args w fun e w' => ∃ v, e = .returned v ∧ J v w')
    (h : ∀ (W : World) (R : List Own) (Φ : PW), Stable Φ → B W R Φ fun u w' => u = v ∧ Ctx W w' R Φ) : Gives P f args v :=
  ⟨fun W w S Φ hs c => calls_of (run c (h W S Φ hs)) fun u w' ⟨h1, h2⟩ => ⟨by rw [h1], h2⟩⟩

/-- .. where Φ is known -/
structure GivesIn (Φ : PW) (P : Program) (f : FuncId) (args : Array Value) (v : Value) : Prop where
  go : ∀ (W w : World) (S : List Own), Ctx W w S Φ → Calls P f args w fun e w' => e = .returned v ∧ Ctx W w' S Φ

theorem GivesIn.use {f : FuncId} {args : Array Value} {v : Value} (h : GivesIn Φ P f args v) (c : Ctx W w S Φ) {K : Ending → World → Prop} (hk : ∀ w', Ctx W w' S Φ → K (.returned v) w') : Calls P f args w K :=
  (h.go W w S c).mono fun e w' ⟨he, c'⟩ => by subst he; exact hk w' c'

theorem Gives.in [hs : Stable Φ] {f : FuncId} {args : Array Value} {v : Value} (h : Gives P f args v) : GivesIn Φ P f args v := ⟨fun W w S c => h.go W w S Φ hs c⟩

theorem gives_in [Stable Φ] {f : FuncId} {args : Array Value} {v : Value} {B : World → List Own → PW → (Value → World → Prop) → Prop}
    (run : ∀ {W w : World} {R : List Own} {Φ : PW} [Stable Φ] {J : Value → World → Prop}, Ctx W w R Φ → B W R Φ J → Calls P f args w fun e w' => ∃ v, e = .returned v ∧ J v w')
    (h : ∀ (W : World) (R : List Own), B W R Φ fun u w' => u = v ∧ Ctx W w' R Φ) : GivesIn Φ P f args v :=
  ⟨fun W w S c => calls_of (run c (h W S)) fun u w' ⟨h1, h2⟩ => ⟨by rw [h1], h2⟩⟩

/-- without the frame -/
theorem Ctx.left [Stable Φ] (c : Ctx W w (S ++ F) Φ) : Ctx W w S Φ := c.sub (List.sublist_append_left _ _)
theorem Ctx.right [Stable Φ] (c : Ctx W w (S ++ F) Φ) : Ctx W w F Φ := c.sub (List.sublist_append_right _ _)
theorem Ctx.fst [Stable Φ] [Stable Ψ] (c : Ctx W w S (fun M w => Φ M w ∧ Ψ M w)) : Ctx W w S Φ := c.weak fun _ _ h => h.1

/-- a row out of cells that are written out -/
theorem rows_of {cs vs : List Value} {o : Nat} (h : (cs.drop o).take vs.length = vs) : ∀ j, (hj : j < vs.length) → cs[o + j]? = some vs[j] := by
  intro j hj
  have h1 : ((cs.drop o).take vs.length)[j]? = vs[j]? := by rw [h]
  rw [List.getElem?_take_of_lt hj, List.getElem?_drop] at h1
  rw [h1, List.getElem?_eq_getElem hj]

theorem quiet_of {f : FuncId} {args : Array Value} {v : Value} {B : World → (Value → World → Prop) → Prop}
    (run : ∀ (w : World) (J : Value → World → Prop), B w J → Calls P f args w fun e w' => ∃ v, e = .returned v ∧ J v w')
    (h : ∀ w, B w fun u w' => u = v ∧ w' = w) : Quiet P f args v :=
  ⟨fun w => calls_of (run w _ (h w)) fun u w' ⟨h1, h2⟩ => ⟨by rw [h1], h2⟩⟩

end

/-! ### data that is read at several points: its cells are named -/
/-- the cells of the elements, at this place -/
def Pin {α : Type} [Gv α] (b o : Nat) (cs : List (List Value)) (l : List α) (M : List Nat) (w : World) : Prop :=
  ∀ j, (hj : j < l.length) → b ∉ M ∧ RowAt w b (o + j * (Gv.ty α).size) (cs.getD j []) ∧ Gv.rep M w (cs.getD j []) l[j]

instance instStablePin {α : Type} [Gv α] (b o : Nat) (cs : List (List Value)) (l : List α) : Stable (fun M w => Pin b o cs l M w) := ⟨fun hs h j hj => by
  obtain ⟨h2, h3, h4⟩ := h j hj
  have hlt := row_lt h3 (by rw [Gv.len h4]; exact Gv.pos)
  exact ⟨fun hm => by rcases hs.sub b hm with h | h; exact h2 h; omega, hs.chg.row h3 h2, Gv.stable hs h4⟩⟩

theorem Sl.pin {α : Type} [Gv α] {M : List Nat} {w : World} {p : Option Addr} {l : List α} (h : Sl M w p l) : ∃ b o cs, (0 < l.length → p = some ⟨b, o, none⟩) ∧ Pin b o cs l M w := by
  by_cases h0 : 0 < l.length
  · obtain ⟨b, o, _, hp, _⟩ := h 0 h0
    have key : ∀ j, j < l.length → ∃ cs : List Value, ∀ hj : j < l.length, b ∉ M ∧ RowAt w b (o + j * (Gv.ty α).size) cs ∧ Gv.rep M w cs l[j] := by
      intro j hj
      obtain ⟨b', o', cs, h1, h2, h3, h4⟩ := h j hj
      rw [hp] at h1
      cases h1
      exact ⟨cs, fun _ => ⟨h2, h3, h4⟩⟩
    obtain ⟨cs, hl, hcs⟩ := list_build l.length key
    refine ⟨b, o, cs, fun _ => hp, fun j hj => ?_⟩
    have := hcs j (by omega) hj
    rw [show cs.getD j [] = cs[j] by simp [List.getD, show j < cs.length by omega]]
    exact this
  · exact ⟨0, 0, [], fun h => absurd h h0, fun j hj => by omega⟩

theorem Ctx.pin {W w : World} {S : List Own} {Φ : PW} (c : Ctx W w S Φ) {α : Type} [Gv α] {p : Option Addr} {l : List α} (h : Sl (dom S) w p l) :
    ∃ b o cs, (0 < l.length → p = some ⟨b, o, none⟩) ∧ Ctx W w S (fun M w => Φ M w ∧ Pin b o cs l M w) := by
  obtain ⟨b, o, cs, hp, hpin⟩ := h.pin
  exact ⟨b, o, cs, hp, c.add hpin⟩

end Go.Vc
end

