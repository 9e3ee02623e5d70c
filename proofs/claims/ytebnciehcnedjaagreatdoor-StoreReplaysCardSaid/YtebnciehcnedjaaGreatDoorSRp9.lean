/-
  For every input erratalaw29.StoreReplays returns true, does not panic, comes to an end, and leaves what came in as it was; the variables that its row lists are as the program's text lays them.
  Conditions: none beyond the given statement's own (StoreReplaysCardSaid).
-/
import Derived.Test.YtebnciehcnedjaaGreatDoorSRp6
import Derived.Test.YtebnciehcnedjaaGreatDoorSRp8
import Derived.Test.YtebnciehcnedjaaGreatDoorCards
import Derived.MakeChecks
import Derived.Stop.LaidErr
import Derived.Lib.LaidTab
import Derived.Test.YtebnciehcnedjaaGreatDoorTie
import Derived.SevenTiedAt
import Derived.LaidMore
import Derived.ChangeMaps5
import Derived.Test.YtebnciehcnedjaaGreatDoorRows

/-
  The conditions of the walks of some functions, one formula each; 'B<f>_run' says that they suffice. The formulas are printed by a program; the kernel compares them with the functions' code.
-/
section
namespace Go.Proofs.YtebnciehcnedjaaGreatDoor
set_option linter.unusedVariables false
set_option linter.unusedSimpArgs false
set_option maxRecDepth 100000
open Go.Vc

/-- erratalaw29.StoreReplays -/
-- loop at region 25: 18 i; blocks 
-- loop at region 15: 6 s, 12 i; blocks 
-- loop at region 6: 6 s, 7 i; blocks 
def Berratalaw29_StoreReplays (lP : Option Addr) (lN lC : Nat) (moreP : Option Addr) (moreN moreC : Nat) (W : World) (R : List Own) (Φ : PW) (J : Value → World → Prop) : Prop :=
  ∀ (w0 : World) (R1 : List Own), Ctx W w0 (R ++ R1) Φ → Calls Tryz.prog F.erratalaw29_small #[] w0 fun (e2 : Ending) (w3 : World) => ∃ (c4 : Bool), e2 = Ending.returned (Value.bool c4) ∧ ∃
  (R5 : List Own), ∃ (Φ6 : PW), Stable Φ6 ∧ Ctx W w3 (R5 ++ R1) Φ6 ∧ ∀ (w7 : World) (R8 : List Own), Ctx W w7 (R5 ++ R8) Φ6 → Calls Tryz.prog F.store_New #[] w7 fun (e9 : Ending) (w10 :
  World) => ∃ (p11 : Option Addr), e9 = Ending.returned (Value.pointer p11) ∧ ∃ (R12 : List Own), ∃ (Φ13 : PW), Stable Φ13 ∧ Ctx W w10 (R12 ++ R8) Φ13 ∧ ∀ (w14 : World) (R15 : List Own), Ctx
  W w14 (R12 ++ R15) Φ13 → Calls Tryz.prog F.erratalaw29_few #[Value.slice lP lN lC, Value.int IntKind.i64 150] w14 fun (e16 : Ending) (w17 : World) => ∃ (c18 : Bool), e16 = Ending.returned
  (Value.bool c18) ∧ ∃ (R19 : List Own), ∃ (Φ20 : PW), Stable Φ20 ∧ Ctx W w17 (R19 ++ R15) Φ20 ∧ Br (!c18) (∀ (w21 : World) (R22 : List Own), Ctx W w21 (R19 ++ R22) Φ20 → ∀ (w23 : World) (R24
  : List Own), Ctx W w23 (R19 ++ R24) Φ20 → J (Value.bool (c4 && !p11.isNone)) w23) (∀ (w25 : World) (R26 : List Own), Ctx W w25 (R19 ++ R26) Φ20 → Calls Tryz.prog F.erratalaw29_few
  #[Value.slice moreP moreN moreC, Value.int IntKind.i64 100] w25 fun (e27 : Ending) (w28 : World) => ∃ (c29 : Bool), e27 = Ending.returned (Value.bool c29) ∧ ∃ (R30 : List Own), ∃ (Φ31 :
  PW), Stable Φ31 ∧ Ctx W w28 (R30 ++ R26) Φ31 ∧ Br (!c29) (∀ (w32 : World) (R33 : List Own), Ctx W w32 (R30 ++ R33) Φ31 → ∀ (w34 : World) (R35 : List Own), Ctx W w34 (R30 ++ R35) Φ31 → J
  (Value.bool (c4 && !p11.isNone)) w34) (Br p11.isNone (∀ (w36 : World) (R37 : List Own), Ctx W w36 (R30 ++ R37) Φ31 → ∀ (w38 : World) (R39 : List Own), Ctx W w38 (R30 ++ R39) Φ31 → J
  (Value.bool (c4 && !p11.isNone)) w38) (exI fun (I40 : Option Addr → Int → List Own → PW → Nat → Prop) => (∃ (R41 : List Own), ∃ (Φ42 : PW), ∃ (k43 : Nat), Stable Φ42 ∧ (∀ (w44 : World) (R45
  : List Own), Ctx W w44 (R30 ++ R45) Φ31 → Ctx W w44 (R41 ++ R45) Φ42) ∧ I40 p11 0 R41 Φ42 k43) ∧ ∀ (p46 : Option Addr) (n47 : Int) (R48 : List Own) (I49 : List Nat → World → Prop) (k50 :
  Nat), Stable I49 → I40 p46 n47 R48 I49 k50 → Br (decide (n47 < (↑lN : Int))) ((0 ≤ n47 ∧ n47 < (↑lN : Int)) ∧ ptrK none lP fun (k51 k52 : Nat) => ∀ (w53 : World) (R54 : List Own), Ctx W w53
  (R48 ++ R54) I49 → ∃ (n55 : Int), ∃ (n56 : Int), ∃ (s57 : ByteArray), ∃ (s58 : ByteArray), RowAt w53 k51 (k52 + n47.toNat * 4) [Value.int IntKind.i64 n55, Value.int IntKind.i64 n56,
  Value.string s57, Value.string s58] ∧ ∀ (w59 : World) (R60 : List Own), Ctx W w59 (R48 ++ R60) I49 → Calls Tryz.prog F.erratalaw29_do #[Value.pointer p46, Value.agg #[Value.int IntKind.i64
  n55, Value.int IntKind.i64 n56, Value.string s57, Value.string s58]] w59 fun (e61 : Ending) (w62 : World) => ∃ (p63 : Option Addr), ∃ (n64 : Int), e61 = Ending.returned (Value.tuple
  #[Value.pointer p63, Value.int IntKind.i64 n64]) ∧ ∃ (R65 : List Own), ∃ (Φ66 : PW), Stable Φ66 ∧ Ctx W w62 (R65 ++ R60) Φ66 ∧ Br p63.isNone (∀ (w67 : World) (R68 : List Own), Ctx W w67
  (R65 ++ R68) Φ66 → J (Value.bool false) w67) (I64 (n47 + 1) ∧ ∃ (R69 : List Own), ∃ (Φ70 : PW), ∃ (k71 : Nat), Stable Φ70 ∧ (∀ (w72 : World) (R73 : List Own), Ctx W w72 (R65 ++ R73) Φ66 →
  Ctx W w72 (R69 ++ R73) Φ70) ∧ I40 p63 (n47 + 1) R69 Φ70 k71 ∧ k71 < k50)) (∀ (w74 : World) (R75 : List Own), Ctx W w74 (R48 ++ R75) I49 → Calls Tryz.prog F.store_Store_Snapshot
  #[Value.pointer p46] w74 fun (e76 : Ending) (w77 : World) => ∃ (s78 : ByteArray), e76 = Ending.returned (Value.string s78) ∧ ∃ (R79 : List Own), ∃ (Φ80 : PW), Stable Φ80 ∧ Ctx W w77 (R79 ++
  R75) Φ80 ∧ ∀ (w81 : World) (R82 : List Own), Ctx W w81 (R79 ++ R82) Φ80 → Calls Tryz.prog F.store_Store_Seq #[Value.pointer p46] w81 fun (e83 : Ending) (w84 : World) => ∃ (n85 : Int), e83 =
  Ending.returned (Value.int IntKind.i64 n85) ∧ ∃ (R86 : List Own), ∃ (Φ87 : PW), Stable Φ87 ∧ Ctx W w84 (R86 ++ R82) Φ87 ∧ exI fun (I88 : Option Addr → Int → List Own → PW → Nat → Prop) =>
  (∃ (R89 : List Own), ∃ (Φ90 : PW), ∃ (k91 : Nat), Stable Φ90 ∧ (∀ (w92 : World) (R93 : List Own), Ctx W w92 (R86 ++ R93) Φ87 → Ctx W w92 (R89 ++ R93) Φ90) ∧ I88 p46 0 R89 Φ90 k91) ∧ ∀ (p94
  : Option Addr) (n95 : Int) (R96 : List Own) (I97 : List Nat → World → Prop) (k98 : Nat), Stable I97 → I88 p94 n95 R96 I97 k98 → Br (decide (n95 < (↑moreN : Int))) ((0 ≤ n95 ∧ n95 < (↑moreN
  : Int)) ∧ ptrK none moreP fun (k99 k100 : Nat) => ∀ (w101 : World) (R102 : List Own), Ctx W w101 (R96 ++ R102) I97 → ∃ (n103 : Int), w101.cell? (Addr.mk k99 (k100 + n95.toNat * 4) none) =
  some (Value.int IntKind.i64 n103) ∧ ∃ (n104 : Int), (∀ (w105 : World), Sem.run Tryz.prog (binOp BinOp.and 3 (Value.int IntKind.i64 n103) (Value.int IntKind.i64 7)) w105 = Result.ok
  (Value.int IntKind.i64 n104) w105) ∧ ∀ (w106 : World) (R107 : List Own), Ctx W w106 (R96 ++ R107) I97 → Br (decide (n104 ≠ 5) && decide (n104 ≠ 7)) ((0 ≤ n95 ∧ n95 < (↑moreN : Int)) ∧ ptrK
  none moreP fun (k108 k109 : Nat) => ∀ (w110 : World) (R111 : List Own), Ctx W w110 (R96 ++ R111) I97 → ∃ (n112 : Int), ∃ (n113 : Int), ∃ (s114 : ByteArray), ∃ (s115 : ByteArray), RowAt w110
  k108 (k109 + n95.toNat * 4) [Value.int IntKind.i64 n112, Value.int IntKind.i64 n113, Value.string s114, Value.string s115] ∧ ∀ (w116 : World) (R117 : List Own), Ctx W w116 (R96 ++ R117) I97
  → Calls Tryz.prog F.erratalaw29_do #[Value.pointer p94, Value.agg #[Value.int IntKind.i64 n112, Value.int IntKind.i64 n113, Value.string s114, Value.string s115]] w116 fun (e118 : Ending)
  (w119 : World) => ∃ (p120 : Option Addr), ∃ (n121 : Int), e118 = Ending.returned (Value.tuple #[Value.pointer p120, Value.int IntKind.i64 n121]) ∧ ∃ (R122 : List Own), ∃ (Φ123 : PW), Stable
  Φ123 ∧ Ctx W w119 (R122 ++ R117) Φ123 ∧ I64 (n95 + 1) ∧ ∃ (R124 : List Own), ∃ (Φ125 : PW), ∃ (k126 : Nat), Stable Φ125 ∧ (∀ (w127 : World) (R128 : List Own), Ctx W w127 (R122 ++ R128) Φ123
  → Ctx W w127 (R124 ++ R128) Φ125) ∧ I88 p120 (n95 + 1) R124 Φ125 k126 ∧ k126 < k98) (I64 (n95 + 1) ∧ ∃ (R129 : List Own), ∃ (Φ130 : PW), ∃ (k131 : Nat), Stable Φ130 ∧ (∀ (w132 : World)
  (R133 : List Own), Ctx W w132 (R96 ++ R133) I97 → Ctx W w132 (R129 ++ R133) Φ130) ∧ I88 p94 (n95 + 1) R129 Φ130 k131 ∧ k131 < k98)) (∀ (w134 : World) (R135 : List Own), Ctx W w134 (R96 ++
  R135) I97 → Calls Tryz.prog F.store_Store_Since #[Value.pointer p94, Value.int IntKind.i64 n85] w134 fun (e136 : Ending) (w137 : World) => ∃ (p138 : Option Addr), ∃ (k139 : Nat), ∃ (k140 :
  Nat), ∃ (n141 : Int), e136 = Ending.returned (Value.tuple #[Value.slice p138 k139 k140, Value.int IntKind.i64 n141]) ∧ ∃ (R142 : List Own), ∃ (Φ143 : PW), Stable Φ143 ∧ Ctx W w137 (R142 ++
  R135) Φ143 ∧ ∀ (w144 : World) (R145 : List Own), Ctx W w144 (R142 ++ R145) Φ143 → Calls Tryz.prog F.store_Restore #[Value.string s78] w144 fun (e146 : Ending) (w147 : World) => ∃ (p148 :
  Option Addr), ∃ (c149 : Bool), e146 = Ending.returned (Value.tuple #[Value.pointer p148, Value.bool c149]) ∧ ∃ (R150 : List Own), ∃ (Φ151 : PW), Stable Φ151 ∧ Ctx W w147 (R150 ++ R145) Φ151
  ∧ ∀ (w152 : World) (R153 : List Own), Ctx W w152 (R150 ++ R153) Φ151 → Br (decide (n141 ≠ 0) || !c149 || p148.isNone) (∀ (w154 : World) (R155 : List Own), Ctx W w154 (R150 ++ R155) Φ151 → J
  (Value.bool false) w154) (exI fun (I156 : Int → List Own → PW → Nat → Prop) => (∃ (R157 : List Own), ∃ (Φ158 : PW), ∃ (k159 : Nat), Stable Φ158 ∧ (∀ (w160 : World) (R161 : List Own), Ctx W
  w160 (R150 ++ R161) Φ151 → Ctx W w160 (R157 ++ R161) Φ158) ∧ I156 0 R157 Φ158 k159) ∧ ∀ (n162 : Int) (R163 : List Own) (I164 : List Nat → World → Prop) (k165 : Nat), Stable I164 → I156 n162
  R163 I164 k165 → Br (decide (n162 < (↑k139 : Int))) ((0 ≤ n162 ∧ n162 < (↑k139 : Int)) ∧ ptrK none p138 fun (k166 k167 : Nat) => ∀ (w168 : World) (R169 : List Own), Ctx W w168 (R163 ++
  R169) I164 → ∃ (n170 : Int), ∃ (s171 : ByteArray), ∃ (s172 : ByteArray), RowAt w168 k166 (k167 + n162.toNat * 3) [Value.int IntKind.i64 n170, Value.string s171, Value.string s172] ∧ ∀ (w173
  : World) (R174 : List Own), Ctx W w173 (R163 ++ R174) I164 → Calls Tryz.prog F.store_Store_Apply #[Value.pointer p148, Value.agg #[Value.int IntKind.i64 n170, Value.string s171,
  Value.string s172]] w173 fun (e175 : Ending) (w176 : World) => ∃ (n177 : Int), e175 = Ending.returned (Value.int IntKind.i64 n177) ∧ ∃ (R178 : List Own), ∃ (Φ179 : PW), Stable Φ179 ∧ Ctx W
  w176 (R178 ++ R174) Φ179 ∧ Br (decide (n177 ≠ 0)) (∀ (w180 : World) (R181 : List Own), Ctx W w180 (R178 ++ R181) Φ179 → J (Value.bool false) w180) (I64 (n162 + 1) ∧ ∃ (R182 : List Own), ∃
  (Φ183 : PW), ∃ (k184 : Nat), Stable Φ183 ∧ (∀ (w185 : World) (R186 : List Own), Ctx W w185 (R178 ++ R186) Φ179 → Ctx W w185 (R182 ++ R186) Φ183) ∧ I156 (n162 + 1) R182 Φ183 k184 ∧ k184 <
  k165)) (Br c4 (∀ (w187 : World) (R188 : List Own), Ctx W w187 (R163 ++ R188) I164 → Calls Tryz.prog F.store_Store_Snapshot #[Value.pointer p148] w187 fun (e189 : Ending) (w190 : World) => ∃
  (s191 : ByteArray), e189 = Ending.returned (Value.string s191) ∧ ∃ (R192 : List Own), ∃ (Φ193 : PW), Stable Φ193 ∧ Ctx W w190 (R192 ++ R188) Φ193 ∧ ∀ (w194 : World) (R195 : List Own), Ctx W
  w194 (R192 ++ R195) Φ193 → Calls Tryz.prog F.store_Store_Snapshot #[Value.pointer p94] w194 fun (e196 : Ending) (w197 : World) => ∃ (s198 : ByteArray), e196 = Ending.returned (Value.string
  s198) ∧ ∃ (R199 : List Own), ∃ (Φ200 : PW), Stable Φ200 ∧ Ctx W w197 (R199 ++ R195) Φ200 ∧ Br (decide (s191 = s198)) (∀ (w201 : World) (R202 : List Own), Ctx W w201 (R199 ++ R202) Φ200 →
  Calls Tryz.prog F.store_Store_Seq #[Value.pointer p148] w201 fun (e203 : Ending) (w204 : World) => ∃ (n205 : Int), e203 = Ending.returned (Value.int IntKind.i64 n205) ∧ ∃ (R206 : List Own),
  ∃ (Φ207 : PW), Stable Φ207 ∧ Ctx W w204 (R206 ++ R202) Φ207 ∧ ∀ (w208 : World) (R209 : List Own), Ctx W w208 (R206 ++ R209) Φ207 → Calls Tryz.prog F.store_Store_Seq #[Value.pointer p94]
  w208 fun (e210 : Ending) (w211 : World) => ∃ (n212 : Int), e210 = Ending.returned (Value.int IntKind.i64 n212) ∧ ∃ (R213 : List Own), ∃ (Φ214 : PW), Stable Φ214 ∧ Ctx W w211 (R213 ++ R209)
  Φ214 ∧ Br (decide (n205 = n212)) (∀ (w215 : World) (R216 : List Own), Ctx W w215 (R213 ++ R216) Φ214 → Calls Tryz.prog F.store_Store_Scan #[Value.pointer p148, Value.string (ByteArray.mk
  #[])] w215 fun (e217 : Ending) (w218 : World) => ∃ (p219 : Option Addr), ∃ (k220 : Nat), ∃ (k221 : Nat), e217 = Ending.returned (Value.slice p219 k220 k221) ∧ ∃ (R222 : List Own), ∃ (Φ223 :
  PW), Stable Φ223 ∧ Ctx W w218 (R222 ++ R216) Φ223 ∧ ∀ (w224 : World) (R225 : List Own), Ctx W w224 (R222 ++ R225) Φ223 → Calls Tryz.prog F.store_Store_Scan #[Value.pointer p94, Value.string
  (ByteArray.mk #[])] w224 fun (e226 : Ending) (w227 : World) => ∃ (p228 : Option Addr), ∃ (k229 : Nat), ∃ (k230 : Nat), e226 = Ending.returned (Value.slice p228 k229 k230) ∧ ∃ (R231 : List
  Own), ∃ (Φ232 : PW), Stable Φ232 ∧ Ctx W w227 (R231 ++ R225) Φ232 ∧ ∀ (w233 : World) (R234 : List Own), Ctx W w233 (R231 ++ R234) Φ232 → Calls Tryz.prog F.errataref29_SamePairs
  #[Value.slice p219 k220 k221, Value.slice p228 k229 k230] w233 fun (e235 : Ending) (w236 : World) => ∃ (c237 : Bool), e235 = Ending.returned (Value.bool c237) ∧ ∃ (R238 : List Own), ∃ (Φ239
  : PW), Stable Φ239 ∧ Ctx W w236 (R238 ++ R234) Φ239 ∧ Br c237 (∀ (w240 : World) (R241 : List Own), Ctx W w240 (R238 ++ R241) Φ239 → Calls Tryz.prog F.store_Store_Seq #[Value.pointer p148]
  w240 fun (e242 : Ending) (w243 : World) => ∃ (n244 : Int), e242 = Ending.returned (Value.int IntKind.i64 n244) ∧ ∃ (R245 : List Own), ∃ (Φ246 : PW), Stable Φ246 ∧ Ctx W w243 (R245 ++ R241)
  Φ246 ∧ ∀ (w247 : World) (R248 : List Own), Ctx W w247 (R245 ++ R248) Φ246 → Calls Tryz.prog F.store_Store_Apply #[Value.pointer p148, Value.agg #[Value.int IntKind.i64 n244, Value.string
  (ByteArray.mk #[]), Value.string (ByteArray.mk #[])]] w247 fun (e249 : Ending) (w250 : World) => ∃ (n251 : Int), e249 = Ending.returned (Value.int IntKind.i64 n251) ∧ ∃ (R252 : List Own), ∃
  (Φ253 : PW), Stable Φ253 ∧ Ctx W w250 (R252 ++ R248) Φ253 ∧ ∀ (w254 : World) (R255 : List Own), Ctx W w254 (R252 ++ R255) Φ253 → J (Value.bool (decide (n251 = 25))) w254) (∀ (w256 : World)
  (R257 : List Own), Ctx W w256 (R238 ++ R257) Φ239 → J (Value.bool false) w256)) (∀ (w258 : World) (R259 : List Own), Ctx W w258 (R213 ++ R259) Φ214 → J (Value.bool false) w258)) (∀ (w260 :
  World) (R261 : List Own), Ctx W w260 (R199 ++ R261) Φ200 → J (Value.bool false) w260)) (∀ (w262 : World) (R263 : List Own), Ctx W w262 (R163 ++ R263) I164 → J (Value.bool false)
  w262))))))))

theorem Berratalaw29_StoreReplays_run (lP : Option Addr) (lN lC : Nat) (moreP : Option Addr) (moreN moreC : Nat) {W w : World} {R : List Own} {Φ : PW} [Stable Φ] {J : Value → World → Prop} (c : Ctx W w R Φ) (h : Berratalaw29_StoreReplays lP lN lC moreP moreN moreC W R Φ J) : Calls Tryz.prog F.erratalaw29_StoreReplays #[.slice lP lN lC, .slice moreP moreN moreC] w fun e w' => ∃ v, e = .returned v ∧ J v w' :=
  vcFS_sound (H := { keep := some [0, 1, 4, 5, 6, 7, 8, 10, 11, 12, 13, 14, 15, 16, 17, 18, 32, 41, 54, 63, 77, 107, 111, 120], split := [3, 29], loops := [(25, [(18, .one (.int .i64))], []), (15, [(6, .one (.ptr)), (12, .one (.int .i64))], []), (6, [(6, .one (.ptr)), (7, .one (.int .i64))], [])] }) (by rw [show vcFS Tryz.prog W { keep := some [0, 1, 4, 5, 6, 7, 8, 10, 11, 12, 13, 14, 15, 16, 17, 18, 32, 41, 54, 63, 77, 107, 111, 120], split := [3, 29], loops := [(25, [(18, .one (.int .i64))], []), (15, [(6, .one (.ptr)), (12, .one (.int .i64))], []), (6, [(6, .one (.ptr)), (7, .one (.int .i64))], [])] } F.erratalaw29_StoreReplays #[.slice lP lN lC, .slice moreP moreN moreC] R Φ J = Berratalaw29_StoreReplays lP lN lC moreP moreN moreC W R Φ J by kernel_rfl]; exact h) c

/-- erratalaw29.small -/
-- loop at region 13: 6 i; blocks 
def Berratalaw29_small  (W : World) (R : List Own) (Φ : PW) (J : Value → World → Prop) : Prop :=
  ∀ (w0 : World) (R1 : List Own), Ctx W w0 (R ++ R1) Φ → Calls Tryz.prog F.store_New #[] w0 fun (e2 : Ending) (w3 : World) => ∃ (p4 : Option Addr), e2 = Ending.returned (Value.pointer p4) ∧ ∃
  (R5 : List Own), ∃ (Φ6 : PW), Stable Φ6 ∧ Ctx W w3 (R5 ++ R1) Φ6 ∧ ∀ (w7 : World) (R8 : List Own), Ctx W w7 (R5 ++ R8) Φ6 → Calls Tryz.prog F.store_New #[] w7 fun (e9 : Ending) (w10 :
  World) => ∃ (p11 : Option Addr), e9 = Ending.returned (Value.pointer p11) ∧ ∃ (R12 : List Own), ∃ (Φ13 : PW), Stable Φ13 ∧ Ctx W w10 (R12 ++ R8) Φ13 ∧ ∀ (w14 : World) (R15 : List Own), Ctx
  W w14 (R12 ++ R15) Φ13 → Br (p4.isNone || p11.isNone) (∀ (w16 : World) (R17 : List Own), Ctx W w16 (R12 ++ R17) Φ13 → J (Value.bool false) w16) (∀ (w18 : World) (R19 : List Own), Ctx W w18
  (R12 ++ R19) Φ13 → Calls Tryz.prog F.store_Store_Put #[Value.pointer p4, Value.string (ByteArray.mk #[OfNat.ofNat 97]), Value.string (ByteArray.mk #[OfNat.ofNat 49])] w18 fun (e20 : Ending)
  (w21 : World) => e20 = Ending.returned (Value.tuple #[]) ∧ ∃ (R22 : List Own), ∃ (Φ23 : PW), Stable Φ23 ∧ Ctx W w21 (R22 ++ R19) Φ23 ∧ ∀ (w24 : World) (R25 : List Own), Ctx W w24 (R22 ++
  R25) Φ23 → Calls Tryz.prog F.store_Store_Put #[Value.pointer p4, Value.string (ByteArray.mk #[OfNat.ofNat 98]), Value.string (ByteArray.mk #[OfNat.ofNat 50])] w24 fun (e26 : Ending) (w27 :
  World) => e26 = Ending.returned (Value.tuple #[]) ∧ ∃ (R28 : List Own), ∃ (Φ29 : PW), Stable Φ29 ∧ Ctx W w27 (R28 ++ R25) Φ29 ∧ ∀ (w30 : World) (R31 : List Own), Ctx W w30 (R28 ++ R31) Φ29
  → Calls Tryz.prog F.store_Store_Put #[Value.pointer p4, Value.string (ByteArray.mk #[OfNat.ofNat 97]), Value.string (ByteArray.mk #[])] w30 fun (e32 : Ending) (w33 : World) => e32 =
  Ending.returned (Value.tuple #[]) ∧ ∃ (R34 : List Own), ∃ (Φ35 : PW), Stable Φ35 ∧ Ctx W w33 (R34 ++ R31) Φ35 ∧ ∀ (w36 : World) (R37 : List Own), Ctx W w36 (R34 ++ R37) Φ35 → Calls
  Tryz.prog F.store_Store_Scan #[Value.pointer p4, Value.string (ByteArray.mk #[])] w36 fun (e38 : Ending) (w39 : World) => ∃ (p40 : Option Addr), ∃ (k41 : Nat), ∃ (k42 : Nat), e38 =
  Ending.returned (Value.slice p40 k41 k42) ∧ ∃ (R43 : List Own), ∃ (Φ44 : PW), Stable Φ44 ∧ Ctx W w39 (R43 ++ R37) Φ44 ∧ ∀ (w45 : World) (R46 : List Own), Ctx W w45 (R43 ++ R46) Φ44 → Calls
  Tryz.prog F.store_Store_Since #[Value.pointer p4, Value.int IntKind.i64 1] w45 fun (e47 : Ending) (w48 : World) => ∃ (p49 : Option Addr), ∃ (k50 : Nat), ∃ (k51 : Nat), ∃ (n52 : Int), e47 =
  Ending.returned (Value.tuple #[Value.slice p49 k50 k51, Value.int IntKind.i64 n52]) ∧ ∃ (R53 : List Own), ∃ (Φ54 : PW), Stable Φ54 ∧ Ctx W w48 (R53 ++ R46) Φ54 ∧ ∀ (w55 : World) (R56 : List
  Own), Ctx W w55 (R53 ++ R56) Φ54 → Br (decide ((↑k41 : Int) ≠ 1) || decide ((↑k50 : Int) ≠ 2) || decide (n52 ≠ 0)) (∀ (w57 : World) (R58 : List Own), Ctx W w57 (R53 ++ R58) Φ54 → J
  (Value.bool false) w57) (exI fun (I59 : Int → List Own → PW → Nat → Prop) => (∃ (R60 : List Own), ∃ (Φ61 : PW), ∃ (k62 : Nat), Stable Φ61 ∧ (∀ (w63 : World) (R64 : List Own), Ctx W w63 (R53
  ++ R64) Φ54 → Ctx W w63 (R60 ++ R64) Φ61) ∧ I59 0 R60 Φ61 k62) ∧ ∀ (n65 : Int) (R66 : List Own) (I67 : List Nat → World → Prop) (k68 : Nat), Stable I67 → I59 n65 R66 I67 k68 → Br (decide
  (n65 < 32)) (∀ (w69 : World) (R70 : List Own), Ctx W w69 (R66 ++ R70) I67 → Calls Tryz.prog F.erratalaw29_digits #[Value.int IntKind.i64 n65] w69 fun (e71 : Ending) (w72 : World) => ∃ (s73
  : ByteArray), e71 = Ending.returned (Value.string s73) ∧ ∃ (R74 : List Own), ∃ (Φ75 : PW), Stable Φ75 ∧ Ctx W w72 (R74 ++ R70) Φ75 ∧ ∀ (w76 : World) (R77 : List Own), Ctx W w76 (R74 ++ R77)
  Φ75 → Calls Tryz.prog F.store_Store_Put #[Value.pointer p11, Value.string s73, Value.string (ByteArray.mk #[OfNat.ofNat 120])] w76 fun (e78 : Ending) (w79 : World) => e78 = Ending.returned
  (Value.tuple #[]) ∧ ∃ (R80 : List Own), ∃ (Φ81 : PW), Stable Φ81 ∧ Ctx W w79 (R80 ++ R77) Φ81 ∧ I64 (n65 + 1) ∧ ∃ (R82 : List Own), ∃ (Φ83 : PW), ∃ (k84 : Nat), Stable Φ83 ∧ (∀ (w85 :
  World) (R86 : List Own), Ctx W w85 (R80 ++ R86) Φ81 → Ctx W w85 (R82 ++ R86) Φ83) ∧ I59 (n65 + 1) R82 Φ83 k84 ∧ k84 < k68) (∀ (w87 : World) (R88 : List Own), Ctx W w87 (R66 ++ R88) I67 →
  Calls Tryz.prog F.store_Store_Runs #[Value.pointer p11] w87 fun (e89 : Ending) (w90 : World) => ∃ (p91 : Option Addr), ∃ (k92 : Nat), ∃ (k93 : Nat), e89 = Ending.returned (Value.slice p91
  k92 k93) ∧ ∃ (R94 : List Own), ∃ (Φ95 : PW), Stable Φ95 ∧ Ctx W w90 (R94 ++ R88) Φ95 ∧ Br (decide ((↑k92 : Int) ≠ 2)) (∀ (w96 : World) (R97 : List Own), Ctx W w96 (R94 ++ R97) Φ95 → J
  (Value.bool false) w96) (∀ (w98 : World) (R99 : List Own), Ctx W w98 (R94 ++ R99) Φ95 → ((0 : Int) ≤ 0 ∧ 0 < (↑k92 : Int)) ∧ ptrK none p91 fun (k100 k101 : Nat) => ∃ (p102 : Option Addr), ∃
  (k103 : Nat), ∃ (k104 : Nat), w98.cell? (Addr.mk k100 k101 none) = some (Value.slice p102 k103 k104) ∧ ((!decide ((↑k103 : Int) ≠ 0)) = true → (0 : Int) ≤ 1 ∧ 1 < (↑k92 : Int)) ∧ ptrK (some
  !decide ((↑k103 : Int) ≠ 0)) p91 fun (k105 k106 : Nat) => ∃ (p107 : Option Addr), ∃ (k108 : Nat), ∃ (k109 : Nat), ((!decide ((↑k103 : Int) ≠ 0)) = true → w98.cell? (Addr.mk k105 k106.succ
  none) = some (Value.slice p107 k108 k109)) ∧ Br (decide ((↑k103 : Int) ≠ 0) || decide ((↑k108 : Int) ≠ 1)) (∀ (w110 : World) (R111 : List Own), Ctx W w110 (R94 ++ R111) Φ95 → J (Value.bool
  false) w110) (((0 : Int) ≤ 0 ∧ 0 < (↑k41 : Int)) ∧ ptrK none p40 fun (k112 k113 : Nat) => ∀ (w114 : World) (R115 : List Own), Ctx W w114 (R94 ++ R115) Φ95 → ∃ (s116 : ByteArray), ∃ (s117 :
  ByteArray), RowAt w114 k112 k113 [Value.string s116, Value.string s117] ∧ okAgg Tryz.prog 69 = true ∧ Br (decide (s116 = ByteArray.mk #[OfNat.ofNat 98]) && (decide (s117 = ByteArray.mk
  #[OfNat.ofNat 50]) && true)) (∀ (w118 : World) (R119 : List Own), Ctx W w118 (R94 ++ R119) Φ95 → Calls Tryz.prog F.store_Store_Len #[Value.pointer p4] w118 fun (e120 : Ending) (w121 :
  World) => ∃ (n122 : Int), e120 = Ending.returned (Value.int IntKind.i64 n122) ∧ ∃ (R123 : List Own), ∃ (Φ124 : PW), Stable Φ124 ∧ Ctx W w121 (R123 ++ R119) Φ124 ∧ Br (decide (n122 = 1)) (∀
  (w125 : World) (R126 : List Own), Ctx W w125 (R123 ++ R126) Φ124 → Calls Tryz.prog F.store_Store_Versions #[Value.pointer p4] w125 fun (e127 : Ending) (w128 : World) => ∃ (n129 : Int), e127
  = Ending.returned (Value.int IntKind.i64 n129) ∧ ∃ (R130 : List Own), ∃ (Φ131 : PW), Stable Φ131 ∧ Ctx W w128 (R130 ++ R126) Φ131 ∧ Br (decide (n129 = 2)) (∀ (w132 : World) (R133 : List
  Own), Ctx W w132 (R130 ++ R133) Φ131 → Calls Tryz.prog F.store_Store_Seq #[Value.pointer p4] w132 fun (e134 : Ending) (w135 : World) => ∃ (n136 : Int), e134 = Ending.returned (Value.int
  IntKind.i64 n136) ∧ ∃ (R137 : List Own), ∃ (Φ138 : PW), Stable Φ138 ∧ Ctx W w135 (R137 ++ R133) Φ138 ∧ Br (decide (n136 = 3)) (((0 : Int) ≤ 0 ∧ 0 < (↑k50 : Int)) ∧ ptrK none p49 fun (k139
  k140 : Nat) => ∀ (w141 : World) (R142 : List Own), Ctx W w141 (R137 ++ R142) Φ138 → ∃ (n143 : Int), w141.cell? (Addr.mk k139 k140 none) = some (Value.int IntKind.i64 n143) ∧ Br (decide
  (n143 = 2)) (((0 : Int) ≤ 1 ∧ 1 < (↑k92 : Int)) ∧ ptrK none p91 fun (k144 k145 : Nat) => ∀ (w146 : World) (R147 : List Own), Ctx W w146 (R137 ++ R147) Φ138 → ∃ (p148 : Option Addr), ∃ (k149
  : Nat), ∃ (k150 : Nat), w146.cell? (Addr.mk k144 k145.succ none) = some (Value.slice p148 k149 k150) ∧ ((0 : Int) ≤ 0 ∧ 0 < (↑k149 : Int)) ∧ ptrK none p148 fun (k151 k152 : Nat) => ∀ (w153
  : World) (R154 : List Own), Ctx W w153 (R137 ++ R154) Φ138 → ∃ (n155 : Int), w153.cell? (Addr.mk k151 k152 none) = some (Value.int IntKind.i64 n155) ∧ ∀ (w156 : World) (R157 : List Own),
  Ctx W w156 (R137 ++ R157) Φ138 → J (Value.bool (decide (n155 = 32))) w156) (∀ (w158 : World) (R159 : List Own), Ctx W w158 (R137 ++ R159) Φ138 → J (Value.bool false) w158)) (∀ (w160 :
  World) (R161 : List Own), Ctx W w160 (R137 ++ R161) Φ138 → J (Value.bool false) w160)) (∀ (w162 : World) (R163 : List Own), Ctx W w162 (R130 ++ R163) Φ131 → J (Value.bool false) w162)) (∀
  (w164 : World) (R165 : List Own), Ctx W w164 (R123 ++ R165) Φ124 → J (Value.bool false) w164)) (∀ (w166 : World) (R167 : List Own), Ctx W w166 (R94 ++ R167) Φ95 → J (Value.bool false)
  w166))))))

theorem Berratalaw29_small_run  {W w : World} {R : List Own} {Φ : PW} [Stable Φ] {J : Value → World → Prop} (c : Ctx W w R Φ) (h : Berratalaw29_small  W R Φ J) : Calls Tryz.prog F.erratalaw29_small #[] w fun e w' => ∃ v, e = .returned v ∧ J v w' :=
  vcFS_sound (H := { keep := some [0, 1, 2, 3, 4, 5, 6, 7, 15, 40, 42, 53, 65], split := [21], loops := [(13, [(6, .one (.int .i64))], [])] }) (by rw [show vcFS Tryz.prog W { keep := some [0, 1, 2, 3, 4, 5, 6, 7, 15, 40, 42, 53, 65], split := [21], loops := [(13, [(6, .one (.int .i64))], [])] } F.erratalaw29_small #[] R Φ J = Berratalaw29_small  W R Φ J by kernel_rfl]; exact h) c

/-- erratalaw29.few -/
-- loop at region 2: 5 i; blocks 
def Berratalaw29_few (lP : Option Addr) (lN lC : Nat) (n : Int) (W : World) (R : List Own) (Φ : PW) (J : Value → World → Prop) : Prop :=
  exI fun (I0 : Int → List Own → PW → Nat → Prop) => (∃ (R1 : List Own), ∃ (Φ2 : PW), ∃ (k3 : Nat), Stable Φ2 ∧ (∀ (w4 : World) (R5 : List Own), Ctx W w4 (R ++ R5) Φ → Ctx W w4 (R1 ++ R5) Φ2)
  ∧ I0 0 R1 Φ2 k3) ∧ ∀ (n6 : Int) (R7 : List Own) (I8 : List Nat → World → Prop) (k9 : Nat), Stable I8 → I0 n6 R7 I8 k9 → Br (decide (n6 < (↑lN : Int))) (∀ (w10 : World) (R11 : List Own), Ctx
  W w10 (R7 ++ R11) I8 → (0 ≤ n6 ∧ n6 < (↑lN : Int)) ∧ ptrK none lP fun (k12 k13 : Nat) => ∃ (s14 : ByteArray), w10.cell? (Addr.mk k12 (k13 + n6.toNat * 4 + 2) none) = some (Value.string s14)
  ∧ ((!decide (20 < (↑s14.size : Int))) = true → 0 ≤ n6 ∧ n6 < (↑lN : Int)) ∧ ptrK (some !decide (20 < (↑s14.size : Int))) lP fun (k15 k16 : Nat) => ∃ (s17 : ByteArray), ((!decide (20 <
  (↑s14.size : Int))) = true → w10.cell? (Addr.mk k15 (k16 + n6.toNat * 4 + 3) none) = some (Value.string s17)) ∧ Br (decide (20 < (↑s14.size : Int)) || decide (20 < (↑s17.size : Int))) (∀
  (w18 : World) (R19 : List Own), Ctx W w18 (R7 ++ R19) I8 → J (Value.bool false) w18) (I64 (n6 + 1) ∧ ∃ (R20 : List Own), ∃ (Φ21 : PW), ∃ (k22 : Nat), Stable Φ21 ∧ (∀ (w23 : World) (R24 :
  List Own), Ctx W w23 (R7 ++ R24) I8 → Ctx W w23 (R20 ++ R24) Φ21) ∧ I0 (n6 + 1) R20 Φ21 k22 ∧ k22 < k9)) (∀ (w25 : World) (R26 : List Own), Ctx W w25 (R7 ++ R26) I8 → J (Value.bool (decide
  ((↑lN : Int) ≤ n))) w25)

theorem Berratalaw29_few_run (lP : Option Addr) (lN lC : Nat) (n : Int) {W w : World} {R : List Own} {Φ : PW} [Stable Φ] {J : Value → World → Prop} (c : Ctx W w R Φ) (h : Berratalaw29_few lP lN lC n W R Φ J) : Calls Tryz.prog F.erratalaw29_few #[.slice lP lN lC, .int .i64 n] w fun e w' => ∃ v, e = .returned v ∧ J v w' :=
  vcFS_sound (H := { keep := some [0, 1, 4, 5, 9, 27], loops := [(2, [(5, .one (.int .i64))], [])] }) (by rw [show vcFS Tryz.prog W { keep := some [0, 1, 4, 5, 9, 27], loops := [(2, [(5, .one (.int .i64))], [])] } F.erratalaw29_few #[.slice lP lN lC, .int .i64 n] R Φ J = Berratalaw29_few lP lN lC n W R Φ J by kernel_rfl]; exact h) c

/-- store.Restore -/
-- loop at region 5: 6 l; blocks 
-- known blocks: 8 p
def Bstore_Restore (x : ByteArray) (W : World) (R : List Own) (Φ : PW) (J : Value → World → Prop) : Prop :=
  ∀ (w0 : World) (R1 : List Own), Ctx W w0 (R ++ R1) Φ → Calls Tryz.prog F.wire_Open #[Value.string x] w0 fun (e2 : Ending) (w3 : World) => ∃ (p4 : Option Addr), e2 = Ending.returned
  (Value.pointer p4) ∧ ∃ (R5 : List Own), ∃ (Φ6 : PW), Stable Φ6 ∧ Ctx W w3 (R5 ++ R1) Φ6 ∧ ∀ (w7 : World) (R8 : List Own), Ctx W w7 (R5 ++ R8) Φ6 → Calls Tryz.prog F.wire_Reader_Int
  #[Value.pointer p4] w7 fun (e9 : Ending) (w10 : World) => ∃ (n11 : Int), e9 = Ending.returned (Value.int IntKind.i64 n11) ∧ ∃ (R12 : List Own), ∃ (Φ13 : PW), Stable Φ13 ∧ Ctx W w10 (R12 ++
  R8) Φ13 ∧ ∀ (k14 : Nat) (w15 : World) (R16 : List Own), Ctx W w15 (Own.blk k14 [Value.slice none 0 0, Value.slice none 0 0, Value.int IntKind.i64 n11, Value.slice none 0 0, Value.int
  IntKind.i64 0] 77 :: R12 ++ R16) Φ13 → Calls Tryz.prog F.wire_Reader_Num #[Value.pointer p4] w15 fun (e17 : Ending) (w18 : World) => ∃ (n19 : Int), e17 = Ending.returned (Value.int
  IntKind.i64 n19) ∧ ∃ (R20 : List Own), ∃ (Φ21 : PW), Stable Φ21 ∧ Ctx W w18 (R20 ++ R16) Φ21 ∧ exI fun (I22 : Option Addr → Nat → Nat → List Own → PW → Nat → Prop) => (∃ (R23 : List Own), ∃
  (Φ24 : PW), ∃ (k25 : Nat), Stable Φ24 ∧ (∀ (w26 : World) (R27 : List Own), Ctx W w26 (R20 ++ R27) Φ21 → Ctx W w26 (R23 ++ R27) Φ24) ∧ I22 none 0 0 R23 Φ24 k25) ∧ ∀ (p28 : Option Addr) (k29
  k30 : Nat) (R31 : List Own) (I32 : List Nat → World → Prop) (k33 : Nat), Stable I32 → I22 p28 k29 k30 R31 I32 k33 → Br (decide ((↑k29 : Int) < n19)) (∀ (w34 : World) (R35 : List Own), Ctx W
  w34 (R31 ++ R35) I32 → Calls Tryz.prog F.wire_Reader_Text #[Value.pointer p4] w34 fun (e36 : Ending) (w37 : World) => ∃ (s38 : ByteArray), e36 = Ending.returned (Value.string s38) ∧ ∃ (R39
  : List Own), ∃ (Φ40 : PW), Stable Φ40 ∧ Ctx W w37 (R39 ++ R35) Φ40 ∧ ∀ (w41 : World) (R42 : List Own), Ctx W w41 (R39 ++ R42) Φ40 → Calls Tryz.prog F.wire_Reader_Text #[Value.pointer p4]
  w41 fun (e43 : Ending) (w44 : World) => ∃ (s45 : ByteArray), e43 = Ending.returned (Value.string s45) ∧ ∃ (R46 : List Own), ∃ (Φ47 : PW), Stable Φ47 ∧ Ctx W w44 (R46 ++ R42) Φ47 ∧ ∀ (b :
  Nat) (w48 : World) (R49 : List Own), Ctx W w48 (R46 ++ R49) Φ47 → ((!decide (s45 = ByteArray.mk #[]) && decide (0 < (↑k29 : Int))) = true → I64 ((↑k29 : Int) - 1)) ∧ ((!decide (s45 =
  ByteArray.mk #[]) && decide (0 < (↑k29 : Int))) = true → 0 ≤ (↑k29 : Int) - 1 ∧ (↑k29 : Int) - 1 < (↑k29 : Int)) ∧ ptrK (some (!decide (s45 = ByteArray.mk #[]) && decide (0 < (↑k29 :
  Int)))) p28 fun (k50 k51 : Nat) => ∃ (s52 : ByteArray), ((!decide (s45 = ByteArray.mk #[]) && decide (0 < (↑k29 : Int))) = true → w48.cell? (Addr.mk k50 (k51 + ((↑k29 : Int) - 1).toNat * 2)
  none) = some (Value.string s52)) ∧ ∃ (c53 : Bool), ((!decide (s45 = ByteArray.mk #[]) && decide (0 < (↑k29 : Int))) = true → ∀ (w54 : World), Sem.run Tryz.prog (binOp BinOp.geq 9
  (Value.string s52) (Value.string s38)) w54 = Result.ok (Value.bool c53) w54) ∧ Br (decide (s45 = ByteArray.mk #[]) || decide (0 < (↑k29 : Int)) && c53) (∀ (w55 : World) (R56 : List Own),
  Ctx W w55 (R46 ++ R56) Φ47 → J (Value.tuple #[Value.pointer none, Value.bool false]) w55) (∀ (k57 : Nat) (w58 : World) (R59 : List Own), Ctx W w58 (Own.blk k57 [Value.string s38,
  Value.string s45] 69 :: R46 ++ R59) Φ47 → ∃ (p60 : Option Addr), ∃ (k61 : Nat), ∃ (k62 : Nat), ∃ (w63 : World), Sem.run Tryz.prog (builtin Builtin.append #[74, 74] 74 #[false, false]
  #[Value.slice p28 k29 k30, Value.slice (some (Addr.mk k57 0 none)) 1 1]) w58 = Result.ok (Next.value (Value.slice p60 k61 k62)) w63 ∧ ∃ (R64 : List Own), ∃ (Φ65 : PW), Stable Φ65 ∧ Ctx W
  w63 (R64 ++ R59) Φ65 ∧ ∃ (R66 : List Own), ∃ (Φ67 : PW), ∃ (k68 : Nat), Stable Φ67 ∧ (∀ (w69 : World) (R70 : List Own), Ctx W w69 (R64 ++ R70) Φ65 → Ctx W w69 (R66 ++ R70) Φ67) ∧ I22 p60
  k61 k62 R66 Φ67 k68 ∧ k68 < k33)) (∀ (w71 : World) (R72 : List Own), Ctx W w71 (R31 ++ R72) I32 → Calls Tryz.prog F.wire_Reader_Done #[Value.pointer p4] w71 fun (e73 : Ending) (w74 : World)
  => ∃ (c75 : Bool), e73 = Ending.returned (Value.bool c75) ∧ ∃ (R76 : List Own), ∃ (Φ77 : PW), Stable Φ77 ∧ Ctx W w74 (R76 ++ R72) Φ77 ∧ Br (!c75) (∀ (w78 : World) (R79 : List Own), Ctx W
  w78 (R76 ++ R79) Φ77 → J (Value.tuple #[Value.pointer none, Value.bool false]) w78) (∀ (w80 : World) (R81 : List Own), Ctx W w80 (R76 ++ R81) Φ77 → ∃ (n82 : Int), w80.cell? (Addr.mk k14 2
  none) = some (Value.int IntKind.i64 n82) ∧ Br (decide (n82 < 0)) (∀ (w83 : World) (R84 : List Own), Ctx W w83 (R76 ++ R84) Φ77 → J (Value.tuple #[Value.pointer none, Value.bool false]) w83)
  (∀ (w85 : World) (R86 : List Own), Ctx W w85 (R76 ++ R86) Φ77 → ∃ (n87 : Int), w85.cell? (Addr.mk k14 2 none) = some (Value.int IntKind.i64 n87) ∧ Br (decide (1099511627776 < n87)) (∀ (w88
  : World) (R89 : List Own), Ctx W w88 (R76 ++ R89) Φ77 → J (Value.tuple #[Value.pointer none, Value.bool false]) w88) (∀ (w90 : World) (R91 : List Own), Ctx W w90 (R76 ++ R91) Φ77 → ∃ (n92 :
  Int), w90.cell? (Addr.mk k14 2 none) = some (Value.int IntKind.i64 n92) ∧ ∀ (w93 : World) (R94 : List Own), Ctx W w93 (R76 ++ R94) Φ77 → CanWrite w93 k14 4 1 ∧ ∀ (w95 : World), w95 =
  w93.setCell (Addr.mk k14 4 none) (Value.int IntKind.i64 n92) → ∃ (R96 : List Own), ∃ (Φ97 : PW), Stable Φ97 ∧ Ctx W w95 (R96 ++ R94) Φ97 ∧ ∀ (w98 : World) (R99 : List Own), Ctx W w98 (R96
  ++ R99) Φ97 → Calls Tryz.prog F.store_Store_add #[Value.pointer (some (Addr.mk k14 0 none)), Value.int IntKind.i64 1, Value.slice p28 k29 k30] w98 fun (e100 : Ending) (w101 : World) => e100
  = Ending.returned (Value.tuple #[]) ∧ ∃ (R102 : List Own), ∃ (Φ103 : PW), Stable Φ103 ∧ Ctx W w101 (R102 ++ R99) Φ103 ∧ ∀ (w104 : World) (R105 : List Own), Ctx W w104 (R102 ++ R105) Φ103 →
  J (Value.tuple #[Value.pointer (some (Addr.mk k14 0 none)), Value.bool true]) w104))))

theorem Bstore_Restore_run (x : ByteArray) {W w : World} {R : List Own} {Φ : PW} [Stable Φ] {J : Value → World → Prop} (c : Ctx W w R Φ) (h : Bstore_Restore x W R Φ J) : Calls Tryz.prog F.store_Restore #[.string x] w fun e w' => ∃ v, e = .returned v ∧ J v w' :=
  vcFS_sound (H := { keep := some [0, 2, 3, 4, 5, 6, 7, 8, 20, 45, 66], track := [8], split := [10], loops := [(5, [(6, .one (.slice))], [])] }) (by rw [show vcFS Tryz.prog W { keep := some [0, 2, 3, 4, 5, 6, 7, 8, 20, 45, 66], track := [8], split := [10], loops := [(5, [(6, .one (.slice))], [])] } F.store_Restore #[.string x] R Φ J = Bstore_Restore x W R Φ J by kernel_rfl]; exact h) c

/-- (*store.Store).Snapshot -/
-- loop at region 5: 21 ; blocks 
-- known blocks: 6 p
def Bstore_Store_Snapshot (sB sO : Nat) (W : World) (R : List Own) (Φ : PW) (J : Value → World → Prop) : Prop :=
  ∀ (w0 : World) (R1 : List Own), Ctx W w0 (R ++ R1) Φ → Calls Tryz.prog F.store_Store_Scan #[Value.pointer (some (Addr.mk sB sO none)), Value.string (ByteArray.mk #[])] w0 fun (e2 : Ending)
  (w3 : World) => ∃ (p4 : Option Addr), ∃ (k5 : Nat), ∃ (k6 : Nat), e2 = Ending.returned (Value.slice p4 k5 k6) ∧ ∃ (R7 : List Own), ∃ (Φ8 : PW), Stable Φ8 ∧ Ctx W w3 (R7 ++ R1) Φ8 ∧ ∀ (k9 :
  Nat) (w10 : World) (R11 : List Own), Ctx W w10 (Own.blk k9 [Value.pointer none, Value.slice none 0 0] 89 :: R7 ++ R11) Φ8 → ∃ (n12 : Int), w10.cell? (Addr.mk sB (sO + 2) none) = some
  (Value.int IntKind.i64 n12) ∧ ∀ (w13 : World) (R14 : List Own), Ctx W w13 (Own.blk k9 [Value.pointer none, Value.slice none 0 0] 89 :: R7 ++ R14) Φ8 → Calls Tryz.prog F.wire_Int #[Value.int
  IntKind.i64 n12] w13 fun (e15 : Ending) (w16 : World) => ∃ (s17 : ByteArray), e15 = Ending.returned (Value.string s17) ∧ ∃ (R18 : List Own), ∃ (Φ19 : PW), Stable Φ19 ∧ Ctx W w16 (R18 ++
  R14) Φ19 ∧ ∀ (w20 : World) (R21 : List Own), Ctx W w20 (R18 ++ R21) Φ19 → Calls Tryz.prog F.wire_Num #[Value.int IntKind.i64 (↑k5 : Int)] w20 fun (e22 : Ending) (w23 : World) => ∃ (s24 :
  ByteArray), e22 = Ending.returned (Value.string s24) ∧ ∃ (R25 : List Own), ∃ (Φ26 : PW), Stable Φ26 ∧ Ctx W w23 (R25 ++ R21) Φ26 ∧ (s17.size + s24.size).le 9223372036854775807 ∧ ∀ (w27 :
  World) (R28 : List Own), Ctx W w27 (R25 ++ R28) Φ26 → Calls Tryz.prog F.strings_Builder_WriteString #[Value.pointer (some (Addr.mk k9 0 none)), Value.string (s17 ++ s24)] w27 fun (e29 :
  Ending) (w30 : World) => ∃ (n31 : Int), ∃ (v32 : Value), e29 = Ending.returned (Value.tuple #[Value.int IntKind.i64 n31, v32]) ∧ ∃ (R33 : List Own), ∃ (Φ34 : PW), Stable Φ34 ∧ Ctx W w30
  (R33 ++ R28) Φ34 ∧ exI fun (I35 : Int → List Own → PW → Nat → Prop) => (∃ (R36 : List Own), ∃ (Φ37 : PW), ∃ (k38 : Nat), Stable Φ37 ∧ (∀ (w39 : World) (R40 : List Own), Ctx W w39 (R33 ++
  R40) Φ34 → Ctx W w39 (R36 ++ R40) Φ37) ∧ I35 0 R36 Φ37 k38) ∧ ∀ (n41 : Int) (R42 : List Own) (I43 : List Nat → World → Prop) (k44 : Nat), Stable I43 → I35 n41 R42 I43 k44 → Br (decide (n41
  < (↑k5 : Int))) ((0 ≤ n41 ∧ n41 < (↑k5 : Int)) ∧ ptrK none p4 fun (k45 k46 : Nat) => ∀ (w47 : World) (R48 : List Own), Ctx W w47 (R42 ++ R48) I43 → ∃ (s49 : ByteArray), ∃ (s50 : ByteArray),
  RowAt w47 k45 (k46 + n41.toNat * 2) [Value.string s49, Value.string s50] ∧ ∀ (b : Nat), ∃ (R51 : List Own), ∃ (Φ52 : PW), Stable Φ52 ∧ (∀ (w53 : World) (R54 : List Own), Ctx W w53 (R42 ++
  R54) I43 → Ctx W w53 (R51 ++ R54) Φ52) ∧ ∀ (w55 : World) (R56 : List Own), Ctx W w55 (R42 ++ R56) I43 → Calls Tryz.prog F.wire_Text #[Value.string s49] w55 fun (e57 : Ending) (w58 : World)
  => ∃ (s59 : ByteArray), e57 = Ending.returned (Value.string s59) ∧ ∃ (R60 : List Own), ∃ (Φ61 : PW), Stable Φ61 ∧ Ctx W w58 (R60 ++ R56) Φ61 ∧ (∀ (w62 : World) (R63 : List Own), Ctx W w62
  (R60 ++ R63) Φ61 → Ctx W w62 (R51 ++ R63) Φ52) ∧ ∀ (w64 : World) (R65 : List Own), Ctx W w64 (R60 ++ R65) Φ61 → Calls Tryz.prog F.wire_Text #[Value.string s50] w64 fun (e66 : Ending) (w67 :
  World) => ∃ (s68 : ByteArray), e66 = Ending.returned (Value.string s68) ∧ ∃ (R69 : List Own), ∃ (Φ70 : PW), Stable Φ70 ∧ Ctx W w67 (R69 ++ R65) Φ70 ∧ (s59.size + s68.size).le
  9223372036854775807 ∧ ∀ (w71 : World) (R72 : List Own), Ctx W w71 (R69 ++ R72) Φ70 → Calls Tryz.prog F.strings_Builder_WriteString #[Value.pointer (some (Addr.mk k9 0 none)), Value.string
  (s59 ++ s68)] w71 fun (e73 : Ending) (w74 : World) => ∃ (n75 : Int), ∃ (v76 : Value), e73 = Ending.returned (Value.tuple #[Value.int IntKind.i64 n75, v76]) ∧ ∃ (R77 : List Own), ∃ (Φ78 :
  PW), Stable Φ78 ∧ Ctx W w74 (R77 ++ R72) Φ78 ∧ I64 (n41 + 1) ∧ ∃ (R79 : List Own), ∃ (Φ80 : PW), ∃ (k81 : Nat), Stable Φ80 ∧ (∀ (w82 : World) (R83 : List Own), Ctx W w82 (R77 ++ R83) Φ78 →
  Ctx W w82 (R79 ++ R83) Φ80) ∧ I35 (n41 + 1) R79 Φ80 k81 ∧ k81 < k44) (∀ (w84 : World) (R85 : List Own), Ctx W w84 (R42 ++ R85) I43 → Calls Tryz.prog F.strings_Builder_String #[Value.pointer
  (some (Addr.mk k9 0 none))] w84 fun (e86 : Ending) (w87 : World) => ∃ (s88 : ByteArray), e86 = Ending.returned (Value.string s88) ∧ ∃ (R89 : List Own), ∃ (Φ90 : PW), Stable Φ90 ∧ Ctx W w87
  (R89 ++ R85) Φ90 ∧ ∀ (w91 : World) (R92 : List Own), Ctx W w91 (R89 ++ R92) Φ90 → J (Value.string s88) w91)

theorem Bstore_Store_Snapshot_run (sB sO : Nat) {W w : World} {R : List Own} {Φ : PW} [Stable Φ] {J : Value → World → Prop} (c : Ctx W w R Φ) (h : Bstore_Store_Snapshot sB sO W R Φ J) : Calls Tryz.prog F.store_Store_Snapshot #[.pointer (some ⟨sB, sO, none⟩)] w fun e w' => ∃ v, e = .returned v ∧ J v w' :=
  vcFS_sound (H := { keep := some [0, 2, 3, 4, 6, 19, 20, 21, 22], track := [6], stages := [(7, [.held [(0, true), (3, true), (1, true), (4, true), (2, false)], .stage [] (some 5), .stage [6] (some 7)])], loops := [(5, [(21, .one (.int .i64))], [])] }) (by rw [show vcFS Tryz.prog W { keep := some [0, 2, 3, 4, 6, 19, 20, 21, 22], track := [6], stages := [(7, [.held [(0, true), (3, true), (1, true), (4, true), (2, false)], .stage [] (some 5), .stage [6] (some 7)])], loops := [(5, [(21, .one (.int .i64))], [])] } F.store_Store_Snapshot #[.pointer (some ⟨sB, sO, none⟩)] R Φ J = Bstore_Store_Snapshot sB sO W R Φ J by kernel_rfl]; exact h) c

/-- erratalaw29.do -/
-- known blocks: 3 x
def Berratalaw29_do (sB sO : Nat) (x0 : Int) (x1 : Int) (x2 : ByteArray) (x3 : ByteArray) (W : World) (R : List Own) (Φ : PW) (J : Value → World → Prop) : Prop :=
  ∀ (b : Nat), ∃ (n0 : Int), (∀ (w1 : World), Sem.run Tryz.prog (binOp BinOp.and 3 (Value.int IntKind.i64 x0) (Value.int IntKind.i64 7)) w1 = Result.ok (Value.int IntKind.i64 n0) w1) ∧ Br
  (decide (n0 = 5)) (∀ (w2 : World) (R3 : List Own), Ctx W w2 (R ++ R3) Φ → Calls Tryz.prog F.store_Store_Trim #[Value.pointer (some (Addr.mk sB sO none)), Value.int IntKind.i64 x1] w2 fun
  (e4 : Ending) (w5 : World) => e4 = Ending.returned (Value.tuple #[]) ∧ ∃ (R6 : List Own), ∃ (Φ7 : PW), Stable Φ7 ∧ Ctx W w5 (R6 ++ R3) Φ7 ∧ ∀ (w8 : World) (R9 : List Own), Ctx W w8 (R6 ++
  R9) Φ7 → J (Value.tuple #[Value.pointer (some (Addr.mk sB sO none)), Value.int IntKind.i64 0]) w8) (Br (decide (n0 = 6)) (∀ (w10 : World) (R11 : List Own), Ctx W w10 (R ++ R11) Φ → Calls
  Tryz.prog F.store_Store_Apply #[Value.pointer (some (Addr.mk sB sO none)), Value.agg #[Value.int IntKind.i64 x1, Value.string x2, Value.string x3]] w10 fun (e12 : Ending) (w13 : World) => ∃
  (n14 : Int), e12 = Ending.returned (Value.int IntKind.i64 n14) ∧ ∃ (R15 : List Own), ∃ (Φ16 : PW), Stable Φ16 ∧ Ctx W w13 (R15 ++ R11) Φ16 ∧ ∀ (w17 : World) (R18 : List Own), Ctx W w17 (R15
  ++ R18) Φ16 → J (Value.tuple #[Value.pointer (some (Addr.mk sB sO none)), Value.int IntKind.i64 n14]) w17) (Br (decide (n0 = 7)) (∃ (n19 : Int), (∀ (w20 : World), Sem.run Tryz.prog (binOp
  BinOp.and 3 (Value.int IntKind.i64 x1) (Value.int IntKind.i64 1)) w20 = Result.ok (Value.int IntKind.i64 n19) w20) ∧ Br (decide (n19 = 0)) (∀ (w21 : World) (R22 : List Own), Ctx W w21 (R ++
  R22) Φ → Calls Tryz.prog F.store_Store_Copy #[Value.pointer (some (Addr.mk sB sO none))] w21 fun (e23 : Ending) (w24 : World) => ∃ (p25 : Option Addr), e23 = Ending.returned (Value.pointer
  p25) ∧ ∃ (R26 : List Own), ∃ (Φ27 : PW), Stable Φ27 ∧ Ctx W w24 (R26 ++ R22) Φ27 ∧ ∀ (w28 : World) (R29 : List Own), Ctx W w28 (R26 ++ R29) Φ27 → J (Value.tuple #[Value.pointer p25,
  Value.int IntKind.i64 0]) w28) (∀ (w30 : World) (R31 : List Own), Ctx W w30 (R ++ R31) Φ → Calls Tryz.prog F.store_Store_Snapshot #[Value.pointer (some (Addr.mk sB sO none))] w30 fun (e32 :
  Ending) (w33 : World) => ∃ (s34 : ByteArray), e32 = Ending.returned (Value.string s34) ∧ ∃ (R35 : List Own), ∃ (Φ36 : PW), Stable Φ36 ∧ Ctx W w33 (R35 ++ R31) Φ36 ∧ ∀ (w37 : World) (R38 :
  List Own), Ctx W w37 (R35 ++ R38) Φ36 → Calls Tryz.prog F.store_Restore #[Value.string s34] w37 fun (e39 : Ending) (w40 : World) => ∃ (p41 : Option Addr), ∃ (c42 : Bool), e39 =
  Ending.returned (Value.tuple #[Value.pointer p41, Value.bool c42]) ∧ ∃ (R43 : List Own), ∃ (Φ44 : PW), Stable Φ44 ∧ Ctx W w40 (R43 ++ R38) Φ44 ∧ Br (!c42) (∀ (w45 : World) (R46 : List Own),
  Ctx W w45 (R43 ++ R46) Φ44 → J (Value.tuple #[Value.pointer none, Value.int IntKind.i64 0]) w45) (∀ (w47 : World) (R48 : List Own), Ctx W w47 (R43 ++ R48) Φ44 → J (Value.tuple
  #[Value.pointer p41, Value.int IntKind.i64 0]) w47))) (∀ (w49 : World) (R50 : List Own), Ctx W w49 (R ++ R50) Φ → Calls Tryz.prog F.store_Store_Put #[Value.pointer (some (Addr.mk sB sO
  none)), Value.string x2, Value.string x3] w49 fun (e51 : Ending) (w52 : World) => e51 = Ending.returned (Value.tuple #[]) ∧ ∃ (R53 : List Own), ∃ (Φ54 : PW), Stable Φ54 ∧ Ctx W w52 (R53 ++
  R50) Φ54 ∧ ∀ (w55 : World) (R56 : List Own), Ctx W w55 (R53 ++ R56) Φ54 → J (Value.tuple #[Value.pointer (some (Addr.mk sB sO none)), Value.int IntKind.i64 0]) w55)))

theorem Berratalaw29_do_run (sB sO : Nat) (x0 : Int) (x1 : Int) (x2 : ByteArray) (x3 : ByteArray) {W w : World} {R : List Own} {Φ : PW} [Stable Φ] {J : Value → World → Prop} (c : Ctx W w R Φ) (h : Berratalaw29_do sB sO x0 x1 x2 x3 W R Φ J) : Calls Tryz.prog F.erratalaw29_do #[.pointer (some ⟨sB, sO, none⟩), .agg #[.int .i64 x0, .int .i64 x1, .string x2, .string x3]] w fun e w' => ∃ v, e = .returned v ∧ J v w' :=
  vcFS_sound (H := { keep := some [0, 3, 4, 5, 6, 7, 10, 17, 23, 35, 40, 50], track := [3] }) (by rw [show vcFS Tryz.prog W { keep := some [0, 3, 4, 5, 6, 7, 10, 17, 23, 35, 40, 50], track := [3] } F.erratalaw29_do #[.pointer (some ⟨sB, sO, none⟩), .agg #[.int .i64 x0, .int .i64 x1, .string x2, .string x3]] R Φ J = Berratalaw29_do sB sO x0 x1 x2 x3 W R Φ J by kernel_rfl]; exact h) c

/-- erratalaw29.digits -/
def Berratalaw29_digits (n : Int) (W : World) (R : List Own) (Φ : PW) (J : Value → World → Prop) : Prop :=
  ((10 : Int) = 0 → False) ∧ I64 (n.tdiv 10) ∧ ((10 : Int) = 0 → False) ∧ I64 (48 + (n.tdiv 10).tmod 10) ∧ ((10 : Int) = 0 → False) ∧ I64 (48 + n.tmod 10) ∧ ∀ (k0 : Nat) (w1 : World) (R2 :
  List Own), Ctx W w1 (Own.blk k0 [Value.int IntKind.u8 (IntKind.u8.wrap (48 + (n.tdiv 10).tmod 10)), Value.int IntKind.u8 (IntKind.u8.wrap (48 + n.tmod 10))] 5 :: R ++ R2) Φ → ∃ (s3 :
  ByteArray), ∃ (w4 : World), Sem.run Tryz.prog (convert 87 9 (Value.slice (some (Addr.mk k0 0 none)) 2 2)) w1 = Result.ok (Value.string s3) w4 ∧ ∃ (R5 : List Own), ∃ (Φ6 : PW), Stable Φ6 ∧
  Ctx W w4 (R5 ++ R2) Φ6 ∧ ∀ (w7 : World) (R8 : List Own), Ctx W w7 (R5 ++ R8) Φ6 → J (Value.string s3) w7

theorem Berratalaw29_digits_run (n : Int) {W w : World} {R : List Own} {Φ : PW} [Stable Φ] {J : Value → World → Prop} (c : Ctx W w R Φ) (h : Berratalaw29_digits n W R Φ J) : Calls Tryz.prog F.erratalaw29_digits #[.int .i64 n] w fun e w' => ∃ v, e = .returned v ∧ J v w' :=
  vcFS_sound (H := { keep := some [0, 2] }) (by rw [show vcFS Tryz.prog W { keep := some [0, 2] } F.erratalaw29_digits #[.int .i64 n] R Φ J = Berratalaw29_digits n W R Φ J by kernel_rfl]; exact h) c

end Go.Proofs.YtebnciehcnedjaaGreatDoor
end

/-
  Snapshot, walked.
-/
section
set_option linter.unusedVariables false
set_option linter.unusedSimpArgs false
namespace Go.Proofs.YtebnciehcnedjaaGreatDoor
open Go.Vc


def pairL (x : PairD) : List UInt8 := (textB x.key ++ textB x.val).data.toList
def pairsL (l : Run) : List UInt8 := l.flatMap pairL
def headL (seq : Int) (n : Nat) : List UInt8 := (intB seq ++ natB n).data.toList
def snapL (seq : Int) (l : Run) : List UInt8 := headL seq l.length ++ pairsL l
def snapB (s : StD) : ByteArray := ⟨(snapL s.seq (scanS s tE)).toArray⟩
abbrev Fit1 (l : Run) : Prop := ∀ x ∈ l, x.key.size ≤ 1000 ∧ x.val.size ≤ 1000

theorem pairsL_app (a b : Run) : pairsL (a ++ b) = pairsL a ++ pairsL b := List.flatMap_append
theorem pairsL_one (x : PairD) : pairsL [x] = pairL x := by simp [pairsL]
theorem pairL_len {x : PairD} (h : x.key.size ≤ 1000 ∧ x.val.size ≤ 1000) : (pairL x).length ≤ 2044 := by
  have h1 := textB_size (s := x.key) (by omega)
  have h2 := textB_size (s := x.val) (by omega)
  unfold pairL
  rw [list_size, size_app]
  omega
theorem pairsL_len : ∀ {l : Run}, Fit1 l → (pairsL l).length ≤ l.length * 2044
  | [], _ => by simp [pairsL]
  | x :: l, h => by
    have h1 := pairL_len (h x (by simp))
    have h2 := pairsL_len (l := l) fun y hy => h y (by simp [hy])
    rw [show x :: l = [x] ++ l from rfl, pairsL_app, pairsL_one, List.length_append, List.length_append]
    simp only [List.length_cons, List.length_nil]
    omega
theorem pairsL_pre {l : Run} (h : Fit1 l) (hl : l.length ≤ 1000000) (i : Nat) : (pairsL (l.take i)).length ≤ 2044000000 := by
  have h1 := pairsL_len (l := l.take i) fun y hy => h y (List.mem_of_mem_take hy)
  rw [List.length_take] at h1
  omega
theorem headL_len {seq : Int} (h : I64 seq) {n : Nat} (hn : n ≤ 1000000) : (headL seq n).length ≤ 42 := by
  have h1 := intB_size h
  have h2 := natB_size (n := n) (by unfold I64; omega)
  unfold headL
  rw [list_size, size_app]
  omega

section
variable {Φ : PW} {q : TO} {s : StD}
set_option maxHeartbeats 1000000 in
theorem Snapshot_in [Stable Φ] [hΦ : Has Φ (StR q s)] (hT : ∀ M w, Φ M w → TabI M w) (hC : StC q s) (hn : s.levels.length ≤ 900000) (hl : s.levels.flatten.length ≤ 900000) (hv : (verP s).length ≤ 1000000) (hz : Fit1 (verP s)) (hs : I64 s.seq) :
    GivesIn Φ Tryz.prog F.store_Store_Snapshot #[.pointer (some ⟨q.sb, 0, none⟩)] (.string (snapB s)) := by
  have hz1 : Szs (verP s) := fun x hx => by have := hz x hx; unfold maxLen; omega
  obtain ⟨l, hL⟩ : ∃ l, scanS s tE = l := ⟨_, rfl⟩
  have hsub : l.length ≤ (verP s).length ∧ Fit1 l := by
    have h1 : (scanS s tE).length ≤ (verP s).length := Nat.le_trans (List.length_filter_le _ _) (Nat.le_trans (List.length_filter_le _ _) (normK_len _))
    rw [hL] at h1
    refine ⟨h1, fun x hx => hz x ?_⟩
    rw [← hL] at hx
    exact normK_mem x (List.mem_filter.1 (List.mem_filter.1 hx).1).1
  have hll : l.length ≤ 1000000 := by omega
  have hpre := pairsL_pre hsub.2 hll
  have hhd := headL_len hs hll
  refine gives_in (Bstore_Store_Snapshot_run q.sb 0) fun W R => fun w G cx => ?_
  refine (Scan_sl (pre := tE) hC hn hl (by omega) hz1 (by show 0 ≤ _; omega)).use cx fun p c w g1 g2 cx => ?_
  have hth := cx.phi.2.there
  rw [hL] at cx hth ⊢
  have st : Stable (fun M w => Φ M w ∧ Sl M w p l) := instStableAnd Φ (fun M w => Sl M w p l)
  obtain ⟨Φ1, hΦ1⟩ : ∃ Φ1 : PW, Φ1 = (fun M w => Φ M w ∧ Sl M w p l) := ⟨_, rfl⟩
  rw [← hΦ1] at cx st
  have r1 : ∀ M w, Φ1 M w → Φ M w := fun M w h => by rw [hΦ1] at h; exact h.1
  have r2 : ∀ M w, Φ1 M w → Sl M w p l := fun M w h => by rw [hΦ1] at h; exact h.2
  have hT1 : ∀ M w, Φ1 M w → TabI M w := fun M w h => hT M w (r1 M w h)
  refine ⟨p, _, c, rfl, R, Φ1, st, cx, fun b w G cx => ⟨s.seq, (hΦ.go _ _ (r1 _ _ cx.phi)).1.2.1 2 (by show 2 < 5; decide), fun w G cx => ?_⟩⟩
  have hi1 := intB_size hs
  have hn1 := natB_size (n := l.length) (by unfold I64; omega)
  refine (Int_in (.inl ⟨hT1, hs⟩)).use cx fun w cx => ⟨_, rfl, .blk b [.pointer none, .slice none 0 0] 89 :: R, Φ1, st, cx, fun w G cx => ?_⟩
  refine (Num_in (.inl ⟨hT1, by unfold I64; omega⟩)).use cx fun w cx => ⟨_, rfl, .blk b [.pointer none, .slice none 0 0] 89 :: R, Φ1, st, cx, by show (intB s.seq).size + (natB l.length).size ≤ _; omega, fun w G cx => ?_⟩
  refine WriteString_use (intB s.seq ++ natB l.length) Bd.nil (Bd.fresh cx) (by rw [size_app]; simp only [List.length_nil]; omega) fun R1 w hB cx => ⟨_, _, rfl, R1 ++ R, Φ1, st, by rw [List.append_assoc]; exact cx, ?_⟩
  rw [List.nil_append] at hB
  clear cx
  refine exI_mk (fun iI R' Φ' k => ∃ (i : Nat) (Q : List Own), iI = i ∧ i ≤ l.length ∧ BdT b (headL s.seq l.length ++ pairsL (l.take i)) Q ∧ R' = Q ++ R ∧ Φ' = Φ1 ∧ k = l.length - i) ⟨⟨_, Φ1, _, st, fun w G cx => cx, 0, R1, rfl, Nat.zero_le _, by rw [List.take_zero, show pairsL [] = [] from rfl, List.append_nil]; exact hB, rfl, rfl, rfl⟩, ?_⟩
  rintro iI R2 Φ2 k _ ⟨i, Q, rfl, hi, hQ, rfl, rfl, rfl⟩
  refine Br.intro (fun hlt => ?_) (fun hge => fun w G cx => ?_)
  · have hlt : i < l.length := by have := of_decide_eq_true hlt; omega
    obtain ⟨g, o, rfl⟩ := hth (by omega)
    have hx := hsub.2 _ (List.getElem_mem hlt)
    have hk1 := textB_size (s := l[i].key) (by omega)
    have hk2 := textB_size (s := l[i].val) (by omega)
    have hstep : pairsL (l.take (i + 1)) = pairsL (l.take i) ++ pairL l[i] := by rw [List.take_succ_eq_append_getElem hlt, pairsL_app, pairsL_one]
    have hp1 := hpre i
    have any : ∀ {w : World} {R G : List Own} {Ψ : PW} [Stable Ψ], Ctx W w (R ++ G) Ψ → Ctx W w ([] ++ G) (fun _ _ => True) := fun cx => (Ctx.right cx).weak fun _ _ _ => trivial
    refine ⟨by omega, ptrK_intro g o rfl fun w G cx => ⟨l[i].key, l[i].val, by rw [Int.toNat_natCast]; exact sl_pair (r2 _ _ cx.phi) hlt, fun _ => ⟨[], fun _ _ => True, inferInstance, fun w G cx => any cx, fun w G cx => ?_⟩⟩⟩
    refine (Text_in (.inl ⟨hT1, by unfold I64; omega⟩) (by omega)).use cx fun w cx => ⟨_, rfl, Q ++ R, Φ2, inferInstance, cx, fun w G cx => any cx, fun w G cx => ?_⟩
    refine (Text_in (.inl ⟨hT1, by unfold I64; omega⟩) (by omega)).use cx fun w cx => ⟨_, rfl, Q ++ R, Φ2, inferInstance, cx, by show (textB l[i].key).size + (textB l[i].val).size ≤ _; omega, fun w G cx => ?_⟩
    refine WriteString_use (textB l[i].key ++ textB l[i].val) hQ (cx.re (List.append_assoc _ _ _)) (by rw [List.length_append, size_app]; omega) fun Q' w hQ' cx => ⟨_, _, rfl, Q' ++ R, Φ2, inferInstance, by rw [List.append_assoc]; exact cx, by unfold I64; omega, _, Φ2, l.length - (i + 1), inferInstance, fun w G cx => cx, ⟨i + 1, Q', by omega, hlt, ?_, rfl, rfl, rfl⟩, by omega⟩
    rw [hstep, ← List.append_assoc]; exact hQ'
  · have hge : i = l.length := by have := of_decide_eq_false hge; omega
    subst hge
    rw [List.take_length] at hQ
    exact String_use hQ (cx.re (List.append_assoc _ _ _)) fun w cx => ⟨_, rfl, R, Φ2, inferInstance, cx, fun w G cx => ⟨by unfold snapB; rw [hL]; rfl, cx.left.weak r1⟩⟩
end
end Go.Proofs.YtebnciehcnedjaaGreatDoor
end

/-
  Restore, walked.
-/
section
set_option linter.unusedVariables false
set_option linter.unusedSimpArgs false
namespace Go.Proofs.YtebnciehcnedjaaGreatDoor
open Go.Vc


theorem geq_run (a b : ByteArray) (t : TypeId) (w : World) : Sem.run Tryz.prog (binOp BinOp.geq t (.string a) (.string b)) w = .ok (.bool (decide (0 ≤ cmpT a b))) w := by
  have e : binOp .geq t (.string a) (.string b) = pure (.bool !(Op.bytesLess a.toList b.toList)) := by simp [binOp, Op.stringOp]
  rw [e, Sem.run_pure]
  have h1 : Op.bytesLess a.toList b.toList = decide (cmpT a b < 0) := bl_cmp a b
  rw [h1]
  congr 2
  by_cases h : cmpT a b < 0
  · rw [decide_eq_true h, decide_eq_false (show ¬ 0 ≤ cmpT a b by omega)]; rfl
  · rw [decide_eq_false h, decide_eq_true (show 0 ≤ cmpT a b by omega)]; rfl

abbrev keyT (st : RdS) : ByteArray := (stepT st).1
abbrev valT (st : RdS) : ByteArray := (stepT (stepT st).2).1
abbrev nextT (st : RdS) : RdS := (stepT (stepT st).2).2
def lastKey (acc : Run) : ByteArray := (acc.getLast?.map PairD.key).getD tE
def stopB (acc : Run) (st : RdS) : Bool := decide (valT st = tE) || (decide ((0 : Int) < acc.length) && decide (0 ≤ cmpT (lastKey acc) (keyT st)))
def pairsK : Nat → RdS → Run → Option (Run × RdS)
  | 0, st, acc => some (acc, st)
  | k + 1, st, acc => if stopB acc st = true then none else pairsK k (nextT st) (acc ++ [⟨keyT st, valT st⟩])
def restS (n : Int) (ps : Run) : StD := ⟨[], addAt 1 [] ps, n, [], n⟩
def restL (l : List UInt8) : Option StD :=
  match pairsK (rdNat (rdInt (l, false)).2).1.toNat (rdNat (rdInt (l, false)).2).2 [] with
  | none => none
  | some (ps, st) => if (rdDone st = true ∧ 0 ≤ (rdInt (l, false)).1) ∧ (rdInt (l, false)).1 ≤ 1099511627776 then some (restS (rdInt (l, false)).1 ps) else none

theorem stepT_eats (st : RdS) : (stepT st).1.data.toList = [] ∨ (stepT st).2.1.length + 3 + (stepT st).1.size ≤ st.1.length := by
  unfold stepT
  simp only
  split
  · exact .inl rfl
  · rename_i h
    by_cases hc : (stepC 44 ((stepN 58 0 st).2.1.drop (stepN 58 0 st).1.toNat, (stepN 58 0 st).2.2)).2 = true
    · left
      rw [if_pos hc]
    · right
      simp only
      rw [if_neg hc, bs_size, List.length_take]
      unfold stepN at hc ⊢
      split at hc
      · rename_i n r hn
        obtain ⟨⟨h1, _⟩, h2⟩ := (numP_iff (.inl rfl)).1 hn
        have := itoa_len h1
        simp only at hc ⊢
        unfold stepC at hc ⊢
        simp only at hc ⊢
        split at hc
        · exact absurd rfl hc
        · rename_i x r2 hx
          have hlen := congrArg List.length hx
          rw [List.length_drop, List.length_cons] at hlen
          split at hc
          · rename_i hxe
            rw [if_pos hxe, h2, List.length_append, List.length_cons]
            simp only; omega
          · exact absurd rfl hc
      · exfalso
        apply hc
        rfl
/-- a pair that is read -/
theorem pair_eats {acc : Run} {st : RdS} (h : stopB acc st = false) : (nextT st).1.length + 3 ≤ st.1.length ∧ (keyT st).size ≤ st.1.length ∧ (valT st).size ≤ st.1.length := by
  unfold stopB at h
  rw [Bool.or_eq_false_iff] at h
  have h1 := of_decide_eq_false h.1
  have a := stepT_len st
  have b := stepT_len (stepT st).2
  have c := stepT_eats (stepT st).2
  rcases c with c | c
  · exfalso
    apply h1
    show (stepT (stepT st).2).1 = tE
    refine ByteArray.ext ?_
    exact Array.toList_inj.1 c
  · exact ⟨by show (stepT (stepT st).2).2.1.length + 3 ≤ _; omega, by show (stepT st).1.size ≤ _; omega, by show (stepT (stepT st).2).1.size ≤ _; omega⟩
theorem lastKey_at {acc : Run} (h : 0 < acc.length) : lastKey acc = (acc[acc.length - 1]'(by omega)).key := by
  unfold lastKey
  rw [List.getLast?_eq_getElem?, List.getElem?_eq_getElem (by omega)]
  rfl
theorem idxL_at : ∀ (n : Nat) (a : Run) (i : Nat) (h : i < a.length), (idxL n a)[i]? = some ⟨a[i], n + i⟩
  | n, x :: a, 0, _ => rfl
  | n, x :: a, i + 1, h => by
    rw [idxL, List.getElem?_cons_succ, idxL_at (n + 1) a i (by simpa using h), List.getElem_cons_succ, show n + 1 + i = n + (i + 1) by omega]

set_option maxHeartbeats 4000000 in
theorem Restore_use {W w : World} {S : List Own} {Φ : PW} [Stable Φ] (hΦ : ∀ M w, Φ M w → NumI M w) (l : List UInt8) (hl : l.length ≤ 1000000) (cx : Ctx W w S Φ) {K : Ending → World → Prop}
    (h0 : ∀ w', restL l = none → Ctx W w' S Φ → K (.returned (.tuple #[.pointer none, .bool false])) w')
    (h1 : ∀ q s w', restL l = some s → StQ q s → Ctx W w' (stO q s S) (fun M w => Φ M w ∧ stF q s M w) → K (.returned (.tuple #[.pointer (some ⟨q.sb, 0, none⟩), .bool true])) w') :
    Calls Tryz.prog F.store_Restore #[.string (bs l)] w K := by
  refine (Bstore_Restore_run (bs l) (J := fun u w' => K (.returned u) w') cx ?_).mono fun e w' ⟨v, he, hj⟩ => by rw [he]; exact hj
  clear cx
  refine fun w G cx => Open_use l cx fun b w cx => ⟨_, rfl, rd b (l, false) :: S, Φ, inferInstance, cx, fun w G cx => ?_⟩
  refine RInt_to hΦ (by show l.length ≤ _; omega) cx ?_
  have hlen1 : (rdInt (l, false)).2.1.length ≤ l.length := stepN_len 59 (-9223372036854775808) (l, false)
  unfold restL at h0 h1
  have hsq := rdInt_i64 (l, false)
  obtain ⟨⟨sq, st1⟩, e1⟩ : ∃ x, rdInt (l, false) = x := ⟨_, rfl⟩
  rw [e1] at h0 h1 hlen1 hsq ⊢
  simp only at h0 h1 hlen1 hsq ⊢
  refine fun kb w G cx => ?_
  have cx1 : Ctx W w (rd b st1 :: (Own.blk kb [.slice none 0 0, .slice none 0 0, .int .i64 sq, .slice none 0 0, .int .i64 0] 77 :: S) ++ G) Φ := cx.swap
  clear cx
  refine RNum_to hΦ (by omega) cx1 ?_
  clear cx1
  have hlen2 : (rdNat st1).2.1.length ≤ st1.1.length := stepN_len 59 0 st1
  have hN : 0 ≤ (rdNat st1).1 := (stepN_nonneg (e := 59) (.inr (.inl rfl)) st1).1
  obtain ⟨⟨N, st2⟩, e2⟩ : ∃ x, rdNat st1 = x := ⟨_, rfl⟩
  rw [e2] at h0 h1 hlen2 hN ⊢
  simp only at h0 h1 hlen2 hN ⊢
  obtain ⟨B, hB⟩ : ∃ B, Own.blk kb [.slice none 0 0, .slice none 0 0, .int .i64 sq, .slice none 0 0, .int .i64 0] 77 = B := ⟨_, rfl⟩
  rw [hB]
  refine exI_mk (fun p n c R' Φ' k => ∃ (acc : Run) (st : RdS), n = acc.length ∧ pairsK (N.toNat - acc.length) st acc = pairsK N.toNat st2 [] ∧ acc.length ≤ N.toNat ∧ acc.length + st.1.length ≤ l.length ∧ (∀ x ∈ acc, x.key.size ≤ l.length ∧ x.val.size ≤ l.length) ∧ R' = rd b st :: tabO p c acc :: B :: S ∧ Φ' = Φ ∧ k = N.toNat - acc.length)
    ⟨⟨rd b st2 :: tabO none 0 [] :: B :: S, Φ, _, inferInstance, fun w G cx => (Ctx.nobuf cx 69 2).swap, [], st2, rfl, by rw [List.length_nil, Nat.sub_zero], by simp, by simp only [List.length_nil]; omega, fun x hx => (by cases hx), rfl, rfl, rfl⟩, ?_⟩
  rintro p n c R1 Φ1 k _ ⟨acc, st, rfl, hK, hle, hlen, hsz, rfl, rfl, rfl⟩
  refine Br.intro (fun hlt => fun w G cx => ?_) (fun hge => fun w G cx => ?_)
  · have hlt : acc.length < N.toNat := by have := of_decide_eq_true hlt; omega
    obtain ⟨m, hm⟩ : ∃ m, N.toNat - acc.length = m + 1 := ⟨N.toNat - acc.length - 1, by omega⟩
    rw [hm, show pairsK (m + 1) st acc = if stopB acc st = true then none else pairsK m (nextT st) (acc ++ [⟨keyT st, valT st⟩]) from rfl] at hK
    have ha := stepT_len st
    have hb := stepT_len (stepT st).2
    refine Text_to hΦ (by omega) cx fun w G cx => Text_to hΦ (by omega) cx fun b1 w G cx => ?_
    refine ⟨fun _ => by unfold I64; omega, fun hc => ?_, ?_⟩
    · have := (Bool.and_eq_true _ _).mp hc
      have := of_decide_eq_true this.2
      omega
    have hptr : ∀ (w : World) (G : List Own), Ctx W w (rd b (nextT st) :: tabO p c acc :: B :: S ++ G) Φ1 → 0 < acc.length → ∃ g, p = some ⟨g, 0, none⟩ := fun w G cx h => e_ptr cx.swap (by rw [idxL_len]; exact h)
    have body : ∀ s52 : ByteArray, (0 < acc.length → s52 = lastKey acc) → ∃ c53 : Bool, ((!decide (valT st = ByteArray.mk #[]) && decide ((0 : Int) < acc.length)) = true → ∀ w, Sem.run Tryz.prog (binOp BinOp.geq 9 (.string s52) (.string (keyT st))) w = .ok (.bool c53) w) ∧ (decide (valT st = ByteArray.mk #[]) || decide ((0 : Int) < acc.length) && c53) = stopB acc st := fun s52 hs => ⟨decide (0 ≤ cmpT s52 (keyT st)), fun _ w => geq_run _ _ _ _, by
      unfold stopB
      by_cases h : (0 : Int) < acc.length
      · rw [hs (by omega)]
      · rw [decide_eq_false h]; rfl⟩
    have tail : ∀ c0 : Bool, (c0 = stopB acc st) → c0 = true → K (.returned (.tuple #[.pointer none, .bool false])) w ∨ True := fun _ _ _ => .inr trivial
    clear tail
    have hptrK : ∀ {X : Nat → Nat → Prop}, (∀ g o, (0 < acc.length → p = some ⟨g, o, none⟩ ∧ o = 0) → X g o) → ptrK (some (!decide (valT st = ByteArray.mk #[]) && decide ((0 : Int) < acc.length))) p X := fun {X} hX => by
      by_cases h : 0 < acc.length
      · obtain ⟨g, hg⟩ := hptr _ _ cx h
        exact ptrK_intro g 0 hg (hX g 0 fun _ => ⟨hg, rfl⟩)
      · exact ptrK_off (by rw [decide_eq_false (show ¬ (0 : Int) < acc.length by omega), Bool.and_false]) fun g o => hX g o fun h2 => absurd h2 h
    refine hptrK fun g o hg => ⟨lastKey acc, fun hc => ?_, ?_⟩
    · have h3 := of_decide_eq_true ((Bool.and_eq_true _ _).mp hc).2
      obtain ⟨rfl, rfl⟩ := hg (by omega)
      have h4 := e_row cx.swap (idxL_at 0 acc (acc.length - 1) (by omega))
      rw [lastKey_at (by omega)]
      have h5 := h4 0 (by show 0 < 2; decide)
      rw [show ((acc.length : Int) - 1).toNat = acc.length - 1 by omega, Nat.zero_add]
      exact h5
    obtain ⟨c53, hc1, hc2⟩ := body (lastKey acc) fun _ => rfl
    refine ⟨c53, hc1, ?_⟩
    rw [hc2]
    clear hc1 hc2 body hptrK hg
    refine Br.intro (fun hs => fun w G cx => ?_) (fun hs => ?_)
    · rw [hs, if_pos rfl] at hK
      have cx2 : Ctx W w (S ++ G) Φ1 := cx.drop1.drop1.drop1
      exact h0 w (by rw [← hK]) cx2.left
    · rw [if_neg (by rw [hs]; simp)] at hK
      obtain ⟨h3, h4, h5⟩ := pair_eats hs
      refine fun k2 w G cx => ?_
      have hsw : (Own.blk k2 [.string (keyT st), .string (valT st)] 69 :: tabO p c acc :: (rd b (nextT st) :: (B :: S ++ G))).Perm (Own.blk k2 [.string (keyT st), .string (valT st)] 69 :: rd b (nextT st) :: tabO p c acc :: (B :: S ++ G)) := List.Perm.cons _ (List.Perm.swap _ _ _)
      have cx2 := Ctx.perm cx hsw.symm
      have hil := idxL_len 0 acc
      obtain ⟨p', cap', w', hr, _, cx3⟩ := cx2.app1 (ts := 74) (ty := 74) (kb := #[false, false]) (bytes := 32) (P := Tryz.prog) (by kernel_rfl) (by omega) rfl rfl (by omega) (by omega)
      have ea : (acc ++ [(⟨keyT st, valT st⟩ : PairD)]).length = acc.length + 1 := by rw [List.length_append]; rfl
      have eb : cellsE (idxL 0 acc) ++ [Value.string (keyT st), Value.string (valT st)] = cellsE (idxL 0 (acc ++ [(⟨keyT st, valT st⟩ : PairD)])) := by
        rw [idxL_app, cellsE_app]
        rfl
      rw [hil] at hr
      have cx4 : Ctx W w' (rd b (nextT st) :: tabO p' cap' (acc ++ [(⟨keyT st, valT st⟩ : PairD)]) :: (B :: S ++ G)) Φ1 := by
        have h6 := cx3.swap
        rw [eb, hil] at h6
        show Ctx W w' (rd b (nextT st) :: Own.buf p' (idxL 0 (acc ++ [(⟨keyT st, valT st⟩ : PairD)])).length cap' (cellsE (idxL 0 (acc ++ [(⟨keyT st, valT st⟩ : PairD)]))) _ 2 :: (B :: S ++ G)) Φ1
        rw [idxL_len, ea]
        exact h6
      refine ⟨p', _, cap', w', hr, rd b (nextT st) :: tabO p' cap' (acc ++ [(⟨keyT st, valT st⟩ : PairD)]) :: B :: S, Φ1, inferInstance, cx4, _, Φ1, N.toNat - (acc.length + 1), inferInstance, fun w G cx => cx, ⟨acc ++ [(⟨keyT st, valT st⟩ : PairD)], nextT st, by rw [ea], ?_, by rw [ea]; omega, by rw [ea]; omega, fun x hx => ?_, rfl, rfl, by rw [ea]⟩, by omega⟩
      · rw [ea, show N.toNat - (acc.length + 1) = m by omega]
        exact hK
      · rcases List.mem_append.1 hx with hx | hx
        · exact hsz x hx
        · rw [List.mem_singleton.1 hx]
          exact ⟨by show (keyT st).size ≤ _; omega, by show (valT st).size ≤ _; omega⟩
  · have hge : N.toNat - acc.length = 0 := by have := of_decide_eq_false hge; omega
    rw [hge, show pairsK 0 st acc = some (acc, st) from rfl] at hK
    rw [← hK] at h0 h1
    simp only at h0 h1
    have drop : ∀ (w : World) (G : List Own), Ctx W w (rd b st :: tabO p c acc :: B :: S ++ G) Φ1 → Ctx W w S Φ1 := fun w G cx => by
      have cx2 : Ctx W w (S ++ G) Φ1 := cx.drop1.drop1.drop1
      exact cx2.left
    refine Done_to cx ?_
    refine Br.intro (fun hd => fun w G cx => h0 w (if_neg fun h => by rw [h.1.1] at hd; cases hd) (drop w G cx)) (fun hd => fun w G cx => ⟨sq, by rw [← hB] at cx; exact cx.get 2 rfl rfl, Br.intro (fun hn => fun w G cx => h0 w (if_neg fun h => by have := of_decide_eq_true hn; omega) (drop w G cx)) (fun hn => fun w G cx => ⟨sq, by rw [← hB] at cx; exact cx.get 2 rfl rfl, Br.intro (fun hx => fun w G cx => h0 w (if_neg fun h => by have := of_decide_eq_true hx; omega) (drop w G cx)) (fun hx => fun w G cx => ⟨sq, by rw [← hB] at cx; exact cx.get 2 rfl rfl, fun w G cx => ⟨by rw [← hB] at cx; exact cx.can 2 rfl (by show 0 + 4 + 1 ≤ 5; omega), fun w' hw' => ?_⟩⟩)⟩)⟩)
    have hn := of_decide_eq_false hn
    have hx := of_decide_eq_false hx
    have hd : rdDone st = true := by cases hr : rdDone st with
      | true => rfl
      | false => rw [hr] at hd; cases hd
    rw [← hB] at cx
    have cx1 := cx.put 2 hw' rfl
    have hel : restS sq acc = ⟨[], addAt 1 [] acc, sq, [], sq⟩ := rfl
    refine ⟨rd b st :: tabO p c acc :: Own.blk kb [.slice none 0 0, .slice none 0 0, .int .i64 sq, .slice none 0 0, .int .i64 sq] 77 :: S, Φ1, inferInstance, cx1, fun w G cx => ?_⟩
    have cx2 := cx.drop1
    have hz1 : Szs acc := fun x hx => by have := hsz x hx; unfold maxLen; omega
    obtain ⟨c1, c2, c3⟩ := freezeE (S := Own.blk kb [.slice none 0 0, .slice none 0 0, .int .i64 sq, .slice none 0 0, .int .i64 sq] 77 :: S ++ G) cx2 (by rw [idxL_d]; exact hz1)
    rw [idxL_d] at c1 c2
    have st1 : Stable (fun M w => Φ1 M w ∧ Sl M w p acc) := instStableAnd Φ1 (fun M w => Sl M w p acc)
    have c4 := ((c1.nobuf 84 1).swap).weak (Ψ := fun M w => (Φ1 M w ∧ Sl M w p acc) ∧ LBE [] M w) fun M w h => ⟨h, fun x hx => by cases hx⟩
    refine add_use (Φ := fun M w => Φ1 M w ∧ Sl M w p acc) (hR := ⟨fun M w h => h.2⟩) (i := 1) (sb := kb) (tS := 77) (a := .slice none 0 0) (lp := none) (lc := 0) (c := .int .i64 sq) (d := .slice none 0 0) (e := .int .i64 sq) (bs := []) (S := S ++ G) c2 c3 (by omega) (by simp) (fun x hx => by cases hx) c4 fun lp' lc' bs' w' hb' cx5 => ?_
    have stL : Stable (fun M w => (Φ1 M w ∧ Sl M w p acc) ∧ LBE bs' M w) := instStableAnd (fun M w => Φ1 M w ∧ Sl M w p acc) (LBE bs')
    refine ⟨rfl, stA kb 77 (.slice none 0 0) lp' lc' (.int .i64 sq) (.slice none 0 0) (.int .i64 sq) bs' S, _, stL, cx5.re (by unfold stA; simp only [List.append_assoc, List.cons_append]), fun w G cx => ?_⟩
    have cx6 := (cx.left.nobuf 46 3).nobuf 69 2
    refine h1 ⟨kb, none, 0, lp', lc', bs', none, 0, []⟩ (restS sq acc) w (if_pos ⟨⟨hd, by omega⟩, by omega⟩) ⟨hb', fun x hx => by cases hx⟩ ((cx6.perm ?_).weak fun M w h => ⟨h.1.1, Elems.nil, h.2⟩)
    unfold stO stA
    show (Own.buf none 0 0 [] 69 2 :: Own.buf none 0 0 [] 46 3 :: (Own.blk kb [.slice none 0 0, .slice lp' bs'.length lc', .int .i64 sq, .slice none 0 0, .int .i64 sq] 77 :: Own.buf lp' bs'.length lc' (bs'.map LB.cell) 84 1 :: (bs'.map LB.own ++ S))).Perm (Own.blk kb [.slice none 0 0, .slice lp' bs'.length lc', .int .i64 sq, .slice none 0 0, .int .i64 sq] 77 :: Own.buf lp' bs'.length lc' (bs'.map LB.cell) 84 1 :: (bs'.map LB.own ++ (Own.buf none 0 0 [] 69 2 :: Own.buf none 0 0 [] 46 3 :: S)))
    have h := List.perm_append_comm_assoc [Own.buf none 0 0 [] 69 2, Own.buf none 0 0 [] 46 3] (Own.blk kb [.slice none 0 0, .slice lp' bs'.length lc', .int .i64 sq, .slice none 0 0, .int .i64 sq] 77 :: Own.buf lp' bs'.length lc' (bs'.map LB.cell) 84 1 :: bs'.map LB.own) S
    simp only [List.cons_append, List.nil_append, List.append_assoc] at h
    exact h
end Go.Proofs.YtebnciehcnedjaaGreatDoor
end

/-
  What was read stands in the string: the readers' results, read backwards.
-/
section
set_option linter.unusedVariables false
set_option linter.unusedSimpArgs false
namespace Go.Proofs.YtebnciehcnedjaaGreatDoor
open Go.Vc

end Go.Proofs.YtebnciehcnedjaaGreatDoor
end

/-
  Snapshots, in plain Lean: what Restore makes of them; what it accepts.
-/
section
set_option linter.unusedVariables false
set_option linter.unusedSimpArgs false
namespace Go.Proofs.YtebnciehcnedjaaGreatDoor
open Go.Vc


abbrev NeV (l : Run) : Prop := ∀ x ∈ l, x.val ≠ tE
theorem pairsK_succ (k : Nat) (st : RdS) (acc : Run) : pairsK (k + 1) st acc = if stopB acc st = true then none else pairsK k (nextT st) (acc ++ [⟨keyT st, valT st⟩]) := rfl

theorem pair_read {x : PairD} {t : List UInt8} (h : x.key.size ≤ 1000 ∧ x.val.size ≤ 1000) : keyT (pairL x ++ t, false) = x.key ∧ valT (pairL x ++ t, false) = x.val ∧ nextT (pairL x ++ t, false) = (t, false) := by
  have e : pairL x ++ t = (textB x.key).data.toList ++ ((textB x.val).data.toList ++ t) := by
    unfold pairL
    simp [ByteArray.data_append]
  have h1 := text_read (s := x.key) (r := (textB x.val).data.toList ++ t) (by omega)
  have h2 := text_read (s := x.val) (r := t) (by omega)
  unfold keyT valT nextT
  rw [e, h1]
  simp only
  rw [h2]
  exact ⟨trivial, rfl, rfl⟩
theorem asc_last {acc : Run} {x : PairD} {l : Run} (h : AscK (acc ++ x :: l)) (h0 : 0 < acc.length) : cmpT (lastKey acc) x.key < 0 := by
  rw [lastKey_at h0]
  exact (List.pairwise_append.1 h).2.2 _ (List.getElem_mem _) x (by simp)
theorem pairsK_read : ∀ (l acc : Run) (t : List UInt8), Fit1 l → NeV l → AscK (acc ++ l) → pairsK l.length (pairsL l ++ t, false) acc = some (acc ++ l, (t, false))
  | [], acc, t, _, _, _ => by rw [List.append_nil]; rfl
  | x :: l, acc, t, hf, hv, ha => by
    obtain ⟨h1, h2, h3⟩ := pair_read (t := pairsL l ++ t) (hf x (by simp))
    have e : pairsL (x :: l) ++ t = pairL x ++ (pairsL l ++ t) := by
      rw [show x :: l = [x] ++ l from rfl, pairsL_app, pairsL_one, List.append_assoc]
    have hs : stopB acc (pairL x ++ (pairsL l ++ t), false) = false := by
      unfold stopB
      rw [h1, h2, Bool.or_eq_false_iff, decide_eq_false_iff_not]
      refine ⟨hv x (by simp), ?_⟩
      by_cases h0 : 0 < acc.length
      · have := asc_last ha h0
        rw [decide_eq_false (show ¬ 0 ≤ cmpT (lastKey acc) x.key by omega), Bool.and_false]
      · rw [decide_eq_false (show ¬ (0 : Int) < acc.length by omega), Bool.false_and]
    rw [List.length_cons, e, pairsK_succ, if_neg (by rw [hs]; simp), h1, h2, h3, show (⟨x.key, x.val⟩ : PairD) = x from rfl, pairsK_read l (acc ++ [x]) t (fun y hy => hf y (by simp [hy])) (fun y hy => hv y (by simp [hy])) (by rw [List.append_assoc]; exact ha), List.append_assoc]
    rfl
theorem headL_app (seq : Int) (n : Nat) (t : List UInt8) : headL seq n ++ t = (intB seq).data.toList ++ ((natB n).data.toList ++ t) := by
  unfold headL
  simp [ByteArray.data_append]
theorem rest_snap {seq : Int} {l : Run} (h0 : 0 ≤ seq) (h1 : seq ≤ 1099511627776) (hf : Fit1 l) (hv : NeV l) (ha : AscK l) (hl : l.length ≤ 1000000) : restL (snapL seq l) = some (restS seq l) := by
  unfold restL snapL
  rw [headL_app, int_read (by unfold I64; omega)]
  simp only
  rw [nat_read (by omega)]
  simp only
  have h2 := pairsK_read l [] [] hf hv ha
  rw [List.append_nil, List.nil_append] at h2
  rw [Int.toNat_natCast, h2]
  exact if_pos ⟨⟨rfl, h0⟩, h1⟩

structure RestOk (seq : Int) (ps : Run) (l : List UInt8) : Prop where
  snap : snapL seq ps = l
  asc : AscK ps
  ne : NeV ps
  pos : 0 ≤ seq
  top : seq ≤ 1099511627776
  fit : ∀ x ∈ ps, x.key.size ≤ l.length ∧ x.val.size ≤ l.length
  len : ps.length ≤ l.length
/-! ### a restored store -/
theorem filt_true {l : Run} : (l.filter fun x => preP tE x.key) = l := by
  rw [List.filter_eq_self]
  intro x _
  unfold preP
  rw [Bool.and_eq_true, decide_eq_true_eq, decide_eq_true_eq]
  refine ⟨by show (0 : Int) ≤ _; omega, ?_⟩
  show x.key.extract 0 0 = _
  apply ByteArray.ext
  simp [ByteArray.data_extract]
theorem scan_all (s : StD) : scanS s tE = allS s := filt_true
theorem rest_ver (seq : Int) (ps : Run) : verP (restS seq ps) = ps := by
  show [] ++ allRuns (addAt 1 [] ps) = ps
  rw [addAt_nil, List.nil_append]
  unfold allRuns
  by_cases e : ps = []
  · rw [if_pos e, e]; rfl
  · rw [if_neg e]; simp
theorem rest_i {seq : Int} {ps : Run} (ha : AscK ps) : StI (restS seq ps) := by
  have e : (restS seq ps).levels = [[], if ps = [] then [] else [ps]] := addAt_nil 1 ps
  refine ⟨.nil, by show 0 < 8; decide, ?_, ?_⟩
  · rw [e]
    by_cases h : ps = []
    · rw [if_pos h]
      have no : ∀ l ∈ ([[], []] : List Lev), ∀ r ∈ l, False := fun l hl r hr => by
        simp at hl
        rw [hl] at hr
        cases hr
      exact ⟨fun l hl r hr => (no l hl r hr).elim, fun l hl r hr => (no l hl r hr).elim⟩
    · rw [if_neg h]
      refine ⟨fun l hl r hr => ?_, fun l hl r hr => ?_⟩
      · simp at hl
        rcases hl with rfl | rfl
        · cases hr
        · rw [List.mem_singleton.1 hr]; exact ha
      · simp at hl
        rcases hl with rfl | rfl
        · cases hr
        · rw [List.mem_singleton.1 hr]; exact h
  · rw [e]
    intro l hl
    simp at hl
    rcases hl with rfl | rfl
    · decide
    · split <;> simp
theorem rest_l (seq : Int) (ps : Run) : StL (restS seq ps) := ⟨Int.le_refl _, by show ((0 : Nat) : Int) = seq - seq; omega, fun j h => by cases h⟩
end Go.Proofs.YtebnciehcnedjaaGreatDoor
end

/-
  An operation of the laws, walked.
-/
section
set_option linter.unusedVariables false
set_option linter.unusedSimpArgs false
namespace Go.Proofs.YtebnciehcnedjaaGreatDoor
open Go.Vc


def andZ (a m : Int) : Int := IntKind.i64.wrap (BitVec.ofInt 64 a &&& BitVec.ofInt 64 m).toNat
theorem and_run (a m : Int) (w : World) : Sem.run Tryz.prog (binOp BinOp.and 3 (.int .i64 a) (.int .i64 m)) w = .ok (.int .i64 (andZ a m)) w := rfl

structure OpD where
  dop : Int
  n : Int
  key : ByteArray
  val : ByteArray
instance : Gv OpD := Gv.via (β := Int × Int × ByteArray × ByteArray) (fun x => (x.dop, x.n, x.key, x.val)) (fun y => ⟨y.1, y.2.1, y.2.2.1, y.2.2.2⟩) (fun _ => rfl)
abbrev OpD.cells (x : OpD) : List Value := [.int .i64 x.dop, .int .i64 x.n, .string x.key, .string x.val]
abbrev OpD.v (x : OpD) : Value := .agg #[.int .i64 x.dop, .int .i64 x.n, .string x.key, .string x.val]

/-- what an operation does -/
def stepS (s : StD) (x : OpD) : StD × Int :=
  if andZ x.dop 7 = 5 then (trimS s x.n, 0)
  else if andZ x.dop 7 = 6 then ((applyS s x.n x.key x.val).2, (applyS s x.n x.key x.val).1)
  else if andZ x.dop 7 = 7 then (if andZ x.n 1 = 0 then (s, 0) else (restS s.seq (allS s), 0))
  else (putS s x.key x.val, 0)

/-- what holds of a store after so many operations -/
structure StB (top : Int) (s : StD) (n : Nat) : Prop where
  i : StI s
  l : StL s
  c : StS s n
  f : Fit1 (verP s)
  lo : 0 ≤ s.seq
  hi : s.seq ≤ top + n

theorem new_b : StB 0 stNew 0 := ⟨new_i, new_l, ⟨by show cntL [] ≤ _; decide, by show 0 ≤ 0; decide, by show 0 ≤ 0; decide, by show I64 1; unfold I64; decide⟩, fun x hx => (by cases hx), by show (0 : Int) ≤ 0; decide, by show (0 : Int) ≤ 0 + 0; decide⟩
theorem StB.more {top : Int} {s : StD} {n : Nat} (h : StB top s n) : StB top s (n + 1) :=
  ⟨h.i, h.l, ⟨by have := h.c.cnt; omega, by have := h.c.ver; omega, by have := h.c.log; omega, h.c.seq⟩, h.f, h.lo, by have := h.hi; omega⟩
theorem put_b {top : Int} (ht : 0 ≤ top ∧ top ≤ 1099511627776) {s : StD} {n : Nat} (hn : n ≤ 1000) (h : StB top s n) {k v : ByteArray} (hk : k.size ≤ 1000) (hv : v.size ≤ 1000) : StB top (putS s k v) (n + 1) := by
  have h1 := h.hi
  have h2 := h.lo
  refine ⟨put_i h.i k v, put_l h.l k v, put_s h.c k v (by unfold I64; omega), fun x hx => ?_, by show 0 ≤ s.seq + 1; omega, by show s.seq + 1 ≤ top + ((n + 1 : Nat) : Int); omega⟩
  rcases put_mem x hx with rfl | hx
  · exact ⟨hk, hv⟩
  · exact h.f x hx
theorem trim_b {top : Int} {s : StD} {n : Nat} (h : StB top s n) (m : Int) : StB top (trimS s m) n :=
  ⟨⟨h.i.tab, h.i.few, h.i.lev, h.i.four⟩, trim_l h.l m, ⟨h.c.cnt, h.c.ver, by
    have := h.c.log
    show (s.log.drop _).length ≤ n
    rw [List.length_drop]; omega, h.c.seq⟩, h.f, h.lo, h.hi⟩
theorem all_sub {s : StD} : (allS s).length ≤ (verP s).length ∧ ∀ x ∈ allS s, x ∈ verP s :=
  ⟨Nat.le_trans (List.length_filter_le _ _) (normK_len _), fun x hx => normK_mem x (List.mem_filter.1 hx).1⟩
theorem restS_b {top : Int} {s : StD} {n : Nat} (h : StB top s n) : StB top (restS s.seq (allS s)) (n + 1) := by
  have h1 := (all_sub (s := s)).1
  have h2 := h.c.ver
  have e : (restS s.seq (allS s)).levels = [[], if allS s = [] then [] else [allS s]] := addAt_nil 1 _
  refine ⟨rest_i (all_asc s), rest_l _ _, ⟨?_, by rw [rest_ver]; omega, Nat.zero_le _, h.c.seq⟩, fun x hx => ?_, h.lo, by have := h.hi; show s.seq ≤ top + ((n + 1 : Nat) : Int); omega⟩
  · rw [e]
    by_cases hn : allS s = []
    · rw [if_pos hn]
      show 2 ≤ _
      omega
    · rw [if_neg hn]
      have : 0 < (allS s).length := Nat.pos_of_ne_zero fun h0 => hn (List.eq_nil_of_length_eq_zero h0)
      show 3 ≤ _
      omega
  · rw [rest_ver] at hx
    exact h.f x (all_sub.2 x hx)
theorem step_b {top : Int} (ht : 0 ≤ top ∧ top ≤ 1099511627776) {s : StD} {n : Nat} (hn : n ≤ 1000) (h : StB top s n) {x : OpD} (hk : x.key.size ≤ 1000) (hv : x.val.size ≤ 1000) : StB top (stepS s x).1 (n + 1) := by
  unfold stepS
  split
  · exact (trim_b h x.n).more
  · split
    · show StB top (applyS s x.n x.key x.val).2 (n + 1)
      unfold applyS
      split
      · exact put_b ht hn h hk hv
      · exact h.more
    · split
      · split
        · exact h.more
        · exact restS_b h
      · exact put_b ht hn h hk hv

section
variable {top : Int} {s : StD} {n : Nat}
theorem StB.levels (h : StB top s n) : s.levels.length ≤ 2 * n ∧ s.levels.flatten.length ≤ 2 * n ∧ ∀ l ∈ s.levels, l.length ≤ 2 * n := by
  have h1 := h.c.cnt
  unfold cntL at h1
  have h2 : s.levels.flatten.length = (s.levels.map List.length).sum := List.length_flatten
  refine ⟨by omega, by omega, fun l hl => ?_⟩
  have := List.sublist_flatten_of_mem hl |>.length_le
  omega
theorem StB.szs (h : StB top s n) : Szs (verP s) := fun x hx => by have := h.f x hx; unfold maxLen; omega
end

set_option maxHeartbeats 2000000 in
theorem do_use {W w : World} {S : List Own} {Φ : PW} [Stable Φ] (hΦ : ∀ M w, Φ M w → NumI M w) {q : TO} {s : StD} {n : Nat} (hq : StQ q s) (hB : StB 0 s n) (hn : n ≤ 400) {x : OpD} (hk : x.key.size ≤ 1000) (hv : x.val.size ≤ 1000)
    (cx : Ctx W w (stO q s S) (fun M w => Φ M w ∧ stF q s M w)) {K : Ending → World → Prop}
    (hK : ∀ q' w', StQ q' (stepS s x).1 → Ctx W w' (stO q' (stepS s x).1 S) (fun M w => Φ M w ∧ stF q' (stepS s x).1 M w) → K (.returned (.tuple #[.pointer (some ⟨q'.sb, 0, none⟩), .int .i64 (stepS s x).2])) w') :
    Calls Tryz.prog F.erratalaw29_do #[.pointer (some ⟨q.sb, 0, none⟩), x.v] w K := by
  have hlv := hB.levels
  have hver := hB.c.ver
  have hlog := hB.c.log
  have st0 : ∀ (q : TO) (s : StD), Stable (fun M w => Φ M w ∧ stF q s M w) := fun q s => instStableAnd Φ (fun M w => Elems M w q.gs s.log ∧ LBE q.bs M w)
  have hst := st0 q s
  have eS : ∀ (q : TO) (s : StD) (G : List Own), stO q s S ++ G = stO q s (S ++ G) := fun q s G => by unfold stO stA; simp only [List.append_assoc, List.cons_append]
  refine (Berratalaw29_do_run q.sb 0 x.dop x.n x.key x.val (J := fun u w' => K (.returned u) w') cx ?_).mono fun e w' ⟨v, he, hj⟩ => by rw [he]; exact hj
  clear cx
  unfold stepS at hK
  refine fun _ => ⟨andZ x.dop 7, fun w => and_run _ _ _, Br.intro (fun h5 => fun w G cx => ?_) (fun h5 => Br.intro (fun h6 => fun w G cx => ?_) (fun h6 => Br.intro (fun h7 => ⟨andZ x.n 1, fun w => and_run _ _ _, Br.intro (fun h1 => fun w G cx => ?_) (fun h1 => fun w G cx => ?_)⟩) (fun h7 => fun w G cx => ?_)))⟩
  · rw [if_pos (of_decide_eq_true h5)] at hK
    refine trim_use (S := S ++ G) hq hB.l (by omega) (cx.re (eS q s G)) fun q' w' hb hq' cx2 => ⟨rfl, stO q' (trimS s x.n) S, _, st0 q' _, cx2.re (eS q' _ G).symm, fun w G cx => ?_⟩
    have h := hK q' w hq' cx.left
    rw [hb] at h
    exact h
  · rw [if_neg (of_decide_eq_false h5), if_pos (of_decide_eq_true h6)] at hK
    refine apply_use (S := S ++ G) hq hB.i hB.c hn (by unfold maxLen; omega) (by unfold maxLen; omega) (cx.re (eS q s G)) fun q' w' hb hq' cx2 => ⟨_, rfl, stO q' (applyS s x.n x.key x.val).2 S, _, st0 q' _, cx2.re (eS q' _ G).symm, fun w G cx => ?_⟩
    have h := hK q' w hq' cx.left
    rw [hb] at h
    exact h
  · rw [if_neg (of_decide_eq_false h5), if_neg (of_decide_eq_false h6), if_pos (of_decide_eq_true h7), if_pos (of_decide_eq_true h1)] at hK
    have hb := st_bufs (S := S ++ G) (cx.re (eS q s G))
    have hC := st_caps (S := S ++ G) hq (cx.re (eS q s G))
    have cx1 := ((cx.re (eS q s G)).re (stO_app q s (S ++ G))).aside
    have hst2 : Stable (Aside W (stO q s []) (fun M w => Φ M w ∧ stF q s M w)) := instStableAside W _ _
    have hz := hB.szs
    refine Copy_use (hΦ := ⟨fun M w h => st_reads hq hb h⟩) hC (fun x hx => hz x (List.mem_append_left _ hx)) (by have := hB.i.few; omega) (by omega) (by omega) (fun l hl => by have := hlv.2.2 l hl; omega) cx1 fun q2 w' hq2 cx2 => ?_
    have cx3 := cx2.weak (Ψ := fun M w => Φ M w ∧ stF q2 s M w) fun M w h => ⟨h.1.less.1, h.2⟩
    exact ⟨_, rfl, stO q2 s S, _, st0 q2 s, cx3.re (eS q2 s G).symm, fun w G cx => hK q2 w hq2 cx.left⟩
  · rw [if_neg (of_decide_eq_false h5), if_neg (of_decide_eq_false h6), if_pos (of_decide_eq_true h7), if_neg (of_decide_eq_false h1)] at hK
    have hC := st_caps (S := S ++ G) hq (cx.re (eS q s G))
    refine look (S := S ++ G) hq (v := .string (snapB s)) (cx.re (eS q s G)) (fun Ψ h1 h2 h3 => Snapshot_in (hΦ := h2) (fun M w h => (hΦ M w (h3.go M w h)).1) hC (by omega) (by omega) (by omega) hB.f (by have := hB.c.seq; have := hB.lo; have := hB.hi; unfold I64 at *; omega)) fun w' cx2 => ⟨_, rfl, stO q s S, _, hst, cx2.re (eS q s G).symm, fun w G cx => ?_⟩
    have hsc : scanS s tE = allS s := scan_all s
    have hsn : snapB s = bs (snapL s.seq (allS s)) := by unfold snapB; rw [hsc]; rfl
    have ha := all_sub (s := s)
    have hfit : Fit1 (allS s) := fun x hx => hB.f x (ha.2 x hx)
    have hrest : restL (snapL s.seq (allS s)) = some (restS s.seq (allS s)) := rest_snap hB.lo (by have := hB.hi; omega) hfit (all_ne s) (all_asc s) (by omega)
    have hlen : (snapL s.seq (allS s)).length ≤ 1000000 := by
      have h1 := pairsL_len hfit
      have h2 := headL_len (seq := s.seq) (by have := hB.lo; have := hB.hi; unfold I64; omega) (n := (allS s).length) (by omega)
      unfold snapL
      rw [List.length_append]; omega
    rw [hsn]
    have cx3 : Ctx W w (S ++ G) Φ := (Ctx.right (S := stO q s []) ((cx.re (eS q s G)).re (stO_app q s (S ++ G)))).weak fun M w h => h.1
    refine Restore_use hΦ (snapL s.seq (allS s)) hlen cx3 (fun w' h => by rw [hrest] at h; cases h) fun q2 s2 w' hr hq2 cx4 => ?_
    rw [hrest] at hr
    cases hr
    refine ⟨_, _, rfl, stO q2 (restS s.seq (allS s)) S, _, st0 q2 _, cx4.re (eS q2 _ G).symm, Br.intro (fun h => by cases h) (fun _ => fun w G cx => hK q2 w hq2 cx.left)⟩
  · rw [if_neg (of_decide_eq_false h5), if_neg (of_decide_eq_false h6), if_neg (of_decide_eq_false h7)] at hK
    refine put_use (S := S ++ G) hq hB.i hB.c hn (by unfold maxLen; omega) (by unfold maxLen; omega) (cx.re (eS q s G)) fun q' w' hb hq' cx2 => ⟨rfl, stO q' (putS s x.key x.val) S, _, st0 q' _, cx2.re (eS q' _ G).symm, fun w G cx => ?_⟩
    have h := hK q' w hq' cx.left
    rw [hb] at h
    exact h
end Go.Proofs.YtebnciehcnedjaaGreatDoor
end

/-
  The laws' helpers: digits, few; what the example's store becomes.
-/
section
set_option linter.unusedVariables false
set_option linter.unusedSimpArgs false
namespace Go.Proofs.YtebnciehcnedjaaGreatDoor
open Go.Vc


theorem op_cells {M : List Nat} {w : World} {cs : List Value} {x : OpD} (h : Gv.rep M w cs x) : cs = x.cells ∧ x.key.size ≤ maxLen ∧ x.val.size ≤ maxLen := by
  obtain ⟨_, _, rfl, ⟨rfl, _⟩, _, _, rfl, ⟨rfl, _⟩, _, _, rfl, ⟨rfl, h1⟩, rfl, h2⟩ := h
  exact ⟨rfl, h1, h2⟩
theorem sl_op {M : List Nat} {w : World} {b o : Nat} {l : List OpD} (h : Sl M w (some ⟨b, o, none⟩) l) {j : Nat} (hj : j < l.length) : RowAt w b (o + j * 4) l[j].cells := by
  obtain ⟨b', o', cs, e, _, h3, h4⟩ := h j hj
  cases e
  obtain ⟨rfl, _⟩ := op_cells h4
  exact h3
def fewP (x : OpD) : Bool := decide ((x.key.size : Int) ≤ 20) && decide ((x.val.size : Int) ≤ 20)
def fewO (l : List OpD) (n : Int) : Bool := decide ((l.length : Int) ≤ n) && l.all fewP
theorem fewO_len {l : List OpD} {n : Int} (h : fewO l n = true) : (l.length : Int) ≤ n := of_decide_eq_true ((Bool.and_eq_true _ _).mp h).1
theorem fewO_fit {l : List OpD} {n : Int} (h : fewO l n = true) : ∀ x ∈ l, x.key.size ≤ 1000 ∧ x.val.size ≤ 1000 := fun x hx => by
  have h1 := List.all_eq_true.1 ((Bool.and_eq_true _ _).mp h).2 x hx
  unfold fewP at h1
  rw [Bool.and_eq_true] at h1
  have h2 := of_decide_eq_true h1.1
  have h3 := of_decide_eq_true h1.2
  omega
theorem few_in {Φ : PW} [Stable Φ] {p : Option Addr} {cap : Nat} {l : List OpD} {n : Int} (hΦ : ∀ M w, Φ M w → Sl M w p l) (hl : l.length ≤ maxLen) : GivesIn Φ Tryz.prog F.erratalaw29_few #[.slice p l.length cap, .int .i64 n] (.bool (fewO l n)) := by
  refine .there (fun M w h => (hΦ M w h).there) fun hth => ?_
  refine gives_in (Berratalaw29_few_run p l.length cap n) fun W R => ?_
  refine exI_mk (fun iI R' Φ' k => ∃ i : Nat, iI = i ∧ i ≤ l.length ∧ (l.take i).all fewP = true ∧ R' = R ∧ Φ' = Φ ∧ k = l.length - i) ⟨⟨R, Φ, _, inferInstance, fun w G cx => cx, 0, rfl, Nat.zero_le _, rfl, rfl, rfl, rfl⟩, ?_⟩
  rintro iI R1 Φ1 k _ ⟨i, rfl, hi, hs, rfl, rfl, rfl⟩
  refine Br.intro (fun hlt => ?_) (fun hge => fun w G cx => ?_)
  · have hlt : i < l.length := by have := of_decide_eq_true hlt; omega
    obtain ⟨g, o, rfl⟩ := hth (by omega)
    refine fun w G cx => ⟨⟨by omega, by omega⟩, ptrK_intro g o rfl ⟨l[i].key, ?_, fun _ => ⟨by omega, by omega⟩, ptrK_intro g o rfl ⟨l[i].val, fun _ => ?_, Br.intro (fun hb => fun w G cx => ⟨?_, cx.left⟩) (fun hb => ⟨by unfold I64; unfold maxLen at hl; omega, R1, Φ1, l.length - (i + 1), inferInstance, fun w G cx => cx, ⟨i + 1, rfl, hlt, ?_, rfl, rfl, rfl⟩, by omega⟩)⟩⟩⟩
    · rw [Int.toNat_natCast]; exact sl_op (hΦ _ _ cx.phi) hlt 2 (by show 2 < 4; decide)
    · rw [Int.toNat_natCast]; exact sl_op (hΦ _ _ cx.phi) hlt 3 (by show 3 < 4; decide)
    · have : fewP l[i] = false := by
        unfold fewP
        rw [Bool.or_eq_true] at hb
        rcases hb with hb | hb
        · have := of_decide_eq_true hb
          rw [decide_eq_false (show ¬ (l[i].key.size : Int) ≤ 20 by omega)]; rfl
        · have := of_decide_eq_true hb
          rw [decide_eq_false (show ¬ (l[i].val.size : Int) ≤ 20 by omega), Bool.and_false]
      unfold fewO
      rw [List.all_eq_false.2 ⟨l[i], List.getElem_mem _, by rw [this]; simp⟩, Bool.and_false]
    · rw [Bool.or_eq_false_iff] at hb
      have h1 := of_decide_eq_false hb.1
      have h2 := of_decide_eq_false hb.2
      have : fewP l[i] = true := by
        unfold fewP
        rw [decide_eq_true (show (l[i].key.size : Int) ≤ 20 by omega), decide_eq_true (show (l[i].val.size : Int) ≤ 20 by omega)]; rfl
      rw [List.take_succ_eq_append_getElem hlt, List.all_append, hs]
      simp [this]
  · have hge : i = l.length := by have := of_decide_eq_false hge; omega
    subst hge
    rw [List.take_length] at hs
    refine ⟨?_, cx.left⟩
    unfold fewO
    rw [hs, Bool.and_true]

def digB (n : Nat) : ByteArray := ⟨[UInt8.ofNat (48 + n / 10 % 10), UInt8.ofNat (48 + n % 10)].toArray⟩
theorem wrap_dig2 (d : Nat) (h : d < 10) : IntKind.u8.wrap (48 + (d : Int)) = ((UInt8.ofNat (48 + d)).toNat : Int) := by
  have e : (UInt8.ofNat (48 + d)).toNat = 48 + d := by
    rw [UInt8.toNat_ofNat']
    exact Nat.mod_eq_of_lt (by omega)
  rw [e]
  simp [IntKind.wrap, IntKind.signed, IntKind.bits]
  omega
theorem digits29_g (n : Nat) (hn : n ≤ 1000) : Gives Tryz.prog F.erratalaw29_digits #[.int .i64 (n : Int)] (.string (digB n)) := by
  refine gives_of (Berratalaw29_digits_run (n : Int)) fun W R Φ hs => ?_
  have e0 : ((n : Int).tdiv 10).tmod 10 = ((n / 10 % 10 : Nat) : Int) := by rw [Int.tdiv_eq_ediv_of_nonneg (by omega), Int.tmod_eq_emod_of_nonneg (by omega)]; omega
  have e1 : (n : Int).tmod 10 = ((n % 10 : Nat) : Int) := by rw [Int.tmod_eq_emod_of_nonneg (by omega)]; omega
  have e2 : (n : Int).tdiv 10 = ((n / 10 : Nat) : Int) := by rw [Int.tdiv_eq_ediv_of_nonneg (by omega)]; omega
  refine ⟨by omega, by rw [e2]; unfold I64; omega, by omega, by rw [e0]; unfold I64; omega, by omega, by rw [e1]; unfold I64; omega, fun k w G cx => ?_⟩
  rw [e0, e1, wrap_dig2 _ (by omega), wrap_dig2 _ (by omega)] at cx
  have hcell : ∀ j, (hj : j < [UInt8.ofNat (48 + n / 10 % 10), UInt8.ofNat (48 + n % 10)].length) → w.cell? ((⟨k, 0, none⟩ : Addr).add j) = some (.int .u8 ([UInt8.ofNat (48 + n / 10 % 10), UInt8.ofNat (48 + n % 10)][j].toNat : Int)) := fun j hj => by
    match j, hj with
    | 0, _ => exact cx.get 0 rfl rfl
    | 1, _ => exact cx.get 0 rfl rfl
  exact ⟨_, _, run_convert_bytes_back w 87 9 5 ⟨k, 0, none⟩ 2 [UInt8.ofNat (48 + n / 10 % 10), UInt8.ofNat (48 + n % 10)] (by kernel_rfl) (by kernel_rfl) (by kernel_rfl) hcell, R, Φ, hs, cx.drop1, fun w G cx => ⟨rfl, cx.left⟩⟩

/-! ### the example, computed -/
def settleF : Nat → List Lev → List Lev
  | 0, _ => []
  | _ + 1, [] => []
  | n + 1, l :: t => if l.length < 4 then l :: settleF n t else [] :: settleF n (addL t (pushR l t))
theorem settleF_eq : ∀ (n : Nat) (ls : List Lev), cntL ls < n → settleL ls = settleF n ls
  | 0, _, h => by omega
  | n + 1, [], _ => by rw [settleL_nil]; rfl
  | n + 1, l :: t, h => by
    have hc : cntL (l :: t) = l.length + 1 + cntL t := by unfold cntL; simp; omega
    show _ = if l.length < 4 then l :: settleF n t else [] :: settleF n (addL t (pushR l t))
    by_cases h4 : l.length < 4
    · rw [settleL_less h4, if_pos h4, settleF_eq n t (by omega)]
    · have ha := addL_cnt t (pushR l t)
      rw [settleL_more h4, if_neg h4, settleF_eq n (addL t (pushR l t)) (by omega)]
def putF (s : StD) (k v : ByteArray) : StD :=
  let t := putK ⟨k, v⟩ s.table
  ⟨if t.length = 8 then [] else t, settleF 100 (if t.length = 8 then addL s.levels t else s.levels), s.seq + 1, s.log ++ [⟨s.seq + 1, k, v⟩], s.cut⟩
theorem putF_eq {s : StD} (h : cntL s.levels ≤ 90) (k v : ByteArray) : putS s k v = putF s k v := by
  have h2 := addL_cnt s.levels (putK ⟨k, v⟩ s.table)
  have h3 : cntL (if (putK ⟨k, v⟩ s.table).length = 8 then addL s.levels (putK ⟨k, v⟩ s.table) else s.levels) < 100 := by split <;> omega
  have e := settleF_eq 100 _ h3
  show (⟨if (putK ⟨k, v⟩ s.table).length = 8 then [] else putK ⟨k, v⟩ s.table, settleL (if (putK ⟨k, v⟩ s.table).length = 8 then addL s.levels (putK ⟨k, v⟩ s.table) else s.levels), s.seq + 1, s.log ++ [⟨s.seq + 1, k, v⟩], s.cut⟩ : StD) = _
  rw [e]
  rfl
abbrev tA : ByteArray := ByteArray.mk #[97]
abbrev tB : ByteArray := ByteArray.mk #[98]
abbrev t1 : ByteArray := ByteArray.mk #[49]
abbrev t2 : ByteArray := ByteArray.mk #[50]
abbrev tX : ByteArray := ByteArray.mk #[120]
def exS : StD := putS (putS (putS stNew tA t1) tB t2) tA tE
def exF : StD := putF (putF (putF stNew tA t1) tB t2) tA tE
def exT : Nat → StD
  | 0 => stNew
  | i + 1 => putS (exT i) (digB i) tX
def exTF : Nat → StD
  | 0 => stNew
  | i + 1 => putF (exTF i) (digB i) tX
theorem exT_b : ∀ i, i ≤ 100 → StB 0 (exT i) i
  | 0, _ => new_b
  | i + 1, h => put_b ⟨by decide, by decide⟩ (by omega) (exT_b i (by omega)) (by show 2 ≤ _; decide) (by show 1 ≤ _; decide)
theorem exT_eq : ∀ i, i ≤ 45 → exT i = exTF i
  | 0, _ => rfl
  | i + 1, h => by
    have hb := (exT_b i (by omega)).c.cnt
    show putS (exT i) (digB i) tX = putF (exTF i) (digB i) tX
    rw [putF_eq (by omega), exT_eq i (by omega)]
theorem exS_b1 : StB 0 (putS stNew tA t1) 1 := put_b ⟨by decide, by decide⟩ (by decide) new_b (by show 1 ≤ _; decide) (by show 1 ≤ _; decide)
theorem exS_b2 : StB 0 (putS (putS stNew tA t1) tB t2) 2 := put_b ⟨by decide, by decide⟩ (by decide) exS_b1 (by show 1 ≤ _; decide) (by show 1 ≤ _; decide)
theorem exS_b : StB 0 exS 3 := put_b ⟨by decide, by decide⟩ (by decide) exS_b2 (by show 1 ≤ _; decide) (by show 0 ≤ _; decide)
theorem exS_eq : exS = exF := by
  have h1 := exS_b1.c.cnt
  have h2 := exS_b2.c.cnt
  unfold exS exF
  rw [putF_eq (by omega), putF_eq (by omega), putF_eq (by show 0 ≤ 90; omega)]
theorem ex_scan : scanS exS tE = [⟨tB, t2⟩] := by rw [exS_eq]; decide +kernel
theorem ex_log : exS.log.map (fun x => x.seq) = [1, 2, 3] := by rw [exS_eq]; decide +kernel
theorem ex_ver : (verP exS).length = 2 ∧ exS.seq = 3 ∧ exS.cut = 0 := by rw [exS_eq]; decide +kernel
theorem ex_runs : runsL (exT 32) = [[], [32]] := by rw [exT_eq 32 (by decide)]; decide +kernel
end Go.Proofs.YtebnciehcnedjaaGreatDoor
end

/-
  The documentation's examples, walked.
-/
section
set_option linter.unusedVariables false
set_option linter.unusedSimpArgs false
namespace Go.Proofs.YtebnciehcnedjaaGreatDoor
open Go.Vc


theorem stO_re (q : TO) (s : StD) (S G : List Own) : stO q s S ++ G = stO q s (S ++ G) := by unfold stO stA; simp only [List.append_assoc, List.cons_append]
instance instStableSt (Φ : PW) [Stable Φ] (q : TO) (s : StD) : Stable (fun M w => Φ M w ∧ stF q s M w) := instStableAnd Φ (fun M w => Elems M w q.gs s.log ∧ LBE q.bs M w)
theorem st_two (a : TO) (s : StD) (b : TO) (t : StD) (S : List Own) : (stO a s (stO b t S)).Perm (stO b t (stO a s S)) := by
  rw [stO_app a s (stO b t S), stO_app b t (stO a s S), stO_app b t S, stO_app a s S]
  exact List.perm_append_comm_assoc _ _ _
/-- a store is laid aside -/
theorem lay {W w : World} {S : List Own} {Φ : PW} [Stable Φ] {q : TO} {s : StD} (hq : StQ q s) (cx : Ctx W w (stO q s S) (fun M w => Φ M w ∧ stF q s M w)) :
    ∃ Ψ : PW, Stable Ψ ∧ (∀ M w, Ψ M w → Φ M w) ∧ (∀ M w, Ψ M w → StR q s M w) ∧ StC q s ∧ (∀ (S : List Own) (w : World), Ctx W w S Ψ → Ctx W w (stO q s S) (fun M w => Φ M w ∧ stF q s M w)) ∧ (∀ (S : List Own) (w : World), Ctx W w (stO q s S) (fun M w => Φ M w ∧ stF q s M w) → Ctx W w S Ψ) :=
  ⟨Aside W (stO q s []) (fun M w => Φ M w ∧ stF q s M w), instStableAside W _ _, fun M w h => h.less.1, fun M w h => st_reads hq (st_bufs cx) h, st_caps hq cx, fun S w c => c.unaside.re (stO_app q s S).symm, fun S w c => (c.re (stO_app q s S)).aside⟩
theorem put_at {W w : World} {S G : List Own} {Φ : PW} [Stable Φ] {q : TO} {b : Nat} (hb : q.sb = b) {s : StD} {n : Nat} {top : Int} (hq : StQ q s) (hB : StB top s n) (hn : n ≤ 400) {k v : ByteArray} (hk : k.size ≤ 1000) (hv : v.size ≤ 1000)
    (cx : Ctx W w (stO q s S ++ G) (fun M w => Φ M w ∧ stF q s M w)) {K : List Own → PW → Prop}
    (hK : ∀ q', q'.sb = b → StQ q' (putS s k v) → K (stO q' (putS s k v) S) (fun M w => Φ M w ∧ stF q' (putS s k v) M w)) :
    Calls Tryz.prog F.store_Store_Put #[.pointer (some ⟨b, 0, none⟩), .string k, .string v] w fun e w' => e = .returned (.tuple #[]) ∧ ∃ R' Φ', Stable Φ' ∧ Ctx W w' (R' ++ G) Φ' ∧ K R' Φ' := by
  subst hb
  exact put_use (S := S ++ G) hq hB.i hB.c hn (by unfold maxLen; omega) (by unfold maxLen; omega) (cx.re (stO_re q s S G)) fun q' w' hb hq' cx2 => ⟨rfl, stO q' (putS s k v) S, _, inferInstance, cx2.re (stO_re q' _ S G).symm, hK q' hb hq'⟩

section
variable {α : Type} [Gv α]
theorem pinl {M : List Nat} {w : World} {g o : Nat} {cs : List (List Value)} {ls : List (List α)} (h : Pin g o cs ls M w) {j : Nat} (hj : j < ls.length) : ∃ p c, cs.getD j [] = [.slice p ls[j].length c] := by
  obtain ⟨_, h1, h2⟩ := h j hj
  obtain ⟨p, c, e, _⟩ := rep_list.1 h2
  exact ⟨p, c, e⟩
theorem pinl_sl {M : List Nat} {w : World} {g o : Nat} {cs : List (List Value)} {ls : List (List α)} (h : Pin g o cs ls M w) {j : Nat} (hj : j < ls.length) {p : Option Addr} {n c : Nat} (e : cs.getD j [] = [.slice p n c]) : Sl M w p ls[j] := by
  obtain ⟨_, h1, h2⟩ := h j hj
  obtain ⟨p', c', e', g1, g2, hs⟩ := rep_list.1 h2
  rw [e] at e'
  simp only [List.cons.injEq, Value.slice.injEq] at e'
  rw [e'.1.1]
  exact hs
theorem pinl_at {M : List Nat} {w : World} {g o : Nat} {cs : List (List Value)} {ls : List (List α)} (h : Pin g o cs ls M w) {j : Nat} (hj : j < ls.length) {p : Option Addr} {n c : Nat} (e : cs.getD j [] = [.slice p n c]) : w.cell? ⟨g, o + j, none⟩ = some (.slice p n c) := by
  obtain ⟨_, h1, h2⟩ := h j hj
  rw [e] at h1
  have := h1 0 (by simp)
  rw [show (Gv.ty (List α)).size = 1 from rfl, Nat.mul_one] at this
  simpa using this
end
theorem sl_int {M : List Nat} {w : World} {p : Option Addr} {l : List Int} (h : Sl M w p l) {j : Nat} (hj : j < l.length) : ∃ b o, p = some ⟨b, o, none⟩ ∧ w.cell? ⟨b, o + j, none⟩ = some (.int .i64 l[j]) := by
  obtain ⟨b', o', cs, e, _, h3, h4⟩ := h j hj
  obtain ⟨rfl, _⟩ := h4
  have := h3 0 (by simp)
  rw [show (Gv.ty Int).size = 1 from rfl, Nat.mul_one] at this
  exact ⟨b', o', e, by simpa using this⟩
theorem sl_chg {M : List Nat} {w : World} {b o : Nat} {l : List ChgD} (h : Sl M w (some ⟨b, o, none⟩) l) {j : Nat} (hj : j < l.length) : RowAt w b (o + j * 3) l[j].cells := by
  obtain ⟨b', o', cs, e, _, h3, h4⟩ := h j hj
  cases e
  obtain rfl := chgD_cells h4
  exact h3

set_option maxHeartbeats 4000000 in
theorem small29_g : Gives Tryz.prog F.erratalaw29_small #[] (.bool true) := by
  refine gives_of (Berratalaw29_small_run) fun W R Φ _ => fun w G cx => ?_
  refine New_use cx fun qs w hqs cx => ⟨_, rfl, stO qs stNew R, _, instStableSt Φ qs stNew, cx.re (stO_re _ _ _ _).symm, fun w G cx => ?_⟩
  refine New_use cx fun qt w hqt cx => ?_
  have hst : Stable (fun M w => Φ M w ∧ stF qt stNew M w) := instStableSt Φ qt stNew
  have cx1 : Ctx W w (stO qs stNew (stO qt stNew R) ++ G) (fun M w => (Φ M w ∧ stF qt stNew M w) ∧ stF qs stNew M w) := ((cx.perm (by
    rw [stO_re qs stNew R G, stO_re qs stNew _ G, stO_re qt stNew R G]
    exact st_two _ _ _ _ _)).weak fun M w h => ⟨⟨h.1.1, h.2⟩, h.1.2⟩)
  refine ⟨_, rfl, stO qs stNew (stO qt stNew R), _, instStableSt _ qs stNew, cx1, fun w G cx => Br.intro (fun h => by cases h) (fun _ => fun w G cx => ?_)⟩
  clear cx1
  refine put_at rfl hqs new_b (by decide) (by show 1 ≤ _; decide) (by show 1 ≤ _; decide) cx fun q1 hb1 hq1 => fun w G cx => ?_
  refine put_at hb1 hq1 exS_b1 (by decide) (by show 1 ≤ _; decide) (by show 1 ≤ _; decide) cx fun q2 hb2 hq2 => fun w G cx => ?_
  refine put_at hb2 hq2 exS_b2 (by decide) (by show 1 ≤ _; decide) (by show 0 ≤ _; decide) cx fun q3 hb3 hq3 => fun w G cx => ?_
  have hqS : StQ q3 exS := hq3
  have cxS : Ctx W w (stO q3 exS (stO qt stNew R ++ G)) (fun M w => (Φ M w ∧ stF qt stNew M w) ∧ stF q3 exS M w) := cx.re (stO_re _ _ _ _)
  clear cx
  obtain ⟨Ψ, stΨ, toΦ, toR, hC, _, hlay⟩ := lay hqS cxS
  have cxa := hlay _ _ cxS
  clear cxS hlay
  rw [← hb3]
  have hlv := exS_b.levels
  have hver := exS_b.c.ver
  obtain ⟨ev1, ev2, ev3⟩ := ex_ver
  have hscan := Scan_sl (Φ := Ψ) (pre := tE) (hΦ := ⟨toR⟩) hC (by omega) (by omega) (by omega) exS_b.szs (by show 0 ≤ _; omega)
  rw [ex_scan] at hscan
  refine hscan.tot cxa fun p1 c1 _ _ ht1 st1 => fun w G cx => ?_
  have hsince := Since_sl (Φ := fun M w => Ψ M w ∧ Sl M w p1 [(⟨tB, t2⟩ : PairD)]) (hΦ := ⟨fun M w h => toR M w h.1⟩) hC exS_b.l (by have := exS_b.c.log; omega) (n := 1) (by rw [ev3]; decide) (by rw [ev2]; decide)
  rw [ev3] at hsince
  have hlg : ((exS.log.drop (1 - 0 : Int).toNat).map fun x => x.seq) = [2, 3] := by rw [List.map_drop, ex_log]; rfl
  obtain ⟨lg, hlgd⟩ : ∃ lg, exS.log.drop (1 - 0 : Int).toNat = lg := ⟨_, rfl⟩
  rw [hlgd] at hsince hlg
  have hlgl : lg.length = 2 := by have := congrArg List.length hlg; rwa [List.length_map] at this
  refine hsince.use cx fun p2 c2 w _ _ cx2 => ?_
  clear cx
  have cx := cx2
  clear cx2
  have ht2 := cx.phi.2.there
  obtain ⟨Ψ2, hΨ2⟩ : ∃ Ψ2 : PW, Ψ2 = (fun M w => (Ψ M w ∧ Sl M w p1 [(⟨tB, t2⟩ : PairD)]) ∧ Sl M w p2 lg) := ⟨_, rfl⟩
  have st2 : Stable Ψ2 := by rw [hΨ2]; exact instStableAnd (fun M w => Ψ M w ∧ Sl M w p1 [(⟨tB, t2⟩ : PairD)]) (fun M w => Sl M w p2 lg)
  have g1 : ∀ M w, Ψ2 M w → Ψ M w := fun M w h => by rw [hΨ2] at h; exact h.1.1
  have g2 : ∀ M w, Ψ2 M w → Sl M w p1 [(⟨tB, t2⟩ : PairD)] := fun M w h => by rw [hΨ2] at h; exact h.1.2
  have g3 : ∀ M w, Ψ2 M w → Sl M w p2 lg := fun M w h => by rw [hΨ2] at h; exact h.2
  rw [← hΨ2] at cx
  rw [hlgl] at ht2 ⊢
  refine ⟨p2, _, c2, _, rfl, stO qt stNew R, Ψ2, st2, cx, fun w G cx => Br.intro (fun h => by simp at h) (fun _ => ?_)⟩
  clear cx
  refine exI_mk (fun iI R' Φ' k => ∃ (i : Nat) (q' : TO), iI = i ∧ i ≤ 32 ∧ q'.sb = qt.sb ∧ StQ q' (exT i) ∧ R' = stO q' (exT i) R ∧ Φ' = (fun M w => Ψ2 M w ∧ stF q' (exT i) M w) ∧ k = 32 - i)
    ⟨⟨_, _, _, instStableSt Ψ2 qt stNew, fun w G cx => cx.weak fun M w h => ⟨h, (toΦ _ _ (g1 _ _ h)).2⟩, 0, qt, rfl, by decide, rfl, hqt, rfl, rfl, rfl⟩, ?_⟩
  rintro iI R1 Φ1 k _ ⟨i, q', rfl, hi, hbq, hq', rfl, rfl, rfl⟩
  refine Br.intro (fun hlt => fun w G cx => ?_) (fun hge => fun w G cx => ?_)
  · have hlt : i < 32 := by have := of_decide_eq_true hlt; omega
    refine ((digits29_g i (by omega)).in).toS cx fun w G cx => ?_
    refine put_at hbq hq' (exT_b i (by omega)) (by omega) (by show 2 ≤ _; decide) (by show 1 ≤ _; decide) cx fun q2 hb2 hq2 => ⟨by unfold I64; omega, _, _, 32 - (i + 1), instStableSt Ψ2 q2 _, fun w G cx => cx, ⟨i + 1, q2, by omega, by omega, hb2, hq2, rfl, rfl, rfl⟩, by omega⟩
  have hge : i = 32 := by have := of_decide_eq_false hge; omega
  subst hge
  have cxT := cx.re (stO_re q' (exT 32) R G)
  obtain ⟨Ψ3, st3, toΨ2, toT, hCT, _, hlayT⟩ := lay hq' cxT
  have cxb := hlayT _ _ cxT
  clear cx cxT hlayT
  have hlt := (exT_b 32 (by decide)).levels
  have hvt := (exT_b 32 (by decide)).c.ver
  rw [← hbq]
  have hruns := Runs_sl (Φ := Ψ3) (hΦ := ⟨toT⟩) (by omega) (fun l hl => by have := hlt.2.2 l hl; omega) (fun l hl r hr => by
    have h1 := List.sublist_flatten_of_mem hr |>.length_le
    have h2 := List.sublist_flatten_of_mem (List.mem_map_of_mem (f := List.flatten) hl) |>.length_le
    have h3 : ((exT 32).levels.map List.flatten).flatten.length ≤ 32 := by
      have e : ((exT 32).levels.map List.flatten).flatten = allRuns (exT 32).levels := by
        unfold allRuns
        rw [List.flatten_flatten]
      rw [e]
      unfold verP at hvt
      rw [List.length_append] at hvt
      omega
    omega)
  rw [ex_runs] at hruns
  refine hruns.use cxb fun p3 c3 w _ _ cx => ?_
  clear cxb
  obtain ⟨b3, o3, cs3, hp3, cx⟩ := cx.pin cx.phi.2
  obtain rfl := hp3 (by decide)
  obtain ⟨pa, ca, ea⟩ := pinl cx.phi.2 (j := 0) (by decide)
  obtain ⟨pb, cb, eb⟩ := pinl cx.phi.2 (j := 1) (by decide)
  obtain ⟨b4, o4, hpb, _⟩ := sl_int (pinl_sl cx.phi.2 (j := 1) (by decide) eb) (j := 0) (by decide)
  subst hpb
  obtain ⟨Ψ4, hΨ4⟩ : ∃ Ψ4 : PW, Ψ4 = (fun M w => (Ψ3 M w ∧ Sl M w (some ⟨b3, o3, none⟩) ([[], [32]] : List (List Int))) ∧ Pin b3 o3 cs3 ([[], [32]] : List (List Int)) M w) := ⟨_, rfl⟩
  have st4 : Stable Ψ4 := by rw [hΨ4]; exact instStableAnd (fun M w => Ψ3 M w ∧ Sl M w (some ⟨b3, o3, none⟩) ([[], [32]] : List (List Int))) (fun M w => Pin b3 o3 cs3 ([[], [32]] : List (List Int)) M w)
  have k1 : ∀ M w, Ψ4 M w → Ψ2 M w := fun M w h => by rw [hΨ4] at h; exact toΨ2 _ _ h.1.1
  have k2 : ∀ M w, Ψ4 M w → Pin b3 o3 cs3 ([[], [32]] : List (List Int)) M w := fun M w h => by rw [hΨ4] at h; exact h.2
  have toS : ∀ M w, Ψ4 M w → StR q3 exS M w := fun M w h => toR _ _ (g1 _ _ (k1 _ _ h))
  have toF : ∀ M w, Ψ4 M w → Φ M w := fun M w h => (toΦ _ _ (g1 _ _ (k1 _ _ h))).1
  rw [← hΨ4] at cx
  obtain ⟨b1, o1, hp1⟩ := ht1 (by decide)
  obtain ⟨b2, o2, hp2⟩ := ht2 (by decide)
  subst hp1 hp2
  refine ⟨_, _, c3, rfl, R, Ψ4, st4, cx, Br.intro (fun h => by simp at h) (fun _ => fun w G cx => ⟨by decide, ptrK_intro b3 o3 rfl ⟨pa, _, ca, pinl_at (k2 _ _ cx.phi) (j := 0) (by decide) ea, fun _ => by decide, ptrK_intro b3 o3 rfl ⟨_, _, cb, fun _ => pinl_at (k2 _ _ cx.phi) (j := 1) (by decide) eb, Br.intro (fun h => by simp at h) (fun _ => ⟨by decide, ptrK_intro b1 o1 rfl fun w G cx => ⟨tB, t2, ?_, by kernel_rfl, Br.intro (fun _ => fun w G cx => ?_) (fun h => by simp at h)⟩⟩)⟩⟩⟩)⟩
  · have := sl_pair (g2 _ _ (k1 _ _ cx.phi)) (j := 0) (by decide)
    rwa [Nat.zero_mul, Nat.add_zero] at this
  have hlen := Len_in (Φ := Ψ4) (hΦ := ⟨toS⟩) hC (by omega) (by omega) (by omega) exS_b.szs
  rw [ex_scan] at hlen
  refine hlen.toI cx (Br.intro (fun _ => fun w G cx => ?_) (fun h => by simp at h))
  have hvs := Versions_in (Φ := Ψ4) (hΦ := ⟨toS⟩) hC (by omega) (by omega) (by omega)
  rw [ev1] at hvs
  refine hvs.toI cx (Br.intro (fun _ => fun w G cx => ?_) (fun h => by simp at h))
  have hsq := Seq_in (Φ := Ψ4) (q := q3) (s := exS) (hΦ := ⟨toS⟩)
  rw [ev2] at hsq
  refine hsq.toI cx (Br.intro (fun _ => ⟨by decide, ptrK_intro b2 o2 rfl fun w G cx => ⟨2, ?_, Br.intro (fun _ => ⟨by decide, ptrK_intro b3 o3 rfl fun w G cx => ⟨_, _, cb, pinl_at (k2 _ _ cx.phi) (j := 1) (by decide) eb, by decide, ptrK_intro b4 o4 rfl fun w G cx => ?_⟩⟩) (fun h => by simp at h)⟩⟩) (fun h => by simp at h))
  · have h := sl_chg (g3 _ _ (k1 _ _ cx.phi)) (j := 0) (by rw [hlgl]; decide)
    have h2 := h 0 (by show 0 < 3; decide)
    have h3 : lg[0].seq = 2 := by
      have := List.getElem_of_eq hlg (i := 0) (by rw [hlg]; decide)
      simpa using this
    rw [Nat.zero_mul, Nat.add_zero] at h2
    rw [← h3]
    exact h2
  obtain ⟨b5, o5, e5, h5⟩ := sl_int (pinl_sl (k2 _ _ cx.phi) (j := 1) (by decide) eb) (j := 0) (by decide)
  cases e5
  exact ⟨32, h5, fun w G cx => ⟨rfl, cx.left.weak toF⟩⟩
end Go.Proofs.YtebnciehcnedjaaGreatDoor
end

/-
  How great levels and runs become, in plain Lean.
-/
section
set_option linter.unusedVariables false
set_option linter.unusedSimpArgs false
namespace Go.Proofs.YtebnciehcnedjaaGreatDoor
open Go.Vc


/-- a run of the level i weighs 4^i -/
def lvW : Nat → List Lev → Nat
  | _, [] => 0
  | i, l :: t => l.length * 4 ^ i + lvW (i + 1) t
structure WtB (s : StD) (n : Nat) : Prop where
  wt : lvW 0 s.levels ≤ n + 4
  len : s.levels ≠ [] → 4 ^ (s.levels.length - 1) ≤ n + 4
theorem WtB.more {s : StD} {n : Nat} (h : WtB s n) : WtB s (n + 1) := ⟨by have := h.wt; omega, fun hn => by have := h.len hn; omega⟩
theorem WtB.few {s : StD} {n : Nat} (h : WtB s n) (hn : n ≤ 400) : s.levels.length ≤ 5 := by
  rcases Nat.lt_or_ge 5 s.levels.length with h1 | h1
  · exfalso
    have h2 := h.len (fun e => by rw [e] at h1; simp at h1)
    have h3 : 4 ^ 5 ≤ 4 ^ (s.levels.length - 1) := Nat.pow_le_pow_right (by decide) (by omega)
    have h4 : (4 : Nat) ^ 5 = 1024 := by decide
    omega
  · exact h1

/-! ### the sizes of runs -/
/-! ### what the sizes come to -/
end Go.Proofs.YtebnciehcnedjaaGreatDoor
end

/-
  What was put last, in plain Lean.
-/
section
set_option linter.unusedVariables false
set_option linter.unusedSimpArgs false
namespace Go.Proofs.YtebnciehcnedjaaGreatDoor
open Go.Vc


/-- a store has what was put last -/
structure Last (s : StD) (h : Run) : Prop where
  get : ∀ k, getS s k = valK h.reverse k
  seq : s.seq = h.length
/-! ### counting -/
instance instDecMem (k : ByteArray) (l : List ByteArray) : Decidable (k ∈ l) := decidable_of_iff (l.any (fun y => decide (y = k)) = true) (by simp)
end Go.Proofs.YtebnciehcnedjaaGreatDoor
end

/-
  The conditions of the walks of some functions, one formula each; 'B<f>_run' says that they suffice. The formulas are printed by a program; the kernel compares them with the functions' code.
-/
section
namespace Go.Proofs.YtebnciehcnedjaaGreatDoor
set_option linter.unusedVariables false
set_option linter.unusedSimpArgs false
set_option maxRecDepth 100000
open Go.Vc

end Go.Proofs.YtebnciehcnedjaaGreatDoor
end

/-
  The conditions of the walks of some functions, one formula each; 'B<f>_run' says that they suffice. The formulas are printed by a program; the kernel compares them with the functions' code.
-/
section
namespace Go.Proofs.YtebnciehcnedjaaGreatDoor
set_option linter.unusedVariables false
set_option linter.unusedSimpArgs false
set_option maxRecDepth 100000
open Go.Vc

end Go.Proofs.YtebnciehcnedjaaGreatDoor
end

/-
  What was put last, walked.
-/
section
set_option linter.unusedVariables false
set_option linter.unusedSimpArgs false
namespace Go.Proofs.YtebnciehcnedjaaGreatDoor
open Go.Vc


end Go.Proofs.YtebnciehcnedjaaGreatDoor
end

/-
  StoreBounds, walked.
-/
section
set_option linter.unusedVariables false
set_option linter.unusedSimpArgs false
namespace Go.Proofs.YtebnciehcnedjaaGreatDoor
open Go.Vc


theorem st_drop {W w : World} {R G : List Own} {Φ : PW} [Stable Φ] {q : TO} {s : StD} (cx : Ctx W w (stO q s R ++ G) (fun M w => Φ M w ∧ stF q s M w)) : Ctx W w R Φ := by
  have c1 : Ctx W w (stO q s [] ++ (R ++ G)) (fun M w => Φ M w ∧ stF q s M w) := (cx.re (stO_re q s R G)).re (stO_app q s (R ++ G))
  have hst : Stable (fun M w => Φ M w ∧ stF q s M w) := instStableSt Φ q s
  have c2 := Ctx.right c1
  exact (c2.weak (Ψ := Φ) fun M w h => h.1).left

end Go.Proofs.YtebnciehcnedjaaGreatDoor
end

/-
  Changes that are done again, in plain Lean; equal lists of cells.
-/
section
set_option linter.unusedVariables false
set_option linter.unusedSimpArgs false
namespace Go.Proofs.YtebnciehcnedjaaGreatDoor
open Go.Vc


def putAll (s : StD) (ps : Run) : StD := ps.foldl (fun s x => putS s x.key x.val) s
theorem putAll_cons (s : StD) (x : PairD) (ps : Run) : putAll s (x :: ps) = putAll (putS s x.key x.val) ps := rfl
theorem putAll_snoc (s : StD) (ps : Run) (x : PairD) : putAll s (ps ++ [x]) = putS (putAll s ps) x.key x.val := by
  unfold putAll
  rw [List.foldl_append]
  rfl
def chgs (n : Int) : Run → List ChgD
  | [] => []
  | x :: ps => ⟨n + 1, x.key, x.val⟩ :: chgs (n + 1) ps
theorem chgs_len : ∀ (n : Int) (ps : Run), (chgs n ps).length = ps.length
  | _, [] => rfl
  | n, x :: ps => by rw [chgs, List.length_cons, List.length_cons, chgs_len]
theorem chgs_at : ∀ (n : Int) (ps : Run) (i : Nat) (h : i < ps.length) (h2 : i < (chgs n ps).length), (chgs n ps)[i] = ⟨n + i + 1, ps[i].key, ps[i].val⟩
  | n, x :: ps, 0, _, _ => by
    show (⟨n + 1, x.key, x.val⟩ : ChgD) = ⟨n + ((0 : Nat) : Int) + 1, x.key, x.val⟩
    rw [show n + ((0 : Nat) : Int) + 1 = n + 1 by omega]
  | n, x :: ps, i + 1, h, h2 => by
    have := chgs_at (n + 1) ps i (by simpa using h) (by rw [chgs_len]; simpa using h)
    show (chgs (n + 1) ps)[i]'(by rw [chgs_len]; simpa using h) = _
    rw [this, List.getElem_cons_succ, show n + 1 + (i : Int) + 1 = n + ((i + 1 : Nat) : Int) + 1 by omega]
theorem putAll_log : ∀ (ps : Run) (s : StD), (putAll s ps).log = s.log ++ chgs s.seq ps ∧ (putAll s ps).seq = s.seq + ps.length ∧ (putAll s ps).cut = s.cut
  | [], s => ⟨by show s.log = s.log ++ []; rw [List.append_nil], by show s.seq = s.seq + ((0 : Nat) : Int); omega, rfl⟩
  | x :: ps, s => by
    obtain ⟨h1, h2, h3⟩ := putAll_log ps (putS s x.key x.val)
    rw [putAll_cons]
    refine ⟨?_, ?_, h3⟩
    · rw [h1]
      show s.log ++ [(⟨s.seq + 1, x.key, x.val⟩ : ChgD)] ++ chgs (s.seq + 1) ps = s.log ++ (⟨s.seq + 1, x.key, x.val⟩ :: chgs (s.seq + 1) ps)
      rw [List.append_assoc]; rfl
    · rw [h2]
      show s.seq + 1 + (ps.length : Int) = s.seq + ((ps.length + 1 : Nat) : Int)
      omega
theorem putAll_b {top : Int} (ht : 0 ≤ top ∧ top ≤ 1099511627776) : ∀ (ps : Run) {s : StD} {n : Nat}, n + ps.length ≤ 1000 → StB top s n → Fit1 ps → StB top (putAll s ps) (n + ps.length)
  | [], s, n, _, h, _ => h
  | x :: ps, s, n, hn, h, hf => by
    rw [List.length_cons] at hn ⊢
    have hx := hf x (by simp)
    have := putAll_b ht ps (s := putS s x.key x.val) (n := n + 1) (by omega) (put_b ht (by omega) h hx.1 hx.2) fun y hy => hf y (by simp [hy])
    rw [putAll_cons, show n + (ps.length + 1) = n + 1 + ps.length by omega]
    exact this
theorem putAll_get : ∀ (ps : Run) {s t : StD}, StI s → StI t → (∀ k, getS s k = getS t k) → ∀ k, getS (putAll s ps) k = getS (putAll t ps) k
  | [], _, _, _, _, h, k => h k
  | x :: ps, s, t, hs, ht, h, k => by
    rw [putAll_cons, putAll_cons]
    exact putAll_get ps (put_i hs _ _) (put_i ht _ _) (fun q => by rw [put_get hs, put_get ht, h]) k
/-- an operation that neither trims nor restores -/
theorem step_put {s : StD} {x : OpD} (h5 : andZ x.dop 7 ≠ 5) (h7 : andZ x.dop 7 ≠ 7) : (stepS s x).1 = s ∨ (stepS s x).1 = putS s x.key x.val := by
  unfold stepS
  rw [if_neg h5, if_neg h7]
  split
  · show (applyS s x.n x.key x.val).2 = _ ∨ (applyS s x.n x.key x.val).2 = _
    unfold applyS
    split
    · exact .inr rfl
    · exact .inl rfl
  · exact .inr rfl
theorem rest_get (s : StD) (k : ByteArray) : getS (restS s.seq (allS s)) k = getS s k := by
  rw [← all_val s]
  show valK (verP (restS s.seq (allS s))) k = _
  rw [rest_ver]
theorem snap_eq {s t : StD} (h : ∀ k, getS s k = getS t k) (hq : s.seq = t.seq) : snapB s = snapB t ∧ scanS s tE = scanS t tE := by
  have e := all_eq h
  unfold snapB
  rw [scan_all, scan_all, e, hq]
  exact ⟨rfl, rfl⟩

theorem apply_at {W w : World} {S G : List Own} {Φ : PW} [Stable Φ] {q : TO} {b : Nat} (hb : q.sb = b) {s : StD} {n : Nat} {top : Int} (hq : StQ q s) (hB : StB top s n) (hn : n ≤ 400) {m : Int} {k v : ByteArray} (hk : k.size ≤ 1000) (hv : v.size ≤ 1000)
    (cx : Ctx W w (stO q s S ++ G) (fun M w => Φ M w ∧ stF q s M w)) {K : Int → List Own → PW → Prop}
    (hK : ∀ q', q'.sb = b → StQ q' (applyS s m k v).2 → K (applyS s m k v).1 (stO q' (applyS s m k v).2 S) (fun M w => Φ M w ∧ stF q' (applyS s m k v).2 M w)) :
    Calls Tryz.prog F.store_Store_Apply #[.pointer (some ⟨b, 0, none⟩), .agg #[.int .i64 m, .string k, .string v]] w fun e w' => ∃ n, e = .returned (.int .i64 n) ∧ ∃ R' Φ', Stable Φ' ∧ Ctx W w' (R' ++ G) Φ' ∧ K n R' Φ' := by
  subst hb
  exact apply_use (S := S ++ G) hq hB.i hB.c hn (by unfold maxLen; omega) (by unfold maxLen; omega) (cx.re (stO_re q s S G)) fun q' w' hb hq' cx2 => ⟨_, rfl, stO q' (applyS s m k v).2 S, _, instStableSt Φ q' _, cx2.re (stO_re q' _ S G).symm, hK q' hb hq'⟩

theorem SamePairs_in {Φ : PW} [Stable Φ] {p q : Option Addr} {c d : Nat} {a b : Run} (h1 : ∀ M w, Φ M w → Sl M w p a) (h2 : ∀ M w, Φ M w → Sl M w q b) (hl : a.length ≤ maxLen) :
    GivesIn Φ Tryz.prog F.errataref29_SamePairs #[.slice p a.length c, .slice q b.length d] (.bool (decide (a = b))) := by
  refine .there (fun M w x => (h1 M w x).there) fun ht1 => .there (fun M w x => (h2 M w x).there) fun ht2 => ?_
  refine gives_in (Berrataref29_SamePairs_run p a.length c q b.length d) fun W R => Br.intro (fun hne => fun w G cx => ⟨?_, cx.left⟩) (fun heq => ?_)
  · rw [decide_eq_false fun e => by have := of_decide_eq_true hne; rw [e] at this; exact this rfl]
  have heq : a.length = b.length := by have := Decidable.not_not.1 (of_decide_eq_false heq); omega
  refine exI_mk (fun n R' Φ' k => ∃ i : Nat, n = i ∧ i ≤ a.length ∧ a.take i = b.take i ∧ R' = R ∧ Φ' = Φ ∧ k = a.length - i) ⟨⟨R, Φ, _, inferInstance, fun w G cx => cx, 0, rfl, Nat.zero_le _, rfl, rfl, rfl, rfl⟩, ?_⟩
  rintro n R1 Φ1 k _ ⟨i, rfl, hi, he, rfl, rfl, rfl⟩
  refine Br.intro (fun hlt => fun w G cx => ?_) (fun hge => fun w G cx => ⟨?_, cx.left⟩)
  · have hlt : i < a.length := by have := of_decide_eq_true hlt; omega
    obtain ⟨b1, o1, rfl⟩ := ht1 (by omega)
    obtain ⟨b2, o2, rfl⟩ := ht2 (by omega)
    have hlt2 : i < b.length := by omega
    refine ⟨⟨by omega, by omega⟩, ptrK_intro b1 o1 rfl ⟨a[i].key, a[i].val, by rw [Int.toNat_natCast]; exact sl_pair (h1 _ _ cx.phi) hlt, ⟨by omega, by omega⟩, ptrK_intro b2 o2 rfl ⟨b[i].key, b[i].val, by rw [Int.toNat_natCast]; exact sl_pair (h2 _ _ cx.phi) hlt2, by kernel_rfl, Br.intro (fun hne => fun w G cx => ⟨?_, cx.left⟩) (fun hs => ⟨by unfold I64; unfold maxLen at hl; omega, R1, Φ1, a.length - (i + 1), inferInstance, fun w G cx => cx, ⟨i + 1, rfl, hlt, ?_, rfl, rfl, rfl⟩, by omega⟩)⟩⟩⟩
    · rw [decide_eq_false fun e => by
        subst e
        simp at hne]
    · have hs : a[i] = b[i] := by
        rw [Bool.not_eq_false', Bool.and_true, Bool.and_eq_true] at hs
        exact pair_ext.2 ⟨of_decide_eq_true hs.1, of_decide_eq_true hs.2⟩
      rw [List.take_succ_eq_append_getElem hlt, List.take_succ_eq_append_getElem hlt2, he, hs]
  · have hge : i = a.length := by have := of_decide_eq_false hge; omega
    subst hge
    rw [List.take_length, heq, List.take_length] at he
    rw [decide_eq_true he]
end Go.Proofs.YtebnciehcnedjaaGreatDoor
end

/-
  StoreReplays, walked.
-/
section
set_option linter.unusedVariables false
set_option linter.unusedSimpArgs false
namespace Go.Proofs.YtebnciehcnedjaaGreatDoor
open Go.Vc


theorem few_yes {l : List OpD} {n : Int} (h : (!fewO l n) = false) : fewO l n = true := by cases e : fewO l n with
  | true => rfl
  | false => rw [e] at h; cases h

set_option maxHeartbeats 8000000 in
theorem Replays_in {Φ : PW} [Stable Φ] {p q1 : Option Addr} {cap d : Nat} {l more : List OpD} (hN : ∀ M w, Φ M w → NumI M w) (hΦ : ∀ M w, Φ M w → Sl M w p l) (hΦ2 : ∀ M w, Φ M w → Sl M w q1 more) (hl : l.length ≤ maxLen) (hm : more.length ≤ maxLen) :
    GivesIn Φ Tryz.prog F.erratalaw29_StoreReplays #[.slice p l.length cap, .slice q1 more.length d] (.bool true) := by
  refine .there (fun M w h => (hΦ M w h).there) fun hth => .there (fun M w h => (hΦ2 M w h).there) fun hthm => ?_
  refine gives_in (Berratalaw29_StoreReplays_run p l.length cap q1 more.length d) fun W R => fun w G cx => ?_
  refine (small29_g.in).toB cx fun w G cx => ?_
  refine New_use cx fun q0 w hq0 cx => ⟨_, rfl, stO q0 stNew R, _, instStableSt Φ q0 stNew, cx.re (stO_re _ _ _ _).symm, fun w G cx => ?_⟩
  have hst0 : Stable (fun M w => Φ M w ∧ stF q0 stNew M w) := instStableSt Φ q0 stNew
  refine (few_in (Φ := fun M w => Φ M w ∧ stF q0 stNew M w) (fun M w h => hΦ M w h.1) hl).toB cx (Br.intro (fun _ => fun w G cx => fun w G cx => ⟨rfl, st_drop cx⟩) (fun hf => fun w G cx => ?_))
  refine (few_in (Φ := fun M w => Φ M w ∧ stF q0 stNew M w) (fun M w h => hΦ2 M w h.1) hm).toB cx (Br.intro (fun _ => fun w G cx => fun w G cx => ⟨rfl, st_drop cx⟩) (fun hf2 => Br.intro (fun h => by cases h) (fun _ => ?_)))
  have hl3 := fewO_len (few_yes hf)
  have hfit := fewO_fit (few_yes hf)
  have hm3 := fewO_len (few_yes hf2)
  have hfit2 := fewO_fit (few_yes hf2)
  clear cx
  refine exI_mk (fun pS nI R' Φ' k => ∃ (i : Nat) (q : TO) (s : StD), nI = i ∧ i ≤ l.length ∧ pS = some ⟨q.sb, 0, none⟩ ∧ StQ q s ∧ StB 0 s i ∧ R' = stO q s R ∧ Φ' = (fun M w => Φ M w ∧ stF q s M w) ∧ k = l.length - i)
    ⟨⟨_, _, _, hst0, fun w G cx => cx, 0, q0, stNew, rfl, Nat.zero_le _, rfl, hq0, new_b, rfl, rfl, rfl⟩, ?_⟩
  rintro pS nI R1 Φ1 k _ ⟨i, q, s, rfl, hi, rfl, hq, hB, rfl, rfl, rfl⟩
  refine Br.intro (fun hlt => ?_) (fun hge => ?_)
  · have hlt : i < l.length := by have := of_decide_eq_true hlt; omega
    obtain ⟨g, o, rfl⟩ := hth (by omega)
    have hfx := hfit _ (List.getElem_mem hlt)
    refine ⟨⟨by omega, by omega⟩, ptrK_intro g o rfl fun w G cx => ⟨l[i].dop, l[i].n, l[i].key, l[i].val, by rw [Int.toNat_natCast]; exact sl_op (hΦ _ _ cx.phi.1) hlt, fun w G cx => ?_⟩⟩
    refine do_use (S := R ++ G) hN hq hB (by omega) hfx.1 hfx.2 (cx.re (stO_re q s R G)) fun q' w hq' cx => ⟨_, _, rfl, stO q' (stepS s l[i]).1 R, _, instStableSt Φ q' _, cx.re (stO_re q' _ R G).symm, Br.intro (fun h => by cases h) (fun _ => ⟨by unfold I64; omega, _, _, l.length - (i + 1), instStableSt Φ q' _, fun w G cx => cx, ⟨i + 1, q', _, by omega, by omega, rfl, hq', step_b ⟨by decide, by decide⟩ (by omega) hB hfx.1 hfx.2, rfl, rfl, rfl⟩, by omega⟩)⟩
  -- the snapshot
  have hge : i = l.length := by have := of_decide_eq_false hge; omega
  subst hge
  have hlv := hB.levels
  have hver := hB.c.ver
  have hsq0 := hB.lo
  have hsq1 := hB.hi
  have hst1 : Stable (fun M w => Φ M w ∧ stF q s M w) := instStableSt Φ q s
  refine fun w G cx => ?_
  have hC := st_caps (S := R ++ G) hq (cx.re (stO_re q s R G))
  refine look (S := R ++ G) hq (v := .string (snapB s)) (cx.re (stO_re q s R G)) (fun Ψ h1 h2 h3 => Snapshot_in (hΦ := h2) (fun M w h => (hN M w (h3.go M w h)).1) hC (by omega) (by omega) (by omega) hB.f (by unfold I64; omega)) fun w cx => ⟨_, rfl, stO q s R, _, hst1, cx.re (stO_re q s R G).symm, fun w G cx => ?_⟩
  refine look (S := R ++ G) hq (v := .int .i64 s.seq) (cx.re (stO_re q s R G)) (fun Ψ h1 h2 h3 => Seq_in (hΦ := h2)) fun w cx => ⟨_, rfl, stO q s R, _, hst1, cx.re (stO_re q s R G).symm, ?_⟩
  clear cx
  refine exI_mk (fun pS nI R' Φ' k => ∃ (j : Nat) (q' : TO) (ps : Run), nI = j ∧ j ≤ more.length ∧ pS = some ⟨q'.sb, 0, none⟩ ∧ StQ q' (putAll s ps) ∧ ps.length ≤ j ∧ Fit1 ps ∧ R' = stO q' (putAll s ps) R ∧ Φ' = (fun M w => Φ M w ∧ stF q' (putAll s ps) M w) ∧ k = more.length - j)
    ⟨⟨_, _, _, hst1, fun w G cx => cx, 0, q, [], rfl, Nat.zero_le _, rfl, hq, Nat.le_refl _, fun x hx => (by cases hx), rfl, rfl, rfl⟩, ?_⟩
  rintro pS nI R1 Φ1 k _ ⟨j, q', ps, rfl, hj, rfl, hq', hpj, hfp, rfl, rfl, rfl⟩
  have hB' : StB 0 (putAll s ps) (l.length + ps.length) := putAll_b ⟨by decide, by decide⟩ ps (by omega) hB hfp
  refine Br.intro (fun hlt => ?_) (fun hge => ?_)
  · have hlt : j < more.length := by have := of_decide_eq_true hlt; omega
    obtain ⟨g, o, rfl⟩ := hthm (by omega)
    have hfx := hfit2 _ (List.getElem_mem hlt)
    have hst2 : Stable (fun M w => Φ M w ∧ stF q' (putAll s ps) M w) := instStableSt Φ q' _
    refine ⟨⟨by omega, by omega⟩, ptrK_intro g o rfl fun w G cx => ⟨more[j].dop, by rw [Int.toNat_natCast]; exact sl_op (hΦ2 _ _ cx.phi.1) hlt 0 (by show 0 < 4; decide), andZ more[j].dop 7, fun w => and_run _ _ _, fun w G cx => Br.intro (fun hk => ⟨⟨by omega, by omega⟩, ptrK_intro g o rfl fun w G cx => ⟨more[j].dop, more[j].n, more[j].key, more[j].val, by rw [Int.toNat_natCast]; exact sl_op (hΦ2 _ _ cx.phi.1) hlt, fun w G cx => ?_⟩⟩) (fun hk => ⟨by unfold I64; omega, _, _, more.length - (j + 1), hst2, fun w G cx => cx, ⟨j + 1, q', ps, by omega, by omega, rfl, hq', by omega, hfp, rfl, rfl, rfl⟩, by omega⟩)⟩⟩
    rw [Bool.and_eq_true] at hk
    have h5 := of_decide_eq_true hk.1
    have h7 := of_decide_eq_true hk.2
    refine do_use (S := R ++ G) hN hq' hB' (by omega) hfx.1 hfx.2 (cx.re (stO_re q' _ R G)) fun q2 w hq2 cx => ?_
    have hps : ∃ ps2 : Run, (stepS (putAll s ps) more[j]).1 = putAll s ps2 ∧ ps2.length ≤ j + 1 ∧ Fit1 ps2 := by
      rcases step_put (s := putAll s ps) h5 h7 with e | e
      · exact ⟨ps, e, by omega, hfp⟩
      · refine ⟨ps ++ [⟨more[j].key, more[j].val⟩], by rw [e, putAll_snoc], by rw [List.length_append, List.length_singleton]; omega, fun x hx => ?_⟩
        rcases List.mem_append.1 hx with hx | hx
        · exact hfp x hx
        · rw [List.mem_singleton.1 hx]; exact hfx
    obtain ⟨ps2, e2, hl2, hf2⟩ := hps
    rw [e2] at hq2 cx
    exact ⟨_, _, rfl, stO q2 (putAll s ps2) R, _, instStableSt Φ q2 _, cx.re (stO_re q2 _ R G).symm, by unfold I64; omega, _, _, more.length - (j + 1), instStableSt Φ q2 _, fun w G cx => cx, ⟨j + 1, q2, ps2, by omega, by omega, rfl, hq2, hl2, hf2, rfl, rfl, rfl⟩, by omega⟩
  -- the changes since then
  have hge : j = more.length := by have := of_decide_eq_false hge; omega
  subst hge
  obtain ⟨s', hs'⟩ : ∃ s', putAll s ps = s' := ⟨_, rfl⟩
  obtain ⟨hlog, hseq, hcut⟩ := putAll_log ps s
  rw [hs'] at hq' hB' hlog hseq hcut ⊢
  have hlv' := hB'.levels
  have hver' := hB'.c.ver
  have hlog' := hB'.c.log
  have hcs := hB.l.le
  have hlen := hB.l.len
  refine fun w G cx => ?_
  have cxS := cx.re (stO_re q' s' R G)
  obtain ⟨Ψ, stΨ, toΦ, toR, hC', _, hlay⟩ := lay hq' cxS
  have cxa := hlay _ _ cxS
  clear cx cxS hlay
  have hsince := Since_sl (Φ := Ψ) (hΦ := ⟨toR⟩) hC' hB'.l (by omega) (n := s.seq) (by rw [hcut]; omega) (by rw [hseq]; omega)
  have hdrop : s'.log.drop (s.seq - s'.cut).toNat = chgs s.seq ps := by
    rw [hlog, hcut]
    exact List.drop_left' (by omega)
  rw [hdrop] at hsince
  refine hsince.use cxa fun p1 c1 w _ _ cx => ?_
  have ht1 := cx.phi.2.there
  rw [chgs_len] at ht1 ⊢
  obtain ⟨Ψ2, hΨ2⟩ : ∃ Ψ2 : PW, Ψ2 = (fun M w => Ψ M w ∧ Sl M w p1 (chgs s.seq ps)) := ⟨_, rfl⟩
  have st2 : Stable Ψ2 := by rw [hΨ2]; exact instStableAnd Ψ (fun M w => Sl M w p1 (chgs s.seq ps))
  have g1 : ∀ M w, Ψ2 M w → Ψ M w := fun M w h => by rw [hΨ2] at h; exact h.1
  have g2 : ∀ M w, Ψ2 M w → Sl M w p1 (chgs s.seq ps) := fun M w h => by rw [hΨ2] at h; exact h.2
  have gN : ∀ M w, Ψ2 M w → NumI M w := fun M w h => hN _ _ (toΦ _ _ (g1 _ _ h))
  rw [← hΨ2] at cx
  refine ⟨p1, _, c1, _, rfl, R, Ψ2, st2, cx, fun w G cx => ?_⟩
  have hsn : snapB s = bs (snapL s.seq (allS s)) := by unfold snapB; rw [scan_all]; rfl
  have ha := all_sub (s := s)
  have hfa : Fit1 (allS s) := fun x hx => hB.f x (ha.2 x hx)
  have hrest : restL (snapL s.seq (allS s)) = some (restS s.seq (allS s)) := rest_snap hsq0 (by omega) hfa (all_ne s) (all_asc s) (by omega)
  have hsl : (snapL s.seq (allS s)).length ≤ 1000000 := by
    have h1 := pairsL_len hfa
    have h2 := headL_len (seq := s.seq) (by unfold I64; omega) (n := (allS s).length) (by omega)
    unfold snapL
    rw [List.length_append]; omega
  rw [hsn]
  refine Restore_use (S := R ++ G) (Φ := Ψ2) gN (snapL s.seq (allS s)) hsl cx (fun w' h => by rw [hrest] at h; cases h) fun qt t w hr hqt cx => ?_
  rw [hrest] at hr
  cases hr
  obtain ⟨t, ht⟩ : ∃ t, restS s.seq (allS s) = t := ⟨_, rfl⟩
  rw [ht] at hqt cx
  have hBt : StB 0 t (l.length + 1) := by rw [← ht]; exact restS_b hB
  have hBi : ∀ i, StB 0 (putAll t (ps.take i)) (l.length + 1 + (ps.take i).length) := fun i => putAll_b ⟨by decide, by decide⟩ (ps.take i) (by rw [List.length_take]; omega) hBt fun x hx => hfp x (List.mem_of_mem_take hx)
  have hgt : ∀ k, getS t k = getS s k := fun k => by rw [← ht]; exact rest_get s k
  have hst : t.seq = s.seq := by rw [← ht]; rfl
  refine ⟨_, _, rfl, stO qt t R, _, instStableSt Ψ2 qt t, cx.re (stO_re qt t R G).symm, fun w G cx => Br.intro (fun h => by simp at h) (fun _ => ?_)⟩
  clear cx
  refine exI_mk (fun nI R' Φ' k => ∃ (i : Nat) (q2 : TO), nI = i ∧ i ≤ ps.length ∧ q2.sb = qt.sb ∧ StQ q2 (putAll t (ps.take i)) ∧ R' = stO q2 (putAll t (ps.take i)) R ∧ Φ' = (fun M w => Ψ2 M w ∧ stF q2 (putAll t (ps.take i)) M w) ∧ k = ps.length - i)
    ⟨⟨_, _, _, instStableSt Ψ2 qt t, fun w G cx => cx, 0, qt, rfl, Nat.zero_le _, rfl, hqt, rfl, rfl, rfl⟩, ?_⟩
  rintro nI R1 Φ1 k _ ⟨i, q2, rfl, hi2, hb2, hq2, rfl, rfl, rfl⟩
  refine Br.intro (fun hlt => ?_) (fun hge => ?_)
  · have hlt : i < ps.length := by have := of_decide_eq_true hlt; omega
    obtain ⟨b1, o1, rfl⟩ := ht1 (by omega)
    have hx := hfp _ (List.getElem_mem hlt)
    have hca := chgs_at s.seq ps i hlt (by rw [chgs_len]; exact hlt)
    refine ⟨⟨by omega, by omega⟩, ptrK_intro b1 o1 rfl fun w G cx => ⟨s.seq + i + 1, ps[i].key, ps[i].val, ?_, fun w G cx => ?_⟩⟩
    · have h := sl_chg (g2 _ _ cx.phi.1) (j := i) (by rw [chgs_len]; exact hlt)
      rw [hca] at h
      rw [Int.toNat_natCast]
      exact h
    have hsi : (putAll t (ps.take i)).seq = s.seq + i := by
      rw [(putAll_log (ps.take i) t).2.1, hst, List.length_take, Nat.min_eq_left (by omega)]
    refine apply_at hb2 hq2 (hBi i) (by rw [List.length_take]; omega) hx.1 hx.2 cx fun q3 hb3 hq3 => ?_
    have ea : applyS (putAll t (ps.take i)) (s.seq + i + 1) ps[i].key ps[i].val = (0, putAll t (ps.take (i + 1))) := by
      rw [List.take_succ_eq_append_getElem hlt, putAll_snoc]
      exact if_pos (by rw [hsi])
    rw [ea] at hq3 ⊢
    exact Br.intro (fun h => absurd rfl (of_decide_eq_true h)) (fun _ => ⟨by unfold I64; omega, _, _, ps.length - (i + 1), instStableSt Ψ2 q3 _, fun w G cx => cx, ⟨i + 1, q3, by omega, by omega, hb3, hq3, rfl, rfl, rfl⟩, by omega⟩)
  have hge : i = ps.length := by have := of_decide_eq_false hge; omega
  subst hge
  have hBe := hBi ps.length
  rw [List.take_length] at hBe hq2 ⊢
  obtain ⟨t', ht'⟩ : ∃ t', putAll t ps = t' := ⟨_, rfl⟩
  have hget : ∀ k, getS t' k = getS s' k := fun k => by rw [← ht', ← hs']; exact putAll_get ps hBt.i hB.i hgt k
  have hseqt : t'.seq = s'.seq := by rw [← ht', (putAll_log ps t).2.1, hst, hseq]
  obtain ⟨hsnap, hscan⟩ := snap_eq hget hseqt
  rw [ht'] at hBe hq2 ⊢
  have hlvt := hBe.levels
  have hvert := hBe.c.ver
  have hlot := hBe.lo
  have hhit := hBe.hi
  have hlo' := hB'.lo
  have hhi' := hB'.hi
  have hstT : Stable (fun M w => Ψ2 M w ∧ stF q2 t' M w) := instStableSt Ψ2 q2 t'
  rw [← hb2]
  refine Br.intro (fun _ => fun w G cx => ?_) (fun h => by cases h)
  have hCt := st_caps (S := R ++ G) hq2 (cx.re (stO_re q2 t' R G))
  refine look (S := R ++ G) hq2 (v := .string (snapB t')) (cx.re (stO_re q2 t' R G)) (fun Ψ h1 h2 h3 => Snapshot_in (hΦ := h2) (fun M w h => (gN M w (h3.go M w h)).1) hCt (by omega) (by omega) (by omega) hBe.f (by unfold I64; omega)) fun w cx => ⟨_, rfl, stO q2 t' R, _, hstT, cx.re (stO_re q2 t' R G).symm, fun w G cx => ?_⟩
  refine (Snapshot_in (Φ := fun M w => Ψ2 M w ∧ stF q2 t' M w) (hΦ := ⟨fun M w h => toR _ _ (g1 _ _ h.1)⟩) (fun M w h => (gN _ _ h.1).1) hC' (by omega) (by omega) (by omega) hB'.f (by unfold I64; omega)).toS cx (Br.intro (fun _ => fun w G cx => ?_) (fun h => absurd hsnap (of_decide_eq_false h)))
  refine look (S := R ++ G) hq2 (v := .int .i64 t'.seq) (cx.re (stO_re q2 t' R G)) (fun Ψ h1 h2 h3 => Seq_in (hΦ := h2)) fun w cx => ⟨_, rfl, stO q2 t' R, _, hstT, cx.re (stO_re q2 t' R G).symm, fun w G cx => ?_⟩
  refine (Seq_in (Φ := fun M w => Ψ2 M w ∧ stF q2 t' M w) (q := q') (s := s') (hΦ := ⟨fun M w h => toR _ _ (g1 _ _ h.1)⟩)).toI cx (Br.intro (fun _ => fun w G cx => ?_) (fun h => absurd hseqt (of_decide_eq_false h)))
  have cxT := cx.re (stO_re q2 t' R G)
  obtain ⟨Ψ3, st3, toΨ2, toT, _, hunlay, hlayT⟩ := lay hq2 cxT
  have cxb := hlayT _ _ cxT
  clear cx cxT hlayT
  refine (Scan_sl (Φ := Ψ3) (pre := tE) (hΦ := ⟨toT⟩) hCt (by omega) (by omega) (by omega) hBe.szs (by show 0 ≤ _; omega)).tot cxb fun p2 c2 _ _ ht2 st4 => fun w G cx => ?_
  refine (Scan_sl (Φ := fun M w => Ψ3 M w ∧ Sl M w p2 (scanS t' tE)) (pre := tE) (hΦ := ⟨fun M w h => toR _ _ (g1 _ _ (toΨ2 _ _ h.1))⟩) hC' (by omega) (by omega) (by omega) hB'.szs (by show 0 ≤ _; omega)).tot cx fun p3 c3 _ _ ht3 st5 => fun w G cx => ?_
  have hsl2 : (scanS t' tE).length ≤ maxLen := by
    rw [scan_all]
    have := (all_sub (s := t')).1
    unfold maxLen; omega
  refine (SamePairs_in (Φ := fun M w => (Ψ3 M w ∧ Sl M w p2 (scanS t' tE)) ∧ Sl M w p3 (scanS s' tE)) (fun M w h => h.1.2) (fun M w h => h.2) hsl2).toB cx (Br.intro (fun _ => fun w G cx => ?_) (fun h => absurd hscan (of_decide_eq_false h)))
  refine (Seq_in (Φ := fun M w => (Ψ3 M w ∧ Sl M w p2 (scanS t' tE)) ∧ Sl M w p3 (scanS s' tE)) (q := q2) (s := t') (hΦ := ⟨fun M w h => toT _ _ h.1.1⟩)).toI cx fun w G cx => ?_
  have cx2 := (hunlay _ _ (cx.weak fun M w h => h.1.1)).re (stO_re q2 t' R G).symm
  refine apply_at rfl hq2 hBe (by omega) (by show 0 ≤ _; omega) (by show 0 ≤ _; omega) cx2 fun q3 hb3 hq3 => fun w G cx => ?_
  have ea : applyS t' t'.seq tE tE = (25, t') := if_neg (by omega)
  have cx3 : Ctx W w R Ψ2 := by
    rw [show ByteArray.mk #[] = tE from rfl, ea] at cx
    exact st_drop cx
  refine ⟨?_, cx3.weak fun M w h => toΦ _ _ (g1 _ _ h)⟩
  rw [show ByteArray.mk #[] = tE from rfl, ea]
  rfl
end Go.Proofs.YtebnciehcnedjaaGreatDoor
end

/-
  From what a row lists as laid to the facts of the walk.
-/
section
set_option linter.unusedVariables false
set_option linter.unusedSimpArgs false
namespace Go.Proofs.YtebnciehcnedjaaGreatDoor
open Go.Vc Go.RowKit


theorem la_row (u : TypeId) (h : Tryz.prog.typeName? 3 u = some "*errors.errorString") : u = 172 :=
  typeName_ptr_named (nm := "errors.errorString") (by rw [show "*" ++ "errors.errorString" = "*errors.errorString" by decide]; kernel_rfl) (by kernel_rfl) (by decide) u (by rw [show "*" ++ "errors.errorString" = "*errors.errorString" by decide]; exact h)

theorem la_err {n : String} {text : List UInt8} {r : List (String × DataW Unit)} {W : World} {g : Nat} (h : laidMet Tryz.prog ((n, .iface "*errors.errorString" (.ptr (.agg [.lit (.string text)]))) :: r) W)
    (hg : Tryz.prog.globalNamed n = some g) (ht : (Tryz.prog.globals[g]?).map (·.type) = some 91) : ErrAt g [] W := by
  obtain ⟨a, s, hv, _⟩ := laid_sentinel h hg ht Tryz.underlying91 la_row Tryz.underlying172 Tryz.underlying174 rfl rfl Tryz.underlying9 (by kernel_rfl) (by kernel_rfl)
  exact ⟨by simp, _, by have h0 := World.var?_cell hg hv 0; simpa using h0, .inr ⟨_, _, rfl⟩⟩

theorem la_num {W : World} (h : laidMetH Tryz.prog Rows.storeBoundsRow.laid W) : NumI [] W := by
  rw [MakeChecks.laidMetH_plain Tryz.prog Rows.storeBoundsRow.laid W (by kernel_rfl)] at h
  have h2 := h.tail.tail
  exact ⟨Tab.start (Lib.tabIs_of_head (k := .u64) (zs := Lib.pow10Tab) (g := 3) (t := 166) (e := 154) (n := 20) (by kernel_rfl) (by kernel_rfl) (by kernel_rfl) (by kernel_rfl) (by kernel_rfl) (by kernel_rfl) h2),
    la_err h2.tail.tail (by kernel_rfl) (by kernel_rfl), la_err h2.tail (by kernel_rfl) (by kernel_rfl)⟩

end Go.Proofs.YtebnciehcnedjaaGreatDoor
end

section
set_option linter.unusedVariables false
set_option linter.unusedSimpArgs false
namespace Go.Proofs.YtebnciehcnedjaaGreatDoor
open Go.ChangeShapes Go.WideShapes Go.ChangeAt Go.RowKit Go.Vc


theorem df_own : ownKnob Tryz.prog.godebug = none := by kernel_rfl
theorem df_laid : laidOutB Tryz.prog = true := by kernel_rfl

theorem trodAll_n {H : Type} {enc : TypeId × Value → H} {P : Program} {w : World} {base : Nat} {spare : Nat → Bool} {held : Bool} {t0 t1 : TypeId} {args : Array Value} {ds : List (DataW H)} {ps : List MemPlace} (h : DataW.TrodAll enc P w base spare held [t0, t1] args.toList ds ps) :
    ∃ v0 v1 d0 d1 p0 p1, args = #[v0, v1] ∧ ds = [d0, d1] ∧ ps = p0 ++ p1 ∧ DataW.Trod enc P w base spare held t0 v0 d0 p0 ∧ DataW.Trod enc P w base spare held t1 v1 d1 p1 := by
  obtain ⟨v0, vs0, d0, ds0, p0, q0, hargs, rfl, rfl, h0, h⟩ := trodAll_cons h
  obtain ⟨v1, vs1, d1, ds1, p1, q1, rfl, rfl, rfl, h1, h⟩ := trodAll_cons h
  obtain ⟨rfl, rfl, rfl⟩ := trodAll_nil h
  exact ⟨v0, v1, d0, d1, p0, p1, by cases args; simp_all, rfl, by simp, h0, h1⟩

theorem door_met (os : Os) (args : Array Value) : laidMetH Tryz.prog Rows.storeReplaysRow.laid ((World.doorLaid Tryz.prog 400 os).forCall (fun _ _ => 0) ⟨#[], args, []⟩).memory :=
  laidMetH_of_parts3 (fuel := 8) (laidMet_of_run' 8 (by kernel_rfl) (by kernel_rfl)) (by kernel_rfl) (by kernel_rfl)

set_option maxRecDepth 100000 in
theorem law_lifted (os : Os) (started : os.Started) (H : Type) (enc : TypeId × Value → H) :
    ReturnsInHanded {} Tryz.checked os 4 .any (fun w args => (Rows.storeReplaysSpec.pre enc Tryz.prog Tryz.f4 Rows.storeReplaysRow.domain false w args ∧ laidMetH Tryz.prog Rows.storeReplaysRow.laid w) ∧ sizedMet enc Tryz.prog Tryz.f4 (OpenSpec.ofChange Rows.storeReplaysSpec) false w args) (Rows.storeReplaysSpec.post enc Tryz.prog Tryz.f4 false true false false) := by
  refine lawTrueLaid (C := Tryz.checked) (tb := 4) df_own started (by kernel_rfl) Tryz.func4 df_laid rfl ?_ rfl Tryz.underlying4 (by kernel_rfl)
    (ChangeSpec.witness_shaped (enc := enc) (C := Tryz.checked) (os := os) (X := fun w _ => laidMetH Tryz.prog Rows.storeReplaysRow.laid w) false (World.doorLaid Tryz.prog 400 os) #[.slice none 0 0, .slice none 0 0] 8 rfl (World.shaped_of_RefB (by kernel_rfl) (by kernel_rfl)) (by kernel_rfl) (by kernel_rfl) (by kernel_rfl) (door_met os _)) ?_
  · intro ds hd
    match ds, hd with
    | [_, _], _ => exact ⟨rfl, rfl, rfl⟩
  · intro W base args ds p hval0 hA0 _ hL
    have hval : ∀ (j : Nat) t v, Tryz.f4.params[j]? = some t → args[j]? = some v → Value.okWide Tryz.prog W .any base t v := hval0
    have hA : DataW.TrodAll enc Tryz.prog W 0 (fun _ => true) true Tryz.f4.params.toList args.toList ds p := hA0
    rw [Tryz.params4] at hA hval
    obtain ⟨v0, v1, d0, d1, p0, p1, rfl, rfl, rfl, h0, h1⟩ := trodAll_n hA
    obtain ⟨lp, lc, l, rfl, la, lb, s0⟩ := open_sl (α := OpD) 12 Tryz.underlying22 (hval 0 22 v0 rfl rfl) (by kernel_rfl) h0
    obtain ⟨morep, morec, more, rfl, morea, moreb, s1⟩ := open_sl (α := OpD) 12 Tryz.underlying22 (hval 1 22 v1 rfl rfl) (by kernel_rfl) h1
    have st0 : Stable (fun M w => Sl M w morep more) := inferInstance
    have st1 : Stable (fun M w => Sl M w lp l ∧ Sl M w morep more) := instStableAnd (fun M w => Sl M w lp l) (fun M w => Sl M w morep more)
    have st2 : Stable (fun M w => NumI M w ∧ Sl M w lp l ∧ Sl M w morep more) := instStableAnd (fun M w => NumI M w) (fun M w => Sl M w lp l ∧ Sl M w morep more)
    have fin : GivesIn (fun M w => NumI M w ∧ Sl M w lp l ∧ Sl M w morep more) Tryz.prog 4 _ (.bool true) := Replays_in (Φ := (fun M w => NumI M w ∧ Sl M w lp l ∧ Sl M w morep more)) (p := lp) (cap := lc) (l := l) (q1 := morep) (d := morec) (more := more) (fun _ _ h => h.1) (fun _ _ h => h.2.1) (fun _ _ h => h.2.2) (by omega) (by omega)
    exact fin.law ⟨la_num hL, s0, s1⟩

theorem row_holds : Rows.StoreReplaysSaid :=
  OpenClaim.holds_of_wide 4 Tryz.f4 rfl rfl rfl rfl rfl rfl rfl ⟨rfl, rfl, rfl, rfl, rfl⟩ rfl rfl rfl rfl rfl (by kernel_rfl) Tryz.func4 (by kernel_rfl)
    (of_decide_eq_true (by kernel_rfl)) (by unfold Func.isWrapper; first | (rw [if_pos (by decide +kernel)]; kernel_rfl) | (rw [if_neg (by decide +kernel)]; exact ⟨rfl, rfl⟩))
    (fun os started H enc _ => law_lifted os started H enc)

theorem replays_holds : Rows.StoreReplaysCardSaid :=
  Claim7.holds_tied_plain_at .later [] [.data, .data, .data, .sentinel, .sentinel] true Rows.storeReplaysCard.stood.harness true
    row_holds (fun _ h => by cases h) (by kernel_rfl) (fun _ h => by cases h) storeReplays_row_tie rfl ⟨rfl, rfl⟩ (by kernel_rfl) rfl
    (fun f fn hf hfn => by
      obtain rfl : f = 4 := Option.some.inj ((show Tryz.prog.funcNamed Rows.storeReplaysRow.func = some 4 by kernel_rfl).symm.trans hf) |>.symm
      obtain rfl : fn = Tryz.f4 := (Option.some.inj (Tryz.func4.symm.trans hfn)).symm
      exact ⟨by kernel_rfl, fun j t ht => by
        rw [Tryz.params4] at ht
        have hm := Array.mem_of_getElem? ht
        have hall : ((Tryz.f4.params.toList).all fun u => !Tryz.prog.wantsStandIn u) = true := by kernel_rfl
        rw [Tryz.params4] at hall
        exact (show Tryz.prog.wantsStandIn t = false by simpa using List.all_eq_true.1 hall t (by simpa using hm))⟩)
    (by kernel_rfl)

end Go.Proofs.YtebnciehcnedjaaGreatDoor
end

