/-
  The conditions of the walks of some functions, one formula each; 'B<f>_run' says that they suffice. The formulas are printed by a program; the kernel compares them with the functions' code.
-/
import Derived.Test.YtemhapmbcbbljaaGreatDoorSU5
import Derived.Test.YtemhapmbcbbljaaGreatDoorSU7
import Derived.Lib.SliceRun
import Derived.Test.YtemhapmbcbbljaaGreatDoorSU6

set_option linter.unusedVariables false
set_option linter.unusedSimpArgs false
section
namespace Go.Proofs.YtemhapmbcbbljaaGreatDoor
set_option maxRecDepth 100000
open Go.Vc
def Berratalaw43_SinkTells (kind : Int) (keyP : Option Addr) (keyN keyC : Nat) (lP : Option Addr) (lN lC : Nat) (W : World) (R : List Own) (Φ : PW) (J : Value → World → Prop) : Prop :=
  ∀ w0 R1, Ctx W w0 (R ++ R1) Φ → Calls Tryz.prog F.erratalaw43_small #[] w0 fun e2 w3 => ∃ c4, e2 = .returned (.bool c4) ∧ ∃ R5 Φ6, Stable Φ6 ∧ Ctx W w3 (R5 ++ R1) Φ6 ∧ ∀ w7 R8, Ctx W w7 (R5 ++ R8) Φ6 → Calls Tryz.prog F.erratalaw43_few #[.slice lP lN lC, .int .i64 60] w7 fun e9 w10 => ∃ c11, e9 = .returned (.bool c11) ∧ ∃ R12 Φ13, Stable Φ13 ∧ Ctx W w10 (R12 ++ R8) Φ13 ∧ Br (!c11) (∀ w14 R15, Ctx W w14 (R12 ++ R15) Φ13 → J (.bool c4) w14) (Br (decide (4 < (↑keyN : Int))) (∀ w16 R17, Ctx W w16 (R12 ++ R17) Φ13 → J (.bool c4) w16) (∀ w18 R19, Ctx W w18 (R12 ++ R19) Φ13 → Calls Tryz.prog F.sink_New #[.int .i64 kind, .slice keyP keyN keyC] w18 fun e20 w21 => ∃ p22, e20 = .returned (.pointer p22) ∧ ∃ R23 Φ24, Stable Φ24 ∧ Ctx W w21 (R23 ++ R19) Φ24 ∧ ∀ w25 R26, Ctx W w25 (R23 ++ R26) Φ24 → Calls Tryz.prog F.errataref43_New #[.int .i64 kind, .slice keyP keyN keyC] w25 fun e27 w28 => ∃ p29,
  e27 = .returned (.pointer p29) ∧ ∃ R30 Φ31, Stable Φ31 ∧ Ctx W w28 (R30 ++ R26) Φ31 ∧ Br ((!p22.isNone) != !p29.isNone) (∀ w32 R33, Ctx W w32 (R30 ++ R33) Φ31 → J (.bool false) w32) (exI fun (I34 : Option Addr → Int → List Own → PW → Nat → Prop) => (∃ R35 Φ36 k37, Stable Φ36 ∧ Wk W R30 Φ31 R35 Φ36 ∧ I34 p22 0 R35 Φ36 k37) ∧ ∀ p40 n41 R42 I43 k44, Stable I43 → I34 p40 n41 R42 I43 k44 → ∀ w45 R46, Ctx W w45 (R42 ++ R46) I43 → Br (decide (n41 < (↑lN : Int)) && !p40.isNone && !p29.isNone) ((0 ≤ n41 ∧ n41 < (↑lN : Int)) ∧ ptrK none lP fun k47 k48 => ∀ w49 R50, Ctx W w49 (R42 ++ R50) I43 → ∃ n51 n52 p53 k54 k55, RowAt w49 k47 (k48 + n41.toNat * 3) [.int .i64 n51, .int .i64 n52, .slice p53 k54 k55] ∧ ∀ w56 R57, Ctx W w56 (R42 ++ R57) I43 → Calls Tryz.prog F.erratalaw43_do #[.pointer p40, Value.agg #[.int .i64 n51, .int .i64 n52, .slice p53 k54 k55]] w56 fun e58 w59 => ∃ p60 n61, e58 =
  .returned (Value.tuple #[.pointer p60, .int .i64 n61]) ∧ ∃ R62 Φ63, Stable Φ63 ∧ Ctx W w59 (R62 ++ R57) Φ63 ∧ Br p60.isNone (∀ w64 R65, Ctx W w64 (R62 ++ R65) Φ63 → J (.bool false) w64) ((0 ≤ n41 ∧ n41 < (↑lN : Int)) ∧ ptrK none lP fun k66 k67 => ∀ w68 R69, Ctx W w68 (R62 ++ R69) Φ63 → ∃ n70 n71 p72 k73 k74, RowAt w68 k66 (k67 + n41.toNat * 3) [.int .i64 n70, .int .i64 n71, .slice p72 k73 k74] ∧ ∀ w75 R76, Ctx W w75 (R62 ++ R76) Φ63 → Calls Tryz.prog F.erratalaw43_model #[.pointer p29, Value.agg #[.int .i64 n70, .int .i64 n71, .slice p72 k73 k74]] w75 fun e77 w78 => ∃ n79, e77 = .returned (.int .i64 n79) ∧ ∃ R80 Φ81, Stable Φ81 ∧ Ctx W w78 (R80 ++ R76) Φ81 ∧ Br (decide (n61 ≠ n79)) (∀ w82 R83, Ctx W w82 (R80 ++ R83) Φ81 → J (.bool false) w82) (∃ R84 Φ85, Stable Φ85 ∧ Wk W R80 Φ81 R84 Φ85 ∧ ptrK none p29 fun k88 k89 => ∃ (n90 : Int), (∀ w91 R92, Ctx W w91 (R84 ++ R92) Φ85 → ∃ n93,
  w91.cell? (Addr.mk k88 k89 none) = some (.int .i64 n93) ∧ Value.int IntKind.i64 n93 = Value.int IntKind.i64 n90) ∧ ∀ w94 R95, Ctx W w94 (R80 ++ R95) Φ81 → Calls Tryz.prog F.sink_Sink_Kind #[.pointer p60] w94 fun e96 w97 => ∃ n98, e96 = .returned (.int .i64 n98) ∧ ∃ R99 Φ100, Stable Φ100 ∧ Ctx W w97 (R99 ++ R95) Φ100 ∧ Wk W R99 Φ100 R84 Φ85 ∧ ∃ R103 Φ104, Stable Φ104 ∧ Wk W R99 Φ100 R103 Φ104 ∧ Br (decide (n98 ≠ n90)) (∃ R107 Φ108, Stable Φ108 ∧ Wk W R99 Φ100 R107 Φ108 ∧ ∃ R111 Φ112, Stable Φ112 ∧ Wk W R99 Φ100 R111 Φ112 ∧ ∃ R115 Φ116, Stable Φ116 ∧ Wk W R99 Φ100 R115 Φ116 ∧ ∃ R119 Φ120, Stable Φ120 ∧ Wk W R99 Φ100 R119 Φ120 ∧ ∀ w123 R124, Ctx W w123 (R99 ++ R124) Φ100 → J (.bool false) w123) (∀ w125 R126, Ctx W w125 (R99 ++ R126) Φ100 → Calls Tryz.prog F.sink_Sink_Last #[.pointer p60] w125 fun e127 w128 => ∃ n129, e127 = .returned (.int .i64 n129) ∧ ∃ R130 Φ131, Stable Φ131 ∧ Ctx W w128
  (R130 ++ R126) Φ131 ∧ Wk W R130 Φ131 R103 Φ104 ∧ ∀ w134 R135, Ctx W w134 (R130 ++ R135) Φ131 → Calls Tryz.prog F.errataref43_Sink_Last #[.pointer p29] w134 fun e136 w137 => ∃ n138, e136 = .returned (.int .i64 n138) ∧ ∃ R139 Φ140, Stable Φ140 ∧ Ctx W w137 (R139 ++ R135) Φ140 ∧ ∃ R141 Φ142, Stable Φ142 ∧ Wk W R139 Φ140 R141 Φ142 ∧ Br (decide (n129 ≠ n138)) (∃ R145 Φ146, Stable Φ146 ∧ Wk W R139 Φ140 R145 Φ146 ∧ ∃ R149 Φ150, Stable Φ150 ∧ Wk W R139 Φ140 R149 Φ150 ∧ ∃ R153 Φ154, Stable Φ154 ∧ Wk W R139 Φ140 R153 Φ154 ∧ ∀ w157 R158, Ctx W w157 (R139 ++ R158) Φ140 → J (.bool false) w157) (ptrK none p29 fun k159 k160 => ∃ (n161 : Int), (∀ w162 R163, Ctx W w162 (R141 ++ R163) Φ142 → ∃ n164, w162.cell? (Addr.mk k159 (k160 + 4) none) = some (.int .i64 n164) ∧ Value.int IntKind.i64 n164 = Value.int IntKind.i64 n161) ∧ ∀ w165 R166, Ctx W w165 (R139 ++ R166) Φ140 → Calls Tryz.prog
  F.sink_Sink_Prepared #[.pointer p60] w165 fun e167 w168 => ∃ n169, e167 = .returned (.int .i64 n169) ∧ ∃ R170 Φ171, Stable Φ171 ∧ Ctx W w168 (R170 ++ R166) Φ171 ∧ Wk W R170 Φ171 R141 Φ142 ∧ ∃ R174 Φ175, Stable Φ175 ∧ Wk W R170 Φ171 R174 Φ175 ∧ Br (decide (n169 ≠ n161)) (∃ R178 Φ179, Stable Φ179 ∧ Wk W R170 Φ171 R178 Φ179 ∧ ∃ R182 Φ183, Stable Φ183 ∧ Wk W R170 Φ171 R182 Φ183 ∧ ∀ w186 R187, Ctx W w186 (R170 ++ R187) Φ171 → J (.bool false) w186) (ptrK none p29 fun k188 k189 => ∃ (p190 : Option Addr) (k191 k192 : Nat), (∀ w193 R194, Ctx W w193 (R174 ++ R194) Φ175 → ∃ p195 k196 k197, w193.cell? (Addr.mk k188 (k189 + 3) none) = some (.slice p195 k196 k197) ∧ Value.slice p195 k196 k197 = Value.slice p190 k191 k192) ∧ ∀ w198 R199, Ctx W w198 (R170 ++ R199) Φ171 → Calls Tryz.prog F.sink_Sink_Lines #[.pointer p60] w198 fun e200 w201 => ∃ n202, e200 = .returned (.int .i64 n202) ∧ ∃ R203 Φ204,
  Stable Φ204 ∧ Ctx W w201 (R203 ++ R199) Φ204 ∧ Wk W R203 Φ204 R174 Φ175 ∧ ∃ R207 Φ208, Stable Φ208 ∧ Wk W R203 Φ204 R207 Φ208 ∧ Br (decide (n202 ≠ (↑k191 : Int))) (∃ R211 Φ212, Stable Φ212 ∧ Wk W R203 Φ204 R211 Φ212 ∧ ∀ w215 R216, Ctx W w215 (R203 ++ R216) Φ204 → J (.bool false) w215) ((0 ≤ n41 ∧ n41 < (↑lN : Int)) ∧ ptrK none lP fun k217 k218 => (0 ≤ n41 ∧ n41 < (↑lN : Int)) ∧ ptrK none lP fun k219 k220 => ∃ (n221 : Int), (∀ w222 R223, Ctx W w222 (R207 ++ R223) Φ208 → ∃ n224, w222.cell? (Addr.mk k217 (k218 + n41.toNat * 3 + 1) none) = some (.int .i64 n224) ∧ Value.int IntKind.i64 n224 = Value.int IntKind.i64 n221) ∧ ∃ (n225 : Int), (∀ w226 R227, Ctx W w226 (R207 ++ R227) Φ208 → ∃ n228, w226.cell? (Addr.mk k219 (k220 + n41.toNat * 3 + 1) none) = some (.int .i64 n228) ∧ Value.int IntKind.i64 n228 = Value.int IntKind.i64 n225) ∧ ∀ w229 R230, Ctx W w229 (R203 ++ R230) Φ204 → Calls
  Tryz.prog F.sink_Sink_Has #[.pointer p60, .int .i64 n221] w229 fun e231 w232 => ∃ c233, e231 = .returned (.bool c233) ∧ ∃ R234 Φ235, Stable Φ235 ∧ Ctx W w232 (R234 ++ R230) Φ235 ∧ Wk W R234 Φ235 R207 Φ208 ∧ ∀ w238 R239, Ctx W w238 (R234 ++ R239) Φ235 → Calls Tryz.prog F.errataref43_Sink_Has #[.pointer p29, .int .i64 n225] w238 fun e240 w241 => ∃ c242, e240 = .returned (.bool c242) ∧ ∃ R243 Φ244, Stable Φ244 ∧ Ctx W w241 (R243 ++ R239) Φ244 ∧ ∃ R245 Φ246, Stable Φ246 ∧ Wk W R243 Φ244 R245 Φ246 ∧ Br (c233 != c242) (∀ w249 R250, Ctx W w249 (R243 ++ R250) Φ244 → J (.bool false) w249) (∀ w251 R252, Ctx W w251 (R243 ++ R252) Φ244 → Calls Tryz.prog F.sink_Sink_Bytes #[.pointer p60] w251 fun e253 w254 => ∃ s255, e253 = .returned (.string s255) ∧ ∃ R256 Φ257, Stable Φ257 ∧ Ctx W w254 (R256 ++ R252) Φ257 ∧ Wk W R256 Φ257 R245 Φ246 ∧ ∀ w260 R261, Ctx W w260 (R256 ++ R261) Φ257 → Calls Tryz.prog
  F.errataref43_Sink_Bytes #[.pointer p29] w260 fun e262 w263 => ∃ s264, e262 = .returned (.string s264) ∧ ∃ R265 Φ266, Stable Φ266 ∧ Ctx W w263 (R265 ++ R261) Φ266 ∧ Br (decide (s255 ≠ s264)) (∀ w267 R268, Ctx W w267 (R265 ++ R268) Φ266 → J (.bool false) w267) (∃ R269 Φ270, Stable Φ270 ∧ Wk W R265 Φ266 R269 Φ270 ∧ ptrK none p29 fun k273 k274 => ∃ (p275 : Option Addr) (k276 k277 : Nat), (∀ w278 R279, Ctx W w278 (R269 ++ R279) Φ270 → ∃ p280 k281 k282, w278.cell? (Addr.mk k273 (k274 + 3) none) = some (.slice p280 k281 k282) ∧ Value.slice p280 k281 k282 = Value.slice p275 k276 k277) ∧ ∀ w283 R284, Ctx W w283 (R265 ++ R284) Φ266 → Calls Tryz.prog F.sink_Sink_List #[.pointer p60] w283 fun e285 w286 => ∃ p287 k288 k289, e285 = .returned (.slice p287 k288 k289) ∧ ∃ R290 Φ291, Stable Φ291 ∧ Ctx W w286 (R290 ++ R284) Φ291 ∧ Wk W R290 Φ291 R269 Φ270 ∧ ∀ w294 R295, Ctx W w294 (R290 ++ R295) Φ291 →
  Calls Tryz.prog F.errataref43_SameLines #[.slice p287 k288 k289, .slice p275 k276 k277] w294 fun e296 w297 => ∃ c298, e296 = .returned (.bool c298) ∧ ∃ R299 Φ300, Stable Φ300 ∧ Ctx W w297 (R299 ++ R295) Φ300 ∧ ∃ R301 Φ302, Stable Φ302 ∧ Wk W R299 Φ300 R301 Φ302 ∧ Br (!c298) (∃ R305 Φ306, Stable Φ306 ∧ Wk W R299 Φ300 R305 Φ306 ∧ ∀ w309 R310, Ctx W w309 (R299 ++ R310) Φ300 → J (.bool false) w309) (∀ w311 R312, Ctx W w311 (R299 ++ R312) Φ300 → Calls Tryz.prog F.sink_Sink_Net #[.pointer p60] w311 fun e313 w314 => ∃ p315 k316 k317, e313 = .returned (.slice p315 k316 k317) ∧ ∃ R318 Φ319, Stable Φ319 ∧ Ctx W w314 (R318 ++ R312) Φ319 ∧ Wk W R318 Φ319 R301 Φ302 ∧ ∀ w322 R323, Ctx W w322 (R318 ++ R323) Φ319 → Calls Tryz.prog F.errataref43_Sink_Net #[.pointer p29] w322 fun e324 w325 => ∃ p326 k327 k328, e324 = .returned (.slice p326 k327 k328) ∧ ∃ R329 Φ330, Stable Φ330 ∧ Ctx W w325 (R329 ++ R323)
  Φ330 ∧ ∀ w331 R332, Ctx W w331 (R329 ++ R332) Φ330 → Calls Tryz.prog F.errataref28_Equal #[.slice p315 k316 k317, .slice p326 k327 k328] w331 fun e333 w334 => ∃ c335, e333 = .returned (.bool c335) ∧ ∃ R336 Φ337, Stable Φ337 ∧ Ctx W w334 (R336 ++ R332) Φ337 ∧ ∃ R338 Φ339, Stable Φ339 ∧ Wk W R336 Φ337 R338 Φ339 ∧ Br (!c335) (∀ w342 R343, Ctx W w342 (R336 ++ R343) Φ337 → J (.bool false) w342) (∀ w344 R345, Ctx W w344 (R336 ++ R345) Φ337 → Calls Tryz.prog F.sink_Sink_Cells #[.pointer p60] w344 fun e346 w347 => ∃ p348 k349 k350, e346 = .returned (.slice p348 k349 k350) ∧ ∃ R351 Φ352, Stable Φ352 ∧ Ctx W w347 (R351 ++ R345) Φ352 ∧ Wk W R351 Φ352 R338 Φ339 ∧ ∀ w355 R356, Ctx W w355 (R351 ++ R356) Φ352 → Calls Tryz.prog F.errataref43_Sink_Cells #[.pointer p29] w355 fun e357 w358 => ∃ p359 k360 k361, e357 = .returned (.slice p359 k360 k361) ∧ ∃ R362 Φ363, Stable Φ363 ∧ Ctx W w358 (R362 ++ R356)
  Φ363 ∧ ∀ w364 R365, Ctx W w364 (R362 ++ R365) Φ363 → Calls Tryz.prog F.errataref28_Equal #[.slice p348 k349 k350, .slice p359 k360 k361] w364 fun e366 w367 => ∃ c368, e366 = .returned (.bool c368) ∧ ∃ R369 Φ370, Stable Φ370 ∧ Ctx W w367 (R369 ++ R365) Φ370 ∧ Br (!c368) (∀ w371 R372, Ctx W w371 (R369 ++ R372) Φ370 → J (.bool false) w371) (I64 (n41 + 1) ∧ ∃ R373 Φ374 k375, Stable Φ374 ∧ Wk W R369 Φ370 R373 Φ374 ∧ I34 p60 (n41 + 1) R373 Φ374 k375 ∧ k375 < k44)))))))))))) (∀ w378 R379, Ctx W w378 (R42 ++ R379) I43 → J (.bool c4) w378))))
theorem Berratalaw43_SinkTells_run (kind : Int) (keyP : Option Addr) (keyN keyC : Nat) (lP : Option Addr) (lN lC : Nat) {W w : World} {R : List Own} {Φ : PW} [Stable Φ] {J : Value → World → Prop} (c : Ctx W w R Φ) (h : Berratalaw43_SinkTells kind keyP keyN keyC lP lN lC W R Φ J) : Calls Tryz.prog F.erratalaw43_SinkTells #[.int .i64 kind, .slice keyP keyN keyC, .slice lP lN lC] w fun e w' => ∃ v, e = .returned v ∧ J v w' :=
  vcFS_sound (H := { keep := some [0, 1, 2, 6, 7, 8, 9, 10, 11, 12, 21, 33, 45, 68, 126, 150], stages := [(15, [.held [(0, true), (2, true), (3, true), (4, true), (5, true), (1, false)], .held [(6, true), (7, true), (8, true), (10, true), (9, false)], .stage [] (some 11), .held [(12, true), (13, true), (14, true), (15, true), (17, true), (18, true), (19, true), (20, true), (16, false)], .held [(21, true), (22, true), (23, true), (24, true), (26, true), (27, true), (28, true), (29, true), (30, true), (25, false)], .held [(31, true), (32, true), (33, true), (34, true), (35, true), (36, true), (41, true), (42, true), (43, true), (37, true), (44, true), (38, true), (45, true), (39, true), (46, true), (40, false)], .stage [] (some 47), .held [(48, true), (49, true), (50, true), (51, true), (53, true), (52, false)], .stage [] (some 54), .stage [55, 56] none]), (17, [.held [(0, true), (2, true), (3, true), (4, true), (5, true), (1, false)], .stage [] (some 6), .held [(7, true), (8, true), (9, true), (11, true), (10, false)], .stage [] (some 12), .stage [] (some 13), .held [(14, true), (15, true), (16, true), (17, true), (19, true), (18, false)], .stage [] (some 20), .stage [] (some 21), .stage [22, 23] none])], split := [2, 12], loops := [(9, [(8, .one (.ptr)), (10, .one (.int .i64))], [])] }) (by rw [show vcFS Tryz.prog W { keep := some [0, 1, 2, 6, 7, 8, 9, 10, 11, 12, 21, 33, 45, 68, 126, 150], stages := [(15, [.held [(0, true), (2, true), (3, true), (4, true), (5, true), (1, false)], .held [(6, true), (7, true), (8, true), (10, true), (9, false)], .stage [] (some 11), .held [(12, true), (13, true), (14, true), (15, true), (17, true), (18, true), (19, true), (20, true), (16, false)], .held [(21, true), (22, true), (23, true), (24, true), (26, true), (27, true), (28, true), (29, true), (30, true), (25, false)], .held [(31, true), (32, true), (33, true), (34, true), (35, true), (36, true), (41, true), (42, true), (43, true), (37, true), (44, true), (38, true), (45, true), (39, true), (46, true), (40, false)], .stage [] (some 47), .held [(48, true), (49, true), (50, true), (51, true), (53, true), (52, false)], .stage [] (some 54), .stage [55, 56] none]), (17, [.held [(0, true), (2, true), (3, true), (4, true), (5, true), (1, false)], .stage [] (some 6), .held [(7, true), (8, true), (9, true), (11, true), (10, false)], .stage [] (some 12), .stage [] (some 13), .held [(14, true), (15, true), (16, true), (17, true), (19, true), (18, false)], .stage [] (some 20), .stage [] (some 21), .stage [22, 23] none])], split := [2, 12], loops := [(9, [(8, .one (.ptr)), (10, .one (.int .i64))], [])] } F.erratalaw43_SinkTells #[.int .i64 kind, .slice keyP keyN keyC, .slice lP lN lC] R Φ J = Berratalaw43_SinkTells kind keyP keyN keyC lP lN lC W R Φ J by kernel_rfl]; exact h) c
def Berrataref43_New (kind : Int) (keyP : Option Addr) (keyN keyC : Nat) (W : World) (R : List Own) (Φ : PW) (J : Value → World → Prop) : Prop :=
  exI fun (I0 : Int → List Own → PW → Nat → Prop) => (∃ R1 Φ2 k3, Stable Φ2 ∧ Wk W R Φ R1 Φ2 ∧ I0 0 R1 Φ2 k3) ∧ ∀ n6 R7 I8 k9, Stable I8 → I0 n6 R7 I8 k9 → Br (decide (n6 < (↑keyN : Int))) ((0 ≤ n6 ∧ n6 < (↑keyN : Int)) ∧ ptrK none keyP fun k10 k11 => ∀ w12 R13, Ctx W w12 (R7 ++ R13) I8 → ∃ n14, w12.cell? (Addr.mk k10 (k11 + n6.toNat) none) = some (.int .i64 n14) ∧ Br (decide (n14 < 0)) (∀ w15 R16, Ctx W w15 (R7 ++ R16) I8 → J (.pointer none) w15) (I64 (n6 + 1) ∧ ∃ R17 Φ18 k19, Stable Φ18 ∧ Wk W R7 I8 R17 Φ18 ∧ I0 (n6 + 1) R17 Φ18 k19 ∧ k19 < k9)) (∀ w22 R23, Ctx W w22 (R7 ++ R23) I8 → Br (decide (kind < 0) || decide (3 ≤ kind) || decide (0 < (↑keyN : Int)) && decide (kind ≠ 1)) (∀ w24 R25, Ctx W w24 (R7 ++ R25) I8 → J (.pointer none) w24) (∀ (k26 : Nat) (w27 : World) (R28 : List Own), Ctx W w27 (Own.blk k26 [] 3 :: R7 ++ R28) I8 → ∃ (p29 : Option Addr) (k30 k31 : Nat) (w32 : World),
  Sem.run Tryz.prog (builtin Builtin.append #[22, 22] 22 #[false, false] #[.slice (some (Addr.mk k26 0 none)) 0 0, .slice keyP keyN keyC]) w27 = .ok (.value (.slice p29 k30 k31)) w32 ∧ ∃ R33 Φ34, Stable Φ34 ∧ Ctx W w32 (R33 ++ R28) Φ34 ∧ ∀ (k35 : Nat) (w36 : World) (R37 : List Own), Ctx W w36 (Own.blk k35 [.int .i64 kind, .slice p29 k30 k31, .slice none 0 0, .slice none 0 0, .int .i64 0, .slice none 0 0] 39 :: R33 ++ R37) Φ34 → J (.pointer (some (Addr.mk k35 0 none))) w36))
theorem Berrataref43_New_run (kind : Int) (keyP : Option Addr) (keyN keyC : Nat) {W w : World} {R : List Own} {Φ : PW} [Stable Φ] {J : Value → World → Prop} (c : Ctx W w R Φ) (h : Berrataref43_New kind keyP keyN keyC W R Φ J) : Calls Tryz.prog F.errataref43_New #[.int .i64 kind, .slice keyP keyN keyC] w fun e w' => ∃ v, e = .returned v ∧ J v w' :=
  vcFS_sound (H := { keep := some [0, 1, 4, 5, 9, 16, 31], loops := [(2, [(5, .one (.int .i64))], [])] }) (by rw [show vcFS Tryz.prog W { keep := some [0, 1, 4, 5, 9, 16, 31], loops := [(2, [(5, .one (.int .i64))], [])] } F.errataref43_New #[.int .i64 kind, .slice keyP keyN keyC] R Φ J = Berrataref43_New kind keyP keyN keyC W R Φ J by kernel_rfl]; exact h) c
def Berratalaw43_model (sB sO : Nat) (x0 : Int) (x1 : Int) (x2P : Option Addr) (x2N x2C : Nat) (W : World) (R : List Own) (Φ : PW) (J : Value → World → Prop) : Prop :=
  ∀ (b : Nat), ∃ (n0 : Int), (∀ (w1 : World), Sem.run Tryz.prog (binOp BinOp.and 3 (Value.int IntKind.i64 x0) (Value.int IntKind.i64 7)) w1 = Result.ok (Value.int IntKind.i64 n0) w1) ∧ Br (decide (n0 = 0)) (Br (decide (n0 = 0)) (∀ w2 R3, Ctx W w2 (R ++ R3) Φ → Calls Tryz.prog F.errataref43_Sink_Prepare #[.pointer (some (Addr.mk sB sO none)), .int .i64 x1, .slice x2P x2N x2C] w2 fun e4 w5 => ∃ n6, e4 = .returned (.int .i64 n6) ∧ ∃ R7 Φ8, Stable Φ8 ∧ Ctx W w5 (R7 ++ R3) Φ8 ∧ ∀ w9 R10, Ctx W w9 (R7 ++ R10) Φ8 → J (.int .i64 n6) w9) (Br (decide (n0 = 2)) (∀ w11 R12, Ctx W w11 (R ++ R12) Φ → Calls Tryz.prog F.errataref43_Sink_Commit #[.pointer (some (Addr.mk sB sO none)), .int .i64 x1] w11 fun e13 w14 => ∃ n15, e13 = .returned (.int .i64 n15) ∧ ∃ R16 Φ17, Stable Φ17 ∧ Ctx W w14 (R16 ++ R12) Φ17 ∧ ∀ w18 R19, Ctx W w18 (R16 ++ R19) Φ17 → J (.int .i64 n15) w18) (Br (decide (n0 = 3)) (∀ w20 R21,
  Ctx W w20 (R ++ R21) Φ → Calls Tryz.prog F.errataref43_Sink_Abort #[.pointer (some (Addr.mk sB sO none)), .int .i64 x1] w20 fun e22 w23 => ∃ n24, e22 = .returned (.int .i64 n24) ∧ ∃ R25 Φ26, Stable Φ26 ∧ Ctx W w23 (R25 ++ R21) Φ26 ∧ ∀ w27 R28, Ctx W w27 (R25 ++ R28) Φ26 → J (.int .i64 n24) w27) (Br (decide (n0 = 4)) (Br (decide (n0 = 4)) (∀ w29 R30, Ctx W w29 (R ++ R30) Φ → Calls Tryz.prog F.errataref43_Sink_Deliver #[.pointer (some (Addr.mk sB sO none)), .int .i64 x1, .slice x2P x2N x2C] w29 fun e31 w32 => ∃ n33, e31 = .returned (.int .i64 n33) ∧ ∃ R34 Φ35, Stable Φ35 ∧ Ctx W w32 (R34 ++ R30) Φ35 ∧ ∀ w36 R37, Ctx W w36 (R34 ++ R37) Φ35 → J (.int .i64 n33) w36) (∀ w38 R39, Ctx W w38 (R ++ R39) Φ → J (.int .i64 0) w38)) (Br (decide (n0 = 5)) (∀ w40 R41, Ctx W w40 (R ++ R41) Φ → Calls Tryz.prog F.errataref43_Sink_Deliver #[.pointer (some (Addr.mk sB sO none)), .int .i64 x1, .slice x2P x2N
  x2C] w40 fun e42 w43 => ∃ n44, e42 = .returned (.int .i64 n44) ∧ ∃ R45 Φ46, Stable Φ46 ∧ Ctx W w43 (R45 ++ R41) Φ46 ∧ ∀ w47 R48, Ctx W w47 (R45 ++ R48) Φ46 → J (.int .i64 n44) w47) (∀ w49 R50, Ctx W w49 (R ++ R50) Φ → J (.int .i64 0) w49)))))) (Br (decide (n0 = 1)) (∀ w51 R52, Ctx W w51 (R ++ R52) Φ → Calls Tryz.prog F.errataref43_Sink_Prepare #[.pointer (some (Addr.mk sB sO none)), .int .i64 x1, .slice x2P x2N x2C] w51 fun e53 w54 => ∃ n55, e53 = .returned (.int .i64 n55) ∧ ∃ R56 Φ57, Stable Φ57 ∧ Ctx W w54 (R56 ++ R52) Φ57 ∧ ∀ w58 R59, Ctx W w58 (R56 ++ R59) Φ57 → J (.int .i64 n55) w58) (Br (decide (n0 = 2)) (∀ w60 R61, Ctx W w60 (R ++ R61) Φ → Calls Tryz.prog F.errataref43_Sink_Commit #[.pointer (some (Addr.mk sB sO none)), .int .i64 x1] w60 fun e62 w63 => ∃ n64, e62 = .returned (.int .i64 n64) ∧ ∃ R65 Φ66, Stable Φ66 ∧ Ctx W w63 (R65 ++ R61) Φ66 ∧ ∀ w67 R68, Ctx W w67 (R65 ++ R68)
  Φ66 → J (.int .i64 n64) w67) (Br (decide (n0 = 3)) (∀ w69 R70, Ctx W w69 (R ++ R70) Φ → Calls Tryz.prog F.errataref43_Sink_Abort #[.pointer (some (Addr.mk sB sO none)), .int .i64 x1] w69 fun e71 w72 => ∃ n73, e71 = .returned (.int .i64 n73) ∧ ∃ R74 Φ75, Stable Φ75 ∧ Ctx W w72 (R74 ++ R70) Φ75 ∧ ∀ w76 R77, Ctx W w76 (R74 ++ R77) Φ75 → J (.int .i64 n73) w76) (Br (decide (n0 = 4)) (Br (decide (n0 = 4)) (∀ w78 R79, Ctx W w78 (R ++ R79) Φ → Calls Tryz.prog F.errataref43_Sink_Deliver #[.pointer (some (Addr.mk sB sO none)), .int .i64 x1, .slice x2P x2N x2C] w78 fun e80 w81 => ∃ n82, e80 = .returned (.int .i64 n82) ∧ ∃ R83 Φ84, Stable Φ84 ∧ Ctx W w81 (R83 ++ R79) Φ84 ∧ ∀ w85 R86, Ctx W w85 (R83 ++ R86) Φ84 → J (.int .i64 n82) w85) (∀ w87 R88, Ctx W w87 (R ++ R88) Φ → J (.int .i64 0) w87)) (Br (decide (n0 = 5)) (∀ w89 R90, Ctx W w89 (R ++ R90) Φ → Calls Tryz.prog F.errataref43_Sink_Deliver
  #[.pointer (some (Addr.mk sB sO none)), .int .i64 x1, .slice x2P x2N x2C] w89 fun e91 w92 => ∃ n93, e91 = .returned (.int .i64 n93) ∧ ∃ R94 Φ95, Stable Φ95 ∧ Ctx W w92 (R94 ++ R90) Φ95 ∧ ∀ w96 R97, Ctx W w96 (R94 ++ R97) Φ95 → J (.int .i64 n93) w96) (∀ w98 R99, Ctx W w98 (R ++ R99) Φ → J (.int .i64 0) w98))))))
theorem Berratalaw43_model_run (sB sO : Nat) (x0 : Int) (x1 : Int) (x2P : Option Addr) (x2N x2C : Nat) {W w : World} {R : List Own} {Φ : PW} [Stable Φ] {J : Value → World → Prop} (c : Ctx W w R Φ) (h : Berratalaw43_model sB sO x0 x1 x2P x2N x2C W R Φ J) : Calls Tryz.prog F.erratalaw43_model #[.pointer (some ⟨sB, sO, none⟩), .agg #[.int .i64 x0, .int .i64 x1, .slice x2P x2N x2C]] w fun e w' => ∃ v, e = .returned v ∧ J v w' :=
  vcFS_sound (H := { keep := some [0, 3, 4, 7, 8, 17, 23, 29], track := [3] }) (by rw [show vcFS Tryz.prog W { keep := some [0, 3, 4, 7, 8, 17, 23, 29], track := [3] } F.erratalaw43_model #[.pointer (some ⟨sB, sO, none⟩), .agg #[.int .i64 x0, .int .i64 x1, .slice x2P x2N x2C]] R Φ J = Berratalaw43_model sB sO x0 x1 x2P x2N x2C W R Φ J by kernel_rfl]; exact h) c
def Berrataref43_Sink_Last (sB sO : Nat) (W : World) (R : List Own) (Φ : PW) (J : Value → World → Prop) : Prop :=
  ∀ w0 R1, Ctx W w0 (R ++ R1) Φ → ∃ p2 k3 k4, w0.cell? (Addr.mk sB (sO + 2) none) = some (.slice p2 k3 k4) ∧ Br (decide ((↑k3 : Int) = 0)) (∀ w5 R6, Ctx W w5 (R ++ R6) Φ → J (.int .i64 0) w5) (∀ w7 R8, Ctx W w7 (R ++ R8) Φ → ∃ p9 k10 k11, w7.cell? (Addr.mk sB (sO + 2) none) = some (.slice p9 k10 k11) ∧ ∃ p12 k13 k14, w7.cell? (Addr.mk sB (sO + 2) none) = some (.slice p12 k13 k14) ∧ I64 ((↑k13 : Int) - 1) ∧ (0 ≤ (↑k13 : Int) - 1 ∧ (↑k13 : Int) - 1 < (↑k10 : Int)) ∧ ptrK none p9 fun k15 k16 => ∃ n17, w7.cell? (Addr.mk k15 (k16 + ((↑k13 : Int) - 1).toNat) none) = some (.int .i64 n17) ∧ ∀ w18 R19, Ctx W w18 (R ++ R19) Φ → J (.int .i64 n17) w18)
theorem Berrataref43_Sink_Last_run (sB sO : Nat) {W w : World} {R : List Own} {Φ : PW} [Stable Φ] {J : Value → World → Prop} (c : Ctx W w R Φ) (h : Berrataref43_Sink_Last sB sO W R Φ J) : Calls Tryz.prog F.errataref43_Sink_Last #[.pointer (some ⟨sB, sO, none⟩)] w fun e w' => ∃ v, e = .returned v ∧ J v w' :=
  vcFS_sound (H := { keep := some [0, 2, 8] }) (by rw [show vcFS Tryz.prog W { keep := some [0, 2, 8] } F.errataref43_Sink_Last #[.pointer (some ⟨sB, sO, none⟩)] R Φ J = Berrataref43_Sink_Last sB sO W R Φ J by kernel_rfl]; exact h) c
def Berrataref43_Sink_Has (sB sO : Nat) (batch : Int) (W : World) (R : List Own) (Φ : PW) (J : Value → World → Prop) : Prop :=
  exI fun (I0 : Int → List Own → PW → Nat → Prop) => (∃ R1 Φ2 k3, Stable Φ2 ∧ Wk W R Φ R1 Φ2 ∧ I0 0 R1 Φ2 k3) ∧ ∀ n6 R7 I8 k9, Stable I8 → I0 n6 R7 I8 k9 → ∀ w10 R11, Ctx W w10 (R7 ++ R11) I8 → ∃ p12 k13 k14, w10.cell? (Addr.mk sB (sO + 2) none) = some (.slice p12 k13 k14) ∧ Br (decide (n6 < (↑k13 : Int))) (∀ w15 R16, Ctx W w15 (R7 ++ R16) I8 → ∃ p17 k18 k19, w15.cell? (Addr.mk sB (sO + 2) none) = some (.slice p17 k18 k19) ∧ (0 ≤ n6 ∧ n6 < (↑k18 : Int)) ∧ ptrK none p17 fun k20 k21 => ∀ w22 R23, Ctx W w22 (R7 ++ R23) I8 → ∃ n24, w22.cell? (Addr.mk k20 (k21 + n6.toNat) none) = some (.int .i64 n24) ∧ Br (decide (n24 = batch)) (∀ w25 R26, Ctx W w25 (R7 ++ R26) I8 → J (.bool true) w25) (I64 (n6 + 1) ∧ ∃ R27 Φ28 k29, Stable Φ28 ∧ Wk W R7 I8 R27 Φ28 ∧ I0 (n6 + 1) R27 Φ28 k29 ∧ k29 < k9)) (∀ w32 R33, Ctx W w32 (R7 ++ R33) I8 → J (.bool false) w32)
theorem Berrataref43_Sink_Has_run (sB sO : Nat) (batch : Int) {W w : World} {R : List Own} {Φ : PW} [Stable Φ] {J : Value → World → Prop} (c : Ctx W w R Φ) (h : Berrataref43_Sink_Has sB sO batch W R Φ J) : Calls Tryz.prog F.errataref43_Sink_Has #[.pointer (some ⟨sB, sO, none⟩), .int .i64 batch] w fun e w' => ∃ v, e = .returned v ∧ J v w' :=
  vcFS_sound (H := { keep := some [0, 1, 4, 5, 12, 23], loops := [(2, [(5, .one (.int .i64))], [])] }) (by rw [show vcFS Tryz.prog W { keep := some [0, 1, 4, 5, 12, 23], loops := [(2, [(5, .one (.int .i64))], [])] } F.errataref43_Sink_Has #[.pointer (some ⟨sB, sO, none⟩), .int .i64 batch] R Φ J = Berrataref43_Sink_Has sB sO batch W R Φ J by kernel_rfl]; exact h) c
def Berrataref43_Sink_Bytes (sB sO : Nat) (W : World) (R : List Own) (Φ : PW) (J : Value → World → Prop) : Prop :=
  ∃ R0 Φ1, Stable Φ1 ∧ Wk W R Φ R0 Φ1 ∧ ∃ (n4 : Int), (∀ w5 R6, Ctx W w5 (R0 ++ R6) Φ1 → ∃ n7, w5.cell? (Addr.mk sB sO none) = some (.int .i64 n7) ∧ Value.int IntKind.i64 n7 = Value.int IntKind.i64 n4) ∧ ∃ (p8 : Option Addr) (k9 k10 : Nat), (∀ w11 R12, Ctx W w11 (R0 ++ R12) Φ1 → ∃ p13 k14 k15, w11.cell? (Addr.mk sB (sO + 1) none) = some (.slice p13 k14 k15) ∧ Value.slice p13 k14 k15 = Value.slice p8 k9 k10) ∧ ∃ (p16 : Option Addr) (k17 k18 : Nat), (∀ w19 R20, Ctx W w19 (R0 ++ R20) Φ1 → ∃ p21 k22 k23, w19.cell? (Addr.mk sB (sO + 2) none) = some (.slice p21 k22 k23) ∧ Value.slice p21 k22 k23 = Value.slice p16 k17 k18) ∧ ∃ (p24 : Option Addr) (k25 k26 : Nat), (∀ w27 R28, Ctx W w27 (R0 ++ R28) Φ1 → ∃ p29 k30 k31, w27.cell? (Addr.mk sB (sO + 3) none) = some (.slice p29 k30 k31) ∧ Value.slice p29 k30 k31 = Value.slice p24 k25 k26) ∧ ∃ (n32 : Int), (∀ w33 R34, Ctx W w33 (R0 ++ R34) Φ1 → ∃ n35,
  w33.cell? (Addr.mk sB (sO + 4) none) = some (.int .i64 n35) ∧ Value.int IntKind.i64 n35 = Value.int IntKind.i64 n32) ∧ ∃ (p36 : Option Addr) (k37 k38 : Nat), (∀ w39 R40, Ctx W w39 (R0 ++ R40) Φ1 → ∃ p41 k42 k43, w39.cell? (Addr.mk sB (sO + 5) none) = some (.slice p41 k42 k43) ∧ Value.slice p41 k42 k43 = Value.slice p36 k37 k38) ∧ ∀ w44 R45, Ctx W w44 (R ++ R45) Φ → Calls Tryz.prog F.errataref01_Int #[.int .i64 n4] w44 fun e46 w47 => ∃ s48, e46 = .returned (.string s48) ∧ ∃ R49 Φ50, Stable Φ50 ∧ Ctx W w47 (R49 ++ R45) Φ50 ∧ Wk W R49 Φ50 R0 Φ1 ∧ ∀ w53 R54, Ctx W w53 (R49 ++ R54) Φ50 → Calls Tryz.prog F.errataref01_Nums #[.slice p8 k9 k10] w53 fun e55 w56 => ∃ s57, e55 = .returned (.string s57) ∧ ∃ R58 Φ59, Stable Φ59 ∧ Ctx W w56 (R58 ++ R54) Φ59 ∧ Wk W R58 Φ59 R0 Φ1 ∧ (s48.size + s57.size).le 9223372036854775807 ∧ ∀ w62 R63, Ctx W w62 (R58 ++ R63) Φ59 → Calls Tryz.prog F.errataref01_Nums
  #[.slice p16 k17 k18] w62 fun e64 w65 => ∃ s66, e64 = .returned (.string s66) ∧ ∃ R67 Φ68, Stable Φ68 ∧ Ctx W w65 (R67 ++ R63) Φ68 ∧ Wk W R67 Φ68 R0 Φ1 ∧ ((s48 ++ s57).size + s66.size).le 9223372036854775807 ∧ ∀ w71 R72, Ctx W w71 (R67 ++ R72) Φ68 → Calls Tryz.prog F.errataref43_lines #[.slice p24 k25 k26] w71 fun e73 w74 => ∃ s75, e73 = .returned (.string s75) ∧ ∃ R76 Φ77, Stable Φ77 ∧ Ctx W w74 (R76 ++ R72) Φ77 ∧ Wk W R76 Φ77 R0 Φ1 ∧ ((s48 ++ s57 ++ s66).size + s75.size).le 9223372036854775807 ∧ ∀ w80 R81, Ctx W w80 (R76 ++ R81) Φ77 → Calls Tryz.prog F.errataref01_Int #[.int .i64 n32] w80 fun e82 w83 => ∃ s84, e82 = .returned (.string s84) ∧ ∃ R85 Φ86, Stable Φ86 ∧ Ctx W w83 (R85 ++ R81) Φ86 ∧ Wk W R85 Φ86 R0 Φ1 ∧ ((s48 ++ s57 ++ s66 ++ s75).size + s84.size).le 9223372036854775807 ∧ ∀ w89 R90, Ctx W w89 (R85 ++ R90) Φ86 → Calls Tryz.prog F.errataref43_lines #[.slice p36 k37 k38] w89
  fun e91 w92 => ∃ s93, e91 = .returned (.string s93) ∧ ∃ R94 Φ95, Stable Φ95 ∧ Ctx W w92 (R94 ++ R90) Φ95 ∧ Wk W R94 Φ95 R0 Φ1 ∧ ((s48 ++ s57 ++ s66 ++ s75 ++ s84).size + s93.size).le 9223372036854775807 ∧ ∀ w98 R99, Ctx W w98 (R94 ++ R99) Φ95 → J (.string (s48 ++ s57 ++ s66 ++ s75 ++ s84 ++ s93)) w98
theorem Berrataref43_Sink_Bytes_run (sB sO : Nat) {W w : World} {R : List Own} {Φ : PW} [Stable Φ] {J : Value → World → Prop} (c : Ctx W w R Φ) (h : Berrataref43_Sink_Bytes sB sO W R Φ J) : Calls Tryz.prog F.errataref43_Sink_Bytes #[.pointer (some ⟨sB, sO, none⟩)] w fun e w' => ∃ v, e = .returned v ∧ J v w' :=
  vcFS_sound (H := { keep := some [0, 2], stages := [(1, [.held [(0, true), (5, true), (11, true), (17, true), (23, true), (29, true), (1, true), (6, true), (12, true), (18, true), (24, true), (30, true), (2, true), (7, true), (13, true), (19, true), (25, true), (31, true), (3, true), (8, true), (14, true), (20, true), (26, true), (32, true), (4, false), (9, false), (10, true), (15, false), (16, true), (21, false), (22, true), (27, false), (28, true), (33, false)], .stage [34, 35] none])] }) (by rw [show vcFS Tryz.prog W { keep := some [0, 2], stages := [(1, [.held [(0, true), (5, true), (11, true), (17, true), (23, true), (29, true), (1, true), (6, true), (12, true), (18, true), (24, true), (30, true), (2, true), (7, true), (13, true), (19, true), (25, true), (31, true), (3, true), (8, true), (14, true), (20, true), (26, true), (32, true), (4, false), (9, false), (10, true), (15, false), (16, true), (21, false), (22, true), (27, false), (28, true), (33, false)], .stage [34, 35] none])] } F.errataref43_Sink_Bytes #[.pointer (some ⟨sB, sO, none⟩)] R Φ J = Berrataref43_Sink_Bytes sB sO W R Φ J by kernel_rfl]; exact h) c
def Berrataref28_Equal (aP : Option Addr) (aN aC : Nat) (bP : Option Addr) (bN bC : Nat) (W : World) (R : List Own) (Φ : PW) (J : Value → World → Prop) : Prop :=
  Br (decide ((↑aN : Int) ≠ (↑bN : Int))) (∀ w0 R1, Ctx W w0 (R ++ R1) Φ → J (.bool false) w0) (exI fun (I2 : Int → List Own → PW → Nat → Prop) => (∃ R3 Φ4 k5, Stable Φ4 ∧ Wk W R Φ R3 Φ4 ∧ I2 0 R3 Φ4 k5) ∧ ∀ n8 R9 I10 k11, Stable I10 → I2 n8 R9 I10 k11 → Br (decide (n8 < (↑aN : Int))) (∃ R12 Φ13, Stable Φ13 ∧ Wk W R9 I10 R12 Φ13 ∧ (0 ≤ n8 ∧ n8 < (↑aN : Int)) ∧ ptrK none aP fun k16 k17 => (0 ≤ n8 ∧ n8 < (↑bN : Int)) ∧ ptrK none bP fun k18 k19 => ∃ (n20 : Int) (p21 : Option Addr) (k22 k23 : Nat) (n24 : Int), (∀ w25 R26, Ctx W w25 (R12 ++ R26) Φ13 → ∃ n27 p28 k29 k30 n31, RowAt w25 k16 (k17 + n8.toNat * 3) [.int .i64 n27, .slice p28 k29 k30, .int .i64 n31] ∧ Value.agg #[.int .i64 n27, .slice p28 k29 k30, .int .i64 n31] = Value.agg #[.int .i64 n20, .slice p21 k22 k23, .int .i64 n24]) ∧ ∃ (n32 : Int) (p33 : Option Addr) (k34 k35 : Nat) (n36 : Int), (∀ w37 R38, Ctx W w37 (R12 ++ R38) Φ13 → ∃
  n39 p40 k41 k42 n43, RowAt w37 k18 (k19 + n8.toNat * 3) [.int .i64 n39, .slice p40 k41 k42, .int .i64 n43] ∧ Value.agg #[.int .i64 n39, .slice p40 k41 k42, .int .i64 n43] = Value.agg #[.int .i64 n32, .slice p33 k34 k35, .int .i64 n36]) ∧ ∀ w44 R45, Ctx W w44 (R9 ++ R45) I10 → Calls Tryz.prog F.errataref28_Compare #[Value.agg #[.int .i64 n20, .slice p21 k22 k23, .int .i64 n24], Value.agg #[.int .i64 n32, .slice p33 k34 k35, .int .i64 n36]] w44 fun e46 w47 => ∃ n48, e46 = .returned (.int .i64 n48) ∧ ∃ R49 Φ50, Stable Φ50 ∧ Ctx W w47 (R49 ++ R45) Φ50 ∧ Br (decide (n48 ≠ 0)) (∀ w51 R52, Ctx W w51 (R49 ++ R52) Φ50 → J (.bool false) w51) ((0 ≤ n8 ∧ n8 < (↑aN : Int)) ∧ ptrK none aP fun k53 k54 => (0 ≤ n8 ∧ n8 < (↑bN : Int)) ∧ ptrK none bP fun k55 k56 => ∀ w57 R58, Ctx W w57 (R49 ++ R58) Φ50 → ∃ n59, w57.cell? (Addr.mk k53 (k54 + n8.toNat * 3 + 2) none) = some (.int .i64 n59) ∧ ∀ w60 R61, Ctx W
  w60 (R49 ++ R61) Φ50 → ∃ n62, w60.cell? (Addr.mk k55 (k56 + n8.toNat * 3 + 2) none) = some (.int .i64 n62) ∧ Br (decide (n59 ≠ n62)) (∀ w63 R64, Ctx W w63 (R49 ++ R64) Φ50 → J (.bool false) w63) (I64 (n8 + 1) ∧ ∃ R65 Φ66 k67, Stable Φ66 ∧ Wk W R49 Φ50 R65 Φ66 ∧ I2 (n8 + 1) R65 Φ66 k67 ∧ k67 < k11))) (∀ w70 R71, Ctx W w70 (R9 ++ R71) I10 → J (.bool true) w70))
theorem Berrataref28_Equal_run (aP : Option Addr) (aN aC : Nat) (bP : Option Addr) (bN bC : Nat) {W w : World} {R : List Own} {Φ : PW} [Stable Φ] {J : Value → World → Prop} (c : Ctx W w R Φ) (h : Berrataref28_Equal aP aN aC bP bN bC W R Φ J) : Calls Tryz.prog F.errataref28_Equal #[.slice aP aN aC, .slice bP bN bC] w fun e w' => ∃ v, e = .returned v ∧ J v w' :=
  vcFS_sound (H := { keep := some [0, 1, 4, 5, 10, 14, 39], stages := [(6, [.held [(0, true), (1, true), (4, true), (5, true), (2, true), (6, true), (3, true), (7, true)], .stage [] (some 8), .stage [9, 10, 11, 12, 16, 17, 13, 18, 14, 19, 15, 20, 21, 22] none])], loops := [(4, [(5, .one (.int .i64))], [])] }) (by rw [show vcFS Tryz.prog W { keep := some [0, 1, 4, 5, 10, 14, 39], stages := [(6, [.held [(0, true), (1, true), (4, true), (5, true), (2, true), (6, true), (3, true), (7, true)], .stage [] (some 8), .stage [9, 10, 11, 12, 16, 17, 13, 18, 14, 19, 15, 20, 21, 22] none])], loops := [(4, [(5, .one (.int .i64))], [])] } F.errataref28_Equal #[.slice aP aN aC, .slice bP bN bC] R Φ J = Berrataref28_Equal aP aN aC bP bN bC W R Φ J by kernel_rfl]; exact h) c
def Bsink_Sink_Net (sB sO : Nat) (W : World) (R : List Own) (Φ : PW) (J : Value → World → Prop) : Prop :=
  ∀ w0 R1, Ctx W w0 (R ++ R1) Φ → ∃ p2 k3 k4, w0.cell? (Addr.mk sB (sO + 3) none) = some (.slice p2 k3 k4) ∧ exI fun (I5 : Option Addr → Nat → Nat → Int → List Own → PW → Nat → Prop) => (∃ R6 Φ7 k8, Stable Φ7 ∧ Wk W R Φ R6 Φ7 ∧ I5 none 0 0 0 R6 Φ7 k8) ∧ ∀ p11 k12 k13 n14 R15 I16 k17, Stable I16 → I5 p11 k12 k13 n14 R15 I16 k17 → Br (decide (n14 < (↑k3 : Int))) ((0 ≤ n14 ∧ n14 < (↑k3 : Int)) ∧ ptrK none p2 fun k18 k19 => ∀ w20 R21, Ctx W w20 (R15 ++ R21) I16 → ∃ n22 n23 n24 p25 k26 k27 n28 n29 n30, RowAt w20 k18 (k19 + n14.toNat * 7) [.int .i64 n22, .int .i64 n23, .int .i64 n24, .slice p25 k26 k27, .int .i64 n28, .int .i64 n29, .int .i64 n30] ∧ ∀ (b k31 : Nat) (w32 : World) (R33 : List Own), Ctx W w32 (Own.blk k31 [.int .i64 n24, .slice p25 k26 k27, .int .i64 n28] 71 :: R15 ++ R33) I16 → ∃ (p34 : Option Addr) (k35 k36 : Nat) (w37 : World), Sem.run Tryz.prog (builtin Builtin.append #[45,
  45] 45 #[false, false] #[.slice p11 k12 k13, .slice (some (Addr.mk k31 0 none)) 1 1]) w32 = .ok (.value (.slice p34 k35 k36)) w37 ∧ ∃ R38 Φ39, Stable Φ39 ∧ Ctx W w37 (R38 ++ R33) Φ39 ∧ I64 (n14 + 1) ∧ ∃ R40 Φ41 k42, Stable Φ41 ∧ Wk W R38 Φ39 R40 Φ41 ∧ I5 p34 k35 k36 (n14 + 1) R40 Φ41 k42 ∧ k42 < k17) (∀ w45 R46, Ctx W w45 (R15 ++ R46) I16 → Calls Tryz.prog F.delta_Consolidate #[.slice p11 k12 k13] w45 fun e47 w48 => ∃ p49 k50 k51, e47 = .returned (.slice p49 k50 k51) ∧ ∃ R52 Φ53, Stable Φ53 ∧ Ctx W w48 (R52 ++ R46) Φ53 ∧ ∀ w54 R55, Ctx W w54 (R52 ++ R55) Φ53 → J (.slice p49 k50 k51) w54)
theorem Bsink_Sink_Net_run (sB sO : Nat) {W w : World} {R : List Own} {Φ : PW} [Stable Φ] {J : Value → World → Prop} (c : Ctx W w R Φ) (h : Bsink_Sink_Net sB sO W R Φ J) : Calls Tryz.prog F.sink_Sink_Net #[.pointer (some ⟨sB, sO, none⟩)] w fun e w' => ∃ v, e = .returned v ∧ J v w' :=
  vcFS_sound (H := { keep := some [0, 2, 3, 5, 9, 10, 11, 12], track := [5], loops := [(3, [(3, .one (.slice)), (11, .one (.int .i64))], [])] }) (by rw [show vcFS Tryz.prog W { keep := some [0, 2, 3, 5, 9, 10, 11, 12], track := [5], loops := [(3, [(3, .one (.slice)), (11, .one (.int .i64))], [])] } F.sink_Sink_Net #[.pointer (some ⟨sB, sO, none⟩)] R Φ J = Bsink_Sink_Net sB sO W R Φ J by kernel_rfl]; exact h) c
def Berrataref43_Sink_Net (sB sO : Nat) (W : World) (R : List Own) (Φ : PW) (J : Value → World → Prop) : Prop :=
  exI fun (I0 : Option Addr → Nat → Nat → Int → List Own → PW → Nat → Prop) => (∃ R1 Φ2 k3, Stable Φ2 ∧ Wk W R Φ R1 Φ2 ∧ I0 none 0 0 0 R1 Φ2 k3) ∧ ∀ p6 k7 k8 n9 R10 I11 k12, Stable I11 → I0 p6 k7 k8 n9 R10 I11 k12 → ∀ w13 R14, Ctx W w13 (R10 ++ R14) I11 → ∃ p15 k16 k17, w13.cell? (Addr.mk sB (sO + 3) none) = some (.slice p15 k16 k17) ∧ Br (decide (n9 < (↑k16 : Int))) (∃ R18 Φ19, Stable Φ19 ∧ Wk W R10 I11 R18 Φ19 ∧ ∃ (p22 : Option Addr) (k23 k24 : Nat), (∀ w25 R26, Ctx W w25 (R18 ++ R26) Φ19 → ∃ p27 k28 k29, w25.cell? (Addr.mk sB (sO + 3) none) = some (.slice p27 k28 k29) ∧ Value.slice p27 k28 k29 = Value.slice p22 k23 k24) ∧ ∃ (p30 : Option Addr) (k31 k32 : Nat), (∀ w33 R34, Ctx W w33 (R18 ++ R34) Φ19 → ∃ p35 k36 k37, w33.cell? (Addr.mk sB (sO + 3) none) = some (.slice p35 k36 k37) ∧ Value.slice p35 k36 k37 = Value.slice p30 k31 k32) ∧ ∃ (p38 : Option Addr) (k39 k40 : Nat), (∀ w41 R42,
  Ctx W w41 (R18 ++ R42) Φ19 → ∃ p43 k44 k45, w41.cell? (Addr.mk sB (sO + 3) none) = some (.slice p43 k44 k45) ∧ Value.slice p43 k44 k45 = Value.slice p38 k39 k40) ∧ (0 ≤ n9 ∧ n9 < (↑k23 : Int)) ∧ ptrK none p22 fun k46 k47 => (0 ≤ n9 ∧ n9 < (↑k31 : Int)) ∧ ptrK none p30 fun k48 k49 => (0 ≤ n9 ∧ n9 < (↑k39 : Int)) ∧ ptrK none p38 fun k50 k51 => ∃ (n52 : Int), (∀ w53 R54, Ctx W w53 (R18 ++ R54) Φ19 → ∃ n55, w53.cell? (Addr.mk k46 (k47 + n9.toNat * 7 + 2) none) = some (.int .i64 n55) ∧ Value.int IntKind.i64 n55 = Value.int IntKind.i64 n52) ∧ ∃ (p56 : Option Addr) (k57 k58 : Nat), (∀ w59 R60, Ctx W w59 (R18 ++ R60) Φ19 → ∃ p61 k62 k63, w59.cell? (Addr.mk k48 (k49 + n9.toNat * 7 + 3) none) = some (.slice p61 k62 k63) ∧ Value.slice p61 k62 k63 = Value.slice p56 k57 k58) ∧ ∃ (n64 : Int), (∀ w65 R66, Ctx W w65 (R18 ++ R66) Φ19 → ∃ n67, w65.cell? (Addr.mk k50 (k51 + n9.toNat * 7 + 4) none) = some
  (.int .i64 n67) ∧ Value.int IntKind.i64 n67 = Value.int IntKind.i64 n64) ∧ ∀ (k68 : Nat), Wk W (Own.blk k68 [.int .i64 n52, .slice p56 k57 k58, .int .i64 n64] 71 :: R10) I11 (R18) Φ19 ∧ ∀ w71 R72, Ctx W w71 (Own.blk k68 [.int .i64 n52, .slice p56 k57 k58, .int .i64 n64] 71 :: R10 ++ R72) I11 → ∃ (p73 : Option Addr) (k74 k75 : Nat) (w76 : World), Sem.run Tryz.prog (builtin Builtin.append #[45, 45] 45 #[false, false] #[.slice p6 k7 k8, .slice (some (Addr.mk k68 0 none)) 1 1]) w71 = .ok (.value (.slice p73 k74 k75)) w76 ∧ ∃ R77 Φ78, Stable Φ78 ∧ Ctx W w76 (R77 ++ R72) Φ78 ∧ I64 (n9 + 1) ∧ ∃ R79 Φ80 k81, Stable Φ80 ∧ Wk W R77 Φ78 R79 Φ80 ∧ I0 p73 k74 k75 (n9 + 1) R79 Φ80 k81 ∧ k81 < k12) (∀ w84 R85, Ctx W w84 (R10 ++ R85) I11 → Calls Tryz.prog F.errataref28_Consolidate #[.slice p6 k7 k8] w84 fun e86 w87 => ∃ p88 k89 k90, e86 = .returned (.slice p88 k89 k90) ∧ ∃ R91 Φ92, Stable Φ92 ∧ Ctx W
  w87 (R91 ++ R85) Φ92 ∧ ∀ w93 R94, Ctx W w93 (R91 ++ R94) Φ92 → J (.slice p88 k89 k90) w93)
theorem Berrataref43_Sink_Net_run (sB sO : Nat) {W w : World} {R : List Own} {Φ : PW} [Stable Φ] {J : Value → World → Prop} (c : Ctx W w R Φ) (h : Berrataref43_Sink_Net sB sO W R Φ J) : Calls Tryz.prog F.errataref43_Sink_Net #[.pointer (some ⟨sB, sO, none⟩)] w fun e w' => ∃ v, e = .returned v ∧ J v w' :=
  vcFS_sound (H := { keep := some [0, 2, 3, 4, 11], stages := [(5, [.held [(0, true), (1, true), (5, true), (9, true), (13, true), (17, true), (21, true), (2, true), (10, true), (18, true), (3, true), (11, true), (19, true), (4, true), (12, true), (20, true), (6, true), (14, true), (22, true), (7, true), (15, true), (23, true), (8, true), (16, true), (24, true), (25, true), (26, false)], .stage [] (some 27), .stage [28] none])], loops := [(3, [(3, .one (.slice)), (4, .one (.int .i64))], [])] }) (by rw [show vcFS Tryz.prog W { keep := some [0, 2, 3, 4, 11], stages := [(5, [.held [(0, true), (1, true), (5, true), (9, true), (13, true), (17, true), (21, true), (2, true), (10, true), (18, true), (3, true), (11, true), (19, true), (4, true), (12, true), (20, true), (6, true), (14, true), (22, true), (7, true), (15, true), (23, true), (8, true), (16, true), (24, true), (25, true), (26, false)], .stage [] (some 27), .stage [28] none])], loops := [(3, [(3, .one (.slice)), (4, .one (.int .i64))], [])] } F.errataref43_Sink_Net #[.pointer (some ⟨sB, sO, none⟩)] R Φ J = Berrataref43_Sink_Net sB sO W R Φ J by kernel_rfl]; exact h) c
def Bsink_Sink_Cells (sB sO : Nat) (W : World) (R : List Own) (Φ : PW) (J : Value → World → Prop) : Prop :=
  ∀ (b : Nat) (w0 : World) (R1 : List Own), Ctx W w0 (R ++ R1) Φ → ∃ n2, w0.cell? (Addr.mk sB sO none) = some (.int .i64 n2) ∧ Br (decide (n2 ≠ 1)) (∀ w3 R4, Ctx W w3 (R ++ R4) Φ → J (.slice none 0 0) w3) (∀ (b k5 b : Nat) (w6 : World) (R7 : List Own), Ctx W w6 (Own.obj k5 (Obj.map #[] 0) :: R ++ R7) Φ → Calls Tryz.prog F.sink_Sink_Net #[.pointer (some (Addr.mk sB sO none))] w6 fun e8 w9 => ∃ p10 k11 k12, e8 = .returned (.slice p10 k11 k12) ∧ ∃ R13 Φ14, Stable Φ14 ∧ Ctx W w9 (R13 ++ R7) Φ14 ∧ ∀ w15 R16, Ctx W w15 (R13 ++ R16) Φ14 → Calls Tryz.prog F.slices_Backward_api_Delta_api_Delta #[.slice p10 k11 k12] w15 fun e17 w18 => ∃ (u19 : FuncId) (u20 u21 : Array Value), e17 = .returned (Value.func (Fn.func u19) u20 u21) ∧ ∃ R22 Φ23, Stable Φ23 ∧ Ctx W w18 (R22 ++ R16) Φ23 ∧ u20 = #[] ∧ okFun Tryz.prog u19 = true ∧ ∃ (k24 : Nat), exI fun (I25 : Nat → List Value) => exI fun (I26 : World → Prop)
  => exI fun (I27 : Int → Int → Option Addr → Nat → Nat → Int → Nat → Prop) => exI fun (I28 : Option Addr → Nat → Nat → List Own → PW → Nat → Prop) => Iter Tryz.prog u19 u21 k24 (fun (k29 : Nat) => (I25 k29).toArray) I26 ∧ FitsR [(20, Sh.one (Sc.int IntKind.i64)), (21, Sh.agg [Sc.int IntKind.i64, Sc.slice, Sc.int IntKind.i64])] I27 I25 k24 ∧ (∃ R30 Φ31, Stable Φ31 ∧ Wk W R22 Φ23 R30 Φ31 ∧ I28 none 0 0 R30 Φ31 0) ∧ ∀ p34 k35 k36 R37 I38 k39, Stable I38 → I28 p34 k35 k36 R37 I38 k39 → (∀ w40 R41, Ctx W w40 (R37 ++ R41) I38 → I26 w40) ∧ (k39 < k24 → ∀ (n42 n43 : Int) (p44 : Option Addr) (k45 k46 : Nat) (n47 : Int), I27 n42 n43 p44 k45 k46 n47 k39 → ∀ (b : Nat) (w48 : World) (R49 : List Own), Ctx W w48 (R37 ++ R49) I38 → ∃ p50 k51 k52, w48.cell? (Addr.mk sB (sO + 1) none) = some (.slice p50 k51 k52) ∧ exI fun (I53 : Option Addr → Nat → Nat → Int → List Own → PW → Nat → Prop) => (∃ R54 Φ55
  k56, Stable Φ55 ∧ Wk W R37 I38 R54 Φ55 ∧ I53 none 0 0 0 R54 Φ55 k56) ∧ ∀ p59 k60 k61 n62 R63 I64 k65, Stable I64 → I53 p59 k60 k61 n62 R63 I64 k65 → Br (decide (n62 < (↑k51 : Int))) ((0 ≤ n62 ∧ n62 < (↑k51 : Int)) ∧ ptrK none p50 fun k66 k67 => ∀ w68 R69, Ctx W w68 (R63 ++ R69) I64 → ∃ n70, w68.cell? (Addr.mk k66 (k67 + n62.toNat) none) = some (.int .i64 n70) ∧ (0 ≤ n70 ∧ n70 < (↑k45 : Int)) ∧ ptrK none p44 fun k71 k72 => ∀ w73 R74, Ctx W w73 (R63 ++ R74) I64 → ∃ n75 n76 s77, RowAt w73 k71 (k72 + n70.toNat * 3) [.int .i64 n75, .int .i64 n76, .string s77] ∧ ∀ (k78 : Nat) (w79 : World) (R80 : List Own), Ctx W w79 (Own.blk k78 [.int .i64 n75, .int .i64 n76, .string s77] 78 :: R63 ++ R80) I64 → ∃ (p81 : Option Addr) (k82 k83 : Nat) (w84 : World), Sem.run Tryz.prog (builtin Builtin.append #[49, 49] 49 #[false, false] #[.slice p59 k60 k61, .slice (some (Addr.mk k78 0 none)) 1 1]) w79 = .ok
  (.value (.slice p81 k82 k83)) w84 ∧ ∃ R85 Φ86, Stable Φ86 ∧ Ctx W w84 (R85 ++ R80) Φ86 ∧ Vc.I64 (n62 + 1) ∧ ∃ R87 Φ88 k89, Stable Φ88 ∧ Wk W R85 Φ86 R87 Φ88 ∧ I53 p81 k82 k83 (n62 + 1) R87 Φ88 k89 ∧ k89 < k65) (∀ w92 R93, Ctx W w92 (R63 ++ R93) I64 → Calls Tryz.prog F.value_RowBytes #[.slice p59 k60 k61] w92 fun e94 w95 => ∃ s96, e94 = .returned (.string s96) ∧ ∃ R97 Φ98, Stable Φ98 ∧ Ctx W w95 (R97 ++ R93) Φ98 ∧ ∀ w99 R100, Ctx W w99 (R97 ++ R100) Φ98 → ∃ (c101 : Bool), (decide (0 < n47) = true → ∀ (w102 : World), w102.heap = w99.heap → Sem.run Tryz.prog (Instr.lookup 73 (Value.map (some k5)) (Value.string s96) false) w102 = Result.ok (Value.bool c101) w102) ∧ Br (decide (0 < n47) && !c101) (∀ w103 R104, Ctx W w103 (R97 ++ R104) Φ98 → ∃ (w105 : World), Sem.run Tryz.prog (Instr.mapUpdate 73 (Value.map (some k5)) (Value.string s96) (Value.bool true)) w103 = Result.ok () w105 ∧ ∃ R106
  Φ107, Stable Φ107 ∧ Ctx W w105 (R106 ++ R104) Φ107 ∧ ∀ (k108 : Nat) (w109 : World) (R110 : List Own), Ctx W w109 (Own.blk k108 [.int .i64 n43, .slice p44 k45 k46, .int .i64 n47] 71 :: R106 ++ R110) Φ107 → ∃ (p111 : Option Addr) (k112 k113 : Nat) (w114 : World), Sem.run Tryz.prog (builtin Builtin.append #[45, 45] 45 #[false, false] #[.slice p34 k35 k36, .slice (some (Addr.mk k108 0 none)) 1 1]) w109 = .ok (.value (.slice p111 k112 k113)) w114 ∧ ∃ R115 Φ116, Stable Φ116 ∧ Ctx W w114 (R115 ++ R110) Φ116 ∧ ∃ R117 Φ118, Stable Φ118 ∧ Wk W R115 Φ116 R117 Φ118 ∧ I28 p111 k112 k113 R117 Φ118 (k39 + 1)) (∃ R121 Φ122, Stable Φ122 ∧ Wk W R97 Φ98 R121 Φ122 ∧ I28 p34 k35 k36 R121 Φ122 (k39 + 1)))) ∧ (k39 = k24 → ∀ w125 R126, Ctx W w125 (R37 ++ R126) I38 → Calls Tryz.prog F.slices_Reverse_api_Delta_api_Delta #[.slice p34 k35 k36] w125 fun e127 w128 => e127 = .returned (Value.tuple #[]) ∧ ∃ R129 Φ130,
  Stable Φ130 ∧ Ctx W w128 (R129 ++ R126) Φ130 ∧ ∀ w131 R132, Ctx W w131 (R129 ++ R132) Φ130 → J (.slice p34 k35 k36) w131))
theorem Bsink_Sink_Cells_run (sB sO : Nat) {W w : World} {R : List Own} {Φ : PW} [Stable Φ] {J : Value → World → Prop} (c : Ctx W w R Φ) (h : Bsink_Sink_Cells sB sO W R Φ J) : Calls Tryz.prog F.sink_Sink_Cells #[.pointer (some ⟨sB, sO, none⟩)] w fun e w' => ∃ v, e = .returned v ∧ J v w' :=
  vcFS_sound (H := { keep := some [1, 2, 3, 4, 6, 7, 9, 10, 15, 19, 21, 25, 26, 27, 28, 50], track := [1, 3, 4, 6], loops := [(9, [(7, .one (.slice)), (27, .one (.int .i64))], []), (7, [(20, .one (.int .i64)), (21, .agg [.int .i64, .slice, .int .i64])], [(3, .agg [.slice])])] }) (by rw [show vcFS Tryz.prog W { keep := some [1, 2, 3, 4, 6, 7, 9, 10, 15, 19, 21, 25, 26, 27, 28, 50], track := [1, 3, 4, 6], loops := [(9, [(7, .one (.slice)), (27, .one (.int .i64))], []), (7, [(20, .one (.int .i64)), (21, .agg [.int .i64, .slice, .int .i64])], [(3, .agg [.slice])])] } F.sink_Sink_Cells #[.pointer (some ⟨sB, sO, none⟩)] R Φ J = Bsink_Sink_Cells sB sO W R Φ J by kernel_rfl]; exact h) c
def Berrataref43_Sink_Cells (sB sO : Nat) (W : World) (R : List Own) (Φ : PW) (J : Value → World → Prop) : Prop :=
  ∀ w0 R1, Ctx W w0 (R ++ R1) Φ → Calls Tryz.prog F.errataref43_Sink_Net #[.pointer (some (Addr.mk sB sO none))] w0 fun e2 w3 => ∃ p4 k5 k6, e2 = .returned (.slice p4 k5 k6) ∧ ∃ R7 Φ8, Stable Φ8 ∧ Ctx W w3 (R7 ++ R1) Φ8 ∧ exI fun (I9 : Option Addr → Nat → Nat → Int → List Own → PW → Nat → Prop) => (∃ R10 Φ11 k12, Stable Φ11 ∧ Wk W R7 Φ8 R10 Φ11 ∧ I9 none 0 0 0 R10 Φ11 k12) ∧ ∀ p15 k16 k17 n18 R19 I20 k21, Stable I20 → I9 p15 k16 k17 n18 R19 I20 k21 → ∀ w22 R23, Ctx W w22 (R19 ++ R23) I20 → ∃ (n24 : Int), (decide (n18 < (↑k5 : Int)) = true → w22.cell? (Addr.mk sB sO none) = some (.int .i64 n24)) ∧ Br (decide (n18 < (↑k5 : Int)) && decide (n24 = 1)) ((0 ≤ n18 ∧ n18 < (↑k5 : Int)) ∧ ptrK none p4 fun k25 k26 => ∀ w27 R28, Ctx W w27 (R19 ++ R28) I20 → ∃ n29, w27.cell? (Addr.mk k25 (k26 + n18.toNat * 3 + 2) none) = some (.int .i64 n29) ∧ I64 (n18 + 1) ∧ exI fun (I30 : Bool → Int → List Own → PW
  → Nat → Prop) => (∃ R31 Φ32 k33, Stable Φ32 ∧ Wk W R19 I20 R31 Φ32 ∧ I30 (decide (0 < n29)) (n18 + 1) R31 Φ32 k33) ∧ ∀ c36 n37 R38 I39 k40, Stable I39 → I30 c36 n37 R38 I39 k40 → Br (decide (n37 < (↑k5 : Int))) (∃ R41 Φ42, Stable Φ42 ∧ Wk W R38 I39 R41 Φ42 ∧ Br c36 ((0 ≤ n37 ∧ n37 < (↑k5 : Int)) ∧ ptrK none p4 fun k45 k46 => ∃ (n47 : Int), (∀ w48 R49, Ctx W w48 (R41 ++ R49) Φ42 → ∃ n50, w48.cell? (Addr.mk k45 (k46 + n37.toNat * 3 + 2) none) = some (.int .i64 n50) ∧ Value.int IntKind.i64 n50 = Value.int IntKind.i64 n47) ∧ Br (decide (n47 < 1)) (I64 (n37 + 1) ∧ ∃ R51 Φ52 k53, Stable Φ52 ∧ Wk W R38 I39 R51 Φ52 ∧ I30 true (n37 + 1) R51 Φ52 k53 ∧ k53 < k40) ((0 ≤ n18 ∧ n18 < (↑k5 : Int)) ∧ ptrK none p4 fun k56 k57 => (0 ≤ n37 ∧ n37 < (↑k5 : Int)) ∧ ptrK none p4 fun k58 k59 => ∃ (p60 : Option Addr) (k61 k62 : Nat), (∀ w63 R64, Ctx W w63 (R41 ++ R64) Φ42 → ∃ p65 k66 k67, w63.cell? (Addr.mk k56
  (k57 + n18.toNat * 3 + 1) none) = some (.slice p65 k66 k67) ∧ Value.slice p65 k66 k67 = Value.slice p60 k61 k62) ∧ ∃ (p68 : Option Addr) (k69 k70 : Nat), (∀ w71 R72, Ctx W w71 (R41 ++ R72) Φ42 → ∃ p73 k74 k75, w71.cell? (Addr.mk k58 (k59 + n37.toNat * 3 + 1) none) = some (.slice p73 k74 k75) ∧ Value.slice p73 k74 k75 = Value.slice p68 k69 k70) ∧ ∀ w76 R77, Ctx W w76 (R38 ++ R77) I39 → Calls Tryz.prog F.errataref43_Sink_same #[.pointer (some (Addr.mk sB sO none)), .slice p60 k61 k62, .slice p68 k69 k70] w76 fun e78 w79 => ∃ c80, e78 = .returned (.bool c80) ∧ ∃ R81 Φ82, Stable Φ82 ∧ Ctx W w79 (R81 ++ R77) Φ82 ∧ I64 (n37 + 1) ∧ ∃ R83 Φ84 k85, Stable Φ84 ∧ Wk W R81 Φ82 R83 Φ84 ∧ I30 (!c80) (n37 + 1) R83 Φ84 k85 ∧ k85 < k40)) (I64 (n37 + 1) ∧ ∃ R88 Φ89 k90, Stable Φ89 ∧ Wk W R38 I39 R88 Φ89 ∧ I30 false (n37 + 1) R88 Φ89 k90 ∧ k90 < k40)) (Br c36 ((0 ≤ n18 ∧ n18 < (↑k5 : Int)) ∧ ptrK none p4
  fun k93 k94 => ∀ w95 R96, Ctx W w95 (R38 ++ R96) I39 → ∃ n97 p98 k99 k100 n101, RowAt w95 k93 (k94 + n18.toNat * 3) [.int .i64 n97, .slice p98 k99 k100, .int .i64 n101] ∧ ∀ (k102 : Nat) (w103 : World) (R104 : List Own), Ctx W w103 (Own.blk k102 [.int .i64 n97, .slice p98 k99 k100, .int .i64 n101] 71 :: R38 ++ R104) I39 → ∃ (p105 : Option Addr) (k106 k107 : Nat) (w108 : World), Sem.run Tryz.prog (builtin Builtin.append #[45, 45] 45 #[false, false] #[.slice p15 k16 k17, .slice (some (Addr.mk k102 0 none)) 1 1]) w103 = .ok (.value (.slice p105 k106 k107)) w108 ∧ ∃ R109 Φ110, Stable Φ110 ∧ Ctx W w108 (R109 ++ R104) Φ110 ∧ I64 (n18 + 1) ∧ ∃ R111 Φ112 k113, Stable Φ112 ∧ Wk W R109 Φ110 R111 Φ112 ∧ I9 p105 k106 k107 (n18 + 1) R111 Φ112 k113 ∧ k113 < k21) (I64 (n18 + 1) ∧ ∃ R116 Φ117 k118, Stable Φ117 ∧ Wk W R38 I39 R116 Φ117 ∧ I9 p15 k16 k17 (n18 + 1) R116 Φ117 k118 ∧ k118 < k21))) (∀ w121
  R122, Ctx W w121 (R19 ++ R122) I20 → J (.slice p15 k16 k17) w121)
theorem Berrataref43_Sink_Cells_run (sB sO : Nat) {W w : World} {R : List Own} {Φ : PW} [Stable Φ] {J : Value → World → Prop} (c : Ctx W w R Φ) (h : Berrataref43_Sink_Cells sB sO W R Φ J) : Calls Tryz.prog F.errataref43_Sink_Cells #[.pointer (some ⟨sB, sO, none⟩)] w fun e w' => ∃ v, e = .returned v ∧ J v w' :=
  vcFS_sound (H := { keep := some [0, 2, 3, 4, 5, 6, 7, 20, 34, 61], stages := [(10, [.held [(0, true), (1, true), (2, true), (3, true), (4, true), (5, true), (6, true), (7, true), (8, true), (9, true), (10, true), (11, true), (15, true), (16, true), (12, true), (17, true), (13, true), (18, true), (14, true), (19, true)], .stage [] (some 20), .stage [21, 22, 23, 24] none])], loops := [(8, [(6, .one (.bool)), (7, .one (.int .i64))], []), (4, [(3, .one (.slice)), (5, .one (.int .i64))], [])] }) (by rw [show vcFS Tryz.prog W { keep := some [0, 2, 3, 4, 5, 6, 7, 20, 34, 61], stages := [(10, [.held [(0, true), (1, true), (2, true), (3, true), (4, true), (5, true), (6, true), (7, true), (8, true), (9, true), (10, true), (11, true), (15, true), (16, true), (12, true), (17, true), (13, true), (18, true), (14, true), (19, true)], .stage [] (some 20), .stage [21, 22, 23, 24] none])], loops := [(8, [(6, .one (.bool)), (7, .one (.int .i64))], []), (4, [(3, .one (.slice)), (5, .one (.int .i64))], [])] } F.errataref43_Sink_Cells #[.pointer (some ⟨sB, sO, none⟩)] R Φ J = Berrataref43_Sink_Cells sB sO W R Φ J by kernel_rfl]; exact h) c
def Berrataref43_Sink_Prepare (sB sO : Nat) (batch : Int) (linesP : Option Addr) (linesN linesC : Nat) (W : World) (R : List Own) (Φ : PW) (J : Value → World → Prop) : Prop :=
  ∀ w0 R1, Ctx W w0 (R ++ R1) Φ → ∃ n2, w0.cell? (Addr.mk sB sO none) = some (.int .i64 n2) ∧ Br (decide (n2 ≠ 0)) (∀ w3 R4, Ctx W w3 (R ++ R4) Φ → J (.int .i64 7) w3) (∀ w5 R6, Ctx W w5 (R ++ R6) Φ → Calls Tryz.prog F.errataref43_Sink_Has #[.pointer (some (Addr.mk sB sO none)), .int .i64 batch] w5 fun e7 w8 => ∃ c9, e7 = .returned (.bool c9) ∧ ∃ R10 Φ11, Stable Φ11 ∧ Ctx W w8 (R10 ++ R6) Φ11 ∧ Br c9 (∀ w12 R13, Ctx W w12 (R10 ++ R13) Φ11 → J (.int .i64 0) w12) (∀ w14 R15, Ctx W w14 (R10 ++ R15) Φ11 → Calls Tryz.prog F.errataref43_Sink_look #[.pointer (some (Addr.mk sB sO none)), .int .i64 batch, .slice linesP linesN linesC] w14 fun e16 w17 => ∃ n18, e16 = .returned (.int .i64 n18) ∧ ∃ R19 Φ20, Stable Φ20 ∧ Ctx W w17 (R19 ++ R15) Φ20 ∧ Br (decide (n18 ≠ 0)) (∀ w21 R22, Ctx W w21 (R19 ++ R22) Φ20 → J (.int .i64 n18) w21) (∀ w23 R24, Ctx W w23 (R19 ++ R24) Φ20 → CanWrite w23 sB (sO + 4) 1 ∧
  ∀ (w25 : World), w25 = w23.setCell (Addr.mk sB (sO + 4) none) (Value.int IntKind.i64 batch) → ∃ R26 Φ27, Stable Φ27 ∧ Ctx W w25 (R26 ++ R24) Φ27 ∧ ∀ w28 R29, Ctx W w28 (R26 ++ R29) Φ27 → Calls Tryz.prog F.errataref43_Clone #[.slice linesP linesN linesC] w28 fun e30 w31 => ∃ p32 k33 k34, e30 = .returned (.slice p32 k33 k34) ∧ ∃ R35 Φ36, Stable Φ36 ∧ Ctx W w31 (R35 ++ R29) Φ36 ∧ ∀ w37 R38, Ctx W w37 (R35 ++ R38) Φ36 → CanWrite w37 sB (sO + 5) 1 ∧ ∀ (w39 : World), w39 = w37.setCell (Addr.mk sB (sO + 5) none) (Value.slice p32 k33 k34) → ∃ R40 Φ41, Stable Φ41 ∧ Ctx W w39 (R40 ++ R38) Φ41 ∧ ∀ w42 R43, Ctx W w42 (R40 ++ R43) Φ41 → J (.int .i64 0) w42)))
theorem Berrataref43_Sink_Prepare_run (sB sO : Nat) (batch : Int) (linesP : Option Addr) (linesN linesC : Nat) {W w : World} {R : List Own} {Φ : PW} [Stable Φ] {J : Value → World → Prop} (c : Ctx W w R Φ) (h : Berrataref43_Sink_Prepare sB sO batch linesP linesN linesC W R Φ J) : Calls Tryz.prog F.errataref43_Sink_Prepare #[.pointer (some ⟨sB, sO, none⟩), .int .i64 batch, .slice linesP linesN linesC] w fun e w' => ∃ v, e = .returned v ∧ J v w' :=
  vcFS_sound (H := { keep := some [0, 1, 2, 6, 7, 12, 15, 21] }) (by rw [show vcFS Tryz.prog W { keep := some [0, 1, 2, 6, 7, 12, 15, 21] } F.errataref43_Sink_Prepare #[.pointer (some ⟨sB, sO, none⟩), .int .i64 batch, .slice linesP linesN linesC] R Φ J = Berrataref43_Sink_Prepare sB sO batch linesP linesN linesC W R Φ J by kernel_rfl]; exact h) c
def Berrataref43_Sink_Commit (sB sO : Nat) (batch : Int) (W : World) (R : List Own) (Φ : PW) (J : Value → World → Prop) : Prop :=
  ∀ w0 R1, Ctx W w0 (R ++ R1) Φ → ∃ n2, w0.cell? (Addr.mk sB sO none) = some (.int .i64 n2) ∧ Br (decide (n2 ≠ 0)) (∀ w3 R4, Ctx W w3 (R ++ R4) Φ → J (.int .i64 7) w3) (∀ w5 R6, Ctx W w5 (R ++ R6) Φ → Calls Tryz.prog F.errataref43_Sink_Has #[.pointer (some (Addr.mk sB sO none)), .int .i64 batch] w5 fun e7 w8 => ∃ c9, e7 = .returned (.bool c9) ∧ ∃ R10 Φ11, Stable Φ11 ∧ Ctx W w8 (R10 ++ R6) Φ11 ∧ Br c9 (∀ w12 R13, Ctx W w12 (R10 ++ R13) Φ11 → J (.int .i64 0) w12) (∀ w14 R15, Ctx W w14 (R10 ++ R15) Φ11 → ∃ (n16 : Int), ((!decide (batch < 1)) = true → w14.cell? (Addr.mk sB (sO + 4) none) = some (.int .i64 n16)) ∧ Br (decide (batch < 1) || decide (n16 ≠ batch)) (∀ w17 R18, Ctx W w17 (R10 ++ R18) Φ11 → J (.int .i64 4) w17) (∀ w19 R20, Ctx W w19 (R10 ++ R20) Φ11 → ∃ p21 k22 k23, w19.cell? (Addr.mk sB (sO + 5) none) = some (.slice p21 k22 k23) ∧ ∀ w24 R25, Ctx W w24 (R10 ++ R25) Φ11 → Calls
  Tryz.prog F.errataref43_Sink_take #[.pointer (some (Addr.mk sB sO none)), .int .i64 batch, .slice p21 k22 k23] w24 fun e26 w27 => e26 = .returned (Value.tuple #[]) ∧ ∃ R28 Φ29, Stable Φ29 ∧ Ctx W w27 (R28 ++ R25) Φ29 ∧ ∀ w30 R31, Ctx W w30 (R28 ++ R31) Φ29 → CanWrite w30 sB (sO + 4) 1 ∧ ∀ (w32 : World), w32 = w30.setCell (Addr.mk sB (sO + 4) none) (Value.int IntKind.i64 0) → ∃ R33 Φ34, Stable Φ34 ∧ Ctx W w32 (R33 ++ R31) Φ34 ∧ ∀ w35 R36, Ctx W w35 (R33 ++ R36) Φ34 → CanWrite w35 sB (sO + 5) 1 ∧ ∀ (w37 : World), w37 = w35.setCell (Addr.mk sB (sO + 5) none) (Value.slice none 0 0) → ∃ R38 Φ39, Stable Φ39 ∧ Ctx W w37 (R38 ++ R36) Φ39 ∧ ∀ w40 R41, Ctx W w40 (R38 ++ R41) Φ39 → J (.int .i64 0) w40)))
theorem Berrataref43_Sink_Commit_run (sB sO : Nat) (batch : Int) {W w : World} {R : List Own} {Φ : PW} [Stable Φ] {J : Value → World → Prop} (c : Ctx W w R Φ) (h : Berrataref43_Sink_Commit sB sO batch W R Φ J) : Calls Tryz.prog F.errataref43_Sink_Commit #[.pointer (some ⟨sB, sO, none⟩), .int .i64 batch] w fun e w' => ∃ v, e = .returned v ∧ J v w' :=
  vcFS_sound (H := { keep := some [0, 1, 4, 9, 12, 22] }) (by rw [show vcFS Tryz.prog W { keep := some [0, 1, 4, 9, 12, 22] } F.errataref43_Sink_Commit #[.pointer (some ⟨sB, sO, none⟩), .int .i64 batch] R Φ J = Berrataref43_Sink_Commit sB sO batch W R Φ J by kernel_rfl]; exact h) c
def Berrataref43_Sink_Abort (sB sO : Nat) (batch : Int) (W : World) (R : List Own) (Φ : PW) (J : Value → World → Prop) : Prop :=
  ∀ w0 R1, Ctx W w0 (R ++ R1) Φ → ∃ n2, w0.cell? (Addr.mk sB sO none) = some (.int .i64 n2) ∧ Br (decide (n2 ≠ 0)) (∀ w3 R4, Ctx W w3 (R ++ R4) Φ → J (.int .i64 7) w3) (∀ w5 R6, Ctx W w5 (R ++ R6) Φ → Calls Tryz.prog F.errataref43_Sink_Has #[.pointer (some (Addr.mk sB sO none)), .int .i64 batch] w5 fun e7 w8 => ∃ c9, e7 = .returned (.bool c9) ∧ ∃ R10 Φ11, Stable Φ11 ∧ Ctx W w8 (R10 ++ R6) Φ11 ∧ Br c9 (∀ w12 R13, Ctx W w12 (R10 ++ R13) Φ11 → J (.int .i64 7) w12) (∀ w14 R15, Ctx W w14 (R10 ++ R15) Φ11 → ∃ (n16 : Int), ((!decide (batch < 1)) = true → w14.cell? (Addr.mk sB (sO + 4) none) = some (.int .i64 n16)) ∧ Br (decide (batch < 1) || decide (n16 ≠ batch)) (∀ w17 R18, Ctx W w17 (R10 ++ R18) Φ11 → J (.int .i64 4) w17) (∀ w19 R20, Ctx W w19 (R10 ++ R20) Φ11 → CanWrite w19 sB (sO + 4) 1 ∧ ∀ (w21 : World), w21 = w19.setCell (Addr.mk sB (sO + 4) none) (Value.int IntKind.i64 0) → ∃ R22 Φ23,
  Stable Φ23 ∧ Ctx W w21 (R22 ++ R20) Φ23 ∧ ∀ w24 R25, Ctx W w24 (R22 ++ R25) Φ23 → CanWrite w24 sB (sO + 5) 1 ∧ ∀ (w26 : World), w26 = w24.setCell (Addr.mk sB (sO + 5) none) (Value.slice none 0 0) → ∃ R27 Φ28, Stable Φ28 ∧ Ctx W w26 (R27 ++ R25) Φ28 ∧ ∀ w29 R30, Ctx W w29 (R27 ++ R30) Φ28 → J (.int .i64 0) w29)))
theorem Berrataref43_Sink_Abort_run (sB sO : Nat) (batch : Int) {W w : World} {R : List Own} {Φ : PW} [Stable Φ] {J : Value → World → Prop} (c : Ctx W w R Φ) (h : Berrataref43_Sink_Abort sB sO batch W R Φ J) : Calls Tryz.prog F.errataref43_Sink_Abort #[.pointer (some ⟨sB, sO, none⟩), .int .i64 batch] w fun e w' => ∃ v, e = .returned v ∧ J v w' :=
  vcFS_sound (H := { keep := some [0, 1, 4, 14, 24], split := [1] }) (by rw [show vcFS Tryz.prog W { keep := some [0, 1, 4, 14, 24], split := [1] } F.errataref43_Sink_Abort #[.pointer (some ⟨sB, sO, none⟩), .int .i64 batch] R Φ J = Berrataref43_Sink_Abort sB sO batch W R Φ J by kernel_rfl]; exact h) c
def Berrataref43_Sink_Deliver (sB sO : Nat) (batch : Int) (linesP : Option Addr) (linesN linesC : Nat) (W : World) (R : List Own) (Φ : PW) (J : Value → World → Prop) : Prop :=
  ∀ w0 R1, Ctx W w0 (R ++ R1) Φ → ∃ n2, w0.cell? (Addr.mk sB sO none) = some (.int .i64 n2) ∧ Br (decide (n2 = 0)) (∀ w3 R4, Ctx W w3 (R ++ R4) Φ → J (.int .i64 7) w3) (∀ w5 R6, Ctx W w5 (R ++ R6) Φ → Calls Tryz.prog F.errataref43_Sink_Has #[.pointer (some (Addr.mk sB sO none)), .int .i64 batch] w5 fun e7 w8 => ∃ c9, e7 = .returned (.bool c9) ∧ ∃ R10 Φ11, Stable Φ11 ∧ Ctx W w8 (R10 ++ R6) Φ11 ∧ Br c9 (∀ w12 R13, Ctx W w12 (R10 ++ R13) Φ11 → J (.int .i64 0) w12) (∀ w14 R15, Ctx W w14 (R10 ++ R15) Φ11 → Calls Tryz.prog F.errataref43_Sink_look #[.pointer (some (Addr.mk sB sO none)), .int .i64 batch, .slice linesP linesN linesC] w14 fun e16 w17 => ∃ n18, e16 = .returned (.int .i64 n18) ∧ ∃ R19 Φ20, Stable Φ20 ∧ Ctx W w17 (R19 ++ R15) Φ20 ∧ Br (decide (n18 = 0)) (∀ w21 R22, Ctx W w21 (R19 ++ R22) Φ20 → Calls Tryz.prog F.errataref43_Clone #[.slice linesP linesN linesC] w21 fun e23 w24 => ∃ p25
  k26 k27, e23 = .returned (.slice p25 k26 k27) ∧ ∃ R28 Φ29, Stable Φ29 ∧ Ctx W w24 (R28 ++ R22) Φ29 ∧ ∀ w30 R31, Ctx W w30 (R28 ++ R31) Φ29 → Calls Tryz.prog F.errataref43_Sink_take #[.pointer (some (Addr.mk sB sO none)), .int .i64 batch, .slice p25 k26 k27] w30 fun e32 w33 => e32 = .returned (Value.tuple #[]) ∧ ∃ R34 Φ35, Stable Φ35 ∧ Ctx W w33 (R34 ++ R31) Φ35 ∧ ∀ w36 R37, Ctx W w36 (R34 ++ R37) Φ35 → J (.int .i64 n18) w36) (∀ w38 R39, Ctx W w38 (R19 ++ R39) Φ20 → J (.int .i64 n18) w38)))
theorem Berrataref43_Sink_Deliver_run (sB sO : Nat) (batch : Int) (linesP : Option Addr) (linesN linesC : Nat) {W w : World} {R : List Own} {Φ : PW} [Stable Φ] {J : Value → World → Prop} (c : Ctx W w R Φ) (h : Berrataref43_Sink_Deliver sB sO batch linesP linesN linesC W R Φ J) : Calls Tryz.prog F.errataref43_Sink_Deliver #[.pointer (some ⟨sB, sO, none⟩), .int .i64 batch, .slice linesP linesN linesC] w fun e w' => ∃ v, e = .returned v ∧ J v w' :=
  vcFS_sound (H := { keep := some [0, 1, 2, 6, 7, 12, 15, 21] }) (by rw [show vcFS Tryz.prog W { keep := some [0, 1, 2, 6, 7, 12, 15, 21] } F.errataref43_Sink_Deliver #[.pointer (some ⟨sB, sO, none⟩), .int .i64 batch, .slice linesP linesN linesC] R Φ J = Berrataref43_Sink_Deliver sB sO batch linesP linesN linesC W R Φ J by kernel_rfl]; exact h) c
def Berrataref01_Int (n : Int) (W : World) (R : List Own) (Φ : PW) (J : Value → World → Prop) : Prop :=
  Br (decide (n < 0)) (∀ w0 R1, Ctx W w0 (R ++ R1) Φ → Calls Tryz.prog F.errataref01_digits #[.int .i64 n] w0 fun e2 w3 => ∃ s4, e2 = .returned (.string s4) ∧ ∃ R5 Φ6, Stable Φ6 ∧ Ctx W w3 (R5 ++ R1) Φ6 ∧ ((ByteArray.mk #[OfNat.ofNat 45]).size + s4.size).le 9223372036854775807 ∧ ((ByteArray.mk #[OfNat.ofNat 45] ++ s4).size + (ByteArray.mk #[OfNat.ofNat 59]).size).le 9223372036854775807 ∧ ∀ w7 R8, Ctx W w7 (R5 ++ R8) Φ6 → J (.string (ByteArray.mk #[OfNat.ofNat 45] ++ s4 ++ ByteArray.mk #[OfNat.ofNat 59])) w7) (I64 (0 - n) ∧ ∀ w9 R10, Ctx W w9 (R ++ R10) Φ → Calls Tryz.prog F.errataref01_digits #[.int .i64 (0 - n)] w9 fun e11 w12 => ∃ s13, e11 = .returned (.string s13) ∧ ∃ R14 Φ15, Stable Φ15 ∧ Ctx W w12 (R14 ++ R10) Φ15 ∧ (s13.size + (ByteArray.mk #[OfNat.ofNat 59]).size).le 9223372036854775807 ∧ ∀ w16 R17, Ctx W w16 (R14 ++ R17) Φ15 → J (.string (s13 ++ ByteArray.mk #[OfNat.ofNat 59]))
  w16)
theorem Berrataref01_Int_run (n : Int) {W w : World} {R : List Own} {Φ : PW} [Stable Φ] {J : Value → World → Prop} (c : Ctx W w R Φ) (h : Berrataref01_Int n W R Φ J) : Calls Tryz.prog F.errataref01_Int #[.int .i64 n] w fun e w' => ∃ v, e = .returned v ∧ J v w' :=
  vcFS_sound (H := { keep := some [0, 2, 4] }) (by rw [show vcFS Tryz.prog W { keep := some [0, 2, 4] } F.errataref01_Int #[.int .i64 n] R Φ J = Berrataref01_Int n W R Φ J by kernel_rfl]; exact h) c
def Berrataref01_Nums (lP : Option Addr) (lN lC : Nat) (W : World) (R : List Own) (Φ : PW) (J : Value → World → Prop) : Prop :=
  I64 (0 - (↑lN : Int)) ∧ ∀ w0 R1, Ctx W w0 (R ++ R1) Φ → Calls Tryz.prog F.errataref01_digits #[.int .i64 (0 - (↑lN : Int))] w0 fun e2 w3 => ∃ s4, e2 = .returned (.string s4) ∧ ∃ R5 Φ6, Stable Φ6 ∧ Ctx W w3 (R5 ++ R1) Φ6 ∧ (s4.size + (ByteArray.mk #[OfNat.ofNat 91]).size).le 9223372036854775807 ∧ exI fun (I7 : ByteArray → Int → List Own → PW → Nat → Prop) => (∃ R8 Φ9 k10, Stable Φ9 ∧ Wk W R5 Φ6 R8 Φ9 ∧ I7 (s4 ++ ByteArray.mk #[OfNat.ofNat 91]) 0 R8 Φ9 k10) ∧ ∀ s13 n14 R15 I16 k17, Stable I16 → I7 s13 n14 R15 I16 k17 → Br (decide (n14 < (↑lN : Int))) ((0 ≤ n14 ∧ n14 < (↑lN : Int)) ∧ ptrK none lP fun k18 k19 => ∀ w20 R21, Ctx W w20 (R15 ++ R21) I16 → ∃ n22, w20.cell? (Addr.mk k18 (k19 + n14.toNat) none) = some (.int .i64 n22) ∧ ∀ w23 R24, Ctx W w23 (R15 ++ R24) I16 → Calls Tryz.prog F.errataref01_Int #[.int .i64 n22] w23 fun e25 w26 => ∃ s27, e25 = .returned (.string s27) ∧ ∃ R28 Φ29,
  Stable Φ29 ∧ Ctx W w26 (R28 ++ R24) Φ29 ∧ (s13.size + s27.size).le 9223372036854775807 ∧ I64 (n14 + 1) ∧ ∃ R30 Φ31 k32, Stable Φ31 ∧ Wk W R28 Φ29 R30 Φ31 ∧ I7 (s13 ++ s27) (n14 + 1) R30 Φ31 k32 ∧ k32 < k17) ((s13.size + (ByteArray.mk #[OfNat.ofNat 93]).size).le 9223372036854775807 ∧ ∀ w35 R36, Ctx W w35 (R15 ++ R36) I16 → J (.string (s13 ++ ByteArray.mk #[OfNat.ofNat 93])) w35)
theorem Berrataref01_Nums_run (lP : Option Addr) (lN lC : Nat) {W w : World} {R : List Own} {Φ : PW} [Stable Φ] {J : Value → World → Prop} (c : Ctx W w R Φ) (h : Berrataref01_Nums lP lN lC W R Φ J) : Calls Tryz.prog F.errataref01_Nums #[.slice lP lN lC] w fun e w' => ∃ v, e = .returned v ∧ J v w' :=
  vcFS_sound (H := { keep := some [0, 2, 3, 4, 13], loops := [(3, [(3, .one (.str)), (4, .one (.int .i64))], [])] }) (by rw [show vcFS Tryz.prog W { keep := some [0, 2, 3, 4, 13], loops := [(3, [(3, .one (.str)), (4, .one (.int .i64))], [])] } F.errataref01_Nums #[.slice lP lN lC] R Φ J = Berrataref01_Nums lP lN lC W R Φ J by kernel_rfl]; exact h) c
def Berrataref43_lines (lP : Option Addr) (lN lC : Nat) (W : World) (R : List Own) (Φ : PW) (J : Value → World → Prop) : Prop :=
  ∀ w0 R1, Ctx W w0 (R ++ R1) Φ → Calls Tryz.prog F.errataref01_Num #[.int .i64 (↑lN : Int)] w0 fun e2 w3 => ∃ s4, e2 = .returned (.string s4) ∧ ∃ R5 Φ6, Stable Φ6 ∧ Ctx W w3 (R5 ++ R1) Φ6 ∧ exI fun (I7 : ByteArray → Int → List Own → PW → Nat → Prop) => (∃ R8 Φ9 k10, Stable Φ9 ∧ Wk W R5 Φ6 R8 Φ9 ∧ I7 s4 0 R8 Φ9 k10) ∧ ∀ s13 n14 R15 I16 k17, Stable I16 → I7 s13 n14 R15 I16 k17 → Br (decide (n14 < (↑lN : Int))) ((0 ≤ n14 ∧ n14 < (↑lN : Int)) ∧ ptrK none lP fun k18 k19 => ∀ w20 R21, Ctx W w20 (R15 ++ R21) I16 → ∃ n22 n23 n24 p25 k26 k27 n28 n29 n30, RowAt w20 k18 (k19 + n14.toNat * 7) [.int .i64 n22, .int .i64 n23, .int .i64 n24, .slice p25 k26 k27, .int .i64 n28, .int .i64 n29, .int .i64 n30] ∧ ∀ (b : Nat), ∃ R31 Φ32, Stable Φ32 ∧ Wk W R15 I16 R31 Φ32 ∧ ∀ w35 R36, Ctx W w35 (R15 ++ R36) I16 → Calls Tryz.prog F.errataref01_Int #[.int .i64 n23] w35 fun e37 w38 => ∃ s39, e37 = .returned
  (.string s39) ∧ ∃ R40 Φ41, Stable Φ41 ∧ Ctx W w38 (R40 ++ R36) Φ41 ∧ Wk W R40 Φ41 R31 Φ32 ∧ (s13.size + s39.size).le 9223372036854775807 ∧ ∀ w44 R45, Ctx W w44 (R40 ++ R45) Φ41 → Calls Tryz.prog F.errataref01_Int #[.int .i64 n24] w44 fun e46 w47 => ∃ s48, e46 = .returned (.string s48) ∧ ∃ R49 Φ50, Stable Φ50 ∧ Ctx W w47 (R49 ++ R45) Φ50 ∧ Wk W R49 Φ50 R31 Φ32 ∧ ((s13 ++ s39).size + s48.size).le 9223372036854775807 ∧ ∀ w53 R54, Ctx W w53 (R49 ++ R54) Φ50 → Calls Tryz.prog F.errataref03_RowBytes #[.slice p25 k26 k27] w53 fun e55 w56 => ∃ s57, e55 = .returned (.string s57) ∧ ∃ R58 Φ59, Stable Φ59 ∧ Ctx W w56 (R58 ++ R54) Φ59 ∧ Wk W R58 Φ59 R31 Φ32 ∧ ∀ w62 R63, Ctx W w62 (R58 ++ R63) Φ59 → Calls Tryz.prog F.errataref01_Text #[.string s57] w62 fun e64 w65 => ∃ s66, e64 = .returned (.string s66) ∧ ∃ R67 Φ68, Stable Φ68 ∧ Ctx W w65 (R67 ++ R63) Φ68 ∧ Wk W R67 Φ68 R31 Φ32 ∧ ((s13 ++ s39 ++
  s48).size + s66.size).le 9223372036854775807 ∧ ∀ w71 R72, Ctx W w71 (R67 ++ R72) Φ68 → Calls Tryz.prog F.errataref01_Int #[.int .i64 n28] w71 fun e73 w74 => ∃ s75, e73 = .returned (.string s75) ∧ ∃ R76 Φ77, Stable Φ77 ∧ Ctx W w74 (R76 ++ R72) Φ77 ∧ Wk W R76 Φ77 R31 Φ32 ∧ ((s13 ++ s39 ++ s48 ++ s66).size + s75.size).le 9223372036854775807 ∧ ∀ w80 R81, Ctx W w80 (R76 ++ R81) Φ77 → Calls Tryz.prog F.errataref01_Int #[.int .i64 n29] w80 fun e82 w83 => ∃ s84, e82 = .returned (.string s84) ∧ ∃ R85 Φ86, Stable Φ86 ∧ Ctx W w83 (R85 ++ R81) Φ86 ∧ Wk W R85 Φ86 R31 Φ32 ∧ ((s13 ++ s39 ++ s48 ++ s66 ++ s75).size + s84.size).le 9223372036854775807 ∧ ∀ w89 R90, Ctx W w89 (R85 ++ R90) Φ86 → Calls Tryz.prog F.errataref01_Int #[.int .i64 n30] w89 fun e91 w92 => ∃ s93, e91 = .returned (.string s93) ∧ ∃ R94 Φ95, Stable Φ95 ∧ Ctx W w92 (R94 ++ R90) Φ95 ∧ Wk W R94 Φ95 R31 Φ32 ∧ ((s13 ++ s39 ++ s48 ++ s66 ++
  s75 ++ s84).size + s93.size).le 9223372036854775807 ∧ I64 (n14 + 1) ∧ ∃ R98 Φ99 k100, Stable Φ99 ∧ Wk W R94 Φ95 R98 Φ99 ∧ I7 (s13 ++ s39 ++ s48 ++ s66 ++ s75 ++ s84 ++ s93) (n14 + 1) R98 Φ99 k100 ∧ k100 < k17) (∀ w103 R104, Ctx W w103 (R15 ++ R104) I16 → J (.string s13) w103)
theorem Berrataref43_lines_run (lP : Option Addr) (lN lC : Nat) {W w : World} {R : List Own} {Φ : PW} [Stable Φ] {J : Value → World → Prop} (c : Ctx W w R Φ) (h : Berrataref43_lines lP lN lC W R Φ J) : Calls Tryz.prog F.errataref43_lines #[.slice lP lN lC] w fun e w' => ∃ v, e = .returned v ∧ J v w' :=
  vcFS_sound (H := { keep := some [0, 2, 3, 4, 5, 12], track := [5], stages := [(6, [.held [(0, true), (1, true), (5, true), (9, true), (14, true), (18, true), (22, true), (2, true), (6, true), (10, true), (15, true), (19, true), (23, true), (3, false), (4, true), (7, false), (8, true), (11, false), (12, false), (13, true), (16, false), (17, true), (20, false), (21, true), (24, false)], .stage [25, 26] none])], loops := [(3, [(3, .one (.str)), (4, .one (.int .i64))], [])] }) (by rw [show vcFS Tryz.prog W { keep := some [0, 2, 3, 4, 5, 12], track := [5], stages := [(6, [.held [(0, true), (1, true), (5, true), (9, true), (14, true), (18, true), (22, true), (2, true), (6, true), (10, true), (15, true), (19, true), (23, true), (3, false), (4, true), (7, false), (8, true), (11, false), (12, false), (13, true), (16, false), (17, true), (20, false), (21, true), (24, false)], .stage [25, 26] none])], loops := [(3, [(3, .one (.str)), (4, .one (.int .i64))], [])] } F.errataref43_lines #[.slice lP lN lC] R Φ J = Berrataref43_lines lP lN lC W R Φ J by kernel_rfl]; exact h) c
def Berrataref28_Compare (a0 : Int) (a1P : Option Addr) (a1N a1C : Nat) (a2 : Int) (b0 : Int) (b1P : Option Addr) (b1N b1C : Nat) (b2 : Int) (W : World) (R : List Own) (Φ : PW) (J : Value → World → Prop) : Prop :=
  ∀ (b b : Nat), Br (decide (a0 < b0)) (∀ w0 R1, Ctx W w0 (R ++ R1) Φ → J (.int .i64 (-1)) w0) (Br (decide (b0 < a0)) (∀ w2 R3, Ctx W w2 (R ++ R3) Φ → J (.int .i64 1) w2) (∀ w4 R5, Ctx W w4 (R ++ R5) Φ → Calls Tryz.prog F.errataref03_CompareRows #[.slice a1P a1N a1C, .slice b1P b1N b1C] w4 fun e6 w7 => ∃ n8, e6 = .returned (.int .i64 n8) ∧ ∃ R9 Φ10, Stable Φ10 ∧ Ctx W w7 (R9 ++ R5) Φ10 ∧ ∀ w11 R12, Ctx W w11 (R9 ++ R12) Φ10 → J (.int .i64 n8) w11))
theorem Berrataref28_Compare_run (a0 : Int) (a1P : Option Addr) (a1N a1C : Nat) (a2 : Int) (b0 : Int) (b1P : Option Addr) (b1N b1C : Nat) (b2 : Int) {W w : World} {R : List Own} {Φ : PW} [Stable Φ] {J : Value → World → Prop} (c : Ctx W w R Φ) (h : Berrataref28_Compare a0 a1P a1N a1C a2 b0 b1P b1N b1C b2 W R Φ J) : Calls Tryz.prog F.errataref28_Compare #[.agg #[.int .i64 a0, .slice a1P a1N a1C, .int .i64 a2], .agg #[.int .i64 b0, .slice b1P b1N b1C, .int .i64 b2]] w fun e w' => ∃ v, e = .returned v ∧ J v w' :=
  vcFS_sound (H := { keep := some [2, 3, 4, 9, 14], track := [2, 3] }) (by rw [show vcFS Tryz.prog W { keep := some [2, 3, 4, 9, 14], track := [2, 3] } F.errataref28_Compare #[.agg #[.int .i64 a0, .slice a1P a1N a1C, .int .i64 a2], .agg #[.int .i64 b0, .slice b1P b1N b1C, .int .i64 b2]] R Φ J = Berrataref28_Compare a0 a1P a1N a1C a2 b0 b1P b1N b1C b2 W R Φ J by kernel_rfl]; exact h) c
def Berrataref28_Consolidate (lP : Option Addr) (lN lC : Nat) (W : World) (R : List Own) (Φ : PW) (J : Value → World → Prop) : Prop :=
  ∀ w0 R1, Ctx W w0 (R ++ R1) Φ → Calls Tryz.prog F.errataref28_sorted #[.slice lP lN lC] w0 fun e2 w3 => ∃ p4 k5 k6, e2 = .returned (.slice p4 k5 k6) ∧ ∃ R7 Φ8, Stable Φ8 ∧ Ctx W w3 (R7 ++ R1) Φ8 ∧ exI fun (I9 : Option Addr → Nat → Nat → Int → List Own → PW → Nat → Prop) => (∃ R10 Φ11 k12, Stable Φ11 ∧ Wk W R7 Φ8 R10 Φ11 ∧ I9 none 0 0 0 R10 Φ11 k12) ∧ ∀ p15 k16 k17 n18 R19 I20 k21, Stable I20 → I9 p15 k16 k17 n18 R19 I20 k21 → Br (decide (n18 < (↑k5 : Int))) (exI fun (I22 : Int → Int → List Own → PW → Nat → Prop) => (∃ R23 Φ24 k25, Stable Φ24 ∧ Wk W R19 I20 R23 Φ24 ∧ I22 0 n18 R23 Φ24 k25) ∧ ∀ n28 n29 R30 I31 k32, Stable I31 → I22 n28 n29 R30 I31 k32 → ∃ R33 Φ34, Stable Φ34 ∧ Wk W R30 I31 R33 Φ34 ∧ Br (decide (n29 < (↑k5 : Int))) ((0 ≤ n18 ∧ n18 < (↑k5 : Int)) ∧ ptrK none p4 fun k37 k38 => ∃ (n39 : Int) (p40 : Option Addr) (k41 k42 : Nat) (n43 : Int), (∀ w44 R45, Ctx W w44 (R33 ++ R45)
  Φ34 → ∃ n46 p47 k48 k49 n50, RowAt w44 k37 (k38 + n18.toNat * 3) [.int .i64 n46, .slice p47 k48 k49, .int .i64 n50] ∧ Value.agg #[.int .i64 n46, .slice p47 k48 k49, .int .i64 n50] = Value.agg #[.int .i64 n39, .slice p40 k41 k42, .int .i64 n43]) ∧ I64 ((↑k5 : Int) - 1) ∧ (0 ≤ min n29 ((↑k5 : Int) - 1) ∧ min n29 ((↑k5 : Int) - 1) < (↑k5 : Int)) ∧ ptrK none p4 fun k51 k52 => ∃ (n53 : Int) (p54 : Option Addr) (k55 k56 : Nat) (n57 : Int), (∀ w58 R59, Ctx W w58 (R33 ++ R59) Φ34 → ∃ n60 p61 k62 k63 n64, RowAt w58 k51 (k52 + (min n29 ((↑k5 : Int) - 1)).toNat * 3) [.int .i64 n60, .slice p61 k62 k63, .int .i64 n64] ∧ Value.agg #[.int .i64 n60, .slice p61 k62 k63, .int .i64 n64] = Value.agg #[.int .i64 n53, .slice p54 k55 k56, .int .i64 n57]) ∧ ∀ w65 R66, Ctx W w65 (R30 ++ R66) I31 → Calls Tryz.prog F.errataref28_Compare #[Value.agg #[.int .i64 n39, .slice p40 k41 k42, .int .i64 n43], Value.agg
  #[.int .i64 n53, .slice p54 k55 k56, .int .i64 n57]] w65 fun e67 w68 => ∃ n69, e67 = .returned (.int .i64 n69) ∧ ∃ R70 Φ71, Stable Φ71 ∧ Ctx W w68 (R70 ++ R66) Φ71 ∧ Br (decide (n69 = 0)) ((0 ≤ n29 ∧ n29 < (↑k5 : Int)) ∧ ptrK none p4 fun k72 k73 => ∀ w74 R75, Ctx W w74 (R70 ++ R75) Φ71 → ∃ n76, w74.cell? (Addr.mk k72 (k73 + n29.toNat * 3 + 2) none) = some (.int .i64 n76) ∧ I64 (n29 + 1) ∧ ∃ R77 Φ78 k79, Stable Φ78 ∧ Wk W R70 Φ71 R77 Φ78 ∧ I22 (IntKind.i64.wrap (n28 + n76)) (n29 + 1) R77 Φ78 k79 ∧ k79 < k32) (Br (decide (n28 ≠ 0)) ((0 ≤ n18 ∧ n18 < (↑k5 : Int)) ∧ ptrK none p4 fun k82 k83 => ∀ w84 R85, Ctx W w84 (R70 ++ R85) Φ71 → ∃ n86 p87 k88 k89 n90, RowAt w84 k82 (k83 + n18.toNat * 3) [.int .i64 n86, .slice p87 k88 k89, .int .i64 n90] ∧ ∀ w91 R92, Ctx W w91 (R70 ++ R92) Φ71 → Calls Tryz.prog F.errataref28_clone #[Value.agg #[.int .i64 n86, .slice p87 k88 k89, .int .i64 n90], Value.int
  IntKind.i64 n28] w91 fun e93 w94 => ∃ n95 p96 k97 k98 n99, e93 = .returned (Value.agg #[.int .i64 n95, .slice p96 k97 k98, .int .i64 n99]) ∧ ∃ R100 Φ101, Stable Φ101 ∧ Ctx W w94 (R100 ++ R92) Φ101 ∧ ∀ (k102 : Nat) (w103 : World) (R104 : List Own), Ctx W w103 (Own.blk k102 [.int .i64 n95, .slice p96 k97 k98, .int .i64 n99] 71 :: R100 ++ R104) Φ101 → ∃ (p105 : Option Addr) (k106 k107 : Nat) (w108 : World), Sem.run Tryz.prog (builtin Builtin.append #[45, 45] 45 #[false, false] #[.slice p15 k16 k17, .slice (some (Addr.mk k102 0 none)) 1 1]) w103 = .ok (.value (.slice p105 k106 k107)) w108 ∧ ∃ R109 Φ110, Stable Φ110 ∧ Ctx W w108 (R109 ++ R104) Φ110 ∧ ∃ R111 Φ112 k113, Stable Φ112 ∧ Wk W R109 Φ110 R111 Φ112 ∧ I9 p105 k106 k107 n29 R111 Φ112 k113 ∧ k113 < k21) (∃ R116 Φ117 k118, Stable Φ117 ∧ Wk W R70 Φ71 R116 Φ117 ∧ I9 p15 k16 k17 n29 R116 Φ117 k118 ∧ k118 < k21))) (Br (decide (n28 ≠ 0)) ((0
  ≤ n18 ∧ n18 < (↑k5 : Int)) ∧ ptrK none p4 fun k121 k122 => ∀ w123 R124, Ctx W w123 (R30 ++ R124) I31 → ∃ n125 p126 k127 k128 n129, RowAt w123 k121 (k122 + n18.toNat * 3) [.int .i64 n125, .slice p126 k127 k128, .int .i64 n129] ∧ ∀ w130 R131, Ctx W w130 (R30 ++ R131) I31 → Calls Tryz.prog F.errataref28_clone #[Value.agg #[.int .i64 n125, .slice p126 k127 k128, .int .i64 n129], Value.int IntKind.i64 n28] w130 fun e132 w133 => ∃ n134 p135 k136 k137 n138, e132 = .returned (Value.agg #[.int .i64 n134, .slice p135 k136 k137, .int .i64 n138]) ∧ ∃ R139 Φ140, Stable Φ140 ∧ Ctx W w133 (R139 ++ R131) Φ140 ∧ ∀ (k141 : Nat) (w142 : World) (R143 : List Own), Ctx W w142 (Own.blk k141 [.int .i64 n134, .slice p135 k136 k137, .int .i64 n138] 71 :: R139 ++ R143) Φ140 → ∃ (p144 : Option Addr) (k145 k146 : Nat) (w147 : World), Sem.run Tryz.prog (builtin Builtin.append #[45, 45] 45 #[false, false] #[.slice
  p15 k16 k17, .slice (some (Addr.mk k141 0 none)) 1 1]) w142 = .ok (.value (.slice p144 k145 k146)) w147 ∧ ∃ R148 Φ149, Stable Φ149 ∧ Ctx W w147 (R148 ++ R143) Φ149 ∧ ∃ R150 Φ151 k152, Stable Φ151 ∧ Wk W R148 Φ149 R150 Φ151 ∧ I9 p144 k145 k146 n29 R150 Φ151 k152 ∧ k152 < k21) (∃ R155 Φ156 k157, Stable Φ156 ∧ Wk W R30 I31 R155 Φ156 ∧ I9 p15 k16 k17 n29 R155 Φ156 k157 ∧ k157 < k21))) (∀ w160 R161, Ctx W w160 (R19 ++ R161) I20 → J (.slice p15 k16 k17) w160)
theorem Berrataref28_Consolidate_run (lP : Option Addr) (lN lC : Nat) {W w : World} {R : List Own} {Φ : PW} [Stable Φ] {J : Value → World → Prop} (c : Ctx W w R Φ) (h : Berrataref28_Consolidate lP lN lC W R Φ J) : Calls Tryz.prog F.errataref28_Consolidate #[.slice lP lN lC] w fun e w' => ∃ v, e = .returned v ∧ J v w' :=
  vcFS_sound (H := { keep := some [0, 2, 3, 4, 5, 6, 7, 13, 34, 45], wrap := [41], stages := [(7, [.held [(0, true), (1, true), (2, true), (3, true), (4, true), (5, true), (6, true), (9, true), (10, true), (11, true), (7, true), (12, true), (8, true), (13, true), (14, true), (15, true), (16, true)], .stage [] (some 17), .stage [18, 19] none])], loops := [(7, [(6, .one (.int .i64)), (7, .one (.int .i64))], []), (4, [(4, .one (.slice)), (5, .one (.int .i64))], [])] }) (by rw [show vcFS Tryz.prog W { keep := some [0, 2, 3, 4, 5, 6, 7, 13, 34, 45], wrap := [41], stages := [(7, [.held [(0, true), (1, true), (2, true), (3, true), (4, true), (5, true), (6, true), (9, true), (10, true), (11, true), (7, true), (12, true), (8, true), (13, true), (14, true), (15, true), (16, true)], .stage [] (some 17), .stage [18, 19] none])], loops := [(7, [(6, .one (.int .i64)), (7, .one (.int .i64))], []), (4, [(4, .one (.slice)), (5, .one (.int .i64))], [])] } F.errataref28_Consolidate #[.slice lP lN lC] R Φ J = Berrataref28_Consolidate lP lN lC W R Φ J by kernel_rfl]; exact h) c
def Bslices_Backward_api_Delta_api_Delta (sP : Option Addr) (sN sC : Nat) (W : World) (R : List Own) (Φ : PW) (J : Value → World → Prop) : Prop :=
  ∀ (k0 : Nat) (w1 : World) (R2 : List Own), Ctx W w1 (Own.blk k0 [.slice sP sN sC] 45 :: R ++ R2) Φ → J (Value.func (Fn.func 86) #[] #[.pointer (some (Addr.mk k0 0 none))]) w1
theorem Bslices_Backward_api_Delta_api_Delta_run (sP : Option Addr) (sN sC : Nat) {W w : World} {R : List Own} {Φ : PW} [Stable Φ] {J : Value → World → Prop} (c : Ctx W w R Φ) (h : Bslices_Backward_api_Delta_api_Delta sP sN sC W R Φ J) : Calls Tryz.prog F.slices_Backward_api_Delta_api_Delta #[.slice sP sN sC] w fun e w' => ∃ v, e = .returned v ∧ J v w' :=
  vcFS_sound (H := { keep := some [1, 2] }) (by rw [show vcFS Tryz.prog W { keep := some [1, 2] } F.slices_Backward_api_Delta_api_Delta #[.slice sP sN sC] R Φ J = Bslices_Backward_api_Delta_api_Delta sP sN sC W R Φ J by kernel_rfl]; exact h) c
def Bslices_Reverse_api_Delta_api_Delta (sP : Option Addr) (sN sC : Nat) (W : World) (R : List Own) (Φ : PW) (J : Value → World → Prop) : Prop :=
  I64 ((↑sN : Int) - 1) ∧ exI fun (I0 : Int → Int → List Own → PW → Nat → Prop) => (∃ R1 Φ2 k3, Stable Φ2 ∧ Wk W R Φ R1 Φ2 ∧ I0 0 ((↑sN : Int) - 1) R1 Φ2 k3) ∧ ∀ n6 n7 R8 I9 k10, Stable I9 → I0 n6 n7 R8 I9 k10 → Br (decide (n6 < n7)) (∃ R11 Φ12, Stable Φ12 ∧ Wk W R8 I9 R11 Φ12 ∧ (0 ≤ n7 ∧ n7 < (↑sN : Int)) ∧ ptrK none sP fun k15 k16 => (0 ≤ n6 ∧ n6 < (↑sN : Int)) ∧ ptrK none sP fun k17 k18 => ∀ w19 R20, Ctx W w19 (R8 ++ R20) I9 → ∃ n21 p22 k23 k24 n25, RowAt w19 k15 (k16 + n7.toNat * 3) [.int .i64 n21, .slice p22 k23 k24, .int .i64 n25] ∧ ∀ w26 R27, Ctx W w26 (R8 ++ R27) I9 → ∃ n28 p29 k30 k31 n32, RowAt w26 k17 (k18 + n6.toNat * 3) [.int .i64 n28, .slice p29 k30 k31, .int .i64 n32] ∧ (0 ≤ n6 ∧ n6 < (↑sN : Int)) ∧ ptrK none sP fun k33 k34 => ∀ w35 R36, Ctx W w35 (R8 ++ R36) I9 → CanWrite w35 k33 (k34 + n6.toNat * 3) 3 ∧ ∀ (w37 : World), w37 = w35.setCells k33 (k34 + n6.toNat * 3) [.int
  .i64 n21, .slice p22 k23 k24, .int .i64 n25] → ∃ R38 Φ39, Stable Φ39 ∧ Ctx W w37 (R38 ++ R36) Φ39 ∧ Wk W R38 Φ39 R11 Φ12 ∧ (0 ≤ n7 ∧ n7 < (↑sN : Int)) ∧ ptrK none sP fun k42 k43 => ∀ w44 R45, Ctx W w44 (R38 ++ R45) Φ39 → CanWrite w44 k42 (k43 + n7.toNat * 3) 3 ∧ ∀ (w46 : World), w46 = w44.setCells k42 (k43 + n7.toNat * 3) [.int .i64 n28, .slice p29 k30 k31, .int .i64 n32] → ∃ R47 Φ48, Stable Φ48 ∧ Ctx W w46 (R47 ++ R45) Φ48 ∧ Wk W R47 Φ48 R11 Φ12 ∧ I64 (n6 + 1) ∧ I64 (n7 - 1) ∧ ∃ R51 Φ52 k53, Stable Φ52 ∧ Wk W R47 Φ48 R51 Φ52 ∧ I0 (n6 + 1) (n7 - 1) R51 Φ52 k53 ∧ k53 < k10) (∀ w56 R57, Ctx W w56 (R8 ++ R57) I9 → J (Value.tuple #[]) w56)
theorem Bslices_Reverse_api_Delta_api_Delta_run (sP : Option Addr) (sN sC : Nat) {W w : World} {R : List Own} {Φ : PW} [Stable Φ] {J : Value → World → Prop} (c : Ctx W w R Φ) (h : Bslices_Reverse_api_Delta_api_Delta sP sN sC W R Φ J) : Calls Tryz.prog F.slices_Reverse_api_Delta_api_Delta #[.slice sP sN sC] w fun e w' => ∃ v, e = .returned v ∧ J v w' :=
  vcFS_sound (H := { keep := some [0, 2, 3, 9], stages := [(3, [.late [0, 1, 4, 5, 6, 7, 11, 12] [0, 1, 2, 3, 4, 5, 8, 9, 6, 10, 7, 11, 12] [(13, [14]), (15, [])]])], loops := [(1, [(2, .one (.int .i64)), (3, .one (.int .i64))], [])] }) (by rw [show vcFS Tryz.prog W { keep := some [0, 2, 3, 9], stages := [(3, [.late [0, 1, 4, 5, 6, 7, 11, 12] [0, 1, 2, 3, 4, 5, 8, 9, 6, 10, 7, 11, 12] [(13, [14]), (15, [])]])], loops := [(1, [(2, .one (.int .i64)), (3, .one (.int .i64))], [])] } F.slices_Reverse_api_Delta_api_Delta #[.slice sP sN sC] R Φ J = Bslices_Reverse_api_Delta_api_Delta sP sN sC W R Φ J by kernel_rfl]; exact h) c
def Berrataref43_Sink_same (sB sO : Nat) (aP : Option Addr) (aN aC : Nat) (bP : Option Addr) (bN bC : Nat) (W : World) (R : List Own) (Φ : PW) (J : Value → World → Prop) : Prop :=
  exI fun (I0 : Int → List Own → PW → Nat → Prop) => (∃ R1 Φ2 k3, Stable Φ2 ∧ Wk W R Φ R1 Φ2 ∧ I0 0 R1 Φ2 k3) ∧ ∀ n6 R7 I8 k9, Stable I8 → I0 n6 R7 I8 k9 → ∀ w10 R11, Ctx W w10 (R7 ++ R11) I8 → ∃ p12 k13 k14, w10.cell? (Addr.mk sB (sO + 1) none) = some (.slice p12 k13 k14) ∧ Br (decide (n6 < (↑k13 : Int))) (∀ w15 R16, Ctx W w15 (R7 ++ R16) I8 → ∃ p17 k18 k19, w15.cell? (Addr.mk sB (sO + 1) none) = some (.slice p17 k18 k19) ∧ (0 ≤ n6 ∧ n6 < (↑k18 : Int)) ∧ ptrK none p17 fun k20 k21 => ∃ n22, w15.cell? (Addr.mk k20 (k21 + n6.toNat) none) = some (.int .i64 n22) ∧ (0 ≤ n22 ∧ n22 < (↑aN : Int)) ∧ ptrK none aP fun k23 k24 => ∃ n25 n26 s27, RowAt w15 k23 (k24 + n22.toNat * 3) [.int .i64 n25, .int .i64 n26, .string s27] ∧ ∃ p28 k29 k30, w15.cell? (Addr.mk sB (sO + 1) none) = some (.slice p28 k29 k30) ∧ (0 ≤ n6 ∧ n6 < (↑k29 : Int)) ∧ ptrK none p28 fun k31 k32 => ∃ n33, w15.cell? (Addr.mk k31 (k32
  + n6.toNat) none) = some (.int .i64 n33) ∧ (0 ≤ n33 ∧ n33 < (↑bN : Int)) ∧ ptrK none bP fun k34 k35 => ∃ n36 n37 s38, RowAt w15 k34 (k35 + n33.toNat * 3) [.int .i64 n36, .int .i64 n37, .string s38] ∧ okAgg Tryz.prog 78 = true ∧ Br (!(decide (n25 = n36) && (decide (n26 = n37) && (decide (s27 = s38) && true)))) (∀ w39 R40, Ctx W w39 (R7 ++ R40) I8 → J (.bool false) w39) (I64 (n6 + 1) ∧ ∃ R41 Φ42 k43, Stable Φ42 ∧ Wk W R7 I8 R41 Φ42 ∧ I0 (n6 + 1) R41 Φ42 k43 ∧ k43 < k9)) (∀ w46 R47, Ctx W w46 (R7 ++ R47) I8 → J (.bool true) w46)
theorem Berrataref43_Sink_same_run (sB sO : Nat) (aP : Option Addr) (aN aC : Nat) (bP : Option Addr) (bN bC : Nat) {W w : World} {R : List Own} {Φ : PW} [Stable Φ] {J : Value → World → Prop} (c : Ctx W w R Φ) (h : Berrataref43_Sink_same sB sO aP aN aC bP bN bC W R Φ J) : Calls Tryz.prog F.errataref43_Sink_same #[.pointer (some ⟨sB, sO, none⟩), .slice aP aN aC, .slice bP bN bC] w fun e w' => ∃ v, e = .returned v ∧ J v w' :=
  vcFS_sound (H := { keep := some [0, 1, 2, 6, 7, 14, 37], loops := [(2, [(7, .one (.int .i64))], [])] }) (by rw [show vcFS Tryz.prog W { keep := some [0, 1, 2, 6, 7, 14, 37], loops := [(2, [(7, .one (.int .i64))], [])] } F.errataref43_Sink_same #[.pointer (some ⟨sB, sO, none⟩), .slice aP aN aC, .slice bP bN bC] R Φ J = Berrataref43_Sink_same sB sO aP aN aC bP bN bC W R Φ J by kernel_rfl]; exact h) c
def Berrataref43_Sink_look (sB sO : Nat) (batch : Int) (linesP : Option Addr) (linesN linesC : Nat) (W : World) (R : List Own) (Φ : PW) (J : Value → World → Prop) : Prop :=
  Br (decide (batch < 1)) (∀ w0 R1, Ctx W w0 (R ++ R1) Φ → J (.int .i64 25) w0) (∀ w2 R3, Ctx W w2 (R ++ R3) Φ → Calls Tryz.prog F.errataref43_Sink_Last #[.pointer (some (Addr.mk sB sO none))] w2 fun e4 w5 => ∃ n6, e4 = .returned (.int .i64 n6) ∧ ∃ R7 Φ8, Stable Φ8 ∧ Ctx W w5 (R7 ++ R3) Φ8 ∧ Br (decide (batch ≤ n6)) (∀ w9 R10, Ctx W w9 (R7 ++ R10) Φ8 → J (.int .i64 25) w9) (exI fun (I11 : Int → List Own → PW → Nat → Prop) => (∃ R12 Φ13 k14, Stable Φ13 ∧ Wk W R7 Φ8 R12 Φ13 ∧ I11 0 R12 Φ13 k14) ∧ ∀ n17 R18 I19 k20, Stable I19 → I11 n17 R18 I19 k20 → Br (decide (n17 < (↑linesN : Int))) ((0 ≤ n17 ∧ n17 < (↑linesN : Int)) ∧ ptrK none linesP fun k21 k22 => ∀ w23 R24, Ctx W w23 (R18 ++ R24) I19 → ∃ n25 n26 n27 p28 k29 k30 n31 n32 n33, RowAt w23 k21 (k22 + n17.toNat * 7) [.int .i64 n25, .int .i64 n26, .int .i64 n27, .slice p28 k29 k30, .int .i64 n31, .int .i64 n32, .int .i64 n33] ∧ ∀ (b : Nat),
  Br (decide (n26 ≠ batch)) (∀ w34 R35, Ctx W w34 (R18 ++ R35) I19 → J (.int .i64 1) w34) (Br (decide (n31 = 0)) (∀ w36 R37, Ctx W w36 (R18 ++ R37) I19 → J (.int .i64 1) w36) (∀ w38 R39, Ctx W w38 (R18 ++ R39) I19 → Calls Tryz.prog F.errataref03_RightRow #[.slice p28 k29 k30] w38 fun e40 w41 => ∃ c42, e40 = .returned (.bool c42) ∧ ∃ R43 Φ44, Stable Φ44 ∧ Ctx W w41 (R43 ++ R39) Φ44 ∧ Br (!c42) (∀ w45 R46, Ctx W w45 (R43 ++ R46) Φ44 → J (.int .i64 1) w45) (exI fun (I47 : Int → List Own → PW → Nat → Prop) => (∃ R48 Φ49 k50, Stable Φ49 ∧ Wk W R43 Φ44 R48 Φ49 ∧ I47 0 R48 Φ49 k50) ∧ ∀ n53 R54 I55 k56, Stable I55 → I47 n53 R54 I55 k56 → ∀ w57 R58, Ctx W w57 (R54 ++ R58) I55 → ∃ p59 k60 k61, w57.cell? (Addr.mk sB (sO + 1) none) = some (.slice p59 k60 k61) ∧ Br (decide (n53 < (↑k60 : Int))) (∀ w62 R63, Ctx W w62 (R54 ++ R63) I55 → ∃ p64 k65 k66, w62.cell? (Addr.mk sB (sO + 1) none) = some (.slice
  p64 k65 k66) ∧ (0 ≤ n53 ∧ n53 < (↑k65 : Int)) ∧ ptrK none p64 fun k67 k68 => ∃ n69, w62.cell? (Addr.mk k67 (k68 + n53.toNat) none) = some (.int .i64 n69) ∧ Br (decide ((↑k29 : Int) ≤ n69)) (∀ w70 R71, Ctx W w70 (R54 ++ R71) I55 → J (.int .i64 1) w70) (I64 (n53 + 1) ∧ ∃ R72 Φ73 k74, Stable Φ73 ∧ Wk W R54 I55 R72 Φ73 ∧ I47 (n53 + 1) R72 Φ73 k74 ∧ k74 < k56)) (I64 (n17 + 1) ∧ ∃ R77 Φ78 k79, Stable Φ78 ∧ Wk W R54 I55 R77 Φ78 ∧ I11 (n17 + 1) R77 Φ78 k79 ∧ k79 < k20))))) (exI fun (I82 : Int → List Own → PW → Nat → Prop) => (∃ R83 Φ84 k85, Stable Φ84 ∧ Wk W R18 I19 R83 Φ84 ∧ I82 0 R83 Φ84 k85) ∧ ∀ n88 R89 I90 k91, Stable I90 → I82 n88 R89 I90 k91 → Br (decide (n88 < (↑linesN : Int))) (∀ w92 R93, Ctx W w92 (R89 ++ R93) I90 → (0 ≤ n88 ∧ n88 < (↑linesN : Int)) ∧ ptrK none linesP fun k94 k95 => ∃ n96, w92.cell? (Addr.mk k94 (k95 + n88.toNat * 7) none) = some (.int .i64 n96) ∧ ∃ p97 k98 k99,
  w92.cell? (Addr.mk sB (sO + 3) none) = some (.slice p97 k98 k99) ∧ I64 ((↑k98 : Int) + 1) ∧ I64 ((↑k98 : Int) + 1 + n88) ∧ Br (decide (n96 ≠ (↑k98 : Int) + 1 + n88)) (∀ w100 R101, Ctx W w100 (R89 ++ R101) I90 → J (.int .i64 25) w100) (I64 (n88 + 1) ∧ ∃ R102 Φ103 k104, Stable Φ103 ∧ Wk W R89 I90 R102 Φ103 ∧ I82 (n88 + 1) R102 Φ103 k104 ∧ k104 < k91)) (∀ w107 R108, Ctx W w107 (R89 ++ R108) I90 → J (.int .i64 0) w107))))
theorem Berrataref43_Sink_look_run (sB sO : Nat) (batch : Int) (linesP : Option Addr) (linesN linesC : Nat) {W w : World} {R : List Own} {Φ : PW} [Stable Φ] {J : Value → World → Prop} (c : Ctx W w R Φ) (h : Berrataref43_Sink_look sB sO batch linesP linesN linesC W R Φ J) : Calls Tryz.prog F.errataref43_Sink_look #[.pointer (some ⟨sB, sO, none⟩), .int .i64 batch, .slice linesP linesN linesC] w fun e w' => ∃ v, e = .returned v ∧ J v w' :=
  vcFS_sound (H := { keep := some [0, 1, 2, 6, 7, 8, 9, 10, 18, 22, 43, 50, 63, 67, 83], track := [8], split := [1, 7], loops := [(15, [(10, .one (.int .i64))], []), (10, [(9, .one (.int .i64))], []), (4, [(7, .one (.int .i64))], [])] }) (by rw [show vcFS Tryz.prog W { keep := some [0, 1, 2, 6, 7, 8, 9, 10, 18, 22, 43, 50, 63, 67, 83], track := [8], split := [1, 7], loops := [(15, [(10, .one (.int .i64))], []), (10, [(9, .one (.int .i64))], []), (4, [(7, .one (.int .i64))], [])] } F.errataref43_Sink_look #[.pointer (some ⟨sB, sO, none⟩), .int .i64 batch, .slice linesP linesN linesC] R Φ J = Berrataref43_Sink_look sB sO batch linesP linesN linesC W R Φ J by kernel_rfl]; exact h) c
def Berrataref43_Clone (lP : Option Addr) (lN lC : Nat) (W : World) (R : List Own) (Φ : PW) (J : Value → World → Prop) : Prop :=
  exI fun (I0 : Option Addr → Nat → Nat → Int → List Own → PW → Nat → Prop) => (∃ R1 Φ2 k3, Stable Φ2 ∧ Wk W R Φ R1 Φ2 ∧ I0 none 0 0 0 R1 Φ2 k3) ∧ ∀ p6 k7 k8 n9 R10 I11 k12, Stable I11 → I0 p6 k7 k8 n9 R10 I11 k12 → Br (decide (n9 < (↑lN : Int))) ((0 ≤ n9 ∧ n9 < (↑lN : Int)) ∧ ptrK none lP fun k13 k14 => ∀ w15 R16, Ctx W w15 (R10 ++ R16) I11 → ∃ n17 n18 n19 p20 k21 k22 n23 n24 n25, RowAt w15 k13 (k14 + n9.toNat * 7) [.int .i64 n17, .int .i64 n18, .int .i64 n19, .slice p20 k21 k22, .int .i64 n23, .int .i64 n24, .int .i64 n25] ∧ ∀ (b k26 : Nat) (w27 : World) (R28 : List Own), Ctx W w27 (Own.blk k26 [] 78 :: R10 ++ R28) I11 → ∃ (p29 : Option Addr) (k30 k31 : Nat) (w32 : World), Sem.run Tryz.prog (builtin Builtin.append #[49, 49] 49 #[false, false] #[.slice (some (Addr.mk k26 0 none)) 0 0, .slice p20 k21 k22]) w27 = .ok (.value (.slice p29 k30 k31)) w32 ∧ ∃ R33 Φ34, Stable Φ34 ∧ Ctx W w32
  (R33 ++ R28) Φ34 ∧ ∀ (k35 : Nat) (w36 : World) (R37 : List Own), Ctx W w36 (Own.blk k35 [.int .i64 n17, .int .i64 n18, .int .i64 n19, .slice p29 k30 k31, .int .i64 n23, .int .i64 n24, .int .i64 n25] 51 :: R33 ++ R37) Φ34 → ∃ (p38 : Option Addr) (k39 k40 : Nat) (w41 : World), Sem.run Tryz.prog (builtin Builtin.append #[33, 33] 33 #[false, false] #[.slice p6 k7 k8, .slice (some (Addr.mk k35 0 none)) 1 1]) w36 = .ok (.value (.slice p38 k39 k40)) w41 ∧ ∃ R42 Φ43, Stable Φ43 ∧ Ctx W w41 (R42 ++ R37) Φ43 ∧ I64 (n9 + 1) ∧ ∃ R44 Φ45 k46, Stable Φ45 ∧ Wk W R42 Φ43 R44 Φ45 ∧ I0 p38 k39 k40 (n9 + 1) R44 Φ45 k46 ∧ k46 < k12) (∀ w49 R50, Ctx W w49 (R10 ++ R50) I11 → J (.slice p6 k7 k8) w49)
theorem Berrataref43_Clone_run (lP : Option Addr) (lN lC : Nat) {W w : World} {R : List Own} {Φ : PW} [Stable Φ] {J : Value → World → Prop} (c : Ctx W w R Φ) (h : Berrataref43_Clone lP lN lC W R Φ J) : Calls Tryz.prog F.errataref43_Clone #[.slice lP lN lC] w fun e w' => ∃ v, e = .returned v ∧ J v w' :=
  vcFS_sound (H := { keep := some [0, 2, 3, 4, 5, 9], track := [5], loops := [(3, [(3, .one (.slice)), (4, .one (.int .i64))], [])] }) (by rw [show vcFS Tryz.prog W { keep := some [0, 2, 3, 4, 5, 9], track := [5], loops := [(3, [(3, .one (.slice)), (4, .one (.int .i64))], [])] } F.errataref43_Clone #[.slice lP lN lC] R Φ J = Berrataref43_Clone lP lN lC W R Φ J by kernel_rfl]; exact h) c
def Berrataref43_Sink_take (sB sO : Nat) (batch : Int) (linesP : Option Addr) (linesN linesC : Nat) (W : World) (R : List Own) (Φ : PW) (J : Value → World → Prop) : Prop :=
  ∀ w0 R1, Ctx W w0 (R ++ R1) Φ → ∃ p2 k3 k4, w0.cell? (Addr.mk sB (sO + 2) none) = some (.slice p2 k3 k4) ∧ ∀ (k5 : Nat) (w6 : World) (R7 : List Own), Ctx W w6 (Own.blk k5 [.int .i64 batch] 3 :: R ++ R7) Φ → ∃ (p8 : Option Addr) (k9 k10 : Nat) (w11 : World), Sem.run Tryz.prog (builtin Builtin.append #[22, 22] 22 #[false, false] #[.slice p2 k3 k4, .slice (some (Addr.mk k5 0 none)) 1 1]) w6 = .ok (.value (.slice p8 k9 k10)) w11 ∧ ∃ R12 Φ13, Stable Φ13 ∧ Ctx W w11 (R12 ++ R7) Φ13 ∧ ∀ w14 R15, Ctx W w14 (R12 ++ R15) Φ13 → CanWrite w14 sB (sO + 2) 1 ∧ ∀ (w16 : World), w16 = w14.setCell (Addr.mk sB (sO + 2) none) (Value.slice p8 k9 k10) → ∃ R17 Φ18, Stable Φ18 ∧ Ctx W w16 (R17 ++ R15) Φ18 ∧ ∀ (k19 : Nat) (w20 : World) (R21 : List Own), Ctx W w20 (Own.blk k19 [] 51 :: R17 ++ R21) Φ18 → ∃ p22 k23 k24, w20.cell? (Addr.mk sB (sO + 3) none) = some (.slice p22 k23 k24) ∧ ∀ w25 R26, Ctx W w25
  (Own.blk k19 [] 51 :: R17 ++ R26) Φ18 → ∃ (p27 : Option Addr) (k28 k29 : Nat) (w30 : World), Sem.run Tryz.prog (builtin Builtin.append #[33, 33] 33 #[false, false] #[.slice (some (Addr.mk k19 0 none)) 0 0, .slice p22 k23 k24]) w25 = .ok (.value (.slice p27 k28 k29)) w30 ∧ ∃ R31 Φ32, Stable Φ32 ∧ Ctx W w30 (R31 ++ R26) Φ32 ∧ ∀ w33 R34, Ctx W w33 (R31 ++ R34) Φ32 → ∃ (p35 : Option Addr) (k36 k37 : Nat) (w38 : World), Sem.run Tryz.prog (builtin Builtin.append #[33, 33] 33 #[false, false] #[.slice p27 k28 k29, .slice linesP linesN linesC]) w33 = .ok (.value (.slice p35 k36 k37)) w38 ∧ ∃ R39 Φ40, Stable Φ40 ∧ Ctx W w38 (R39 ++ R34) Φ40 ∧ ∀ w41 R42, Ctx W w41 (R39 ++ R42) Φ40 → CanWrite w41 sB (sO + 3) 1 ∧ ∀ (w43 : World), w43 = w41.setCell (Addr.mk sB (sO + 3) none) (Value.slice p35 k36 k37) → ∃ R44 Φ45, Stable Φ45 ∧ Ctx W w43 (R44 ++ R42) Φ45 ∧ ∀ w46 R47, Ctx W w46 (R44 ++ R47) Φ45 → J
  (Value.tuple #[]) w46
theorem Berrataref43_Sink_take_run (sB sO : Nat) (batch : Int) (linesP : Option Addr) (linesN linesC : Nat) {W w : World} {R : List Own} {Φ : PW} [Stable Φ] {J : Value → World → Prop} (c : Ctx W w R Φ) (h : Berrataref43_Sink_take sB sO batch linesP linesN linesC W R Φ J) : Calls Tryz.prog F.errataref43_Sink_take #[.pointer (some ⟨sB, sO, none⟩), .int .i64 batch, .slice linesP linesN linesC] w fun e w' => ∃ v, e = .returned v ∧ J v w' :=
  vcFS_sound (H := { keep := some [0, 2] }) (by rw [show vcFS Tryz.prog W { keep := some [0, 2] } F.errataref43_Sink_take #[.pointer (some ⟨sB, sO, none⟩), .int .i64 batch, .slice linesP linesN linesC] R Φ J = Berrataref43_Sink_take sB sO batch linesP linesN linesC W R Φ J by kernel_rfl]; exact h) c
def Berrataref01_digits (n : Int) (W : World) (R : List Own) (Φ : PW) (J : Value → World → Prop) : Prop :=
  ((10 : Int) = 0 → False) ∧ I64 (48 - n.tmod 10) ∧ ∀ (k0 : Nat) (w1 : World) (R2 : List Own), Ctx W w1 (Own.blk k0 [.int IntKind.u8 (IntKind.u8.wrap (48 - n.tmod 10))] 5 :: R ++ R2) Φ → ∃ (s3 : ByteArray) (w4 : World), Sem.run Tryz.prog (convert 91 9 (Value.slice (some (Addr.mk k0 0 none)) 1 1)) w1 = Result.ok (Value.string s3) w4 ∧ ∃ R5 Φ6, Stable Φ6 ∧ Ctx W w4 (R5 ++ R2) Φ6 ∧ Br (decide (-10 < n)) (∀ w7 R8, Ctx W w7 (R5 ++ R8) Φ6 → J (.string s3) w7) (((10 : Int) = 0 → False) ∧ I64 (n.tdiv 10) ∧ ∀ w9 R10, Ctx W w9 (R5 ++ R10) Φ6 → Calls Tryz.prog F.errataref01_digits #[.int .i64 (n.tdiv 10)] w9 fun e11 w12 => ∃ s13, e11 = .returned (.string s13) ∧ ∃ R14 Φ15, Stable Φ15 ∧ Ctx W w12 (R14 ++ R10) Φ15 ∧ (s13.size + s3.size).le 9223372036854775807 ∧ ∀ w16 R17, Ctx W w16 (R14 ++ R17) Φ15 → J (.string (s13 ++ s3)) w16)
theorem Berrataref01_digits_run (n : Int) {W w : World} {R : List Own} {Φ : PW} [Stable Φ] {J : Value → World → Prop} (c : Ctx W w R Φ) (h : Berrataref01_digits n W R Φ J) : Calls Tryz.prog F.errataref01_digits #[.int .i64 n] w fun e w' => ∃ v, e = .returned v ∧ J v w' :=
  vcFS_sound (H := { keep := some [0, 2, 3, 11] }) (by rw [show vcFS Tryz.prog W { keep := some [0, 2, 3, 11] } F.errataref01_digits #[.int .i64 n] R Φ J = Berrataref01_digits n W R Φ J by kernel_rfl]; exact h) c
def Berrataref01_Num (n : Int) (W : World) (R : List Own) (Φ : PW) (J : Value → World → Prop) : Prop :=
  Br (decide (n < 0)) (∀ w0 R1, Ctx W w0 (R ++ R1) Φ → J (.string (ByteArray.mk #[])) w0) (∀ w2 R3, Ctx W w2 (R ++ R3) Φ → Calls Tryz.prog F.errataref01_Int #[.int .i64 n] w2 fun e4 w5 => ∃ s6, e4 = .returned (.string s6) ∧ ∃ R7 Φ8, Stable Φ8 ∧ Ctx W w5 (R7 ++ R3) Φ8 ∧ ∀ w9 R10, Ctx W w9 (R7 ++ R10) Φ8 → J (.string s6) w9)
theorem Berrataref01_Num_run (n : Int) {W w : World} {R : List Own} {Φ : PW} [Stable Φ] {J : Value → World → Prop} (c : Ctx W w R Φ) (h : Berrataref01_Num n W R Φ J) : Calls Tryz.prog F.errataref01_Num #[.int .i64 n] w fun e w' => ∃ v, e = .returned v ∧ J v w' :=
  vcFS_sound (H := { keep := some [0, 2, 4] }) (by rw [show vcFS Tryz.prog W { keep := some [0, 2, 4] } F.errataref01_Num #[.int .i64 n] R Φ J = Berrataref01_Num n W R Φ J by kernel_rfl]; exact h) c
def Berrataref01_Text (s : ByteArray) (W : World) (R : List Own) (Φ : PW) (J : Value → World → Prop) : Prop :=
  I64 (0 - (↑s.size : Int)) ∧ ∀ w0 R1, Ctx W w0 (R ++ R1) Φ → Calls Tryz.prog F.errataref01_digits #[.int .i64 (0 - (↑s.size : Int))] w0 fun e2 w3 => ∃ s4, e2 = .returned (.string s4) ∧ ∃ R5 Φ6, Stable Φ6 ∧ Ctx W w3 (R5 ++ R1) Φ6 ∧ (s4.size + (ByteArray.mk #[OfNat.ofNat 58]).size).le 9223372036854775807 ∧ ((s4 ++ ByteArray.mk #[OfNat.ofNat 58]).size + s.size).le 9223372036854775807 ∧ ((s4 ++ ByteArray.mk #[OfNat.ofNat 58] ++ s).size + (ByteArray.mk #[OfNat.ofNat 44]).size).le 9223372036854775807 ∧ ∀ w7 R8, Ctx W w7 (R5 ++ R8) Φ6 → J (.string (s4 ++ ByteArray.mk #[OfNat.ofNat 58] ++ s ++ ByteArray.mk #[OfNat.ofNat 44])) w7
theorem Berrataref01_Text_run (s : ByteArray) {W w : World} {R : List Own} {Φ : PW} [Stable Φ] {J : Value → World → Prop} (c : Ctx W w R Φ) (h : Berrataref01_Text s W R Φ J) : Calls Tryz.prog F.errataref01_Text #[.string s] w fun e w' => ∃ v, e = .returned v ∧ J v w' :=
  vcFS_sound (H := { keep := some [0, 2] }) (by rw [show vcFS Tryz.prog W { keep := some [0, 2] } F.errataref01_Text #[.string s] R Φ J = Berrataref01_Text s W R Φ J by kernel_rfl]; exact h) c
def Berrataref03_RowBytes (rP : Option Addr) (rN rC : Nat) (W : World) (R : List Own) (Φ : PW) (J : Value → World → Prop) : Prop :=
  ∀ w0 R1, Ctx W w0 (R ++ R1) Φ → Calls Tryz.prog F.errataref01_Num #[.int .i64 (↑rN : Int)] w0 fun e2 w3 => ∃ s4, e2 = .returned (.string s4) ∧ ∃ R5 Φ6, Stable Φ6 ∧ Ctx W w3 (R5 ++ R1) Φ6 ∧ exI fun (I7 : ByteArray → Int → List Own → PW → Nat → Prop) => (∃ R8 Φ9 k10, Stable Φ9 ∧ Wk W R5 Φ6 R8 Φ9 ∧ I7 s4 0 R8 Φ9 k10) ∧ ∀ s13 n14 R15 I16 k17, Stable I16 → I7 s13 n14 R15 I16 k17 → Br (decide (n14 < (↑rN : Int))) ((0 ≤ n14 ∧ n14 < (↑rN : Int)) ∧ ptrK none rP fun k18 k19 => ∀ w20 R21, Ctx W w20 (R15 ++ R21) I16 → ∃ n22 n23 s24, RowAt w20 k18 (k19 + n14.toNat * 3) [.int .i64 n22, .int .i64 n23, .string s24] ∧ ∀ w25 R26, Ctx W w25 (R15 ++ R26) I16 → Calls Tryz.prog F.errataref03_Bytes #[Value.agg #[.int .i64 n22, .int .i64 n23, .string s24]] w25 fun e27 w28 => ∃ s29, e27 = .returned (.string s29) ∧ ∃ R30 Φ31, Stable Φ31 ∧ Ctx W w28 (R30 ++ R26) Φ31 ∧ (s13.size + s29.size).le 9223372036854775807
  ∧ I64 (n14 + 1) ∧ ∃ R32 Φ33 k34, Stable Φ33 ∧ Wk W R30 Φ31 R32 Φ33 ∧ I7 (s13 ++ s29) (n14 + 1) R32 Φ33 k34 ∧ k34 < k17) (∀ w37 R38, Ctx W w37 (R15 ++ R38) I16 → J (.string s13) w37)
theorem Berrataref03_RowBytes_run (rP : Option Addr) (rN rC : Nat) {W w : World} {R : List Own} {Φ : PW} [Stable Φ] {J : Value → World → Prop} (c : Ctx W w R Φ) (h : Berrataref03_RowBytes rP rN rC W R Φ J) : Calls Tryz.prog F.errataref03_RowBytes #[.slice rP rN rC] w fun e w' => ∃ v, e = .returned v ∧ J v w' :=
  vcFS_sound (H := { keep := some [0, 2, 3, 4, 11], loops := [(3, [(3, .one (.str)), (4, .one (.int .i64))], [])] }) (by rw [show vcFS Tryz.prog W { keep := some [0, 2, 3, 4, 11], loops := [(3, [(3, .one (.str)), (4, .one (.int .i64))], [])] } F.errataref03_RowBytes #[.slice rP rN rC] R Φ J = Berrataref03_RowBytes rP rN rC W R Φ J by kernel_rfl]; exact h) c
def Berrataref28_sorted (lP : Option Addr) (lN lC : Nat) (W : World) (R : List Own) (Φ : PW) (J : Value → World → Prop) : Prop :=
  Br (decide ((↑lN : Int) < 2)) (∀ w0 R1, Ctx W w0 (R ++ R1) Φ → J (.slice lP lN lC) w0) (((2 : Int) = 0 → False) ∧ I64 ((↑lN : Int).tdiv 2) ∧ (0 ≤ (↑lN : Int).tdiv 2 ∧ (↑lN : Int).tdiv 2 ≤ (↑lC : Int)) ∧ ∀ w2 R3, Ctx W w2 (R ++ R3) Φ → Calls Tryz.prog F.errataref28_sorted #[.slice (subPtr lP 3 0 lC) ((↑lN : Int).tdiv 2).toNat lC] w2 fun e4 w5 => ∃ p6 k7 k8, e4 = .returned (.slice p6 k7 k8) ∧ ∃ R9 Φ10, Stable Φ10 ∧ Ctx W w5 (R9 ++ R3) Φ10 ∧ ((2 : Int) = 0 → False) ∧ I64 ((↑lN : Int).tdiv 2) ∧ (0 ≤ (↑lN : Int).tdiv 2 ∧ (↑lN : Int).tdiv 2 ≤ (↑lN : Int) ∧ lN ≤ lC) ∧ ∀ w11 R12, Ctx W w11 (R9 ++ R12) Φ10 → Calls Tryz.prog F.errataref28_sorted #[.slice (subPtr lP 3 ((↑lN : Int).tdiv 2).toNat lC) (lN - ((↑lN : Int).tdiv 2).toNat) (lC - ((↑lN : Int).tdiv 2).toNat)] w11 fun e13 w14 => ∃ p15 k16 k17, e13 = .returned (.slice p15 k16 k17) ∧ ∃ R18 Φ19, Stable Φ19 ∧ Ctx W w14 (R18 ++ R12) Φ19 ∧ exI fun
  (I20 : Option Addr → Nat → Nat → Int → Int → List Own → PW → Nat → Prop) => (∃ R21 Φ22 k23, Stable Φ22 ∧ Wk W R18 Φ19 R21 Φ22 ∧ I20 none 0 0 0 0 R21 Φ22 k23) ∧ ∀ p26 k27 k28 n29 n30 R31 I32 k33, Stable I32 → I20 p26 k27 k28 n29 n30 R31 I32 k33 → ∀ w34 R35, Ctx W w34 (R31 ++ R35) I32 → Br (decide (n29 < (↑k7 : Int)) || decide (n30 < (↑k16 : Int))) (∀ w36 R37, Ctx W w36 (R31 ++ R37) I32 → Br (decide (n29 < (↑k7 : Int)) && decide (n30 < (↑k16 : Int))) (∃ R38 Φ39, Stable Φ39 ∧ Wk W R31 I32 R38 Φ39 ∧ (0 ≤ n29 ∧ n29 < (↑k7 : Int)) ∧ ptrK none p6 fun k42 k43 => (0 ≤ n30 ∧ n30 < (↑k16 : Int)) ∧ ptrK none p15 fun k44 k45 => ∃ (n46 : Int) (p47 : Option Addr) (k48 k49 : Nat) (n50 : Int), (∀ w51 R52, Ctx W w51 (R38 ++ R52) Φ39 → ∃ n53 p54 k55 k56 n57, RowAt w51 k42 (k43 + n29.toNat * 3) [.int .i64 n53, .slice p54 k55 k56, .int .i64 n57] ∧ Value.agg #[.int .i64 n53, .slice p54 k55 k56, .int .i64
  n57] = Value.agg #[.int .i64 n46, .slice p47 k48 k49, .int .i64 n50]) ∧ ∃ (n58 : Int) (p59 : Option Addr) (k60 k61 : Nat) (n62 : Int), (∀ w63 R64, Ctx W w63 (R38 ++ R64) Φ39 → ∃ n65 p66 k67 k68 n69, RowAt w63 k44 (k45 + n30.toNat * 3) [.int .i64 n65, .slice p66 k67 k68, .int .i64 n69] ∧ Value.agg #[.int .i64 n65, .slice p66 k67 k68, .int .i64 n69] = Value.agg #[.int .i64 n58, .slice p59 k60 k61, .int .i64 n62]) ∧ ∀ w70 R71, Ctx W w70 (R31 ++ R71) I32 → Calls Tryz.prog F.errataref28_Compare #[Value.agg #[.int .i64 n46, .slice p47 k48 k49, .int .i64 n50], Value.agg #[.int .i64 n58, .slice p59 k60 k61, .int .i64 n62]] w70 fun e72 w73 => ∃ n74, e72 = .returned (.int .i64 n74) ∧ ∃ R75 Φ76, Stable Φ76 ∧ Ctx W w73 (R75 ++ R71) Φ76 ∧ Br (decide (n74 ≤ 0)) ((0 ≤ n29 ∧ n29 < (↑k7 : Int)) ∧ ptrK none p6 fun k77 k78 => ∀ w79 R80, Ctx W w79 (R75 ++ R80) Φ76 → ∃ n81 p82 k83 k84 n85, RowAt w79 k77
  (k78 + n29.toNat * 3) [.int .i64 n81, .slice p82 k83 k84, .int .i64 n85] ∧ ∀ (k86 : Nat) (w87 : World) (R88 : List Own), Ctx W w87 (Own.blk k86 [.int .i64 n81, .slice p82 k83 k84, .int .i64 n85] 71 :: R75 ++ R88) Φ76 → ∃ (p89 : Option Addr) (k90 k91 : Nat) (w92 : World), Sem.run Tryz.prog (builtin Builtin.append #[45, 45] 45 #[false, false] #[.slice p26 k27 k28, .slice (some (Addr.mk k86 0 none)) 1 1]) w87 = .ok (.value (.slice p89 k90 k91)) w92 ∧ ∃ R93 Φ94, Stable Φ94 ∧ Ctx W w92 (R93 ++ R88) Φ94 ∧ I64 (n29 + 1) ∧ ∃ R95 Φ96 k97, Stable Φ96 ∧ Wk W R93 Φ94 R95 Φ96 ∧ I20 p89 k90 k91 (n29 + 1) n30 R95 Φ96 k97 ∧ k97 < k33) ((0 ≤ n30 ∧ n30 < (↑k16 : Int)) ∧ ptrK none p15 fun k100 k101 => ∀ w102 R103, Ctx W w102 (R75 ++ R103) Φ76 → ∃ n104 p105 k106 k107 n108, RowAt w102 k100 (k101 + n30.toNat * 3) [.int .i64 n104, .slice p105 k106 k107, .int .i64 n108] ∧ ∀ (k109 : Nat) (w110 : World) (R111 :
  List Own), Ctx W w110 (Own.blk k109 [.int .i64 n104, .slice p105 k106 k107, .int .i64 n108] 71 :: R75 ++ R111) Φ76 → ∃ (p112 : Option Addr) (k113 k114 : Nat) (w115 : World), Sem.run Tryz.prog (builtin Builtin.append #[45, 45] 45 #[false, false] #[.slice p26 k27 k28, .slice (some (Addr.mk k109 0 none)) 1 1]) w110 = .ok (.value (.slice p112 k113 k114)) w115 ∧ ∃ R116 Φ117, Stable Φ117 ∧ Ctx W w115 (R116 ++ R111) Φ117 ∧ I64 (n30 + 1) ∧ ∃ R118 Φ119 k120, Stable Φ119 ∧ Wk W R116 Φ117 R118 Φ119 ∧ I20 p112 k113 k114 n29 (n30 + 1) R118 Φ119 k120 ∧ k120 < k33)) (Br (decide ((↑k16 : Int) ≤ n30)) ((0 ≤ n29 ∧ n29 < (↑k7 : Int)) ∧ ptrK none p6 fun k123 k124 => ∀ w125 R126, Ctx W w125 (R31 ++ R126) I32 → ∃ n127 p128 k129 k130 n131, RowAt w125 k123 (k124 + n29.toNat * 3) [.int .i64 n127, .slice p128 k129 k130, .int .i64 n131] ∧ ∀ (k132 : Nat) (w133 : World) (R134 : List Own), Ctx W w133 (Own.blk k132
  [.int .i64 n127, .slice p128 k129 k130, .int .i64 n131] 71 :: R31 ++ R134) I32 → ∃ (p135 : Option Addr) (k136 k137 : Nat) (w138 : World), Sem.run Tryz.prog (builtin Builtin.append #[45, 45] 45 #[false, false] #[.slice p26 k27 k28, .slice (some (Addr.mk k132 0 none)) 1 1]) w133 = .ok (.value (.slice p135 k136 k137)) w138 ∧ ∃ R139 Φ140, Stable Φ140 ∧ Ctx W w138 (R139 ++ R134) Φ140 ∧ I64 (n29 + 1) ∧ ∃ R141 Φ142 k143, Stable Φ142 ∧ Wk W R139 Φ140 R141 Φ142 ∧ I20 p135 k136 k137 (n29 + 1) n30 R141 Φ142 k143 ∧ k143 < k33) ((0 ≤ n30 ∧ n30 < (↑k16 : Int)) ∧ ptrK none p15 fun k146 k147 => ∀ w148 R149, Ctx W w148 (R31 ++ R149) I32 → ∃ n150 p151 k152 k153 n154, RowAt w148 k146 (k147 + n30.toNat * 3) [.int .i64 n150, .slice p151 k152 k153, .int .i64 n154] ∧ ∀ (k155 : Nat) (w156 : World) (R157 : List Own), Ctx W w156 (Own.blk k155 [.int .i64 n150, .slice p151 k152 k153, .int .i64 n154] 71 :: R31 ++
  R157) I32 → ∃ (p158 : Option Addr) (k159 k160 : Nat) (w161 : World), Sem.run Tryz.prog (builtin Builtin.append #[45, 45] 45 #[false, false] #[.slice p26 k27 k28, .slice (some (Addr.mk k155 0 none)) 1 1]) w156 = .ok (.value (.slice p158 k159 k160)) w161 ∧ ∃ R162 Φ163, Stable Φ163 ∧ Ctx W w161 (R162 ++ R157) Φ163 ∧ I64 (n30 + 1) ∧ ∃ R164 Φ165 k166, Stable Φ165 ∧ Wk W R162 Φ163 R164 Φ165 ∧ I20 p158 k159 k160 n29 (n30 + 1) R164 Φ165 k166 ∧ k166 < k33))) (∀ w169 R170, Ctx W w169 (R31 ++ R170) I32 → J (.slice p26 k27 k28) w169))
theorem Berrataref28_sorted_run (lP : Option Addr) (lN lC : Nat) {W w : World} {R : List Own} {Φ : PW} [Stable Φ] {J : Value → World → Prop} (c : Ctx W w R Φ) (h : Berrataref28_sorted lP lN lC W R Φ J) : Calls Tryz.prog F.errataref28_sorted #[.slice lP lN lC] w fun e w' => ∃ v, e = .returned v ∧ J v w' :=
  vcFS_sound (H := { keep := some [0, 2, 3, 4, 5, 6, 7, 8, 11, 34, 48, 59], stages := [(11, [.held [(0, true), (1, true), (4, true), (5, true), (2, true), (6, true), (3, true), (7, true)], .stage [] (some 8), .stage [9, 10] none])], loops := [(8, [(5, .one (.slice)), (6, .one (.int .i64)), (7, .one (.int .i64))], [])] }) (by rw [show vcFS Tryz.prog W { keep := some [0, 2, 3, 4, 5, 6, 7, 8, 11, 34, 48, 59], stages := [(11, [.held [(0, true), (1, true), (4, true), (5, true), (2, true), (6, true), (3, true), (7, true)], .stage [] (some 8), .stage [9, 10] none])], loops := [(8, [(5, .one (.slice)), (6, .one (.int .i64)), (7, .one (.int .i64))], [])] } F.errataref28_sorted #[.slice lP lN lC] R Φ J = Berrataref28_sorted lP lN lC W R Φ J by kernel_rfl]; exact h) c
def Berrataref28_clone (d0 : Int) (d1P : Option Addr) (d1N d1C : Nat) (d2 : Int) (n : Int) (W : World) (R : List Own) (Φ : PW) (J : Value → World → Prop) : Prop :=
  ∀ (b b : Nat), ∃ R0 Φ1, Stable Φ1 ∧ Wk W R Φ R0 Φ1 ∧ ∀ (k4 : Nat), Wk W (Own.blk k4 [] 78 :: R) Φ (R0) Φ1 ∧ ∀ w7 R8, Ctx W w7 (Own.blk k4 [] 78 :: R ++ R8) Φ → ∃ (p9 : Option Addr) (k10 k11 : Nat) (w12 : World), Sem.run Tryz.prog (builtin Builtin.append #[49, 49] 49 #[false, false] #[.slice (some (Addr.mk k4 0 none)) 0 0, .slice d1P d1N d1C]) w7 = .ok (.value (.slice p9 k10 k11)) w12 ∧ ∃ R13 Φ14, Stable Φ14 ∧ Ctx W w12 (R13 ++ R8) Φ14 ∧ Wk W R13 Φ14 R0 Φ1 ∧ ∀ w17 R18, Ctx W w17 (R13 ++ R18) Φ14 → J (Value.agg #[.int .i64 d0, .slice p9 k10 k11, .int .i64 n]) w17
theorem Berrataref28_clone_run (d0 : Int) (d1P : Option Addr) (d1N d1C : Nat) (d2 : Int) (n : Int) {W w : World} {R : List Own} {Φ : PW} [Stable Φ] {J : Value → World → Prop} (c : Ctx W w R Φ) (h : Berrataref28_clone d0 d1P d1N d1C d2 n W R Φ J) : Calls Tryz.prog F.errataref28_clone #[.agg #[.int .i64 d0, .slice d1P d1N d1C, .int .i64 d2], .int .i64 n] w fun e w' => ∃ v, e = .returned v ∧ J v w' :=
  vcFS_sound (H := { keep := some [1, 2, 4], track := [2, 4], stages := [(1, [.held [(0, true), (3, true), (6, true), (1, true), (4, true), (2, false), (5, false)], .stage [7] (some 8)])] }) (by rw [show vcFS Tryz.prog W { keep := some [1, 2, 4], track := [2, 4], stages := [(1, [.held [(0, true), (3, true), (6, true), (1, true), (4, true), (2, false), (5, false)], .stage [7] (some 8)])] } F.errataref28_clone #[.agg #[.int .i64 d0, .slice d1P d1N d1C, .int .i64 d2], .int .i64 n] R Φ J = Berrataref28_clone d0 d1P d1N d1C d2 n W R Φ J by kernel_rfl]; exact h) c
def Berrataref03_Bytes (v0 : Int) (v1 : Int) (v2 : ByteArray) (W : World) (R : List Own) (Φ : PW) (J : Value → World → Prop) : Prop :=
  ∀ (b : Nat), ∃ R0 Φ1, Stable Φ1 ∧ Wk W R Φ R0 Φ1 ∧ ∀ w4 R5, Ctx W w4 (R ++ R5) Φ → Calls Tryz.prog F.errataref01_Int #[.int .i64 v0] w4 fun e6 w7 => ∃ s8, e6 = .returned (.string s8) ∧ ∃ R9 Φ10, Stable Φ10 ∧ Ctx W w7 (R9 ++ R5) Φ10 ∧ Wk W R9 Φ10 R0 Φ1 ∧ ∀ w13 R14, Ctx W w13 (R9 ++ R14) Φ10 → Calls Tryz.prog F.errataref01_Int #[.int .i64 v1] w13 fun e15 w16 => ∃ s17, e15 = .returned (.string s17) ∧ ∃ R18 Φ19, Stable Φ19 ∧ Ctx W w16 (R18 ++ R14) Φ19 ∧ Wk W R18 Φ19 R0 Φ1 ∧ (s8.size + s17.size).le 9223372036854775807 ∧ ∀ w22 R23, Ctx W w22 (R18 ++ R23) Φ19 → Calls Tryz.prog F.errataref01_Text #[.string v2] w22 fun e24 w25 => ∃ s26, e24 = .returned (.string s26) ∧ ∃ R27 Φ28, Stable Φ28 ∧ Ctx W w25 (R27 ++ R23) Φ28 ∧ Wk W R27 Φ28 R0 Φ1 ∧ ((s8 ++ s17).size + s26.size).le 9223372036854775807 ∧ ∀ w31 R32, Ctx W w31 (R27 ++ R32) Φ28 → J (.string (s8 ++ s17 ++ s26)) w31
theorem Berrataref03_Bytes_run (v0 : Int) (v1 : Int) (v2 : ByteArray) {W w : World} {R : List Own} {Φ : PW} [Stable Φ] {J : Value → World → Prop} (c : Ctx W w R Φ) (h : Berrataref03_Bytes v0 v1 v2 W R Φ J) : Calls Tryz.prog F.errataref03_Bytes #[.agg #[.int .i64 v0, .int .i64 v1, .string v2]] w fun e w' => ∃ v, e = .returned v ∧ J v w' :=
  vcFS_sound (H := { keep := some [1, 2], track := [1], stages := [(1, [.held [(0, true), (3, true), (7, true), (1, true), (4, true), (8, true), (2, false), (5, false), (6, true), (9, false)], .stage [10, 11] none])] }) (by rw [show vcFS Tryz.prog W { keep := some [1, 2], track := [1], stages := [(1, [.held [(0, true), (3, true), (7, true), (1, true), (4, true), (8, true), (2, false), (5, false), (6, true), (9, false)], .stage [10, 11] none])] } F.errataref03_Bytes #[.agg #[.int .i64 v0, .int .i64 v1, .string v2]] R Φ J = Berrataref03_Bytes v0 v1 v2 W R Φ J by kernel_rfl]; exact h) c
end Go.Proofs.YtemhapmbcbbljaaGreatDoor
end

section
namespace Go.Proofs.YtemhapmbcbbljaaGreatDoor
open Go.Vc
theorem bytesLess_cmp : ∀ a b : List UInt8, Op.bytesLess a b = decide (Lib.compareBytes a b < 0)
  | [], [] => by simp [Op.bytesLess, Lib.compareBytes]
  | [], _ :: _ => by simp [Op.bytesLess, Lib.compareBytes]
  | _ :: _, [] => by simp [Op.bytesLess, Lib.compareBytes]
  | a :: ar, b :: br => by
    unfold Op.bytesLess Lib.compareBytes
    rw [bytesLess_cmp ar br]
    by_cases h1 : a < b
    · simp [h1]
    · by_cases h2 : b < a
      · rw [if_neg h1, if_pos h2]
        have : a ≠ b := fun e => by subst e; exact h1 h2
        simp [h1, this]
      · have : a = b := by
          have h1' : ¬ a.toNat < b.toNat := h1
          have h2' : ¬ b.toNat < a.toNat := h2
          exact UInt8.toNat_inj.1 (by omega)
        rw [if_neg h1, if_neg h2]
        simp [this]
theorem compareBytes_zero (a b : List UInt8) : Lib.compareBytes a b = 0 ↔ a = b := bytes_cmp.eq a b
theorem compareBytes_bd (a b : List UInt8) : -1 ≤ Lib.compareBytes a b ∧ Lib.compareBytes a b ≤ 1 := bytes_cmp.bd a b
theorem cmpT_less (a b : ByteArray) : Op.bytesLess a.toList b.toList = decide (cmpT a b < 0) := by rw [bytesLess_cmp, Lib.toList_data, Lib.toList_data]; rfl
theorem cmpT_gtr (a b : ByteArray) : (!(Op.bytesLess a.toList b.toList || a.toList == b.toList)) = decide (0 < cmpT a b) := by
  rw [cmpT_less]
  have h2 : (a.toList == b.toList) = decide (cmpT a b = 0) := by
    rw [Bool.eq_iff_iff, beq_iff_eq, decide_eq_true_eq]
    unfold cmpT
    rw [compareBytes_zero, Lib.toList_data, Lib.toList_data]
  rw [h2]
  by_cases h : cmpT a b < 0
  · simp [h]; omega
  · by_cases h' : cmpT a b = 0
    · simp [h']
    · rw [decide_eq_false h, decide_eq_false h', decide_eq_true (show 0 < cmpT a b by omega)]; rfl
theorem orI_cons (x : Int) (r : List Int) : orI (x :: r) = if x ≠ 0 then x else orI r := rfl
theorem rcmpV_g (x y : ValD) : Gives Tryz.prog F.errataref03_Compare #[x.v, y.v] (.int .i64 (cmpV x y)) := by
  refine gives_of (Berrataref03_Compare_run x.kind x.num x.text y.kind y.num y.text) fun W R Φ _ => ?_
  have h3 := compareBytes_bd x.text.data.toList y.text.data.toList
  unfold cmpV cmpL
  rw [orI_cons, orI_cons, orI_cons]
  refine fun _ _ => Br.intro (fun h => fun w G c => ⟨?_, c.left⟩) (fun h => Br.intro (fun h2 => fun w G c => ⟨?_, c.left⟩) (fun h2 => Br.intro (fun h3 => fun w G c => ⟨?_, c.left⟩) (fun h3 => Br.intro (fun h4 => fun w G c => ⟨?_, c.left⟩) (fun h4 => Br.intro (fun h5 => fun w G c => ⟨?_, c.left⟩) (fun h5 => ⟨_, fun w => by rw [binOp_string_gtr]; rfl, Br.intro (fun h6 => fun w G c => ⟨?_, c.left⟩) (fun h6 => fun w G c => ⟨?_, c.left⟩)⟩)))))
  · have h := of_decide_eq_true h
    have : cmpI x.kind y.kind = -1 := by unfold cmpI; rw [if_pos h]
    rw [this]; rfl
  all_goals have h := of_decide_eq_false h
  · have h2 := of_decide_eq_true h2
    have : cmpI x.kind y.kind = 1 := by unfold cmpI; rw [if_neg h, if_pos h2]
    rw [this]; rfl
  all_goals have h2 := of_decide_eq_false h2
  all_goals have e1 : cmpI x.kind y.kind = 0 := by unfold cmpI; rw [if_neg h, if_neg h2]
  all_goals rw [e1]
  · have h3 := of_decide_eq_true h3
    have : cmpI x.num y.num = -1 := by unfold cmpI; rw [if_pos h3]
    rw [this]; rfl
  all_goals have h3 := of_decide_eq_false h3
  · have h4 := of_decide_eq_true h4
    have : cmpI x.num y.num = 1 := by unfold cmpI; rw [if_neg h3, if_pos h4]
    rw [this]; rfl
  all_goals have h4 := of_decide_eq_false h4
  all_goals have e2 : cmpI x.num y.num = 0 := by unfold cmpI; rw [if_neg h3, if_neg h4]
  all_goals rw [e2]
  · have h5 : Op.bytesLess x.text.toList y.text.toList = true := h5
    rw [cmpT_less] at h5
    have h5 := of_decide_eq_true h5
    have : cmpT x.text y.text = -1 := by have : -1 ≤ cmpT x.text y.text := (compareBytes_bd _ _).1; omega
    rw [this]; rfl
  all_goals have h5 : Op.bytesLess x.text.toList y.text.toList = false := h5
  all_goals rw [cmpT_less] at h5
  all_goals have h5 := of_decide_eq_false h5
  · rw [cmpT_gtr] at h6
    have h6 := of_decide_eq_true h6
    have : cmpT x.text y.text = 1 := by have : cmpT x.text y.text ≤ 1 := (compareBytes_bd _ _).2; omega
    rw [this]; rfl
  · rw [cmpT_gtr] at h6
    have h6 := of_decide_eq_false h6
    have : cmpT x.text y.text = 0 := by omega
    rw [this]; rfl
theorem cmpR_nil {l r : List ValD} {i : Nat} (h : l.length ≤ i) (hr : r.length ≤ i) : cmpR (l.drop i) (r.drop i) = 0 := by
  rw [List.drop_of_length_le h, List.drop_of_length_le hr]; rfl
theorem cmpR_right {l r : List ValD} {i : Nat} (hi : l.length ≤ i) (hr : i < r.length) : cmpR (l.drop i) (r.drop i) = -1 := by
  rw [List.drop_eq_getElem_cons hr, List.drop_of_length_le hi]; rfl
theorem rCompareRows_in {Φ : PW} [Stable Φ] (p q : Option Addr) (cap cap2 : Nat) (l r : List ValD) (hΦ : ∀ M w, Φ M w → Sl M w p l) (hΨ : ∀ M w, Φ M w → Sl M w q r) (hlen : l.length ≤ 9223372036854775807) :
    GivesIn Φ Tryz.prog F.errataref03_CompareRows #[.slice p l.length cap, .slice q r.length cap2] (.int .i64 (cmpR l r)) := by
  refine .there (fun M w h => (hΦ M w h).there) fun hth => .there (fun M w h => (hΨ M w h).there) fun hth2 => ?_
  refine gives_in (Berrataref03_CompareRows_run p l.length cap q r.length cap2) fun W R => ?_
  refine exI_mk (fun n R' Φ' k => ∃ i : Nat, n = i ∧ i ≤ l.length ∧ i ≤ r.length ∧ R' = R ∧ Φ' = Φ ∧ k = l.length - i ∧ cmpR l r = cmpR (l.drop i) (r.drop i)) ⟨⟨R, Φ, _, inferInstance, fun w F c => c, 0, rfl, Nat.zero_le _, Nat.zero_le _, rfl, rfl, rfl, rfl⟩, ?_⟩
  rintro n R1 Φ1 k _ ⟨i, rfl, hi, hr, rfl, rfl, rfl, hcm⟩
  refine fun w G cx => Br.intro (fun hlt => ?_) (fun hge => ?_)
  · rw [Bool.and_eq_true] at hlt
    have hl : i < l.length := by have := of_decide_eq_true hlt.1; omega
    have hr2 : i < r.length := by have := of_decide_eq_true hlt.2; omega
    obtain ⟨b, o, rfl⟩ := hth (by omega)
    obtain ⟨b2, o2, rfl⟩ := hth2 (by omega)
    rw [cmpR_both hl hr2] at hcm
    refine ⟨R1, Φ1, inferInstance, fun _ _ c => c, by omega, ptrK_intro b o rfl ⟨by omega, ptrK_intro b2 o2 rfl ⟨l[i].kind, l[i].num, l[i].text, fun w G cx => ⟨_, _, _, sl_val (hΦ _ _ cx.phi) hl, rfl⟩, r[i].kind, r[i].num, r[i].text, fun w G cx => ⟨_, _, _, sl_val (hΨ _ _ cx.phi) hr2, rfl⟩, fun w G cx => (rcmpV_g l[i] r[i]).use cx fun w cx => ⟨_, rfl, R1, Φ1, inferInstance, cx,
      Br.intro (fun hn => fun w F cx => ⟨?_, cx.left⟩) (fun hn => ⟨by unfold I64; omega, R1, Φ1, l.length - (i + 1), inferInstance, fun w F c => c, ⟨i + 1, rfl, hl, hr2, rfl, rfl, rfl, ?_⟩, by omega⟩)⟩⟩⟩⟩
    · have hn : cmpV l[i] r[i] ≠ 0 := by simpa using hn
      rw [hcm, if_pos hn]
    · have hn : ¬ cmpV l[i] r[i] ≠ 0 := by simpa using hn
      rw [hcm, if_neg hn]
  · have hge : l.length ≤ i ∨ r.length ≤ i := by
      rw [Bool.and_eq_false_iff] at hge
      rcases hge with h | h
      · left; have := of_decide_eq_false h; omega
      · right; have := of_decide_eq_false h; omega
    refine Br.intro (fun h => fun w G cx => ⟨?_, cx.left⟩) (fun h => Br.intro (fun h2 => fun w G cx => ⟨?_, cx.left⟩) (fun h2 => fun w G cx => ⟨?_, cx.left⟩))
    · have h := of_decide_eq_true h
      rw [hcm, cmpR_right (by omega) (by omega)]
    · have h2 := of_decide_eq_true h2
      rw [hcm, cmpR_left (by omega) (by omega)]
    · have h := of_decide_eq_false h
      have h2 := of_decide_eq_false h2
      rw [hcm, cmpR_nil (by omega) (by omega)]
theorem rCompareD_in {Φ : PW} [Stable Φ] (x y : DeltaD) (p q : Option Addr) (cap cap2 : Nat) (hΦ : ∀ M w, Φ M w → Sl M w p x.row) (hΨ : ∀ M w, Φ M w → Sl M w q y.row) (hlen : x.row.length ≤ 9223372036854775807) :
    GivesIn Φ Tryz.prog F.errataref28_Compare #[x.v p cap, y.v q cap2] (.int .i64 (cmpD x y)) := by
  refine gives_in (Berrataref28_Compare_run x.time p x.row.length cap x.n y.time q y.row.length cap2 y.n) fun W R => ?_
  unfold cmpD cmpDL
  rw [orI_cons, orI_cons]
  refine fun _ _ => Br.intro (fun h => fun w G c => ⟨?_, c.left⟩) (fun h => Br.intro (fun h2 => fun w G c => ⟨?_, c.left⟩) (fun h2 => ?_))
  · have h := of_decide_eq_true h
    have : cmpI x.time y.time = -1 := by unfold cmpI; rw [if_pos h]
    rw [this]; rfl
  all_goals have h := of_decide_eq_false h
  · have h2 := of_decide_eq_true h2
    have : cmpI x.time y.time = 1 := by unfold cmpI; rw [if_neg h, if_pos h2]
    rw [this]; rfl
  have h2 := of_decide_eq_false h2
  have e1 : cmpI x.time y.time = 0 := by unfold cmpI; rw [if_neg h, if_neg h2]
  rw [e1]
  refine fun w G cx => (rCompareRows_in p q cap cap2 x.row y.row hΦ hΨ hlen).use cx fun w cx => ⟨_, rfl, R, Φ, inferInstance, cx, fun w G cx => ⟨?_, cx.left⟩⟩
  by_cases h0 : cmpR x.row y.row = 0
  · rw [h0]; rfl
  · rw [if_neg (by omega), if_pos h0]
theorem Equal_pin {Φ : PW} [Stable Φ] (p : Option Addr) (cap : Nat) (a : List DeltaD) (q : Option Addr) (cap2 : Nat) (b : List DeltaD) (g1 o1 : Nat) (cs1 : List (List Value)) (g2 o2 : Nat) (cs2 : List (List Value)) (hp : 0 < a.length → p = some ⟨g1, o1, none⟩) (hq : 0 < b.length → q = some ⟨g2, o2, none⟩)
    (hΦ : ∀ M w, Φ M w → Pin g1 o1 cs1 a M w) (hΨ : ∀ M w, Φ M w → Pin g2 o2 cs2 b M w) (hlen : a.length ≤ 9223372036854775807) :
    GivesIn Φ Tryz.prog F.errataref28_Equal #[.slice p a.length cap, .slice q b.length cap2] (.bool (decide (a = b))) := by
  refine in_cells hΦ fun hc1 => in_cells hΨ fun hc2 => ?_
  refine gives_in (Berrataref28_Equal_run p a.length cap q b.length cap2) fun W R => ?_
  refine Br.intro (fun h => fun w G cx => ⟨?_, cx.left⟩) (fun h => ?_)
  · rw [decide_eq_false]
    intro e
    have := of_decide_eq_true h
    rw [e] at this
    exact this rfl
  have hl : a.length = b.length := by have := of_decide_eq_false h; omega
  refine exI_mk (fun iI R' Φ' k => ∃ i : Nat, iI = i ∧ i ≤ a.length ∧ R' = R ∧ Φ' = Φ ∧ k = a.length - i ∧ a.take i = b.take i) ⟨⟨R, Φ, _, inferInstance, fun w F c => c, 0, rfl, Nat.zero_le _, rfl, rfl, rfl, rfl⟩, ?_⟩
  rintro iI R1 Φ1 k _ ⟨i, rfl, hi, rfl, rfl, rfl, hs⟩
  refine Br.intro (fun hlt => ?_) (fun hge => fun w F cx => ⟨?_, cx.left⟩)
  · have hlt : i < a.length := by have := of_decide_eq_true hlt; omega
    have hltb : i < b.length := by omega
    obtain ⟨r1, rc1, he1, f1, f2, _, _⟩ := hc1 i hlt
    obtain ⟨r2, rc2, he2, f3, f4, _, _⟩ := hc2 i hltb
    have hcall := rCompareD_in (Φ := Φ1) a[i] b[i] r1 r2 rc1 rc2 (fun M w h => pin_row (hΦ M w h) hlt he1) (fun M w h => pin_row (hΨ M w h) hltb he2) (len_max f1 f2)
    have hn1 : ∀ {w : World} {G : List Own}, Ctx W w (R1 ++ G) Φ1 → w.cell? ⟨g1, o1 + (i : Int).toNat * 3 + 2, none⟩ = some (.int .i64 a[i].n) := fun cx => by
      have := pin_rowAt (hΦ _ _ cx.phi) hlt he1 2 (by simp)
      rw [Int.toNat_natCast]; simpa using this
    have hn2 : ∀ {w : World} {G : List Own}, Ctx W w (R1 ++ G) Φ1 → w.cell? ⟨g2, o2 + (i : Int).toNat * 3 + 2, none⟩ = some (.int .i64 b[i].n) := fun cx => by
      have := pin_rowAt (hΨ _ _ cx.phi) hltb he2 2 (by simp)
      rw [Int.toNat_natCast]; simpa using this
    refine ⟨R1, Φ1, inferInstance, fun _ _ c => c, by omega, ptrK_intro g1 o1 (hp (by omega)) ⟨by omega, ptrK_intro g2 o2 (hq (by omega)) ⟨a[i].time, r1, a[i].row.length, rc1, a[i].n, fun w G cx => ⟨_, _, _, _, _, by rw [Int.toNat_natCast]; exact pin_rowAt (hΦ _ _ cx.phi) hlt he1, rfl⟩, b[i].time, r2, b[i].row.length, rc2, b[i].n, fun w G cx => ⟨_, _, _, _, _, by rw [Int.toNat_natCast]; exact pin_rowAt (hΨ _ _ cx.phi) hltb he2, rfl⟩,
      fun w G cx => hcall.use cx fun w cx => ⟨_, rfl, R1, Φ1, inferInstance, cx, Br.intro (fun hn => fun w F cx => ⟨?_, cx.left⟩) (fun hn => ⟨by omega, ptrK_intro g1 o1 (hp (by omega)) ⟨by omega, ptrK_intro g2 o2 (hq (by omega)) fun w G cx => ⟨_, hn1 cx, fun w G cx => ⟨_, hn2 cx, Br.intro (fun h3 => fun w G cx => ⟨?_, cx.left⟩) (fun h3 => ⟨by unfold I64; omega, R1, Φ1, a.length - (i + 1), inferInstance, fun w F c => c, ⟨i + 1, rfl, hlt, rfl, rfl, rfl, ?_⟩, by omega⟩)⟩⟩⟩⟩)⟩⟩⟩⟩
    · rw [decide_eq_false]
      intro e
      subst e
      have := of_decide_eq_true hn
      rw [cmpD_key] at this
      exact this (cmpK_cmp.refl _)
    · rw [decide_eq_false]
      intro e
      subst e
      have := of_decide_eq_true h3
      exact this rfl
    · have h1 := of_decide_eq_false hn
      have h2 := of_decide_eq_false h3
      have h1 : cmpD a[i] b[i] = 0 := Decidable.not_not.1 h1
      have h2 : a[i].n = b[i].n := Decidable.not_not.1 h2
      rw [cmpD_key] at h1
      have he : a[i] = b[i] := delta_ext ((cmpK_cmp.eq _ _).1 h1) h2
      rw [List.take_succ_eq_append_getElem hlt, List.take_succ_eq_append_getElem hltb, hs, he]
  · have hge : i = a.length := by have := of_decide_eq_false hge; omega
    rw [decide_eq_true]
    rw [hge, List.take_length, hl, List.take_length] at hs
    exact hs
theorem Equal_in {Φ : PW} [Stable Φ] (p : Option Addr) (cap : Nat) (a : List DeltaD) (q : Option Addr) (cap2 : Nat) (b : List DeltaD) (hΦ : ∀ M w, Φ M w → Sl M w p a) (hΨ : ∀ M w, Φ M w → Sl M w q b) (hlen : a.length ≤ 9223372036854775807) :
    GivesIn Φ Tryz.prog F.errataref28_Equal #[.slice p a.length cap, .slice q b.length cap2] (.bool (decide (a = b))) :=
  .pinned hΦ fun g1 o1 cs1 hp => .pinned (fun M w h => hΨ M w h.1) fun g2 o2 cs2 hq => Equal_pin (Φ := fun M w => (Φ M w ∧ Pin g1 o1 cs1 a M w) ∧ Pin g2 o2 cs2 b M w) p cap a q cap2 b g1 o1 cs1 g2 o2 cs2 hp hq (fun M w h => h.1.2) (fun M w h => h.2) hlen
end Go.Proofs.YtemhapmbcbbljaaGreatDoor
end

section
namespace Go.Proofs.YtemhapmbcbbljaaGreatDoor
open Go.Vc
def findI {α : Type} (p : α → Bool) : Nat → List α → Int
  | _, [] => -1
  | i, x :: r => if p x = true then (i : Int) else findI p (i + 1) r
theorem findI_drop {α : Type} (p : α → Bool) (l : List α) (i : Nat) (hi : i < l.length) : findI p i (l.drop i) = if p l[i] = true then (i : Int) else findI p (i + 1) (l.drop (i + 1)) := by
  rw [List.drop_eq_getElem_cons hi]; rfl
theorem findI_any {α : Type} (p : α → Bool) : ∀ (l : List α) (i : Nat), decide (0 ≤ findI p i l) = l.any p
  | [], _ => rfl
  | x :: r, i => by
    unfold findI
    rw [List.any_cons]
    cases h : p x with
    | true => simp
    | false => simp only [Bool.false_or]; rw [if_neg (by simp)]; exact findI_any p r (i + 1)
end Go.Proofs.YtemhapmbcbbljaaGreatDoor
end

section
namespace Go.Vc
section
variable {P : Program} {W w w' : World} {S F : List Own} {Φ Ψ : PW}
end
end Go.Vc
namespace Go.Proofs.YtemhapmbcbbljaaGreatDoor
open Go.Vc
end Go.Proofs.YtemhapmbcbbljaaGreatDoor
end

section
namespace Go.Proofs.YtemhapmbcbbljaaGreatDoor
open Go.Vc
def consAt (l : List DeltaD) (j : Nat) : Bool := match l[j]? with
  | none => false
  | some y => decide (y.n ≠ 0) && match j with
    | 0 => true
    | i + 1 => match l[i]? with
      | none => false
      | some x => decide (cmpD x y < 0)
def consolidated (l : List DeltaD) : Bool := (List.range l.length).all fun j => consAt l j
abbrev Rows1 (l : List DeltaD) : Prop := ∀ x ∈ l, x.row.length ≤ 1000000
end Go.Proofs.YtemhapmbcbbljaaGreatDoor
end

section
namespace Go.Proofs.YtemhapmbcbbljaaGreatDoor
open Go.Vc
def leD (x y : DeltaD) : Bool := decide (cmpD x y ≤ 0)
def srt : Nat → List DeltaD → List DeltaD
  | 0, l => l
  | f + 1, l => if l.length < 2 then l else List.merge (srt f (l.take (l.length / 2))) (srt f (l.drop (l.length / 2))) leD
theorem srt_perm : ∀ (f : Nat) (l : List DeltaD), (srt f l).Perm l
  | 0, l => .refl _
  | f + 1, l => by
    unfold srt
    split
    · exact .refl _
    · refine (List.merge_perm_append leD).trans (((srt_perm f _).append (srt_perm f _)).trans ?_)
      rw [List.take_append_drop]
theorem leD_trans (x y z : DeltaD) (h1 : leD x y = true) (h2 : leD y z = true) : leD x z = true := by
  unfold leD at *
  have h1 := of_decide_eq_true h1
  have h2 := of_decide_eq_true h2
  rw [cmpD_key] at h1 h2
  refine decide_eq_true ?_
  rw [cmpD_key]
  rcases Int.lt_or_eq_of_le h1 with h3 | h3
  · rcases Int.lt_or_eq_of_le h2 with h4 | h4
    · exact Int.le_of_lt (cmpK_cmp.trans _ _ _ h3 h4)
    · rw [← (cmpK_cmp.eq _ _).1 h4]; exact h1
  · rw [(cmpK_cmp.eq _ _).1 h3]; exact h2
theorem leD_total (x y : DeltaD) : (leD x y || leD y x) = true := by
  unfold leD
  rw [Bool.or_eq_true, decide_eq_true_eq, decide_eq_true_eq, cmpD_key, cmpD_key]
  rcases cmpK_cmp.tri x.key y.key with h | h | h
  · left; omega
  · left; rw [h, cmpK_cmp.refl]; omega
  · right; omega
theorem srt_asc : ∀ (f : Nat) (l : List DeltaD), l.length ≤ f → (srt f l).Pairwise (fun a b => leD a b = true)
  | 0, l, h => by
    rw [List.length_eq_zero_iff.1 (Nat.le_zero.1 h)]
    exact List.Pairwise.nil
  | f + 1, l, h => by
    unfold srt
    split
    · rename_i h2
      match l, h2 with
      | [], _ => exact List.Pairwise.nil
      | [x], _ => exact List.pairwise_singleton _ _
    · exact List.pairwise_merge leD_trans leD_total _ _ (srt_asc f _ (by rw [List.length_take]; omega)) (srt_asc f _ (by rw [List.length_drop]; omega))
theorem merge_l {A B : List DeltaD} {i k : Nat} (hi : i < A.length) (hk : k < B.length) (h : cmpD A[i] B[k] ≤ 0) : List.merge (A.drop i) (B.drop k) leD = A[i] :: List.merge (A.drop (i + 1)) (B.drop k) leD := by
  rw [List.drop_eq_getElem_cons hi]
  conv => lhs; rw [List.drop_eq_getElem_cons hk, List.cons_merge_cons_pos _ _ _ (show leD A[i] B[k] = true from decide_eq_true h), ← List.drop_eq_getElem_cons hk]
theorem merge_r {A B : List DeltaD} {i k : Nat} (hi : i < A.length) (hk : k < B.length) (h : ¬ cmpD A[i] B[k] ≤ 0) : List.merge (A.drop i) (B.drop k) leD = B[k] :: List.merge (A.drop i) (B.drop (k + 1)) leD := by
  have h2 : ¬ leD A[i] B[k] = true := by unfold leD; simpa using h
  conv => lhs; rw [List.drop_eq_getElem_cons hi, List.drop_eq_getElem_cons hk, List.cons_merge_cons_neg _ _ _ h2, ← List.drop_eq_getElem_cons hi]
theorem merge_l0 {A B : List DeltaD} {i k : Nat} (hi : i < A.length) (hk : B.length ≤ k) : List.merge (A.drop i) (B.drop k) leD = A[i] :: List.merge (A.drop (i + 1)) (B.drop k) leD := by
  rw [List.drop_eq_nil_of_le hk, List.merge_right, List.merge_right, List.drop_eq_getElem_cons hi]
theorem merge_r0 {A B : List DeltaD} {i k : Nat} (hi : A.length ≤ i) (hk : k < B.length) : List.merge (A.drop i) (B.drop k) leD = B[k] :: List.merge (A.drop i) (B.drop (k + 1)) leD := by
  rw [List.drop_eq_nil_of_le hi, List.nil_merge, List.nil_merge, List.drop_eq_getElem_cons hk]
theorem tdiv2 (n : Nat) : (n : Int).tdiv 2 = ((n / 2 : Nat) : Int) := rfl
theorem Ctx.cells {W w : World} {S : List Own} {Φ : PW} {g o : Nat} {cs : List (List Value)} {l : List DeltaD} (c : Ctx W w S Φ) (h : ∀ M w, Φ M w → Pin g o cs l M w) :
    ∀ j, (hj : j < l.length) → ∃ p c, cs.getD j [] = l[j].cells p c ∧ l[j].row.length ≤ c ∧ c ≤ maxLen ∧ I64 l[j].time ∧ I64 l[j].n := fun j hj => by
  obtain ⟨p, q, h1, h2, h3, h4, h5, _⟩ := pin_delta (h _ _ c.phi) hj
  exact ⟨p, q, h1, h2, h3, h4, h5⟩
theorem push1 {W w : World} {R G : List Own} {PS : PW} [Stable PS] {op : Option Addr} {oc : Nat} {ds : List Value} {o : List DeltaD} {x : DeltaD} {q : Option Addr} {qc kb : Nat} (hx : ∀ M w, PS M w → Gv.rep M w (x.cells q qc) x) (ho : o.length < 10000000)
    (cx : Ctx W w (.blk kb (x.cells q qc) 71 :: .buf op o.length oc ds 71 3 :: R ++ G) (fun M w => PS M w ∧ Elems M w ds o)) :
    ∃ p c w', Sem.run Tryz.prog (builtin Builtin.append #[45, 45] 45 #[false, false] #[.slice op o.length oc, .slice (some ⟨kb, 0, none⟩) 1 1]) w = .ok (.value (.slice p (o ++ [x]).length c)) w' ∧ Ctx W w' (.buf p (o ++ [x]).length c (ds ++ x.cells q qc) 71 3 :: R ++ G) (fun M w => PS M w ∧ Elems M w (ds ++ x.cells q qc) (o ++ [x])) := by
  obtain ⟨p', cap', w', hrun, _, cx'⟩ := Ctx.app1 (P := Tryz.prog) (ts := 45) (ty := 45) (kb := #[false, false]) (size := 3) (bytes := 40) cx (by kernel_rfl) (by omega) rfl rfl (by omega) (by omega)
  have e : o.length + 1 = (o ++ [x]).length := by simp
  rw [e] at hrun cx'
  exact ⟨p', cap', w', hrun, cx'.weak fun M w h => ⟨h.1, h.2.snoc (hx M w h.1)⟩⟩
set_option maxHeartbeats 4000000 in
theorem sorted_sl : ∀ (f : Nat) {Φ : PW} [Stable Φ] (p : Option Addr) (cap : Nat) (l : List DeltaD), (∀ M w, Φ M w → Sl M w p l) → l.length ≤ f → l.length ≤ cap → cap ≤ maxLen → l.length ≤ 1000000 → Rows1 l → GivesSl Φ Tryz.prog F.errataref28_sorted #[.slice p l.length cap] (srt f l) id := by
  intro f
  induction f with
  | zero =>
    intro Φ _ p cap l hΦ hf hc1 hc2 hl hr
    refine gives_sl (Berrataref28_sorted_run p l.length cap) fun W R => Br.intro (fun _ => fun w G cx => ⟨p, cap, rfl, hc1, hc2, cx.left.weak fun M w h => ⟨h, hΦ M w h⟩⟩) (fun h => ?_)
    have := of_decide_eq_false h
    omega
  | succ f ih =>
    intro Φ hΦs p cap l hΦ hf hc1 hc2 hl hr
    refine .there (fun M w h => (hΦ M w h).there) fun hth => ?_
    by_cases h2 : l.length < 2
    · have e : srt (f + 1) l = l := by unfold srt; rw [if_pos h2]
      rw [e]
      exact gives_sl (Berrataref28_sorted_run p l.length cap) fun W R => Br.intro (fun _ => fun w G cx => ⟨p, cap, rfl, hc1, hc2, cx.left.weak fun M w h => ⟨h, hΦ M w h⟩⟩) (fun h => by have := of_decide_eq_false h; omega)
    · have e : srt (f + 1) l = List.merge (srt f (l.take (l.length / 2))) (srt f (l.drop (l.length / 2))) leD := by conv => lhs; unfold srt; rw [if_neg h2]
      rw [e]
      refine gives_sl (Berrataref28_sorted_run p l.length cap) fun W R => Br.intro (fun h => by have := of_decide_eq_true h; omega) (fun _ => ?_)
      have t2 := tdiv2 l.length
      have lA : (l.take (l.length / 2)).length = ((l.length : Int).tdiv 2).toNat := by rw [List.length_take, t2, Int.toNat_natCast]; omega
      have lB : (l.drop (l.length / 2)).length = l.length - ((l.length : Int).tdiv 2).toNat := by rw [List.length_drop, t2, Int.toNat_natCast]
      have hA : ∀ M w, Φ M w → Sl M w (subPtr p 3 0 cap) (l.take (l.length / 2)) := fun M w h => by
        have h1 := addr_sub (hΦ M w h) 0 hc1
        rw [List.drop_zero] at h1
        exact fun j hj => by
          have hj2 : j < l.length := by rw [List.length_take] at hj; omega
          obtain ⟨b, o, cs, h1, h2, h3, h4⟩ := h1 j hj2
          exact ⟨b, o, cs, h1, h2, h3, by rw [List.getElem_take]; exact h4⟩
      have hB : ∀ M w, Φ M w → Sl M w (subPtr p 3 ((l.length : Int).tdiv 2).toNat cap) (l.drop (l.length / 2)) := fun M w h => by
        have h1 := addr_sub (hΦ M w h) (l.length / 2) hc1
        rw [t2, Int.toNat_natCast]
        exact h1
      have ihA := ih (Φ := Φ) (subPtr p 3 0 cap) cap (l.take (l.length / 2)) hA (by rw [List.length_take]; omega) (by rw [List.length_take]; omega) hc2 (by rw [List.length_take]; omega) (fun x hx => hr x (List.mem_of_mem_take hx))
      obtain ⟨A, eA⟩ : ∃ A, srt f (l.take (l.length / 2)) = A := ⟨_, rfl⟩
      obtain ⟨B, eB⟩ : ∃ B, srt f (l.drop (l.length / 2)) = B := ⟨_, rfl⟩
      have pA : A.Perm (l.take (l.length / 2)) := by rw [← eA]; exact srt_perm f _
      have pB : B.Perm (l.drop (l.length / 2)) := by rw [← eB]; exact srt_perm f _
      have nA := pA.length_eq
      have nB := pB.length_eq
      rw [List.length_take] at nA
      rw [List.length_drop] at nB
      rw [lA] at ihA
      refine ⟨by omega, by rw [t2]; unfold I64; omega, by rw [t2]; omega, fun w G cx => ihA.to cx fun p1 c1 g1 g2 st1 => ?_⟩
      clear cx
      refine ⟨by omega, by rw [t2]; unfold I64; omega, by rw [t2]; omega, ?_⟩
      rw [eA] at g1 st1 ⊢
      have ihB := ih (Φ := fun M w => Φ M w ∧ Sl M w p1 A) (subPtr p 3 ((l.length : Int).tdiv 2).toNat cap) (cap - ((l.length : Int).tdiv 2).toNat) (l.drop (l.length / 2)) (fun M w h => hB M w h.1) (by rw [List.length_drop]; omega) (by rw [List.length_drop, t2, Int.toNat_natCast]; omega) (by omega) (by rw [List.length_drop]; omega) (fun x hx => hr x (List.mem_of_mem_drop hx))
      rw [lB, eB] at ihB
      refine fun w G cx => ihB.use cx fun p2 c2 w g3 g4 cx => ?_
      rw [eB]
      obtain ⟨ga, oa, ca, hpa, cx⟩ := cx.pin cx.phi.1.2
      obtain ⟨gb, ob, cb, hpb, cx⟩ := cx.pin cx.phi.1.2
      obtain ⟨PS, hPS⟩ : ∃ PS : PW, PS = (fun M w => (((Φ M w ∧ Sl M w p1 A) ∧ Sl M w p2 B) ∧ Pin ga oa ca A M w) ∧ Pin gb ob cb B M w) := ⟨_, rfl⟩
      have stP : Stable PS := by rw [hPS]; infer_instance
      have iA : ∀ M w, PS M w → Pin ga oa ca A M w := fun M w h => by rw [hPS] at h; exact h.1.2
      have iB : ∀ M w, PS M w → Pin gb ob cb B M w := fun M w h => by rw [hPS] at h; exact h.2
      have i0 : ∀ M w, PS M w → Φ M w := fun M w h => by rw [hPS] at h; exact h.1.1.1.1
      rw [← hPS] at cx
      clear hPS
      have hcA := Ctx.cells cx iA
      have hcB := Ctx.cells cx iB
      have hrA : ∀ j, (hj : j < A.length) → A[j].row.length ≤ 1000000 := fun j hj => hr _ (List.mem_of_mem_take (pA.mem_iff.1 (List.getElem_mem hj)))
      refine ⟨p2, _, c2, rfl, R, PS, stP, cx, ?_⟩
      clear cx ihA ihB
      refine exI_mk (fun op on oc iI kI R' Φ' m => ∃ (i k : Nat) (o : List DeltaD) (ds : List Value), iI = i ∧ kI = k ∧ i ≤ A.length ∧ k ≤ B.length ∧ on = o.length ∧ o.length = i + k ∧ o ++ List.merge (A.drop i) (B.drop k) leD = List.merge A B leD ∧ R' = .buf op on oc ds 71 3 :: R ∧ Φ' = (fun M w => PS M w ∧ Elems M w ds o) ∧ m = (A.length - i) + (B.length - k))
        ⟨⟨.buf none 0 0 [] 71 3 :: R, fun M w => PS M w ∧ Elems M w [] ([] : List DeltaD), _, inferInstance, fun w G cx => (cx.nobuf 71 3).weak fun M w h => ⟨h, Elems.nil⟩, 0, 0, [], [], rfl, rfl, Nat.zero_le _, Nat.zero_le _, rfl, rfl, rfl, rfl, rfl, rfl⟩, ?_⟩
      rintro op on oc iI kI R1 Φ1 m _ ⟨i, k, o, ds, rfl, rfl, hi, hk, rfl, hol, hme, rfl, rfl, rfl⟩
      have st2 : Stable (fun M w => PS M w ∧ Elems M w ds o) := inferInstance
      have rowA : ∀ {w : World} {S : List Own} {Ψ : PW}, (hj : i < A.length) → ∀ {q qc}, ca.getD i [] = A[i].cells q qc → Ctx W w S (fun M w => PS M w ∧ Ψ M w) → RowAt w ga (oa + (i : Int).toNat * 3) [.int .i64 A[i].time, .slice q A[i].row.length qc, .int .i64 A[i].n] := fun hj q qc he cx => by rw [Int.toNat_natCast]; exact pin_rowAt (iA _ _ cx.phi.1) hj he
      have rowB : ∀ {w : World} {S : List Own} {Ψ : PW}, (hj : k < B.length) → ∀ {q qc}, cb.getD k [] = B[k].cells q qc → Ctx W w S (fun M w => PS M w ∧ Ψ M w) → RowAt w gb (ob + (k : Int).toNat * 3) [.int .i64 B[k].time, .slice q B[k].row.length qc, .int .i64 B[k].n] := fun hj q qc he cx => by rw [Int.toNat_natCast]; exact pin_rowAt (iB _ _ cx.phi.1) hj he
      refine fun w G cx => ?_
      clear cx
      refine Br.intro (fun hor => fun w G cx => ?_) (fun hnor => fun w G cx => ?_)
      · clear cx
        rw [Bool.or_eq_true] at hor
        refine Br.intro (fun hand => ?_) (fun hnand => ?_)
        · rw [Bool.and_eq_true] at hand
          have hiA : i < A.length := by have := of_decide_eq_true hand.1; omega
          have hkB : k < B.length := by have := of_decide_eq_true hand.2; omega
          obtain ⟨qa, qca, ea, ha1, ha2, ha3, ha4⟩ := hcA i hiA
          obtain ⟨qb, qcb, eb, hb1, hb2, hb3, hb4⟩ := hcB k hkB
          have hsa : ∀ M w, (PS M w ∧ Elems M w ds o) → Sl M w qa A[i].row := fun M w h => pin_row (iA M w h.1) hiA ea
          have hsb : ∀ M w, (PS M w ∧ Elems M w ds o) → Sl M w qb B[k].row := fun M w h => pin_row (iB M w h.1) hkB eb
          refine ⟨_, _, st2, fun w G cx => cx, by omega, ptrK_intro ga oa (hpa (by omega)) ⟨by omega, ptrK_intro gb ob (hpb (by omega)) ⟨_, _, _, _, _, fun w G cx => ⟨_, _, _, _, _, rowA hiA ea cx, rfl⟩, _, _, _, _, _, fun w G cx => ⟨_, _, _, _, _, rowB hkB eb cx, rfl⟩, fun w G cx => (rCompareD_in A[i] B[k] qa qb qca qcb hsa hsb (by have := hrA i hiA; omega)).toI cx ?_⟩⟩⟩
          refine Br.intro (fun hle => ⟨by omega, ptrK_intro ga oa (hpa (by omega)) fun w G cx => ⟨_, _, _, _, _, rowA hiA ea cx, fun kb w G cx => ?_⟩⟩) (fun hgt => ⟨by omega, ptrK_intro gb ob (hpb (by omega)) fun w G cx => ⟨_, _, _, _, _, rowB hkB eb cx, fun kb w G cx => ?_⟩⟩)
          · obtain ⟨p', c', w', hrun, cx'⟩ := push1 (x := A[i]) (fun M w h => rep_delta ha1 ha2 ha3 ha4 (pin_row (iA M w h) hiA ea)) (by omega) cx
            exact ⟨p', _, c', w', hrun, _, _, inferInstance, cx', by unfold I64; omega, _, _, (A.length - (i + 1)) + (B.length - k), inferInstance, fun w G cx => cx, ⟨i + 1, k, o ++ [A[i]], _, by omega, rfl, hiA, hk, rfl, by rw [List.length_append, List.length_singleton]; omega, by rw [← hme, merge_l hiA hkB (of_decide_eq_true hle)]; simp, rfl, rfl, rfl⟩, by omega⟩
          · obtain ⟨p', c', w', hrun, cx'⟩ := push1 (x := B[k]) (fun M w h => rep_delta hb1 hb2 hb3 hb4 (pin_row (iB M w h) hkB eb)) (by omega) cx
            exact ⟨p', _, c', w', hrun, _, _, inferInstance, cx', by unfold I64; omega, _, _, (A.length - i) + (B.length - (k + 1)), inferInstance, fun w G cx => cx, ⟨i, k + 1, o ++ [B[k]], _, rfl, by omega, hi, hkB, rfl, by rw [List.length_append, List.length_singleton]; omega, by rw [← hme, merge_r hiA hkB (of_decide_eq_false hgt)]; simp, rfl, rfl, rfl⟩, by omega⟩
        · rw [Bool.and_eq_false_iff] at hnand
          refine Br.intro (fun hge => ?_) (fun hlt => ?_)
          · have hkB : B.length ≤ k := by have := of_decide_eq_true hge; omega
            have hiA : i < A.length := by rcases hor with h | h <;> have := of_decide_eq_true h <;> omega
            obtain ⟨qa, qca, ea, ha1, ha2, ha3, ha4⟩ := hcA i hiA
            refine ⟨by omega, ptrK_intro ga oa (hpa (by omega)) fun w G cx => ⟨_, _, _, _, _, rowA hiA ea cx, fun kb w G cx => ?_⟩⟩
            obtain ⟨p', c', w', hrun, cx'⟩ := push1 (x := A[i]) (fun M w h => rep_delta ha1 ha2 ha3 ha4 (pin_row (iA M w h) hiA ea)) (by omega) cx
            exact ⟨p', _, c', w', hrun, _, _, inferInstance, cx', by unfold I64; omega, _, _, (A.length - (i + 1)) + (B.length - k), inferInstance, fun w G cx => cx, ⟨i + 1, k, o ++ [A[i]], _, by omega, rfl, hiA, hk, rfl, by rw [List.length_append, List.length_singleton]; omega, by rw [← hme, merge_l0 hiA hkB]; simp, rfl, rfl, rfl⟩, by omega⟩
          · have hkB : k < B.length := by have := of_decide_eq_false hlt; omega
            have hiA : A.length ≤ i := by rcases hnand with h | h <;> have := of_decide_eq_false h <;> omega
            obtain ⟨qb, qcb, eb, hb1, hb2, hb3, hb4⟩ := hcB k hkB
            refine ⟨by omega, ptrK_intro gb ob (hpb (by omega)) fun w G cx => ⟨_, _, _, _, _, rowB hkB eb cx, fun kb w G cx => ?_⟩⟩
            obtain ⟨p', c', w', hrun, cx'⟩ := push1 (x := B[k]) (fun M w h => rep_delta hb1 hb2 hb3 hb4 (pin_row (iB M w h) hkB eb)) (by omega) cx
            exact ⟨p', _, c', w', hrun, _, _, inferInstance, cx', by unfold I64; omega, _, _, (A.length - i) + (B.length - (k + 1)), inferInstance, fun w G cx => cx, ⟨i, k + 1, o ++ [B[k]], _, rfl, by omega, hi, hkB, rfl, by rw [List.length_append, List.length_singleton]; omega, by rw [← hme, merge_r0 hiA hkB]; simp, rfl, rfl, rfl⟩, by omega⟩
      · rw [Bool.or_eq_false_iff] at hnor
        have hiA : i = A.length := by have := of_decide_eq_false hnor.1; omega
        have hkB : k = B.length := by have := of_decide_eq_false hnor.2; omega
        subst hiA; subst hkB
        rw [List.drop_length, List.drop_length, List.nil_merge, List.append_nil] at hme
        have cx := cx.left
        obtain ⟨cx3, hs, _, g5, g6⟩ := Ctx.freeze (α := DeltaD) cx.fst cx.phi.2
        rw [← hme]
        exact ⟨op, oc, rfl, g5, g6, (cx3.add hs).weak fun M w h => ⟨i0 M w h.1, h.2⟩⟩
end Go.Proofs.YtemhapmbcbbljaaGreatDoor
end

section
namespace Go.Proofs.YtemhapmbcbbljaaGreatDoor
open Go.Vc
theorem Clone28_sl {Φ : PW} [Stable Φ] (x : DeltaD) (p : Option Addr) (cap : Nat) (n : Int) (hΦ : ∀ M w, Φ M w → Sl M w p x.row) (hlen : x.row.length ≤ 1000000) : GivesSl Φ Tryz.prog F.errataref28_clone #[x.v p cap, .int .i64 n] x.row (fun v => .agg #[.int .i64 x.time, v, .int .i64 n]) := by
  refine gives_sl (Berrataref28_clone_run x.time p x.row.length cap x.n n) fun W R => ?_
  intro _ _
  refine ⟨R, Φ, inferInstance, fun w G cx => cx, fun k => ⟨fun w G cx => cx.drop1, fun w G cx => ?_⟩⟩
  obtain ⟨p', cap', w', cs, hrun, c'⟩ := Ctx.cloned (P := Tryz.prog) (ts := 49) (ty := 49) (kb := #[false, false]) (bytes := 32) (c2 := cap) cx (by kernel_rfl) val_one hΦ (by omega) (by omega)
  refine ⟨_, _, _, _, hrun, .buf p' x.row.length cap' cs 78 3 :: R, _, inferInstance, c', fun w G cx => cx.drop1.fst, fun w G cx => ?_⟩
  obtain ⟨_, g1, g2⟩ := cx.bufLen 0 rfl
  obtain ⟨cx3, hs, _⟩ := Ctx.freeze (α := ValD) cx.fst cx.phi.2
  exact ⟨p', cap', rfl, g1, g2, (cx3.add hs).left⟩
theorem push2 {W w : World} {R G : List Own} {PS Ψ : PW} [Stable PS] [Stable Ψ] {op : Option Addr} {oc : Nat} {ds : List Value} {o : List DeltaD} {x : DeltaD} {q : Option Addr} {qc kb : Nat} (hx : ∀ M w, PS M w → Ψ M w → Gv.rep M w (x.cells q qc) x) (ho : o.length < 10000000)
    (cx : Ctx W w (.blk kb (x.cells q qc) 71 :: .buf op o.length oc ds 71 3 :: R ++ G) (fun M w => (PS M w ∧ Elems M w ds o) ∧ Ψ M w)) :
    ∃ p c w', Sem.run Tryz.prog (builtin Builtin.append #[45, 45] 45 #[false, false] #[.slice op o.length oc, .slice (some ⟨kb, 0, none⟩) 1 1]) w = .ok (.value (.slice p (o ++ [x]).length c)) w' ∧ Ctx W w' (.buf p (o ++ [x]).length c (ds ++ x.cells q qc) 71 3 :: R ++ G) (fun M w => PS M w ∧ Elems M w (ds ++ x.cells q qc) (o ++ [x])) := by
  obtain ⟨p', c', w', h1, h2⟩ := push1 (PS := fun M w => PS M w ∧ Ψ M w) (x := x) (q := q) (qc := qc) (fun M w h => hx M w h.1 h.2) ho (cx.weak fun M w h => ⟨⟨h.1.1, h.2⟩, h.1.2⟩)
  exact ⟨p', c', w', h1, h2.weak fun M w h => ⟨h.1.1, h.2⟩⟩
def dz (x : DeltaD) : DE := ⟨x, none, 0⟩
theorem dz_d (s : List DeltaD) : (s.map dz).map DE.d = s := by
  rw [List.map_map]
  exact List.map_id s
abbrev CO (l s outs : List DeltaD) (i : Nat) : Prop := COuter l (s.map dz) (outs.map dz) i
theorem CO.start {l s : List DeltaD} (h : s.Perm l) : CO l s [] 0 :=
  ⟨Nat.zero_le _, Norm.nil, by simp, fun k => by rw [List.drop_zero, dz_d, dz_d]; exact findP_perm h k, Nat.le_refl _⟩
theorem CO.step {l s outs : List DeltaD} {i : Nat} (h : CO l s outs i) {X : DeltaD} (hX : X ∈ s.drop i) {j : Nat} (hij : i + j ≤ s.length) (hj : 1 ≤ j) (hk : ∀ y ∈ (s.drop i).take j, y.key = X.key) {N : Int} (hN : N = findP ((s.drop i).take j) X.key)
    (hgt : ∀ y ∈ s.drop (i + j), cmpK X.key y.key < 0) : (N = 0 → CO l s outs (i + j)) ∧ (N ≠ 0 → CO l s (outs ++ [⟨X.time, X.row, N⟩]) (i + j)) := by
  have h1 := COuter.step h (X := dz X) (by rw [← List.map_drop]; exact List.mem_map_of_mem hX) (j := j) (by rw [List.length_map]; exact hij) hj
    (fun y hy => by rw [← List.map_drop, ← List.map_take] at hy; obtain ⟨z, hz, rfl⟩ := List.mem_map.1 hy; exact hk z hz) (N := N) (by rw [← List.map_drop, ← List.map_take, dz_d]; exact hN)
    (fun y hy => by rw [← List.map_drop] at hy; obtain ⟨z, hz, rfl⟩ := List.mem_map.1 hy; exact hgt z hz)
  refine ⟨h1.1, fun h0 => ?_⟩
  have := h1.2 h0 none 0
  unfold CO
  rw [List.map_append]
  exact this
theorem CO.end {l s outs : List DeltaD} (h : CO l s outs s.length) : consP l = outs := by
  have h1 := h.norm
  have h2 := h.find
  rw [dz_d] at h1 h2
  refine consP_is h1 fun k => ?_
  have := h2 k
  rwa [← List.map_drop, List.drop_length, List.map_nil, List.map_nil, List.append_nil] at this
theorem CO.few {l s outs : List DeltaD} {i : Nat} (h : CO l s outs i) : outs.length ≤ i := by
  have := COuter.few h
  rwa [List.length_map] at this
set_option maxHeartbeats 4000000 in
theorem Cons28_sl {Φ : PW} [Stable Φ] (p : Option Addr) (cap : Nat) (l : List DeltaD) (hΦ : ∀ M w, Φ M w → Sl M w p l) (hc1 : l.length ≤ cap) (hc2 : cap ≤ maxLen) (hlen : l.length ≤ 1000000) (hrow : Rows1 l) : GivesSl Φ Tryz.prog F.errataref28_Consolidate #[.slice p l.length cap] (consP l) id := by
  refine gives_sl (Berrataref28_Consolidate_run p l.length cap) fun W R => ?_
  refine fun w G cx => (sorted_sl l.length p cap l hΦ (Nat.le_refl _) hc1 hc2 hlen hrow).use cx fun p1 c1 w g1 g2 cx => ?_
  have hperm := srt_perm l.length l
  have hasc := srt_asc l.length l (Nat.le_refl _)
  obtain ⟨s, hs⟩ : ∃ s, srt l.length l = s := ⟨_, rfl⟩
  rw [hs] at cx g1 hperm hasc ⊢
  have hsl := hperm.length_eq
  obtain ⟨g, o, cs, hp, cx⟩ := cx.pin cx.phi.2
  obtain ⟨PS, hPS⟩ : ∃ PS : PW, PS = (fun M w => (Φ M w ∧ Sl M w p1 s) ∧ Pin g o cs s M w) := ⟨_, rfl⟩
  have stP : Stable PS := by rw [hPS]; infer_instance
  have iP : ∀ M w, PS M w → Pin g o cs s M w := fun M w h => by rw [hPS] at h; exact h.2
  have i0 : ∀ M w, PS M w → Φ M w := fun M w h => by rw [hPS] at h; exact h.1.1
  rw [← hPS] at cx
  clear hPS hs
  have hcs := Ctx.cells cx iP
  have hrw : ∀ j, (hj : j < s.length) → s[j].row.length ≤ 1000000 := fun j hj => hrow _ (hperm.mem_iff.1 (List.getElem_mem hj))
  refine ⟨p1, _, c1, rfl, R, PS, stP, cx, ?_⟩
  clear cx
  refine exI_mk (fun op on oc iI R' Φ' m => ∃ (i : Nat) (outs : List DeltaD) (ds : List Value), CO l s outs i ∧ iI = i ∧ i ≤ s.length ∧ on = outs.length ∧ R' = .buf op on oc ds 71 3 :: R ∧ Φ' = (fun M w => PS M w ∧ Elems M w ds outs) ∧ m = s.length - i)
    ⟨⟨.buf none 0 0 [] 71 3 :: R, fun M w => PS M w ∧ Elems M w [] ([] : List DeltaD), _, inferInstance, fun w G cx => (cx.nobuf 71 3).weak fun M w h => ⟨h, Elems.nil⟩, 0, [], [], CO.start hperm, rfl, Nat.zero_le _, rfl, rfl, rfl, rfl⟩, ?_⟩
  rintro op on oc iI R1 Φ1 m _ ⟨i, outs, ds, hco, rfl, hi, rfl, rfl, rfl, rfl⟩
  have st2 : Stable (fun M w => PS M w ∧ Elems M w ds outs) := inferInstance
  refine Br.intro (fun hlt => ?_) (fun hge => fun w G cx => ?_)
  · have hlt : i < s.length := by have := of_decide_eq_true hlt; omega
    obtain ⟨q, qc, he, f1, f2, f3, f4⟩ := hcs i hlt
    obtain ⟨X, hX⟩ : ∃ X, s[i] = X := ⟨_, rfl⟩
    have hXr := hrw i hlt
    have hXd : X ∈ s.drop i := by rw [List.drop_eq_getElem_cons hlt, hX]; simp
    have rowX : ∀ {w : World} {S : List Own}, Ctx W w S (fun M w => PS M w ∧ Elems M w ds outs) → RowAt w g (o + (i : Int).toNat * 3) (X.cells q qc) := fun cx => by rw [Int.toNat_natCast, ← hX]; exact pin_rowAt (iP _ _ cx.phi.1) hlt he
    have slX : ∀ M w, PS M w → Sl M w q X.row := fun M w h => by rw [← hX]; exact pin_row (iP M w h) hlt he
    rw [hX] at f1 f3 f4 hXr
    refine exI_mk (fun n kI R' Φ' m => ∃ j : Nat, kI = ((i + j : Nat) : Int) ∧ i + j ≤ s.length ∧ n = findP ((s.drop i).take j) X.key ∧ (∀ y ∈ (s.drop i).take j, y.key = X.key) ∧ R' = .buf op outs.length oc ds 71 3 :: R ∧ Φ' = (fun M w => PS M w ∧ Elems M w ds outs) ∧ m = s.length - (i + j))
      ⟨⟨_, _, _, st2, fun w G cx => cx, 0, rfl, hi, rfl, (fun y hy => by rw [List.take_zero] at hy; cases hy), rfl, rfl, rfl⟩, ?_⟩
    rintro n kI R2 Φ2 m _ ⟨j, rfl, hj, hn, hkeys, rfl, rfl, rfl⟩
    refine ⟨_, _, st2, fun w G cx => cx, Br.intro (fun hlt2 => ?_) (fun hge2 => ?_)⟩
    case' refine_2 =>
      have hge2 := of_decide_eq_false hge2
      have hj1 : 1 ≤ j := by omega
      have hgt : ∀ y ∈ s.drop (i + j), cmpK X.key y.key < 0 := by
        rw [List.drop_eq_nil_of_le (by omega)]
        intro y hy; cases hy
    case' refine_1 =>
      have hij : i + j < s.length := by have := of_decide_eq_true hlt2; omega
      obtain ⟨q2, qc2, he2, e1, e2, _, _⟩ := hcs (i + j) hij
      have hmin : (min ((i + j : Nat) : Int) ((s.length : Int) - 1)).toNat = i + j := by omega
      have rowY : ∀ {w : World} {S : List Own}, Ctx W w S (fun M w => PS M w ∧ Elems M w ds outs) → RowAt w g (o + (i + j) * 3) (s[i + j].cells q2 qc2) := fun cx => pin_rowAt (iP _ _ cx.phi.1) hij he2
      refine ⟨by omega, ptrK_intro g o (hp (by omega)) ⟨X.time, q, X.row.length, qc, X.n, fun w G cx => ⟨_, _, _, _, _, rowX cx, rfl⟩, by unfold I64; omega, by omega, ptrK_intro g o (hp (by omega)) ⟨s[i + j].time, q2, s[i + j].row.length, qc2, s[i + j].n, fun w G cx => ⟨_, _, _, _, _, by rw [hmin]; exact rowY cx, rfl⟩, fun w G cx => (rCompareD_in X s[i + j] q q2 qc qc2 (fun M w h => slX M w h.1) (fun M w h => pin_row (iP M w h.1) hij he2) (by omega)).toI cx ?_⟩⟩⟩
      refine Br.intro (fun hc => ?_) (fun hc => ?_)
    case' refine_1.refine_1.refine_1 =>
      have hk : s[i + j].key = X.key := by
        have hc := of_decide_eq_true hc
        rw [cmpD_key] at hc
        exact ((cmpK_cmp.eq _ _).1 hc).symm
      have htk : (s.drop i).take (j + 1) = (s.drop i).take j ++ [s[i + j]] := by
        have hlt3 : j < (s.drop i).length := by rw [List.length_drop]; omega
        rw [List.take_succ_eq_append_getElem hlt3, List.getElem_drop]
      refine ⟨by omega, ptrK_intro g o (hp (by omega)) fun w G cx => ⟨s[i + j].n, ?_, by unfold I64; omega, _, _, s.length - (i + (j + 1)), st2, fun w G cx => cx, ⟨j + 1, by omega, by omega, ?_, ?_, rfl, rfl, rfl⟩, by omega⟩⟩
      · have := rowY cx 2 (by simp)
        rw [Int.toNat_natCast]; simpa using this
      · rw [htk, hn]
        exact (find_snoc hk).symm
      · rw [htk]
        intro y hy
        rcases List.mem_append.1 hy with hy | hy
        · exact hkeys y hy
        · rw [List.mem_singleton.1 hy]; exact hk
    case' refine_1.refine_1.refine_2 =>
      have hc := of_decide_eq_false hc
      rw [cmpD_key] at hc
      have hj1 : 1 ≤ j := by
        rcases Nat.eq_zero_or_pos j with h0 | h0
        · exfalso
          subst h0
          apply hc
          have : s[i + 0] = X := by rw [← hX]; rfl
          rw [this, cmpK_cmp.refl]
        · exact h0
      have hgt : ∀ y ∈ s.drop (i + j), cmpK X.key y.key < 0 := by
        have h1 : leD s[i] s[i + j] = true := List.pairwise_iff_getElem.1 hasc i (i + j) hlt hij (by omega)
        rw [hX] at h1
        have h1 : cmpK X.key s[i + j].key < 0 := by
          have h2 : cmpK X.key s[i + j].key ≤ 0 := by rw [← cmpD_key]; exact of_decide_eq_true h1
          omega
        intro y hy
        obtain ⟨r, hr, rfl⟩ := List.getElem_of_mem hy
        rw [List.length_drop] at hr
        rw [List.getElem_drop]
        rcases Nat.eq_zero_or_pos r with h0 | h0
        · subst h0
          exact h1
        · have h2 : leD s[i + j] s[i + j + r] = true := List.pairwise_iff_getElem.1 hasc (i + j) (i + j + r) hij (by omega) (by omega)
          have h2 : cmpK s[i + j].key s[i + j + r].key ≤ 0 := by rw [← cmpD_key]; exact of_decide_eq_true h2
          rcases Int.lt_or_eq_of_le h2 with h3 | h3
          · exact cmpK_cmp.trans _ _ _ h1 h3
          · rw [← (cmpK_cmp.eq _ _).1 h3]; exact h1
      clear hc
    all_goals
      obtain ⟨hz, hnz⟩ := hco.step hXd (by omega) hj1 hkeys hn hgt
      have hfew := hco.few
      refine Br.intro (fun h0 => ⟨by omega, ptrK_intro g o (hp (by omega)) fun w G cx => ⟨X.time, q, X.row.length, qc, X.n, rowX cx, fun w G cx => ?_⟩⟩) (fun h0 => ⟨_, _, s.length - (i + j), st2, fun w G cx => cx, ⟨i + j, outs, ds, hz (by have := of_decide_eq_false h0; omega), rfl, by omega, rfl, rfl, rfl, rfl⟩, by omega⟩)
      have hco2 := hnz (of_decide_eq_true h0)
      refine (Clone28_sl (Φ := fun M w => PS M w ∧ Elems M w ds outs) X q qc n (fun M w h => slX M w h.1) (by omega)).use cx fun p2 c2 w g3 g4 cx => ⟨X.time, p2, X.row.length, c2, n, rfl, .buf op outs.length oc ds 71 3 :: R, _, inferInstance, cx, fun kb w G cx => ?_⟩
      obtain ⟨p', c', w', hrun, cx'⟩ := push2 (x := ⟨X.time, X.row, n⟩) (q := p2) (qc := c2) (Ψ := fun M w => Sl M w p2 X.row) (fun M w _ h => rep_delta g3 g4 f3 (by rw [hn]; exact w64_in _) h) (by omega) cx
      exact ⟨p', _, c', w', hrun, _, _, inferInstance, cx', _, _, s.length - (i + j), inferInstance, fun w G cx => cx, ⟨i + j, _, _, hco2, rfl, by omega, rfl, rfl, rfl, rfl⟩, by omega⟩
  · have hge : i = s.length := by have := of_decide_eq_false hge; omega
    subst hge
    rw [hco.end]
    have cx := cx.left
    obtain ⟨cx3, hs, _, g5, g6⟩ := Ctx.freeze (α := DeltaD) cx.fst cx.phi.2
    exact ⟨op, oc, rfl, g5, g6, (cx3.add hs).weak fun M w h => ⟨i0 M w h.1, h.2⟩⟩
end Go.Proofs.YtemhapmbcbbljaaGreatDoor
end

