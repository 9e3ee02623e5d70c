/-
  One element is appended to a slice of an edge, or to an outbox, walked.
-/
import Derived.Test.YtmlnockcmdameaaCkC6

section
set_option linter.unusedVariables false
set_option linter.unusedSimpArgs false
namespace Go.Proofs.Ytmlnockcmdameaa
open Go.Vc


theorem dropAt {W w : World} {S : List Own} {Φ : PW} [Stable Φ] (n : Nat) (c : Ctx W w S Φ) : Ctx W w (S.eraseIdx n) Φ := c.sub (List.eraseIdx_sublist _ _)
theorem move_to {o : Own} {L : List Own} (n : Nat) : (o :: L).Perm (L.take n ++ o :: L.drop n) := by
  have := (List.perm_middle (a := o) (l₁ := L.take n) (l₂ := L.drop n)).symm
  rw [List.take_append_drop] at this
  exact this

theorem push_made {W : World} {R0 : List Own} {Φ : PW} [Stable Φ] {A : NA} {ea : Nat → EA} {ia : Nat → IA} {x : NtD} {b : Nat} (hb : A.mdp = some ⟨b, 0, none⟩) {k : Nat} (hk : k < x.ne) (z : Int) (hz : (x.eds k).made.length < 1000000) {REST : List Own → PW → Prop}
    (h : ∀ p c, REST (lay A (upd ea k { ea k with mp := p, mc := c }) ia (x.setMade k ((x.eds k).made ++ [z])) ++ R0) Φ) :
    ∃ (R25 : List Own), ∃ (Φ26 : PW), Stable Φ26 ∧ (∀ (w27 : World) (R28 : List Own), Ctx W w27 ((lay A ea ia x ++ R0) ++ R28) Φ → Ctx W w27 (R25 ++ R28) Φ26) ∧ ∃ (p29 : Option Addr), ∃ (k30 : Nat), ∃ (k31 : Nat), (∀ (w32 : World) (R33 : List Own), Ctx W w32 (R25 ++ R33) Φ26 → ∃ (p34 : Option Addr), ∃ (k35 : Nat), ∃ (k36 : Nat), w32.cell? (Addr.mk A.xb (0 + 5) none) = some (Value.slice p34 k35 k36) ∧ Value.slice p34 k35 k36 = Value.slice p29 k30 k31) ∧
      ∃ (p37 : Option Addr), ∃ (k38 : Nat), ∃ (k39 : Nat), (∀ (w40 : World) (R41 : List Own), Ctx W w40 (R25 ++ R41) Φ26 → ∃ (p42 : Option Addr), ∃ (k43 : Nat), ∃ (k44 : Nat), w40.cell? (Addr.mk A.xb (0 + 5) none) = some (Value.slice p42 k43 k44) ∧ Value.slice p42 k43 k44 = Value.slice p37 k38 k39) ∧ (0 ≤ ((k : Nat) : Int) ∧ ((k : Nat) : Int) < (↑k38 : Int)) ∧
      ptrK none p37 fun (k45 k46 : Nat) => ∃ (p47 : Option Addr), ∃ (k48 : Nat), ∃ (k49 : Nat), (∀ (w50 : World) (R51 : List Own), Ctx W w50 (R25 ++ R51) Φ26 → ∃ (p52 : Option Addr), ∃ (k53 : Nat), ∃ (k54 : Nat), w50.cell? (Addr.mk k45 (k46 + ((k : Nat) : Int).toNat) none) = some (Value.slice p52 k53 k54) ∧ Value.slice p52 k53 k54 = Value.slice p47 k48 k49) ∧
      ∀ (k55 : Nat), (∀ (w56 : World) (R57 : List Own), Ctx W w56 (Own.blk k55 [.int .i64 z] 3 :: (lay A ea ia x ++ R0) ++ R57) Φ → Ctx W w56 (R25 ++ R57) Φ26) ∧ ∀ (w58 : World) (R59 : List Own), Ctx W w58 (Own.blk k55 [.int .i64 z] 3 :: (lay A ea ia x ++ R0) ++ R59) Φ →
      ∃ (p60 : Option Addr), ∃ (k61 : Nat), ∃ (k62 : Nat), ∃ (w63 : World), Sem.run Try.prog (builtin Builtin.append #[58, 58] 58 #[false, false] #[Value.slice p47 k48 k49, Value.slice (some (Addr.mk k55 0 none)) 1 1]) w58 = Result.ok (Next.value (Value.slice p60 k61 k62)) w63 ∧
      ∃ (R64 : List Own), ∃ (Φ65 : PW), Stable Φ65 ∧ Ctx W w63 (R64 ++ R59) Φ65 ∧ (∀ (w66 : World) (R67 : List Own), Ctx W w66 (R64 ++ R67) Φ65 → Ctx W w66 (R25 ++ R67) Φ26) ∧ (0 ≤ ((k : Nat) : Int) ∧ ((k : Nat) : Int) < (↑k30 : Int)) ∧
      ptrK none p29 fun (k68 k69 : Nat) => ∀ (w70 : World) (R71 : List Own), Ctx W w70 (R64 ++ R71) Φ65 → CanWrite w70 k68 (k69 + ((k : Nat) : Int).toNat) 1 ∧ ∀ (w72 : World), w72 = w70.setCell (Addr.mk k68 (k69 + ((k : Nat) : Int).toNat) none) (Value.slice p60 k61 k62) →
      ∃ (R73 : List Own), ∃ (Φ74 : PW), Stable Φ74 ∧ Ctx W w72 (R73 ++ R71) Φ74 ∧ REST R73 Φ74 := by
  have sub0 : [Own.blk A.xb (netC A x) 40, arr A.mdp A.mdc x.ne 58 (gMd ea x)].Sublist (hd A ea ia x) := .cons_cons _ (.cons _ (.cons _ (.cons _ (.cons _ (.cons_cons _ (List.nil_sublist _))))))
  have get0 : ∀ (w : World) (R : List Own), Ctx W w ([Own.blk A.xb (netC A x) 40, arr A.mdp A.mdc x.ne 58 (gMd ea x)] ++ R) tru → ∃ (p34 : Option Addr), ∃ (k35 : Nat), ∃ (k36 : Nat), w.cell? (Addr.mk A.xb (0 + 5) none) = some (Value.slice p34 k35 k36) ∧ Value.slice p34 k35 k36 = Value.slice A.mdp x.ne A.mdc := fun w R cx => ⟨_, _, _, cx.get 0 rfl rfl, rfl⟩
  refine ⟨[.blk A.xb (netC A x) 40, arr A.mdp A.mdc x.ne 58 (gMd ea x)], tru, inferInstance, fun w F cx => cut_to cx (by unfold lay; rw [List.append_assoc]; exact sub0.trans (List.sublist_append_left _ _)), _, _, _, get0, _, _, _, get0, ⟨Int.natCast_nonneg _, Int.ofNat_lt.2 hk⟩, ptrK_intro b 0 hb ⟨_, _, _, fun w F cx => ⟨_, _, _, cx.arrGet 1 rfl hb hk, rfl⟩, fun kb => ⟨fun w F cx => cut_to cx (List.Sublist.cons _ (by unfold lay; rw [List.append_assoc]; exact sub0.trans (List.sublist_append_left _ _))), fun w F cx => ?_⟩⟩⟩
  have c1 : Ctx W w (.blk kb [.int .i64 z] 3 :: ((hd A ea ia x ++ (edK (ea k) (x.eds k) ++ (restE ea ia x k ++ R0))) ++ F)) Φ := cx.perm (List.Perm.cons _ ((focE hk R0).append_right F))
  obtain ⟨p', cap', w', hr, c2⟩ := c1.app1At (ts := 58) (ty := 58) (kb := #[false, false]) (bytes := 8) 10 rfl (by kernel_rfl) (by decide) rfl rfl (by omega) (by decide)
  refine ⟨p', _, cap', w', hr, hd A ea ia x ++ ([chB (ea k).ch, intR p' cap' ((x.eds k).made ++ [z]), intR (ea k).bp (ea k).bc (x.eds k).boxed, intR (ea k).hp (ea k).hc (x.eds k).handled, intR (ea k).fp (ea k).fc (x.eds k).flying] ++ (restE ea ia x k ++ R0)), Φ, inferInstance, ?_, fun w F cx => cut_to cx (sub0.trans (List.sublist_append_left _ _)), ⟨Int.natCast_nonneg _, Int.ofNat_lt.2 hk⟩, ptrK_intro b 0 hb fun w F cx => ?_⟩
  · have e1 : (x.eds k).made.map intv ++ [.int .i64 z] = ((x.eds k).made ++ [z]).map intv := by rw [List.map_append]; rfl
    have e2 : (x.eds k).made.length + 1 = ((x.eds k).made ++ [z]).length := by rw [List.length_append]; rfl
    rw [e1, e2] at c2
    exact c2
  · obtain ⟨h1, h2⟩ := cx.arrPut 5 rfl hb hk (.slice p' ((x.eds k).made ++ [z]).length cap')
    refine ⟨h1, fun w' hw' => ⟨lay A (upd ea k { ea k with mp := p', mc := cap' }) ia (x.setMade k ((x.eds k).made ++ [z])) ++ R0, Φ, inferInstance, ?_, h p' cap'⟩⟩
    have e2 : (x.eds k).made.length + 1 = ((x.eds k).made ++ [z]).length := by rw [List.length_append]; rfl
    have c3 := h2 w' (by rw [hw', e2])
    refine Ctx.outE (e := { ea k with mp := p', mc := cap' }) (d := { x.eds k with made := (x.eds k).made ++ [z] }) hk ?_
    rw [hdE]
    simp only [upd_gCh, upd_gMd, upd_gBd, upd_gHd, upd_gFy]
    exact c3

theorem clr_made {W w : World} {R0 F : List Own} {Φ : PW} [Stable Φ] {A : NA} {ea : Nat → EA} {ia : Nat → IA} {x : NtD} {b : Nat} (hb : A.mdp = some ⟨b, 0, none⟩) {k : Nat} (hk : k < x.ne) (cx : Ctx W w ((lay A ea ia x ++ R0) ++ F) Φ) :
    CanWrite w b (0 + ((k : Nat) : Int).toNat) 1 ∧ ∀ w', w' = w.setCell (Addr.mk b (0 + ((k : Nat) : Int).toNat) none) (.slice none 0 0) → Ctx W w' ((lay A (upd ea k { ea k with mp := none, mc := 0 }) ia (x.setMade k []) ++ R0) ++ F) Φ := by
  obtain ⟨h1, h2⟩ := (cx.inE hk).arrPut 5 rfl hb hk (.slice none 0 0)
  refine ⟨h1, fun w' hw' => ?_⟩
  have c2 := (h2 w' hw').nobuf 3 1
  have c3 := (dropAt (10 + 1) c2).perm (move_to 10)
  refine Ctx.outE (e := { ea k with mp := none, mc := 0 }) (d := { x.eds k with made := [] }) hk ?_
  rw [hdE]
  simp only [upd_gCh, upd_gMd, upd_gBd, upd_gHd, upd_gFy]
  exact c3

theorem push_boxed {W : World} {R0 : List Own} {Φ : PW} [Stable Φ] {A : NA} {ea : Nat → EA} {ia : Nat → IA} {x : NtD} {b : Nat} (hb : A.bdp = some ⟨b, 0, none⟩) {k : Nat} (hk : k < x.ne) (z : Int) (hz : (x.eds k).boxed.length < 1000000) {REST : List Own → PW → Prop}
    (h : ∀ p c, REST (lay A (upd ea k { ea k with bp := p, bc := c }) ia (x.setBoxed k ((x.eds k).boxed ++ [z])) ++ R0) Φ) :
    ∃ (R25 : List Own), ∃ (Φ26 : PW), Stable Φ26 ∧ (∀ (w27 : World) (R28 : List Own), Ctx W w27 ((lay A ea ia x ++ R0) ++ R28) Φ → Ctx W w27 (R25 ++ R28) Φ26) ∧ ∃ (p29 : Option Addr), ∃ (k30 : Nat), ∃ (k31 : Nat), (∀ (w32 : World) (R33 : List Own), Ctx W w32 (R25 ++ R33) Φ26 → ∃ (p34 : Option Addr), ∃ (k35 : Nat), ∃ (k36 : Nat), w32.cell? (Addr.mk A.xb (0 + 6) none) = some (Value.slice p34 k35 k36) ∧ Value.slice p34 k35 k36 = Value.slice p29 k30 k31) ∧
      ∃ (p37 : Option Addr), ∃ (k38 : Nat), ∃ (k39 : Nat), (∀ (w40 : World) (R41 : List Own), Ctx W w40 (R25 ++ R41) Φ26 → ∃ (p42 : Option Addr), ∃ (k43 : Nat), ∃ (k44 : Nat), w40.cell? (Addr.mk A.xb (0 + 6) none) = some (Value.slice p42 k43 k44) ∧ Value.slice p42 k43 k44 = Value.slice p37 k38 k39) ∧ (0 ≤ ((k : Nat) : Int) ∧ ((k : Nat) : Int) < (↑k38 : Int)) ∧
      ptrK none p37 fun (k45 k46 : Nat) => ∃ (p47 : Option Addr), ∃ (k48 : Nat), ∃ (k49 : Nat), (∀ (w50 : World) (R51 : List Own), Ctx W w50 (R25 ++ R51) Φ26 → ∃ (p52 : Option Addr), ∃ (k53 : Nat), ∃ (k54 : Nat), w50.cell? (Addr.mk k45 (k46 + ((k : Nat) : Int).toNat) none) = some (Value.slice p52 k53 k54) ∧ Value.slice p52 k53 k54 = Value.slice p47 k48 k49) ∧
      ∀ (k55 : Nat), (∀ (w56 : World) (R57 : List Own), Ctx W w56 (Own.blk k55 [.int .i64 z] 3 :: (lay A ea ia x ++ R0) ++ R57) Φ → Ctx W w56 (R25 ++ R57) Φ26) ∧ ∀ (w58 : World) (R59 : List Own), Ctx W w58 (Own.blk k55 [.int .i64 z] 3 :: (lay A ea ia x ++ R0) ++ R59) Φ →
      ∃ (p60 : Option Addr), ∃ (k61 : Nat), ∃ (k62 : Nat), ∃ (w63 : World), Sem.run Try.prog (builtin Builtin.append #[58, 58] 58 #[false, false] #[Value.slice p47 k48 k49, Value.slice (some (Addr.mk k55 0 none)) 1 1]) w58 = Result.ok (Next.value (Value.slice p60 k61 k62)) w63 ∧
      ∃ (R64 : List Own), ∃ (Φ65 : PW), Stable Φ65 ∧ Ctx W w63 (R64 ++ R59) Φ65 ∧ (∀ (w66 : World) (R67 : List Own), Ctx W w66 (R64 ++ R67) Φ65 → Ctx W w66 (R25 ++ R67) Φ26) ∧ (0 ≤ ((k : Nat) : Int) ∧ ((k : Nat) : Int) < (↑k30 : Int)) ∧
      ptrK none p29 fun (k68 k69 : Nat) => ∀ (w70 : World) (R71 : List Own), Ctx W w70 (R64 ++ R71) Φ65 → CanWrite w70 k68 (k69 + ((k : Nat) : Int).toNat) 1 ∧ ∀ (w72 : World), w72 = w70.setCell (Addr.mk k68 (k69 + ((k : Nat) : Int).toNat) none) (Value.slice p60 k61 k62) →
      ∃ (R73 : List Own), ∃ (Φ74 : PW), Stable Φ74 ∧ Ctx W w72 (R73 ++ R71) Φ74 ∧ REST R73 Φ74 := by
  have sub0 : [Own.blk A.xb (netC A x) 40, arr A.bdp A.bdc x.ne 58 (gBd ea x)].Sublist (hd A ea ia x) := .cons_cons _ (.cons _ (.cons _ (.cons _ (.cons _ (.cons _ (.cons_cons _ (List.nil_sublist _)))))))
  have get0 : ∀ (w : World) (R : List Own), Ctx W w ([Own.blk A.xb (netC A x) 40, arr A.bdp A.bdc x.ne 58 (gBd ea x)] ++ R) tru → ∃ (p34 : Option Addr), ∃ (k35 : Nat), ∃ (k36 : Nat), w.cell? (Addr.mk A.xb (0 + 6) none) = some (Value.slice p34 k35 k36) ∧ Value.slice p34 k35 k36 = Value.slice A.bdp x.ne A.bdc := fun w R cx => ⟨_, _, _, cx.get 0 rfl rfl, rfl⟩
  refine ⟨[.blk A.xb (netC A x) 40, arr A.bdp A.bdc x.ne 58 (gBd ea x)], tru, inferInstance, fun w F cx => cut_to cx (by unfold lay; rw [List.append_assoc]; exact sub0.trans (List.sublist_append_left _ _)), _, _, _, get0, _, _, _, get0, ⟨Int.natCast_nonneg _, Int.ofNat_lt.2 hk⟩, ptrK_intro b 0 hb ⟨_, _, _, fun w F cx => ⟨_, _, _, cx.arrGet 1 rfl hb hk, rfl⟩, fun kb => ⟨fun w F cx => cut_to cx (List.Sublist.cons _ (by unfold lay; rw [List.append_assoc]; exact sub0.trans (List.sublist_append_left _ _))), fun w F cx => ?_⟩⟩⟩
  have c1 : Ctx W w (.blk kb [.int .i64 z] 3 :: ((hd A ea ia x ++ (edK (ea k) (x.eds k) ++ (restE ea ia x k ++ R0))) ++ F)) Φ := cx.perm (List.Perm.cons _ ((focE hk R0).append_right F))
  obtain ⟨p', cap', w', hr, c2⟩ := c1.app1At (ts := 58) (ty := 58) (kb := #[false, false]) (bytes := 8) 11 rfl (by kernel_rfl) (by decide) rfl rfl (by omega) (by decide)
  refine ⟨p', _, cap', w', hr, hd A ea ia x ++ ([chB (ea k).ch, intR (ea k).mp (ea k).mc (x.eds k).made, intR p' cap' ((x.eds k).boxed ++ [z]), intR (ea k).hp (ea k).hc (x.eds k).handled, intR (ea k).fp (ea k).fc (x.eds k).flying] ++ (restE ea ia x k ++ R0)), Φ, inferInstance, ?_, fun w F cx => cut_to cx (sub0.trans (List.sublist_append_left _ _)), ⟨Int.natCast_nonneg _, Int.ofNat_lt.2 hk⟩, ptrK_intro b 0 hb fun w F cx => ?_⟩
  · have e1 : (x.eds k).boxed.map intv ++ [.int .i64 z] = ((x.eds k).boxed ++ [z]).map intv := by rw [List.map_append]; rfl
    have e2 : (x.eds k).boxed.length + 1 = ((x.eds k).boxed ++ [z]).length := by rw [List.length_append]; rfl
    rw [e1, e2] at c2
    exact c2
  · obtain ⟨h1, h2⟩ := cx.arrPut 6 rfl hb hk (.slice p' ((x.eds k).boxed ++ [z]).length cap')
    refine ⟨h1, fun w' hw' => ⟨lay A (upd ea k { ea k with bp := p', bc := cap' }) ia (x.setBoxed k ((x.eds k).boxed ++ [z])) ++ R0, Φ, inferInstance, ?_, h p' cap'⟩⟩
    have e2 : (x.eds k).boxed.length + 1 = ((x.eds k).boxed ++ [z]).length := by rw [List.length_append]; rfl
    have c3 := h2 w' (by rw [hw', e2])
    refine Ctx.outE (e := { ea k with bp := p', bc := cap' }) (d := { x.eds k with boxed := (x.eds k).boxed ++ [z] }) hk ?_
    rw [hdE]
    simp only [upd_gCh, upd_gMd, upd_gBd, upd_gHd, upd_gFy]
    exact c3

theorem clr_boxed {W w : World} {R0 F : List Own} {Φ : PW} [Stable Φ] {A : NA} {ea : Nat → EA} {ia : Nat → IA} {x : NtD} {b : Nat} (hb : A.bdp = some ⟨b, 0, none⟩) {k : Nat} (hk : k < x.ne) (cx : Ctx W w ((lay A ea ia x ++ R0) ++ F) Φ) :
    CanWrite w b (0 + ((k : Nat) : Int).toNat) 1 ∧ ∀ w', w' = w.setCell (Addr.mk b (0 + ((k : Nat) : Int).toNat) none) (.slice none 0 0) → Ctx W w' ((lay A (upd ea k { ea k with bp := none, bc := 0 }) ia (x.setBoxed k []) ++ R0) ++ F) Φ := by
  obtain ⟨h1, h2⟩ := (cx.inE hk).arrPut 6 rfl hb hk (.slice none 0 0)
  refine ⟨h1, fun w' hw' => ?_⟩
  have c2 := (h2 w' hw').nobuf 3 1
  have c3 := (dropAt (11 + 1) c2).perm (move_to 11)
  refine Ctx.outE (e := { ea k with bp := none, bc := 0 }) (d := { x.eds k with boxed := [] }) hk ?_
  rw [hdE]
  simp only [upd_gCh, upd_gMd, upd_gBd, upd_gHd, upd_gFy]
  exact c3

theorem push_handled {W : World} {R0 : List Own} {Φ : PW} [Stable Φ] {A : NA} {ea : Nat → EA} {ia : Nat → IA} {x : NtD} {b : Nat} (hb : A.hdp = some ⟨b, 0, none⟩) {k : Nat} (hk : k < x.ne) (z : Int) (hz : (x.eds k).handled.length < 1000000) {REST : List Own → PW → Prop}
    (h : ∀ p c, REST (lay A (upd ea k { ea k with hp := p, hc := c }) ia (x.setHandled k ((x.eds k).handled ++ [z])) ++ R0) Φ) :
    ∃ (R25 : List Own), ∃ (Φ26 : PW), Stable Φ26 ∧ (∀ (w27 : World) (R28 : List Own), Ctx W w27 ((lay A ea ia x ++ R0) ++ R28) Φ → Ctx W w27 (R25 ++ R28) Φ26) ∧ ∃ (p29 : Option Addr), ∃ (k30 : Nat), ∃ (k31 : Nat), (∀ (w32 : World) (R33 : List Own), Ctx W w32 (R25 ++ R33) Φ26 → ∃ (p34 : Option Addr), ∃ (k35 : Nat), ∃ (k36 : Nat), w32.cell? (Addr.mk A.xb (0 + 7) none) = some (Value.slice p34 k35 k36) ∧ Value.slice p34 k35 k36 = Value.slice p29 k30 k31) ∧
      ∃ (p37 : Option Addr), ∃ (k38 : Nat), ∃ (k39 : Nat), (∀ (w40 : World) (R41 : List Own), Ctx W w40 (R25 ++ R41) Φ26 → ∃ (p42 : Option Addr), ∃ (k43 : Nat), ∃ (k44 : Nat), w40.cell? (Addr.mk A.xb (0 + 7) none) = some (Value.slice p42 k43 k44) ∧ Value.slice p42 k43 k44 = Value.slice p37 k38 k39) ∧ (0 ≤ ((k : Nat) : Int) ∧ ((k : Nat) : Int) < (↑k38 : Int)) ∧
      ptrK none p37 fun (k45 k46 : Nat) => ∃ (p47 : Option Addr), ∃ (k48 : Nat), ∃ (k49 : Nat), (∀ (w50 : World) (R51 : List Own), Ctx W w50 (R25 ++ R51) Φ26 → ∃ (p52 : Option Addr), ∃ (k53 : Nat), ∃ (k54 : Nat), w50.cell? (Addr.mk k45 (k46 + ((k : Nat) : Int).toNat) none) = some (Value.slice p52 k53 k54) ∧ Value.slice p52 k53 k54 = Value.slice p47 k48 k49) ∧
      ∀ (k55 : Nat), (∀ (w56 : World) (R57 : List Own), Ctx W w56 (Own.blk k55 [.int .i64 z] 3 :: (lay A ea ia x ++ R0) ++ R57) Φ → Ctx W w56 (R25 ++ R57) Φ26) ∧ ∀ (w58 : World) (R59 : List Own), Ctx W w58 (Own.blk k55 [.int .i64 z] 3 :: (lay A ea ia x ++ R0) ++ R59) Φ →
      ∃ (p60 : Option Addr), ∃ (k61 : Nat), ∃ (k62 : Nat), ∃ (w63 : World), Sem.run Try.prog (builtin Builtin.append #[58, 58] 58 #[false, false] #[Value.slice p47 k48 k49, Value.slice (some (Addr.mk k55 0 none)) 1 1]) w58 = Result.ok (Next.value (Value.slice p60 k61 k62)) w63 ∧
      ∃ (R64 : List Own), ∃ (Φ65 : PW), Stable Φ65 ∧ Ctx W w63 (R64 ++ R59) Φ65 ∧ (∀ (w66 : World) (R67 : List Own), Ctx W w66 (R64 ++ R67) Φ65 → Ctx W w66 (R25 ++ R67) Φ26) ∧ (0 ≤ ((k : Nat) : Int) ∧ ((k : Nat) : Int) < (↑k30 : Int)) ∧
      ptrK none p29 fun (k68 k69 : Nat) => ∀ (w70 : World) (R71 : List Own), Ctx W w70 (R64 ++ R71) Φ65 → CanWrite w70 k68 (k69 + ((k : Nat) : Int).toNat) 1 ∧ ∀ (w72 : World), w72 = w70.setCell (Addr.mk k68 (k69 + ((k : Nat) : Int).toNat) none) (Value.slice p60 k61 k62) →
      ∃ (R73 : List Own), ∃ (Φ74 : PW), Stable Φ74 ∧ Ctx W w72 (R73 ++ R71) Φ74 ∧ REST R73 Φ74 := by
  have sub0 : [Own.blk A.xb (netC A x) 40, arr A.hdp A.hdc x.ne 58 (gHd ea x)].Sublist (hd A ea ia x) := .cons_cons _ (.cons _ (.cons _ (.cons _ (.cons _ (.cons _ (.cons _ (.cons_cons _ (List.nil_sublist _))))))))
  have get0 : ∀ (w : World) (R : List Own), Ctx W w ([Own.blk A.xb (netC A x) 40, arr A.hdp A.hdc x.ne 58 (gHd ea x)] ++ R) tru → ∃ (p34 : Option Addr), ∃ (k35 : Nat), ∃ (k36 : Nat), w.cell? (Addr.mk A.xb (0 + 7) none) = some (Value.slice p34 k35 k36) ∧ Value.slice p34 k35 k36 = Value.slice A.hdp x.ne A.hdc := fun w R cx => ⟨_, _, _, cx.get 0 rfl rfl, rfl⟩
  refine ⟨[.blk A.xb (netC A x) 40, arr A.hdp A.hdc x.ne 58 (gHd ea x)], tru, inferInstance, fun w F cx => cut_to cx (by unfold lay; rw [List.append_assoc]; exact sub0.trans (List.sublist_append_left _ _)), _, _, _, get0, _, _, _, get0, ⟨Int.natCast_nonneg _, Int.ofNat_lt.2 hk⟩, ptrK_intro b 0 hb ⟨_, _, _, fun w F cx => ⟨_, _, _, cx.arrGet 1 rfl hb hk, rfl⟩, fun kb => ⟨fun w F cx => cut_to cx (List.Sublist.cons _ (by unfold lay; rw [List.append_assoc]; exact sub0.trans (List.sublist_append_left _ _))), fun w F cx => ?_⟩⟩⟩
  have c1 : Ctx W w (.blk kb [.int .i64 z] 3 :: ((hd A ea ia x ++ (edK (ea k) (x.eds k) ++ (restE ea ia x k ++ R0))) ++ F)) Φ := cx.perm (List.Perm.cons _ ((focE hk R0).append_right F))
  obtain ⟨p', cap', w', hr, c2⟩ := c1.app1At (ts := 58) (ty := 58) (kb := #[false, false]) (bytes := 8) 12 rfl (by kernel_rfl) (by decide) rfl rfl (by omega) (by decide)
  refine ⟨p', _, cap', w', hr, hd A ea ia x ++ ([chB (ea k).ch, intR (ea k).mp (ea k).mc (x.eds k).made, intR (ea k).bp (ea k).bc (x.eds k).boxed, intR p' cap' ((x.eds k).handled ++ [z]), intR (ea k).fp (ea k).fc (x.eds k).flying] ++ (restE ea ia x k ++ R0)), Φ, inferInstance, ?_, fun w F cx => cut_to cx (sub0.trans (List.sublist_append_left _ _)), ⟨Int.natCast_nonneg _, Int.ofNat_lt.2 hk⟩, ptrK_intro b 0 hb fun w F cx => ?_⟩
  · have e1 : (x.eds k).handled.map intv ++ [.int .i64 z] = ((x.eds k).handled ++ [z]).map intv := by rw [List.map_append]; rfl
    have e2 : (x.eds k).handled.length + 1 = ((x.eds k).handled ++ [z]).length := by rw [List.length_append]; rfl
    rw [e1, e2] at c2
    exact c2
  · obtain ⟨h1, h2⟩ := cx.arrPut 7 rfl hb hk (.slice p' ((x.eds k).handled ++ [z]).length cap')
    refine ⟨h1, fun w' hw' => ⟨lay A (upd ea k { ea k with hp := p', hc := cap' }) ia (x.setHandled k ((x.eds k).handled ++ [z])) ++ R0, Φ, inferInstance, ?_, h p' cap'⟩⟩
    have e2 : (x.eds k).handled.length + 1 = ((x.eds k).handled ++ [z]).length := by rw [List.length_append]; rfl
    have c3 := h2 w' (by rw [hw', e2])
    refine Ctx.outE (e := { ea k with hp := p', hc := cap' }) (d := { x.eds k with handled := (x.eds k).handled ++ [z] }) hk ?_
    rw [hdE]
    simp only [upd_gCh, upd_gMd, upd_gBd, upd_gHd, upd_gFy]
    exact c3

theorem clr_handled {W w : World} {R0 F : List Own} {Φ : PW} [Stable Φ] {A : NA} {ea : Nat → EA} {ia : Nat → IA} {x : NtD} {b : Nat} (hb : A.hdp = some ⟨b, 0, none⟩) {k : Nat} (hk : k < x.ne) (cx : Ctx W w ((lay A ea ia x ++ R0) ++ F) Φ) :
    CanWrite w b (0 + ((k : Nat) : Int).toNat) 1 ∧ ∀ w', w' = w.setCell (Addr.mk b (0 + ((k : Nat) : Int).toNat) none) (.slice none 0 0) → Ctx W w' ((lay A (upd ea k { ea k with hp := none, hc := 0 }) ia (x.setHandled k []) ++ R0) ++ F) Φ := by
  obtain ⟨h1, h2⟩ := (cx.inE hk).arrPut 7 rfl hb hk (.slice none 0 0)
  refine ⟨h1, fun w' hw' => ?_⟩
  have c2 := (h2 w' hw').nobuf 3 1
  have c3 := (dropAt (12 + 1) c2).perm (move_to 12)
  refine Ctx.outE (e := { ea k with hp := none, hc := 0 }) (d := { x.eds k with handled := [] }) hk ?_
  rw [hdE]
  simp only [upd_gCh, upd_gMd, upd_gBd, upd_gHd, upd_gFy]
  exact c3

theorem push_flying {W : World} {R0 : List Own} {Φ : PW} [Stable Φ] {A : NA} {ea : Nat → EA} {ia : Nat → IA} {x : NtD} {b : Nat} (hb : A.fyp = some ⟨b, 0, none⟩) {k : Nat} (hk : k < x.ne) (z : Int) (hz : (x.eds k).flying.length < 1000000) {REST : List Own → PW → Prop}
    (h : ∀ p c, REST (lay A (upd ea k { ea k with fp := p, fc := c }) ia (x.setFlying k ((x.eds k).flying ++ [z])) ++ R0) Φ) :
    ∃ (R25 : List Own), ∃ (Φ26 : PW), Stable Φ26 ∧ (∀ (w27 : World) (R28 : List Own), Ctx W w27 ((lay A ea ia x ++ R0) ++ R28) Φ → Ctx W w27 (R25 ++ R28) Φ26) ∧ ∃ (p29 : Option Addr), ∃ (k30 : Nat), ∃ (k31 : Nat), (∀ (w32 : World) (R33 : List Own), Ctx W w32 (R25 ++ R33) Φ26 → ∃ (p34 : Option Addr), ∃ (k35 : Nat), ∃ (k36 : Nat), w32.cell? (Addr.mk A.xb (0 + 8) none) = some (Value.slice p34 k35 k36) ∧ Value.slice p34 k35 k36 = Value.slice p29 k30 k31) ∧
      ∃ (p37 : Option Addr), ∃ (k38 : Nat), ∃ (k39 : Nat), (∀ (w40 : World) (R41 : List Own), Ctx W w40 (R25 ++ R41) Φ26 → ∃ (p42 : Option Addr), ∃ (k43 : Nat), ∃ (k44 : Nat), w40.cell? (Addr.mk A.xb (0 + 8) none) = some (Value.slice p42 k43 k44) ∧ Value.slice p42 k43 k44 = Value.slice p37 k38 k39) ∧ (0 ≤ ((k : Nat) : Int) ∧ ((k : Nat) : Int) < (↑k38 : Int)) ∧
      ptrK none p37 fun (k45 k46 : Nat) => ∃ (p47 : Option Addr), ∃ (k48 : Nat), ∃ (k49 : Nat), (∀ (w50 : World) (R51 : List Own), Ctx W w50 (R25 ++ R51) Φ26 → ∃ (p52 : Option Addr), ∃ (k53 : Nat), ∃ (k54 : Nat), w50.cell? (Addr.mk k45 (k46 + ((k : Nat) : Int).toNat) none) = some (Value.slice p52 k53 k54) ∧ Value.slice p52 k53 k54 = Value.slice p47 k48 k49) ∧
      ∀ (k55 : Nat), (∀ (w56 : World) (R57 : List Own), Ctx W w56 (Own.blk k55 [.int .i64 z] 3 :: (lay A ea ia x ++ R0) ++ R57) Φ → Ctx W w56 (R25 ++ R57) Φ26) ∧ ∀ (w58 : World) (R59 : List Own), Ctx W w58 (Own.blk k55 [.int .i64 z] 3 :: (lay A ea ia x ++ R0) ++ R59) Φ →
      ∃ (p60 : Option Addr), ∃ (k61 : Nat), ∃ (k62 : Nat), ∃ (w63 : World), Sem.run Try.prog (builtin Builtin.append #[58, 58] 58 #[false, false] #[Value.slice p47 k48 k49, Value.slice (some (Addr.mk k55 0 none)) 1 1]) w58 = Result.ok (Next.value (Value.slice p60 k61 k62)) w63 ∧
      ∃ (R64 : List Own), ∃ (Φ65 : PW), Stable Φ65 ∧ Ctx W w63 (R64 ++ R59) Φ65 ∧ (∀ (w66 : World) (R67 : List Own), Ctx W w66 (R64 ++ R67) Φ65 → Ctx W w66 (R25 ++ R67) Φ26) ∧ (0 ≤ ((k : Nat) : Int) ∧ ((k : Nat) : Int) < (↑k30 : Int)) ∧
      ptrK none p29 fun (k68 k69 : Nat) => ∀ (w70 : World) (R71 : List Own), Ctx W w70 (R64 ++ R71) Φ65 → CanWrite w70 k68 (k69 + ((k : Nat) : Int).toNat) 1 ∧ ∀ (w72 : World), w72 = w70.setCell (Addr.mk k68 (k69 + ((k : Nat) : Int).toNat) none) (Value.slice p60 k61 k62) →
      ∃ (R73 : List Own), ∃ (Φ74 : PW), Stable Φ74 ∧ Ctx W w72 (R73 ++ R71) Φ74 ∧ REST R73 Φ74 := by
  have sub0 : [Own.blk A.xb (netC A x) 40, arr A.fyp A.fyc x.ne 58 (gFy ea x)].Sublist (hd A ea ia x) := .cons_cons _ (.cons _ (.cons _ (.cons _ (.cons _ (.cons _ (.cons _ (.cons _ (.cons_cons _ (List.nil_sublist _)))))))))
  have get0 : ∀ (w : World) (R : List Own), Ctx W w ([Own.blk A.xb (netC A x) 40, arr A.fyp A.fyc x.ne 58 (gFy ea x)] ++ R) tru → ∃ (p34 : Option Addr), ∃ (k35 : Nat), ∃ (k36 : Nat), w.cell? (Addr.mk A.xb (0 + 8) none) = some (Value.slice p34 k35 k36) ∧ Value.slice p34 k35 k36 = Value.slice A.fyp x.ne A.fyc := fun w R cx => ⟨_, _, _, cx.get 0 rfl rfl, rfl⟩
  refine ⟨[.blk A.xb (netC A x) 40, arr A.fyp A.fyc x.ne 58 (gFy ea x)], tru, inferInstance, fun w F cx => cut_to cx (by unfold lay; rw [List.append_assoc]; exact sub0.trans (List.sublist_append_left _ _)), _, _, _, get0, _, _, _, get0, ⟨Int.natCast_nonneg _, Int.ofNat_lt.2 hk⟩, ptrK_intro b 0 hb ⟨_, _, _, fun w F cx => ⟨_, _, _, cx.arrGet 1 rfl hb hk, rfl⟩, fun kb => ⟨fun w F cx => cut_to cx (List.Sublist.cons _ (by unfold lay; rw [List.append_assoc]; exact sub0.trans (List.sublist_append_left _ _))), fun w F cx => ?_⟩⟩⟩
  have c1 : Ctx W w (.blk kb [.int .i64 z] 3 :: ((hd A ea ia x ++ (edK (ea k) (x.eds k) ++ (restE ea ia x k ++ R0))) ++ F)) Φ := cx.perm (List.Perm.cons _ ((focE hk R0).append_right F))
  obtain ⟨p', cap', w', hr, c2⟩ := c1.app1At (ts := 58) (ty := 58) (kb := #[false, false]) (bytes := 8) 13 rfl (by kernel_rfl) (by decide) rfl rfl (by omega) (by decide)
  refine ⟨p', _, cap', w', hr, hd A ea ia x ++ ([chB (ea k).ch, intR (ea k).mp (ea k).mc (x.eds k).made, intR (ea k).bp (ea k).bc (x.eds k).boxed, intR (ea k).hp (ea k).hc (x.eds k).handled, intR p' cap' ((x.eds k).flying ++ [z])] ++ (restE ea ia x k ++ R0)), Φ, inferInstance, ?_, fun w F cx => cut_to cx (sub0.trans (List.sublist_append_left _ _)), ⟨Int.natCast_nonneg _, Int.ofNat_lt.2 hk⟩, ptrK_intro b 0 hb fun w F cx => ?_⟩
  · have e1 : (x.eds k).flying.map intv ++ [.int .i64 z] = ((x.eds k).flying ++ [z]).map intv := by rw [List.map_append]; rfl
    have e2 : (x.eds k).flying.length + 1 = ((x.eds k).flying ++ [z]).length := by rw [List.length_append]; rfl
    rw [e1, e2] at c2
    exact c2
  · obtain ⟨h1, h2⟩ := cx.arrPut 8 rfl hb hk (.slice p' ((x.eds k).flying ++ [z]).length cap')
    refine ⟨h1, fun w' hw' => ⟨lay A (upd ea k { ea k with fp := p', fc := cap' }) ia (x.setFlying k ((x.eds k).flying ++ [z])) ++ R0, Φ, inferInstance, ?_, h p' cap'⟩⟩
    have e2 : (x.eds k).flying.length + 1 = ((x.eds k).flying ++ [z]).length := by rw [List.length_append]; rfl
    have c3 := h2 w' (by rw [hw', e2])
    refine Ctx.outE (e := { ea k with fp := p', fc := cap' }) (d := { x.eds k with flying := (x.eds k).flying ++ [z] }) hk ?_
    rw [hdE]
    simp only [upd_gCh, upd_gMd, upd_gBd, upd_gHd, upd_gFy]
    exact c3

theorem clr_flying {W w : World} {R0 F : List Own} {Φ : PW} [Stable Φ] {A : NA} {ea : Nat → EA} {ia : Nat → IA} {x : NtD} {b : Nat} (hb : A.fyp = some ⟨b, 0, none⟩) {k : Nat} (hk : k < x.ne) (cx : Ctx W w ((lay A ea ia x ++ R0) ++ F) Φ) :
    CanWrite w b (0 + ((k : Nat) : Int).toNat) 1 ∧ ∀ w', w' = w.setCell (Addr.mk b (0 + ((k : Nat) : Int).toNat) none) (.slice none 0 0) → Ctx W w' ((lay A (upd ea k { ea k with fp := none, fc := 0 }) ia (x.setFlying k []) ++ R0) ++ F) Φ := by
  obtain ⟨h1, h2⟩ := (cx.inE hk).arrPut 8 rfl hb hk (.slice none 0 0)
  refine ⟨h1, fun w' hw' => ?_⟩
  have c2 := (h2 w' hw').nobuf 3 1
  have c3 := (dropAt (13 + 1) c2).perm (move_to 13)
  refine Ctx.outE (e := { ea k with fp := none, fc := 0 }) (d := { x.eds k with flying := [] }) hk ?_
  rw [hdE]
  simp only [upd_gCh, upd_gMd, upd_gBd, upd_gHd, upd_gFy]
  exact c3

theorem push_box {W : World} {R0 : List Own} {Φ : PW} [Stable Φ] {A : NA} {ea : Nat → EA} {ia : Nat → IA} {x : NtD} {b : Nat} (hb : A.bxp = some ⟨b, 0, none⟩) {k : Nat} (hk : k < x.n) (y : Nat × MsgL) (hz : (x.ins k).box.length < 1000000) {REST : List Own → PW → Prop}
    (h : ∀ p c, REST (lay A ea (upd ia k { ia k with bp := p, bc := c }) (x.setBox k ((x.ins k).box ++ [y])) ++ R0) Φ) :
    ∃ (R25 : List Own), ∃ (Φ26 : PW), Stable Φ26 ∧ (∀ (w27 : World) (R28 : List Own), Ctx W w27 ((lay A ea ia x ++ R0) ++ R28) Φ → Ctx W w27 (R25 ++ R28) Φ26) ∧ ∃ (p29 : Option Addr), ∃ (k30 : Nat), ∃ (k31 : Nat), (∀ (w32 : World) (R33 : List Own), Ctx W w32 (R25 ++ R33) Φ26 → ∃ (p34 : Option Addr), ∃ (k35 : Nat), ∃ (k36 : Nat), w32.cell? (Addr.mk A.xb (0 + 3) none) = some (Value.slice p34 k35 k36) ∧ Value.slice p34 k35 k36 = Value.slice p29 k30 k31) ∧
      ∃ (p37 : Option Addr), ∃ (k38 : Nat), ∃ (k39 : Nat), (∀ (w40 : World) (R41 : List Own), Ctx W w40 (R25 ++ R41) Φ26 → ∃ (p42 : Option Addr), ∃ (k43 : Nat), ∃ (k44 : Nat), w40.cell? (Addr.mk A.xb (0 + 3) none) = some (Value.slice p42 k43 k44) ∧ Value.slice p42 k43 k44 = Value.slice p37 k38 k39) ∧ (0 ≤ ((k : Nat) : Int) ∧ ((k : Nat) : Int) < (↑k38 : Int)) ∧
      ptrK none p37 fun (k45 k46 : Nat) => ∃ (p47 : Option Addr), ∃ (k48 : Nat), ∃ (k49 : Nat), (∀ (w50 : World) (R51 : List Own), Ctx W w50 (R25 ++ R51) Φ26 → ∃ (p52 : Option Addr), ∃ (k53 : Nat), ∃ (k54 : Nat), w50.cell? (Addr.mk k45 (k46 + ((k : Nat) : Int).toNat) none) = some (Value.slice p52 k53 k54) ∧ Value.slice p52 k53 k54 = Value.slice p47 k48 k49) ∧
      ∀ (k55 : Nat), (∀ (w56 : World) (R57 : List Own), Ctx W w56 (Own.blk k55 (itemC y) 57 :: (lay A ea ia x ++ R0) ++ R57) Φ → Ctx W w56 (R25 ++ R57) Φ26) ∧ ∀ (w58 : World) (R59 : List Own), Ctx W w58 (Own.blk k55 (itemC y) 57 :: (lay A ea ia x ++ R0) ++ R59) Φ →
      ∃ (p60 : Option Addr), ∃ (k61 : Nat), ∃ (k62 : Nat), ∃ (w63 : World), Sem.run Try.prog (builtin Builtin.append #[33, 33] 33 #[false, false] #[Value.slice p47 k48 k49, Value.slice (some (Addr.mk k55 0 none)) 1 1]) w58 = Result.ok (Next.value (Value.slice p60 k61 k62)) w63 ∧
      ∃ (R64 : List Own), ∃ (Φ65 : PW), Stable Φ65 ∧ Ctx W w63 (R64 ++ R59) Φ65 ∧ (∀ (w66 : World) (R67 : List Own), Ctx W w66 (R64 ++ R67) Φ65 → Ctx W w66 (R25 ++ R67) Φ26) ∧ (0 ≤ ((k : Nat) : Int) ∧ ((k : Nat) : Int) < (↑k30 : Int)) ∧
      ptrK none p29 fun (k68 k69 : Nat) => ∀ (w70 : World) (R71 : List Own), Ctx W w70 (R64 ++ R71) Φ65 → CanWrite w70 k68 (k69 + ((k : Nat) : Int).toNat) 1 ∧ ∀ (w72 : World), w72 = w70.setCell (Addr.mk k68 (k69 + ((k : Nat) : Int).toNat) none) (Value.slice p60 k61 k62) →
      ∃ (R73 : List Own), ∃ (Φ74 : PW), Stable Φ74 ∧ Ctx W w72 (R73 ++ R71) Φ74 ∧ REST R73 Φ74 := by
  have sub0 : [Own.blk A.xb (netC A x) 40, arr A.bxp A.bxc x.n 33 (gBx ia x)].Sublist (hd A ea ia x) := .cons_cons _ (.cons _ (.cons _ (.cons_cons _ (List.nil_sublist _))))
  have get0 : ∀ (w : World) (R : List Own), Ctx W w ([Own.blk A.xb (netC A x) 40, arr A.bxp A.bxc x.n 33 (gBx ia x)] ++ R) tru → ∃ (p34 : Option Addr), ∃ (k35 : Nat), ∃ (k36 : Nat), w.cell? (Addr.mk A.xb (0 + 3) none) = some (Value.slice p34 k35 k36) ∧ Value.slice p34 k35 k36 = Value.slice A.bxp x.n A.bxc := fun w R cx => ⟨_, _, _, cx.get 0 rfl rfl, rfl⟩
  refine ⟨[.blk A.xb (netC A x) 40, arr A.bxp A.bxc x.n 33 (gBx ia x)], tru, inferInstance, fun w F cx => cut_to cx (by unfold lay; rw [List.append_assoc]; exact sub0.trans (List.sublist_append_left _ _)), _, _, _, get0, _, _, _, get0, ⟨Int.natCast_nonneg _, Int.ofNat_lt.2 hk⟩, ptrK_intro b 0 hb ⟨_, _, _, fun w F cx => ⟨_, _, _, cx.arrGet 1 rfl hb hk, rfl⟩, fun kb => ⟨fun w F cx => cut_to cx (List.Sublist.cons _ (by unfold lay; rw [List.append_assoc]; exact sub0.trans (List.sublist_append_left _ _))), fun w F cx => ?_⟩⟩⟩
  have c1 : Ctx W w (.blk kb (itemC y) 57 :: ((hd A ea ia x ++ (inK (ia k) (x.ins k) ++ (restI ea ia x k ++ R0))) ++ F)) Φ := cx.perm (List.Perm.cons _ ((focI hk R0).append_right F))
  obtain ⟨p', cap', w', hr, c2⟩ := c1.app1At (ts := 33) (ty := 33) (kb := #[false, false]) (bytes := 72) 11 rfl (by kernel_rfl) (by decide) rfl rfl (by omega) (by decide)
  refine ⟨p', _, cap', w', hr, hd A ea ia x ++ ([gtB (ia k).gt (x.ins k).gate, gtM (ia k).gt, boxR p' cap' ((x.ins k).box ++ [y])] ++ (restI ea ia x k ++ R0)), Φ, inferInstance, ?_, fun w F cx => cut_to cx (sub0.trans (List.sublist_append_left _ _)), ⟨Int.natCast_nonneg _, Int.ofNat_lt.2 hk⟩, ptrK_intro b 0 hb fun w F cx => ?_⟩
  · have e1 : (x.ins k).box.flatMap itemC ++ itemC y = ((x.ins k).box ++ [y]).flatMap itemC := by rw [List.flatMap_append]; simp
    have e2 : (x.ins k).box.length + 1 = ((x.ins k).box ++ [y]).length := by rw [List.length_append]; rfl
    rw [e1, e2] at c2
    exact c2
  · obtain ⟨h1, h2⟩ := cx.arrPut 3 rfl hb hk (.slice p' ((x.ins k).box ++ [y]).length cap')
    refine ⟨h1, fun w' hw' => ⟨lay A ea (upd ia k { ia k with bp := p', bc := cap' }) (x.setBox k ((x.ins k).box ++ [y])) ++ R0, Φ, inferInstance, ?_, h p' cap'⟩⟩
    have e2 : (x.ins k).box.length + 1 = ((x.ins k).box ++ [y]).length := by rw [List.length_append]; rfl
    have c3 := h2 w' (by rw [hw', e2])
    refine Ctx.outI (e := { ia k with bp := p', bc := cap' }) (d := { x.ins k with box := (x.ins k).box ++ [y] }) hk ?_
    rw [hdI]
    simp only [upd_gGa, upd_gBx, upd_gRp]
    exact c3

/-- the same, where more is read ahead of it: what comes after the reads -/
theorem push_made_tail {W : World} {R0 : List Own} {Φ : PW} [Stable Φ] {A : NA} {ea : Nat → EA} {ia : Nat → IA} {x : NtD} {b : Nat} (hb : A.mdp = some ⟨b, 0, none⟩) {k : Nat} (hk : k < x.ne) (z : Int) (hz : (x.eds k).made.length < 1000000) {REST : List Own → PW → Prop} {R25 : List Own} {Φ26 : PW}
    (h25 : ∀ {w : World} {T F : List Own}, (insO ia x (List.range x.n)).Sublist T → Ctx W w ((hd A ea ia x ++ (T ++ R0)) ++ F) Φ → Ctx W w (R25 ++ F) Φ26) (h : ∀ p c, REST (lay A (upd ea k { ea k with mp := p, mc := c }) ia (x.setMade k ((x.eds k).made ++ [z])) ++ R0) Φ) (k55 : Nat) :
    (∀ (w56 : World) (R57 : List Own), Ctx W w56 (Own.blk k55 [.int .i64 z] 3 :: (lay A ea ia x ++ R0) ++ R57) Φ → Ctx W w56 (R25 ++ R57) Φ26) ∧ ∀ (w58 : World) (R59 : List Own), Ctx W w58 (Own.blk k55 [.int .i64 z] 3 :: (lay A ea ia x ++ R0) ++ R59) Φ →
      ∃ (p60 : Option Addr), ∃ (k61 : Nat), ∃ (k62 : Nat), ∃ (w63 : World), Sem.run Try.prog (builtin Builtin.append #[58, 58] 58 #[false, false] #[Value.slice (ea k).mp (x.eds k).made.length (ea k).mc, Value.slice (some (Addr.mk k55 0 none)) 1 1]) w58 = Result.ok (Next.value (Value.slice p60 k61 k62)) w63 ∧
      ∃ (R64 : List Own), ∃ (Φ65 : PW), Stable Φ65 ∧ Ctx W w63 (R64 ++ R59) Φ65 ∧ (∀ (w66 : World) (R67 : List Own), Ctx W w66 (R64 ++ R67) Φ65 → Ctx W w66 (R25 ++ R67) Φ26) ∧ (0 ≤ ((k : Nat) : Int) ∧ ((k : Nat) : Int) < (↑x.ne : Int)) ∧
      ptrK none A.mdp fun (k68 k69 : Nat) => ∀ (w70 : World) (R71 : List Own), Ctx W w70 (R64 ++ R71) Φ65 → CanWrite w70 k68 (k69 + ((k : Nat) : Int).toNat) 1 ∧ ∀ (w72 : World), w72 = w70.setCell (Addr.mk k68 (k69 + ((k : Nat) : Int).toNat) none) (Value.slice p60 k61 k62) →
      ∃ (R73 : List Own), ∃ (Φ74 : PW), Stable Φ74 ∧ Ctx W w72 (R73 ++ R71) Φ74 ∧ REST R73 Φ74 := by
  have h26 : ∀ {w : World} {F : List Own}, Ctx W w ((lay A ea ia x ++ R0) ++ F) Φ → Ctx W w (R25 ++ F) Φ26 := fun {w F} cx => by
    unfold lay at cx
    rw [List.append_assoc (hd A ea ia x)] at cx
    exact h25 (List.sublist_append_right _ _) cx
  refine ⟨fun w F cx => h26 (Ctx.drop1 cx), fun w F cx => ?_⟩
  have c1 : Ctx W w (.blk k55 [.int .i64 z] 3 :: ((hd A ea ia x ++ (edK (ea k) (x.eds k) ++ (restE ea ia x k ++ R0))) ++ F)) Φ := cx.perm (List.Perm.cons _ ((focE hk R0).append_right F))
  obtain ⟨p', cap', w', hr, c2⟩ := c1.app1At (ts := 58) (ty := 58) (kb := #[false, false]) (bytes := 8) 10 rfl (by kernel_rfl) (by decide) rfl rfl (by omega) (by decide)
  refine ⟨p', _, cap', w', hr, hd A ea ia x ++ (([chB (ea k).ch, intR p' cap' ((x.eds k).made ++ [z]), intR (ea k).bp (ea k).bc (x.eds k).boxed, intR (ea k).hp (ea k).hc (x.eds k).handled, intR (ea k).fp (ea k).fc (x.eds k).flying] ++ restE ea ia x k) ++ R0), Φ, inferInstance, ?_, fun w F cx => h25 ((List.sublist_append_right _ _).trans (List.sublist_append_right _ _)) cx, ⟨Int.natCast_nonneg _, Int.ofNat_lt.2 hk⟩, ptrK_intro b 0 hb fun w F cx => ?_⟩
  · have e1 : (x.eds k).made.map intv ++ [.int .i64 z] = ((x.eds k).made ++ [z]).map intv := by rw [List.map_append]; rfl
    have e2 : (x.eds k).made.length + 1 = ((x.eds k).made ++ [z]).length := by rw [List.length_append]; rfl
    rw [e1, e2] at c2
    exact c2
  · obtain ⟨h1, h2⟩ := cx.arrPut 5 rfl hb hk (.slice p' ((x.eds k).made ++ [z]).length cap')
    refine ⟨h1, fun w' hw' => ⟨lay A (upd ea k { ea k with mp := p', mc := cap' }) ia (x.setMade k ((x.eds k).made ++ [z])) ++ R0, Φ, inferInstance, ?_, h p' cap'⟩⟩
    have e2 : (x.eds k).made.length + 1 = ((x.eds k).made ++ [z]).length := by rw [List.length_append]; rfl
    have c3 := h2 w' (by rw [hw', e2])
    refine Ctx.outE (e := { ea k with mp := p', mc := cap' }) (d := { x.eds k with made := (x.eds k).made ++ [z] }) hk ?_
    rw [hdE]
    simp only [upd_gCh, upd_gMd, upd_gBd, upd_gHd, upd_gFy]
    exact c3

end Go.Proofs.Ytmlnockcmdameaa
end

/-
  The net's methods source, inbound, produce and report, walked.
-/
section
set_option linter.unusedVariables false
set_option linter.unusedSimpArgs false
namespace Go.Proofs.Ytmlnockcmdameaa
open Go.Vc


theorem NP.ed {ea : Nat → EA} {ia : Nat → IA} {x : NtD} (h : NP ea ia x) {k : Nat} {e : EA} {d : EdD} (hc : ChP e.ch d.q d.sent) : NP (upd ea k e) ia (x.setEd k d) := by
  refine ⟨fun j hj => ?_, h.gt⟩
  show ChP (upd ea k e j).ch (upd x.eds k d j).q (upd x.eds k d j).sent
  by_cases hjk : j = k
  · subst hjk; rw [upd_self, upd_self]; exact hc
  · rw [upd_ne hjk, upd_ne hjk]; exact h.ch j hj
theorem NP.inn {ea : Nat → EA} {ia : Nat → IA} {x : NtD} (h : NP ea ia x) {i : Nat} {e : IA} {d : InD} (hc : GtP e.gt d.gate) : NP ea (upd ia i e) (x.setIn i d) := by
  refine ⟨h.ch, fun j hj => ?_⟩
  show GtP (upd ia i e j).gt (upd x.ins i d j).gate
  by_cases hji : j = i
  · subst hji; rw [upd_self, upd_self]; exact hc
  · rw [upd_ne hji, upd_ne hji]; exact h.gt j hj

/-- the same edges -/
structure SameE (x y : NtD) : Prop where
  ne : y.ne = x.ne
  n : y.n = x.n
  src : ∀ k, (y.eds k).src = (x.eds k).src
  dst : ∀ k, (y.eds k).dst = (x.eds k).dst
theorem SameE.refl (x : NtD) : SameE x x := ⟨rfl, rfl, fun _ => rfl, fun _ => rfl⟩
theorem SameE.trans {x y z : NtD} (h1 : SameE x y) (h2 : SameE y z) : SameE x z := ⟨h2.ne.trans h1.ne, h2.n.trans h1.n, fun k => (h2.src k).trans (h1.src k), fun k => (h2.dst k).trans (h1.dst k)⟩
theorem SameE.edF {x y : NtD} (h : SameE x y) {Φ : PW} {A : NA} (hE : EdF Φ A x) : EdF Φ A y :=
  ⟨fun h0 => hE.ptr (by rw [← h.ne]; exact h0), fun M w hw k hk => by rw [h.src, h.dst]; exact hE.row M w hw k (by rw [← h.ne]; exact hk)⟩
theorem SameE.ptr {x y : NtD} (h : SameE x y) {A : NA} {b1 b2 b3 b4 b5 b6 b7 b8 : Nat} (hb : Ptr A x b1 b2 b3 b4 b5 b6 b7 b8) : Ptr A y b1 b2 b3 b4 b5 b6 b7 b8 := by
  constructor <;> intro h0 <;> (first | rw [h.ne] at h0 | rw [h.n] at h0)
  · exact hb.ch h0
  · exact hb.ga h0
  · exact hb.bx h0
  · exact hb.rp h0
  · exact hb.md h0
  · exact hb.bd h0
  · exact hb.hd h0
  · exact hb.fy h0
theorem same_setIn (x : NtD) (i : Nat) (d : InD) : SameE x (x.setIn i d) := ⟨rfl, rfl, fun _ => rfl, fun _ => rfl⟩
theorem same_setEd (x : NtD) (k : Nat) (d : EdD) (hs : d.src = (x.eds k).src) (hd : d.dst = (x.eds k).dst) : SameE x (x.setEd k d) := by
  refine ⟨rfl, rfl, fun j => ?_, fun j => ?_⟩
  · show (upd x.eds k d j).src = _
    by_cases h : j = k
    · subst h; rw [upd_self]; exact hs
    · rw [upd_ne h]
  · show (upd x.eds k d j).dst = _
    by_cases h : j = k
    · subst h; rw [upd_self]; exact hd
    · rw [upd_ne h]
theorem same_box (x : NtD) (i : Nat) (b : List (Nat × MsgL)) : SameE x (x.setBox i b) := same_setIn x i _
theorem same_rep (x : NtD) (i : Nat) (b : Bool) : SameE x (x.setRep i b) := same_setIn x i _
theorem same_gate (x : NtD) (i : Nat) (g : GtD) : SameE x (x.setGate i g) := same_setIn x i _
theorem same_made (x : NtD) (k : Nat) (l : List Int) : SameE x (x.setMade k l) := same_setEd x k _ rfl rfl
theorem same_boxed (x : NtD) (k : Nat) (l : List Int) : SameE x (x.setBoxed k l) := same_setEd x k _ rfl rfl
theorem same_handled (x : NtD) (k : Nat) (l : List Int) : SameE x (x.setHandled k l) := same_setEd x k _ rfl rfl
theorem same_flying (x : NtD) (k : Nat) (l : List Int) : SameE x (x.setFlying k l) := same_setEd x k _ rfl rfl
theorem same_q (x : NtD) (k : Nat) (l : List MsgL) : SameE x (x.setQ k l) := same_setEd x k _ rfl rfl
theorem same_push (x : NtD) (y : Nat × MsgL) : SameE x (x.push y) := same_setEd x y.1 _ rfl rfl
theorem same_prodStep (x : NtD) (i : Nat) (m : MsgL) (k : Nat) : SameE x (prodStep x i m k) := by
  unfold prodStep
  split
  · split
    · exact same_box _ _ _
    · exact (same_box _ _ _).trans (same_made _ _ _)
  · exact .refl _
theorem same_prodK (x : NtD) (i : Nat) (m : MsgL) : ∀ k, SameE x (prodK x i m k)
  | 0 => .refl _
  | k + 1 => (same_prodK x i m k).trans (same_prodStep _ _ _ _)
theorem same_boxedL : ∀ (l : List (Nat × MsgL)) (x : NtD), SameE x (boxedL x l)
  | [], x => .refl _
  | y :: l, x => (same_boxed x y.1 _).trans (same_boxedL l (boxedStep x y))
theorem same_repS (x : NtD) (i : Nat) : SameE x (repS x i) := by
  unfold repS
  split
  · exact (same_rep _ _ _).trans (same_box _ _ _)
  · exact ((same_rep _ _ _).trans (same_boxedL _ _)).trans (same_box _ _ _)

section
variable {W w : World} {S : List Own} {Φ : PW} {A : NA} {ea : Nat → EA} {ia : Nat → IA} {x : NtD}

theorem EdF.cell0 (hE : EdF Φ A x) {M : List Nat} (h : Φ M w) {k : Nat} (hk : k < x.ne) : w.cell? (Addr.mk A.eg (A.eo + ((k : Nat) : Int).toNat * 2) none) = some (.int .i64 (x.eds k).src) := by
  have := hE.row M w h k hk 0 (by simp)
  rw [Nat.add_zero] at this
  exact this
theorem EdF.cell1 (hE : EdF Φ A x) {M : List Nat} (h : Φ M w) {k : Nat} (hk : k < x.ne) : w.cell? (Addr.mk A.eg (A.eo + ((k : Nat) : Int).toNat * 2 + 1) none) = some (.int .i64 (x.eds k).dst) := hE.row M w h k hk 1 (by simp)

theorem dec_nat (a b : Nat) : decide ((a : Int) = (b : Int)) = decide (a = b) := decide_eq_decide.2 (by omega)

/-- the modulo of the law -/
def modS (n m : Int) : Int := if m < 1 then 0 else if n.tmod m < 0 then n.tmod m + m else n.tmod m
theorem modS_range (n : Int) {m : Int} (hm : 1 ≤ m) : 0 ≤ modS n m ∧ modS n m < m := by
  unfold modS
  rw [if_neg (by omega)]
  have h1 := Int.tmod_lt_of_pos n (show 0 < m by omega)
  have h2 : -m < n.tmod m := by
    have := Int.natAbs_tmod n m
    rcases (show n < 0 ∨ 0 ≤ n by omega) with h | h
    · have e : n.tmod m = -((-n).tmod m) := by rw [Int.neg_tmod]; omega
      have := Int.tmod_lt_of_pos (-n) (show 0 < m by omega)
      omega
    · have := Int.tmod_nonneg m h
      omega
  split <;> omega
theorem mod_q (n m : Int) (hm : m ≤ 1000000) (w : World) : Calls Try.prog F.erratalaw39_mod #[.int .i64 n, .int .i64 m] w fun e w' => e = .returned (.int .i64 (modS n m)) ∧ w' = w := by
  refine (Qerratalaw39_mod_run n m w (fun u w' => u = .int .i64 (modS n m) ∧ w' = w) ?_).mono fun e w' ⟨v, h1, h2, h3⟩ => ⟨by rw [h1, h2], h3⟩
  unfold modS
  refine Br.intro (fun h => ?_) (fun h => ?_)
  · rw [if_pos (of_decide_eq_true h)]; exact ⟨rfl, rfl⟩
  · have h := of_decide_eq_false h
    rw [if_neg h]
    have hr := modS_range n (m := m) (by omega)
    unfold modS at hr
    rw [if_neg h] at hr
    refine ⟨fun h0 => by omega, Br.intro (fun h2 => ?_) (fun h2 => ?_)⟩
    · rw [if_pos (of_decide_eq_true h2)] at hr ⊢
      exact ⟨by unfold I64; omega, rfl, rfl⟩
    · rw [if_neg (of_decide_eq_false h2)]
      exact ⟨rfl, rfl⟩
theorem mod_use [Stable Φ] (n m : Int) (hm : m ≤ 1000000) (c : Ctx W w S Φ) {K : Ending → World → Prop} (hk : ∀ w', Ctx W w' S Φ → K (.returned (.int .i64 (modS n m))) w') : Calls Try.prog F.erratalaw39_mod #[.int .i64 n, .int .i64 m] w K :=
  (mod_q n m hm w).mono fun e w' ⟨h1, h2⟩ => by rw [h1, h2]; exact hk w c

theorem source_q {T : List Own} (hE : EdF Φ A x) (c : Ctx W w (hd A ea ia x ++ T) Φ) (i : Nat) (hne : x.ne ≤ 1000000) : Calls Try.prog F.erratalaw39_net_source #[.pointer (some ⟨A.xb, 0, none⟩), .int .i64 i] w fun e w' => e = .returned (.bool (sourceS x i)) ∧ w' = w := by
  refine (Qerratalaw39_net_source_run A.xb 0 i w (fun u w' => u = .bool (sourceS x i) ∧ w' = w) ?_).mono fun e w' ⟨v, h1, h2, h3⟩ => ⟨by rw [h1, h2], h3⟩
  refine exI_mk (fun n w' => ∃ k : Nat, n = k ∧ k ≤ x.ne ∧ w' = w ∧ ∀ j, j < k → (x.eds j).dst ≠ i) (exI_mk (fun n _ => x.ne - n.toNat) ⟨⟨0, rfl, Nat.zero_le _, rfl, fun j hj => by omega⟩, ?_⟩)
  rintro n w' ⟨k, rfl, hk, rfl, hall⟩
  refine ⟨A.ep, x.ne, A.ec, c.get 0 rfl rfl, Br.intro (fun hlt => ?_) (fun hge => ?_)⟩
  · have hlt : k < x.ne := by have := of_decide_eq_true hlt; omega
    refine ⟨A.ep, x.ne, A.ec, c.get 0 rfl rfl, by omega, ptrK_intro A.eg A.eo (hE.ptr (by omega)) ⟨_, hE.cell1 c.phi hlt, ?_⟩⟩
    rw [dec_nat]
    refine Br.intro (fun h => ?_) (fun h => ⟨by unfold I64; omega, ⟨k + 1, by omega, hlt, rfl, fun j hj => ?_⟩, by show x.ne - ((k : Int) + 1).toNat < x.ne - (k : Int).toNat; omega⟩)
    · refine ⟨?_, rfl⟩
      unfold sourceS
      rw [decide_eq_false fun h2 => h2 k hlt (of_decide_eq_true h)]
    · rcases Nat.lt_or_ge j k with hj2 | hj2
      · exact hall j hj2
      · have : j = k := by omega
        subst this
        exact of_decide_eq_false h
  · have hge : k = x.ne := by have := of_decide_eq_false hge; omega
    subst hge
    refine ⟨?_, rfl⟩
    unfold sourceS
    rw [decide_eq_true hall]
theorem source_use [Stable Φ] (hE : EdF Φ A x) (hne : x.ne ≤ 1000000) (i : Nat) (c : Ctx W w (lay A ea ia x ++ S) Φ) {K : Ending → World → Prop} (hk : ∀ w', Ctx W w' (lay A ea ia x ++ S) Φ → K (.returned (.bool (sourceS x i))) w') : Calls Try.prog F.erratalaw39_net_source #[.pointer (some ⟨A.xb, 0, none⟩), .int .i64 i] w K := by
  have c' : Ctx W w (hd A ea ia x ++ ((edsO ea x (List.range x.ne) ++ insO ia x (List.range x.n)) ++ S)) Φ := by
    have := c
    unfold lay at this
    rw [List.append_assoc] at this
    exact this
  exact (source_q hE c' i hne).mono fun e w' ⟨h1, h2⟩ => by rw [h1, h2]; exact hk w c

theorem inbK_le (e : Nat) : ∀ k, inbK x e k ≤ k
  | 0 => Nat.le_refl _
  | k + 1 => by
    have := inbK_le e k
    unfold inbK
    split <;> omega

theorem inbound_use [Stable Φ] (hE : EdF Φ A x) (hne : x.ne ≤ 1000000) {e : Nat} (he : e < x.ne) (c : Ctx W w (lay A ea ia x ++ S) Φ) {K : Ending → World → Prop} (hk : ∀ w', Ctx W w' (lay A ea ia x ++ S) Φ → K (.returned (.int .i64 (inb x e : Nat))) w') :
    Calls Try.prog F.erratalaw39_net_inbound #[.pointer (some ⟨A.xb, 0, none⟩), .int .i64 e] w K := by
  refine (Berratalaw39_net_inbound_run A.xb 0 e (J := fun u w' => K (.returned u) w') c ?_).mono fun e w' ⟨v, he, hj⟩ => by rw [he]; exact hj
  refine exI_mk (fun n k R' Φ' m => ∃ j : Nat, n = (inbK x e j : Nat) ∧ k = j ∧ j ≤ e ∧ R' = lay A ea ia x ++ S ∧ Φ' = Φ ∧ m = e - j) ⟨⟨_, Φ, _, inferInstance, fun w G cx => cx, 0, rfl, rfl, Nat.zero_le _, rfl, rfl, rfl⟩, ?_⟩
  rintro n k R1 Φ1 m _ ⟨j, rfl, rfl, hj, rfl, rfl, rfl⟩
  refine Br.intro (fun hlt => ?_) (fun hge => fun w G cx => ?_)
  · have hlt : j < e := by have := of_decide_eq_true hlt; omega
    have g0 : ∀ {w : World} {G : List Own}, Ctx W w ((lay A ea ia x ++ S) ++ G) Φ1 → w.cell? (Addr.mk A.xb 0 none) = some (.slice A.ep x.ne A.ec) := fun cx => Ctx.get (S := (hd A ea ia x ++ (edsO ea x (List.range x.ne) ++ insO ia x (List.range x.n)) ++ S) ++ _) cx 0 rfl rfl
    refine fun w G cx => ⟨_, _, _, g0 cx, by omega, ptrK_intro A.eg A.eo (hE.ptr (by omega)) ⟨_, hE.cell1 cx.phi (show j < x.ne by omega), _, _, _, g0 cx, by omega, ptrK_intro A.eg A.eo (hE.ptr (by omega)) ⟨_, hE.cell1 cx.phi he, ?_⟩⟩⟩
    rw [dec_nat]
    have hle := inbK_le (x := x) e j
    refine Br.intro (fun h => ?_) (fun h => ?_)
    · refine ⟨by unfold I64; omega, by unfold I64; omega, lay A ea ia x ++ S, Φ1, e - (j + 1), inferInstance, fun w G cx => cx, ⟨j + 1, ?_, by omega, by omega, rfl, rfl, rfl⟩, by omega⟩
      show _ = ((inbK x e (j + 1) : Nat) : Int)
      rw [inbK, if_pos (of_decide_eq_true h)]
      omega
    · refine ⟨by unfold I64; omega, lay A ea ia x ++ S, Φ1, e - (j + 1), inferInstance, fun w G cx => cx, ⟨j + 1, ?_, by omega, by omega, rfl, rfl, rfl⟩, by omega⟩
      show _ = ((inbK x e (j + 1) : Nat) : Int)
      rw [inbK, if_neg (of_decide_eq_false h)]
  · have hge : j = e := by have := of_decide_eq_false hge; omega
    subst hge
    exact hk w cx.left

/-! ### produce -/
theorem prodStep_eds {i : Nat} {m : MsgL} {k j : Nat} (h : j ≠ k) : (prodStep x i m k).eds j = x.eds j := by
  unfold prodStep
  split
  · split
    · rfl
    · exact upd_ne h
  · rfl
theorem prodK_eds {i : Nat} {m : MsgL} : ∀ {k j : Nat}, k ≤ j → (prodK x i m k).eds j = x.eds j
  | 0, j, _ => rfl
  | k + 1, j, h => by
    show (prodStep (prodK x i m k) i m k).eds j = _
    rw [prodStep_eds (by omega), prodK_eds (by omega)]
theorem prodStep_box {i : Nat} {m : MsgL} {k : Nat} : ((prodStep x i m k).ins i).box.length ≤ (x.ins i).box.length + 1 := by
  have h : ((x.setBox i ((x.ins i).box ++ [(k, m)])).ins i).box.length = (x.ins i).box.length + 1 := by
    show (upd x.ins i _ i).box.length = _
    rw [upd_self]
    simp
  unfold prodStep
  split
  · split
    · omega
    · show ((x.setBox i ((x.ins i).box ++ [(k, m)])).ins i).box.length ≤ _
      omega
  · omega
theorem prodK_box {i : Nat} {m : MsgL} : ∀ k, ((prodK x i m k).ins i).box.length ≤ (x.ins i).box.length + k
  | 0 => Nat.le_refl _
  | k + 1 => by
    have h1 := prodK_box (i := i) (m := m) k
    have h2 := prodStep_box (x := prodK x i m k) (i := i) (m := m) (k := k)
    exact Nat.le_trans h2 (by omega)

theorem lay_hd {T : List Own} (c : Ctx W w (lay A ea ia x ++ T) Φ) : Ctx W w (hd A ea ia x ++ ((edsO ea x (List.range x.ne) ++ insO ia x (List.range x.n)) ++ T)) Φ := by
  unfold lay at c
  rw [List.append_assoc] at c
  exact c
theorem lay_x {T F : List Own} {j : Nat} {v : Value} (c : Ctx W w ((lay A ea ia x ++ T) ++ F) Φ) (hv : (netC A x)[j]? = some v) : w.cell? (Addr.mk A.xb j none) = some v := by
  rw [List.append_assoc] at c
  exact (lay_hd c).get 0 rfl hv

theorem lay_get {T F : List Own} (c : Ctx W w ((lay A ea ia x ++ T) ++ F) Φ) (j : Nat) {p : Option Addr} {cp n : Nat} {t : TypeId} {g : Nat → Value} (hj : (hd A ea ia x)[j]? = some (arr p cp n t g)) {b k : Nat} (hp : p = some ⟨b, 0, none⟩) (hk : k < n) : w.cell? (Addr.mk b (0 + ((k : Nat) : Int).toNat) none) = some (g k) := by
  rw [List.append_assoc] at c
  refine (lay_hd c).arrGet (cp := cp) (t := t) j ?_ hp hk
  rw [List.getElem?_append_left (List.getElem?_eq_some_iff.1 hj).1]
  exact hj

theorem produce_use [Stable Φ] (hE : EdF Φ A x) (hne : x.ne ≤ 1000) {i : Nat} (hi : i < x.n) (m : MsgL) (hP : NP ea ia x) (hbox : (x.ins i).box.length ≤ 10000) (hmade : ∀ k, k < x.ne → (x.eds k).made.length < 1000000) (c : Ctx W w (lay A ea ia x ++ S) Φ) {K : Ending → World → Prop}
    (hk : ∀ ea' ia' w', NP ea' ia' (prodS x i m) → Ctx W w' (lay A ea' ia' (prodS x i m) ++ S) Φ → K (.returned (.tuple #[])) w') : Calls Try.prog F.erratalaw39_net_produce #[.pointer (some ⟨A.xb, 0, none⟩), .int .i64 i, m.v] w K := by
  obtain ⟨b1, b2, b3, b4, b5, b6, b7, b8, hb⟩ := (lay_hd c).ptr
  refine (Berratalaw39_net_produce_run A.xb 0 i m.kind 0 0 0 m.n none 0 0 (J := fun u w' => K (.returned u) w') c ?_).mono fun e w' ⟨v, he, hj⟩ => by rw [he]; exact hj
  intro b0
  refine exI_mk (fun nI R' Φ' kk => ∃ (k : Nat) (ea' : Nat → EA) (ia' : Nat → IA), nI = k ∧ k ≤ x.ne ∧ R' = lay A ea' ia' (prodK x i m k) ++ S ∧ Φ' = Φ ∧ kk = x.ne - k ∧ NP ea' ia' (prodK x i m k)) ⟨⟨_, Φ, _, inferInstance, fun w G cx => cx, 0, ea, ia, rfl, Nat.zero_le _, rfl, rfl, rfl, hP⟩, ?_⟩
  rintro nI R1 Φ1 kk _ ⟨k, ea1, ia1, rfl, hkn, rfl, rfl, rfl, hP1⟩
  have hs := same_prodK x i m k
  have hE1 := hs.edF hE
  have hb1 := hs.ptr hb
  have hlen := prodK_box (x := x) (i := i) (m := m) k
  have hedk : (prodK x i m k).eds k = x.eds k := prodK_eds (Nat.le_refl _)
  have hnext : prodK x i m (k + 1) = prodStep (prodK x i m k) i m k := rfl
  have hnn := hs.n
  have hnne := hs.ne
  generalize hyk : prodK x i m k = y at *
  have hn : i < y.n := by omega
  refine fun w G cx => ⟨_, _, _, lay_x cx rfl, ?_⟩
  refine Br.intro (fun hlt => ?_) (fun hge => fun w G cx => ?_)
  · have hlt : k < y.ne := by have := of_decide_eq_true hlt; omega
    refine fun w G cx => ⟨_, _, _, lay_x cx rfl, by omega, ptrK_intro A.eg A.eo (hE1.ptr (by omega)) fun w G cx => ⟨_, hE1.cell0 cx.phi hlt, ?_⟩⟩
    rw [dec_nat]
    refine Br.intro (fun h => ?_) (fun h => ?_)
    · have h := of_decide_eq_true h
      refine push_box (y := (k, m)) (hb1.bx (by omega)) hn (by omega) fun p c => fun w G cx => ⟨_, _, _, lay_x cx rfl, ⟨by omega, Int.ofNat_lt.2 hn⟩, ptrK_intro b4 0 (hb1.rp (by omega)) fun w G cx => ⟨_, lay_get cx 4 rfl (hb1.rp (by omega)) hn, ?_⟩⟩
      have er : (((y.setBox i ((y.ins i).box ++ [(k, m)]))).ins i).rep = (y.ins i).rep := by show (upd y.ins i _ i).rep = _; rw [upd_self]
      rw [er]
      have hPb : NP ea1 (upd ia1 i { ia1 i with bp := p, bc := c }) (y.setBox i ((y.ins i).box ++ [(k, m)])) := hP1.inn (hP1.gt i hn)
      refine Br.intro (fun hr => ?_) (fun hr => ?_)
      · have hr : (y.ins i).rep = false := by simpa using hr
        have hz : ((y.setBox i ((y.ins i).box ++ [(k, m)])).eds k).made.length < 1000000 := by
          show (y.eds k).made.length < _
          rw [hedk]; exact hmade k (by omega)
        refine push_made (x := y.setBox i ((y.ins i).box ++ [(k, m)])) (hb1.md (by omega)) hlt m.n hz fun p2 c2 => ⟨by unfold I64; omega, _, Φ1, x.ne - (k + 1), inferInstance, fun w G cx => cx, ⟨k + 1, upd ea1 k { ea1 k with mp := p2, mc := c2 }, upd ia1 i { ia1 i with bp := p, bc := c }, by omega, by omega, ?_, rfl, rfl, ?_⟩, by omega⟩
        · rw [hnext]; unfold prodStep; rw [if_pos h, hr]; rfl
        · rw [hnext]
          unfold prodStep
          rw [if_pos h, hr]
          exact hPb.ed (k := k) (e := { ea1 k with mp := p2, mc := c2 }) (d := { (y.setBox i ((y.ins i).box ++ [(k, m)])).eds k with made := (y.eds k).made ++ [m.n] }) (hPb.ch k hlt)
      · have hr : (y.ins i).rep = true := by simpa using hr
        refine ⟨by unfold I64; omega, _, Φ1, x.ne - (k + 1), inferInstance, fun w G cx => cx, ⟨k + 1, ea1, upd ia1 i { ia1 i with bp := p, bc := c }, by omega, by omega, ?_, rfl, rfl, ?_⟩, by omega⟩
        · rw [hnext]; unfold prodStep; rw [if_pos h, hr]; rfl
        · rw [hnext]; unfold prodStep; rw [if_pos h, hr]; exact hPb
    · have h := of_decide_eq_false h
      have e1 : prodStep y i m k = y := by unfold prodStep; rw [if_neg h]
      refine ⟨by unfold I64; omega, lay A ea1 ia1 y ++ S, Φ1, x.ne - (k + 1), inferInstance, fun w G cx => cx, ⟨k + 1, ea1, ia1, by omega, by omega, by rw [hnext, e1], rfl, rfl, by rw [hnext, e1]; exact hP1⟩, by omega⟩
  · have hge : k = x.ne := by have := of_decide_eq_false hge; omega
    have e : y = prodS x i m := by rw [← hyk, hge]; rfl
    rw [e] at hP1 cx
    exact hk ea1 ia1 w hP1 cx.left

end
end Go.Proofs.Ytmlnockcmdameaa
end

/-
  report, walked.
-/
section
set_option linter.unusedVariables false
set_option linter.unusedSimpArgs false
namespace Go.Proofs.Ytmlnockcmdameaa
open Go.Vc


theorem items_one : ∀ l : List (Nat × MsgL), ((l.flatMap itemC).all fun u => oneC u) = true
  | [] => rfl
  | y :: l => by
    rw [List.flatMap_cons, List.all_append, items_one l]
    rfl
theorem flat_get {α β : Type} (f : α → List β) (s : Nat) (hs : ∀ a, (f a).length = s) : ∀ (l : List α) (j t : Nat) (h : j < l.length), t < s → (l.flatMap f)[j * s + t]? = (f l[j])[t]?
  | [], j, t, h, _ => by simp at h
  | a :: l, 0, t, h, ht => by
    rw [List.flatMap_cons, Nat.zero_mul, Nat.zero_add, List.getElem?_append_left (by rw [hs]; exact ht)]
    rfl
  | a :: l, j + 1, t, h, ht => by
    rw [List.flatMap_cons, List.getElem?_append_right (by rw [hs, Nat.add_mul]; omega), hs]
    rw [show (j + 1) * s + t - s = j * s + t by rw [Nat.add_mul]; omega, flat_get f s hs l j t (by simpa using h) ht]
    rfl
theorem item_row {l : List (Nat × MsgL)} {j : Nat} (h : j < l.length) : ∀ t, (ht : t < (itemC l[j]).length) → (l.flatMap itemC)[j * 7 + t]? = some (itemC l[j])[t] := fun t ht => by
  rw [flat_get itemC 7 (fun _ => rfl) l j t h ht]
  exact List.getElem?_eq_getElem ht

section
variable {W w : World} {S : List Own} {Φ : PW} {A : NA} {ea : Nat → EA} {ia : Nat → IA} {x : NtD}

/-- append one outbox to another -/
theorem _root_.Go.Vc.Ctx.appBox [Stable Φ] {pd ps : Option Addr} {cd c2 : Nat} {ld ls : List (Nat × MsgL)} (kd ks : Nat) (c : Ctx W w S Φ) (hd : S[kd]? = some (boxR pd cd ld)) (hs : S[ks]? = some (boxR ps c2 ls)) (h1 : ld.length ≤ 1000000) (h2 : ls.length ≤ 1000000) :
    ∃ p' cap' w', Sem.run Try.prog (builtin Builtin.append #[33, 33] 33 #[false, false] #[.slice pd ld.length cd, .slice ps ls.length c2]) w = .ok (.value (.slice p' (ld ++ ls).length cap')) w' ∧ Ctx W w' (S.set kd (boxR p' cap' (ld ++ ls))) Φ := by
  obtain ⟨i, z, e1, e2, e3, e4, e5, e6⟩ := appB_out (show appB Try.prog 33 57 7 72 = true by kernel_rfl)
  rcases Nat.eq_zero_or_pos ls.length with h0 | h0
  · have : ls = [] := List.eq_nil_of_length_eq_zero h0
    subst this
    refine ⟨pd, cd, w, ?_, ?_⟩
    · rw [List.append_nil]; exact run_app (c.append0 kd hd e1 e2 ps c2)
    · rw [List.append_nil]
      refine c.re ?_
      apply List.ext_getElem?
      intro j
      rw [List.getElem?_set]
      split
      · rename_i e; subst e; rw [if_pos (List.getElem?_eq_some_iff.1 hd).1]; exact hd
      · rfl
  · obtain ⟨b, hb, _, hcell⟩ := c.bufCell ks hs (by rw [(c.bufLen ks hs).1]; omega)
    obtain ⟨p', cap', w', hr, c'⟩ := c.append kd hd (ty := 33) e1 e2 e3 e4 e5 (a := ⟨b, 0, none⟩) (m := ls.length) (c2 := c2) (news := ls.flatMap itemC) h0 (c.bufLen ks hs).1 (fun j u hj => by rw [addr_add, Nat.zero_add]; exact (hcell j u hj).1)
      (fun u hu => List.all_eq_true.1 (items_one ls) u hu) (by
        have hby : (ld.length + ls.length) * i.bytes ≤ 2000000 * 1000 := Nat.mul_le_mul (by omega) (by omega)
        omega) (by omega)
    refine ⟨p', cap', w', ?_, ?_⟩
    · rw [hb, List.length_append]; exact run_app hr
    · refine c'.re ?_
      show _ = S.set kd (Own.buf p' (ld ++ ls).length cap' ((ld ++ ls).flatMap itemC) _ _)
      rw [List.length_append, List.flatMap_append]

theorem to_front {o : Own} {L R F : List Own} : ((L ++ (o :: R)) ++ F).Perm (o :: ((L ++ R) ++ F)) := by
  rw [List.append_assoc, List.append_assoc, List.cons_append]
  exact List.perm_middle

/-- where an outbox lies -/
theorem box_ptr {T F : List Own} {i : Nat} (hi : i < x.n) [Stable Φ] (c : Ctx W w ((lay A ea ia x ++ T) ++ F) Φ) (h0 : 0 < (x.ins i).box.length) : ∃ b, (ia i).bp = some ⟨b, 0, none⟩ := by
  have c1 := c.inI hi
  obtain ⟨b, hb, _⟩ := c1.bufCell 11 rfl (by rw [(c1.bufLen 11 rfl).1]; omega)
  exact ⟨b, hb⟩

theorem itemRow {T F : List Own} {i j : Nat} (hi : i < x.n) [Stable Φ] (c : Ctx W w ((lay A ea ia x ++ T) ++ F) Φ) (hj : j < (x.ins i).box.length) {b : Nat} (hb : (ia i).bp = some ⟨b, 0, none⟩) : RowAt w b (0 + ((j : Nat) : Int).toNat * 7) (itemC (x.ins i).box[j]) := by
  rw [Int.toNat_natCast, Nat.zero_add]
  exact (c.inI hi).bufRow 11 rfl hb (item_row hj)


theorem put_box {R0 F : List Own} {i : Nat} (hi : i < x.n) {b : Nat} (hb : A.bxp = some ⟨b, 0, none⟩) [Stable Φ] {p' : Option Addr} {cap' : Nat} {l' : List (Nat × MsgL)} (cx : Ctx W w ((hd A ea ia x ++ ([gtB (ia i).gt (x.ins i).gate, gtM (ia i).gt, boxR p' cap' l'] ++ (restI ea ia x i ++ R0))) ++ F) Φ) :
    CanWrite w b (0 + ((i : Nat) : Int).toNat) 1 ∧ ∀ w', w' = w.setCell (Addr.mk b (0 + ((i : Nat) : Int).toNat) none) (.slice p' l'.length cap') → Ctx W w' ((lay A ea (upd ia i { ia i with bp := p', bc := cap' }) (x.setBox i l') ++ R0) ++ F) Φ := by
  obtain ⟨h1, h2⟩ := cx.arrPut 3 rfl hb hi (.slice p' l'.length cap')
  refine ⟨h1, fun w' hw' => ?_⟩
  have c3 := h2 w' hw'
  refine Ctx.outI (e := { ia i with bp := p', bc := cap' }) (d := { x.ins i with box := l' }) hi ?_
  rw [hdI]
  simp only [upd_gGa, upd_gBx, upd_gRp]
  exact c3

theorem sub3 : [Own.blk A.xb (netC A x) 40, arr A.bxp A.bxc x.n 33 (gBx ia x)].Sublist (hd A ea ia x) := .cons_cons _ (.cons _ (.cons _ (.cons_cons _ (List.nil_sublist _))))
theorem get3 : ∀ (w : World) (R : List Own), Ctx W w ([Own.blk A.xb (netC A x) 40, arr A.bxp A.bxc x.n 33 (gBx ia x)] ++ R) tru → ∃ (p34 : Option Addr), ∃ (k35 : Nat), ∃ (k36 : Nat), w.cell? (Addr.mk A.xb (0 + 3) none) = some (Value.slice p34 k35 k36) ∧ Value.slice p34 k35 k36 = Value.slice A.bxp x.n A.bxc := fun w R cx => ⟨_, _, _, cx.get 0 rfl rfl, rfl⟩
theorem sub_lay {X T : List Own} (h : X.Sublist (hd A ea ia x)) : X.Sublist (lay A ea ia x ++ T) := by unfold lay; rw [List.append_assoc]; exact h.trans (List.sublist_append_left _ _)

theorem join_back {R0 : List Own} [Stable Φ] {i : Nat} (hi : i < x.n) {b : Nat} (hb : A.bxp = some ⟨b, 0, none⟩) {p18 : Option Addr} {k20 : Nat} {l : List (Nat × MsgL)} (h1 : (x.ins i).box.length ≤ 1000000) (h2 : l.length ≤ 1000000) {REST : List Own → PW → Prop}
    (h : ∀ p c, REST (lay A ea (upd ia i { ia i with bp := p, bc := c }) (x.setBox i ((x.ins i).box ++ l)) ++ R0) Φ) :
    ∃ (R25 : List Own), ∃ (Φ26 : PW), Stable Φ26 ∧ (∀ (w27 : World) (R28 : List Own), Ctx W w27 ((lay A ea ia x ++ (boxR p18 k20 l :: R0)) ++ R28) Φ → Ctx W w27 (R25 ++ R28) Φ26) ∧ ∃ (p29 : Option Addr), ∃ (k30 : Nat), ∃ (k31 : Nat), (∀ (w32 : World) (R33 : List Own), Ctx W w32 (R25 ++ R33) Φ26 → ∃ (p34 : Option Addr), ∃ (k35 : Nat), ∃ (k36 : Nat), w32.cell? (Addr.mk A.xb (0 + 3) none) = some (Value.slice p34 k35 k36) ∧ Value.slice p34 k35 k36 = Value.slice p29 k30 k31) ∧ ∃ (p37 : Option Addr), ∃ (k38 : Nat), ∃ (k39 : Nat), (∀ (w40 : World) (R41 : List Own), Ctx W w40 (R25 ++ R41) Φ26 → ∃ (p42 : Option Addr), ∃ (k43 : Nat), ∃ (k44 : Nat), w40.cell? (Addr.mk A.xb (0 + 3) none) = some (Value.slice p42 k43 k44) ∧ Value.slice p42 k43 k44 = Value.slice p37 k38 k39) ∧ (0 ≤ ((i : Nat) : Int) ∧ ((i : Nat) : Int) < (↑k38 : Int)) ∧ ptrK none p37 fun (k45 k46 : Nat) => ∃ (p47 : Option Addr), ∃ (k48 : Nat), ∃ (k49 : Nat), (∀ (w50 : World) (R51 : List Own), Ctx W w50 (R25 ++ R51) Φ26 → ∃ (p52 : Option Addr), ∃ (k53 : Nat), ∃ (k54 : Nat), w50.cell? (Addr.mk k45 (k46 + ((i : Nat) : Int).toNat) none) = some (Value.slice p52 k53 k54) ∧ Value.slice p52 k53 k54 = Value.slice p47 k48 k49) ∧ ∀ (w58 : World) (R59 : List Own), Ctx W w58 ((lay A ea ia x ++ (boxR p18 k20 l :: R0)) ++ R59) Φ → ∃ (p60 : Option Addr), ∃ (k61 : Nat), ∃ (k62 : Nat), ∃ (w63 : World), Sem.run Try.prog (builtin Builtin.append #[33, 33] 33 #[false, false] #[Value.slice p47 k48 k49, Value.slice p18 l.length k20]) w58 = Result.ok (Next.value (Value.slice p60 k61 k62)) w63 ∧ ∃ (R64 : List Own), ∃ (Φ65 : PW), Stable Φ65 ∧ Ctx W w63 (R64 ++ R59) Φ65 ∧ (∀ (w66 : World) (R67 : List Own), Ctx W w66 (R64 ++ R67) Φ65 → Ctx W w66 (R25 ++ R67) Φ26) ∧ (0 ≤ ((i : Nat) : Int) ∧ ((i : Nat) : Int) < (↑k30 : Int)) ∧ ptrK none p29 fun (k68 k69 : Nat) => ∀ (w70 : World) (R71 : List Own), Ctx W w70 (R64 ++ R71) Φ65 → CanWrite w70 k68 (k69 + ((i : Nat) : Int).toNat) 1 ∧ ∀ (w72 : World), w72 = w70.setCell (Addr.mk k68 (k69 + ((i : Nat) : Int).toNat) none) (Value.slice p60 k61 k62) → ∃ (R73 : List Own), ∃ (Φ74 : PW), Stable Φ74 ∧ Ctx W w72 (R73 ++ R71) Φ74 ∧ REST R73 Φ74 := by
  refine ⟨_, tru, inferInstance, fun w F cx => cut_to cx (sub_lay sub3), _, _, _, get3, _, _, _, get3, ⟨Int.natCast_nonneg _, Int.ofNat_lt.2 hi⟩, ptrK_intro b 0 hb ⟨_, _, _, fun w F cx => ⟨_, _, _, cx.arrGet 1 rfl hb hi, rfl⟩, fun w F cx => ?_⟩⟩
  have c1 := (cx.perm to_front)
  have c2 : Ctx W w (boxR p18 k20 l :: ((hd A ea ia x ++ (inK (ia i) (x.ins i) ++ (restI ea ia x i ++ R0))) ++ F)) Φ := c1.perm (List.Perm.cons _ ((focI hi R0).append_right F))
  obtain ⟨p', cap', w', hr, c3⟩ := c2.appBox 12 0 (pd := (ia i).bp) (cd := (ia i).bc) (ld := (x.ins i).box) rfl rfl h1 h2
  have c4 : Ctx W w' ((hd A ea ia x ++ ([gtB (ia i).gt (x.ins i).gate, gtM (ia i).gt, boxR p' cap' ((x.ins i).box ++ l)] ++ (restI ea ia x i ++ R0))) ++ F) Φ := Ctx.drop1 c3
  refine ⟨p', _, cap', w', hr, hd A ea ia x ++ ([gtB (ia i).gt (x.ins i).gate, gtM (ia i).gt, boxR p' cap' ((x.ins i).box ++ l)] ++ (restI ea ia x i ++ R0)), Φ, inferInstance, c4, fun w F cx => cut_to cx (sub3.trans (List.sublist_append_left _ _)), ⟨Int.natCast_nonneg _, Int.ofNat_lt.2 hi⟩, ptrK_intro b 0 hb fun w F cx => ?_⟩
  obtain ⟨g1, g2⟩ := put_box hi hb cx
  exact ⟨g1, fun w' hw' => ⟨_, Φ, inferInstance, g2 w' hw', h p' cap'⟩⟩

theorem join_front {R0 : List Own} [Stable Φ] {i : Nat} (hi : i < x.n) {b : Nat} (hb : A.bxp = some ⟨b, 0, none⟩) {p18 : Option Addr} {k20 : Nat} {l : List (Nat × MsgL)} (h1 : (x.ins i).box.length ≤ 1000000) (h2 : l.length ≤ 1000000) {REST : List Own → PW → Prop}
    (h : ∀ p c, REST (lay A ea (upd ia i { ia i with bp := p, bc := c }) (x.setBox i (l ++ (x.ins i).box)) ++ R0) Φ) :
    ∃ (R25 : List Own), ∃ (Φ26 : PW), Stable Φ26 ∧ (∀ (w27 : World) (R28 : List Own), Ctx W w27 ((lay A ea ia x ++ (boxR p18 k20 l :: R0)) ++ R28) Φ → Ctx W w27 (R25 ++ R28) Φ26) ∧ ∃ (p29 : Option Addr), ∃ (k30 : Nat), ∃ (k31 : Nat), (∀ (w32 : World) (R33 : List Own), Ctx W w32 (R25 ++ R33) Φ26 → ∃ (p34 : Option Addr), ∃ (k35 : Nat), ∃ (k36 : Nat), w32.cell? (Addr.mk A.xb (0 + 3) none) = some (Value.slice p34 k35 k36) ∧ Value.slice p34 k35 k36 = Value.slice p29 k30 k31) ∧ ∃ (p37 : Option Addr), ∃ (k38 : Nat), ∃ (k39 : Nat), (∀ (w40 : World) (R41 : List Own), Ctx W w40 (R25 ++ R41) Φ26 → ∃ (p42 : Option Addr), ∃ (k43 : Nat), ∃ (k44 : Nat), w40.cell? (Addr.mk A.xb (0 + 3) none) = some (Value.slice p42 k43 k44) ∧ Value.slice p42 k43 k44 = Value.slice p37 k38 k39) ∧ (0 ≤ ((i : Nat) : Int) ∧ ((i : Nat) : Int) < (↑k38 : Int)) ∧ ptrK none p37 fun (k45 k46 : Nat) => ∃ (p47 : Option Addr), ∃ (k48 : Nat), ∃ (k49 : Nat), (∀ (w50 : World) (R51 : List Own), Ctx W w50 (R25 ++ R51) Φ26 → ∃ (p52 : Option Addr), ∃ (k53 : Nat), ∃ (k54 : Nat), w50.cell? (Addr.mk k45 (k46 + ((i : Nat) : Int).toNat) none) = some (Value.slice p52 k53 k54) ∧ Value.slice p52 k53 k54 = Value.slice p47 k48 k49) ∧ ∀ (w58 : World) (R59 : List Own), Ctx W w58 ((lay A ea ia x ++ (boxR p18 k20 l :: R0)) ++ R59) Φ → ∃ (p60 : Option Addr), ∃ (k61 : Nat), ∃ (k62 : Nat), ∃ (w63 : World), Sem.run Try.prog (builtin Builtin.append #[33, 33] 33 #[false, false] #[Value.slice p18 l.length k20, Value.slice p47 k48 k49]) w58 = Result.ok (Next.value (Value.slice p60 k61 k62)) w63 ∧ ∃ (R64 : List Own), ∃ (Φ65 : PW), Stable Φ65 ∧ Ctx W w63 (R64 ++ R59) Φ65 ∧ (∀ (w66 : World) (R67 : List Own), Ctx W w66 (R64 ++ R67) Φ65 → Ctx W w66 (R25 ++ R67) Φ26) ∧ (0 ≤ ((i : Nat) : Int) ∧ ((i : Nat) : Int) < (↑k30 : Int)) ∧ ptrK none p29 fun (k68 k69 : Nat) => ∀ (w70 : World) (R71 : List Own), Ctx W w70 (R64 ++ R71) Φ65 → CanWrite w70 k68 (k69 + ((i : Nat) : Int).toNat) 1 ∧ ∀ (w72 : World), w72 = w70.setCell (Addr.mk k68 (k69 + ((i : Nat) : Int).toNat) none) (Value.slice p60 k61 k62) → ∃ (R73 : List Own), ∃ (Φ74 : PW), Stable Φ74 ∧ Ctx W w72 (R73 ++ R71) Φ74 ∧ REST R73 Φ74 := by
  refine ⟨_, tru, inferInstance, fun w F cx => cut_to cx (sub_lay sub3), _, _, _, get3, _, _, _, get3, ⟨Int.natCast_nonneg _, Int.ofNat_lt.2 hi⟩, ptrK_intro b 0 hb ⟨_, _, _, fun w F cx => ⟨_, _, _, cx.arrGet 1 rfl hb hi, rfl⟩, fun w F cx => ?_⟩⟩
  have c1 := (cx.perm to_front)
  have c2 : Ctx W w (boxR p18 k20 l :: ((hd A ea ia x ++ (inK (ia i) (x.ins i) ++ (restI ea ia x i ++ R0))) ++ F)) Φ := c1.perm (List.Perm.cons _ ((focI hi R0).append_right F))
  obtain ⟨p', cap', w', hr, c3⟩ := c2.appBox 0 12 (ps := (ia i).bp) (c2 := (ia i).bc) (ls := (x.ins i).box) rfl rfl h2 h1
  have c4 : Ctx W w' ((hd A ea ia x ++ ([gtB (ia i).gt (x.ins i).gate, gtM (ia i).gt, boxR p' cap' (l ++ (x.ins i).box)] ++ (restI ea ia x i ++ R0))) ++ F) Φ := by
    have c5 : Ctx W w' (boxR p' cap' (l ++ (x.ins i).box) :: ((hd A ea ia x ++ [gtB (ia i).gt (x.ins i).gate, gtM (ia i).gt]) ++ ((restI ea ia x i ++ R0) ++ F))) Φ := c3.sub (.cons_cons _ (.cons_cons _ (.cons_cons _ (.cons_cons _ (.cons_cons _ (.cons_cons _ (.cons_cons _ (.cons_cons _ (.cons_cons _ (.cons_cons _ (.cons_cons _ (.cons_cons _ (.cons _ (List.Sublist.refl _))))))))))))))
    exact c5.perm (List.perm_middle (a := boxR p' cap' (l ++ (x.ins i).box)) (l₁ := hd A ea ia x ++ [gtB (ia i).gt (x.ins i).gate, gtM (ia i).gt]) (l₂ := (restI ea ia x i ++ R0) ++ F)).symm
  refine ⟨p', _, cap', w', hr, hd A ea ia x ++ ([gtB (ia i).gt (x.ins i).gate, gtM (ia i).gt, boxR p' cap' (l ++ (x.ins i).box)] ++ (restI ea ia x i ++ R0)), Φ, inferInstance, c4, fun w F cx => cut_to cx (sub3.trans (List.sublist_append_left _ _)), ⟨Int.natCast_nonneg _, Int.ofNat_lt.2 hi⟩, ptrK_intro b 0 hb fun w F cx => ?_⟩
  obtain ⟨g1, g2⟩ := put_box hi hb cx
  exact ⟨g1, fun w' hw' => ⟨_, Φ, inferInstance, g2 w' hw', h p' cap'⟩⟩

theorem rep_put [Stable Φ] {R0 F : List Own} {i : Nat} (hi : i < x.n) {b : Nat} (hb : A.rpp = some ⟨b, 0, none⟩) (v : Bool) (cx : Ctx W w ((lay A ea ia x ++ R0) ++ F) Φ) :
    CanWrite w b (0 + ((i : Nat) : Int).toNat) 1 ∧ ∀ w', w' = w.setCell (Addr.mk b (0 + ((i : Nat) : Int).toNat) none) (.bool v) → Ctx W w' ((lay A ea ia (x.setRep i v) ++ R0) ++ F) Φ := by
  obtain ⟨h1, h2⟩ := (cx.inI hi).arrPut 4 rfl hb hi (.bool v)
  refine ⟨h1, fun w' hw' => ?_⟩
  have c3 := h2 w' hw'
  have c4 : Ctx W w' ((lay A ea (upd ia i (ia i)) (x.setIn i { x.ins i with rep := v }) ++ R0) ++ F) Φ := by
    refine Ctx.outI (e := ia i) (d := { x.ins i with rep := v }) hi ?_
    rw [hdI]
    simp only [upd_gGa, upd_gBx, upd_gRp]
    exact c3
  rw [upd_id] at c4
  exact c4

theorem boxedL_snoc (x : NtD) (l : List (Nat × MsgL)) (y : Nat × MsgL) : boxedL x (l ++ [y]) = boxedStep (boxedL x l) y := by unfold boxedL; rw [List.foldl_append]; rfl
theorem boxedL_ins : ∀ (l : List (Nat × MsgL)) (x : NtD), (boxedL x l).ins = x.ins
  | [], _ => rfl
  | y :: l, x => boxedL_ins l (boxedStep x y)
theorem boxedL_kn : ∀ (l : List (Nat × MsgL)) (x : NtD), (boxedL x l).kind = x.kind ∧ (boxedL x l).num = x.num
  | [], _ => ⟨rfl, rfl⟩
  | y :: l, x => boxedL_kn l (boxedStep x y)
theorem boxedL_len (k : Nat) : ∀ (l : List (Nat × MsgL)) (x : NtD), ((boxedL x l).eds k).boxed.length ≤ (x.eds k).boxed.length + l.length
  | [], _ => Nat.le_refl _
  | y :: l, x => by
    have h1 := boxedL_len k l (boxedStep x y)
    have h2 : ((boxedStep x y).eds k).boxed.length ≤ (x.eds k).boxed.length + 1 := by
      show (upd x.eds y.1 _ k).boxed.length ≤ _
      by_cases h : k = y.1
      · subst h; rw [upd_self]; simp
      · rw [upd_ne h]; omega
    show ((boxedL (boxedStep x y) l).eds k).boxed.length ≤ _
    rw [List.length_cons]
    omega

theorem outsK_len (i : Nat) : ∀ k, (outsK x i k).length ≤ k
  | 0 => Nat.le_refl _
  | k + 1 => by
    have := outsK_len i k
    unfold outsK
    split
    · rw [List.length_append, List.length_singleton]; omega
    · omega
theorem outsK_same {x y : NtD} (h : SameE x y) (i : Nat) : ∀ k, outsK y i k = outsK x i k
  | 0 => rfl
  | k + 1 => by unfold outsK; rw [h.src, outsK_same h i k]

end
end Go.Proofs.Ytmlnockcmdameaa
end

/-
  report, walked: the method.
-/
section
set_option linter.unusedVariables false
set_option linter.unusedSimpArgs false
namespace Go.Proofs.Ytmlnockcmdameaa
open Go.Vc


section
variable {W w : World} {S : List Own} {Φ : PW} {A : NA} {ea : Nat → EA} {ia : Nat → IA} {x : NtD}

theorem to_blk {o b : Own} {L R F : List Own} : (b :: (L ++ (o :: R)) ++ F).Perm (b :: o :: ((L ++ R) ++ F)) := by
  rw [List.cons_append]
  exact List.Perm.cons _ to_front

def firstK (y : NtD) (i k : Nat) : List (Nat × MsgL) := (outsK y i k).map fun k => (k, barM y.num)

theorem report_use [Stable Φ] (hE : EdF Φ A x) (hne : x.ne ≤ 1000) {i : Nat} (hi : i < x.n) (hP : NP ea ia x) (hbox : (x.ins i).box.length ≤ 10000) (hitem : ∀ y ∈ (x.ins i).box, y.1 < x.ne) (hbx : ∀ k, k < x.ne → (x.eds k).boxed.length ≤ 100000) (hk01 : x.kind = 0 ∨ x.kind = 1)
    (c : Ctx W w (lay A ea ia x ++ S) Φ) {K : Ending → World → Prop}
    (hk : ∀ ea' ia' w', NP ea' ia' (repS x i) → Ctx W w' (lay A ea' ia' (repS x i) ++ S) Φ → K (.returned (.tuple #[])) w') : Calls Try.prog F.erratalaw39_net_report #[.pointer (some ⟨A.xb, 0, none⟩), .int .i64 i] w K := by
  obtain ⟨b1, b2, b3, b4, b5, b6, b7, b8, hb⟩ := (lay_hd c).ptr
  refine (Berratalaw39_net_report_run A.xb 0 i (J := fun u w' => K (.returned u) w') c ?_).mono fun e w' ⟨v, he, hj⟩ => by rw [he]; exact hj
  refine fun w G cx => ⟨_, _, _, lay_x cx rfl, ⟨by omega, Int.ofNat_lt.2 hi⟩, ptrK_intro b4 0 (hb.rp (by omega)) fun w G cx => ?_⟩
  obtain ⟨g1, g2⟩ := rep_put hi (hb.rp (by omega)) true cx
  refine ⟨g1, fun w' hw' => ⟨lay A ea ia (x.setRep i true) ++ S, Φ, inferInstance, g2 w' hw', ?_⟩⟩
  clear g1 g2 cx
  have hs := same_rep x i true
  have ebox : ((x.setRep i true).ins i).box = (x.ins i).box := by show (upd x.ins i _ i).box = _; rw [upd_self]
  have hP1 : NP ea ia (x.setRep i true) := by
    have := hP.inn (i := i) (e := ia i) (d := { x.ins i with rep := true }) (hP.gt i hi)
    rw [upd_id] at this
    exact this
  have erep : repS x i = if (x.setRep i true).kind = 0 then (x.setRep i true).setBox i (((x.setRep i true).ins i).box ++ firstK (x.setRep i true) i (x.setRep i true).ne) else (boxedL (x.setRep i true) ((x.setRep i true).ins i).box).setBox i (firstK (x.setRep i true) i (x.setRep i true).ne ++ ((x.setRep i true).ins i).box) := by
    unfold repS firstS firstK
    rw [ebox, outsK_same hs]
    rfl
  have hE1 := hs.edF hE
  have hb1 := hs.ptr hb
  rw [erep] at hk
  have hkd : (x.setRep i true).kind = x.kind := rfl
  rw [← hkd] at hk01
  have hbx1 : ∀ k, k < (x.setRep i true).ne → ((x.setRep i true).eds k).boxed.length ≤ 100000 := hbx
  have hne1 : (x.setRep i true).ne ≤ 1000 := hne
  have hi1 : i < (x.setRep i true).n := hi
  rw [← ebox] at hbox hitem
  have hit1 : ∀ y ∈ ((x.setRep i true).ins i).box, y.1 < (x.setRep i true).ne := hitem
  clear ebox hkd hitem
  clear hne hi hP hbx hs hE hb c
  generalize x.setRep i true = y at *
  -- the barriers
  refine exI_mk (fun p n cap ni R' Φ' m => ∃ k : Nat, n = (firstK y i k).length ∧ ni = k ∧ k ≤ y.ne ∧ R' = lay A ea ia y ++ (boxR p cap (firstK y i k) :: S) ∧ Φ' = Φ ∧ m = y.ne - k) ⟨⟨lay A ea ia y ++ (boxR none 0 [] :: S), Φ, _, inferInstance, fun w G cx => ?_, 0, rfl, rfl, Nat.zero_le _, rfl, rfl, rfl⟩, ?_⟩
  · exact (cx.nobuf 57 7).perm to_front.symm
  rintro p n cap ni R1 Φ1 m _ ⟨k, rfl, rfl, hkn, rfl, rfl, rfl⟩
  have hfl : (firstK y i k).length ≤ k := by unfold firstK; rw [List.length_map]; exact outsK_len i k
  refine fun w G cx => ⟨_, _, _, lay_x cx rfl, Br.intro (fun hlt => ?_) (fun hge => ?_)⟩
  · have hlt : k < y.ne := by have := of_decide_eq_true hlt; omega
    refine fun w G cx => ⟨_, _, _, lay_x cx rfl, by omega, ptrK_intro A.eg A.eo (hE1.ptr (by omega)) fun w G cx => ⟨_, hE1.cell0 cx.phi hlt, ?_⟩⟩
    rw [dec_nat]
    refine Br.intro (fun h => ?_) (fun h => ?_)
    · have h := of_decide_eq_true h
      have hfk : firstK y i (k + 1) = firstK y i k ++ [(k, barM y.num)] := by unfold firstK; rw [outsK, if_pos h, List.map_append]; rfl
      refine fun w G cx => ⟨_, lay_x cx rfl, fun w G cx => (barrier_g _).use cx fun w cx => ⟨_, _, _, _, _, none, 0, 0, rfl, _, Φ1, inferInstance, cx, fun kb w G cx => ?_⟩⟩
      have c1 := cx.perm to_blk
      obtain ⟨p', cap', w', hr, _, c2⟩ := c1.app1 (ts := 33) (ty := 33) (kb := #[false, false]) (bytes := 72) (by kernel_rfl) (by decide) rfl rfl (by omega) (by decide)
      refine ⟨p', _, cap', w', hr, lay A ea ia y ++ (boxR p' cap' (firstK y i (k + 1)) :: S), Φ1, inferInstance, ?_, by unfold I64; omega, _, Φ1, y.ne - (k + 1), inferInstance, fun w G cx => cx, ⟨k + 1, ?_, by omega, hlt, rfl, rfl, rfl⟩, by omega⟩
      · refine (Ctx.re c2 ?_).perm to_front.symm
        show _ = Own.buf _ (firstK y i (k + 1)).length _ ((firstK y i (k + 1)).flatMap itemC) _ _ :: _
        rw [hfk, List.length_append, List.flatMap_append]
        simp
      · rw [hfk, List.length_append]; rfl
    · have h := of_decide_eq_false h
      have hfk : firstK y i (k + 1) = firstK y i k := by unfold firstK; rw [outsK, if_neg h]
      refine ⟨by unfold I64; omega, _, Φ1, y.ne - (k + 1), inferInstance, fun w G cx => cx, ⟨k + 1, by rw [hfk], by omega, hlt, by rw [hfk], rfl, rfl⟩, by omega⟩
  have hge : k = y.ne := by have := of_decide_eq_false hge; omega
  subst hge
  generalize firstK y i y.ne = l at *
  refine fun w G cx => ⟨_, lay_x cx rfl, Br.intro (fun hz => ?_) (fun hz => ?_)⟩
  · have hz := of_decide_eq_true hz
    rw [if_pos hz] at hk
    exact join_back hi1 (hb1.bx (by omega)) (by omega) (by omega) fun p c => fun w G cx => hk ea (upd ia i { ia i with bp := p, bc := c }) w (hP1.inn (hP1.gt i hi1)) cx.left
  · have hz := of_decide_eq_false hz
    rw [if_neg hz] at hk
    refine exI_mk (fun ni R' Φ' m => ∃ (j : Nat) (ea' : Nat → EA), ni = j ∧ j ≤ (y.ins i).box.length ∧ R' = lay A ea' ia (boxedL y ((y.ins i).box.take j)) ++ (boxR p cap l :: S) ∧ Φ' = Φ1 ∧ m = (y.ins i).box.length - j ∧ NP ea' ia (boxedL y ((y.ins i).box.take j))) ⟨⟨_, Φ1, _, inferInstance, fun w G cx => cx, 0, ea, rfl, Nat.zero_le _, rfl, rfl, rfl, hP1⟩, ?_⟩
    rintro ni R2 Φ2 m _ ⟨j, ea1, rfl, hj, rfl, rfl, rfl, hP2⟩
    have hs2 := same_boxedL ((y.ins i).box.take j) y
    have hE2 := hs2.edF hE1
    have hb2 := hs2.ptr hb1
    have hins : (boxedL y ((y.ins i).box.take j)).ins = y.ins := boxedL_ins _ _
    have hbd2 : ∀ k, k < y.ne → ((boxedL y ((y.ins i).box.take j)).eds k).boxed.length < 1000000 := fun k hk => by
      have h1 := boxedL_len k ((y.ins i).box.take j) y
      have h2 := hbx1 k hk
      rw [List.length_take] at h1
      omega
    have hnext : ∀ (h : j < (y.ins i).box.length), boxedL y ((y.ins i).box.take (j + 1)) = boxedStep (boxedL y ((y.ins i).box.take j)) (y.ins i).box[j] := fun h => by rw [List.take_succ_eq_append_getElem h, boxedL_snoc]
    have hlast : j = (y.ins i).box.length → boxedL y ((y.ins i).box.take j) = boxedL y (y.ins i).box := fun h => by rw [h, List.take_length]
    have hz2 := hs2.ne
    have hn2 := hs2.n
    generalize boxedL y ((y.ins i).box.take j) = z at *
    have hi2 : i < z.n := by omega
    have hlen : (z.ins i).box.length = (y.ins i).box.length := by rw [hins]
    refine fun w G cx => ⟨_, _, _, lay_x cx rfl, ⟨by omega, Int.ofNat_lt.2 hi2⟩, ptrK_intro b3 0 (hb2.bx (by omega)) fun w G cx => ⟨_, _, _, lay_get cx 3 rfl (hb2.bx (by omega)) hi2, Br.intro (fun hlt => ?_) (fun hge => ?_)⟩⟩
    · have hlt : j < (z.ins i).box.length := by have := of_decide_eq_true hlt; omega
      refine fun w G cx => ⟨_, _, _, lay_x cx rfl, ⟨by omega, Int.ofNat_lt.2 hi2⟩, ptrK_intro b3 0 (hb2.bx (by omega)) fun w G cx => ⟨_, _, _, lay_get cx 3 rfl (hb2.bx (by omega)) hi2, by omega, ?_⟩⟩
      obtain ⟨bb, hbb⟩ := box_ptr hi2 cx (by omega)
      refine ptrK_intro bb 0 hbb fun w G cx => ⟨_, _, _, _, _, _, _, _, _, itemRow hi2 cx hlt hbb, fun b0 => ?_⟩
      have hitm : (z.ins i).box[j] = (y.ins i).box[j]'(by omega) := by simp only [hins]
      have hke : (z.ins i).box[j].1 < z.ne := by rw [hz2, hitm]; exact hit1 _ (List.getElem_mem _)
      have hnx : boxedL y ((y.ins i).box.take (j + 1)) = boxedStep z (z.ins i).box[j] := by rw [hnext (by omega), hitm]
      generalize (z.ins i).box[j] = it at *
      exact push_boxed (x := z) (hb2.bd (by omega)) hke it.2.n (hbd2 _ (by omega)) fun p2 c2 => ⟨by unfold I64; omega, _, Φ2, (y.ins i).box.length - (j + 1), inferInstance, fun w G cx => cx, ⟨j + 1, upd ea1 it.1 { ea1 it.1 with bp := p2, bc := c2 }, by omega, by omega, by rw [hnx]; rfl, rfl, rfl, by rw [hnx]; exact hP2.ed (hP2.ch it.1 hke)⟩, by omega⟩
    · have hge : j = (y.ins i).box.length := by have := of_decide_eq_false hge; omega
      have hzl := hlast hge
      have ez : y.ins i = z.ins i := by rw [hins]
      rw [← hzl] at hk
      rw [ez] at hk
      exact join_front hi2 (hb2.bx (by omega)) (by omega) (by omega) fun p c => fun w G cx => hk ea1 (upd ia i { ia i with bp := p, bc := c }) w (hP2.inn (hP2.gt i hi2)) cx.left

end
end Go.Proofs.Ytmlnockcmdameaa
end

/-
  flush, walked.
-/
section
set_option linter.unusedVariables false
set_option linter.unusedSimpArgs false
namespace Go.Proofs.Ytmlnockcmdameaa
open Go.Vc


section
variable {W w : World} {S : List Own} {Φ : PW} {A : NA} {ea : Nat → EA} {ia : Nat → IA} {x : NtD}

theorem swap_box [Stable Φ] {R0 F : List Own} {i : Nat} {p : Option Addr} {c : Nat} {l : List (Nat × MsgL)} (c3 : Ctx W w (boxR p c l :: ((hd A ea ia x ++ (inK (ia i) (x.ins i) ++ (restI ea ia x i ++ R0))) ++ F)) Φ) :
    Ctx W w ((hd A ea ia x ++ ([gtB (ia i).gt (x.ins i).gate, gtM (ia i).gt, boxR p c l] ++ (restI ea ia x i ++ R0))) ++ F) Φ := by
  have c5 : Ctx W w (boxR p c l :: ((hd A ea ia x ++ [gtB (ia i).gt (x.ins i).gate, gtM (ia i).gt]) ++ ((restI ea ia x i ++ R0) ++ F))) Φ := c3.sub (.cons_cons _ (.cons_cons _ (.cons_cons _ (.cons_cons _ (.cons_cons _ (.cons_cons _ (.cons_cons _ (.cons_cons _ (.cons_cons _ (.cons_cons _ (.cons_cons _ (.cons_cons _ (.cons _ (List.Sublist.refl _))))))))))))))
  exact c5.perm (List.perm_middle (a := boxR p c l) (l₁ := hd A ea ia x ++ [gtB (ia i).gt (x.ins i).gate, gtM (ia i).gt]) (l₂ := (restI ea ia x i ++ R0) ++ F)).symm

/-- append a part of an outbox to another -/
theorem _root_.Go.Vc.Ctx.appPart [Stable Φ] {pd ps : Option Addr} {cd c2 : Nat} {ld ls : List (Nat × MsgL)} (kd ks : Nat) (c : Ctx W w S Φ) (hd : S[kd]? = some (boxR pd cd ld)) (hs : S[ks]? = some (boxR ps c2 ls)) (h1 : ld.length ≤ 1000000) (h2 : ls.length ≤ 1000000) (a m c3 : Nat) (ham : a + m ≤ ls.length) {q : Option Addr} (hq : ∀ b, 0 < m → ps = some ⟨b, 0, none⟩ → q = some ⟨b, a * 7, none⟩) :
    ∃ p' cap' w', Sem.run Try.prog (builtin Builtin.append #[33, 33] 33 #[false, false] #[.slice pd ld.length cd, .slice q m c3]) w = .ok (.value (.slice p' (ld ++ (ls.drop a).take m).length cap')) w' ∧ Ctx W w' (S.set kd (boxR p' cap' (ld ++ (ls.drop a).take m))) Φ := by
  obtain ⟨i, z, e1, e2, e3, e4, e5, e6⟩ := appB_out (show appB Try.prog 33 57 7 72 = true by kernel_rfl)
  have hml : ((ls.drop a).take m).length = m := by rw [List.length_take, List.length_drop]; omega
  rcases Nat.eq_zero_or_pos m with h0 | h0
  · subst h0
    refine ⟨pd, cd, w, ?_, ?_⟩
    · rw [List.take_zero, List.append_nil]; exact run_app (c.append0 kd hd e1 e2 q c3)
    · rw [List.take_zero, List.append_nil]
      refine c.re ?_
      apply List.ext_getElem?
      intro j
      rw [List.getElem?_set]
      split
      · rename_i e; subst e; rw [if_pos (List.getElem?_eq_some_iff.1 hd).1]; exact hd
      · rfl
  · obtain ⟨b, hb, _, hcell⟩ := c.bufCell ks hs (by rw [(c.bufLen ks hs).1]; omega)
    have hqq := hq b h0 hb
    have hnl : (((ls.drop a).take m).flatMap itemC).length = m * 7 := by
      rw [List.length_flatMap, show (List.map (fun a => (itemC a).length) ((ls.drop a).take m)) = List.replicate m 7 by rw [show (fun a => (itemC a).length) = fun _ => 7 from rfl, List.map_const', hml]]
      rw [List.sum_replicate_nat]
    have hsub : ∀ j u, (((ls.drop a).take m).flatMap itemC)[j]? = some u → (ls.flatMap itemC)[a * 7 + j]? = some u := fun j u hj => by
      have hj7 : j < m * 7 := by have := (List.getElem?_eq_some_iff.1 hj).1; omega
      have hj1 : j = j / 7 * 7 + j % 7 := by omega
      have hjm : j / 7 < m := by omega
      have := flat_get itemC 7 (fun _ => rfl) ((ls.drop a).take m) (j / 7) (j % 7) (by omega) (Nat.mod_lt _ (by omega))
      rw [← hj1, hj] at this
      have h3 := flat_get itemC 7 (fun _ => rfl) ls (a + j / 7) (j % 7) (by omega) (Nat.mod_lt _ (by omega))
      rw [show (a + j / 7) * 7 + j % 7 = a * 7 + j by omega] at h3
      rw [h3, this, List.getElem_take, List.getElem_drop]
    obtain ⟨p', cap', w', hr, c'⟩ := c.append kd hd (ty := 33) e1 e2 e3 e4 e5 (a := ⟨b, a * 7, none⟩) (m := m) (c2 := c3) (news := ((ls.drop a).take m).flatMap itemC) h0 hnl (fun j u hj => by rw [addr_add]; exact (hcell _ u (hsub j u hj)).1)
      (fun u hu => List.all_eq_true.1 (items_one _) u hu) (by
        have hby : (ld.length + m) * i.bytes ≤ 2000000 * 1000 := Nat.mul_le_mul (by omega) (by omega)
        omega) (by omega)
    refine ⟨p', cap', w', ?_, ?_⟩
    · rw [hqq, List.length_append, hml]; exact run_app hr
    · refine c'.re ?_
      show _ = S.set kd (Own.buf p' (ld ++ (ls.drop a).take m).length cap' ((ld ++ (ls.drop a).take m).flatMap itemC) _ _)
      rw [List.length_append, hml, List.flatMap_append]

/-- the channel of an edge, taken out of what is owned -/
theorem chan_in {R F : List Own} [Stable Φ] {k : Nat} (hk : k < x.ne) (c : Ctx W w ((lay A ea ia x ++ R) ++ F) Φ) :
    Ctx W w (chB (ea k).ch :: ((hd A ea ia x ++ ([intR (ea k).mp (ea k).mc (x.eds k).made, intR (ea k).bp (ea k).bc (x.eds k).boxed, intR (ea k).hp (ea k).hc (x.eds k).handled, intR (ea k).fp (ea k).fc (x.eds k).flying] ++ (restE ea ia x k ++ R))) ++ F)) Φ := by
  have c1 := c.inE hk
  exact c1.perm (List.perm_middle (a := chB (ea k).ch) (l₁ := hd A ea ia x))
theorem chan_out {R F : List Own} [Stable Φ] {k : Nat} (hk : k < x.ne) {a : ChA} (ha : a.cb = (ea k).ch.cb) (q : List MsgL) (s : Nat) (c : Ctx W w (chB a :: ((hd A ea ia x ++ ([intR (ea k).mp (ea k).mc (x.eds k).made, intR (ea k).bp (ea k).bc (x.eds k).boxed, intR (ea k).hp (ea k).hc (x.eds k).handled, intR (ea k).fp (ea k).fc (x.eds k).flying] ++ (restE ea ia x k ++ R))) ++ F)) Φ) :
    Ctx W w ((lay A (upd ea k { ea k with ch := a }) ia (x.setEd k { x.eds k with q := q, sent := s }) ++ R) ++ F) Φ := by
  have c1 : Ctx W w ((hd A ea ia x ++ (chB a :: ([intR (ea k).mp (ea k).mc (x.eds k).made, intR (ea k).bp (ea k).bc (x.eds k).boxed, intR (ea k).hp (ea k).hc (x.eds k).handled, intR (ea k).fp (ea k).fc (x.eds k).flying] ++ (restE ea ia x k ++ R)))) ++ F) Φ := c.perm (List.perm_middle (a := chB a) (l₁ := hd A ea ia x)).symm
  refine Ctx.outE (e := { ea k with ch := a }) (d := { x.eds k with q := q, sent := s }) hk ?_
  rw [hdE]
  simp only [ha, upd_gCh, upd_gMd, upd_gBd, upd_gHd, upd_gFy]
  exact c1

theorem sub2 : [Own.blk A.xb (netC A x) 40, arr A.chp A.chc x.ne 49 (gCh ea)].Sublist (hd A ea ia x) := .cons_cons _ (.cons_cons _ (List.nil_sublist _))

theorem findIdx_none {α : Type} {p : α → Bool} {l : List α} (h : ∀ j, (hj : j < l.length) → p l[j] = false) : l.findIdx? p = none := by
  rw [List.findIdx?_eq_none_iff]
  intro a ha
  obtain ⟨j, hj, e⟩ := List.getElem_of_mem ha
  rw [← e]; exact h j hj
theorem findIdx_some {α : Type} {p : α → Bool} {l : List α} {k : Nat} (hk : k < l.length) (hp : p l[k] = true) (h : ∀ j, (hj : j < k) → p (l[j]'(by omega)) = false) : l.findIdx? p = some k := by
  rw [List.findIdx?_eq_some_iff_getElem]
  exact ⟨hk, hp, fun j hj => by rw [h j hj]; simp⟩

set_option maxHeartbeats 4000000 in
theorem flush_use [Stable Φ] (hE : EdF Φ A x) {i : Nat} (hi : i < x.n) (hP : NP ea ia x) (hbox : (x.ins i).box.length ≤ 10000) (hitem : ∀ y ∈ (x.ins i).box, y.1 < x.ne ∧ MsgOk y.2) (hsent : ∀ k, k < x.ne → (x.eds k).sent < 1000000000)
    (c : Ctx W w (lay A ea ia x ++ S) Φ) {K : Ending → World → Prop}
    (hk0 : flushS x i = none → ∀ w', Ctx W w' (lay A ea ia x ++ S) Φ → K (.returned (.bool false)) w')
    (hk1 : ∀ y, flushS x i = some y → ∀ ea' ia' w', NP ea' ia' y → Ctx W w' (lay A ea' ia' y ++ S) Φ → K (.returned (.bool true)) w') : Calls Try.prog F.erratalaw39_net_flush #[.pointer (some ⟨A.xb, 0, none⟩), .int .i64 i] w K := by
  obtain ⟨b1, b2, b3, b4, b5, b6, b7, b8, hb⟩ := (lay_hd c).ptr
  refine (Berratalaw39_net_flush_run A.xb 0 i (J := fun u w' => K (.returned u) w') c ?_).mono fun e w' ⟨v, he, hj⟩ => by rw [he]; exact hj
  refine exI_mk (fun ni R' Φ' m => ∃ k : Nat, ni = k ∧ k ≤ (x.ins i).box.length ∧ R' = lay A ea ia x ++ S ∧ Φ' = Φ ∧ m = (x.ins i).box.length - k ∧ ∀ j, (hj : j < k) → (hj2 : j < (x.ins i).box.length) → freeAt x (x.ins i).box[j] = false) ⟨⟨_, Φ, _, inferInstance, fun w G cx => cx, 0, rfl, Nat.zero_le _, rfl, rfl, rfl, fun j hj => by omega⟩, ?_⟩
  rintro ni R1 Φ1 m _ ⟨k, rfl, hkl, rfl, rfl, rfl, hfull⟩
  refine fun w G cx => ⟨_, _, _, lay_x cx rfl, ⟨by omega, Int.ofNat_lt.2 hi⟩, ptrK_intro b3 0 (hb.bx (by omega)) fun w G cx => ⟨_, _, _, lay_get cx 3 rfl (hb.bx (by omega)) hi, Br.intro (fun hlt => ?_) (fun hge => fun w G cx => ?_)⟩⟩
  rotate_left
  · have hge : k = (x.ins i).box.length := by have := of_decide_eq_false hge; omega
    subst hge
    refine hk0 ?_ w cx.left
    unfold flushS
    rw [findIdx_none fun j hj => hfull j hj hj]
  have hlt : k < (x.ins i).box.length := by have := of_decide_eq_true hlt; omega
  refine fun w G cx => ⟨_, _, _, lay_x cx rfl, ⟨by omega, Int.ofNat_lt.2 hi⟩, ptrK_intro b3 0 (hb.bx (by omega)) fun w G cx => ⟨_, _, _, lay_get cx 3 rfl (hb.bx (by omega)) hi, by omega, ?_⟩⟩
  obtain ⟨bb, hbb⟩ := box_ptr hi cx (by omega)
  have hcap : (x.ins i).box.length ≤ (ia i).bc := ((cx.inI hi).bufLen 11 rfl).2.1
  refine ptrK_intro bb 0 hbb fun w G cx => ⟨_, _, _, _, _, _, _, _, _, itemRow hi cx hlt hbb, fun b0 w G cx => ?_⟩
  obtain ⟨hke, hmo⟩ := hitem _ (List.getElem_mem hlt)
  have hfk : freeAt x (x.ins i).box[k] = decide ((x.eds (x.ins i).box[k].1).q.length < 4) := rfl
  have hgetk : (x.ins i).box[k]?.getD (0, barM 0) = (x.ins i).box[k] := by rw [List.getElem?_eq_getElem hlt]; rfl
  generalize hit : (x.ins i).box[k] = it at *
  have hch := hP.ch it.1 hke
  have h4 := hch.count
  refine ⟨_, _, _, lay_x cx rfl, ⟨by omega, Int.ofNat_lt.2 hke⟩, ptrK_intro b1 0 (hb.ch (by omega)) ⟨_, lay_get cx 1 rfl (hb.ch (by omega)) hke, 4 - ((x.eds it.1).q.length : Int), fun w3 hw3 => ?_, Br.intro (fun hz => ?_) (fun hz => ?_)⟩⟩
  · obtain ⟨d, hw3⟩ := hw3
    subst hw3
    have c2 := chan_in hke (show Ctx W (w.drewN d) ((lay A ea ia x ++ S) ++ G) Φ1 from Ctx.draw cx d)
    exact (Free_q (c2.get 0 rfl hch.c25) (by omega) (by omega)).mono fun e w' ⟨g1, g2⟩ => ⟨g1, d, g2⟩
  · have hz := of_decide_eq_true hz
    refine ⟨by unfold I64; omega, _, Φ1, (x.ins i).box.length - (k + 1), inferInstance, fun w G cx => cx, ⟨k + 1, by omega, hlt, rfl, rfl, rfl, fun j hj hj2 => ?_⟩, by omega⟩
    rcases Nat.lt_or_ge j k with h | h
    · exact hfull j h hj2
    · have : j = k := by omega
      subst this
      rw [hit, hfk, decide_eq_false (by omega)]
  have hz := of_decide_eq_false hz
  have hq4 : (x.eds it.1).q.length < 4 := by omega
  have hfl : flushS x i = some ((x.push it).setBox i ((x.ins i).box.take k ++ (x.ins i).box.drop (k + 1))) := by
    unfold flushS
    rw [findIdx_some hlt (by rw [hit, hfk, decide_eq_true hq4]) fun j hj => hfull j hj (by omega)]
    simp only [hgetk]
  have get2 : ∀ (w : World) (R : List Own), Ctx W w ([Own.blk A.xb (netC A x) 40, arr A.chp A.chc x.ne 49 (gCh ea)] ++ R) tru → ∃ (p34 : Option Addr), ∃ (k35 : Nat), ∃ (k36 : Nat), w.cell? (Addr.mk A.xb (0 + 1) none) = some (Value.slice p34 k35 k36) ∧ Value.slice p34 k35 k36 = Value.slice A.chp x.ne A.chc := fun w R cx => ⟨_, _, _, cx.get 0 rfl rfl, rfl⟩
  refine ⟨_, tru, inferInstance, fun w F cx => cut_to cx (sub_lay sub2), _, _, _, get2, ⟨by omega, Int.ofNat_lt.2 hke⟩, ptrK_intro b1 0 (hb.ch (by omega)) ⟨some ⟨(ea it.1).ch.cb, 0, none⟩, fun w F cx => ⟨_, cx.arrGet 1 rfl (hb.ch (by omega)) hke, rfl⟩, fun w G cx => ?_⟩⟩
  have hsl : (x.eds it.1).sent < 1000000000000 := by have := hsent it.1 hke; omega
  refine Send_ok (chan_in hke cx) hch hmo hq4 hsl fun w cx => ?_
  have c3 := chan_out (x := x) hke (a := (ea it.1).ch.sent (x.eds it.1).q.length (x.eds it.1).sent it.2.cells) rfl ((x.eds it.1).q ++ [it.2]) ((x.eds it.1).sent + 1) cx
  have c4 : Ctx W w ((lay A (upd ea it.1 { ea it.1 with ch := (ea it.1).ch.sent (x.eds it.1).q.length (x.eds it.1).sent it.2.cells }) ia (x.push it) ++ S) ++ G) Φ1 := c3
  clear c3 cx
  refine ⟨0, rfl, _, Φ1, inferInstance, c4, Br.intro (fun h => by cases h) (fun _ => ?_)⟩
  have hP2 : NP (upd ea it.1 { ea it.1 with ch := (ea it.1).ch.sent (x.eds it.1).q.length (x.eds it.1).sent it.2.cells }) ia (x.push it) := hP.ed (k := it.1) (d := { x.eds it.1 with q := (x.eds it.1).q ++ [it.2], sent := (x.eds it.1).sent + 1 }) (hch.send hq4)
  have hs2 := same_push x it
  have eb : ((x.push it).ins i).box = (x.ins i).box := rfl
  have hb2 := hs2.ptr hb
  rw [← eb] at hfl hlt hbox hcap
  have hi2 : i < (x.push it).n := hi
  clear hE hP hitem hsent c hb hfull hgetk hit hke hmo hfk hch h4 hz hq4 hs2 eb get2 c4 hsl hk0
  generalize hea : upd ea it.1 { ea it.1 with ch := (ea it.1).ch.sent (x.eds it.1).q.length (x.eds it.1).sent it.2.cells } = ea2 at *
  generalize x.push it = y at *
  refine ⟨_, tru, inferInstance, fun w F cx => cut_to cx (sub_lay sub3), by unfold I64; omega, _, _, _, get3, _, _, _, get3, _, _, _, get3, ⟨by omega, Int.ofNat_lt.2 hi2⟩, ptrK_intro b3 0 (hb2.bx (by omega)) ⟨⟨by omega, Int.ofNat_lt.2 hi2⟩, ptrK_intro b3 0 (hb2.bx (by omega)) ⟨_, _, _, fun w F cx => ⟨_, _, _, cx.arrGet 1 rfl (hb2.bx (by omega)) hi2, rfl⟩, _, _, _, fun w F cx => ⟨_, _, _, cx.arrGet 1 rfl (hb2.bx (by omega)) hi2, rfl⟩, ?_⟩⟩⟩
  refine ⟨⟨by omega, by omega⟩, ⟨by omega, by omega, hcap⟩, fun kb => ⟨fun w F cx => cut_to cx (List.Sublist.cons _ (sub_lay sub3)), fun w F cx => ?_⟩⟩
  have c1 : Ctx W w (boxR (some ⟨kb, 0, none⟩) 0 [] :: ((lay A ea2 ia y ++ S) ++ F)) Φ1 := Ctx.toBuf cx 0 0 7 rfl rfl (Nat.zero_le _)
  have c2 : Ctx W w (boxR (some ⟨kb, 0, none⟩) 0 [] :: ((hd A ea2 ia y ++ (inK (ia i) (y.ins i) ++ (restI ea2 ia y i ++ S))) ++ F)) Φ1 := c1.perm (List.Perm.cons _ ((focI hi2 S).append_right F))
  obtain ⟨p1, cap1, w1, hr1, c3⟩ := c2.appPart 0 12 (ld := []) (ls := (y.ins i).box) (ps := (ia i).bp) (c2 := (ia i).bc) rfl rfl (by simp) (by omega) 0 k (ia i).bc (by omega) (q := subPtr (ia i).bp 7 0 (ia i).bc) (fun b _ hbb => by rw [hbb]; unfold subPtr; split <;> rfl)
  rw [List.drop_zero, List.nil_append] at hr1 c3
  have c4 : Ctx W w1 ((boxR p1 cap1 ((y.ins i).box.take k) :: lay A ea2 ia y ++ S) ++ F) Φ1 := by
    have c5 : Ctx W w1 (boxR p1 cap1 ((y.ins i).box.take k) :: ((hd A ea2 ia y ++ (inK (ia i) (y.ins i) ++ (restI ea2 ia y i ++ S))) ++ F)) Φ1 := c3
    exact c5.perm (List.Perm.cons _ ((focI hi2 S).append_right F).symm)
  refine ⟨p1, _, cap1, w1, hr1, boxR p1 cap1 ((y.ins i).box.take k) :: lay A ea2 ia y ++ S, Φ1, inferInstance, c4, fun w F cx => cut_to cx (List.Sublist.cons _ (sub_lay sub3)), fun w F cx => ?_⟩
  have c2 : Ctx W w (boxR p1 cap1 ((y.ins i).box.take k) :: ((hd A ea2 ia y ++ (inK (ia i) (y.ins i) ++ (restI ea2 ia y i ++ S))) ++ F)) Φ1 := Ctx.perm cx (List.Perm.cons _ ((focI hi2 S).append_right F))
  have hlen2 : ((y.ins i).box.take k).length ≤ 1000000 := by rw [List.length_take]; omega
  have e1 : (k : Int) + 1 = ((k + 1 : Nat) : Int) := by omega
  rw [e1, Int.toNat_natCast]
  obtain ⟨p2, cap2, w2, hr2, c3⟩ := c2.appPart 0 12 (ld := (y.ins i).box.take k) (ls := (y.ins i).box) (ps := (ia i).bp) (c2 := (ia i).bc) rfl rfl hlen2 (by omega) (k + 1) ((y.ins i).box.length - (k + 1)) ((ia i).bc - (k + 1)) (by omega) (q := subPtr (ia i).bp 7 (k + 1) (ia i).bc) (fun b h0 hbb => by
    rw [hbb]; unfold subPtr; rw [if_neg (by omega)]; show some (Addr.mk b (0 + (k + 1) * 7) none) = _; rw [Nat.zero_add])
  have et : ((y.ins i).box.drop (k + 1)).take ((y.ins i).box.length - (k + 1)) = (y.ins i).box.drop (k + 1) := List.take_of_length_le (by rw [List.length_drop]; omega)
  rw [et] at hr2 c3
  have c4 := swap_box (show Ctx W w2 (boxR p2 cap2 ((y.ins i).box.take k ++ (y.ins i).box.drop (k + 1)) :: ((hd A ea2 ia y ++ (inK (ia i) (y.ins i) ++ (restI ea2 ia y i ++ S))) ++ F)) Φ1 from c3)
  refine ⟨p2, _, cap2, w2, hr2, _, Φ1, inferInstance, c4, fun w F cx => cut_to cx (sub3.trans (List.sublist_append_left _ _)), ⟨Int.natCast_nonneg _, Int.ofNat_lt.2 hi2⟩, ptrK_intro b3 0 (hb2.bx (by omega)) fun w F cx => ?_⟩
  obtain ⟨g1, g2⟩ := put_box hi2 (hb2.bx (by omega)) cx
  refine ⟨g1, fun w' hw' => ⟨_, Φ1, inferInstance, g2 w' hw', fun w F cx => ?_⟩⟩
  exact hk1 _ hfl ea2 (upd ia i { ia i with bp := p2, bc := cap2 }) w (hP2.inn (hP2.gt i hi2)) cx.left
end
end Go.Proofs.Ytmlnockcmdameaa
end

/-
  take, walked.
-/
section
set_option linter.unusedVariables false
set_option linter.unusedSimpArgs false
namespace Go.Proofs.Ytmlnockcmdameaa
open Go.Vc


section
variable {W w : World} {S : List Own} {Φ : PW} {A : NA} {ea : Nat → EA} {ia : Nat → IA} {x : NtD}

theorem gate_in {R F : List Own} [Stable Φ] {i : Nat} (hi : i < x.n) (c : Ctx W w ((lay A ea ia x ++ R) ++ F) Φ) :
    Ctx W w (gtB (ia i).gt (x.ins i).gate :: gtM (ia i).gt :: ((hd A ea ia x ++ (boxR (ia i).bp (ia i).bc (x.ins i).box :: (restI ea ia x i ++ R))) ++ F)) Φ := by
  have c1 := c.inI hi
  have c2 := c1.perm (List.perm_middle (a := gtB (ia i).gt (x.ins i).gate) (l₁ := hd A ea ia x))
  exact c2.perm (List.Perm.cons _ (List.perm_middle (a := gtM (ia i).gt) (l₁ := hd A ea ia x)))
theorem gate_out {R F : List Own} [Stable Φ] {i : Nat} (hi : i < x.n) {a : GtA} (ha : a.gb = (ia i).gt.gb) (g : GtD) (c : Ctx W w (gtB a g :: gtM a :: ((hd A ea ia x ++ (boxR (ia i).bp (ia i).bc (x.ins i).box :: (restI ea ia x i ++ R))) ++ F)) Φ) :
    Ctx W w ((lay A ea (upd ia i { ia i with gt := a }) (x.setGate i g) ++ R) ++ F) Φ := by
  have c2 : Ctx W w (gtB a g :: ((hd A ea ia x ++ (gtM a :: (boxR (ia i).bp (ia i).bc (x.ins i).box :: (restI ea ia x i ++ R)))) ++ F)) Φ := c.perm (List.Perm.cons _ (List.perm_middle (a := gtM a) (l₁ := hd A ea ia x)).symm)
  have c1 : Ctx W w ((hd A ea ia x ++ (gtB a g :: gtM a :: (boxR (ia i).bp (ia i).bc (x.ins i).box :: (restI ea ia x i ++ R)))) ++ F) Φ := c2.perm (List.perm_middle (a := gtB a g) (l₁ := hd A ea ia x)).symm
  refine Ctx.outI (e := { ia i with gt := a }) (d := { x.ins i with gate := g }) hi ?_
  rw [hdI]
  simp only [ha, upd_gGa, upd_gBx, upd_gRp]
  exact c1

/-- what is left as it is when a gate answers and a message leaves its channel -/
structure Calm (x y : NtD) : Prop where
  same : SameE x y
  kind : y.kind = x.kind
  num : y.num = x.num
  box : ∀ i, (y.ins i).box = (x.ins i).box
  rep : ∀ i, (y.ins i).rep = (x.ins i).rep
  made : ∀ k, (y.eds k).made = (x.eds k).made
  boxed : ∀ k, (y.eds k).boxed = (x.eds k).boxed
theorem calm_gate (x : NtD) (i : Nat) (g : GtD) : Calm x (x.setGate i g) := by
  refine ⟨same_gate x i g, rfl, rfl, fun j => ?_, fun j => ?_, fun _ => rfl, fun _ => rfl⟩
  · show (upd x.ins i _ j).box = _
    by_cases h : j = i
    · subst h; rw [upd_self]
    · rw [upd_ne h]
  · show (upd x.ins i _ j).rep = _
    by_cases h : j = i
    · subst h; rw [upd_self]
    · rw [upd_ne h]
theorem calm_ed (x : NtD) (k : Nat) (d : EdD) (h1 : d.src = (x.eds k).src) (h2 : d.dst = (x.eds k).dst) (h3 : d.made = (x.eds k).made) (h4 : d.boxed = (x.eds k).boxed) : Calm x (x.setEd k d) := by
  refine ⟨same_setEd x k d h1 h2, rfl, rfl, fun _ => rfl, fun _ => rfl, fun j => ?_, fun j => ?_⟩
  · show (upd x.eds k d j).made = _
    by_cases h : j = k
    · subst h; rw [upd_self]; exact h3
    · rw [upd_ne h]
  · show (upd x.eds k d j).boxed = _
    by_cases h : j = k
    · subst h; rw [upd_self]; exact h4
    · rw [upd_ne h]
theorem calm_q (x : NtD) (k : Nat) (q : List MsgL) : Calm x (x.setQ k q) := calm_ed x k _ rfl rfl rfl rfl
theorem calm_handled (x : NtD) (k : Nat) (l : List Int) : Calm x (x.setHandled k l) := calm_ed x k _ rfl rfl rfl rfl
theorem calm_flying (x : NtD) (k : Nat) (l : List Int) : Calm x (x.setFlying k l) := calm_ed x k _ rfl rfl rfl rfl
theorem Calm.refl (x : NtD) : Calm x x := ⟨.refl x, rfl, rfl, fun _ => rfl, fun _ => rfl, fun _ => rfl, fun _ => rfl⟩
theorem Calm.trans {x y z : NtD} (h1 : Calm x y) (h2 : Calm y z) : Calm x z := ⟨h1.same.trans h2.same, h2.kind.trans h1.kind, h2.num.trans h1.num, fun i => (h2.box i).trans (h1.box i), fun i => (h2.rep i).trans (h1.rep i), fun k => (h2.made k).trans (h1.made k), fun k => (h2.boxed k).trans (h1.boxed k)⟩
theorem calm_hand (x : NtD) (e : Nat) (m : MsgL) : Calm x (handS x e m) := by unfold handS; split; exact .refl x; exact calm_handled _ _ _
theorem calm_fly (x : NtD) (e : Nat) (m : MsgL) (a : Int) : Calm x (flyS x e m a) := by unfold flyS; split; exact calm_flying _ _ _; exact .refl x

/-- sizes that the methods can bear -/
structure NB (x : NtD) : Prop where
  ne : x.ne ≤ 1000
  src : ∀ k, k < x.ne → (x.eds k).src < x.n
  dst : ∀ k, k < x.ne → (x.eds k).dst < x.n
  box : ∀ i, i < x.n → (x.ins i).box.length ≤ 10000
  item : ∀ i, i < x.n → ∀ y ∈ (x.ins i).box, y.1 < x.ne ∧ MsgOk y.2
  kind : x.kind = 0 ∨ x.kind = 1
  made : ∀ k, k < x.ne → (x.eds k).made.length < 900000
  boxed : ∀ k, k < x.ne → (x.eds k).boxed.length ≤ 100000
  handled : ∀ k, k < x.ne → (x.eds k).handled.length < 900000
  flying : ∀ k, k < x.ne → (x.eds k).flying.length < 900000
  sent : ∀ k, k < x.ne → (x.eds k).sent < 1000000000

theorem dec0 (n : Nat) : decide (0 < (n : Int)) = decide (0 < n) := decide_eq_decide.2 (by omega)

set_option maxHeartbeats 1000000 in
theorem take_use [Stable Φ] (hE : EdF Φ A x) (hB : NB x) {e : Nat} (he : e < x.ne) (hin : inb x e < (x.ins (x.eds e).dst).gate.ch) (hP : NP ea ia x) (hI : ∀ m ∈ (x.eds e).q, MsgOk m) (c : Ctx W w (lay A ea ia x ++ S) Φ) {K : Ending → World → Prop}
    (hk : ∀ ea' ia' w', NP ea' ia' (takeS x e).2 → Ctx W w' (lay A ea' ia' (takeS x e).2 ++ S) Φ → K (.returned (.tuple #[.bool (takeS x e).1.1, .bool (takeS x e).1.2])) w') : Calls Try.prog F.erratalaw39_net_take #[.pointer (some ⟨A.xb, 0, none⟩), .int .i64 e] w K := by
  obtain ⟨b1, b2, b3, b4, b5, b6, b7, b8, hb⟩ := (lay_hd c).ptr
  have hne := hB.ne
  have hdn := hB.dst e he
  have hbox := hB.box _ hdn
  refine (Berratalaw39_net_take_run A.xb 0 e (J := fun u w' => K (.returned u) w') c ?_).mono fun e w' ⟨v, he, hj⟩ => by rw [he]; exact hj
  refine fun w G cx => ⟨_, _, _, lay_x cx rfl, by omega, ptrK_intro A.eg A.eo (hE.ptr (by omega)) fun w G cx => ⟨_, hE.cell1 cx.phi he, fun w G cx => ⟨_, _, _, lay_x cx rfl, by omega, ptrK_intro b1 0 (hb.ch (by omega)) fun w G cx => ⟨_, lay_get cx 1 rfl (hb.ch (by omega)) he, fun w G cx => ?_⟩⟩⟩⟩
  generalize hi : (x.eds e).dst = i at *
  have hch := hP.ch e he
  cases hq : (x.eds e).q with
  | nil =>
    have ht : takeS x e = ((false, true), x) := by unfold takeS; rw [hq]
    rw [ht] at hk
    rw [hq] at hch
    refine Head_none (chan_in he cx) hch fun w cx => ⟨0, 0, 0, 0, 0, none, 0, 0, false, rfl, lay A ea ia x ++ S, Φ, inferInstance, ?_, fun b0 w G cx => ⟨none, 0, 0, (fun h => by cases h), (fun h => by cases h), ptrK_off rfl fun _ _ => ⟨none, 0, 0, (fun h => by cases h), 0, (fun h => by cases h), Br.intro (fun _ => fun w G cx => hk ea ia w hP cx.left) (fun h => by cases h)⟩⟩⟩
    have c2 := chan_out (x := x) he (a := (ea e).ch) rfl (x.eds e).q (x.eds e).sent cx
    rw [show ({ ea e with ch := (ea e).ch } : EA) = ea e from rfl, upd_id] at c2
    have e2 : x.setEd e { x.eds e with q := (x.eds e).q, sent := (x.eds e).sent } = x := by unfold NtD.setEd; rw [upd_id]
    rw [e2] at c2
    exact c2
  | cons m q =>
    rw [hq] at hch
    have hmo : MsgOk m := hI m (by rw [hq]; simp)
    have h4 := hch.count
    have back : ∀ {w : World} {G : List Own}, Ctx W w (chB (ea e).ch :: ((hd A ea ia x ++ ([intR (ea e).mp (ea e).mc (x.eds e).made, intR (ea e).bp (ea e).bc (x.eds e).boxed, intR (ea e).hp (ea e).hc (x.eds e).handled, intR (ea e).fp (ea e).fc (x.eds e).flying] ++ (restE ea ia x e ++ S))) ++ G)) Φ → Ctx W w ((lay A ea ia x ++ S) ++ G) Φ := fun cx => by
      have c2 := chan_out (x := x) he (a := (ea e).ch) rfl (x.eds e).q (x.eds e).sent cx
      rw [show ({ ea e with ch := (ea e).ch } : EA) = ea e from rfl, upd_id] at c2
      have e2 : x.setEd e { x.eds e with q := (x.eds e).q, sent := (x.eds e).sent } = x := by unfold NtD.setEd; rw [upd_id]
      rw [e2] at c2
      exact c2
    refine Head_some (chan_in he cx) hch fun w cx => ?_
    have cx := back cx
    refine ⟨m.kind, 0, 0, 0, m.n, none, 0, 0, true, rfl, lay A ea ia x ++ S, Φ, inferInstance, cx, fun b0 w G cx => ⟨_, _, _, fun _ => lay_x cx rfl, fun _ => ⟨by omega, Int.ofNat_lt.2 hdn⟩, ptrK_intro b3 0 (hb.bx (by omega)) ⟨_, _, _, fun _ => lay_get cx 3 rfl (hb.bx (by omega)) hdn, _, fun _ => lay_x cx rfl, ?_⟩⟩⟩
    have ebl : (decide (0 < ((x.ins i).box.length : Int)) && (decide (x.kind ≠ 1) || decide (m.kind ≠ 1))) = blockedS x e m := by unfold blockedS; rw [hi, dec0]
    rw [show ((!true) || decide (0 < ((x.ins i).box.length : Int)) && (decide (x.kind ≠ 1) || decide (m.kind ≠ 1))) = blockedS x e m from ebl]
    refine Br.intro (fun hbl => fun w G cx => ?_) (fun hbl => ?_)
    · have ht : takeS x e = ((false, true), x) := by unfold takeS; rw [hq]; simp only [hbl, if_true]
      rw [ht] at hk
      exact hk ea ia w hP cx.left
    have subg : [Own.blk A.xb (netC A x) 40, arr A.gap A.gac x.n 52 (gGa ia)].Sublist (hd A ea ia x) := .cons_cons _ (.cons _ (.cons_cons _ (List.nil_sublist _)))
    refine ⟨_, tru, inferInstance, fun w F cx => cut_to cx (sub_lay subg), _, _, _, fun w F cx => ⟨_, _, _, cx.get 0 rfl rfl, rfl⟩, _, fun w F cx => ⟨_, cx.get 0 rfl rfl, rfl⟩, ⟨by omega, Int.ofNat_lt.2 hdn⟩, ptrK_intro b2 0 (hb.ga (by omega)) ⟨some ⟨(ia i).gt.gb, 0, none⟩, fun w F cx => ⟨_, cx.arrGet 1 rfl (hb.ga (by omega)) hdn, rfl⟩, fun w G cx => ?_⟩⟩
    refine inbound_use (S := S ++ G) hE (by omega) he (by rw [← List.append_assoc]; exact cx) fun w cx => ⟨_, rfl, lay A ea ia x ++ S, Φ, inferInstance, by rw [List.append_assoc]; exact cx, fun w F cx => cut_to cx (sub_lay subg), fun w G cx => ?_⟩
    obtain ⟨r, hr⟩ : ∃ r, arriveS (x.ins i).gate (inb x e) m x.kind = r := ⟨_, rfl⟩
    refine Arrive_use (gate_in hdn cx) (hP.gt i hdn) (m := m) hin hB.kind fun a' w ha hPa cx => ?_
    rw [hr] at hPa cx ⊢
    have cx := gate_out hdn ha r.2 cx
    have hP2 : NP ea (upd ia i { ia i with gt := a' }) (x.setGate i r.2) := hP.inn (d := { x.ins i with gate := r.2 }) hPa
    generalize upd ia i { ia i with gt := a' } = ia2 at *
    refine ⟨r.1, rfl, lay A ea ia2 (x.setGate i r.2) ++ S, Φ, inferInstance, cx, Br.intro (fun h0 => fun w G cx => ?_) (fun h0 => Br.intro (fun h1 => fun w G cx => ?_) (fun h1 => fun w G cx => ?_))⟩
    · have ht : takeS x e = ((false, true), x.setGate i r.2) := by unfold takeS; rw [hq]; simp only [hbl, hi, hr, of_decide_eq_true h0, if_true, Bool.false_eq_true, if_false]
      rw [ht] at hk
      exact hk ea ia2 w hP2 cx.left
    · have ht : takeS x e = ((false, false), x.setGate i r.2) := by unfold takeS; rw [hq]; simp only [hbl, hi, hr, of_decide_eq_true h1, if_true, Bool.false_eq_true, if_false]; rfl
      rw [ht] at hk
      exact hk ea ia2 w hP2 cx.left
    have ht : takeS x e = ((true, true), actS ((x.setGate i r.2).setQ e q) e m r.1) := by unfold takeS; rw [hq]; simp only [hbl, hi, hr, of_decide_eq_false h0, of_decide_eq_false h1, Bool.false_eq_true, if_false]
    rw [ht] at hk
    have hcalm := (calm_gate x i r.2).trans (calm_q (x.setGate i r.2) e q)
    have hhd : ∀ k, (((x.setGate i r.2).setQ e q).eds k).handled = (x.eds k).handled ∧ (((x.setGate i r.2).setQ e q).eds k).flying = (x.eds k).flying := fun k => by
      show (upd (x.setGate i r.2).eds e _ k).handled = _ ∧ (upd (x.setGate i r.2).eds e _ k).flying = _
      by_cases h : k = e
      · subst h; rw [upd_self]; exact ⟨rfl, rfl⟩
      · rw [upd_ne h]; exact ⟨rfl, rfl⟩
    have he1 : e < (x.setGate i r.2).ne := he
    have hch1 : ChP (ea e).ch (m :: q) ((x.setGate i r.2).eds e).sent := hch
    refine ⟨_, _, _, lay_x cx rfl, ⟨by omega, Int.ofNat_lt.2 he⟩, ptrK_intro b1 0 (hb.ch (by omega)) fun w G cx => ⟨_, lay_get cx 1 rfl (hb.ch (by omega)) he, fun w G cx => ?_⟩⟩
    refine Take_some (chan_in he1 cx) hch1 fun w cx => ?_
    have c3 := chan_out (x := x.setGate i r.2) he1 (a := (ea e).ch.taken q.length) rfl q ((x.setGate i r.2).eds e).sent cx
    have c4 : Ctx W w ((lay A (upd ea e { ea e with ch := (ea e).ch.taken q.length }) ia2 ((x.setGate i r.2).setQ e q) ++ S) ++ G) Φ := c3
    have hP3 : NP (upd ea e { ea e with ch := (ea e).ch.taken q.length }) ia2 ((x.setGate i r.2).setQ e q) := hP2.ed (d := { (x.setGate i r.2).eds e with q := q }) hch1.take
    refine ⟨_, _, _, _, _, none, 0, 0, _, rfl, _, Φ, inferInstance, c4, ?_⟩
    clear c3 c4 cx back ht
    have hs := hcalm.same
    have hE1 := hs.edF hE
    have hb1 := hs.ptr hb
    have hkd := hcalm.kind
    have hbx : (((x.setGate i r.2).setQ e q).ins i).box.length ≤ 10000 := by rw [hcalm.box]; exact hbox
    have hit : ∀ y ∈ (((x.setGate i r.2).setQ e q).ins i).box, y.1 < ((x.setGate i r.2).setQ e q).ne := fun y hy => by rw [hcalm.box] at hy; rw [hs.ne]; exact (hB.item i hdn y hy).1
    have hmd : ∀ k, k < x.ne → (((x.setGate i r.2).setQ e q).eds k).made.length < 900000 := fun k hk => by rw [hcalm.made]; exact hB.made k hk
    have hbd : ∀ k, k < x.ne → (((x.setGate i r.2).setQ e q).eds k).boxed.length ≤ 100000 := fun k hk => by rw [hcalm.boxed]; exact hB.boxed k hk
    have hdst : (((x.setGate i r.2).setQ e q).eds e).dst = i := by rw [hs.dst, hi]
    have hh1 : (((x.setGate i r.2).setQ e q).eds e).handled.length < 1000000 := by rw [(hhd e).1]; have := hB.handled e he; omega
    have hf1 : (((x.setGate i r.2).setQ e q).eds e).flying.length < 1000000 := by rw [(hhd e).2]; have := hB.flying e he; omega
    have hk01 := hB.kind
    rw [← hkd] at hk01
    have hnn := hs.n
    have hnne := hs.ne
    generalize upd ea e { ea e with ch := (ea e).ch.taken q.length } = ea3 at *
    generalize (x.setGate i r.2).setQ e q = y at *
    have hd1 : i < y.n := by omega
    have he2 : e < y.ne := by omega
    have hact : ∀ {z : NtD}, actS y e m r.1 = z → ∀ ea' ia' w', NP ea' ia' z → Ctx W w' (lay A ea' ia' z ++ S) Φ → K (.returned (.tuple #[.bool true, .bool true])) w' := fun {z} hz ea' ia' w' g1 g2 => by
      subst hz
      exact hk ea' ia' w' g1 g2
    clear hk
    refine (fun (h1 : (r.1 = 1 ∨ r.1 = 2) → _) (h2 : ¬(r.1 = 1 ∨ r.1 = 2) → _) => Br.intro (fun g => Br.intro (fun _ => h1 (.inl (of_decide_eq_true g))) (fun g2 => absurd (of_decide_eq_true g) (of_decide_eq_false g2))) (fun g => Br.intro (fun g2 => h1 (.inr (of_decide_eq_true g2))) (fun g2 => h2 (fun h => h.elim (of_decide_eq_false g) (of_decide_eq_false g2))))) ?_ ?_
    · intro ha12
      refine exI_mk (fun R' Φ' => ∃ ea', R' = lay A ea' ia2 (handS y e m) ++ S ∧ Φ' = Φ ∧ NP ea' ia2 (handS y e m)) ⟨fun w G cx => ⟨_, _, _, lay_x cx rfl, ⟨by omega, Int.ofNat_lt.2 hd1⟩, ptrK_intro b4 0 (hb1.rp (by omega)) fun w G cx => ⟨_, lay_get cx 4 rfl (hb1.rp (by omega)) hd1, Br.intro (fun hr0 => ?_) (fun hr0 => ?_)⟩⟩, ?_⟩
      · have hr0 : (y.ins i).rep = false := by simpa using hr0
        have eh : handS y e m = y.setHandled e ((y.eds e).handled ++ [m.n]) := by unfold handS; rw [hdst, hr0]; rfl
        rw [eh]
        exact push_handled (hb1.hd (by omega)) he2 m.n hh1 fun p c => ⟨_, Φ, inferInstance, fun w G cx => cx, upd ea3 e { ea3 e with hp := p, hc := c }, rfl, rfl, hP3.ed (d := { y.eds e with handled := (y.eds e).handled ++ [m.n] }) (hP3.ch e he2)⟩
      · have hr0 : (y.ins i).rep = true := by simpa using hr0
        have eh : handS y e m = y := by unfold handS; rw [hdst, hr0]; rfl
        rw [eh]
        exact ⟨_, Φ, inferInstance, fun w G cx => cx, ea3, rfl, rfl, hP3⟩
      rintro R2 Φ2 _ ⟨ea4, rfl, rfl, hP4⟩
      have hc4 := calm_hand y e m
      have hfl4 : ((handS y e m).eds e).flying = (y.eds e).flying := by unfold handS; split; rfl; show (upd y.eds e _ e).flying = _; rw [upd_self]
      have ha4 : actS y e m r.1 = relayS (flyS (handS y e m) e m r.1) i m := by unfold actS; rw [if_pos ha12, hdst]
      rw [ha4] at hact
      generalize handS y e m = z at *
      have hE4 := hc4.same.edF hE1
      have hb4 := hc4.same.ptr hb1
      have hz1 := hc4.same.n
      have hz2 := hc4.same.ne
      refine exI_mk (fun R' Φ' => ∃ ea', R' = lay A ea' ia2 (flyS z e m r.1) ++ S ∧ Φ' = Φ2 ∧ NP ea' ia2 (flyS z e m r.1)) ⟨Br.intro (fun hr2 => ?_) (fun hr2 => ?_), ?_⟩
      · have eh : flyS z e m r.1 = z.setFlying e ((z.eds e).flying ++ [m.n]) := by unfold flyS; rw [if_pos (of_decide_eq_true hr2)]
        rw [eh]
        exact push_flying (hb4.fy (by omega)) (by omega) m.n (by rw [hfl4]; exact hf1) fun p c => ⟨_, Φ2, inferInstance, fun w G cx => cx, upd ea4 e { ea4 e with fp := p, fc := c }, rfl, rfl, hP4.ed (d := { z.eds e with flying := (z.eds e).flying ++ [m.n] }) (hP4.ch e (by omega))⟩
      · have eh : flyS z e m r.1 = z := by unfold flyS; rw [if_neg (of_decide_eq_false hr2)]
        rw [eh]
        exact ⟨_, Φ2, inferInstance, fun w G cx => cx, ea4, rfl, rfl, hP4⟩
      rintro R3 Φ3 _ ⟨ea5, rfl, rfl, hP5⟩
      have hc5 := hc4.trans (calm_fly z e m r.1)
      generalize flyS z e m r.1 = u at *
      have hE5 := hc5.same.edF hE1
      have hu1 := hc5.same.n
      have hu2 := hc5.same.ne
      refine Br.intro (fun hm => ?_) (fun hm => fun w G cx => ?_)
      · have hm := of_decide_eq_true hm
        have er : relayS u i m = prodS u i (markM (m.n - 1)) := by unfold relayS; rw [if_pos hm]
        rw [er] at hact
        have h1 := hmo.lo
        have h2 := hmo.hi
        refine ⟨by unfold I64; omega, fun w G cx => (mark_g _).use cx fun w cx => ⟨_, _, _, _, _, none, 0, 0, rfl, _, Φ3, inferInstance, cx, fun w G cx => ?_⟩⟩
        refine produce_use (S := S ++ G) hE5 (by omega) (by omega) (markM (m.n - 1)) hP5 (by rw [hc5.box]; exact hbx) (fun k hk => by rw [hc5.made]; have := hmd k (by omega); omega) (by rw [← List.append_assoc]; exact cx) fun ea' ia' w g1 cx => ⟨rfl, lay A ea' ia' (prodS u i (markM (m.n - 1))) ++ S, Φ3, inferInstance, by rw [List.append_assoc]; exact cx, fun w G cx => ?_⟩
        exact hact rfl ea' ia' w g1 cx.left
      · have hm := of_decide_eq_false hm
        have er : relayS u i m = u := by unfold relayS; rw [if_neg hm]
        rw [er] at hact
        exact hact rfl ea5 ia2 w hP5 cx.left
    · intro ha12
      refine Br.intro (fun h4 => fun w G cx => ?_) (fun h4 => fun w G cx => ?_)
      · have ha4 : actS y e m r.1 = repS y i := by unfold actS; rw [if_neg ha12, if_pos (of_decide_eq_true h4), hdst]
        rw [ha4] at hact
        refine report_use (S := S ++ G) hE1 (by omega) hd1 hP3 hbx hit (fun k hk => hbd k (by omega)) hk01 (by rw [← List.append_assoc]; exact cx) fun ea' ia' w g1 cx => ⟨rfl, lay A ea' ia' (repS y i) ++ S, Φ, inferInstance, by rw [List.append_assoc]; exact cx, fun w G cx => ?_⟩
        exact hact rfl ea' ia' w g1 cx.left
      · have ha4 : actS y e m r.1 = y := by unfold actS; rw [if_neg ha12, if_neg (of_decide_eq_false h4)]
        rw [ha4] at hact
        exact hact rfl ea3 ia2 w hP3 cx.left
end
end Go.Proofs.Ytmlnockcmdameaa
end

/-
  clear and whole, walked.
-/
section
set_option linter.unusedVariables false
set_option linter.unusedSimpArgs false
namespace Go.Proofs.Ytmlnockcmdameaa
open Go.Vc


theorem same_clrEd (x : NtD) (k : Nat) : SameE x (clrEd x k) := (((same_made x k []).trans (same_boxed _ k [])).trans (same_handled _ k [])).trans (same_flying _ k [])
theorem same_clrIK (x : NtD) : ∀ i, SameE x (clrIK x i)
  | 0 => .refl x
  | i + 1 => (same_clrIK x i).trans (same_rep _ i false)
theorem same_clrEK (x : NtD) : ∀ k, SameE x (clrEK x k)
  | 0 => .refl x
  | k + 1 => (same_clrEK x k).trans (same_clrEd _ k)
theorem same_clear (x : NtD) : SameE x (clearS x) := (same_clrIK x x.n).trans (same_clrEK _ _)

section
variable {W w : World} {S : List Own} {Φ : PW} {A : NA} {ea : Nat → EA} {ia : Nat → IA} {x : NtD}

theorem NP.rep {i : Nat} {v : Bool} (h : NP ea ia x) (hi : i < x.n) : NP ea ia (x.setRep i v) := by
  have := h.inn (i := i) (e := ia i) (d := { x.ins i with rep := v }) (h.gt i hi)
  rw [upd_id] at this
  exact this

set_option maxHeartbeats 1000000 in
theorem clear_use [Stable Φ] (hne : x.ne ≤ 1000) (hn : x.n ≤ 1000) (hP : NP ea ia x) (c : Ctx W w (lay A ea ia x ++ S) Φ) {K : Ending → World → Prop}
    (hk : ∀ ea' w', NP ea' ia (clearS x) → Ctx W w' (lay A ea' ia (clearS x) ++ S) Φ → K (.returned (.tuple #[])) w') : Calls Try.prog F.erratalaw39_net_clear #[.pointer (some ⟨A.xb, 0, none⟩)] w K := by
  obtain ⟨b1, b2, b3, b4, b5, b6, b7, b8, hb⟩ := (lay_hd c).ptr
  refine (Berratalaw39_net_clear_run A.xb 0 (J := fun u w' => K (.returned u) w') c ?_).mono fun e w' ⟨v, he, hj⟩ => by rw [he]; exact hj
  refine exI_mk (fun ni R' Φ' m => ∃ i : Nat, ni = i ∧ i ≤ x.n ∧ R' = lay A ea ia (clrIK x i) ++ S ∧ Φ' = Φ ∧ m = x.n - i ∧ NP ea ia (clrIK x i)) ⟨⟨_, Φ, _, inferInstance, fun w G cx => cx, 0, rfl, Nat.zero_le _, rfl, rfl, rfl, hP⟩, ?_⟩
  rintro ni R1 Φ1 m _ ⟨i, rfl, hin, rfl, rfl, rfl, hP1⟩
  have hs1 := same_clrIK x i
  have hb1 := hs1.ptr hb
  have hn1 := hs1.n
  refine fun w G cx => ⟨_, _, _, lay_x cx rfl, Br.intro (fun hlt => ?_) (fun hge => ?_)⟩
  · have hlt : i < x.n := by have := of_decide_eq_true hlt; omega
    refine fun w G cx => ⟨_, _, _, lay_x cx rfl, by omega, ptrK_intro b4 0 (hb1.rp (by omega)) fun w G cx => ?_⟩
    obtain ⟨g1, g2⟩ := rep_put (show i < (clrIK x i).n by omega) (hb1.rp (by omega)) false cx
    exact ⟨g1, fun w' hw' => ⟨lay A ea ia (clrIK x (i + 1)) ++ S, Φ1, inferInstance, g2 w' hw', by unfold I64; omega, _, Φ1, x.n - (i + 1), inferInstance, fun w G cx => cx, ⟨i + 1, by omega, hlt, rfl, rfl, rfl, hP1.rep (by omega)⟩, by omega⟩⟩
  have hge : i = x.n := by have := of_decide_eq_false hge; omega
  subst hge
  have hk : ∀ ea' w', NP ea' ia (clrEK (clrIK x x.n) x.ne) → Ctx W w' (lay A ea' ia (clrEK (clrIK x x.n) x.ne) ++ S) Φ1 → K (.returned (.tuple #[])) w' := hk
  have hne1 := hs1.ne
  generalize clrIK x x.n = y at *
  refine exI_mk (fun ni R' Φ' m => ∃ (k : Nat) (ea' : Nat → EA), ni = k ∧ k ≤ x.ne ∧ R' = lay A ea' ia (clrEK y k) ++ S ∧ Φ' = Φ1 ∧ m = x.ne - k ∧ NP ea' ia (clrEK y k)) ⟨⟨_, Φ1, _, inferInstance, fun w G cx => cx, 0, ea, rfl, Nat.zero_le _, rfl, rfl, rfl, hP1⟩, ?_⟩
  rintro ni R2 Φ2 m _ ⟨k, ea1, rfl, hkn, rfl, rfl, rfl, hP2⟩
  have hs2 := same_clrEK y k
  have hb2 := hs2.ptr hb1
  have hne2 := hs2.ne
  refine fun w G cx => ⟨_, _, _, lay_x cx rfl, Br.intro (fun hlt => ?_) (fun hge => fun w G cx => ?_)⟩
  · have hlt : k < x.ne := by have := of_decide_eq_true hlt; omega
    have hnext : clrEK y (k + 1) = clrEd (clrEK y k) k := rfl
    generalize clrEK y k = z at *
    have hz : k < z.ne := by omega
    refine fun w G cx => ⟨_, _, _, lay_x cx rfl, by omega, ptrK_intro b5 0 (hb2.md (by omega)) fun w G cx => ?_⟩
    obtain ⟨g1, g2⟩ := clr_made (hb2.md (by omega)) hz cx
    refine ⟨g1, fun w' hw' => ⟨lay A (upd ea1 k { ea1 k with mp := none, mc := 0 }) ia (z.setMade k []) ++ S, Φ2, inferInstance, g2 w' hw', fun w G cx => ⟨_, _, _, lay_x cx rfl, ⟨by omega, Int.ofNat_lt.2 hz⟩, ptrK_intro b6 0 (hb2.bd (by omega)) fun w G cx => ?_⟩⟩⟩
    have hP3 : NP (upd ea1 k { ea1 k with mp := none, mc := 0 }) ia (z.setMade k []) := hP2.ed (d := { z.eds k with made := [] }) (hP2.ch k hz)
    generalize upd ea1 k { ea1 k with mp := none, mc := 0 } = ea2 at *
    clear g1 g2
    obtain ⟨g1, g2⟩ := clr_boxed (x := z.setMade k []) (hb2.bd (by omega)) hz cx
    refine ⟨g1, fun w' hw' => ⟨lay A (upd ea2 k { ea2 k with bp := none, bc := 0 }) ia ((z.setMade k []).setBoxed k []) ++ S, Φ2, inferInstance, g2 w' hw', fun w G cx => ⟨_, _, _, lay_x cx rfl, ⟨by omega, Int.ofNat_lt.2 hz⟩, ptrK_intro b7 0 (hb2.hd (by omega)) fun w G cx => ?_⟩⟩⟩
    have hP4 : NP (upd ea2 k { ea2 k with bp := none, bc := 0 }) ia ((z.setMade k []).setBoxed k []) := hP3.ed (d := { (z.setMade k []).eds k with boxed := [] }) (hP3.ch k hz)
    generalize upd ea2 k { ea2 k with bp := none, bc := 0 } = ea3 at *
    clear g1 g2
    obtain ⟨g1, g2⟩ := clr_handled (x := (z.setMade k []).setBoxed k []) (hb2.hd (by omega)) hz cx
    refine ⟨g1, fun w' hw' => ⟨lay A (upd ea3 k { ea3 k with hp := none, hc := 0 }) ia (((z.setMade k []).setBoxed k []).setHandled k []) ++ S, Φ2, inferInstance, g2 w' hw', fun w G cx => ⟨_, _, _, lay_x cx rfl, ⟨by omega, Int.ofNat_lt.2 hz⟩, ptrK_intro b8 0 (hb2.fy (by omega)) fun w G cx => ?_⟩⟩⟩
    have hP5 : NP (upd ea3 k { ea3 k with hp := none, hc := 0 }) ia (((z.setMade k []).setBoxed k []).setHandled k []) := hP4.ed (d := { ((z.setMade k []).setBoxed k []).eds k with handled := [] }) (hP4.ch k hz)
    generalize upd ea3 k { ea3 k with hp := none, hc := 0 } = ea4 at *
    clear g1 g2
    obtain ⟨g1, g2⟩ := clr_flying (x := ((z.setMade k []).setBoxed k []).setHandled k []) (hb2.fy (by omega)) hz cx
    have hP6 : NP (upd ea4 k { ea4 k with fp := none, fc := 0 }) ia (clrEd z k) := hP5.ed (d := { (((z.setMade k []).setBoxed k []).setHandled k []).eds k with flying := [] }) (hP5.ch k hz)
    exact ⟨g1, fun w' hw' => ⟨lay A (upd ea4 k { ea4 k with fp := none, fc := 0 }) ia (clrEd z k) ++ S, Φ2, inferInstance, g2 w' hw', by unfold I64; omega, _, Φ2, x.ne - (k + 1), inferInstance, fun w G cx => cx, ⟨k + 1, upd ea4 k { ea4 k with fp := none, fc := 0 }, by omega, by omega, by rw [hnext], rfl, rfl, by rw [hnext]; exact hP6⟩, by omega⟩⟩
  · have hge : k = x.ne := by have := of_decide_eq_false hge; omega
    subst hge
    exact hk ea1 w hP2 cx.left

/-! ### whole -/
theorem noBar_get {l : List MsgL} (h : ∀ j, (hj : j < l.length) → l[j].kind ≠ 1) : noBar l = true := by
  unfold noBar
  rw [List.all_eq_true]
  intro m hm
  obtain ⟨j, hj, e⟩ := List.getElem_of_mem hm
  rw [← e, decide_eq_true (h j hj)]
theorem noBar_not {l : List MsgL} {j : Nat} (hj : j < l.length) (h : l[j].kind = 1) : noBar l = false := by
  unfold noBar
  rw [List.all_eq_false]
  exact ⟨l[j], List.getElem_mem hj, by rw [h]; simp⟩

theorem msg_row {q : List MsgL} {j : Nat} (h : j < q.length) : ∀ t, (ht : t < q[j].cells.length) → (mCells q)[j * 6 + t]? = some q[j].cells[t] := fun t ht => by
  rw [flat_get MsgL.cells 6 (fun _ => rfl) q j t h ht]
  exact List.getElem?_eq_getElem ht

theorem chan_back {T F : List Own} [Stable Φ] {e : Nat} (he : e < x.ne) (cx : Ctx W w (chB (ea e).ch :: ((hd A ea ia x ++ ([intR (ea e).mp (ea e).mc (x.eds e).made, intR (ea e).bp (ea e).bc (x.eds e).boxed, intR (ea e).hp (ea e).hc (x.eds e).handled, intR (ea e).fp (ea e).fc (x.eds e).flying] ++ (restE ea ia x e ++ T))) ++ F)) Φ) : Ctx W w ((lay A ea ia x ++ T) ++ F) Φ := by
  have c2 := chan_out (x := x) he (a := (ea e).ch) rfl (x.eds e).q (x.eds e).sent cx
  rw [show ({ ea e with ch := (ea e).ch } : EA) = ea e from rfl, upd_id] at c2
  have e2 : x.setEd e { x.eds e with q := (x.eds e).q, sent := (x.eds e).sent } = x := by unfold NtD.setEd; rw [upd_id]
  rw [e2] at c2
  exact c2

set_option maxHeartbeats 1000000 in
theorem whole_use [Stable Φ] (hne : x.ne ≤ 1000) (hn : x.n ≤ 1000) (hP : NP ea ia x) (hbox : ∀ i, i < x.n → (x.ins i).box.length ≤ 10000) (c : Ctx W w (lay A ea ia x ++ S) Φ) {K : Ending → World → Prop}
    (hk : ∀ w', Ctx W w' (lay A ea ia x ++ S) Φ → K (.returned (.bool (wholeS x))) w') : Calls Try.prog F.erratalaw39_net_whole #[.pointer (some ⟨A.xb, 0, none⟩)] w K := by
  obtain ⟨b1, b2, b3, b4, b5, b6, b7, b8, hb⟩ := (lay_hd c).ptr
  refine (Berratalaw39_net_whole_run A.xb 0 (J := fun u w' => K (.returned u) w') c ?_).mono fun e w' ⟨v, he, hj⟩ => by rw [he]; exact hj
  have no1 : ∀ i, i < x.n → ¬((x.ins i).rep = true ∧ (x.ins i).gate.busy = false ∧ noBar ((x.ins i).box.map Prod.snd) = true) → wholeS x = false := fun i hi h => by
    unfold wholeS
    rw [decide_eq_false fun h2 => h (h2 i hi)]
    rfl
  have no2 : ∀ k, k < x.ne → noBar (x.eds k).q = false → wholeS x = false := fun k hk h => by
    unfold wholeS
    rw [Bool.and_eq_false_iff]
    exact .inr (decide_eq_false fun h2 => by rw [h2 k hk] at h; cases h)
  refine exI_mk (fun ni R' Φ' m => ∃ i : Nat, ni = i ∧ i ≤ x.n ∧ R' = lay A ea ia x ++ S ∧ Φ' = Φ ∧ m = x.n - i ∧ ∀ j, j < i → (x.ins j).rep = true ∧ (x.ins j).gate.busy = false ∧ noBar ((x.ins j).box.map Prod.snd) = true) ⟨⟨_, Φ, _, inferInstance, fun w G cx => cx, 0, rfl, Nat.zero_le _, rfl, rfl, rfl, fun j hj => by omega⟩, ?_⟩
  rintro ni R1 Φ1 m _ ⟨i, rfl, hin, rfl, rfl, rfl, hall⟩
  refine fun w G cx => ⟨_, _, _, lay_x cx rfl, Br.intro (fun hlt => ?_) (fun hge => ?_)⟩
  · have hlt : i < x.n := by have := of_decide_eq_true hlt; omega
    refine fun w G cx => ⟨_, _, _, lay_x cx rfl, by omega, ptrK_intro b4 0 (hb.rp (by omega)) ⟨_, lay_get cx 4 rfl (hb.rp (by omega)) hlt, _, _, _, fun _ => lay_x cx rfl, fun _ => by omega, ptrK_intro b2 0 (hb.ga (by omega)) ⟨some ⟨(ia i).gt.gb, 0, none⟩, fun _ => lay_get cx 2 rfl (hb.ga (by omega)) hlt, (x.ins i).gate.busy, fun _ w3 hw3 => ?_, Br.intro (fun hb1 => fun w G cx => ?_) (fun hb1 => ?_)⟩⟩⟩
    · rw [hw3]
      exact Busy_q ((gate_in hlt cx).get 0 rfl rfl)
    · have : wholeS x = false := no1 i hlt fun ⟨h1, h2, _⟩ => by rw [h1, h2] at hb1; cases hb1
      rw [this] at hk
      exact hk w cx.left
    have hri : (x.ins i).rep = true ∧ (x.ins i).gate.busy = false := by
      rw [Bool.or_eq_false_iff] at hb1
      exact ⟨by simpa using hb1.1, hb1.2⟩
    refine exI_mk (fun nj R' Φ' m => ∃ j : Nat, nj = j ∧ j ≤ (x.ins i).box.length ∧ R' = lay A ea ia x ++ S ∧ Φ' = Φ1 ∧ m = (x.ins i).box.length - j ∧ ∀ t, (ht : t < j) → (ht2 : t < (x.ins i).box.length) → (x.ins i).box[t].2.kind ≠ 1) ⟨⟨_, Φ1, _, inferInstance, fun w G cx => cx, 0, rfl, Nat.zero_le _, rfl, rfl, rfl, fun j hj => by omega⟩, ?_⟩
    rintro nj R2 Φ2 m _ ⟨j, rfl, hjl, rfl, rfl, rfl, hno⟩
    have hbi := hbox i hlt
    refine fun w G cx => ⟨_, _, _, lay_x cx rfl, by omega, ptrK_intro b3 0 (hb.bx (by omega)) fun w G cx => ⟨_, _, _, lay_get cx 3 rfl (hb.bx (by omega)) hlt, Br.intro (fun hl2 => ?_) (fun hg2 => ?_)⟩⟩
    · have hl2 : j < (x.ins i).box.length := by have := of_decide_eq_true hl2; omega
      refine fun w G cx => ⟨_, _, _, lay_x cx rfl, by omega, ptrK_intro b3 0 (hb.bx (by omega)) fun w G cx => ⟨_, _, _, lay_get cx 3 rfl (hb.bx (by omega)) hlt, by omega, ?_⟩⟩
      obtain ⟨bb, hbb⟩ := box_ptr hlt cx (by omega)
      refine ptrK_intro bb 0 hbb fun w G cx => ⟨(x.ins i).box[j].2.kind, itemRow hlt cx hl2 hbb 1 (by simp), Br.intro (fun hk1 => fun w G cx => ?_) (fun hk1 => ?_)⟩
      · have : wholeS x = false := no1 i hlt fun ⟨_, _, h3⟩ => by
          rw [noBar_not (j := j) (by simpa using hl2) (by rw [List.getElem_map]; exact of_decide_eq_true hk1)] at h3
          cases h3
        rw [this] at hk
        exact hk w cx.left
      · refine ⟨by unfold I64; omega, _, Φ2, (x.ins i).box.length - (j + 1), inferInstance, fun w G cx => cx, ⟨j + 1, by omega, hl2, rfl, rfl, rfl, fun t ht ht2 => ?_⟩, by omega⟩
        rcases Nat.lt_or_ge t j with h | h
        · exact hno t h ht2
        · have : t = j := by omega
          subst this
          exact of_decide_eq_false hk1
    · have hg2 : j = (x.ins i).box.length := by have := of_decide_eq_false hg2; omega
      refine ⟨by unfold I64; omega, _, Φ2, x.n - (i + 1), inferInstance, fun w G cx => cx, ⟨i + 1, by omega, hlt, rfl, rfl, rfl, fun t ht => ?_⟩, by omega⟩
      rcases Nat.lt_or_ge t i with h | h
      · exact hall t h
      · have : t = i := by omega
        subst this
        refine ⟨hri.1, hri.2, noBar_get fun s hs => ?_⟩
        rw [List.getElem_map]
        rw [List.length_map] at hs
        exact hno s (by omega) hs
  have hge : i = x.n := by have := of_decide_eq_false hge; omega
  subst hge
  refine exI_mk (fun ni R' Φ' m => ∃ k : Nat, ni = k ∧ k ≤ x.ne ∧ R' = lay A ea ia x ++ S ∧ Φ' = Φ1 ∧ m = x.ne - k ∧ ∀ j, j < k → noBar (x.eds j).q = true) ⟨⟨_, Φ1, _, inferInstance, fun w G cx => cx, 0, rfl, Nat.zero_le _, rfl, rfl, rfl, fun j hj => by omega⟩, ?_⟩
  rintro ni R2 Φ2 m _ ⟨k, rfl, hkn, rfl, rfl, rfl, hall2⟩
  refine fun w G cx => ⟨_, _, _, lay_x cx rfl, Br.intro (fun hlt => ?_) (fun hge => fun w G cx => ?_)⟩
  · have hlt : k < x.ne := by have := of_decide_eq_true hlt; omega
    refine fun w G cx => ⟨_, _, _, lay_x cx rfl, by omega, ptrK_intro b1 0 (hb.ch (by omega)) fun w G cx => ⟨_, lay_get cx 1 rfl (hb.ch (by omega)) hlt, fun w G cx => ?_⟩⟩
    have h4 := (hP.ch k hlt).count
    refine List_use (chan_in hlt cx) (hP.ch k hlt) fun p cap w cx => ?_
    have c1 : Ctx W w ((bufM p cap (x.eds k).q :: lay A ea ia x ++ S) ++ G) Φ2 := by
      have c2 := chan_back (A := A) (ea := ea) (ia := ia) (x := x) (T := bufM p cap (x.eds k).q :: S) (F := G) hlt (cx.perm ?_)
      · exact c2.perm to_front
      · refine ((List.Perm.swap _ _ _).trans (List.Perm.cons _ ?_))
        have := (to_front (o := bufM p cap (x.eds k).q) (L := hd A ea ia x ++ ([intR (ea k).mp (ea k).mc (x.eds k).made, intR (ea k).bp (ea k).bc (x.eds k).boxed, intR (ea k).hp (ea k).hc (x.eds k).handled, intR (ea k).fp (ea k).fc (x.eds k).flying] ++ restE ea ia x k)) (R := S) (F := G)).symm
        simpa only [List.append_assoc] using this
    refine ⟨p, _, cap, rfl, bufM p cap (x.eds k).q :: lay A ea ia x ++ S, Φ2, inferInstance, c1, ?_⟩
    refine exI_mk (fun nj R' Φ' m => ∃ j : Nat, nj = j ∧ j ≤ (x.eds k).q.length ∧ R' = bufM p cap (x.eds k).q :: lay A ea ia x ++ S ∧ Φ' = Φ2 ∧ m = (x.eds k).q.length - j ∧ ∀ t, (ht : t < j) → (ht2 : t < (x.eds k).q.length) → (x.eds k).q[t].kind ≠ 1) ⟨⟨_, Φ2, _, inferInstance, fun w G cx => cx, 0, rfl, Nat.zero_le _, rfl, rfl, rfl, fun j hj => by omega⟩, ?_⟩
    obtain ⟨pb, hpb⟩ : ∃ pb, 0 < (x.eds k).q.length → p = some ⟨pb, 0, none⟩ := by
      rcases Nat.eq_zero_or_pos (x.eds k).q.length with h0 | h0
      · exact ⟨0, fun h => by omega⟩
      · obtain ⟨pb, hpb, _⟩ := c1.bufCell 0 rfl (by rw [(c1.bufLen 0 rfl).1]; omega)
        exact ⟨pb, fun _ => hpb⟩
    clear c1 cx
    rintro nj R3 Φ3 m _ ⟨j, rfl, hjl, rfl, rfl, rfl, hno⟩
    refine Br.intro (fun hl2 => ?_) (fun hg2 => ?_)
    · have hl2 : j < (x.eds k).q.length := by have := of_decide_eq_true hl2; omega
      have hpp := hpb (by omega)
      refine ⟨by omega, ptrK_intro pb 0 hpp fun w G cx => ⟨(x.eds k).q[j].kind, ?_, Br.intro (fun hk1 => fun w G cx => ?_) (fun hk1 => ?_)⟩⟩
      · have hrow : RowAt w pb (0 + ((j : Nat) : Int).toNat * 6) (x.eds k).q[j].cells := by
          rw [Int.toNat_natCast, Nat.zero_add]
          exact Ctx.bufRow cx 0 rfl hpp (msg_row hl2)
        have := hrow 0 (by simp)
        rw [Nat.add_zero] at this
        exact this
      · have : wholeS x = false := no2 k hlt (noBar_not hl2 (of_decide_eq_true hk1))
        rw [this] at hk
        exact hk w (Ctx.left (Ctx.drop1 cx))
      · refine ⟨by unfold I64; omega, _, Φ3, (x.eds k).q.length - (j + 1), inferInstance, fun w G cx => cx, ⟨j + 1, by omega, hl2, rfl, rfl, rfl, fun t ht ht2 => ?_⟩, by omega⟩
        rcases Nat.lt_or_ge t j with h | h
        · exact hno t h ht2
        · have : t = j := by omega
          subst this
          exact of_decide_eq_false hk1
    · have hg2 : j = (x.eds k).q.length := by have := of_decide_eq_false hg2; omega
      refine ⟨by unfold I64; omega, lay A ea ia x ++ S, Φ3, x.ne - (k + 1), inferInstance, fun w G cx => Ctx.drop1 cx, ⟨k + 1, by omega, hlt, rfl, rfl, rfl, fun t ht => ?_⟩, by omega⟩
      rcases Nat.lt_or_ge t k with h | h
      · exact hall2 t h
      · have : t = k := by omega
        subst this
        exact noBar_get fun s hs => hno s (by omega) hs
  · have hge : k = x.ne := by have := of_decide_eq_false hge; omega
    subst hge
    have : wholeS x = true := by
      unfold wholeS
      rw [decide_eq_true hall, decide_eq_true hall2]
      rfl
    rw [this] at hk
    exact hk w cx.left

end
end Go.Proofs.Ytmlnockcmdameaa
end

/-
  consistent and start, walked.
-/
section
set_option linter.unusedVariables false
set_option linter.unusedSimpArgs false
namespace Go.Proofs.Ytmlnockcmdameaa
open Go.Vc


section
variable {W w : World} {S : List Own} {Φ : PW} {A : NA} {ea : Nat → EA} {ia : Nat → IA} {x : NtD}

theorem ints_one : ∀ l : List Int, ((l.map intv).all fun u => oneC u) = true
  | [] => rfl
  | z :: l => by rw [List.map_cons, List.all_cons, ints_one l]; rfl
/-- append one slice of numbers to another -/
theorem _root_.Go.Vc.Ctx.appInt [Stable Φ] {pd ps : Option Addr} {cd c2 : Nat} {ld ls : List Int} (kd ks : Nat) (c : Ctx W w S Φ) (hd : S[kd]? = some (intR pd cd ld)) (hs : S[ks]? = some (intR ps c2 ls)) (h1 : ld.length ≤ 3000000) (h2 : ls.length ≤ 3000000) :
    ∃ p' cap' w', Sem.run Try.prog (builtin Builtin.append #[58, 58] 58 #[false, false] #[.slice pd ld.length cd, .slice ps ls.length c2]) w = .ok (.value (.slice p' (ld ++ ls).length cap')) w' ∧ Ctx W w' (S.set kd (intR p' cap' (ld ++ ls))) Φ := by
  obtain ⟨i, z, e1, e2, e3, e4, e5, e6⟩ := appB_out (show appB Try.prog 58 3 1 8 = true by kernel_rfl)
  rcases Nat.eq_zero_or_pos ls.length with h0 | h0
  · have : ls = [] := List.eq_nil_of_length_eq_zero h0
    subst this
    refine ⟨pd, cd, w, ?_, ?_⟩
    · rw [List.append_nil]; exact run_app (c.append0 kd hd e1 e2 ps c2)
    · rw [List.append_nil]
      refine c.re ?_
      apply List.ext_getElem?
      intro j
      rw [List.getElem?_set]
      split
      · rename_i e; subst e; rw [if_pos (List.getElem?_eq_some_iff.1 hd).1]; exact hd
      · rfl
  · obtain ⟨b, hb, _, hcell⟩ := c.bufCell ks hs (by rw [(c.bufLen ks hs).1]; omega)
    obtain ⟨p', cap', w', hr, c'⟩ := c.append kd hd (ty := 58) e1 e2 e3 e4 e5 (a := ⟨b, 0, none⟩) (m := ls.length) (c2 := c2) (news := ls.map intv) h0 (c.bufLen ks hs).1 (fun j u hj => by rw [addr_add, Nat.zero_add]; exact (hcell j u hj).1)
      (fun u hu => List.all_eq_true.1 (ints_one ls) u hu) (by
        have hby : (ld.length + ls.length) * i.bytes ≤ 6000000 * 1000 := Nat.mul_le_mul (by omega) (by omega)
        omega) (by omega)
    refine ⟨p', cap', w', ?_, ?_⟩
    · rw [hb, List.length_append]; exact run_app hr
    · refine c'.re ?_
      show _ = S.set kd (Own.buf p' (ld ++ ls).length cap' ((ld ++ ls).map intv) _ _)
      rw [List.length_append, List.map_append]

theorem int_cell {S : List Own} (c : Ctx W w S Φ) (k : Nat) {p : Option Addr} {cap : Nat} {l : List Int} (hk : S[k]? = some (intR p cap l)) {b j : Nat} (hp : p = some ⟨b, 0, none⟩) (hj : j < l.length) : w.cell? (Addr.mk b (0 + ((j : Nat) : Int).toNat) none) = some (.int .i64 l[j]) := by
  have e0 : 0 + ((j : Nat) : Int).toNat = j := by omega
  rw [e0]
  exact c.bufGet k hk hp (by rw [List.getElem?_map, List.getElem?_eq_getElem hj]; rfl)
theorem int_ptr {S : List Own} (c : Ctx W w S Φ) (k : Nat) {p : Option Addr} {cap : Nat} {l : List Int} (hk : S[k]? = some (intR p cap l)) (h0 : 0 < l.length) : ∃ b, p = some ⟨b, 0, none⟩ := by
  obtain ⟨b, hb, _⟩ := c.bufCell k hk (by rw [(c.bufLen k hk).1]; omega)
  exact ⟨b, hb⟩

set_option maxHeartbeats 2000000 in
theorem consistent_use [Stable Φ] (hE : EdF Φ A x) (hB : NB x) (hC : ∀ k, k < x.ne → cutOk x k) (c : Ctx W w (lay A ea ia x ++ S) Φ) {K : Ending → World → Prop}
    (hk : ∀ w', Ctx W w' (lay A ea ia x ++ S) Φ → K (.returned (.bool true)) w') : Calls Try.prog F.erratalaw39_net_consistent #[.pointer (some ⟨A.xb, 0, none⟩)] w K := by
  obtain ⟨b1, b2, b3, b4, b5, b6, b7, b8, hb⟩ := (lay_hd c).ptr
  have hne := hB.ne
  refine (Berratalaw39_net_consistent_run A.xb 0 (J := fun u w' => K (.returned u) w') c ?_).mono fun e w' ⟨v, he, hj⟩ => by rw [he]; exact hj
  refine exI_mk (fun ni R' Φ' m => ∃ k : Nat, ni = k ∧ k ≤ x.ne ∧ R' = lay A ea ia x ++ S ∧ Φ' = Φ ∧ m = x.ne - k) ⟨⟨_, Φ, _, inferInstance, fun w G cx => cx, 0, rfl, Nat.zero_le _, rfl, rfl, rfl⟩, ?_⟩
  rintro ni R1 Φ1 m _ ⟨k, rfl, hkn, rfl, rfl, rfl⟩
  refine fun w G cx => ⟨_, _, _, lay_x cx rfl, Br.intro (fun hlt => ?_) (fun hge => fun w G cx => hk w cx.left)⟩
  have hlt : k < x.ne := by have := of_decide_eq_true hlt; omega
  obtain ⟨hc1, hc2⟩ := hC k hlt
  have l1 := hB.made k hlt
  have l2 := hB.boxed k hlt
  have l3 := hB.handled k hlt
  have l4 := hB.flying k hlt
  have sub8 : [Own.blk A.xb (netC A x) 40, arr A.bdp A.bdc x.ne 58 (gBd ea x), arr A.hdp A.hdc x.ne 58 (gHd ea x), arr A.fyp A.fyc x.ne 58 (gFy ea x)].Sublist (hd A ea ia x) := .cons_cons _ (.cons _ (.cons _ (.cons _ (.cons _ (.cons _ (List.Sublist.refl _))))))
  refine ⟨_, tru, inferInstance, fun w F cx => cut_to cx (sub_lay sub8), _, _, _, fun w F cx => ⟨_, _, _, cx.get 0 rfl rfl, rfl⟩, _, _, _, fun w F cx => ⟨_, _, _, cx.get 0 rfl rfl, rfl⟩, _, _, _, fun w F cx => ⟨_, _, _, cx.get 0 rfl rfl, rfl⟩, by omega, ptrK_intro b7 0 (hb.hd (by omega)) ⟨by omega, ptrK_intro b8 0 (hb.fy (by omega)) ⟨by omega, ptrK_intro b6 0 (hb.bd (by omega)) ⟨_, _, _, fun w F cx => ⟨_, _, _, cx.arrGet 2 rfl (hb.hd (by omega)) hlt, rfl⟩, _, _, _, fun w F cx => ⟨_, _, _, cx.arrGet 3 rfl (hb.fy (by omega)) hlt, rfl⟩, _, _, _, fun w F cx => ⟨_, _, _, cx.arrGet 1 rfl (hb.bd (by omega)) hlt, rfl⟩, fun kb => ⟨fun w F cx => cut_to cx (List.Sublist.cons _ (sub_lay sub8)), fun w F cx => ?_⟩⟩⟩⟩⟩
  have toE : ∀ {o : Own} {w : World} {F : List Own}, Ctx W w (o :: ((lay A ea ia x ++ S) ++ F)) Φ1 → Ctx W w (o :: ((hd A ea ia x ++ (edK (ea k) (x.eds k) ++ (restE ea ia x k ++ S))) ++ F)) Φ1 := fun cx => cx.perm (List.Perm.cons _ ((focE hlt S).append_right _))
  have ofE : ∀ {o : Own} {w : World} {F : List Own}, Ctx W w (o :: ((hd A ea ia x ++ (edK (ea k) (x.eds k) ++ (restE ea ia x k ++ S))) ++ F)) Φ1 → Ctx W w ((o :: lay A ea ia x ++ S) ++ F) Φ1 := fun cx => cx.perm (List.Perm.cons _ ((focE hlt S).append_right _).symm)
  have c1 : Ctx W w (intR (some ⟨kb, 0, none⟩) 0 [] :: ((lay A ea ia x ++ S) ++ F)) Φ1 := Ctx.toBuf cx 0 0 1 rfl rfl (Nat.zero_le _)
  obtain ⟨p1, cap1, w1, hr1, c2⟩ := (toE c1).appInt 0 13 (ld := []) (ls := (x.eds k).handled) (ps := (ea k).hp) (c2 := (ea k).hc) rfl rfl (by simp) (by omega)
  rw [List.nil_append] at hr1 c2
  refine ⟨p1, _, cap1, w1, hr1, _, Φ1, inferInstance, ofE c2, fun w F cx => cut_to cx (List.Sublist.cons _ (sub_lay sub8)), fun w F cx => ?_⟩
  obtain ⟨p2, cap2, w2, hr2, c2⟩ := (toE (show Ctx W w (intR p1 cap1 (x.eds k).handled :: ((lay A ea ia x ++ S) ++ F)) Φ1 from cx)).appInt 0 14 (ld := (x.eds k).handled) (ls := (x.eds k).flying) (ps := (ea k).fp) (c2 := (ea k).fc) rfl rfl (by omega) (by omega)
  refine ⟨p2, _, cap2, w2, hr2, _, Φ1, inferInstance, ofE c2, fun w F cx => cut_to cx (List.Sublist.cons _ (sub_lay sub8)), fun w F cx => ?_⟩
  obtain ⟨p3, cap3, w3, hr3, c2⟩ := (toE (show Ctx W w (intR p2 cap2 ((x.eds k).handled ++ (x.eds k).flying) :: ((lay A ea ia x ++ S) ++ F)) Φ1 from cx)).appInt 0 12 (ld := (x.eds k).handled ++ (x.eds k).flying) (ls := (x.eds k).boxed) (ps := (ea k).bp) (c2 := (ea k).bc) rfl rfl (by rw [List.length_append]; omega) (by omega)
  rw [hc1] at hr3 c2
  obtain ⟨pb, hpb⟩ : ∃ pb, 0 < (x.eds k).made.length → p3 = some ⟨pb, 0, none⟩ := by
    rcases Nat.eq_zero_or_pos (x.eds k).made.length with h0 | h0
    · exact ⟨0, fun h => by omega⟩
    · obtain ⟨pb, hpb⟩ := int_ptr c2 0 rfl h0
      exact ⟨pb, fun _ => hpb⟩
  obtain ⟨mb, hmb⟩ : ∃ mb, 0 < (x.eds k).made.length → (ea k).mp = some ⟨mb, 0, none⟩ := by
    rcases Nat.eq_zero_or_pos (x.eds k).made.length with h0 | h0
    · exact ⟨0, fun h => by omega⟩
    · obtain ⟨mb, hmb⟩ := int_ptr c2 11 rfl h0
      exact ⟨mb, fun _ => hmb⟩
  refine ⟨p3, _, cap3, w3, hr3, _, Φ1, inferInstance, ofE c2, fun w F cx => ?_⟩
  have cy : Ctx W w ((lay A ea ia x ++ S) ++ F) Φ1 := Ctx.drop1 cx
  have e0 : decide (((x.eds k).made.length : Int) ≠ ((x.eds k).made.length : Int)) = false := decide_eq_false fun h => h rfl
  have hp8 := hb.fy (show 0 < x.ne by omega)
  have hp6 := hb.bd (show 0 < x.ne by omega)
  refine ⟨_, _, _, lay_x cy rfl, by omega, ptrK_intro b5 0 (hb.md (by omega)) ⟨_, _, _, lay_get cy 5 rfl (hb.md (by omega)) hlt, _, fun _ => lay_x cy rfl, _, _, _, fun _ => lay_x cy rfl, fun _ => by omega, ptrK_intro b8 0 hp8 ⟨_, _, _, fun _ => lay_get cy 8 rfl hp8 hlt, _, _, _, fun _ => lay_x cy rfl, fun _ => by omega, ptrK_intro b6 0 hp6 ⟨_, _, _, fun _ => lay_get cy 6 rfl hp6 hlt, fun _ => by unfold I64; omega, Br.intro (fun h => ?_) (fun h => ?_)⟩⟩⟩⟩
  · exfalso
    rw [e0, Bool.false_or, Bool.and_eq_true] at h
    obtain ⟨h1, h2⟩ := hc2 (of_decide_eq_true h.1)
    have := of_decide_eq_true h.2
    rw [h1, h2] at this
    simp at this
  clear cy cx c1 c2
  refine exI_mk (fun nj R' Φ' m => ∃ j : Nat, nj = j ∧ j ≤ (x.eds k).made.length ∧ R' = intR p3 cap3 (x.eds k).made :: lay A ea ia x ++ S ∧ Φ' = Φ1 ∧ m = (x.eds k).made.length - j) ⟨⟨_, Φ1, _, inferInstance, fun w G cx => cx, 0, rfl, Nat.zero_le _, rfl, rfl, rfl⟩, ?_⟩
  rintro nj R3 Φ3 m _ ⟨j, rfl, hjl, rfl, rfl, rfl⟩
  refine Br.intro (fun hl2 => fun w G cx => ?_) (fun hg2 => ?_)
  · have hl2 : j < (x.eds k).made.length := by have := of_decide_eq_true hl2; omega
    have cy : Ctx W w ((lay A ea ia x ++ S) ++ G) Φ3 := Ctx.drop1 cx
    have hp3 := hpb (by omega)
    have hm3 := hmb (by omega)
    refine ⟨by omega, ptrK_intro pb 0 hp3 ⟨(x.eds k).made[j], int_cell cx 0 rfl hp3 hl2, _, _, _, lay_x cy rfl, by omega, ptrK_intro b5 0 (hb.md (by omega)) ⟨_, _, _, lay_get cy 5 rfl (hb.md (by omega)) hlt, by omega, ptrK_intro mb 0 hm3 ⟨(x.eds k).made[j], int_cell (cy.inE hlt) 10 rfl hm3 hl2, Br.intro (fun h => absurd rfl (of_decide_eq_true h)) (fun _ => ⟨by unfold I64; omega, _, Φ3, (x.eds k).made.length - (j + 1), inferInstance, fun w G cx => cx, ⟨j + 1, by omega, hl2, rfl, rfl, rfl⟩, by omega⟩)⟩⟩⟩⟩
  · exact ⟨by unfold I64; omega, lay A ea ia x ++ S, Φ3, x.ne - (k + 1), inferInstance, fun w G cx => Ctx.drop1 cx, ⟨k + 1, by omega, hlt, rfl, rfl, rfl⟩, by omega⟩

end
end Go.Proofs.Ytmlnockcmdameaa
end

/-
  What clear, start and report leave, in plain Lean.
-/
section
set_option linter.unusedVariables false
set_option linter.unusedSimpArgs false
namespace Go.Proofs.Ytmlnockcmdameaa
open Go.Vc

theorem clrIK_ins (x : NtD) (j : Nat) : ∀ i, (clrIK x i).ins j = if j < i then { x.ins j with rep := false } else x.ins j
  | 0 => by rw [if_neg (by omega)]; rfl
  | i + 1 => by
    show upd (clrIK x i).ins i { (clrIK x i).ins i with rep := false } j = _
    by_cases h : j = i
    · subst h
      rw [upd_self, clrIK_ins x j j, if_neg (by omega), if_pos (by omega)]
    · rw [upd_ne h, clrIK_ins x j i]
      by_cases h2 : j < i
      · rw [if_pos h2, if_pos (by omega)]
      · rw [if_neg h2, if_neg (by omega)]
theorem clrIK_rest (x : NtD) : ∀ i, (clrIK x i).eds = x.eds ∧ (clrIK x i).n = x.n ∧ (clrIK x i).ne = x.ne ∧ (clrIK x i).kind = x.kind ∧ (clrIK x i).num = x.num
  | 0 => ⟨rfl, rfl, rfl, rfl, rfl⟩
  | i + 1 => clrIK_rest x i
def clrD (d : EdD) : EdD := { d with made := [], boxed := [], handled := [], flying := [] }
theorem clrEd_eds (x : NtD) (k j : Nat) : (clrEd x k).eds j = if j = k then clrD (x.eds j) else x.eds j := by
  show upd (upd (upd (upd x.eds k _) k _) k _) k _ j = _
  by_cases h : j = k
  · subst h
    rw [if_pos rfl, upd_self]
    show ({ upd (upd (upd x.eds j _) j _) j _ j with flying := [] } : EdD) = _
    rw [upd_self]
    show ({ ({ upd (upd x.eds j _) j _ j with handled := [] } : EdD) with flying := [] } : EdD) = _
    rw [upd_self]
    show ({ ({ ({ upd x.eds j _ j with boxed := [] } : EdD) with handled := [] } : EdD) with flying := [] } : EdD) = _
    rw [upd_self]
    rfl
  · rw [if_neg h, upd_ne h, upd_ne h, upd_ne h, upd_ne h]
theorem clrEK_eds (x : NtD) (j : Nat) : ∀ k, (clrEK x k).eds j = if j < k then clrD (x.eds j) else x.eds j
  | 0 => by rw [if_neg (by omega)]; rfl
  | k + 1 => by
    show (clrEd (clrEK x k) k).eds j = _
    rw [clrEd_eds, clrEK_eds x j k]
    by_cases h : j = k
    · subst h; rw [if_pos rfl, if_neg (by omega), if_pos (by omega)]
    · rw [if_neg h]
      by_cases h2 : j < k
      · rw [if_pos h2, if_pos (by omega)]
      · rw [if_neg h2, if_neg (by omega)]
theorem clrEK_rest (x : NtD) : ∀ k, (clrEK x k).ins = x.ins ∧ (clrEK x k).n = x.n ∧ (clrEK x k).ne = x.ne ∧ (clrEK x k).kind = x.kind ∧ (clrEK x k).num = x.num
  | 0 => ⟨rfl, rfl, rfl, rfl, rfl⟩
  | k + 1 => clrEK_rest x k
theorem clear_ins (x : NtD) (i : Nat) : (clearS x).ins i = if i < x.n then { x.ins i with rep := false } else x.ins i := by
  unfold clearS
  rw [(clrEK_rest _ _).1, clrIK_ins]
theorem clear_eds (x : NtD) (k : Nat) : (clearS x).eds k = if k < x.ne then clrD (x.eds k) else x.eds k := by
  unfold clearS
  rw [clrEK_eds, (clrIK_rest x x.n).1]
theorem clear_rest (x : NtD) : (clearS x).n = x.n ∧ (clearS x).ne = x.ne ∧ (clearS x).kind = x.kind ∧ (clearS x).num = x.num := by
  unfold clearS
  obtain ⟨_, h1, h2, h3, h4⟩ := clrEK_rest (clrIK x x.n) x.ne
  obtain ⟨_, g1, g2, g3, g4⟩ := clrIK_rest x x.n
  exact ⟨h1.trans g1, h2.trans g2, h3.trans g3, h4.trans g4⟩

theorem setMade_eds (x : NtD) (k j : Nat) (l : List Int) : (x.setMade k l).eds j = if j = k then { x.eds j with made := l } else x.eds j := by
  show upd x.eds k _ j = _
  by_cases h : j = k
  · subst h; rw [upd_self, if_pos rfl]
  · rw [upd_ne h, if_neg h]
theorem setMade_set (x : NtD) (k : Nat) (l l' : List Int) : (x.setMade k l).setMade k l' = x.setMade k l' := by
  show NtD.mk x.n x.ne x.ins (upd (upd x.eds k _) k _) x.kind x.num = NtD.mk x.n x.ne x.ins (upd x.eds k _) x.kind x.num
  rw [upd_upd]
  congr 2
  show ({ upd x.eds k _ k with made := l' } : EdD) = _
  rw [upd_self]
theorem setMade_same (x : NtD) (k : Nat) : x.setMade k (x.eds k).made = x := by
  show NtD.mk x.n x.ne x.ins (upd x.eds k (x.eds k)) x.kind x.num = x
  rw [upd_id]
theorem madeK_eds (x : NtD) (j : Nat) : ∀ k, (madeK x k).eds j = if j < k then { x.eds j with made := (x.eds j).made ++ nsOf (stream x j) } else x.eds j
  | 0 => by rw [if_neg (by omega)]; rfl
  | k + 1 => by
    have hins : ∀ k, (madeK x k).ins = x.ins := fun k => by
      induction k with
      | zero => rfl
      | succ k ih => exact ih
    show ((madeK x k).setMade k (((madeK x k).eds k).made ++ nsOf (stream (madeK x k) k))).eds j = _
    rw [setMade_eds]
    by_cases h : j = k
    · subst h
      rw [if_pos rfl, if_pos (by omega)]
      unfold stream
      rw [madeK_eds x j j, if_neg (by omega), hins]
    · rw [if_neg h, madeK_eds x j k]
      by_cases h2 : j < k
      · rw [if_pos h2, if_pos (by omega)]
      · rw [if_neg h2, if_neg (by omega)]
theorem madeK_rest (x : NtD) : ∀ k, (madeK x k).ins = x.ins ∧ (madeK x k).n = x.n ∧ (madeK x k).ne = x.ne ∧ (madeK x k).kind = x.kind ∧ (madeK x k).num = x.num
  | 0 => ⟨rfl, rfl, rfl, rfl, rfl⟩
  | k + 1 => madeK_rest x k
theorem same_madeK (x : NtD) : ∀ k, SameE x (madeK x k)
  | 0 => .refl x
  | k + 1 => (same_madeK x k).trans (same_made _ _ _)
theorem same_srcRep (x : NtD) : ∀ i, SameE x (srcRep x i)
  | 0 => .refl x
  | i + 1 => by
    unfold srcRep
    split
    · exact (same_srcRep x i).trans (same_repS _ _)
    · exact same_srcRep x i

theorem repS_ins {x : NtD} {i j : Nat} (h : j ≠ i) : (repS x i).ins j = x.ins j := by
  unfold repS
  split
  · show upd (upd x.ins i _) i _ j = _
    rw [upd_ne h, upd_ne h]
  · show upd (boxedL (x.setRep i true) (x.ins i).box).ins i _ j = _
    rw [upd_ne h, boxedL_ins]
    exact upd_ne h
theorem repS_kn (x : NtD) (i : Nat) : (repS x i).kind = x.kind ∧ (repS x i).num = x.num := by
  unfold repS
  split
  · exact ⟨rfl, rfl⟩
  · exact boxedL_kn _ (x.setRep i true)
theorem repS_boxed (x : NtD) (i k : Nat) : ((repS x i).eds k).boxed.length ≤ (x.eds k).boxed.length + (x.ins i).box.length := by
  unfold repS
  split
  · exact Nat.le_add_right _ _
  · exact boxedL_len k _ _
theorem srcRep_ins (x : NtD) (j : Nat) : ∀ i, i ≤ j → (srcRep x i).ins j = x.ins j
  | 0, _ => rfl
  | i + 1, h => by
    unfold srcRep
    split
    · rw [repS_ins (by omega)]; exact srcRep_ins x j i (by omega)
    · exact srcRep_ins x j i (by omega)
theorem srcRep_kn (x : NtD) : ∀ i, (srcRep x i).kind = x.kind ∧ (srcRep x i).num = x.num
  | 0 => ⟨rfl, rfl⟩
  | i + 1 => by
    unfold srcRep
    split
    · exact ⟨(repS_kn _ i).1.trans (srcRep_kn x i).1, (repS_kn _ i).2.trans (srcRep_kn x i).2⟩
    · exact srcRep_kn x i
theorem srcRep_boxed (x : NtD) (k b : Nat) (hb : ∀ i, i < x.n → (x.ins i).box.length ≤ b) : ∀ i, i ≤ x.n → ((srcRep x i).eds k).boxed.length ≤ (x.eds k).boxed.length + i * b
  | 0, _ => by simp [srcRep]
  | i + 1, h => by
    have ih := srcRep_boxed x k b hb i (by omega)
    unfold srcRep
    split
    · have h1 := repS_boxed (srcRep x i) i k
      rw [srcRep_ins x i i (Nat.le_refl _)] at h1
      have h2 := hb i (by omega)
      rw [Nat.add_mul]
      omega
    · rw [Nat.add_mul]; omega
theorem sourceS_same {x y : NtD} (h : SameE x y) (i : Nat) : sourceS y i = sourceS x i := by
  unfold sourceS
  refine decide_eq_decide.2 ⟨fun g k hk => ?_, fun g k hk => ?_⟩
  · have := g k (by rw [h.ne]; exact hk)
    rw [h.dst] at this; exact this
  · rw [h.dst]; exact g k (by rw [← h.ne]; exact hk)

theorem ofEdge_snoc (k : Nat) (l : List (Nat × MsgL)) (y : Nat × MsgL) : ofEdge k (l ++ [y]) = if y.1 = k then ofEdge k l ++ [y.2] else ofEdge k l := by
  unfold ofEdge
  rw [List.filter_append, List.map_append]
  by_cases h : y.1 = k
  · rw [if_pos h, List.filter_cons_of_pos (by simpa using h)]; rfl
  · rw [if_neg h, List.filter_cons_of_neg (by simpa using h)]; simp
end Go.Proofs.Ytmlnockcmdameaa
end

