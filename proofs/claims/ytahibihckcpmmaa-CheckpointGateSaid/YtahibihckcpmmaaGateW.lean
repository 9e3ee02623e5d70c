/-
  The walk of 'CheckpointGate'.
-/
import Derived.Test.YtahibihckcpmmaaGateR
import Derived.Test.YtahibihckcpmmaaOnceW
import Derived.Test.YtahibihckcpmmaaVcJ
namespace Go.Proofs.Ytahibihckcpmmaa
open Go.Vc

def actKs : List Ck := [.int .i64, .int .i64, .int .i64, .int .i64, .int .i64, .int .i64, .int .i64, .int .i64, .slice]

theorem act_fits {cs : List Value} (h : Fits actKs cs) : ∃ (a b c d e f g i : Int) (p : Option Addr) (n k : Nat), cs = [.int .i64 a, .int .i64 b, .int .i64 c, .int .i64 d, .int .i64 e, .int .i64 f, .int .i64 g, .int .i64 i, .slice p n k] := by
  obtain ⟨_, _, rfl, ⟨a, rfl, _⟩, h1⟩ := fits_cons h
  obtain ⟨_, _, rfl, ⟨b, rfl, _⟩, h2⟩ := fits_cons h1
  obtain ⟨_, _, rfl, ⟨c, rfl, _⟩, h3⟩ := fits_cons h2
  obtain ⟨_, _, rfl, ⟨d, rfl, _⟩, h4⟩ := fits_cons h3
  obtain ⟨_, _, rfl, ⟨e, rfl, _⟩, h5⟩ := fits_cons h4
  obtain ⟨_, _, rfl, ⟨f, rfl, _⟩, h6⟩ := fits_cons h5
  obtain ⟨_, _, rfl, ⟨g, rfl, _⟩, h7⟩ := fits_cons h6
  obtain ⟨_, _, rfl, ⟨i, rfl, _⟩, h8⟩ := fits_cons h7
  obtain ⟨_, _, rfl, ⟨p, n, k, rfl, _⟩, h9⟩ := fits_cons h8
  cases fits_nil h9
  exact ⟨a, b, c, d, e, f, g, i, p, n, k, rfl⟩

/-- the two gates, apart from each other -/
structure Both (W w : World) (b m : Nat) (g : GateS) (b2 bc : Nat) (r : RefS) : Prop where
  chg : Chg [] W w
  gate : GateAt w b m g
  ref : RefAt w b2 bc r
  rel : GRel g r
  new : W.heap.size ≤ b ∧ W.heap.size ≤ m ∧ W.heap.size ≤ b2 ∧ W.heap.size ≤ bc
  ne : b ≠ b2 ∧ b ≠ bc ∧ m ≠ b2 ∧ m ≠ bc
  len : r.came.length ≤ 6

theorem Both.step {W w w' : World} {b m : Nat} {g : GateS} {b2 bc : Nat} {r : RefS} (h : Both W w b m g b2 bc r) (hc : Chg [] w w') : Both W w' b m g b2 bc r :=
  ⟨h.chg.step hc, h.gate.chg hc (by simp) (by simp), h.ref.chg hc (by simp) (by simp), h.rel, h.new, h.ne, h.len⟩

theorem came_any {w : World} {b bm : Nat} {g : GateS} (h : GateAt w b bm g) (i : Int) :
    Calls Try.prog 18 #[.pointer (some ⟨b, 0, none⟩), .int .i64 i] w fun e w' => ∃ u, e = .returned u ∧ (u = .bool (decide (i ∈ g.came)) ∧ w = w') := by
  refine B18_run b 0 i w _ ?_
  exact ⟨_, h.1.cell_eq (i := 1) rfl, _, fun w2 hw2 => lookup_set Try.underlying45 Try.underlying3 zero_bool (by rw [hw2]; exact h.2.1) i, rfl, rfl⟩

theorem gArrive_ch (g : GateS) (i mk mn kind : Int) : (gArrive g i mk mn kind).2.ch = g.ch := by
  unfold gArrive
  split; rfl
  split; rfl
  split; rfl
  split; rfl
  split; rfl
  unfold gBarrier
  split <;> rfl

/-- where the two gates are, in the walk -/
def St (W : World) (b2 : Nat) (p : Option Addr) (w : World) : Prop := ∃ b m g bc r, p = some ⟨b, 0, none⟩ ∧ Both W w b m g b2 bc r

theorem gate_any (n : Int) (lp : Option Addr) (lN lC : Nat) (w : World) (hl : CellsIn actKs w lp lN) :
    Calls Try.prog 4 #[.int .i64 n, .slice lp lN lC] w fun e w' => ∃ u, e = .returned u ∧ (u = .bool true ∧ Chg [] w w') := by
  refine B4_run n lp lN lC w _ ?_
  refine calls_of (small_any w) fun u w1 ⟨hu, c1⟩ => ?_
  subst hu
  refine ⟨true, rfl, Br.intro (fun _ => ⟨rfl, c1⟩) (fun hc => ?_)⟩
  have hc : n ≤ 6 ∧ (lN : Int) ≤ 60 := by simpa using hc
  refine calls_of (new_any n w1) fun u w4 ⟨b, m, hu, hg, c4, h1, h2⟩ => ?_
  subst hu
  refine ⟨_, rfl, calls_of (refNew_any n (by omega) w4) fun u w7 ⟨b2, bc, hu, hr, c7, h3, h4⟩ => ?_⟩
  subst hu
  have d4 := hg.lt
  have s4 := c4.size
  have s1 := c1.size
  have st : St w b2 (some ⟨b, 0, none⟩) w7 := ⟨b, m, _, bc, _, rfl, (c1.step c4).step c7, hg.chg c7 (by simp) (by simp), hr, GRel.start n, by omega, by omega, by simp; omega⟩
  clear hg hr c7 c4 c1 h1 h2 h3 h4 d4 s4 s1
  refine ⟨_, rfl, Br.intro (fun h => by cases h) (fun _ => ?_)⟩
  refine exI_mk (fun p i wi => 0 ≤ i ∧ i ≤ (lN : Int) ∧ St w b2 p wi) ?_
  refine exI_mk (fun _ i _ => ((lN : Int) - i).toNat) ?_
  refine ⟨⟨Int.le_refl _, by omega, st⟩, ?_⟩
  clear st
  rintro p i wi ⟨hi0, hiN, b, m, g, bc, r, rfl, st⟩
  refine Br.intro (fun hlt => ?_) (fun _ => ⟨rfl, st.chg⟩)
  have hlt : i < (lN : Int) := by simpa using hlt
  obtain ⟨lb, lo, cs, hlp, hcell, hfit⟩ := hl i.toNat (by omega)
  obtain ⟨x0, x1, x2, x3, x4, x5, x6, x7, xp, xn, xk, rfl⟩ := act_fits hfit
  refine ⟨by omega, ptrK_intro lb lo hlp ⟨x0, x1, x2, x3, x4, x5, x6, x7, xp, xn, xk, fun j hj => st.chg.cell (hcell j hj) (by simp), fun w27 h27 => ?_⟩⟩
  have mb := Blk.eqNew h27
  have k27 : Chg [] wi w27 := (Chg.refl _ _).eqAlloc h27
  refine ⟨mb.can (by simp), fun w28 h28 => ?_⟩
  have mb := mb.eqSets h28
  have k28 := k27.eqSets h28 (.inr (Nat.le_refl _))
  have fresh : b ≠ wi.heap.size ∧ m ≠ wi.heap.size ∧ b2 ≠ wi.heap.size ∧ bc ≠ wi.heap.size := by
    have := st.gate.lt
    have := st.ref.lt
    omega
  have st := st.step k28
  generalize wi.heap.size = nb at *
  clear k27 k28 h27 h28 hcell hfit
  refine exI_mk (fun p w' => St w b2 p w') ?_
  refine ⟨⟨x0, mb.cell_eq (i := 0) rfl, _, fun _ => rfl, Br.intro (fun _ => ?_) (fun _ => Br.intro (fun _ => ?_) (fun _ => ?_))⟩, ?_⟩
  · -- Cancel
    refine calls_of (cancel_any st.gate) fun u w33 ⟨hu, c33, m', hg', hm'⟩ => ?_
    subst hu
    have lg := st.gate.lt
    have lr := st.ref.lt
    have sz := st.chg.size
    have ne := st.ne
    have nw := st.new
    have hr' := st.ref.chg c33 (by simp; omega) (by simp; omega)
    have lr' := hr'.lt
    refine ⟨rfl, calls_of (refCancel_any hr' (by have := st.len; omega)) fun u w35 ⟨hu, c35, bc', hr2, hb'⟩ => ?_⟩
    subst hu
    have lg' := hg'.lt
    have s33 := c33.size
    have hg2 := hg'.chg c35 (by simp; omega) (by simp; omega)
    refine ⟨rfl, b, m', _, bc', _, rfl, (st.chg.trans c33 (by simp; omega)).trans c35 (by simp; omega), hg2, hr2, st.rel.cancel', by omega, by omega, by simp; exact st.len⟩
  · -- Copy
    refine calls_of (copy_any st.gate st.rel.nodup) fun u w37 ⟨nb2, nm2, l', he, hp, hg', c37, l1, l2⟩ => ?_
    subst he
    have lr := st.ref.lt
    have sz := st.chg.size
    have nw := st.new
    exact ⟨_, rfl, Br.intro (fun h => by cases h) (fun _ => ⟨nb2, nm2, _, bc, r, rfl, st.chg.step c37, hg', st.ref.chg c37 (by simp) (by simp), st.rel.perm hp, by omega, by omega, st.len⟩)⟩
  · -- Arrive
    refine exI_mk (fun w' => Blk w' nb [.int .i64 x0, .int .i64 x1, .int .i64 x2, .int .i64 x3, .int .i64 x4, .int .i64 x5, .int .i64 x6, .int .i64 x7, .slice xp xn xk] 38) ?_
    intro w41 h41
    have k41 : Chg [] w28 w41 := by rw [h41]; exact (Chg.refl _ _).drewN 1
    have mb := k41.blk mb (by simp)
    have st := st.step k41
    have rowM : ∀ w', Blk w' nb [.int .i64 x0, .int .i64 x1, .int .i64 x2, .int .i64 x3, .int .i64 x4, .int .i64 x5, .int .i64 x6, .int .i64 x7, .slice xp xn xk] 38 → RowAt w' nb 3 [.int .i64 x3, .int .i64 x4, .int .i64 x5, .int .i64 x6, .int .i64 x7, .slice xp xn xk] := fun w' hw' j hj => by
      have hj : j < 6 := by simpa using hj
      rw [hw'.cell]
      match j, hj with
      | 0, _ => rfl
      | 1, _ => rfl
      | 2, _ => rfl
      | 3, _ => rfl
      | 4, _ => rfl
      | 5, _ => rfl
    refine ⟨mb, x1, fun w' hw' => ⟨_, hw'.cell_eq (i := 1) rfl, rfl⟩, x3, x4, x5, x6, x7, xp, xn, xk, fun w' hw' => ⟨_, _, _, _, _, _, _, _, rowM w' hw', rfl⟩, x2, fun w' hw' => ⟨_, hw'.cell_eq (i := 2) rfl, rfl⟩, x1, fun w' hw' => ⟨_, hw'.cell_eq (i := 1) rfl, rfl⟩, x3, x4, x5, x6, x7, xp, xn, xk, fun w' hw' => ⟨_, _, _, _, _, _, _, _, rowM w' hw', rfl⟩, x2, fun w' hw' => ⟨_, hw'.cell_eq (i := 2) rfl, rfl⟩, ?_⟩
    have lg := st.gate.lt
    have lr := st.ref.lt
    have sz := st.chg.size
    have ne := st.ne
    have nw := st.new
    have lb := mb.lt
    refine calls_of (arrive_any st.gate x1 x3 x4 x5 x6 x7 x2 xp xn xk st.rel.zero) fun u w89 ⟨hu, c89, m', hg', hm'⟩ => ?_
    subst hu
    have s89 := c89.size
    have hr' := st.ref.chg c89 (by simp; omega) (by simp; omega)
    have mb := c89.blk mb (by simp; omega)
    have lr' := hr'.lt
    have lg' := hg'.lt
    refine ⟨_, rfl, mb, calls_of (refArrive_any hr' x1 x3 x4 x5 x6 x7 x2 xp xn xk (by have := st.len; omega)) fun u w92 ⟨hu, c92, bc', hr2, hb'⟩ => ?_⟩
    subst hu
    have mb := c92.blk mb (by simp; omega)
    obtain ⟨e1, rel⟩ := st.rel.arrive x1 x3 x7 x2
    have hm2 : m' ≠ b2 ∧ m' ≠ bc := by rcases hm' with rfl | hm' <;> omega
    have hg2 := hg'.chg c92 (by simp; omega) (by simp; omega)
    have hlen : (rArrive r x1 x3 x7 x2).2.came.length ≤ 6 := by
      have := rel.ch
      have := (gArrive_ch g x1 x3 x7 x2)
      have := st.rel.ch
      have := st.len
      omega
    refine ⟨_, rfl, mb, Br.intro (fun h => ?_) (fun _ => ?_)⟩
    · exfalso; rw [e1] at h; simp at h
    · exact ⟨b, m', _, bc', _, rfl, (st.chg.trans c89 (by simp; omega)).trans c92 (by simp; omega), hg2, hr2, rel, by rcases hm' with rfl | hm' <;> rcases hb' with rfl | hb' <;> omega, by rcases hm' with rfl | hm' <;> rcases hb' with rfl | hb' <;> omega, hlen⟩
  -- what the gates say of themselves
  rintro p w95 ⟨b, m, g, bc, r, rfl, st⟩
  clear mb
  have hnum := st.rel.num
  refine ⟨decide (0 < g.num), fun w' ⟨k, hk⟩ => ?_, ptrK_intro b2 0 rfl ⟨r.num, st.ref.1.cell_eq (i := 1) rfl, g.num, fun _ w' ⟨k, hk⟩ => ?_, ptrK_intro b2 0 rfl ⟨r.num, fun _ => st.ref.1.cell_eq (i := 1) rfl, fun k => Br.intro (fun h => ?_) (fun _ => ?_)⟩⟩⟩
  · subst hk
    have hg : GateAt (w95.drewN k) b m g := st.gate
    exact calls_val (busy_any hg) ⟨rfl, k, rfl⟩
  · subst hk
    have hg : GateAt (w95.drewN k) b m g := st.gate
    exact calls_val (number_any hg) ⟨rfl, k, rfl⟩
  · exfalso; rw [hnum] at h; simp at h
  have st : Both w (w95.drewN k) b m g b2 bc r := ⟨st.chg.drewN k, st.gate, st.ref, st.rel, st.new, st.ne, st.len⟩
  generalize w95.drewN k = w96 at *
  refine exI_mk (fun j wj => 0 ≤ j ∧ j ≤ (r.came.length : Int) ∧ Both w wj b m g b2 bc r) ?_
  refine exI_mk (fun j _ => ((r.came.length : Int) - j).toNat) ?_
  refine ⟨⟨Int.le_refl _, by omega, st⟩, ?_⟩
  clear st
  rintro j wj ⟨hj0, hjn, st⟩
  refine ptrK_intro b2 0 rfl ⟨some ⟨bc, 0, none⟩, r.came.length, r.came.length, st.ref.1.cell_eq (i := 0) rfl, Br.intro (fun hlt => ?_) (fun hge => ?_)⟩
  · have hlt : j < (r.came.length : Int) := by simpa using hlt
    have hjl : j.toNat < r.came.length := by omega
    have hcm := st.rel.came j
    have hl6 := st.len
    rw [if_pos hj0] at hcm
    refine ⟨decide (j ∈ g.came), fun w' ⟨k, hk⟩ => ?_, ptrK_intro b2 0 rfl ⟨some ⟨bc, 0, none⟩, r.came.length, r.came.length, st.ref.1.cell_eq (i := 0) rfl, by omega, ptrK_intro bc 0 rfl ⟨r.came[j.toNat], by rw [Nat.zero_add]; exact st.ref.2.1.cell_eq (bools_get hjl), fun k => Br.intro (fun h => ?_) (fun _ => ⟨⟨by omega, by omega⟩, ⟨by omega, by omega, st.chg.drewN k, st.gate, st.ref, st.rel, st.new, st.ne, st.len⟩, ?_⟩)⟩⟩⟩
    · subst hk
      have hg : GateAt (wj.drewN k) b m g := st.gate
      exact calls_val (came_any hg j) ⟨rfl, k, rfl⟩
    · exfalso
      rw [hcm] at h
      simp [List.getD, hjl] at h
    · show ((r.came.length : Int) - (j + 1)).toNat < ((r.came.length : Int) - j).toNat
      omega
  · have hc1 := st.rel.came (-1)
    rw [if_neg (by omega)] at hc1
    have hc2 := st.rel.came (r.came.length : Int)
    rw [if_pos (by omega)] at hc2
    have hc2 : decide ((r.came.length : Int) ∈ g.came) = false := by rw [hc2]; simp [List.getD]
    refine ⟨false, fun w' hk => ?_, ptrK_intro b2 0 rfl ⟨some ⟨bc, 0, none⟩, r.came.length, r.came.length, fun _ => st.ref.1.cell_eq (i := 0) rfl, false, fun _ w' hk => ?_, Br.intro (fun h => by cases h) (fun _ => ⟨⟨by omega, by omega⟩, ⟨by omega, by omega, b, m, g, bc, r, rfl, st⟩, ?_⟩)⟩⟩
    · subst hk; exact calls_val (came_any st.gate (-1)) ⟨by rw [hc1], rfl⟩
    · subst hk; exact calls_val (came_any st.gate _) ⟨by rw [hc2], rfl⟩
    · show ((lN : Int) - (i + 1)).toNat < ((lN : Int) - i).toNat
      omega

end Go.Proofs.Ytahibihckcpmmaa
