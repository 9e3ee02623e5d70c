/-
  The walk of 'CheckpointOnce' and of the examples of the documentation.
-/
import Derived.Test.YtahibihckcpmmaaOnceL
import Derived.Test.YtahibihckcpmmaaOnceB
namespace Go.Proofs.Ytahibihckcpmmaa
open Go.Vc

/-- a message with a number alone -/
def msg (k n : Int) : Value := .agg #[.int .i64 k, .int .i64 0, .int .i64 0, .int .i64 0, .int .i64 n, .slice none 0 0]

theorem mark_any (n : Int) (w : World) : Calls Try.prog 8 #[.int .i64 n] w fun e w' => ∃ u, e = .returned u ∧ (u = msg 2 n ∧ Chg [] w w') := by
  refine B8_run n w _ ?_
  intro w0 h0
  have hb := Blk.eqNew h0
  refine ⟨hb.can (by simp), fun w1 h1 => ?_⟩
  have hb1 := hb.eqSets h1
  have hc : Chg [] w w1 := ((Chg.refl _ _).eqAlloc h0).eqSets h1 (.inr (Nat.le_refl _))
  exact ⟨_, _, _, _, _, _, _, _, hb1.row0, rfl, hc⟩

theorem barrierMsg_any (n : Int) (w : World) : Calls Try.prog 9 #[.int .i64 n] w fun e w' => ∃ u, e = .returned u ∧ (u = msg 1 n ∧ Chg [] w w') := by
  refine B9_run n w _ ?_
  intro w0 h0
  have hb := Blk.eqNew h0
  refine ⟨hb.can (by simp), fun w1 h1 => ?_⟩
  have hb1 := hb.eqSets h1
  have hc : Chg [] w w1 := ((Chg.refl _ _).eqAlloc h0).eqSets h1 (.inr (Nat.le_refl _))
  exact ⟨_, _, _, _, _, _, _, _, hb1.row0, rfl, hc⟩

/-- an own gate: its blocks are new since W -/
structure Own (W w : World) (b bm : Nat) (g : GateS) : Prop where
  at_ : GateAt w b bm g
  b : W.heap.size ≤ b
  m : W.heap.size ≤ bm
  zero : ¬ 0 < g.num → g.came = []

theorem Own.step {W w w' : World} {b bm : Nat} {g : GateS} (h : Own W w b bm g) (hc : Chg [] w w') : Own W w' b bm g :=
  ⟨h.at_.chg hc (by simp) (by simp), h.b, h.m, h.zero⟩

theorem gArrive_zero (g : GateS) (i mk mn kind : Int) (h : ¬ 0 < g.num → g.came = []) (hi : ¬ 0 < (gArrive g i mk mn kind).2.num) : (gArrive g i mk mn kind).2.came = [] := by
  unfold gArrive at hi ⊢
  split
  · rename_i c; rw [if_pos c] at hi; exact h hi
  rename_i c; rw [if_neg c] at hi
  split
  · rename_i c; rw [if_pos c] at hi; exact h hi
  rename_i c; rw [if_neg c] at hi
  split
  · rename_i c; rw [if_pos c] at hi; exact h hi
  rename_i c; rw [if_neg c] at hi
  split
  · rename_i c; rw [if_pos c] at hi; exact h hi
  rename_i c; rw [if_neg c] at hi
  split
  · rename_i c; rw [if_pos c] at hi; exact h hi
  rename_i c; rw [if_neg c] at hi
  unfold gBarrier at hi ⊢
  split
  · rfl
  · rename_i c2; rw [if_neg c2] at hi
    simp only at hi
    omega

theorem arrive_own {W w : World} {b bm : Nat} {g : GateS} (h : Own W w b bm g) (hW : Chg [] W w) (i k n kind : Int) :
    Calls Try.prog 10 #[.pointer (some ⟨b, 0, none⟩), .int .i64 i, msg k n, .int .i64 kind] w fun e w' =>
      ∃ u, e = .returned u ∧ (u = .int .i64 (gArrive g i k n kind).1 ∧ Chg [] W w' ∧ Chg [b, bm] w w' ∧ ∃ bm', Own W w' b bm' (gArrive g i k n kind).2 ∧ (bm' = bm ∨ w.heap.size ≤ bm')) := by
  refine calls_of (arrive_any h.at_ i k 0 0 0 n kind none 0 0 h.zero) fun u w' ⟨hu, hc, bm', hg, hor⟩ => ?_
  refine ⟨_, rfl, hu, hW.trans hc (by have := h.b; have := h.m; simp; omega), hc, bm', ⟨hg, h.b, ?_, gArrive_zero g i k n kind h.zero⟩, hor⟩
  rcases hor with rfl | hh
  · exact h.m
  · exact Nat.le_trans hW.size hh

/-- two own gates, apart from each other -/
structure Two (W w : World) (b m : Nat) (g : GateS) (b2 m2 : Nat) (g2 : GateS) : Prop where
  one : Own W w b m g
  two : Own W w b2 m2 g2
  ne : b ≠ b2 ∧ b ≠ m2 ∧ m ≠ b2 ∧ m ≠ m2
  chg : Chg [] W w

theorem Two.swap {W w : World} {b m b2 m2 : Nat} {g g2 : GateS} (h : Two W w b m g b2 m2 g2) : Two W w b2 m2 g2 b m g :=
  ⟨h.two, h.one, by have := h.ne; omega, h.chg⟩

theorem Two.step {W w w' : World} {b m b2 m2 : Nat} {g g2 : GateS} (h : Two W w b m g b2 m2 g2) (hc : Chg [] w w') : Two W w' b m g b2 m2 g2 :=
  ⟨h.one.step hc, h.two.step hc, h.ne, h.chg.step hc⟩

theorem Two.arrive {W w : World} {b m b2 m2 : Nat} {g g2 : GateS} (h : Two W w b m g b2 m2 g2) (i k n kind : Int) :
    Calls Try.prog 10 #[.pointer (some ⟨b, 0, none⟩), .int .i64 i, msg k n, .int .i64 kind] w fun e w' =>
      ∃ u, e = .returned u ∧ (u = .int .i64 (gArrive g i k n kind).1 ∧ ∃ m', Two W w' b m' (gArrive g i k n kind).2 b2 m2 g2) := by
  refine calls_of (arrive_own h.one h.chg i k n kind) fun u w' ⟨hu, hc, hcc, m', ho, hor⟩ => ⟨_, rfl, hu, m', ho, ?_, ?_, hc⟩
  · have := h.ne
    exact ⟨h.two.at_.chg hcc (by simp; omega) (by simp; omega), h.two.b, h.two.m, h.two.zero⟩
  · have := h.ne
    have := h.two.at_.lt
    rcases hor with rfl | hh <;> omega

theorem small_any (w : World) : Calls Try.prog 5 #[] w fun e w' => ∃ u, e = .returned u ∧ (u = .bool true ∧ Chg [] w w') := by
  refine B5_run w _ ?_
  refine calls_of (new_any 2 w) fun u w1 ⟨b, m0, hu, hg, hc, h1, h2⟩ => ?_
  subst hu
  have oa : Own w w1 b m0 _ := ⟨hg, h1, h2, fun _ => rfl⟩
  refine ⟨_, rfl, calls_of (new_any 2 w1) fun u w2 ⟨b2, n0, hu, hg2, hc2, h3, h4⟩ => ?_⟩
  subst hu
  have d1 := hg.lt
  have h : Two w w2 b m0 _ b2 n0 _ := ⟨oa.step hc2, ⟨hg2, by have := hc.size; omega, by have := hc.size; omega, fun _ => rfl⟩, by omega, hc.step hc2⟩
  clear hg hg2 h1 h2 h3 h4 d1 oa hc hc2
  refine ⟨_, rfl, ?_⟩
  show Calls _ _ _ _ _
  refine calls_of (barrierMsg_any 1 _) fun u _ ⟨hu, k⟩ => ?_
  subst hu
  have h := h.step k
  clear k
  refine ⟨_, _, _, _, _, _, _, _, rfl, calls_of (h.arrive 0 1 1 0) fun u _ ⟨hu, _, h⟩ => ?_⟩
  subst hu
  refine ⟨_, rfl, by decide, rfl, ?_⟩
  refine calls_of (mark_any 5 _) fun u _ ⟨hu, k⟩ => ?_
  subst hu
  have h := h.step k
  clear k
  refine ⟨_, _, _, _, _, _, _, _, rfl, rfl, calls_of (h.arrive 0 2 5 0) fun u _ ⟨hu, _, h⟩ => ?_⟩
  subst hu
  refine ⟨_, rfl, rfl, ?_⟩
  refine calls_of (mark_any 5 _) fun u _ ⟨hu, k⟩ => ?_
  subst hu
  have h := h.step k
  clear k
  refine ⟨_, _, _, _, _, _, _, _, rfl, calls_of (h.arrive 1 2 5 0) fun u _ ⟨hu, _, h⟩ => ?_⟩
  subst hu
  refine ⟨_, rfl, by decide, rfl, ?_⟩
  refine calls_of (barrierMsg_any 1 _) fun u _ ⟨hu, k⟩ => ?_
  subst hu
  have h := h.step k
  clear k
  refine ⟨_, _, _, _, _, _, _, _, rfl, rfl, calls_of (h.arrive 1 1 1 0) fun u _ ⟨hu, _, h⟩ => ?_⟩
  subst hu
  refine ⟨_, rfl, rfl, ?_⟩
  have h := h.swap
  refine calls_of (barrierMsg_any 1 _) fun u _ ⟨hu, k⟩ => ?_
  subst hu
  have h := h.step k
  clear k
  refine ⟨_, _, _, _, _, _, _, _, rfl, calls_of (h.arrive 0 1 1 1) fun u _ ⟨hu, _, h⟩ => ?_⟩
  subst hu
  refine ⟨_, rfl, by decide, rfl, ?_⟩
  refine calls_of (mark_any 5 _) fun u _ ⟨hu, k⟩ => ?_
  subst hu
  have h := h.step k
  clear k
  refine ⟨_, _, _, _, _, _, _, _, rfl, rfl, calls_of (h.arrive 0 2 5 1) fun u _ ⟨hu, _, h⟩ => ?_⟩
  subst hu
  refine ⟨_, rfl, rfl, ?_⟩
  refine calls_of (mark_any 5 _) fun u _ ⟨hu, k⟩ => ?_
  subst hu
  have h := h.step k
  clear k
  refine ⟨_, _, _, _, _, _, _, _, rfl, calls_of (h.arrive 1 2 5 1) fun u _ ⟨hu, _, h⟩ => ?_⟩
  subst hu
  refine ⟨_, rfl, by decide, rfl, ?_⟩
  refine calls_of (barrierMsg_any 1 _) fun u _ ⟨hu, k⟩ => ?_
  subst hu
  have h := h.step k
  clear k
  refine ⟨_, _, _, _, _, _, _, _, rfl, rfl, calls_of (h.arrive 1 1 1 1) fun u _ ⟨hu, _, h⟩ => ?_⟩
  subst hu
  refine ⟨_, rfl, rfl, ?_⟩
  refine ⟨false, fun _ w' hw' => ?_, false, fun _ w' hw' => ?_, ?_⟩
  · subst hw'; exact calls_val (busy_any h.two.at_) ⟨rfl, rfl⟩
  · subst hw'; exact calls_val (busy_any h.one.at_) ⟨rfl, rfl⟩
  · exact ⟨rfl, h.chg⟩

theorem tmod_emod (n m : Int) (hm : 0 < m) : (if n.tmod m < 0 then n.tmod m + m else n.tmod m) = n % m ∧ -m < n.tmod m ∧ n.tmod m < m := by
  have h1 := Int.emod_nonneg n (show m ≠ 0 by omega)
  have h2 := Int.emod_lt_of_pos n hm
  have e := Int.tmod_eq_emod (a := n) (b := m)
  split at e
  · refine ⟨?_, by omega, by omega⟩
    rw [if_neg (by omega)]; omega
  · rename_i hc
    have hne : n % m ≠ 0 := fun h => hc (.inr (Int.dvd_of_emod_eq_zero h))
    have : (m.natAbs : Int) = m := by omega
    refine ⟨?_, by omega, by omega⟩
    rw [if_pos (by omega)]; omega

theorem mod_any (n m : Int) (w : World) (hm : 1 ≤ m) (hm2 : m ≤ 1000000) : Calls Try.prog 7 #[.int .i64 n, .int .i64 m] w fun e w' => ∃ u, e = .returned u ∧ (u = .int .i64 (n % m) ∧ w = w') := by
  refine B7_run n m w _ ?_
  obtain ⟨h1, h2, h3⟩ := tmod_emod n m (by omega)
  refine Br.intro (fun h => by simp at h; omega) (fun _ => ⟨by omega, Br.intro (fun h => ?_) (fun h => ?_)⟩)
  · have h : n.tmod m < 0 := by simpa using h
    rw [if_pos h] at h1
    exact ⟨⟨by omega, by omega⟩, by rw [h1], rfl⟩
  · have h : ¬ n.tmod m < 0 := by simpa using h
    rw [if_neg h] at h1
    exact ⟨by rw [h1], rfl⟩

/-- a slice of ints that came in -/
def IntsAt (w : World) (p : Option Addr) (n : Nat) : Prop :=
  ∀ j, j < n → ∃ b o x, p = some ⟨b, o, none⟩ ∧ w.cell? ⟨b, o + j, none⟩ = some (.int .i64 x)

def ints (l : List Int) : List Value := l.map (Value.int .i64)
theorem ints_get {l : List Int} {j : Nat} (h : j < l.length) : (ints l)[j]? = some (.int .i64 l[j]) := by simp [ints, h]
theorem ints_set (l : List Int) (j : Nat) (x : Int) : (ints l).set j (.int .i64 x) = ints (l.set j x) := by simp [ints, List.map_set]
theorem ints_len (l : List Int) : (ints l).length = l.length := by simp [ints]

theorem once_any (n kind : Int) (bp : Option Addr) (bN bC : Nat) (lp : Option Addr) (lN lC : Nat) (w : World) (hb : IntsAt w bp bN) (hl : IntsAt w lp lN) :
    Calls Try.prog 3 #[.int .i64 n, .int .i64 kind, .slice bp bN bC, .slice lp lN lC] w fun e w' => ∃ u, e = .returned u ∧ (u = .bool true ∧ Chg [] w w') := by
  refine B3_run n kind bp bN bC lp lN lC w _ ?_
  refine calls_of (small_any w) fun u w1 ⟨hu, c1⟩ => ?_
  subst hu
  refine ⟨true, rfl, Br.intro (fun _ => ⟨rfl, c1⟩) (fun hc => ?_)⟩
  simp at hc
  obtain ⟨⟨⟨⟨hn1, hn6⟩, hk⟩, hlN⟩, hbn⟩ := hc
  have hk : kind = 0 ∨ kind = 1 := by omega
  refine calls_of (new_any n w1) fun u w4 ⟨b, m0, hu, hg, c4, h1, h2⟩ => ?_
  subst hu
  rw [show max n 0 = n by omega] at hg
  have o4 : Own w w4 b m0 _ := ⟨hg, by have := c1.size; omega, by have := c1.size; omega, fun _ => rfl⟩
  have c4 := c1.step c4
  have d4 := hg.lt
  clear hg h1 h2 c1
  refine ⟨_, rfl, Br.intro (fun h => by cases h) (fun _ => ⟨by omega, fun w6 h6 => ?_⟩)⟩
  have l6 : Blk w6 w4.heap.size (ints (List.replicate n.toNat 0)) 3 := by
    have := Blk.eqNew h6
    rwa [show List.replicate n.toNat (Value.int .i64 0) = ints (List.replicate n.toNat 0) by simp [ints]] at this
  have c46 : Chg [] w4 w6 := (Chg.refl _ _).eqAlloc h6
  have o6 := o4.step c46
  have c6 := c4.step c46
  have s4 : w.heap.size ≤ w4.heap.size := c4.size
  generalize w4.heap.size = lb at *
  clear h6 c46 o4 c4
  -- the first loop: how many messages stand before the barriers
  refine exI_mk (fun k wk => 0 ≤ k ∧ k ≤ n ∧ Chg [] w wk ∧ Own w wk b m0 ⟨n, 0, 0, []⟩ ∧ ∃ ls : List Int, (ls.length : Int) = n ∧ (∀ x ∈ ls, 0 ≤ x ∧ x ≤ 4) ∧ Blk wk lb (ints ls) 3) ?_
  refine exI_mk (fun k _ => (n - k).toNat) ?_
  refine ⟨⟨Int.le_refl _, by omega, c6, o6, _, by simp; omega, fun x hx => by rw [List.eq_of_mem_replicate hx]; omega, l6⟩, ?_⟩
  clear o6 l6 c6
  rintro k wk ⟨hk0, hkn, ck, ok, ls, hls, hrg, lk⟩
  refine Br.intro (fun hlt => ?_) (fun hge => ?_)
  · have hlt : k < n := by simpa using hlt
    obtain ⟨pb, po, x, hp, hcell⟩ := hb k.toNat (by omega)
    refine ⟨by omega, ptrK_intro pb po hp ⟨x, ck.cell hcell (by simp), ?_⟩⟩
    refine calls_val (mod_any x 5 wk (by omega) (by omega)) ⟨_, rfl, by omega, ?_⟩
    have hj : k.toNat < ls.length := by omega
    rw [Nat.zero_add]
    refine ⟨lk.can (by rw [ints_len]; omega), fun w17 h17 => ⟨⟨by omega, by omega⟩, ⟨by omega, by omega, ?_, ?_, ls.set k.toNat (x % 5), by simpa using hls, ?_, ?_⟩, show (n - (k + 1)).toNat < (n - k).toNat by omega⟩⟩
    · exact ck.eqSet h17 (.inr s4)
    · exact ⟨ok.at_.same (by rw [h17, hp_setCell _ _ _ (by simp; omega)]) (by rw [h17, hp_setCell _ _ _ (by simp; omega)]), ok.b, ok.m, ok.zero⟩
    · intro y hy
      rcases List.mem_or_eq_of_mem_set hy with hy | rfl
      · exact hrg y hy
      · omega
    · have := lk.eqSet h17
      rwa [ints_set] at this
  have hkn : k = n := by simp at hge; omega
  clear hge hk0
  -- the second loop
  refine exI_mk (fun came snaps i wi => 0 ≤ i ∧ i ≤ lN + 6 * n ∧ Chg [] w wi ∧ ∃ (ls : List Int) (g : GateS) (m : Nat), Inv n kind lN came snaps i ls g ∧ Own w wi b m g ∧ Blk wi lb (ints ls) 3 ∧ b ≠ lb ∧ m ≠ lb) ?_
  refine exI_mk (fun _ _ i _ => (lN + 6 * n - i).toNat) ?_
  refine ⟨⟨by omega, by omega, ck, ls, _, m0, ⟨hls, fun x hx => by have := hrg x hx; omega, ?_, rfl, fun _ => ⟨rfl, rfl⟩, fun h => by omega, ?_, ?_⟩, ok, lk, by omega, by omega⟩, ?_⟩
  · have : negs ls = 0 := List.countP_eq_zero.2 fun x hx => by have := hrg x hx; simp; omega
    rw [this]; rfl
  · rcases hk with rfl | rfl
    · rw [if_pos rfl, if_neg (by omega)]
    · rfl
  · intro ha j hj
    have := hrg ls[j] (List.getElem_mem hj)
    rw [show (0 : Int) - 1 - j = (lN : Int) - 1 - j by omega]
    omega
  clear hls hrg lk ok ck hkn ls
  rintro came snaps i wi ⟨hi0, hiN, ci, ls, g, m, inv, own, li, nb, nm⟩
  refine ⟨⟨by omega, by omega⟩, ⟨by omega, by omega⟩, Br.intro (fun hlt => ?_) (fun hge => ?_)⟩
  rotate_left
  · -- the end
    have hi : i = lN + 6 * n := by simp at hge; omega
    obtain ⟨e1, e2, e3⟩ := inv.last (by omega) (by omega) hk hi
    refine ⟨0, fun _ w' hw' => ?_, ?_⟩
    · subst hw'; exact calls_val (number_any own.at_) ⟨by rw [e3], rfl⟩
    · exact ⟨by simp [e1, e2], ci⟩
  have hlt : i < lN + 6 * n := by simpa using hlt
  refine ⟨by omega, ?_⟩
  -- which channel
  refine exI_mk (fun c wc => wc = wi ∧ 0 ≤ c ∧ c < n ∧ ((lN : Int) ≤ i → c = i % n)) ?_
  refine ⟨Br.intro (fun hc => ?_) (fun hc => ?_), ?_⟩
  · have hc : i < lN := by simpa using hc
    obtain ⟨pb, po, x, hp, hcell⟩ := hl i.toNat (by omega)
    refine ⟨by omega, ptrK_intro pb po hp ⟨x, ci.cell hcell (by simp), calls_val (mod_any x n wi (by omega) (by omega)) ⟨_, rfl, rfl, ?_, ?_, by omega⟩⟩⟩
    · exact Int.emod_nonneg _ (by omega)
    · exact Int.emod_lt_of_pos _ (by omega)
  · have hc : ¬ i < lN := by simpa using hc
    have e : i.tmod n = i % n := Int.tmod_eq_emod_of_nonneg hi0
    rw [e]
    exact ⟨rfl, Int.emod_nonneg _ (by omega), Int.emod_lt_of_pos _ (by omega), fun _ => rfl⟩
  rintro c wc ⟨rfl, hc0, hcn, hci⟩
  have hcl : c.toNat < ls.length := by have := inv.len; omega
  have hstep := inv.step (by omega) (by omega) hk hi0 c.toNat hcl (fun h => by rw [← hci h]; omega) (by omega)
  have hx := inv.rng _ (List.getElem_mem hcl)
  rw [show ((c.toNat : Nat) : Int) = c by omega] at hstep
  generalize hxx : ls[c.toNat] = x at hstep hx
  simp only at hstep
  -- the message
  refine calls_of (mark_any 1 wc) fun u w34 ⟨hu, k34⟩ => ?_
  subst hu
  have ci := ci.step k34; have own := own.step k34; have li := k34.blk li (by simp)
  have dm := own.at_.lt
  have dl := li.lt
  have sm : w.heap.size ≤ w34.heap.size := ci.size
  refine ⟨_, _, _, _, _, _, _, _, rfl, fun w43 h43 => ?_⟩
  have ms := Blk.eqNew h43
  have k43 : Chg [] w34 w43 := (Chg.refl _ _).eqAlloc h43
  have ci := ci.step k43; have own := own.step k43; have li := k43.blk li (by simp)
  have nmb : b ≠ w34.heap.size ∧ m ≠ w34.heap.size ∧ lb ≠ w34.heap.size := by omega
  clear h43 k43 dm dl
  generalize w34.heap.size = mb at *
  refine ⟨ms.can (by simp), fun w44 h44 => ?_⟩
  have ms := ms.eqSets h44
  have ci := ci.eqSets h44 (.inr sm)
  have own : Own w w44 b m g := ⟨own.at_.same (by rw [h44, hp_setCells _ (by omega) _ _ _]) (by rw [h44, hp_setCells _ (by omega) _ _ _]), own.b, own.m, own.zero⟩
  have li := li.eqOthers h44 nmb.2.2
  clear h44
  refine exI_mk (fun w5 => Chg [] w w5 ∧ Own w w5 b m g ∧ Blk w5 lb (ints ls) 3 ∧ ∃ t, Blk w5 mb [.int .i64 (if x = 0 then 1 else 2), .int .i64 0, .int .i64 0, .int .i64 0, .int .i64 (if x = 0 then 3 else 1), .slice none 0 0] t) ?_
  have hgc : (ints ls)[c.toNat]? = some (.int .i64 x) := by rw [ints_get hcl, hxx]
  refine ⟨⟨by omega, x, by rw [Nat.zero_add]; exact li.cell_eq hgc, Br.intro (fun h0 => ?_) (fun h0 => ?_)⟩, ?_⟩
  · have h0 : x = 0 := by simpa using h0
    rw [if_pos h0, if_pos h0]
    refine calls_of (barrierMsg_any 3 w44) fun u w48 ⟨hu, k48⟩ => ?_
    subst hu
    have ci := ci.step k48; have own := own.step k48; have li := k48.blk li (by simp); have ms := k48.blk ms (by simp)
    refine ⟨_, _, _, _, _, _, _, _, rfl, ms.can (by simp [setL]), fun w57 h57 => ⟨ci.eqSets h57 (.inr sm), ⟨own.at_.same (by rw [h57, hp_setCells _ (by omega) _ _ _]) (by rw [h57, hp_setCells _ (by omega) _ _ _]), own.b, own.m, own.zero⟩, li.eqOthers h57 nmb.2.2, _, ms.eqSets h57⟩⟩
  · have h0 : ¬ x = 0 := by simpa using h0
    rw [if_neg h0, if_neg h0]
    exact ⟨ci, own, li, _, ms⟩
  clear ms ci own li
  rintro w58 ⟨ci, own, li, t, ms⟩
  refine ⟨_, _, _, _, _, _, _, _, ms.row0, calls_of (arrive_own own ci c _ _ kind) fun u w68 ⟨hu, c68, k68, m', own', hor⟩ => ?_⟩
  subst hu
  have dl := li.lt
  have nm' : m' ≠ lb := by rcases hor with rfl | hor <;> omega
  have li' := k68.blk li (by simp; omega)
  obtain ⟨r1, r2, inv'⟩ := hstep
  refine ⟨_, rfl, ?_⟩
  refine exI_mk (fun a1 a2 a3 w7 => w7 = w68 ∧ a1 = (if x = 0 then came + 1 else came) ∧ a2 = (if x = 0 ∧ (kind = 0 ∧ came + 1 = n ∨ kind = 1 ∧ came + 1 = 1) then snaps + 1 else snaps) ∧ a3 = want n kind came x) ?_
  have hcell : w68.cell? (Addr.mk lb (0 + c.toNat) none) = some (.int .i64 x) := by rw [Nat.zero_add]; exact li'.cell_eq hgc
  have hrange : 0 ≤ c ∧ c < ((n.toNat : Nat) : Int) := by omega
  refine ⟨⟨hrange, x, hcell, Br.intro (fun h0 => ?_) (fun h0 => ?_)⟩, ?_⟩
  · have h0 : x = 0 := by simpa using h0
    have hcn := inv.cnt
    have := negs_le ls
    have := inv.len
    have hsn : 0 ≤ snaps ∧ snaps ≤ 1 := by rw [inv.snap]; split <;> split <;> omega
    refine ⟨⟨by omega, by omega⟩, Br.intro (fun h1 => ?_) (fun h1 => ?_)⟩
    · have h1 : kind = 0 ∧ came + 1 = n ∨ kind = 1 ∧ came + 1 = 1 := by simpa using h1
      refine ⟨⟨by omega, by omega⟩, rfl, by rw [if_pos h0], by rw [if_pos ⟨h0, h1⟩], ?_⟩
      · unfold want; rw [if_pos h0, if_pos h1]
    · have h1 : ¬ (kind = 0 ∧ came + 1 = n ∨ kind = 1 ∧ came + 1 = 1) := by simpa using h1
      refine ⟨rfl, by rw [if_pos h0], by rw [if_neg fun hh => h1 hh.2], ?_⟩
      unfold want; rw [if_pos h0, if_neg h1]
  · have h0 : ¬ x = 0 := by simpa using h0
    refine ⟨hrange, x, hcell, Br.intro (fun h1 => ?_) (fun h1 => ⟨hrange, x, hcell, Br.intro (fun h2 => ?_) (fun h2 => ?_)⟩)⟩
    · have h1 : x < 0 ∧ kind = 0 ∧ came < n := by simpa [and_assoc] using h1
      refine ⟨rfl, by rw [if_neg h0], by rw [if_neg fun hh => h0 hh.1], ?_⟩
      unfold want; rw [if_neg h0, if_pos h1]
    · have h1 : ¬ (x < 0 ∧ kind = 0 ∧ came < n) := by simpa [and_assoc] using h1
      have h2 : 0 < x ∧ kind = 1 ∧ 0 < came := by simpa [and_assoc] using h2
      refine ⟨rfl, by rw [if_neg h0], by rw [if_neg fun hh => h0 hh.1], ?_⟩
      unfold want; rw [if_neg h0, if_neg h1, if_pos h2]
    · have h1 : ¬ (x < 0 ∧ kind = 0 ∧ came < n) := by simpa [and_assoc] using h1
      have h2 : ¬ (0 < x ∧ kind = 1 ∧ 0 < came) := by simpa [and_assoc] using h2
      refine ⟨rfl, by rw [if_neg h0], by rw [if_neg fun hh => h0 hh.1], ?_⟩
      unfold want; rw [if_neg h0, if_neg h1, if_neg h2]
  rintro a1 a2 a3 w77 ⟨rfl, rfl, rfl, rfl⟩
  refine ⟨decide (0 < (gArrive g c (if x = 0 then 1 else 2) (if x = 0 then 3 else 1) kind).2.num), fun _ w' hw' => ?_, Br.intro (fun h1 => ?_) (fun _ => ?_)⟩
  · subst hw'; exact calls_val (busy_any own'.at_) ⟨rfl, rfl⟩
  · exfalso
    simp only [r1, r2, Bool.decide_and, ne_eq, not_true_eq_false, decide_false, Bool.false_or, bne_self_eq_false, Bool.false_eq_true] at h1
  refine ⟨hrange, x, hcell, ⟨by omega, by omega⟩, hrange, ?_, fun w83 h83 => ?_⟩
  · rw [Nat.zero_add]; exact li'.can (by rw [ints_len]; omega)
  rw [Nat.zero_add] at h83
  refine ⟨⟨by omega, by omega⟩, ⟨by omega, by omega, c68.eqSet h83 (.inr s4), _, _, m', inv', ⟨own'.at_.same (by rw [h83, hp_setCell _ _ _ (by simp; omega)]) (by rw [h83, hp_setCell _ _ _ (by simp; omega)]), own'.b, own'.m, own'.zero⟩, ?_, nb, nm'⟩, ?_⟩
  · have := li'.eqSet h83
    rwa [ints_set] at this
  · show (lN + 6 * n - (i + 1)).toNat < (lN + 6 * n - i).toNat
    omega
end Go.Proofs.Ytahibihckcpmmaa
