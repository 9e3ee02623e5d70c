/-
  The gate: what each of its functions does, as a contract.
-/
import Derived.Test.YtahibihckcpmmaaGateL
import Derived.Test.YtahibihckcpmmaaGateB
namespace Go.Proofs.Ytahibihckcpmmaa
open Go.Vc

structure GateS where
  ch : Int
  num : Int
  kind : Int
  came : List Int

def GateAt (w : World) (b bm : Nat) (g : GateS) : Prop :=
  Blk w b [.int .i64 g.ch, .map (some bm), .int .i64 g.num, .int .i64 g.kind] 47 ∧ w.heap[bm]? = some (setObj g.came) ∧ b ≠ bm

theorem GateAt.lt {w : World} {b bm : Nat} {g : GateS} (h : GateAt w b bm g) : b < w.heap.size ∧ bm < w.heap.size := ⟨h.1.lt, (Array.getElem?_eq_some_iff.1 h.2.1).1⟩

theorem GateAt.same {w w' : World} {b bm : Nat} {g : GateS} (h : GateAt w b bm g) (h1 : w'.heap[b]? = w.heap[b]?) (h2 : w'.heap[bm]? = w.heap[bm]?) : GateAt w' b bm g :=
  ⟨h.1.same h1, h2.trans h.2.1, h.2.2⟩

theorem GateAt.chg {S : List Nat} {w w' : World} {b bm : Nat} {g : GateS} (h : GateAt w b bm g) (hc : Chg S w w') (h1 : b ∉ S) (h2 : bm ∉ S) : GateAt w' b bm g :=
  h.same (hc.block b h.lt.1 h1) (hc.block bm h.lt.2 h2)

theorem calls_val {P : Program} {f : FuncId} {args : Array Value} {w : World} {R : Ending → World → Prop} {v : Value}
    (h : Calls P f args w fun e w' => ∃ u, e = .returned u ∧ (u = v ∧ w = w')) (hR : R (.returned v) w) : Calls P f args w R :=
  calls_of h fun u w' ⟨hu, hw⟩ => by subst hu; subst hw; exact hR

theorem busy_any {w : World} {b bm : Nat} {g : GateS} (h : GateAt w b bm g) :
    Calls Try.prog 11 #[.pointer (some ⟨b, 0, none⟩)] w fun e w' => ∃ u, e = .returned u ∧ (u = .bool (decide (0 < g.num)) ∧ w = w') := by
  refine B11_run b 0 w _ ?_
  exact ⟨_, h.1.cell_eq (i := 2) rfl, rfl, rfl⟩

theorem number_any {w : World} {b bm : Nat} {g : GateS} (h : GateAt w b bm g) :
    Calls Try.prog 12 #[.pointer (some ⟨b, 0, none⟩)] w fun e w' => ∃ u, e = .returned u ∧ (u = .int .i64 g.num ∧ w = w') := by
  refine B12_run b 0 w _ ?_
  exact ⟨_, h.1.cell_eq (i := 2) rfl, rfl, rfl⟩

theorem new_any (n : Int) (w : World) : Calls Try.prog 6 #[.int .i64 n] w fun e w' => ∃ u, e = .returned u ∧
    ∃ b bm, u = .pointer (some ⟨b, 0, none⟩) ∧ GateAt w' b bm ⟨max n 0, 0, 0, []⟩ ∧ Chg [] w w' ∧ w.heap.size ≤ b ∧ w.heap.size ≤ bm := by
  refine B6_run n w _ ?_
  intro w0 h0 w1 h1
  subst h0 h1
  refine ⟨_, _, rfl, ⟨Blk.alloc_new _ _ _, ?_, ?_⟩, ((Chg.refl _ _).alloc _).alloc _, by simp, Nat.le_refl _⟩
  · rw [hp_alloc_old _ _ (by simp), hp_alloc_new]; rfl
  · simp

theorem cancel_any {w : World} {b bm : Nat} {g : GateS} (h : GateAt w b bm g) :
    Calls Try.prog 14 #[.pointer (some ⟨b, 0, none⟩)] w fun e w' => ∃ u, e = .returned u ∧ (u = .tuple #[] ∧ Chg [b] w w' ∧ ∃ bm', GateAt w' b bm' { g with num := 0, came := [] } ∧ w.heap.size ≤ bm') := by
  obtain ⟨hb, hm, hne⟩ := h
  refine B14_run b 0 w _ ?_
  intro w0 h0
  have hb0 := hb.eqAlloc h0
  refine ⟨hb0.can (by simp), fun w1 h1 => ?_⟩
  have hb1 := hb0.eqSet h1
  refine ⟨hb1.can (by simp), fun w2 h2 => ⟨rfl, ?_, w.heap.size, ⟨?_, ?_, ?_⟩, Nat.le_refl _⟩⟩
  · rw [h2, h1, h0]
    exact (((Chg.refl _ _).alloc _).setCell (by simp) _).setCell (by simp) _
  · exact hb1.eqSet h2
  · have := hb.lt
    rw [h2, h1, h0, hp_setCell _ _ _ (by simp; omega), hp_setCell _ _ _ (by simp; omega), hp_alloc_new]; rfl
  · have := hb.lt; omega

def gBarrier (g : GateS) (i n kind : Int) : Int × GateS :=
  if (g.came.length + 1 : Int) = g.ch then (if kind = 0 ∨ kind = 1 ∧ ¬ 0 < g.num then 4 else 3, { g with num := 0, kind := kind, came := [] })
  else (if kind = 1 ∧ ¬ 0 < g.num then 4 else 3, { g with num := n, kind := kind, came := g.came ++ [i] })

def gArrive (g : GateS) (i mk mn kind : Int) : Int × GateS :=
  if i < 0 ∨ g.ch ≤ i ∨ kind ≠ 0 ∧ kind ≠ 1 then (-1, g)
  else if 0 < g.num ∧ g.kind ≠ 1 ∧ i ∈ g.came then (0, g)
  else if mk ≠ 1 ∧ 0 < g.num ∧ g.kind = 1 ∧ i ∉ g.came then (2, g)
  else if mk ≠ 1 then (1, g)
  else if mn < 1 ∨ 0 < g.num ∧ (mn ≠ g.num ∨ kind ≠ g.kind ∨ i ∈ g.came) then (-1, g)
  else gBarrier g i mn kind

/-- what a call leaves of a gate -/
def GateTo (w : World) (b bm : Nat) (r : Int × GateS) (v : Value) (w' : World) : Prop :=
  v = .int .i64 r.1 ∧ Chg [b, bm] w w' ∧ ∃ bm', GateAt w' b bm' r.2 ∧ (bm' = bm ∨ w.heap.size ≤ bm')

theorem zero_bool : ∀ w, (zeroValue 4).run Try.prog w = .ok (.bool false) w := fun _ => by kernel_rfl

theorem barrier_any {w : World} {b bm : Nat} {g : GateS} (h : GateAt w b bm g) (i n kind : Int) (hi : i ∉ g.came) :
    Calls Try.prog 19 #[.pointer (some ⟨b, 0, none⟩), .int .i64 i, .int .i64 n, .int .i64 kind] w fun e w' => ∃ u, e = .returned u ∧ GateTo w b bm (gBarrier g i n kind) u w' := by
  have h' := h
  obtain ⟨hb, hm, hne⟩ := h'
  refine B19_run b 0 i n kind w _ ?_
  refine calls_val (busy_any h) ⟨_, rfl, some bm, hb.cell_eq (i := 1) rfl, hb.can (by simp), fun w1 h1 => ?_⟩
  have hb1 := hb.eqSet h1
  refine ⟨hb1.can (by simp), fun w2 h2 => ?_⟩
  have hb2 := hb1.eqSet h2
  have hm2 : w2.heap[bm]? = some (setObj g.came) := by
    rw [h2, h1, hp_setCell _ _ _ (by simpa using hne.symm), hp_setCell _ _ _ (by simpa using hne.symm)]; exact hm
  have hc2 : Chg [b, bm] w w2 := by rw [h2, h1]; exact ((Chg.refl _ _).setCell (by simp) _).setCell (by simp) _
  have hlt2 : bm < w2.heap.size := (Array.getElem?_eq_some_iff.1 hm2).1
  refine ⟨_, _, _, mapEntry_new Try.underlying45 Try.underlying3 zero_bool hm2 i hi, _, entryStore_new 45 i (hp_setB_same _ _ hlt2), ?_⟩
  generalize hw3 : setB (setB w2 bm _) bm (setObj (g.came ++ [i])) = w3
  have hb3 := hb2.same (w' := w3) (by rw [← hw3, hp_setB _ _ hne, hp_setB _ _ hne])
  have hm3 : w3.heap[bm]? = some (setObj (g.came ++ [i])) := by rw [← hw3]; exact hp_setB_same _ _ (by rw [size_setB]; exact hlt2)
  have hc3 : Chg [b, bm] w w3 := by rw [← hw3]; exact (hc2.setB (by simp) _).setB (by simp) _
  refine ⟨some bm, hb3.cell_eq (i := 1) rfl, _, fun w4 h4 => len_set Try.underlying45 (by rw [h4]; exact hm3) 3, _, hb3.cell_eq (i := 0) rfl, fun k => ?_⟩
  have hg3 : GateAt (w3.drewN k) b bm { g with num := n, kind := kind, came := g.came ++ [i] } := ⟨hb3, hm3, hne⟩
  have hc3' := hc3.drewN k
  refine Br.intro (fun hall => ?_) (fun hall => ?_)
  · have hall' : (g.came.length + 1 : Int) = g.ch := by simpa using hall
    refine calls_of (cancel_any hg3) fun u w5 ⟨hu, hc5, bm', hg5, hlt⟩ => ?_
    subst hu
    have hc : Chg [b, bm] w w5 := hc3'.trans hc5 (by simp)
    have hle : w.heap.size ≤ bm' := Nat.le_trans hc3'.size hlt
    refine ⟨rfl, Br.intro (fun hk => ?_) (fun hk => ?_)⟩ <;> simp [hall'] at hk <;> refine ⟨?_, hc, bm', ?_, .inr hle⟩ <;> simp only [gBarrier, if_pos hall'] <;> first | exact hg5 | (congr 1) | skip
    · rw [if_pos (by omega)]
    · rw [if_neg (by omega)]
  · have hall' : ¬ (g.came.length + 1 : Int) = g.ch := by simpa using hall
    refine Br.intro (fun hk => ?_) (fun hk => ?_) <;> simp [hall'] at hk <;> refine ⟨?_, hc3', bm, ?_, .inl rfl⟩ <;> simp only [gBarrier, if_neg hall'] <;> first | exact hg3 | (congr 1) | skip
    · rw [if_pos (by omega)]
    · rw [if_neg (by omega)]

theorem arrive_any {w : World} {b bm : Nat} {g : GateS} (h : GateAt w b bm g) (i m0 m1 m2 m3 m4 kind : Int) (p : Option Addr) (n c : Nat) (hz : ¬ 0 < g.num → g.came = []) :
    Calls Try.prog 10 #[.pointer (some ⟨b, 0, none⟩), .int .i64 i, .agg #[.int .i64 m0, .int .i64 m1, .int .i64 m2, .int .i64 m3, .int .i64 m4, .slice p n c], .int .i64 kind] w fun e w' =>
      ∃ u, e = .returned u ∧ GateTo w b bm (gArrive g i m0 m4 kind) u w' := by
  refine B10_run b 0 i m0 m1 m2 m3 m4 p n c kind w _ ?_
  intro w0 h0
  have hlt := h.lt
  have hg : GateAt w0 b bm g := by rw [h0]; exact h.same (hp_alloc_old _ _ hlt.1) (hp_alloc_old _ _ hlt.2)
  have hm := Blk.eqNew h0
  have hc : Chg [b, bm] w w0 := by rw [h0]; exact (Chg.refl _ _).alloc _
  have stay : ∀ r, gArrive g i m0 m4 kind = (r, g) → GateTo w b bm (gArrive g i m0 m4 kind) (.int .i64 r) w0 := by
    intro r hr; rw [hr]; exact ⟨rfl, hc, bm, hg, .inl rfl⟩
  have hl : ∀ w', w'.heap = w0.heap → (Instr.lookup 45 (.map (some bm)) (.int .i64 i) false).run Try.prog w' = .ok (.bool (decide (i ∈ g.came))) w' :=
    fun w' hw' => lookup_set Try.underlying45 Try.underlying3 zero_bool (by rw [hw']; exact hg.2.1) i
  have hbusy : ∀ w', w'.heap = w0.heap → Calls Try.prog 11 #[.pointer (some ⟨b, 0, none⟩)] w' fun e w'' => ∃ u, e = .returned u ∧ (u = .bool (decide (0 < g.num)) ∧ w' = w'') :=
    fun w' hw' => busy_any (hg.same (by rw [hw']) (by rw [hw']))
  clear h0
  refine ⟨decide (0 < g.num), fun w2 h2 => ?_, g.kind, fun _ => hg.1.cell_eq (i := 3) rfl, g.ch, fun _ => hg.1.cell_eq (i := 0) rfl, Br.intro (fun h1 => ?_) (fun h1 => ?_)⟩
  · subst h2; exact calls_val (hbusy _ rfl) ⟨rfl, rfl⟩
  · refine stay _ ?_
    simp only [Bool.or_eq_true, decide_eq_true_eq, Bool.and_eq_true] at h1
    simp only [gArrive]
    rw [if_pos (by omega)]
  have n1 : ¬ (i < 0 ∨ g.ch ≤ i ∨ kind ≠ 0 ∧ kind ≠ 1) := by
    simp at h1; omega
  refine ⟨decide (0 < g.num), fun w2 h2 => ?_, some bm, fun _ => hg.1.cell_eq (i := 1) rfl, _, fun _ => hl, Br.intro (fun h2 => ?_) (fun h2 => ?_)⟩
  · subst h2; exact calls_val (hbusy _ rfl) ⟨rfl, rfl⟩
  · refine stay _ ?_
    simp at h2
    simp only [gArrive]
    rw [if_neg n1, if_pos ⟨h2.1.1, by rcases h2.1.2 with h | h; omega; exact h, h2.2⟩]
  have n2 : ¬ (0 < g.num ∧ g.kind ≠ 1 ∧ i ∈ g.came) := by
    rintro ⟨a1, a2, a3⟩
    simp [a1, a2, a3] at h2
  refine ⟨m0, hm.cell_eq (i := 0) rfl, some bm, fun _ => hg.1.cell_eq (i := 1) rfl, _, fun _ => hl, Br.intro (fun h3 => ?_) (fun h3 => ?_)⟩
  · refine stay _ ?_
    simp at h3
    simp only [gArrive]
    rw [if_neg n1, if_neg n2, if_pos ⟨h3.1.1, h3.1.2.1, h3.1.2.2, h3.2⟩]
  have n3 : ¬ (m0 ≠ 1 ∧ 0 < g.num ∧ g.kind = 1 ∧ i ∉ g.came) := by
    rintro ⟨a1, a2, a3, a4⟩
    simp [a1, a2, a3, a4] at h3
  refine ⟨m0, hm.cell_eq (i := 0) rfl, Br.intro (fun h4 => ?_) (fun h4 => ?_)⟩
  · refine stay _ ?_
    simp only [gArrive]
    rw [if_neg n1, if_neg n2, if_neg n3, if_pos (by simpa using h4)]
  have n4 : ¬ m0 ≠ 1 := by simpa using h4
  refine ⟨m4, hm.cell_eq (i := 4) rfl, decide (0 < g.num), fun _ w2 ⟨k, hk⟩ => ?_, m4, fun _ => hm.cell_eq (i := 4) rfl, g.num, fun _ => hg.1.cell_eq (i := 2) rfl, g.kind, fun _ => hg.1.cell_eq (i := 3) rfl, some bm, fun _ => hg.1.cell_eq (i := 1) rfl, _, fun _ => hl, fun k => Br.intro (fun h5 => ?_) (fun h5 => ?_)⟩
  · subst hk; exact calls_val (hbusy _ rfl) ⟨rfl, k, rfl⟩
  · have : gArrive g i m0 m4 kind = (-1, g) := by
      simp at h5
      simp only [gArrive]
      rw [if_neg n1, if_neg n2, if_neg n3, if_neg n4, if_pos (by simpa [or_assoc] using h5)]
    obtain ⟨a1, a2, bm', a3, a4⟩ := stay _ this
    exact ⟨a1, a2.drewN k, bm', a3, a4⟩
  have n5 : ¬ (m4 < 1 ∨ 0 < g.num ∧ (m4 ≠ g.num ∨ kind ≠ g.kind ∨ i ∈ g.came)) := by
    rintro (a | ⟨a1, a2⟩)
    · simp [a] at h5
    · simp [a1] at h5
      rcases a2 with a | a | a <;> simp [a] at h5
  have hi : i ∉ g.came := by
    by_cases hb : 0 < g.num
    · intro hm; exact n5 (.inr ⟨hb, .inr (.inr hm)⟩)
    · rw [hz hb]; simp
  refine ⟨m4, hm.cell_eq (i := 4) rfl, ?_⟩
  have hg' : GateAt (w0.drewN k) b bm g := hg
  refine calls_of (barrier_any hg' i m4 kind hi) fun u w3 ⟨hu, hc3, bm', hg3, hor⟩ => ?_
  subst hu
  refine ⟨_, rfl, ?_⟩
  simp only [gArrive]
  rw [if_neg n1, if_neg n2, if_neg n3, if_neg n4, if_neg n5]
  refine ⟨rfl, (hc.drewN k).trans hc3 (by simp), bm', hg3, ?_⟩
  rcases hor with h | h
  · exact .inl h
  · exact .inr (Nat.le_trans hc.size h)

end Go.Proofs.Ytahibihckcpmmaa
