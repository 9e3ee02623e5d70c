/-
  WHAT A WALK OWNS: a list of blocks with their contents ('Ctx'), beside facts that stay ('Stable').
-/
import Derived.Test.YtifgijoeckoojaaVcL
set_option linter.unusedVariables false
set_option linter.unusedSimpArgs false
namespace Go.Vc
open Go.ChangeShapes Go.WideShapes Go.RowKit

instance instStableRep {α : Type} [Gv α] (cs : List Value) (x : α) : Stable (fun M w => Gv.rep M w cs x) := ⟨fun hs h => Gv.stable hs h⟩
instance instStableSl {α : Type} [Gv α] (p : Option Addr) (l : List α) : Stable (fun M w => Sl M w p l) := ⟨fun hs h => h.stable hs⟩
instance instStableTrue : Stable (fun _ _ => True) := ⟨fun _ _ => trivial⟩
instance instStableConst (p : Prop) : Stable (fun _ _ => p) := ⟨fun _ h => h⟩
instance instStableAnd (Φ Ψ : List Nat → World → Prop) [Stable Φ] [Stable Ψ] : Stable (fun M w => Φ M w ∧ Ψ M w) := ⟨fun hs h => ⟨Stable.step hs h.1, Stable.step hs h.2⟩⟩
instance instStableAll {ι : Sort _} (Φ : ι → List Nat → World → Prop) [∀ i, Stable (Φ i)] : Stable (fun M w => ∀ i, Φ i M w) := ⟨fun hs h i => Stable.step hs (h i)⟩
instance instStableEx {ι : Sort _} (Φ : ι → List Nat → World → Prop) [∀ i, Stable (Φ i)] : Stable (fun M w => ∃ i, Φ i M w) := ⟨fun hs ⟨i, h⟩ => ⟨i, Stable.step hs h⟩⟩
instance instStableImp (p : Prop) (Φ : List Nat → World → Prop) [Stable Φ] : Stable (fun M w => p → Φ M w) := ⟨fun hs h hp => Stable.step hs (h hp)⟩

/-- something that a walk owns: a block; a slice that grows; an object of any kind -/
inductive Own where
  | blk (b : Nat) (cs : List Value) (t : TypeId)
  | buf (p : Option Addr) (n c : Nat) (cs : List Value) (t : TypeId) (size : Nat)
  | obj (b : Nat) (o : Obj)

def Own.dom : Own → List Nat
  | .blk b _ _ => [b]
  | .buf (some a) _ _ _ _ _ => [a.block]
  | .buf none _ _ _ _ _ => []
  | .obj b _ => [b]

def Own.at (w : World) : Own → Prop
  | .blk b cs t => Blk w b cs t
  | .buf p n c cs t size => w.ownsRow 0 t size (.slice p n c) n cs
  | .obj b o => w.heap[b]? = some o

def dom (S : List Own) : List Nat := S.flatMap Own.dom

theorem Own.at_keep {w w' : World} {o : Own} (h : o.at w) (hk : ∀ b ∈ o.dom, w'.heap[b]? = w.heap[b]?) : o.at w' := by
  cases o with
  | blk b cs t => exact Blk.same h (hk b (by simp [Own.dom]))
  | obj b x => exact (hk b (by simp [Own.dom])).trans h
  | buf p n c cs t size =>
    obtain ⟨h1, h2⟩ := h
    refine ⟨h1, ?_⟩
    rcases h2 with h2 | ⟨g, cap, cur, e, h3, h4, h5⟩
    · exact .inl h2
    · cases e
      exact .inr ⟨g, c, cur, rfl, h3, (hk g (by simp [Own.dom])).trans h4, h5⟩

theorem Own.at_lt {w : World} {o : Own} (h : o.at w) : ∀ b ∈ o.dom, b < w.heap.size := by
  have key : ∀ (b : Nat) (x : Obj), w.heap[b]? = some x → b < w.heap.size := fun b x hx => (Array.getElem?_eq_some_iff.1 hx).1
  cases o with
  | blk b cs t => intro k hk; simp [Own.dom] at hk; subst hk; exact key _ _ h
  | obj b x => intro k hk; simp [Own.dom] at hk; subst hk; exact key _ _ h
  | buf p n c cs t size =>
    obtain ⟨_, h2⟩ := h
    intro k hk
    rcases h2 with ⟨h2, _⟩ | ⟨g, cap, cur, e, h3, h4, h5⟩
    · cases h2; simp [Own.dom] at hk
    · cases e; simp [Own.dom] at hk; subst hk; exact key _ _ h4

/-- WHAT A WALK THAT BEGAN AT W KNOWS: nothing that was there has changed; the blocks of S are its own, with these contents; Φ holds of the rest -/
structure Ctx (W w : World) (S : List Own) (Φ : List Nat → World → Prop) : Prop where
  chg : Chg [] W w
  own : ∀ o ∈ S, o.at w
  young : ∀ b ∈ dom S, W.heap.size ≤ b
  nodup : (dom S).Nodup
  phi : Φ (dom S) w

section
variable {W w w' : World} {S S' : List Own} {Φ Ψ : List Nat → World → Prop}

theorem mem_dom {b : Nat} {o : Own} (ho : o ∈ S) (hb : b ∈ o.dom) : b ∈ dom S := List.mem_flatMap.2 ⟨o, ho, hb⟩

theorem Ctx.start (W : World) (h : Φ [] W) : Ctx W W [] Φ := ⟨Chg.refl _ _, by simp, by simp [dom], by simp [dom], h⟩

theorem Ctx.lt (c : Ctx W w S Φ) {b : Nat} (hb : b ∈ dom S) : b < w.heap.size := by
  obtain ⟨o, ho, hb⟩ := List.mem_flatMap.1 hb
  exact Own.at_lt (c.own o ho) b hb

theorem Ctx.go [Stable Φ] (c : Ctx W w S Φ) (hs : Step (dom S) (dom S') w w') (ho : ∀ o ∈ S', o.at w') (hn : (dom S').Nodup) : Ctx W w' S' Φ := by
  refine ⟨c.chg.trans hs.chg fun b hb => .inr (c.young b hb), ho, fun b hb => ?_, hn, Stable.step hs c.phi⟩
  rcases hs.sub b hb with h | h
  · exact c.young b h
  · exact Nat.le_trans c.chg.size h

/-- a change of worlds that leaves all that is owned -/
theorem Ctx.call [Stable Φ] (c : Ctx W w S Φ) (h : Chg [] w w') : Ctx W w' S Φ :=
  c.go ⟨h.mono (by simp), fun b hb => .inl hb⟩ (fun o ho => Own.at_keep (c.own o ho) fun b hb => h.block b (c.lt (mem_dom ho hb)) (by simp)) c.nodup

theorem Ctx.draw [Stable Φ] (c : Ctx W w S Φ) (n : Nat) : Ctx W (w.drewN n) S Φ := c.call ((Chg.refl _ _).drewN n)

theorem Ctx.new' [Stable Φ] (c : Ctx W w S Φ) (o : Obj) (x : Own) (hd : x.dom = [w.heap.size]) (hx : x.at (w.alloc o)) : Ctx W (w.alloc o) (x :: S) Φ := by
  have hc : Chg [] w (w.alloc o) := (Chg.refl _ _).alloc o
  have hdom : dom (x :: S) = w.heap.size :: dom S := by simp [dom, hd]
  refine c.go ⟨hc.mono (by simp), fun b hb => ?_⟩ (fun y hy => ?_) ?_
  · rw [hdom] at hb
    rcases List.mem_cons.1 hb with rfl | hb
    · exact .inr (Nat.le_refl _)
    · exact .inl hb
  · rcases List.mem_cons.1 hy with rfl | hy
    · exact hx
    · exact Own.at_keep (c.own y hy) fun b hb => hc.block b (c.lt (mem_dom hy hb)) (by simp)
  · rw [hdom]
    exact List.nodup_cons.2 ⟨fun hm => by have := c.lt hm; omega, c.nodup⟩

theorem Ctx.new [Stable Φ] (c : Ctx W w S Φ) {cs : Array Value} {t : TypeId} (e : w' = w.alloc (.cells cs t)) : Ctx W w' (.blk w.heap.size cs.toList t :: S) Φ := by
  subst e
  exact c.new' _ _ rfl (by have := Blk.alloc_new w cs.toList t; simpa [Own.at] using this)

theorem Ctx.newObj [Stable Φ] (c : Ctx W w S Φ) {o : Obj} (e : w' = w.alloc o) : Ctx W w' (.obj w.heap.size o :: S) Φ := by
  subst e
  exact c.new' _ _ rfl (hp_alloc_new w o)

theorem dom_set {k : Nat} {o o' : Own} (hk : S[k]? = some o) : dom (S.set k o') = (S.take k).flatMap Own.dom ++ o'.dom ++ (S.drop (k + 1)).flatMap Own.dom := by
  have hlt : k < S.length := (List.getElem?_eq_some_iff.1 hk).1
  rw [List.set_eq_take_append_cons_drop, if_pos hlt]
  simp [dom]

theorem dom_at {k : Nat} {o : Own} (hk : S[k]? = some o) : dom S = (S.take k).flatMap Own.dom ++ o.dom ++ (S.drop (k + 1)).flatMap Own.dom := by
  have := dom_set (S := S) (o' := o) hk
  rwa [show S.set k o = S by
    apply List.ext_getElem?
    intro i
    rw [List.getElem?_set]
    split
    · rename_i h; subst h; split
      · exact hk.symm
      · rename_i h; exact absurd (List.getElem?_eq_some_iff.1 hk).1 h
    · rfl] at this

/-- one thing that is owned is written, or put in another place -/
theorem Ctx.upd [Stable Φ] (c : Ctx W w S Φ) {k : Nat} {o o' : Own} (hk : S[k]? = some o) (hc : Chg o.dom w w') (hd : ∀ b ∈ o'.dom, b ∈ o.dom ∨ w.heap.size ≤ b) (hn : o'.dom.Nodup) (ho : o'.at w') : Ctx W w' (S.set k o') Φ := by
  have hmem : o ∈ S := List.mem_of_getElem? hk
  have e := dom_at hk
  have hnd := c.nodup
  rw [e] at hnd
  have hlt : ∀ b ∈ (S.take k).flatMap Own.dom ++ o.dom ++ (S.drop (k + 1)).flatMap Own.dom, b < w.heap.size := fun b hb => c.lt (by rw [e]; exact hb)
  refine c.go ⟨hc.mono fun x hx => mem_dom hmem hx, fun b hb => ?_⟩ (fun y hy => ?_) ?_
  · rw [dom_set hk] at hb
    simp only [List.mem_append] at hb
    rcases hb with (hb | hb) | hb
    · left; rw [e]; simp [hb]
    · rcases hd b hb with h | h
      · left; rw [e]; simp [h]
      · exact .inr h
    · left; rw [e]; simp [hb]
  · obtain ⟨j, hj⟩ := List.getElem?_of_mem hy
    rw [List.getElem?_set] at hj
    split at hj
    · split at hj
      · cases hj; exact ho
      · cases hj
    · rename_i hne
      refine Own.at_keep (c.own y (List.mem_of_getElem? hj)) fun b hb => hc.block b (c.lt (mem_dom (List.mem_of_getElem? hj) hb)) fun hm => ?_
      -- b would stand twice
      simp only [List.nodup_append, List.mem_append] at hnd
      obtain ⟨⟨_, _, h1⟩, _, h2⟩ := hnd
      have hjl : j < S.length := (List.getElem?_eq_some_iff.1 hj).1
      by_cases hjk : j < k
      · have : b ∈ (S.take k).flatMap Own.dom := List.mem_flatMap.2 ⟨y, List.mem_of_getElem? (i := j) (by rw [List.getElem?_take_of_lt hjk]; exact hj), hb⟩
        exact absurd rfl (h1 b this b hm)
      · have : b ∈ (S.drop (k + 1)).flatMap Own.dom := List.mem_flatMap.2 ⟨y, List.mem_of_getElem? (i := j - (k + 1)) (by rw [List.getElem?_drop, show k + 1 + (j - (k + 1)) = j by omega]; exact hj), hb⟩
        exact absurd rfl (h2 b (.inr hm) b this)
  · rw [dom_set hk]
    simp only [List.nodup_append, List.mem_append] at hnd ⊢
    obtain ⟨⟨n1, n2, h1⟩, n3, h2⟩ := hnd
    refine ⟨⟨n1, hn, fun a ha b hb => ?_⟩, n3, fun a ha b hb => ?_⟩
    · rcases hd b hb with h | h
      · exact h1 a ha b h
      · have := hlt a (by simp [ha]); omega
    · rcases ha with ha | ha
      · exact h2 a (.inl ha) b hb
      · rcases hd a ha with h | h
        · exact h2 a (.inr h) b hb
        · have := hlt b (by simp [hb]); omega

theorem Ctx.put [Stable Φ] (c : Ctx W w S Φ) (k : Nat) {b i : Nat} {cs : List Value} {t : TypeId} {v : Value} (e : w' = w.setCell ⟨b, i, none⟩ v) (hk : S[k]? = some (.blk b cs t)) : Ctx W w' (S.set k (.blk b (cs.set i v) t)) Φ := by
  subst e
  exact c.upd hk ((Chg.refl _ _).setCell (by simp [Own.dom]) v) (by simp [Own.dom]) (by simp [Own.dom]) (Blk.set (c.own _ (List.mem_of_getElem? hk)) i v)

theorem Ctx.puts [Stable Φ] (c : Ctx W w S Φ) (k : Nat) {b i : Nat} {cs vs : List Value} {t : TypeId} (e : w' = w.setCells b i vs) (hk : S[k]? = some (.blk b cs t)) : Ctx W w' (S.set k (.blk b (setL cs i vs) t)) Φ := by
  subst e
  exact c.upd hk ((Chg.refl _ _).setCells (by simp [Own.dom]) i vs) (by simp [Own.dom]) (by simp [Own.dom]) (Blk.sets vs i (c.own _ (List.mem_of_getElem? hk)))

theorem Ctx.putObj [Stable Φ] (c : Ctx W w S Φ) (k : Nat) {b : Nat} {o : Obj} (o' : Obj) (hk : S[k]? = some (.obj b o)) : Ctx W (setB w b o') (S.set k (.obj b o')) Φ :=
  c.upd hk ((Chg.refl _ _).setB (by simp [Own.dom]) o') (by simp [Own.dom]) (by simp [Own.dom]) (hp_setB_same _ _ (c.lt (mem_dom (List.mem_of_getElem? hk) (by simp [Own.dom]))))

theorem Ctx.blk (c : Ctx W w S Φ) (k : Nat) {b : Nat} {cs : List Value} {t : TypeId} (hk : S[k]? = some (.blk b cs t)) : Blk w b cs t := c.own _ (List.mem_of_getElem? hk)

theorem Ctx.get (c : Ctx W w S Φ) (k : Nat) {b i : Nat} {cs : List Value} {t : TypeId} {v : Value} (hk : S[k]? = some (.blk b cs t)) (hv : cs[i]? = some v) : w.cell? ⟨b, i, none⟩ = some v := (c.blk k hk).cell_eq hv

theorem Ctx.row (c : Ctx W w S Φ) (k : Nat) {b o : Nat} {cs vs : List Value} {t : TypeId} (hk : S[k]? = some (.blk b cs t)) (hv : ∀ j, (hj : j < vs.length) → cs[o + j]? = some vs[j]) : RowAt w b o vs := (c.blk k hk).row hv

theorem Ctx.row0 (c : Ctx W w S Φ) (k : Nat) {b : Nat} {cs : List Value} {t : TypeId} (hk : S[k]? = some (.blk b cs t)) : RowAt w b 0 cs := (c.blk k hk).row0

theorem Ctx.can (c : Ctx W w S Φ) (k : Nat) {b o n : Nat} {cs : List Value} {t : TypeId} (hk : S[k]? = some (.blk b cs t)) (hn : o + n ≤ cs.length) : CanWrite w b o n := (c.blk k hk).can hn

theorem Ctx.add (c : Ctx W w S Φ) (h : Ψ (dom S) w) : Ctx W w S (fun M w => Φ M w ∧ Ψ M w) := ⟨c.chg, c.own, c.young, c.nodup, c.phi, h⟩

theorem Ctx.weak (c : Ctx W w S Φ) (h : ∀ M w, Φ M w → Ψ M w) : Ctx W w S Ψ := ⟨c.chg, c.own, c.young, c.nodup, h _ _ c.phi⟩

theorem Ctx.with (c : Ctx W w S Φ) (h : Ψ (dom S) w) : Ctx W w S Ψ := ⟨c.chg, c.own, c.young, c.nodup, h⟩

/-- what is owned and written no more is let go -/
theorem Ctx.sub [Stable Φ] (c : Ctx W w S Φ) (h : S'.Sublist S) : Ctx W w S' Φ :=
  c.go ⟨Chg.refl _ _, fun b hb => .inl (by
      obtain ⟨o, ho, hb⟩ := List.mem_flatMap.1 hb
      exact mem_dom (h.subset ho) hb)⟩ (fun o ho => c.own o (h.subset ho)) (by
    refine List.Nodup.sublist ?_ c.nodup
    clear c
    induction h with
    | slnil => exact List.Sublist.refl _
    | cons a _ ih => exact ih.trans (List.sublist_append_right _ _)
    | cons_cons a _ ih => exact List.Sublist.append (List.Sublist.refl _) ih)

theorem Ctx.drop1 [Stable Φ] {o : Own} (c : Ctx W w (o :: S) Φ) : Ctx W w S Φ := c.sub (List.sublist_cons_self _ _)

end

/-! ### slices that grow -/
section
variable {W w : World} {S : List Own} {Φ : List Nat → World → Prop}

/-- nothing yet -/
theorem Ctx.buf0 [Stable Φ] (c : Ctx W w S Φ) (t : TypeId) (size : Nat) : Ctx W w (.buf none 0 0 [] t size :: S) Φ :=
  c.go ⟨Chg.refl _ _, fun b hb => .inl (by simpa [dom, Own.dom] using hb)⟩ (fun o ho => by
    rcases List.mem_cons.1 ho with rfl | ho
    · exact World.ownsRow_nil _ _ _ _
    · exact c.own o ho) (by have := c.nodup; simpa [dom, Own.dom] using this)

/-- a block as a slice of so many elements -/
theorem Ctx.toBuf [Stable Φ] (c : Ctx W w S Φ) (k : Nat) {b : Nat} {cs : List Value} {t : TypeId} (n size : Nat) (hk : S[k]? = some (.blk b cs t)) (hl : cs.length = n * size) (hm : n ≤ maxLen) :
    Ctx W w (S.set k (.buf (some ⟨b, 0, none⟩) n n cs t size)) Φ := by
  refine c.upd hk (Chg.refl _ _) (by simp [Own.dom]) (by simp [Own.dom]) ?_
  refine ⟨hl, .inr ⟨b, n, cs.toArray, rfl, Nat.zero_le _, c.blk k hk, Nat.le_refl _, hm, by simpa using hl, ?_⟩⟩
  simp only
  rw [← hl, List.take_length]

theorem Ctx.bufLen (c : Ctx W w S Φ) (k : Nat) {p : Option Addr} {n cap : Nat} {cs : List Value} {t : TypeId} {size : Nat} (hk : S[k]? = some (.buf p n cap cs t size)) : cs.length = n * size ∧ n ≤ cap ∧ cap ≤ maxLen := by
  obtain ⟨h1, h2⟩ := c.own _ (List.mem_of_getElem? hk)
  refine ⟨h1, ?_⟩
  rcases h2 with ⟨e, rfl⟩ | ⟨g, cap', cur, e, _, _, h3, h4, _⟩
  · cases e; simp [maxLen]
  · cases e; exact ⟨h3, h4⟩

/-- append nothing -/
theorem Ctx.append0 {P : Program} (c : Ctx W w S Φ) (k : Nat) {p : Option Addr} {n cap : Nat} {cs : List Value} {t : TypeId} {size : Nat} (hk : S[k]? = some (.buf p n cap cs t size))
    {ts ty : TypeId} {i : TypeInfo} (ht : P.underlying ts = some (.slice t)) (hi : P.info? t = some i) (q : Option Addr) (c2 : Nat) :
    (Builtin.append_ #[ts, ts] ty #[.slice p n cap, .slice q 0 c2]).run P w = .ok (.slice p n cap) w := by
  obtain ⟨_, hn, _⟩ := c.bufLen k hk
  have hf : (Builtin.firstCells i.size 0 (.slice q 0 c2)).run P w = .ok #[] w := by
    cases q <;> simp [Builtin.firstCells, loadCells, loadCellsFrom]
  simp [Builtin.append_, run_underlying ht, sizeOf, typeInfo, hi, Builtin.lenOf, hn, hf, Result.andThen]
  cases p <;> simp [storeCells, Result.andThen]

/-- append to it: from a row of m elements that lies in memory -/
theorem Ctx.append [Stable Φ] {P : Program} (c : Ctx W w S Φ) (k : Nat) {p : Option Addr} {n cap : Nat} {cs : List Value} {t : TypeId} {size : Nat} (hk : S[k]? = some (.buf p n cap cs t size))
    {ts ty : TypeId} {i : TypeInfo} {z : Value} (ht : P.underlying ts = some (.slice t)) (hi : P.info? t = some i) (hz : i.zero = some z) (hs : i.size = size) (hzs : z.cells.size = size)
    {a : Addr} {m c2 : Nat} {news : List Value} (hm : 0 < m) (hl : news.length = m * size) (hnews : ∀ j u, news[j]? = some u → w.cell? (a.add j) = some u) (h1 : ∀ u ∈ news, oneC u = true)
    (hbytes : (n + m) * i.bytes ≤ 140737488355328) (hlen : n + m ≤ 140737488355328) :
    ∃ p' cap' w', (Builtin.append_ #[ts, ts] ty #[.slice p n cap, .slice (some a) m c2]).run P w = .ok (.slice p' (n + m) cap') w' ∧ Ctx W w' (S.set k (.buf p' (n + m) cap' (cs ++ news) t size)) Φ := by
  subst hs
  have h1' : ∀ u ∈ news, u.oneCell' = true := fun u hu => by have := h1 u hu; cases u <;> simp_all [oneC, Value.oneCell']
  have hown := c.own _ (List.mem_of_getElem? hk)
  obtain ⟨hcl, hown⟩ := hown
  have hlen' : (cs ++ news).length = (n + m) * i.size := by rw [List.length_append, hcl, hl, Nat.add_mul]
  -- a new array
  have grown : ∀ (old : Nat), old < n + m → (∀ x ∈ Own.dom (.buf p n cap cs t i.size), x < w.heap.size) →
      Ctx W (w.drew.alloc (.cells (cs.toArray ++ news.toArray ++ Builtin.zeroCells z.cells (grownCap w (n + m) old t - (n + m))) t))
        (S.set k (.buf (some ⟨w.heap.size, 0, none⟩) (n + m) (grownCap w (n + m) old t) (cs ++ news) t i.size)) Φ := by
    intro old ho _
    have hge := grownCap_ge w (n + m) old t
    have hcm : grownCap w (n + m) old t ≤ maxLen := grownCap_le_maxLen w (n + m) old t (by simp only [maxLen]; omega)
    refine c.upd hk (((Chg.refl _ _).drewN 1).alloc _) (by simp [Own.dom]) (by simp [Own.dom]) ⟨hlen', .inr ⟨w.heap.size, _, _, rfl, Nat.zero_le _, hp_alloc_new w.drew _, hge, hcm, ?_, ?_⟩⟩
    · simp only [Array.size_append, List.size_toArray, size_zeroCells, hzs, hcl, hl, ← Nat.add_mul]
      congr 1
      omega
    · simp only [Array.toList_append, List.append_assoc]
      rw [← List.append_assoc, ← hlen']
      exact List.take_left
  rcases hown with ⟨e, rfl⟩ | ⟨g, cap', cur, e, _, hg, hnc, hcm, hcs, htake⟩
  · cases e
    have hx : cs = [] := List.eq_nil_of_length_eq_zero (by simpa using hcl)
    subst hx
    have hr := run_append_nil (P := P) w ts ty t i z ht hi hz a m c2 news hl hnews hm (by omega) (by have hb := hbytes; simp only [Nat.zero_add] at hb; omega)
    have hgr := grown 0 (by omega) (by simp [Own.dom])
    simp only [Nat.zero_add, List.nil_append, Array.empty_append] at hgr hr ⊢
    exact ⟨_, _, _, hr, hgr⟩
  · cases e
    by_cases hroom : n + m ≤ cap
    · have hfit : n * i.size + news.length ≤ cur.size := by rw [hl, hcs, ← Nat.add_mul]; exact Nat.mul_le_mul_right _ hroom
      have hr := run_append_room (P := P) w ts ty t i ht hi g n cap cur hg a m c2 news hl hnews h1' hroom hfit
      refine ⟨_, _, _, hr, c.upd hk ⟨rfl, rfl, rfl, by simp, fun b _ hb => setRow_other w g b _ (by simpa [Own.dom] using hb)⟩ (by simp [Own.dom]) (by simp [Own.dom])
        ⟨hlen', .inr ⟨g, cap, _, rfl, Nat.zero_le _, setRow_heap w g cur _ t _ hg, hroom, hcm, ?_, ?_⟩⟩⟩
      · simp only [List.size_toArray, List.length_append, List.length_take, List.length_drop, Array.length_toList]
        omega
      · rw [htake, ← hlen']
        exact List.take_left
    · have holds : ∀ j u, cs[j]? = some u → w.cell? ((⟨g, 0, none⟩ : Addr).add j) = some u := by
        intro j u hj
        have hlt : j < cs.length := (List.getElem?_eq_some_iff.1 hj).1
        have h2 : cur[j]? = some u := by
          rw [← htake, List.getElem?_take_of_lt (by omega)] at hj
          simpa using hj
        rw [addr_add, Nat.zero_add]
        simp [World.cell?, hg, h2]
      have hr := run_append_grow (P := P) w ts ty t i z ht hi hz ⟨g, 0, none⟩ n cap cs hcl holds a m c2 news hl hnews (by omega) (by omega) (growslice_fits (by omega) hbytes)
      have hgr := grown cap (by omega) (fun x hx => c.lt (mem_dom (List.mem_of_getElem? hk) hx))
      exact ⟨_, _, _, hr, hgr⟩

/-- what lies in it -/
theorem Ctx.bufCell (c : Ctx W w S Φ) (k : Nat) {p : Option Addr} {n cap : Nat} {cs : List Value} {t : TypeId} {size : Nat} (hk : S[k]? = some (.buf p n cap cs t size)) (h0 : 0 < cs.length) :
    ∃ b, p = some ⟨b, 0, none⟩ ∧ b ∈ dom S ∧ ∀ j v, cs[j]? = some v → w.cell? ⟨b, j, none⟩ = some v ∧ w.frozen? ⟨b, j, none⟩ = false := by
  obtain ⟨h1, h2⟩ := c.own _ (List.mem_of_getElem? hk)
  rcases h2 with ⟨e, rfl⟩ | ⟨g, cap', cur, e, _, hg, hnc, hcm, hcs, htake⟩
  · simp at h1; subst h1; simp at h0
  · cases e
    refine ⟨g, rfl, mem_dom (List.mem_of_getElem? hk) (by simp [Own.dom]), fun j v hj => ?_⟩
    have hlt : j < cs.length := (List.getElem?_eq_some_iff.1 hj).1
    have h2 : cur[j]? = some v := by
      rw [← htake, List.getElem?_take_of_lt (by omega)] at hj
      simpa using hj
    exact ⟨by simp [World.cell?, hg, h2], by simp [World.frozen?, hg]⟩

/-- the elements of cells in a row -/
def Elems {α : Type} [Gv α] (M : List Nat) (w : World) (cs : List Value) (l : List α) : Prop :=
  cs.length = l.length * (Gv.ty α).size ∧ ∀ j, (hj : j < l.length) → Gv.rep M w ((cs.drop (j * (Gv.ty α).size)).take (Gv.ty α).size) l[j]

theorem Elems.nil {α : Type} [Gv α] {M : List Nat} {w : World} : Elems M w [] ([] : List α) := ⟨by simp, fun j hj => by simp at hj⟩

theorem Elems.snoc {α : Type} [Gv α] {M : List Nat} {w : World} {cs d : List Value} {l : List α} {x : α} (h : Elems M w cs l) (hx : Gv.rep M w d x) : Elems M w (cs ++ d) (l ++ [x]) := by
  have hd := Gv.len hx
  refine ⟨by simp [h.1, hd, Nat.add_mul], fun j hj => ?_⟩
  simp only [List.length_append, List.length_singleton] at hj
  by_cases hj' : j < l.length
  · rw [List.getElem_append_left hj']
    have := h.2 j hj'
    have hle : (j + 1) * (Gv.ty α).size ≤ cs.length := by rw [h.1]; exact Nat.mul_le_mul_right _ hj'
    rw [Nat.add_mul, Nat.one_mul] at hle
    rw [List.drop_append_of_le_length (by omega), List.take_append_of_le_length (by simp; omega)]
    exact this
  · have : j = l.length := by omega
    subst this
    rw [List.getElem_append_right (Nat.le_refl _), ← h.1, List.drop_left, ← hd, List.take_length]
    simpa using hx

theorem Elems.append {α : Type} [Gv α] {M : List Nat} {w : World} {cs ds : List Value} {l : List α} (h : Elems M w cs l) : ∀ {r : List α}, Elems M w ds r → Elems M w (cs ++ ds) (l ++ r) := by
  intro r hr
  refine ⟨by simp [h.1, hr.1, Nat.add_mul], fun j hj => ?_⟩
  simp only [List.length_append] at hj
  by_cases hj' : j < l.length
  · rw [List.getElem_append_left hj']
    have := h.2 j hj'
    have hle : (j + 1) * (Gv.ty α).size ≤ cs.length := by rw [h.1]; exact Nat.mul_le_mul_right _ hj'
    rw [Nat.add_mul, Nat.one_mul] at hle
    rw [List.drop_append_of_le_length (by omega), List.take_append_of_le_length (by simp; omega)]
    exact this
  · rw [List.getElem_append_right (by omega), List.drop_append, List.drop_of_length_le (by rw [h.1]; exact Nat.mul_le_mul_right _ (by omega)), List.nil_append, h.1, ← Nat.sub_mul]
    exact hr.2 _ (by omega)

instance instStableElems {α : Type} [Gv α] (cs : List Value) (l : List α) : Stable (fun M w => Elems M w cs l) := ⟨fun hs h => ⟨h.1, fun j hj => Gv.stable hs (h.2 j hj)⟩⟩

/-- a slice that grew is let go: it is plain data from now on -/
theorem Ctx.freeze [Stable Φ] {α : Type} [Gv α] {p : Option Addr} {n cap : Nat} {cs : List Value} {t : TypeId} {l : List α} (c : Ctx W w (.buf p n cap cs t (Gv.ty α).size :: S) Φ)
    (h : Elems (dom (.buf p n cap cs t (Gv.ty α).size :: S)) w cs l) : Ctx W w S Φ ∧ Sl (dom S) w p l ∧ n = l.length ∧ n ≤ cap ∧ cap ≤ maxLen := by
  have c' := c.drop1
  have hl := c.bufLen 0 rfl
  have hpos : 0 < (Gv.ty α).size := Gv.pos
  have hn : n = l.length := by
    have := hl.1.symm.trans h.1
    exact Nat.eq_of_mul_eq_mul_right hpos this
  refine ⟨c', fun j hj => ?_, hn, hl.2⟩
  have hle : (j + 1) * (Gv.ty α).size ≤ cs.length := by rw [h.1]; exact Nat.mul_le_mul_right _ hj
  rw [Nat.add_mul, Nat.one_mul] at hle
  obtain ⟨b, rfl, hb, hc⟩ := c.bufCell 0 rfl (by omega)
  refine ⟨b, 0, (cs.drop (j * (Gv.ty α).size)).take (Gv.ty α).size, rfl, ?_, fun i hi => ?_, ?_⟩
  · have hnd := c.nodup
    simp only [dom, List.flatMap_cons, Own.dom, List.nodup_append] at hnd
    exact fun hm => hnd.2.2 b (by simp) b hm rfl
  · rw [Nat.zero_add]
    refine (hc _ _ ?_).1
    simp only [List.length_take, List.length_drop] at hi
    rw [List.getElem_take, List.getElem_drop, List.getElem?_eq_getElem]
  · exact Gv.stable ⟨Chg.refl _ _, fun b hb => .inl (by simp only [dom, List.flatMap_cons, List.mem_append]; exact .inr hb)⟩ (h.2 j hj)

end

end Go.Vc
