/-
  What is owned is laid aside while a call reads it; functions that hand back a slice of plain data.
-/
import Derived.Test.YtifgijoeckoojaaRGo5
import Derived.Test.YtifgijoeckoojaaRGo2
import Derived.Lib.SliceRun

section
set_option linter.unusedVariables false
set_option linter.unusedSimpArgs false
namespace Go.Vc

section
variable {P : Program} {W w : World} {S F : List Own} {Φ Ψ : PW}

/-- what is owned, laid aside: nobody writes it -/
def Parked (W : World) (o : Own) (M : List Nat) (w : World) : Prop := o.at w ∧ ∀ b ∈ o.dom, b ∉ M ∧ W.heap.size ≤ b

instance instStableParked (W : World) (o : Own) : Stable (fun M w => Parked W o M w) := ⟨fun hs h =>
  ⟨Own.at_keep h.1 fun b hb => hs.chg.block b (Own.at_lt h.1 b hb) (h.2 b hb).1, fun b hb => ⟨fun hm => by
    rcases hs.sub b hm with h1 | h1
    · exact (h.2 b hb).1 h1
    · have := Own.at_lt h.1 b hb; omega, (h.2 b hb).2⟩⟩⟩

instance instStableMore (D : List Nat) (Φ : PW) [Stable Φ] : Stable (fun M w => Φ (D ++ M) w) := ⟨fun {M M' w w'} hs h =>
  Stable.step (Φ := Φ) (M := D ++ M) (M' := D ++ M') ⟨hs.chg.mono fun x hx => List.mem_append_right _ hx, fun b hb => by
    rcases List.mem_append.1 hb with h | h
    · exact .inl (List.mem_append_left _ h)
    · rcases hs.sub b h with h | h
      · exact .inl (List.mem_append_right _ h)
      · exact .inr h⟩ h⟩

theorem Own.nodup (o : Own) : o.dom.Nodup := by
  cases o with
  | blk => simp [Own.dom]
  | obj => simp [Own.dom]
  | buf p => cases p <;> simp [Own.dom]

theorem dom_cons (o : Own) (S : List Own) : dom (o :: S) = o.dom ++ dom S := rfl

theorem Ctx.park {o : Own} (c : Ctx W w (o :: S) Φ) : Ctx W w S (fun M w => Φ (o.dom ++ M) w ∧ Parked W o M w) :=
  ⟨c.chg, fun x hx => c.own x (List.mem_cons_of_mem _ hx), fun b hb => c.young b (by rw [dom_cons]; exact List.mem_append_right _ hb),
    (by have := c.nodup; rw [dom_cons, List.nodup_append] at this; exact this.2.1), c.phi, c.own o List.mem_cons_self, fun b hb =>
      ⟨fun hm => by have := c.nodup; rw [dom_cons, List.nodup_append] at this; exact this.2.2 b hb b hm rfl, c.young b (by rw [dom_cons]; exact List.mem_append_left _ hb)⟩⟩

/-- the slice that is laid aside is plain data -/
theorem Parked.sl {α : Type} [Gv α] {M D : List Nat} {p : Option Addr} {n cap : Nat} {cs : List Value} {t : TypeId} {l : List α} (h : Parked W (.buf p n cap cs t (Gv.ty α).size) M w)
    (he : Elems (D ++ M) w cs l) : Sl M w p l := by
  obtain ⟨⟨h1, h2⟩, h3⟩ := h
  have hpos : 0 < (Gv.ty α).size := Gv.pos
  intro j hj
  have hle : (j + 1) * (Gv.ty α).size ≤ cs.length := by rw [he.1]; exact Nat.mul_le_mul_right _ hj
  rw [Nat.add_mul, Nat.one_mul] at hle
  rcases h2 with ⟨e, rfl⟩ | ⟨g, cap', cur, e, _, hg, hnc, hcm, hcs, htake⟩
  · rw [Nat.zero_mul] at h1; omega
  · cases e
    refine ⟨g, 0, (cs.drop (j * (Gv.ty α).size)).take (Gv.ty α).size, rfl, (h3 g (by simp [Own.dom])).1, fun i hi => ?_, ?_⟩
    · rw [Nat.zero_add]
      simp only [List.length_take, List.length_drop] at hi
      rw [List.getElem_take, List.getElem_drop]
      have hlt : j * (Gv.ty α).size + i < cs.length := by omega
      have h2 : ∀ k v, k < cs.length → cs[k]? = some v → cur[k]? = some v := by
        intro k v hk hv
        rw [← htake, List.getElem?_take_of_lt (by omega)] at hv
        simpa using hv
      have h2 := h2 _ _ hlt (List.getElem?_eq_getElem hlt)
      simp [World.cell?, hg, h2]
    · exact Gv.stable ⟨Chg.refl _ _, fun b hb => .inl (List.mem_append_right _ hb)⟩ (he.2 j hj)

/-- a slice with elements lies somewhere -/
def There (p : Option Addr) (n : Nat) : Prop := 0 < n → ∃ b o, p = some ⟨b, o, none⟩
theorem Sl.there {α : Type} [Gv α] {M : List Nat} {w : World} {p : Option Addr} {l : List α} (h : Sl M w p l) : There p l.length := fun h0 => by
  obtain ⟨b, o, _, h1, _⟩ := h 0 h0
  exact ⟨b, o, h1⟩
theorem Sl.nil {α : Type} [Gv α] {M : List Nat} {w : World} {p : Option Addr} : Sl M w p ([] : List α) := fun j hj => by simp at hj

theorem GivesIn.there {f : FuncId} {args : Array Value} {v : Value} {p : Option Addr} {n : Nat} (hΦ : ∀ M w, Φ M w → There p n) (h : There p n → GivesIn Φ P f args v) : GivesIn Φ P f args v :=
  ⟨fun W w S c => (h (hΦ _ _ c.phi)).go W w S c⟩

/-- the function hands back a slice of plain data, inside mk -/
structure GivesSl (Φ : PW) (P : Program) (f : FuncId) (args : Array Value) {α : Type} [Gv α] (l : List α) (mk : Value → Value) : Prop where
  go : ∀ (W w : World) (S : List Own), Ctx W w S Φ → Calls P f args w fun e w' => ∃ p cap, e = .returned (mk (.slice p l.length cap)) ∧ l.length ≤ cap ∧ cap ≤ maxLen ∧ Ctx W w' S (fun M w => Φ M w ∧ Sl M w p l)

theorem GivesSl.use {f : FuncId} {args : Array Value} {α : Type} [Gv α] {l : List α} {mk : Value → Value} (h : GivesSl Φ P f args l mk) (c : Ctx W w S Φ) {K : Ending → World → Prop}
    (hk : ∀ p cap w', l.length ≤ cap → cap ≤ maxLen → Ctx W w' S (fun M w => Φ M w ∧ Sl M w p l) → K (.returned (mk (.slice p l.length cap))) w') : Calls P f args w K :=
  (h.go W w S c).mono fun e w' ⟨p, cap, he, h1, h2, c'⟩ => by subst he; exact hk p cap w' h1 h2 c'

theorem GivesSl.there {f : FuncId} {args : Array Value} {α : Type} [Gv α] {l : List α} {mk : Value → Value} {p : Option Addr} {n : Nat} (hΦ : ∀ M w, Φ M w → There p n) (h : There p n → GivesSl Φ P f args l mk) : GivesSl Φ P f args l mk :=
  ⟨fun W w S c => (h (hΦ _ _ c.phi)).go W w S c⟩

/-! ### append -/
def appB (P : Program) (ts t : TypeId) (size bytes : Nat) : Bool :=
  (match P.underlying ts with | some (.slice u) => decide (u = t) | _ => false) && (match P.info? t with
    | some i => (match i.zero with | some z => decide (z.cells.size = size) | none => false) && decide (i.size = size) && decide (i.bytes = bytes)
    | none => false)

theorem appB_out {ts t : TypeId} {size bytes : Nat} (h : appB P ts t size bytes = true) : ∃ i z, P.underlying ts = some (.slice t) ∧ P.info? t = some i ∧ i.zero = some z ∧ i.size = size ∧ z.cells.size = size ∧ i.bytes = bytes := by
  unfold appB at h
  rw [Bool.and_eq_true] at h
  obtain ⟨h1, h2⟩ := h
  split at h1
  · rename_i u hu
    have : u = t := by simpa using h1
    subst this
    split at h2
    · rename_i i hi
      simp only [Bool.and_eq_true] at h2
      obtain ⟨⟨h2, h3⟩, h4⟩ := h2
      split at h2
      · rename_i z hz
        exact ⟨i, z, hu, hi, hz, by simpa using h3, by simpa using h2, by simpa using h4⟩
      · cases h2
    · cases h2
  · cases h1

theorem run_app {ats : Array TypeId} {ty : TypeId} {cs : Array Bool} {args : Array Value} {v : Value} {w w' : World} (h : (Builtin.append_ ats ty args).run P w = .ok v w') : Sem.run P (builtin Builtin.append ats ty cs args) w = .ok (.value v) w' := by
  unfold builtin
  simp only [Sem.run_bind, h, Result.andThen, Sem.run_pure]

/-- append one element that was just made -/
theorem Ctx.app1 [Stable Φ] {b : Nat} {news : List Value} {t' : TypeId} {p : Option Addr} {n cap : Nat} {cs : List Value} {t : TypeId} {size bytes : Nat} (c : Ctx W w (.blk b news t' :: .buf p n cap cs t size :: S) Φ)
    {ts ty : TypeId} {kb : Array Bool} (hb : appB P ts t size bytes = true) (h0 : 0 < size) (hl : news.length = size) (h1 : (news.all fun u => oneC u) = true) (hlen : n < 100000000) (hbytes : bytes ≤ 1000) :
    ∃ p' cap' w', Sem.run P (builtin Builtin.append #[ts, ts] ty kb #[.slice p n cap, .slice (some ⟨b, 0, none⟩) 1 1]) w = .ok (.value (.slice p' (n + 1) cap')) w' ∧ (∃ g, p' = some ⟨g, 0, none⟩) ∧ Ctx W w' (.buf p' (n + 1) cap' (cs ++ news) t size :: S) Φ := by
  obtain ⟨i, z, e1, e2, e3, e4, e5, e6⟩ := appB_out hb
  have hby : (n + 1) * i.bytes ≤ 100000000 * 1000 := Nat.mul_le_mul (by omega) (by omega)
  obtain ⟨p', cap', w', h2, c'⟩ := c.append 1 rfl (ty := ty) e1 e2 e3 e4 e5 (a := ⟨b, 0, none⟩) (m := 1) (c2 := 1) (news := news) (by omega) (by rw [hl, Nat.one_mul]) (fun j u hj => by rw [addr_add, Nat.zero_add]; exact c.get 0 rfl hj)
    (fun u hu => List.all_eq_true.1 h1 u hu) (by omega) (by omega)
  refine ⟨p', cap', w', run_app h2, ?_, c'.drop1⟩
  obtain ⟨g, hg, _⟩ := c'.bufCell 1 rfl (by rw [List.length_append]; omega)
  exact ⟨g, hg⟩

/-- nothing is owned for an empty slice -/
theorem Ctx.nobuf [Stable Φ] (c : Ctx W w S Φ) (t : TypeId) (size : Nat) : Ctx W w (.buf none 0 0 [] t size :: S) Φ := c.buf0 t size

theorem Sl.less {α : Type} [Gv α] {M D : List Nat} {w : World} {p : Option Addr} {l : List α} (h : Sl (D ++ M) w p l) : Sl M w p l :=
  h.stable ⟨Chg.refl _ _, fun b hb => .inl (List.mem_append_right _ hb)⟩

/-- the function hands back a slice that it made, inside mk: the caller owns it -/
structure GivesBuf (Φ : PW) (P : Program) (f : FuncId) (args : Array Value) (n : Nat) (cells : List Value) (t : TypeId) (size : Nat) (mk : Value → Value) : Prop where
  go : ∀ (W w : World) (S : List Own), Ctx W w S Φ → Calls P f args w fun e w' => ∃ p cap, e = .returned (mk (.slice p n cap)) ∧ Ctx W w' (.buf p n cap cells t size :: S) Φ

theorem GivesBuf.use {f : FuncId} {args : Array Value} {n : Nat} {cells : List Value} {t : TypeId} {size : Nat} {mk : Value → Value} (h : GivesBuf Φ P f args n cells t size mk) (c : Ctx W w S Φ) {K : Ending → World → Prop}
    (hk : ∀ p cap w', Ctx W w' (.buf p n cap cells t size :: S) Φ → K (.returned (mk (.slice p n cap))) w') : Calls P f args w K :=
  (h.go W w S c).mono fun e w' ⟨p, cap, he, c'⟩ => by subst he; exact hk p cap w' c'

theorem GivesBuf.sl [Stable Φ] {f : FuncId} {args : Array Value} {α : Type} [Gv α] {l : List α} {cells : List Value} {t : TypeId} {mk : Value → Value} (h : GivesBuf Φ P f args l.length cells t (Gv.ty α).size mk)
    (he : ∀ M w, Φ M w → Elems M w cells l) : GivesSl Φ P f args l mk :=
  ⟨fun W w S c => (h.go W w S c).mono fun e w' ⟨p, cap, h1, c'⟩ => by
    obtain ⟨c2, hs, _, h2, h3⟩ := Ctx.freeze c' (he _ _ c'.phi)
    exact ⟨p, cap, h1, h2, h3, c2.add hs⟩⟩

/-- a block that is laid aside is plain data -/
theorem Parked.blkSl {α : Type} [Gv α] {M : List Nat} {b : Nat} {cs : List Value} {t : TypeId} {l : List α} (h : Parked W (.blk b cs t) M w) (he : Elems M w cs l) : Sl M w (some ⟨b, 0, none⟩) l := by
  obtain ⟨h1, h2⟩ := h
  have h1 : Blk w b cs t := h1
  intro j hj
  have hle : (j + 1) * (Gv.ty α).size ≤ cs.length := by rw [he.1]; exact Nat.mul_le_mul_right _ hj
  rw [Nat.add_mul, Nat.one_mul] at hle
  refine ⟨b, 0, (cs.drop (j * (Gv.ty α).size)).take (Gv.ty α).size, rfl, (h2 b (by simp [Own.dom])).1, fun i hi => ?_, he.2 j hj⟩
  simp only [List.length_take, List.length_drop] at hi
  rw [Nat.zero_add, List.getElem_take, List.getElem_drop]
  exact h1.cell_eq (List.getElem?_eq_getElem (by omega))

/-- a block that is written no more is plain data -/
theorem Ctx.freezeBlk [Stable Φ] {α : Type} [Gv α] {b : Nat} {cs : List Value} {t : TypeId} {l : List α} (c : Ctx W w (.blk b cs t :: S) Φ) (he : Elems (dom (.blk b cs t :: S)) w cs l) : Ctx W w S Φ ∧ Sl (dom S) w (some ⟨b, 0, none⟩) l := by
  have c' := c.park
  refine ⟨c.drop1, c'.phi.2.blkSl ⟨he.1, fun j hj => ?_⟩⟩
  exact Gv.stable ⟨Chg.refl _ _, fun b hb => .inl (by rw [dom_cons]; exact List.mem_append_right _ hb)⟩ (he.2 j hj)

theorem Elems.two {α : Type} [Gv α] {M : List Nat} {cs ds : List Value} {x y : α} (h1 : Gv.rep M w cs x) (h2 : Gv.rep M w ds y) : Elems M w (cs ++ ds) [x, y] := Elems.snoc (l := [x]) (Elems.snoc (l := []) (cs := []) Elems.nil h1) h2
theorem Elems.one {α : Type} [Gv α] {M : List Nat} {cs : List Value} {x : α} (h1 : Gv.rep M w cs x) : Elems M w cs [x] := Elems.snoc (l := []) (cs := []) Elems.nil h1

end

end Go.Vc
end

/-
  Writing into a slice that grows; rows of plain data out of a slice; permuting what is owned.
-/
section
set_option linter.unusedVariables false
set_option linter.unusedSimpArgs false
namespace Go.Vc

section
variable {P : Program} {W w w' : World} {S S' F : List Own} {Φ Ψ : PW}

theorem Ctx.swap [Stable Φ] {a b : Own} (c : Ctx W w (a :: b :: S) Φ) : Ctx W w (b :: a :: S) Φ := c.perm (List.Perm.swap _ _ _)

/-- a slice that grows lies in a block -/
theorem Ctx.bufBlk (c : Ctx W w S Φ) (k : Nat) {p : Option Addr} {n cap : Nat} {cs : List Value} {t : TypeId} {size : Nat} (hk : S[k]? = some (.buf p n cap cs t size)) (h0 : 0 < cs.length) :
    ∃ b cur, p = some ⟨b, 0, none⟩ ∧ Blk w b cur t ∧ cur.take (n * size) = cs ∧ n ≤ cap ∧ cap ≤ maxLen ∧ cur.length = cap * size ∧ cs.length = n * size := by
  obtain ⟨h1, h2⟩ := c.own _ (List.mem_of_getElem? hk)
  rcases h2 with ⟨e, rfl⟩ | ⟨g, cap', cur, e, _, hg, hnc, hcm, hcs, htake⟩
  · rw [Nat.zero_mul] at h1; omega
  · cases e
    exact ⟨g, cur.toList, rfl, by simpa [Blk] using hg, htake, hnc, hcm, by simpa using hcs, h1⟩

theorem Ctx.bufRow (c : Ctx W w S Φ) (k : Nat) {p : Option Addr} {n cap : Nat} {cs : List Value} {t : TypeId} {size : Nat} (hk : S[k]? = some (.buf p n cap cs t size)) {b o : Nat} (hp : p = some ⟨b, 0, none⟩) {vs : List Value}
    (hv : ∀ j, (hj : j < vs.length) → cs[o + j]? = some vs[j]) : RowAt w b o vs := by
  intro j hj
  have hlt : o + j < cs.length := (List.getElem?_eq_some_iff.1 (hv j hj)).1
  obtain ⟨b', h1, _, h2⟩ := c.bufCell k hk (by omega)
  rw [hp] at h1
  cases h1
  exact (h2 _ _ (hv j hj)).1

theorem Ctx.bufCan (c : Ctx W w S Φ) (k : Nat) {p : Option Addr} {n cap : Nat} {cs : List Value} {t : TypeId} {size : Nat} (hk : S[k]? = some (.buf p n cap cs t size)) {b o m : Nat} (hp : p = some ⟨b, 0, none⟩) (hm : o + m ≤ cs.length) : CanWrite w b o m := by
  intro j hj
  obtain ⟨b', h1, _, h2⟩ := c.bufCell k hk (by omega)
  rw [hp] at h1
  cases h1
  have := h2 (o + j) cs[o + j] (List.getElem?_eq_getElem (by omega))
  exact ⟨by rw [this.1]; rfl, this.2⟩

theorem setL_len : ∀ (vs : List Value) (cs : List Value) (o : Nat), (setL cs o vs).length = cs.length
  | [], _, _ => rfl
  | v :: r, cs, o => by unfold setL; rw [setL_len r]; simp

theorem setL_take : ∀ (vs : List Value) (cs : List Value) (o m : Nat), o + vs.length ≤ m → (setL cs o vs).take m = setL (cs.take m) o vs
  | [], _, _, _, _ => rfl
  | v :: r, cs, o, m, h => by
    unfold setL
    simp only [List.length_cons] at h
    rw [setL_take r _ _ _ (by omega), List.take_set]

theorem setL_get : ∀ (vs : List Value) (cs : List Value) (o i : Nat), (i < o ∨ o + vs.length ≤ i) → (setL cs o vs)[i]? = cs[i]?
  | [], _, _, _, _ => rfl
  | v :: r, cs, o, i, h => by
    unfold setL
    simp only [List.length_cons] at h
    rw [setL_get r _ _ _ (by omega), List.getElem?_set_ne (by omega)]

theorem setL_in : ∀ (vs : List Value) (cs : List Value) (o i : Nat), i < vs.length → o + vs.length ≤ cs.length → (setL cs o vs)[o + i]? = vs[i]?
  | [], _, _, _, h, _ => by simp at h
  | v :: r, cs, o, 0, h, hl => by
    unfold setL
    simp only [List.length_cons] at hl
    rw [setL_get r _ _ _ (by omega), Nat.add_zero, List.getElem?_set_self (by omega)]
    rfl
  | v :: r, cs, o, i + 1, h, hl => by
    unfold setL
    simp only [List.length_cons] at hl h
    rw [show o + (i + 1) = o + 1 + i by omega, setL_in r _ _ _ (by omega) (by simp; omega)]
    rfl

/-- write into it -/
theorem Ctx.bufPuts [Stable Φ] (c : Ctx W w S Φ) (k : Nat) {p : Option Addr} {n cap : Nat} {cs vs : List Value} {t : TypeId} {size : Nat} (hk : S[k]? = some (.buf p n cap cs t size)) {b o : Nat} (hp : p = some ⟨b, 0, none⟩) (h0 : 0 < cs.length) (ho : o + vs.length ≤ cs.length)
    (e : w' = w.setCells b o vs) : Ctx W w' (S.set k (.buf p n cap (setL cs o vs) t size)) Φ := by
  obtain ⟨b', cur, h1, hb, htake, hnc, hcm, hcl, hl⟩ := c.bufBlk k hk h0
  rw [hp] at h1
  cases h1
  subst e
  refine c.upd hk ((Chg.refl _ _).setCells (by subst hp; simp [Own.dom]) o vs) (fun x hx => .inl (by subst hp; exact hx)) (by subst hp; simp [Own.dom]) ?_
  have hb' := Blk.sets vs o hb
  refine ⟨by rw [setL_len, hl], .inr ⟨b, cap, (setL cur o vs).toArray, by rw [hp], Nat.zero_le _, hb', hnc, hcm, by simp [setL_len, hcl], ?_⟩⟩
  rw [← htake, setL_take _ _ _ _ (by omega)]

/-- the cells of the elements of a slice, in a row -/
theorem Sl.cells {α : Type} [Gv α] {M : List Nat} {p : Option Addr} {l : List α} (h : Sl M w p l) (h1 : ∀ M w cs (x : α), Gv.rep M w cs x → (cs.all fun u => oneC u) = true) (h0 : 0 < l.length) :
    ∃ b o news, p = some ⟨b, o, none⟩ ∧ news.length = l.length * (Gv.ty α).size ∧ (∀ j u, news[j]? = some u → w.cell? ⟨b, o + j, none⟩ = some u) ∧ Elems M w news l ∧ (news.all fun u => oneC u) = true := by
  obtain ⟨b, o, _, hp, _⟩ := h 0 h0
  have key : ∀ k, k ≤ l.length → ∃ news : List Value, news.length = k * (Gv.ty α).size ∧ (∀ j u, news[j]? = some u → w.cell? ⟨b, o + j, none⟩ = some u) ∧ Elems M w news (l.take k) ∧ (news.all fun u => oneC u) = true := by
    intro k
    induction k with
    | zero => intro _; exact ⟨[], by simp, fun j u hj => by simp at hj, by rw [List.take_zero]; exact Elems.nil, rfl⟩
    | succ k ih =>
      intro hk
      obtain ⟨news, g1, g2, g3, g4⟩ := ih (by omega)
      obtain ⟨b', o', cs, e1, _, e3, e4⟩ := h k (by omega)
      rw [hp] at e1
      cases e1
      have hlen := Gv.len e4
      refine ⟨news ++ cs, by rw [List.length_append, g1, hlen, Nat.add_mul, Nat.one_mul], fun j u hj => ?_, ?_, by rw [List.all_append, g4, h1 _ _ _ _ e4]; rfl⟩
      · by_cases hlt : j < news.length
        · rw [List.getElem?_append_left hlt] at hj
          exact g2 j u hj
        · rw [List.getElem?_append_right (by omega)] at hj
          have hl2 : j - news.length < cs.length := (List.getElem?_eq_some_iff.1 hj).1
          have := e3 (j - news.length) hl2
          rw [show o + k * (Gv.ty α).size + (j - news.length) = o + j by omega] at this
          rw [this, ← hj, List.getElem?_eq_getElem hl2]
      · rw [List.take_succ_eq_append_getElem (by omega)]
        exact g3.snoc e4
  obtain ⟨news, g1, g2, g3, g4⟩ := key l.length (Nat.le_refl _)
  rw [List.take_length] at g3
  exact ⟨b, o, news, hp, g1, g2, g3, g4⟩

/-- append a slice of plain data -/
theorem Ctx.appSl [Stable Φ] {α : Type} [Gv α] {q : Option Addr} {l : List α} {c2 : Nat} {p : Option Addr} {n cap : Nat} {cs : List Value} {t : TypeId} {bytes : Nat} (c : Ctx W w (.buf p n cap cs t (Gv.ty α).size :: S) Φ)
    {ts ty : TypeId} {kb : Array Bool} (hb : appB P ts t (Gv.ty α).size bytes = true) (h1 : ∀ M w cs (x : α), Gv.rep M w cs x → (cs.all fun u => oneC u) = true) (hsl : ∀ M w, Φ M w → Sl M w q l) (h0 : 0 < l.length) (hlen : n + l.length < 100000000) (hbytes : bytes ≤ 1000) :
    ∃ p' cap' w' news, Sem.run P (builtin Builtin.append #[ts, ts] ty kb #[.slice p n cap, .slice q l.length c2]) w = .ok (.value (.slice p' (n + l.length) cap')) w' ∧ (∃ g, p' = some ⟨g, 0, none⟩) ∧
      Ctx W w' (.buf p' (n + l.length) cap' (cs ++ news) t (Gv.ty α).size :: S) (fun M w => Φ M w ∧ Elems M w news l) := by
  obtain ⟨i, z, e1, e2, e3, e4, e5, e6⟩ := appB_out hb
  have hby : (n + l.length) * i.bytes ≤ 100000000 * 1000 := Nat.mul_le_mul (by omega) (by omega)
  obtain ⟨b, o, news, hp, g1, g2, g3, g4⟩ := (hsl _ _ c.phi).cells h1 h0
  obtain ⟨p', cap', w', h2, c'⟩ := (c.add (Ψ := fun M w => Elems M w news l) g3).append 0 rfl (ty := ty) e1 e2 e3 e4 e5 (a := ⟨b, o, none⟩) (m := l.length) (c2 := c2) (news := news) h0 g1 (fun j u hj => by rw [addr_add]; exact g2 j u hj)
    (fun u hu => List.all_eq_true.1 g4 u hu) (by omega) (by omega)
  have hpos : 0 < (Gv.ty α).size := Gv.pos
  have hl2 : 0 < l.length * (Gv.ty α).size := Nat.mul_pos h0 hpos
  refine ⟨p', cap', w', news, by rw [hp]; exact run_app h2, ?_, c'⟩
  obtain ⟨g, hg, _⟩ := c'.bufCell 0 rfl (by rw [List.length_append]; omega)
  exact ⟨g, hg⟩

end

end Go.Vc
end

/-
  Copies: what a function made and hands over; facts about single cells of a block that is laid aside.
-/
section
set_option linter.unusedVariables false
set_option linter.unusedSimpArgs false
namespace Go.Vc

section
variable {P : Program} {W w w' : World} {S S' F : List Own} {Φ Ψ : PW}

theorem Stable.less {Φ : PW} [Stable Φ] {D M : List Nat} {w : World} (h : Φ (D ++ M) w) : Φ M w :=
  Stable.step (Φ := Φ) ⟨Chg.refl _ _, fun b hb => .inl (List.mem_append_right _ hb)⟩ h


/-- the function hands back a slice that it made: the caller owns it; what its elements are, is known -/
structure GivesNew (Φ : PW) (P : Program) (f : FuncId) (args : Array Value) {α : Type} [Gv α] (l : List α) (t : TypeId) : Prop where
  go : ∀ (W w : World) (S : List Own), Ctx W w S Φ → Calls P f args w fun e w' => ∃ p cap cs, e = .returned (.slice p l.length cap) ∧ Ctx W w' (.buf p l.length cap cs t (Gv.ty α).size :: S) (fun M w => Φ M w ∧ Elems M w cs l)

theorem GivesNew.use {f : FuncId} {args : Array Value} {α : Type} [Gv α] {l : List α} {t : TypeId} (h : GivesNew Φ P f args l t) (c : Ctx W w S Φ) {K : Ending → World → Prop}
    (hk : ∀ p cap cs w', Ctx W w' (.buf p l.length cap cs t (Gv.ty α).size :: S) (fun M w => Φ M w ∧ Elems M w cs l) → K (.returned (.slice p l.length cap)) w') : Calls P f args w K :=
  (h.go W w S c).mono fun e w' ⟨p, cap, cs, he, c'⟩ => by subst he; exact hk p cap cs w' c'

theorem GivesNew.there {f : FuncId} {args : Array Value} {α : Type} [Gv α] {l : List α} {t : TypeId} {p : Option Addr} {n : Nat} (hΦ : ∀ M w, Φ M w → There p n) (h : There p n → GivesNew Φ P f args l t) : GivesNew Φ P f args l t :=
  ⟨fun W w S c => (h (hΦ _ _ c.phi)).go W w S c⟩

/-- a slice of plain data is appended to nothing: slices.Clone -/
theorem Ctx.cloned [Stable Φ] {α : Type} [Gv α] {q : Option Addr} {l : List α} {c2 : Nat} {k : Nat} {t : TypeId} {bytes : Nat} (c : Ctx W w (.blk k [] t :: S) Φ)
    {ts ty : TypeId} {kb : Array Bool} (hb : appB P ts t (Gv.ty α).size bytes = true) (h1 : ∀ M w cs (x : α), Gv.rep M w cs x → (cs.all fun u => oneC u) = true) (hsl : ∀ M w, Φ M w → Sl M w q l) (hlen : l.length < 100000000) (hbytes : bytes ≤ 1000) :
    ∃ p' cap' w' cs, Sem.run P (builtin Builtin.append #[ts, ts] ty kb #[.slice (some ⟨k, 0, none⟩) 0 0, .slice q l.length c2]) w = .ok (.value (.slice p' l.length cap')) w' ∧
      Ctx W w' (.buf p' l.length cap' cs t (Gv.ty α).size :: S) (fun M w => Φ M w ∧ Elems M w cs l) := by
  have c' : Ctx W w (.buf (some ⟨k, 0, none⟩) 0 0 [] t (Gv.ty α).size :: S) Φ := c.toBuf 0 0 (Gv.ty α).size rfl (by simp) (by simp [maxLen])
  rcases Nat.eq_zero_or_pos l.length with h0 | h0
  · obtain ⟨i, z, e1, e2, e3, e4, e5, e6⟩ := appB_out hb
    have hl : l = [] := List.eq_nil_of_length_eq_zero h0
    subst hl
    exact ⟨_, _, w, [], run_app (c'.append0 0 rfl e1 e2 q c2), c'.add Elems.nil⟩
  · obtain ⟨p', cap', w', news, h2, _, c3⟩ := c'.appSl (ty := ty) (kb := kb) (c2 := c2) hb h1 hsl h0 (by omega) hbytes
    rw [Nat.zero_add] at h2 c3
    exact ⟨p', cap', w', news, h2, c3⟩

/-- these cells lie in a block that is not written -/
def RowIn (b o : Nat) (vs : List Value) (M : List Nat) (w : World) : Prop := b ∉ M ∧ RowAt w b o vs ∧ b < w.heap.size

instance instStableRowIn (b o : Nat) (vs : List Value) : Stable (fun M w => RowIn b o vs M w) := ⟨fun hs h =>
  ⟨fun hm => by rcases hs.sub b hm with h1 | h1; exact h.1 h1; have := h.2.2; omega, hs.chg.row h.2.1 h.1, Nat.lt_of_lt_of_le h.2.2 hs.chg.size⟩⟩

/-- several things that are owned, laid aside -/
def ParkedL (W : World) (Q : List Own) (M : List Nat) (w : World) : Prop := (∀ o ∈ Q, o.at w) ∧ (dom Q).Nodup ∧ ∀ b ∈ dom Q, b ∉ M ∧ W.heap.size ≤ b

instance instStableParkedL (W : World) (Q : List Own) : Stable (fun M w => ParkedL W Q M w) := ⟨fun hs h => by
  have hlt : ∀ b ∈ dom Q, b < _ := fun b hb => by
    obtain ⟨o, ho, hb⟩ := List.mem_flatMap.1 hb
    exact Own.at_lt (h.1 o ho) b hb
  exact ⟨fun o ho => Own.at_keep (h.1 o ho) fun b hb => hs.chg.block b (hlt b (mem_dom ho hb)) (h.2.2 b (mem_dom ho hb)).1, h.2.1, fun b hb => ⟨fun hm => by
    rcases hs.sub b hm with h1 | h1
    · exact (h.2.2 b hb).1 h1
    · have := hlt b hb; omega, (h.2.2 b hb).2⟩⟩⟩

/-- what holds while Q is laid aside -/
def Aside (W : World) (Q : List Own) (Φ : PW) : PW := fun M w => Φ (dom Q ++ M) w ∧ ParkedL W Q M w
instance instStableAside (W : World) (Q : List Own) (Φ : PW) [Stable Φ] : Stable (Aside W Q Φ) :=
  have h1 : Stable (fun M w => Φ (dom Q ++ M) w) := instStableMore (dom Q) Φ
  instStableAnd (fun M w => Φ (dom Q ++ M) w) (fun M w => ParkedL W Q M w)

theorem Ctx.aside {Q : List Own} (c : Ctx W w (Q ++ S) Φ) : Ctx W w S (Aside W Q Φ) := by
  have hd := dom_app Q S
  have hn := c.nodup
  rw [hd, List.nodup_append] at hn
  refine ⟨c.chg, fun x hx => c.own x (List.mem_append_right _ hx), fun b hb => c.young b (by rw [hd]; exact List.mem_append_right _ hb), hn.2.1, ?_, fun o ho => c.own o (List.mem_append_left _ ho), hn.1, fun b hb => ⟨fun hm => hn.2.2 b hb b hm rfl, c.young b (by rw [hd]; exact List.mem_append_left _ hb)⟩⟩
  have := c.phi
  rw [hd] at this
  exact this

theorem Ctx.unaside {Q : List Own} (c : Ctx W w S (Aside W Q Φ)) : Ctx W w (Q ++ S) Φ := by
  obtain ⟨h1, h2, h3, h4⟩ := c.phi
  have hd := dom_app Q S
  refine ⟨c.chg, fun x hx => ?_, fun b hb => ?_, ?_, by rw [hd]; exact h1⟩
  · rcases List.mem_append.1 hx with hx | hx
    · exact h2 x hx
    · exact c.own x hx
  · rw [hd] at hb
    rcases List.mem_append.1 hb with hb | hb
    · exact (h4 b hb).2
    · exact c.young b hb
  · rw [hd, List.nodup_append]
    exact ⟨h3, c.nodup, fun a ha b hb e => by subst e; exact (h4 a ha).1 hb⟩

theorem Aside.parked {Q : List Own} {M : List Nat} (h : Aside W Q Φ M w) {o : Own} (ho : o ∈ Q) : Parked W o M w := ⟨h.2.1 o ho, fun b hb => h.2.2.2 b (mem_dom ho hb)⟩
theorem Aside.less [Stable Φ] {Q : List Own} {M : List Nat} (h : Aside W Q Φ M w) : Φ M w := Stable.less h.1

theorem Aside.imp {Q : List Own} {Ψ : PW} {M : List Nat} (h : Aside W Q Φ M w) (hi : ∀ M w, Φ M w → Ψ M w) : Aside W Q Ψ M w := ⟨hi _ _ h.1, h.2⟩

theorem Ctx.re (c : Ctx W w S Φ) (e : S = S') : Ctx W w S' Φ := e ▸ c
theorem Ctx.asideF {Q T G : List Own} (c : Ctx W w (Q ++ T ++ G) Φ) : Ctx W w (T ++ G) (Aside W Q Φ) := Ctx.aside (c.re (List.append_assoc _ _ _))
theorem Ctx.unasideF {Q T G : List Own} (c : Ctx W w (T ++ G) (Aside W Q Φ)) : Ctx W w (Q ++ T ++ G) Φ := c.unaside.re (List.append_assoc _ _ _).symm
theorem Ctx.bufGet (c : Ctx W w S Φ) (k : Nat) {p : Option Addr} {n cap : Nat} {cs : List Value} {t : TypeId} {size : Nat} (hk : S[k]? = some (.buf p n cap cs t size)) {b i : Nat} {v : Value} (hp : p = some ⟨b, 0, none⟩) (hv : cs[i]? = some v) : w.cell? ⟨b, i, none⟩ = some v := by
  obtain ⟨b', h1, _, h2⟩ := c.bufCell k hk (by have := (List.getElem?_eq_some_iff.1 hv).1; omega)
  rw [hp] at h1
  cases h1
  exact (h2 _ _ hv).1

theorem addr_sub {α : Type} [Gv α] {M : List Nat} {p : Option Addr} {l : List α} {cap : Nat} (h : Sl M w p l) (k : Nat) (hc : l.length ≤ cap) : Sl M w (subPtr p (Gv.ty α).size k cap) (l.drop k) := by
  intro j hj
  rw [List.length_drop] at hj
  obtain ⟨b, o, cs, rfl, h2, h3, h4⟩ := h (k + j) (by omega)
  refine ⟨b, o + k * (Gv.ty α).size, cs, ?_, h2, ?_, ?_⟩
  · unfold subPtr
    rw [if_neg (by omega)]
    simp [Addr.add]
  · rw [show o + k * (Gv.ty α).size + j * (Gv.ty α).size = o + (k + j) * (Gv.ty α).size by rw [Nat.add_mul]; omega]
    exact h3
  · rw [List.getElem_drop]
    exact h4

end

end Go.Vc
end

/-
  A replica in plain Lean: what each of its functions does.
-/
section
set_option linter.unusedVariables false
set_option linter.unusedSimpArgs false
namespace Go.Proofs.Ytifgijoeckoojaa
open Go.Vc

structure RecD where
  term : Int
  data : ByteArray
instance : Gv RecD := Gv.via (β := Int × ByteArray) (fun x => (x.term, x.data)) (fun y => ⟨y.1, y.2⟩) (fun _ => rfl)

theorem rec_ext {x y : RecD} : x = y ↔ (x.term = y.term ∧ x.data = y.data) := by cases x; cases y; simp
instance : DecidableEq RecD := fun _ _ => decidable_of_iff _ rec_ext.symm

structure MsgR where
  kind : Int
  src : Int
  to : Int
  term : Int
  index : Int
  prev : Int
  commit : Int
  yes : Bool
  recs : List RecD
instance : Gv MsgR := Gv.via (β := Int × Int × Int × Int × Int × Int × Int × Bool × List RecD) (fun x => (x.kind, x.src, x.to, x.term, x.index, x.prev, x.commit, x.yes, x.recs))
  (fun y => ⟨y.1, y.2.1, y.2.2.1, y.2.2.2.1, y.2.2.2.2.1, y.2.2.2.2.2.1, y.2.2.2.2.2.2.1, y.2.2.2.2.2.2.2.1, y.2.2.2.2.2.2.2.2⟩) (fun _ => rfl)

structure OutR where
  save : Bool
  term : Int
  vote : Int
  src : Int
  recs : List RecD
  send : List MsgR

abbrev out0 : OutR := ⟨false, 0, 0, 0, [], []⟩
abbrev outS (l : List MsgR) : OutR := ⟨false, 0, 0, 0, [], l⟩

structure Rep where
  id : Nat
  term : Int
  vote : Int
  log : List RecD
  role : Int
  commit : Nat
  votes : Nat → Bool
  next : Nat → Nat
  mat : Nat → Nat

def soundR : List RecD → Int → Int → Bool
  | [], _, _ => true
  | x :: l, least, most => if (decide (x.term < least) || decide (most < x.term) || decide (2000 < (x.data.size : Int))) = true then false else soundR l x.term most

/-- the term of an entry; 0 for the number 0, and behind the last one -/
def termAt (l : List RecD) : Nat → Int
  | 0 => 0
  | k + 1 => match l[k]? with
    | some x => x.term
    | none => 0

def othersOf (id : Nat) : List Nat := if id = 0 then [1, 2] else if id = 1 then [0, 2] else [0, 1]

def put {α : Type} (f : Nat → α) (i : Nat) (x : α) : Nat → α := fun j => if j = i then x else f j

def msgOf (r : Rep) (kind to : Int) : MsgR := ⟨kind, r.id, to, r.term, 0, 0, 0, false, []⟩

def entriesOf (r : Rep) (to : Nat) : MsgR :=
  ⟨2, r.id, to, r.term, ((r.next to - 1 : Nat) : Int), termAt r.log (r.next to - 1), r.commit, false, (r.log.drop (r.next to - 1)).take 8⟩

def allOf (r : Rep) : List MsgR := (othersOf r.id).map fun i => entriesOf r i

def newRep (id : Nat) (term vote : Int) (log : List RecD) : Rep := ⟨id, term, vote, log, 0, 0, fun _ => false, fun _ => 0, fun _ => 0⟩

def askOf (r : Rep) (to : Nat) : MsgR := ⟨0, r.id, to, r.term, r.log.length, termAt r.log r.log.length, 0, false, []⟩

def tickP (r : Rep) : Rep × OutR :=
  if r.role = 2 then (r, outS (allOf r))
  else if r.term = 1099511627776 then (r, out0)
  else
    let r1 : Rep := { r with term := r.term + 1, vote := r.id, role := 1, votes := fun i => decide (i = r.id) }
    (r1, ⟨true, r1.term, r1.vote, 0, [], (othersOf r.id).map fun i => askOf r1 i⟩)

def rightP (id : Nat) (m : MsgR) : Bool :=
  decide (0 ≤ m.kind) && decide (m.kind ≤ 3) && decide (m.to = id) && decide (m.src ≠ id) && decide (0 ≤ m.src) && decide (m.src ≤ 2) && decide (1 ≤ m.term) && decide (m.term ≤ 1099511627776) && decide (0 ≤ m.index) && decide (m.index ≤ 4000) &&
    decide (0 ≤ m.prev) && decide (m.prev ≤ m.term) && !(decide (m.index = 0) && decide (m.prev ≠ 0)) && decide (0 ≤ m.commit) && decide (m.commit ≤ 4000) && decide ((m.recs.length : Int) ≤ 8) && decide (m.index + (m.recs.length : Int) ≤ 4000) && soundR m.recs (max 1 m.prev) m.term

def freshP (r : Rep) (m : MsgR) : Bool := decide (termAt r.log r.log.length < m.prev) || decide (m.prev = termAt r.log r.log.length) && decide ((r.log.length : Int) ≤ m.index)

def voteP (r : Rep) (m : MsgR) : Rep × OutR :=
  if (decide (m.term = r.term) && (decide (r.vote = -1) || decide (r.vote = m.src)) && freshP r m) = true then ({ r with vote := m.src }, outS [⟨1, r.id, m.src, r.term, 0, 0, 0, true, []⟩])
  else (r, outS [msgOf r 1 m.src])

def b2n (b : Bool) : Nat := if b then 1 else 0
def countV (v : Nat → Bool) : Nat := b2n (v 0) + b2n (v 1) + b2n (v 2)

def votedP (r : Rep) (m : MsgR) : Rep × OutR :=
  if (decide (r.role ≠ 1) || decide (m.term ≠ r.term) || !m.yes) = true then (r, out0)
  else
    let r1 : Rep := { r with votes := put r.votes m.src.toNat true }
    if countV r1.votes < 2 then (r1, out0)
    else
      let r2 : Rep := { r1 with role := 2, next := fun _ => r.log.length + 1, mat := fun _ => 0 }
      (r2, outS (allOf r2))

/-- how many of the entries are there, by their terms -/
def agree : List RecD → List RecD → Nat
  | a :: l, b :: r => if a.term = b.term then agree l r + 1 else 0
  | _, _ => 0

def ackOf (r : Rep) (m : MsgR) : MsgR := ⟨3, r.id, m.src, r.term, m.index + m.recs.length, 0, 0, true, []⟩

def appendP (r : Rep) (m : MsgR) : Rep × OutR :=
  if m.term < r.term then (r, outS [msgOf r 3 m.src])
  else if r.role = 2 then (r, out0)
  else
    let r1 : Rep := { r with role := 0 }
    if (decide ((r.log.length : Int) < m.index) || decide (termAt r.log m.index.toNat ≠ m.prev)) = true then (r1, outS [⟨3, r.id, m.src, r.term, min (r.log.length : Int) (m.index - 1), 0, 0, false, []⟩])
    else
      let ix := m.index.toNat
      let k := agree (r.log.drop ix) m.recs
      let c := max r.commit (min m.commit.toNat (ix + m.recs.length))
      if k < m.recs.length then
        if ix + k + 1 ≤ r.commit then (r1, out0)
        else ({ r1 with log := r.log.take (ix + k) ++ m.recs.drop k, commit := c }, ⟨false, 0, 0, ((ix + k + 1 : Nat) : Int), m.recs.drop k, [ackOf r m]⟩)
      else ({ r1 with commit := c }, outS [ackOf r m])

def mostOf (r : Rep) : Nat := (othersOf r.id).foldl (fun a i => max a (r.mat i)) 0

def advanceP (r : Rep) : Rep := if (decide (r.commit < mostOf r) && decide (termAt r.log (mostOf r) = r.term)) = true then { r with commit := mostOf r } else r

def appendedP (r : Rep) (m : MsgR) : Rep × OutR :=
  if (decide (r.role ≠ 2) || decide (m.term ≠ r.term) || m.yes && decide ((r.log.length : Int) < m.index)) = true then (r, out0)
  else
    let f := m.src.toNat
    if m.yes = false then
      let r1 : Rep := { r with next := put r.next f (max (r.mat f + 1) (min (r.next f - 1) (m.index.toNat + 1))) }
      (r1, outS [entriesOf r1 f])
    else
      let mt := max (r.mat f) m.index.toNat
      let r1 : Rep := advanceP { r with mat := put r.mat f mt, next := put r.next f (mt + 1) }
      if mt + 1 ≤ r.log.length then (r1, outS [entriesOf r1 f]) else (r1, out0)

def hearP (r : Rep) (m : MsgR) : Rep × OutR :=
  if rightP r.id m = false then (r, out0)
  else
    let r1 : Rep := if r.term < m.term then { r with term := m.term, vote := -1, role := 0 } else r
    let x : Rep × OutR := if m.kind = 0 then voteP r1 m else if m.kind = 1 then votedP r1 m else if m.kind = 2 then appendP r1 m else appendedP r1 m
    if (decide (x.1.term = r.term) && decide (x.1.vote = r.vote)) = true then x
    else (x.1, { x.2 with save := true, term := x.1.term, vote := x.1.vote })

def proposeP (r : Rep) (data : ByteArray) : Rep × Int × Int × OutR :=
  if r.role ≠ 2 then (r, 0, 24, out0)
  else if 2000 < (data.size : Int) then (r, 0, 1, out0)
  else if r.log.length = 4000 then (r, 0, 6, out0)
  else
    let x : RecD := ⟨r.term, data⟩
    let r1 : Rep := { r with log := r.log ++ [x] }
    (r1, ((r.log.length + 1 : Nat) : Int), 0, ⟨false, 0, 0, ((r.log.length + 1 : Nat) : Int), [x], allOf r1⟩)

/-- entries have terms from a least one on that never decrease, up to a greatest one, and short data -/
structure Sorted (l : List RecD) (most : Int) : Prop where
  lo : ∀ x ∈ l, 1 ≤ x.term
  hi : ∀ x ∈ l, x.term ≤ most
  data : ∀ x ∈ l, x.data.size ≤ 2000
  asc : ∀ i j, i ≤ j → (hj : j < l.length) → (hi : i < l.length) → l[i].term ≤ l[j].term

structure Rep.Ok (r : Rep) : Prop where
  id : r.id ≤ 2
  term0 : 0 ≤ r.term
  termM : r.term ≤ 1099511627776
  vote0 : -1 ≤ r.vote
  voteM : r.vote ≤ 2
  log : Sorted r.log r.term
  len : r.log.length ≤ 4000
  role : r.role = 0 ∨ r.role = 1 ∨ r.role = 2
  commit : r.commit ≤ r.log.length
  next : r.role = 2 → ∀ i, 1 ≤ r.next i ∧ r.next i ≤ r.log.length + 1 ∧ r.mat i ≤ r.log.length
  bound : ∀ i, r.next i ≤ 4001 ∧ r.mat i ≤ 4000

end Go.Proofs.Ytifgijoeckoojaa
end

/-
  THE ROW, out of a contract over owned worlds.
-/
section
set_option linter.unusedVariables false
set_option linter.unusedSimpArgs false
namespace Go.Vc
open Go.ChangeShapes Go.WideShapes Go.RowKit

section
variable {H : Type} {enc : TypeId × Value → H} {P : Program} {W : World}

/-- what came in is plain data -/
theorem open_gv {α : Type} [Gv α] (d : Nat) {t : TypeId} {v : Value} {x : DataW H} {ps : List MemPlace} (hty : Ty.is P d (Gv.ty α) t = true) (h : DataW.Trod enc P W 0 (fun _ => true) true t v x ps) : ∃ y : α, Gv.rep [] W v.cells.toList y := by
  obtain ⟨fuel, h⟩ := h
  exact Gv.opens.ap hty h

/-- .. a slice -/
theorem open_sl {α : Type} [Gv α] (d : Nat) {t e : TypeId} {v : Value} {r : Reach} {base : Nat} {x : DataW H} {ps : List MemPlace} (ht : P.underlying t = some (.slice e)) (hv : Value.okWide P W r base t v) (hty : Ty.is P d (Gv.ty (List α)) t = true)
    (h : DataW.Trod enc P W 0 (fun _ => true) true t v x ps) : ∃ (p : Option Addr) (cap : Nat) (l : List α), v = .slice p l.length cap ∧ l.length ≤ cap ∧ cap ≤ maxLen ∧ Sl [] W p l := by
  obtain ⟨a, len, cap, rfl⟩ := okWide_slice ht hv
  obtain ⟨l, hl⟩ := open_gv (α := List α) d hty h
  obtain ⟨p, c, e, h1, h2, h3⟩ := rep_list.1 hl
  simp only [Value.cells, List.cons.injEq, Value.slice.injEq, and_true] at e
  obtain ⟨rfl, rfl, rfl⟩ := e
  exact ⟨a, cap, l, rfl, h1, h2, h3⟩

/-- from a contract that knows what came in -/
theorem GivesIn.law {Φ : PW} {f : FuncId} {args : Array Value} (h : GivesIn Φ P f args (.bool true)) (h0 : Φ [] W) : Calls P f args W fun e W' => ∃ u, e = .returned u ∧ (u = .bool true ∧ Chg [] W W') :=
  (h.go W W [] (Ctx.start W h0)).mono fun e w' ⟨h1, h2⟩ => ⟨_, h1, rfl, h2.chg⟩

end

end Go.Vc
end

/-
  Replica: the cells of entries and replicas; the walks of between, term, others.
-/
section
set_option linter.unusedVariables false
set_option linter.unusedSimpArgs false
namespace Go.Proofs.Ytifgijoeckoojaa
open Go.Vc

theorem gl {W w : World} {Q T G : List Own} {Φ : PW} (c : Ctx W w (Q ++ T ++ G) Φ) : Ctx W w (Q ++ (T ++ G)) Φ := c.re (List.append_assoc _ _ _)
theorem gr {W w : World} {Q T G : List Own} {Φ : PW} (c : Ctx W w (Q ++ (T ++ G)) Φ) : Ctx W w (Q ++ T ++ G) Φ := c.re (List.append_assoc _ _ _).symm

theorem mid {W w : World} {Q S : List Own} {a : Own} {Φ : PW} [Stable Φ] (c : Ctx W w (a :: (Q ++ S)) Φ) : Ctx W w (Q ++ a :: S) Φ := c.perm List.perm_middle.symm
theorem front {W w : World} {Q S : List Own} {a : Own} {Φ : PW} [Stable Φ] (c : Ctx W w (Q ++ a :: S) Φ) : Ctx W w (a :: (Q ++ S)) Φ := c.perm List.perm_middle

theorem sink {W w : World} {Q T G : List Own} {a : Own} {Φ : PW} [Stable Φ] (c : Ctx W w (a :: (Q ++ T) ++ G) Φ) : Ctx W w (Q ++ a :: T ++ G) Φ := c.perm (List.Perm.append_right G List.perm_middle.symm)
theorem lift {W w : World} {Q T G : List Own} {a : Own} {Φ : PW} [Stable Φ] (c : Ctx W w (Q ++ a :: T ++ G) Φ) : Ctx W w (a :: (Q ++ T) ++ G) Φ := c.perm (List.Perm.append_right G List.perm_middle)

theorem keepQ {W w : World} {Q T G : List Own} {Φ : PW} [Stable Φ] (c : Ctx W w (Q ++ T ++ G) Φ) : Ctx W w (Q ++ G) (fun _ _ => True) := (c.weak fun _ _ _ => trivial).sub (List.Sublist.append_right (List.sublist_append_left _ _) _)

/-! ### the cells of entries -/
def recCells : List RecD → List Value
  | [] => []
  | x :: l => .int .i64 x.term :: .string x.data :: recCells l

def RecD.Ok (x : RecD) : Prop := I64 x.term ∧ x.data.size ≤ maxLen

theorem recs_len : ∀ l : List RecD, (recCells l).length = l.length * 2
  | [] => rfl
  | x :: l => by simp only [recCells, List.length_cons, recs_len l]; omega

theorem recs_app : ∀ a b : List RecD, recCells (a ++ b) = recCells a ++ recCells b
  | [], b => rfl
  | x :: a, b => by simp only [List.cons_append, recCells, recs_app a b]

theorem recs_drop : ∀ (l : List RecD) (k : Nat), (recCells l).drop (k * 2) = recCells (l.drop k)
  | l, 0 => by simp
  | [], k + 1 => by simp [recCells]
  | x :: l, k + 1 => by
    rw [show (k + 1) * 2 = k * 2 + 1 + 1 by omega]
    simp only [recCells, List.drop_succ_cons]
    exact recs_drop l k

theorem recs_at {l : List RecD} {i : Nat} (h : i < l.length) : ((recCells l).drop (i * 2)).take 2 = [.int .i64 l[i].term, .string l[i].data] := by
  rw [recs_drop, List.drop_eq_getElem_cons h]
  rfl

theorem recs_at0 {l : List RecD} {i : Nat} (h : i < l.length) : (recCells l)[i * 2]? = some (.int .i64 l[i].term) := by
  have h1 := recs_at h
  have : (((recCells l).drop (i * 2)).take 2)[0]? = some (.int .i64 l[i].term) := by rw [h1]; rfl
  rwa [List.getElem?_take_of_lt (by omega), List.getElem?_drop, Nat.add_zero] at this

theorem rep_rec {M : List Nat} {w : World} {x : RecD} (h : x.Ok) : Gv.rep M w [.int .i64 x.term, .string x.data] x := ⟨[_], _, rfl, ⟨rfl, h.1⟩, rfl, h.2⟩

theorem rec_cells {M : List Nat} {w : World} {cs : List Value} {x : RecD} (h : Gv.rep M w cs x) : cs = [.int .i64 x.term, .string x.data] ∧ x.Ok := by
  obtain ⟨_, _, rfl, ⟨rfl, h1⟩, rfl, h2⟩ := h
  exact ⟨rfl, h1, h2⟩

theorem rec_one (M : List Nat) (w : World) (cs : List Value) (x : RecD) (h : Gv.rep M w cs x) : (cs.all fun u => oneC u) = true := by
  rw [(rec_cells h).1]; rfl

theorem recs_elems {M : List Nat} {w : World} {l : List RecD} (h : ∀ x ∈ l, x.Ok) : Elems M w (recCells l) l := by
  refine ⟨recs_len l, fun j hj => ?_⟩
  rw [show (Gv.ty RecD).size = 2 from rfl, recs_at hj]
  exact rep_rec (h _ (List.getElem_mem hj))

theorem elems_recs {M : List Nat} {w : World} {cs : List Value} {l : List RecD} (h : Elems M w cs l) : cs = recCells l ∧ ∀ x ∈ l, x.Ok := by
  refine ⟨?_, fun x hx => ?_⟩
  · apply List.ext_getElem?
    intro i
    by_cases hi : i < cs.length
    · have hl := h.1
      rw [show (Gv.ty RecD).size = 2 from rfl] at hl
      have hj : i / 2 < l.length := by omega
      have h1 := (rec_cells (h.2 (i / 2) hj)).1
      rw [show (Gv.ty RecD).size = 2 from rfl, ← recs_at hj] at h1
      have h2 : ((cs.drop (i / 2 * 2)).take 2)[i % 2]? = (((recCells l).drop (i / 2 * 2)).take 2)[i % 2]? := by rw [h1]
      rw [List.getElem?_take_of_lt (by omega), List.getElem?_take_of_lt (by omega), List.getElem?_drop, List.getElem?_drop] at h2
      rwa [show i / 2 * 2 + i % 2 = i by omega] at h2
    · have hl := h.1
      rw [show (Gv.ty RecD).size = 2 from rfl] at hl
      rw [List.getElem?_eq_none (by omega), List.getElem?_eq_none (by rw [recs_len]; omega)]
  · obtain ⟨j, hj, rfl⟩ := List.getElem_of_mem hx
    exact (rec_cells (h.2 j hj)).2

/-! ### a replica -/
abbrev Rep.cells (r : Rep) (p : Option Addr) (c : Nat) : List Value := [.int .i64 r.id, .int .i64 r.term, .int .i64 r.vote, .slice p r.log.length c, .int .i64 r.role, .int .i64 r.commit, .bool (r.votes 0), .bool (r.votes 1), .bool (r.votes 2), .int .i64 (r.next 0), .int .i64 (r.next 1), .int .i64 (r.next 2), .int .i64 (r.mat 0), .int .i64 (r.mat 1), .int .i64 (r.mat 2)]

/-- what a replica owns -/
abbrev repO (b : Nat) (r : Rep) (p : Option Addr) (c : Nat) : List Own := [.blk b (r.cells p c) 76, .buf p r.log.length c (recCells r.log) 55 2]

/-- a replica lies here -/
structure Here (w : World) (b : Nat) (r : Rep) (p : Option Addr) (c : Nat) : Prop where
  row : RowAt w b 0 (r.cells p c)
  log : ∀ j v, (recCells r.log)[j]? = some v → ∃ g, p = some ⟨g, 0, none⟩ ∧ w.cell? ⟨g, j, none⟩ = some v

theorem here_of {W w : World} {S : List Own} {Φ : PW} {b : Nat} {r : Rep} {p : Option Addr} {c : Nat} (h : Ctx W w (repO b r p c ++ S) Φ) : Here w b r p c :=
  ⟨h.row0 0 rfl, fun j v hj => by
    obtain ⟨g, hg, _, h2⟩ := h.bufCell 1 rfl (by have := (List.getElem?_eq_some_iff.1 hj).1; omega)
    exact ⟨g, hg, (h2 _ _ hj).1⟩⟩

theorem Here.drew {w : World} {b : Nat} {r : Rep} {p : Option Addr} {c : Nat} (h : Here w b r p c) (n : Nat) : Here (w.drewN n) b r p c :=
  ⟨((Chg.refl [] w).drewN n).row h.row (by simp), fun j v hj => by
    obtain ⟨g, hg, h2⟩ := h.log j v hj
    exact ⟨g, hg, ((Chg.refl [] w).drewN n).cell h2 (by simp)⟩⟩

theorem Here.at {w : World} {b : Nat} {r : Rep} {p : Option Addr} {c : Nat} (h : Here w b r p c) (k : Nat) {v : Value} (hv : (r.cells p c)[k]? = some v) : w.cell? ⟨b, k, none⟩ = some v := by
  have hlt := (List.getElem?_eq_some_iff.1 hv).1
  have := h.row k hlt
  rw [Nat.zero_add] at this
  rw [this, ← hv, List.getElem?_eq_getElem hlt]

theorem between_q (n a b : Int) : Quiet Try.prog F.replica_between #[.int .i64 n, .int .i64 a, .int .i64 b] (.bool (decide (a ≤ n) && decide (n ≤ b))) :=
  quiet_of (fun w J h => Qreplica_between_run n a b w J h) fun w => ⟨rfl, rfl⟩

theorem termAt_succ {l : List RecD} {k : Nat} (h : k < l.length) : termAt l (k + 1) = l[k].term := by
  simp only [termAt, List.getElem?_eq_getElem h]

theorem term_q {w : World} {b : Nat} {r : Rep} {p : Option Addr} {c : Nat} (h : Here w b r p c) {n : Int} {k : Nat} (hn : n = k) (hk : k ≤ r.log.length) (h4 : r.log.length ≤ 4000) :
    Calls Try.prog F.replica_Replica_term #[.pointer (some ⟨b, 0, none⟩), .int .i64 n] w fun e w' => e = .returned (.int .i64 (termAt r.log k)) ∧ w' = w := by
  subst hn
  refine (Qreplica_Replica_term_run b 0 k w (fun u w' => u = .int .i64 (termAt r.log k) ∧ w' = w) ?_).mono fun e w' ⟨v, h1, h2, h3⟩ => ⟨by rw [h1, h2], h3⟩
  refine Br.intro (fun h0 => ?_) (fun h0 => ?_)
  · have h0 : k = 0 := by have := of_decide_eq_true h0; omega
    subst h0
    exact ⟨rfl, rfl⟩
  · obtain ⟨j, rfl⟩ : ∃ j, k = j + 1 := ⟨k - 1, by have := of_decide_eq_false h0; omega⟩
    have hj : j < r.log.length := by omega
    obtain ⟨g, hg, hc⟩ := h.log _ _ (recs_at0 hj)
    refine ⟨p, r.log.length, c, by rw [Nat.zero_add]; exact h.at 3 rfl, by unfold I64; omega, by omega, ptrK_intro g 0 hg ⟨r.log[j].term, ?_, ?_, rfl⟩⟩
    · rw [show (((j + 1 : Nat) : Int) - 1).toNat = j by omega, Nat.zero_add]
      exact hc
    · rw [termAt_succ hj]

theorem term_dr {w : World} {b : Nat} {r : Rep} {p : Option Addr} {c : Nat} (h : Here w b r p c) {n : Int} {k : Nat} (hn : n = k) (hk : k ≤ r.log.length) (h4 : r.log.length ≤ 4000) {w0 : World} (e : ∃ m, w0 = w.drewN m) :
    Calls Try.prog F.replica_Replica_term #[.pointer (some ⟨b, 0, none⟩), .int .i64 n] w0 fun e w' => e = .returned (.int .i64 (termAt r.log k)) ∧ ∃ m, w' = w.drewN m := by
  obtain ⟨m, rfl⟩ := e
  exact (term_q (h.drew m) hn hk h4).mono fun e w' ⟨h1, h2⟩ => ⟨h1, m, h2⟩

theorem term_use {W w : World} {S : List Own} {Φ : PW} [Stable Φ] {b : Nat} {r : Rep} {p : Option Addr} {c : Nat} (cx : Ctx W w (repO b r p c ++ S) Φ) {n : Int} {k : Nat} (hn : n = k) (hk : k ≤ r.log.length) (h4 : r.log.length ≤ 4000) {K : Ending → World → Prop}
    (hK : ∀ w', Ctx W w' (repO b r p c ++ S) Φ → K (.returned (.int .i64 (termAt r.log k))) w') : Calls Try.prog F.replica_Replica_term #[.pointer (some ⟨b, 0, none⟩), .int .i64 n] w K :=
  (term_q (here_of cx) hn hk h4).mono fun e w' ⟨h1, h2⟩ => by subst h2; rw [h1]; exact hK _ cx

/-! ### others -/
abbrev intv (x : Int) : Value := .int .i64 x

def findZ (q : Int → Bool) : Nat → List Int → Int
  | _, [] => -1
  | i, x :: r => if q x = true then i else findZ q (i + 1) r

theorem findZ_drop (q : Int → Bool) (l : List Int) (i : Nat) (hi : i < l.length) : findZ q i (l.drop i) = if q l[i] = true then (i : Int) else findZ q (i + 1) (l.drop (i + 1)) := by
  rw [List.drop_eq_getElem_cons hi]; rfl

theorem ints_at {l : List Int} {i : Nat} (h : i < l.length) : (l.map intv)[i]? = some (.int .i64 l[i]) := by rw [List.getElem?_map, List.getElem?_eq_getElem h]; rfl

theorem IndexZ_use {W w : World} {S : List Own} {Φ : PW} [Stable Φ] {k : Nat} {l : List Int} {t : TypeId} (c : Ctx W w (.blk k (l.map intv) t :: S) Φ) (n cap : Nat) (hn : n = l.length) (f : FuncId) (cp : Array Value) (q : Int → Bool) (hlen : l.length ≤ 1000000) (hf : okFun Try.prog f = true)
    (hq : ∀ x, GivesIn Φ Try.prog f (Array.mk (.int .i64 x :: cp.toList)) (.bool (q x))) {K : Ending → World → Prop} (hk : ∀ w', Ctx W w' (.blk k (l.map intv) t :: S) Φ → K (.returned (.int .i64 (findZ q 0 l))) w') :
    Calls Try.prog F.slices_IndexFunc_int_int #[.slice (some ⟨k, 0, none⟩) n cap, .func (.func f) #[] cp] w K := by
  subst hn
  refine (Bslices_IndexFunc_int_int_run (some ⟨k, 0, none⟩) l.length cap f cp (J := fun u w' => K (.returned u) w') c ?_).mono fun e w' ⟨v, he, hj⟩ => by rw [he]; exact hj
  refine exI_mk (fun n R' Φ' m => ∃ i : Nat, n = i ∧ i ≤ l.length ∧ R' = .blk k (l.map intv) t :: S ∧ Φ' = Φ ∧ m = l.length - i ∧ findZ q 0 l = findZ q i (l.drop i)) ⟨⟨_, Φ, _, inferInstance, fun w F c => c, 0, rfl, Nat.zero_le _, rfl, rfl, rfl, rfl⟩, ?_⟩
  rintro n R1 Φ1 m _ ⟨i, rfl, hi, rfl, rfl, rfl, hor⟩
  refine Br.intro (fun hlt => ?_) (fun hge => fun w G cx => ?_)
  · have hlt : i < l.length := by simpa using hlt
    rw [findZ_drop q l i hlt] at hor
    refine ⟨by omega, ptrK_intro k 0 rfl fun w G cx => ⟨l[i], by rw [Int.toNat_natCast, Nat.zero_add]; exact cx.get 0 rfl (ints_at hlt), fun w G cx => ⟨hf, (hq l[i]).use cx fun w cx => ⟨_, rfl, _, Φ1, inferInstance, cx, Br.intro (fun h => fun w G cx => ?_) (fun h => ⟨by unfold I64; omega, _, Φ1, l.length - (i + 1), inferInstance, fun w F c => c, ⟨i + 1, rfl, hlt, rfl, rfl, rfl, ?_⟩, by omega⟩)⟩⟩⟩⟩
    · have := hk w cx.left
      rw [hor, if_pos h] at this
      exact this
    · rw [hor, if_neg (by rw [h]; simp)]
  · have hge : i = l.length := Nat.le_antisymm hi (by simpa using hge)
    have := hk w cx.left
    rw [hor, hge, List.drop_length] at this
    exact this

theorem others1_in {W : World} {b k0 : Nat} {r : Rep} {p : Option Addr} {c : Nat} {Φ : PW} [Stable Φ] (x : Int) :
    GivesIn (Aside W (.blk k0 [.pointer (some ⟨b, 0, none⟩)] 46 :: repO b r p c) Φ) Try.prog F.replica_Replica_others_1 (Array.mk (.int .i64 x :: (#[.pointer (some ⟨k0, 0, none⟩)] : Array Value).toList)) (.bool (decide (x = r.id))) := by
  refine gives_in (Breplica_Replica_others_1_run x k0 0) fun W' R => ?_
  have h1 : ∀ {M w}, Aside W (.blk k0 [.pointer (some ⟨b, 0, none⟩)] 46 :: repO b r p c) Φ M w → w.cell? ⟨k0, 0, none⟩ = some (.pointer (some ⟨b, 0, none⟩)) := fun {M w} h => by
    have := (h.parked (o := .blk k0 [.pointer (some ⟨b, 0, none⟩)] 46) (by simp)).1
    exact (show Blk w k0 [.pointer (some ⟨b, 0, none⟩)] 46 from this).cell_eq rfl
  have h2 : ∀ {M w}, Aside W (.blk k0 [.pointer (some ⟨b, 0, none⟩)] 46 :: repO b r p c) Φ M w → w.cell? ⟨b, 0, none⟩ = some (.int .i64 r.id) := fun {M w} h => by
    have := (h.parked (o := .blk b (r.cells p c) 76) (by simp)).1
    exact (show Blk w b (r.cells p c) 76 from this).cell_eq rfl
  exact fun w G cx => ⟨some ⟨b, 0, none⟩, h1 cx.phi, ptrK_intro b 0 rfl fun w G cx => ⟨r.id, h2 cx.phi, fun w G cx => ⟨rfl, cx.left⟩⟩⟩

theorem run_clr {P : Program} {ats : Array TypeId} {ty : TypeId} {cs : Array Bool} {args : Array Value} {v : Value} {w w' : World} (h : (Builtin.clear_ ats ty args).run P w = .ok v w') : Sem.run P (builtin Builtin.clear ats ty cs args) w = .ok (.value v) w' := by
  unfold builtin
  simp only [Sem.run_bind, h, Result.andThen, Sem.run_pure]

theorem setL_app (vs : List Value) : ∀ (a b : List Value) (n : Nat), n = a.length → vs.length = b.length → setL (a ++ b) n vs = a ++ vs := by
  intro a b n hn hl
  subst hn
  apply List.ext_getElem?
  intro i
  by_cases hi : i < a.length
  · rw [setL_get _ _ _ _ (.inl hi), List.getElem?_append_left hi, List.getElem?_append_left hi]
  · by_cases hi2 : i < a.length + vs.length
    · obtain ⟨j, rfl⟩ : ∃ j, i = a.length + j := ⟨i - a.length, by omega⟩
      rw [setL_in _ _ _ _ (by omega) (by rw [List.length_append]; omega), List.getElem?_append_right (by omega), show a.length + j - a.length = j by omega]
    · rw [List.getElem?_eq_none (by rw [setL_len, List.length_append]; omega), List.getElem?_eq_none (by rw [List.length_append]; omega)]

theorem zero3 : ∀ w : World, (zeroValue 3).run Try.prog w = .ok (.int .i64 0) w := fun w => rfl

/-- what is left after DeleteFunc -/
theorem DeleteZ_use {W w : World} {S : List Own} {Φ : PW} [Stable Φ] {k : Nat} {l : List Int} (c : Ctx W w (.blk k (l.map intv) 3 :: S) Φ) (f : FuncId) (cp : Array Value) (q : Int → Bool) (n : Nat) (hn : n = l.length) (h0 : 0 < l.length) (hlen : l.length ≤ 1000000) (hf : okFun Try.prog f = true)
    (hq : ∀ x, GivesIn Φ Try.prog f (Array.mk (.int .i64 x :: cp.toList)) (.bool (q x))) (hsome : l.any q = true) {K : Ending → World → Prop}
    (hk : ∀ w' rest, Ctx W w' (.blk k ((l.filter fun x => !q x).map intv ++ rest) 3 :: S) Φ → K (.returned (.slice (some ⟨k, 0, none⟩) (l.filter fun x => !q x).length l.length)) w') :
    Calls Try.prog F.slices_DeleteFunc_int_int #[.slice (some ⟨k, 0, none⟩) n n, .func (.func f) #[] cp] w K := by
  subst hn
  have hfind : ∀ (l : List Int) (i : Nat), l.any q = true → ∃ j : Nat, findZ q i l = ((i + j : Nat) : Int) ∧ ∃ h : j < l.length, q l[j] = true ∧ ∀ x ∈ l.take j, q x = false := by
    intro l
    induction l with
    | nil => intro i h; simp at h
    | cons x r ih =>
      intro i h
      cases hx : q x with
      | true => exact ⟨0, by unfold findZ; rw [if_pos hx]; rfl, by simp, by simpa using hx, by simp⟩
      | false =>
        rw [List.any_cons, hx, Bool.false_or] at h
        obtain ⟨j, h1, h2, h3, h4⟩ := ih (i + 1) h
        refine ⟨j + 1, ?_, by simp; omega, by simpa using h3, fun y hy => ?_⟩
        · unfold findZ; rw [if_neg (by rw [hx]; simp), h1]; congr 1; omega
        · rw [List.take_succ_cons] at hy
          rcases List.mem_cons.1 hy with rfl | hy
          · exact hx
          · exact h4 y hy
  obtain ⟨j0, hj0, hj1, hj2, hj3⟩ := hfind l 0 hsome
  rw [Nat.zero_add] at hj0
  refine (Bslices_DeleteFunc_int_int_run (some ⟨k, 0, none⟩) l.length l.length f cp (J := fun u w' => K (.returned u) w') c ?_).mono fun e w' ⟨v, he, hj⟩ => by rw [he]; exact hj
  refine fun w G cx => IndexZ_use (S := S ++ G) cx l.length l.length rfl f cp q hlen hf hq fun w cx => ⟨_, rfl, .blk k (l.map intv) 3 :: S, Φ, inferInstance, cx, ?_⟩
  rw [hj0]
  refine Br.intro (fun h => by have := of_decide_eq_true h; omega) (fun _ => ⟨by unfold I64; omega, ?_⟩)
  have hfil : (l.take j0).filter (fun x => !q x) = l.take j0 := List.filter_eq_self.2 fun x hx => by rw [hj3 x hx]; rfl
  have hstart : (l.take (j0 + 1)).filter (fun x => !q x) = l.take j0 := by
    rw [List.take_succ_eq_append_getElem hj1, List.filter_append, hfil]
    simp [hj2]
  refine exI_mk (fun a n R' Φ' m => ∃ (i j : Nat) (cs : List Value), a = i ∧ n = j ∧ j ≤ l.length ∧ i < j ∧ R' = .blk k cs 3 :: S ∧ Φ' = Φ ∧ m = l.length - j ∧ cs.length = l.length ∧ i = ((l.take j).filter fun x => !q x).length ∧ cs.take i = ((l.take j).filter fun x => !q x).map intv ∧ cs.drop j = (l.map intv).drop j)
    ⟨⟨_, Φ, _, inferInstance, fun w G cx => cx, j0, j0 + 1, l.map intv, rfl, by omega, by omega, by omega, rfl, rfl, rfl, by simp, by rw [hstart]; simp; omega, by rw [hstart, List.map_take], rfl⟩, ?_⟩
  rintro _ _ R1 Φ1 m _ ⟨i, j, cs, rfl, rfl, hjl, hij, rfl, rfl, rfl, hcl, hi, hct, hcd⟩
  refine Br.intro (fun hlt => ?_) (fun hge => ?_)
  · have hlt : j < l.length := by simpa using hlt
    have hcj : cs[j]? = some (.int .i64 l[j]) := by
      have : (cs.drop j)[0]? = ((l.map intv).drop j)[0]? := by rw [hcd]
      rw [List.getElem?_drop, List.getElem?_drop, Nat.add_zero, ints_at hlt] at this
      exact this
    have hts : (l.take (j + 1)).filter (fun x => !q x) = (l.take j).filter (fun x => !q x) ++ (if q l[j] = true then [] else [l[j]]) := by
      rw [List.take_succ_eq_append_getElem hlt, List.filter_append]
      congr 1
      cases h : q l[j] <;> simp [h]
    refine ⟨by omega, ptrK_intro k 0 rfl fun w G cx => ⟨l[j], by rw [Int.toNat_natCast, Nat.zero_add]; exact cx.get 0 rfl hcj, fun w G cx => ⟨hf, (hq l[j]).use cx fun w cx => ⟨_, rfl, _, Φ1, inferInstance, cx, Br.intro (fun h => ⟨by omega, ptrK_intro k 0 rfl fun w G cx => ⟨cx.can 0 rfl (by rw [Int.toNat_natCast]; omega), fun w' hw' => ?_⟩⟩) (fun h => ?_)⟩⟩⟩⟩
    · rw [Int.toNat_natCast, Nat.zero_add] at hw'
      have cx1 := cx.put 0 hw' rfl
      have h : q l[j] = false := by simpa using h
      rw [if_neg (by rw [h]; simp)] at hts
      refine ⟨.blk k (cs.set i (.int .i64 l[j])) 3 :: S, Φ1, inferInstance, cx1, by unfold I64; omega, by unfold I64; omega, _, Φ1, l.length - (j + 1), inferInstance, fun w G cx => cx, ⟨i + 1, j + 1, cs.set i (.int .i64 l[j]), by omega, by omega, hlt, by omega, rfl, rfl, rfl, by simp [hcl], by rw [hts, List.length_append, ← hi]; rfl, ?_, ?_⟩, by omega⟩
      · rw [hts, List.map_append, ← hct, List.take_succ_eq_append_getElem (by simp [hcl]; omega), List.take_set_of_le (Nat.le_refl _), List.getElem_set_self]
        rfl
      · rw [List.drop_set_of_lt (by omega)]
        have := congrArg (List.drop 1) hcd
        rw [List.drop_drop, List.drop_drop] at this
        exact this
    · have h : q l[j] = true := by simpa using h
      rw [if_pos h, List.append_nil] at hts
      refine ⟨by unfold I64; omega, _, Φ1, l.length - (j + 1), inferInstance, fun w G cx => cx, ⟨i, j + 1, cs, rfl, by omega, hlt, by omega, rfl, rfl, rfl, hcl, by rw [hts]; exact hi, by rw [hts]; exact hct, ?_⟩, by omega⟩
      have := congrArg (List.drop 1) hcd
      rw [List.drop_drop, List.drop_drop] at this
      exact this
  · have hge : j = l.length := Nat.le_antisymm hjl (by simpa using hge)
    subst hge
    rw [List.take_length] at hi hct
    refine ⟨by omega, fun w G cx => ?_⟩
    have hne : ¬ l.length = i := by omega
    have hsub : subPtr (some ⟨k, 0, none⟩) 1 (i : Int).toNat l.length = some ⟨k, i, none⟩ := by
      unfold subPtr
      rw [Int.toNat_natCast, if_neg hne]
      simp [Addr.add]
      intro h
      exact h.symm
    rw [hsub, Int.toNat_natCast]
    have hb := cx.blk 0 rfl
    have hrun := Lib.run_clear_slice (P := Try.prog) w 65 3 0 (.int .i64 0) Try.underlying65 zero3 rfl rfl k i (l.length - i) (l.length - i) (by omega) (fun t ht => (cx.can 0 rfl (o := i) (n := l.length - i) (by omega) t ht).1) (fun t ht => (cx.can 0 rfl (o := i) (n := l.length - i) (by omega) t ht).2)
    refine ⟨_, run_clr hrun, .blk k (setL cs i (List.replicate (l.length - i) (.int .i64 0))) 3 :: S, Φ1, inferInstance, cx.puts 0 rfl rfl, by omega, fun w G cx => ?_⟩
    have hcs : cs = (l.filter fun x => !q x).map intv ++ cs.drop i := by rw [← hct, List.take_append_drop]
    have e1 : setL cs i (List.replicate (l.length - i) (.int .i64 0)) = (l.filter fun x => !q x).map intv ++ List.replicate (l.length - i) (.int .i64 0) := by
      conv => lhs; rw [hcs]
      exact setL_app _ _ _ _ (by rw [List.length_map]; exact hi) (by simp [hcl])
    rw [e1] at cx
    have e2 : subPtr (some ⟨k, 0, none⟩) 1 0 l.length = some ⟨k, 0, none⟩ := by
      unfold subPtr
      split
      · rfl
      · simp [Addr.add]
    rw [e2, hi]
    exact hk w _ cx.left

/-- the numbers of the others, in a block of their own -/
theorem others_use {W w : World} {S : List Own} {Φ : PW} [Stable Φ] {b : Nat} {r : Rep} {p : Option Addr} {c : Nat} (hid : r.id ≤ 2) (cx : Ctx W w (repO b r p c ++ S) Φ) {K : Ending → World → Prop}
    (hK : ∀ k rest w', Ctx W w' (.blk k ((othersOf r.id).map (fun x : Nat => intv (x : Int)) ++ rest) 3 :: (repO b r p c ++ S)) Φ → K (.returned (.slice (some ⟨k, 0, none⟩) 2 3)) w') :
    Calls Try.prog F.replica_Replica_others #[.pointer (some ⟨b, 0, none⟩)] w K := by
  refine (Breplica_Replica_others_run b 0 (J := fun u w' => K (.returned u) w') cx ?_).mono fun e w' ⟨v, he, hj⟩ => by rw [he]; exact hj
  intro k0 k1 w G cx
  have cx1 : Ctx W w ((.blk k0 [.pointer (some ⟨b, 0, none⟩)] 46 :: repO b r p c) ++ (.blk k1 ([0, 1, 2].map intv) 3 :: (S ++ G))) Φ := by
    refine cx.perm ?_
    show (Own.blk k1 [.int .i64 0, .int .i64 1, .int .i64 2] 3 :: ((Own.blk k0 [.pointer (some ⟨b, 0, none⟩)] 46 :: repO b r p c) ++ S ++ G)).Perm _
    rw [List.append_assoc]
    exact List.perm_middle.symm
  have hst : Stable (Aside W (.blk k0 [.pointer (some ⟨b, 0, none⟩)] 46 :: repO b r p c) Φ) := inferInstance
  refine DeleteZ_use cx1.aside 57 #[.pointer (some ⟨k0, 0, none⟩)] (fun x : Int => decide (x = (r.id : Int))) 3 rfl (by simp) (by simp) (by kernel_rfl) (fun x => others1_in x) ?_ fun w rest cx => ?_
  · have : r.id = 0 ∨ r.id = 1 ∨ r.id = 2 := by omega
    rcases this with h | h | h <;> rw [h] <;> rfl
  · have hfil : ([0, 1, 2] : List Int).filter (fun x : Int => !decide (x = (r.id : Int))) = (othersOf r.id).map (fun x : Nat => (x : Int)) := by
      have : r.id = 0 ∨ r.id = 1 ∨ r.id = 2 := by omega
      rcases this with h | h | h <;> rw [h] <;> rfl
    rw [hfil] at cx ⊢
    have hl : ((othersOf r.id).map (fun x : Nat => (x : Int))).length = 2 := by unfold othersOf; split; rfl; split <;> rfl
    rw [hl]
    refine ⟨some ⟨k1, 0, none⟩, 2, 3, rfl, .blk k1 ((othersOf r.id).map (fun x : Nat => intv (x : Int)) ++ rest) 3 :: (repO b r p c ++ S), Φ, inferInstance, ?_, fun w G cx => hK k1 rest w cx.left⟩
    have cx2 := cx.unaside
    rw [List.map_map] at cx2
    refine Ctx.perm (cx2.sub (S' := repO b r p c ++ (.blk k1 ((othersOf r.id).map (fun x : Nat => intv (x : Int)) ++ rest) 3 :: (S ++ G))) (List.sublist_cons_self _ _)) ?_
    refine List.perm_middle.trans (List.Perm.cons _ ?_)
    rw [← List.append_assoc]
    exact List.Perm.refl _

end Go.Proofs.Ytifgijoeckoojaa
end

/-
  Replica: messages, entries, all, answer; Clone; sound; New.
-/
section
set_option linter.unusedVariables false
set_option linter.unusedSimpArgs false
namespace Go.Proofs.Ytifgijoeckoojaa
open Go.Vc

/-! ### messages as data -/
abbrev MsgR.cells (x : MsgR) (p : Option Addr) (c : Nat) : List Value := [.int .i64 x.kind, .int .i64 x.src, .int .i64 x.to, .int .i64 x.term, .int .i64 x.index, .int .i64 x.prev, .int .i64 x.commit, .bool x.yes, .slice p x.recs.length c]
abbrev MsgR.v (x : MsgR) (p : Option Addr) (c : Nat) : Value := .agg #[.int .i64 x.kind, .int .i64 x.src, .int .i64 x.to, .int .i64 x.term, .int .i64 x.index, .int .i64 x.prev, .int .i64 x.commit, .bool x.yes, .slice p x.recs.length c]

structure MsgR.Ok (x : MsgR) : Prop where
  kind : I64 x.kind
  src : I64 x.src
  to : I64 x.to
  term : I64 x.term
  index : I64 x.index
  prev : I64 x.prev
  commit : I64 x.commit

theorem msg_cells {M : List Nat} {w : World} {cs : List Value} {x : MsgR} (h : Gv.rep M w cs x) : ∃ p c, cs = x.cells p c ∧ x.recs.length ≤ c ∧ c ≤ maxLen ∧ x.Ok ∧ Sl M w p x.recs := by
  obtain ⟨_, _, rfl, ⟨rfl, h1⟩, _, _, rfl, ⟨rfl, h2⟩, _, _, rfl, ⟨rfl, h3⟩, _, _, rfl, ⟨rfl, h4⟩, _, _, rfl, ⟨rfl, h5⟩, _, _, rfl, ⟨rfl, h6⟩, _, _, rfl, ⟨rfl, h7⟩, _, _, rfl, rfl, p, c, rfl, h8, h9, h10⟩ := h
  exact ⟨p, c, rfl, h8, h9, ⟨h1, h2, h3, h4, h5, h6, h7⟩, h10⟩

theorem rep_msg {M : List Nat} {w : World} {x : MsgR} {p : Option Addr} {c : Nat} (h : x.Ok) (h6 : x.recs.length ≤ c) (h7 : c ≤ maxLen) (h8 : Sl M w p x.recs) : Gv.rep M w (x.cells p c) x :=
  ⟨[_], _, rfl, ⟨rfl, h.kind⟩, [_], _, rfl, ⟨rfl, h.src⟩, [_], _, rfl, ⟨rfl, h.to⟩, [_], _, rfl, ⟨rfl, h.term⟩, [_], _, rfl, ⟨rfl, h.index⟩, [_], _, rfl, ⟨rfl, h.prev⟩, [_], _, rfl, ⟨rfl, h.commit⟩, [_], _, rfl, rfl, p, c, rfl, h6, h7, h8⟩

theorem msg_sl {M : List Nat} {w : World} {x : MsgR} {p : Option Addr} {c : Nat} (h : Gv.rep M w (x.cells p c) x) : Sl M w p x.recs := by
  obtain ⟨p', c', e, _, _, _, h1⟩ := msg_cells h
  simp only [MsgR.cells, List.cons.injEq, Value.slice.injEq] at e
  rw [e.2.2.2.2.2.2.2.2.1.1]
  exact h1

theorem sl_rec {M : List Nat} {w : World} {b o : Nat} {l : List RecD} (h : Sl M w (some ⟨b, o, none⟩) l) {i : Nat} (hi : i < l.length) : RowAt w b (o + i * 2) [.int .i64 l[i].term, .string l[i].data] := by
  obtain ⟨b', o', cs, e, _, h3, h4⟩ := h i hi
  cases e
  rw [← (rec_cells h4).1]
  exact h3

theorem sl_recOk {M : List Nat} {w : World} {p : Option Addr} {l : List RecD} (h : Sl M w p l) : ∀ x ∈ l, x.Ok := fun x hx => by
  obtain ⟨i, hi, rfl⟩ := List.getElem_of_mem hx
  obtain ⟨_, _, _, _, _, _, h4⟩ := h i hi
  exact (rec_cells h4).2

/-! ### Clone -/
/-- what is cloned: a slice of plain data -/
theorem CloneR_use {W w : World} {S : List Own} {Φ : PW} [Stable Φ] {q : Option Addr} {l : List RecD} {c2 : Nat} (c : Ctx W w S Φ) (hsl : ∀ M w, Φ M w → Sl M w q l) (hlen : l.length < 100000000) {K : Ending → World → Prop}
    (hk : ∀ p cap w', Ctx W w' (.buf p l.length cap (recCells l) 55 2 :: S) Φ → K (.returned (.slice p l.length cap)) w') : Calls Try.prog F.slices_Clone_api_Rec_api_Rec #[.slice q l.length c2] w K := by
  refine (Bslices_Clone_api_Rec_api_Rec_run q l.length c2 (J := fun u w' => K (.returned u) w') c ?_).mono fun e w' ⟨v, he, hj⟩ => by rw [he]; exact hj
  refine Br.intro (fun h => fun w G cx => ?_) (fun h => fun k w G cx => ?_)
  · have hq : q = none := by simpa using h
    have hl : l.length = 0 := by
      rcases Nat.eq_zero_or_pos l.length with h0 | h0
      · exact h0
      · obtain ⟨b, o, hb⟩ := (hsl _ _ cx.phi).there h0
        rw [hq] at hb; cases hb
    have hl' : l = [] := List.eq_nil_of_length_eq_zero hl
    subst hl'
    exact hk none 0 w (cx.left.nobuf 55 2)
  · obtain ⟨p', cap', w', cs, hrun, cx'⟩ := Ctx.cloned (P := Try.prog) (ts := 35) (ty := 35) (kb := #[false, false]) (bytes := 24) (c2 := c2) cx (by kernel_rfl) rec_one hsl hlen (by omega)
    obtain ⟨rfl, _⟩ := elems_recs cx'.phi.2
    exact ⟨p', l.length, cap', w', hrun, .buf p' l.length cap' (recCells l) 55 2 :: S, Φ, inferInstance, cx'.fst, fun w G cx => hk p' cap' w cx.left⟩

/-- the log of a replica, while it is laid aside -/
theorem log_sl {W w : World} {Q : List Own} {Φ : PW} {M : List Nat} {p : Option Addr} {n c : Nat} {l : List RecD} (h : Aside W Q Φ M w) (hm : Own.buf p n c (recCells l) 55 2 ∈ Q) (hok : ∀ x ∈ l, x.Ok) : Sl M w p l :=
  Parked.sl (α := RecD) (D := []) (h.parked hm) (recs_elems hok)

/-- what a replica's Ok says of its entries -/
theorem Rep.Ok.recs {r : Rep} (h : r.Ok) : ∀ x ∈ r.log, x.Ok := fun x hx => by
  have h1 := h.log.lo x hx
  have h2 := h.log.hi x hx
  have h3 := h.log.data x hx
  have h4 := h.termM
  exact ⟨by unfold I64; omega, by unfold maxLen; omega⟩

theorem Sl.take {α : Type} [Gv α] {M : List Nat} {w : World} {p : Option Addr} {l : List α} (h : Sl M w p l) (k : Nat) : Sl M w p (l.take k) := fun j hj => by
  have hj' : j < l.length := by simp at hj; omega
  rw [List.getElem_take]
  exact h j hj'

/-! ### message -/
theorem message_use {W w : World} {S : List Own} {Φ : PW} [Stable Φ] {b : Nat} {r : Rep} {p : Option Addr} {c : Nat} (cx : Ctx W w (repO b r p c ++ S) Φ) (kind to : Int) {K : Ending → World → Prop}
    (hK : ∀ w', Ctx W w' (repO b r p c ++ S) Φ → K (.returned ((msgOf r kind to).v none 0)) w') : Calls Try.prog F.replica_Replica_message #[.pointer (some ⟨b, 0, none⟩), .int .i64 kind, .int .i64 to] w K := by
  refine (Breplica_Replica_message_run b 0 kind to (J := fun u w' => K (.returned u) w') cx ?_).mono fun e w' ⟨v, he, hj⟩ => by rw [he]; exact hj
  exact fun _ w G cx => ⟨r.id, cx.get 0 rfl rfl, fun w G cx => ⟨r.term, cx.get 0 rfl rfl, fun w G cx => hK w cx.left⟩⟩

/-- next is a place in the log, or behind it -/
structure Fit (r : Rep) (to : Nat) : Prop where
  lo : 1 ≤ r.next to
  hi : r.next to ≤ r.log.length + 1
  len : r.log.length ≤ 4000
  to : to < 3

theorem cells_next {r : Rep} {p : Option Addr} {c : Nat} {to : Nat} (h : to < 3) : (r.cells p c)[9 + to]? = some (.int .i64 (r.next to)) := by
  match to, h with
  | 0, _ => rfl
  | 1, _ => rfl
  | 2, _ => rfl

theorem cells_mat {r : Rep} {p : Option Addr} {c : Nat} {to : Nat} (h : to < 3) : (r.cells p c)[12 + to]? = some (.int .i64 (r.mat to)) := by
  match to, h with
  | 0, _ => rfl
  | 1, _ => rfl
  | 2, _ => rfl

set_option maxHeartbeats 1000000 in
theorem entries_use {W w : World} {S : List Own} {Φ : PW} [Stable Φ] {b : Nat} {r : Rep} {p : Option Addr} {c : Nat} (cx : Ctx W w (repO b r p c ++ S) Φ) (hok : ∀ x ∈ r.log, x.Ok) {to : Int} (n : Nat) (hto : to = n) (hf : Fit r n) {K : Ending → World → Prop}
    (hK : ∀ q cap w', (entriesOf r n).recs.length ≤ cap → cap ≤ maxLen → Ctx W w' (repO b r p c ++ S) (fun M w => Φ M w ∧ Sl M w q (entriesOf r n).recs) → K (.returned ((entriesOf r n).v q cap)) w') :
    Calls Try.prog F.replica_Replica_entries #[.pointer (some ⟨b, 0, none⟩), .int .i64 to] w K := by
  subst hto
  have h1 := hf.lo
  have h2 := hf.hi
  have h3 := hf.len
  have h4 := hf.to
  refine (Breplica_Replica_entries_run b 0 n (J := fun u w' => K (.returned u) w') cx ?_).mono fun e w' ⟨v, he, hj⟩ => by rw [he]; exact hj
  refine fun _ w G cx => message_use (gl cx) 2 n fun w cx => ⟨_, _, _, _, _, _, _, _, none, _, 0, rfl, repO b r p c ++ S, Φ, inferInstance, gr cx, fun _ => ⟨by omega, fun w G cx => ⟨r.next n, ?_, by unfold I64; omega, ?_⟩⟩⟩
  · rw [Nat.zero_add, Int.toNat_natCast]
    exact cx.get 0 rfl (cells_next h4)
  have hnx : ((r.next n : Nat) : Int) - 1 = ((r.next n - 1 : Nat) : Int) := by omega
  rw [hnx]
  have hmin : min ((r.log.length : Nat) : Int) (((r.next n - 1 : Nat) : Int) + 8) = ((min r.log.length (r.next n - 1 + 8) : Nat) : Int) := by omega
  refine ⟨repO b r p c ++ S, Φ, inferInstance, fun w G cx => cx, (r.commit : Int), fun w G cx => ⟨_, cx.get 0 rfl rfl, rfl⟩, fun w G cx => term_use (gl cx) rfl (by omega) h3 fun w cx => ⟨_, rfl, repO b r p c ++ S, Φ, inferInstance, gr cx, fun w G cx => cx, fun w G cx => cx, fun w G cx => cx,
    repO b r p c, Φ, inferInstance, fun w G cx => cx.sub (by rw [List.append_assoc]; exact List.Sublist.append_left (List.sublist_append_right _ _) _), by unfold I64; omega, p, r.log.length, c, fun w G cx => ⟨p, r.log.length, c, cx.get 0 rfl rfl, rfl⟩, p, r.log.length, c, fun w G cx => ⟨p, r.log.length, c, cx.get 0 rfl rfl, rfl⟩, ?_, fun w G cx => ?_⟩⟩
  · have hc := (cx.bufLen 1 rfl).2.1
    omega
  rw [hmin, Int.toNat_natCast, Int.toNat_natCast]
  have hlen : min r.log.length (r.next n - 1 + 8) - (r.next n - 1) = ((r.log.drop (r.next n - 1)).take 8).length := by
    rw [List.length_take, List.length_drop]; omega
  rw [hlen]
  have hc := (cx.bufLen 1 rfl).2.1
  have cx1 : Ctx W w (S ++ G) (Aside W (repO b r p c) Φ) := Ctx.aside (cx.re (List.append_assoc _ _ _))
  refine CloneR_use cx1 (fun M w h => Sl.take (addr_sub (log_sl h (n := r.log.length) (c := c) (by simp) hok) (r.next n - 1) hc) 8) (by rw [← hlen]; omega) fun q cap w cx => ?_
  obtain ⟨_, hcap1, hcap2⟩ := cx.bufLen 0 rfl
  have cx2 : Ctx W w (.buf q ((r.log.drop (r.next n - 1)).take 8).length cap (recCells ((r.log.drop (r.next n - 1)).take 8)) 55 2 :: (repO b r p c ++ (S ++ G))) Φ := cx.unaside.perm List.perm_middle
  obtain ⟨cx3, hs, _⟩ := Ctx.freeze (α := RecD) cx2 (recs_elems fun x hx => hok x (List.mem_of_mem_drop (List.mem_of_mem_take hx)))
  have hst : Stable (fun M w => Φ M w ∧ Sl M w q ((r.log.drop (r.next n - 1)).take 8)) := inferInstance
  refine ⟨q, _, cap, rfl, repO b r p c ++ S, fun M w => Φ M w ∧ Sl M w q ((r.log.drop (r.next n - 1)).take 8), hst, gr (cx3.add hs), fun w G cx => ?_, fun w G cx => hK q cap w hcap1 hcap2 cx.left⟩
  exact cx.fst.sub (by rw [List.append_assoc]; exact List.Sublist.append_left (List.sublist_append_right _ _) _)

/-! ### answer -/
theorem answer_use {W w : World} {S : List Own} {Φ : PW} [Stable Φ] (cx : Ctx W w S Φ) (m : MsgR) (p : Option Addr) (c : Nat) (hm : m.Ok) (h1 : m.recs.length ≤ c) (h2 : c ≤ maxLen) (hsl : ∀ M w, Φ M w → Sl M w p m.recs) {K : Ending → World → Prop}
    (hK : ∀ q w', Ctx W w' S (fun M w => Φ M w ∧ Sl M w q [m]) → K (.returned (.agg #[.bool false, .int .i64 0, .int .i64 0, .int .i64 0, .slice none 0 0, .slice q 1 1])) w') :
    Calls Try.prog F.replica_answer #[m.v p c] w K := by
  refine (Breplica_answer_run m.kind m.src m.to m.term m.index m.prev m.commit m.yes p m.recs.length c (J := fun u w' => K (.returned u) w') cx ?_).mono fun e w' ⟨v, he, hj⟩ => by rw [he]; exact hj
  refine fun _ _ k w G cx => ?_
  obtain ⟨cx1, hs⟩ := cx.freezeBlk (Elems.one (rep_msg (x := m) hm h1 h2 (hsl _ _ cx.phi)))
  exact hK (some ⟨k, 0, none⟩) w (Ctx.left (F := G) (Φ := fun M w => Φ M w ∧ Sl M w (some ⟨k, 0, none⟩) [m]) (cx1.add hs))

end Go.Proofs.Ytifgijoeckoojaa
end

/-
  Replica: all, Tick, sound, New.
-/
section
set_option linter.unusedVariables false
set_option linter.unusedSimpArgs false
namespace Go.Proofs.Ytifgijoeckoojaa
open Go.Vc

/-! ### results -/
abbrev outV (o : OutR) (p1 : Option Addr) (c1 : Nat) (p2 : Option Addr) (c2 : Nat) : Value := .agg #[.bool o.save, .int .i64 o.term, .int .i64 o.vote, .int .i64 o.src, .slice p1 o.recs.length c1, .slice p2 o.send.length c2]

def OPhi (Φ : PW) (q1 : Option Addr) (recs : List RecD) (q2 : Option Addr) (send : List MsgR) : PW := fun M w => Φ M w ∧ Sl M w q1 recs ∧ Sl M w q2 send
instance ophi_stable (Φ : PW) [Stable Φ] (q1 : Option Addr) (recs : List RecD) (q2 : Option Addr) (send : List MsgR) : Stable (OPhi Φ q1 recs q2 send) :=
  have h2 : Stable (fun M w => Sl M w q1 recs ∧ Sl M w q2 send) := instStableAnd (fun M w => Sl M w q1 recs) (fun M w => Sl M w q2 send)
  instStableAnd Φ (fun M w => Sl M w q1 recs ∧ Sl M w q2 send)

/-- what follows a call that turns the replica into r', with the result o -/
def OutK (W : World) (S : List Own) (Φ : PW) (b : Nat) (r' : Rep) (o : OutR) (K : Value → World → Prop) : Prop :=
  ∀ p' c' q1 c1 q2 c2 w', o.recs.length ≤ c1 → c1 ≤ maxLen → o.send.length ≤ c2 → c2 ≤ maxLen → Ctx W w' (repO b r' p' c' ++ S) (OPhi Φ q1 o.recs q2 o.send) → K (outV o q1 c1 q2 c2) w'

theorem OutK.zero {W w : World} {S : List Own} {Φ : PW} {b : Nat} {r' : Rep} {K : Value → World → Prop} {p : Option Addr} {c : Nat} (h : OutK W S Φ b r' out0 K) (cx : Ctx W w (repO b r' p c ++ S) Φ) : K (outV out0 none 0 none 0) w :=
  h p c none 0 none 0 w (Nat.le_refl _) (by simp [maxLen]) (Nat.le_refl _) (by simp [maxLen]) (cx.weak fun M w h => ⟨h, Sl.nil, Sl.nil⟩)

theorem OutK.sent {W w : World} {S : List Own} {Φ : PW} {b : Nat} {r' : Rep} {K : Value → World → Prop} {p : Option Addr} {c : Nat} {l : List MsgR} {q : Option Addr} {cap : Nat} (h : OutK W S Φ b r' (outS l) K) (h1 : l.length ≤ cap) (h2 : cap ≤ maxLen)
    (cx : Ctx W w (repO b r' p c ++ S) (fun M w => Φ M w ∧ Sl M w q l)) : K (outV (outS l) none 0 q cap) w :=
  h p c none 0 q cap w (Nat.le_refl _) (by simp [maxLen]) h1 h2 (cx.weak fun M w h => ⟨h.1, Sl.nil, h.2⟩)

/-! ### the cells of a replica that is written -/
theorem set_vote {r : Rep} {p : Option Addr} {c i : Nat} (x : Bool) (h : i < 3) : (r.cells p c).set (6 + i) (.bool x) = { r with votes := put r.votes i x }.cells p c := by
  match i, h with
  | 0, _ => rfl
  | 1, _ => rfl
  | 2, _ => rfl
theorem set_next {r : Rep} {p : Option Addr} {c i : Nat} (x : Nat) (h : i < 3) : (r.cells p c).set (9 + i) (.int .i64 x) = { r with next := put r.next i x }.cells p c := by
  match i, h with
  | 0, _ => rfl
  | 1, _ => rfl
  | 2, _ => rfl
theorem set_mat {r : Rep} {p : Option Addr} {c i : Nat} (x : Nat) (h : i < 3) : (r.cells p c).set (12 + i) (.int .i64 x) = { r with mat := put r.mat i x }.cells p c := by
  match i, h with
  | 0, _ => rfl
  | 1, _ => rfl
  | 2, _ => rfl

theorem put_rep {W w w' : World} {S : List Own} {Φ : PW} [Stable Φ] {b : Nat} {r : Rep} {p : Option Addr} {c : Nat} (cx : Ctx W w (repO b r p c ++ S) Φ) {i : Nat} {v : Value} (e : w' = w.setCell ⟨b, i, none⟩ v) (r' : Rep) (hc : (r.cells p c).set i v = r'.cells p c) (hl : r'.log = r.log) :
    Ctx W w' (repO b r' p c ++ S) Φ := by
  show Ctx W w' (.blk b (r'.cells p c) 76 :: .buf p r'.log.length c (recCells r'.log) 55 2 :: S) Φ
  rw [← hc, hl]
  exact cx.put 0 e rfl

theorem puts_rep {W w w' : World} {S : List Own} {Φ : PW} [Stable Φ] {b : Nat} {r : Rep} {p : Option Addr} {c : Nat} (cx : Ctx W w (repO b r p c ++ S) Φ) {i : Nat} {vs : List Value} (e : w' = w.setCells b i vs) (r' : Rep) (hc : setL (r.cells p c) i vs = r'.cells p c) (hl : r'.log = r.log) :
    Ctx W w' (repO b r' p c ++ S) Φ := by
  show Ctx W w' (.blk b (r'.cells p c) 76 :: .buf p r'.log.length c (recCells r'.log) 55 2 :: S) Φ
  rw [← hc, hl]
  exact cx.puts 0 e rfl

/-! ### all -/
theorem others_len (id : Nat) : (othersOf id).length = 2 := by unfold othersOf; split; rfl; split <;> rfl
theorem others_lt {id : Nat} : ∀ x ∈ othersOf id, x < 3 ∧ (id ≤ 2 → x ≠ id) := by
  intro x hx
  unfold othersOf at hx
  split at hx
  · simp at hx; omega
  · split at hx <;> simp at hx <;> omega

theorem Rep.Ok.termAt {r : Rep} (h : r.Ok) (k : Nat) : 0 ≤ termAt r.log k ∧ Go.Proofs.Ytifgijoeckoojaa.termAt r.log k ≤ r.term := by
  have h0 := h.term0
  cases k with
  | zero => exact ⟨Int.le_refl _, h0⟩
  | succ k =>
    by_cases hk : k < r.log.length
    · rw [termAt_succ hk]
      have h1 := h.log.lo _ (List.getElem_mem hk)
      have h2 := h.log.hi _ (List.getElem_mem hk)
      omega
    · simp only [Go.Proofs.Ytifgijoeckoojaa.termAt, List.getElem?_eq_none (Nat.not_lt.1 hk)]
      omega

theorem Rep.Ok.fit {r : Rep} (h : r.Ok) (hr : r.role = 2) {i : Nat} (hi : i < 3) : Fit r i := ⟨(h.next hr i).1, (h.next hr i).2.1, h.len, hi⟩

theorem entries_ok {r : Rep} (h : r.Ok) {n : Nat} (hf : Fit r n) : (entriesOf r n).Ok := by
  have h1 := h.termAt (r.next n - 1)
  have h2 := h.id
  have h3 := h.term0
  have h4 := h.termM
  have h5 := h.commit
  have h6 := h.len
  have h7 := hf.hi
  have h8 := hf.to
  have e : ∀ {x : Int}, -1 ≤ x → x ≤ 1099511627776 → I64 x := fun h h' => by unfold I64; omega
  unfold entriesOf
  exact ⟨e (by simp) (by simp), e (by simp only; omega) (by simp only; omega), e (by simp only; omega) (by simp only; omega), e (by simp only; omega) (by simp only; omega), e (by simp only; omega) (by simp only; omega), e (by simp only; omega) (by simp only; omega), e (by simp only; omega) (by simp only; omega)⟩

set_option maxHeartbeats 1000000 in
theorem all_use {W w : World} {S : List Own} {Φ : PW} [Stable Φ] {b : Nat} {r : Rep} {p : Option Addr} {c : Nat} (cx : Ctx W w (repO b r p c ++ S) Φ) (hr : r.Ok) (hf : ∀ i, i < 3 → Fit r i) {K : Ending → World → Prop}
    (hK : ∀ q cap w', (allOf r).length ≤ cap → cap ≤ maxLen → Ctx W w' (repO b r p c ++ S) (fun M w => Φ M w ∧ Sl M w q (allOf r)) → K (.returned (.slice q (allOf r).length cap)) w') :
    Calls Try.prog F.replica_Replica_all #[.pointer (some ⟨b, 0, none⟩)] w K := by
  have hol := others_len r.id
  have hal : (allOf r).length = 2 := by unfold allOf; rw [List.length_map, hol]
  refine (Breplica_Replica_all_run b 0 (J := fun u w' => K (.returned u) w') cx ?_).mono fun e w' ⟨v, he, hj⟩ => by rw [he]; exact hj
  refine fun w G cx => others_use hr.id (gl cx) fun k rest w cx => ⟨some ⟨k, 0, none⟩, 2, 3, rfl, repO b r p c ++ (.blk k ((othersOf r.id).map (fun x : Nat => intv (x : Int)) ++ rest) 3 :: S), Φ, inferInstance, gr (Q := repO b r p c) (T := .blk k ((othersOf r.id).map (fun x : Nat => intv (x : Int)) ++ rest) 3 :: S) (mid cx), ?_⟩
  refine exI_mk (fun q n cap iI R' Φ' m => ∃ (i : Nat) (gs : List Value), iI = i ∧ n = i ∧ i ≤ 2 ∧ R' = repO b r p c ++ (.buf q i cap gs 37 9 :: .blk k ((othersOf r.id).map (fun x : Nat => intv (x : Int)) ++ rest) 3 :: S) ∧ Φ' = (fun M w => Φ M w ∧ Elems M w gs ((allOf r).take i)) ∧ m = 2 - i)
    ⟨⟨_, fun M w => Φ M w ∧ Elems M w [] ((allOf r).take 0), _, inferInstance, fun w G cx => gr (Q := repO b r p c) (T := .buf none 0 0 [] 37 9 :: .blk k ((othersOf r.id).map (fun x : Nat => intv (x : Int)) ++ rest) 3 :: S) (mid ((gl (Q := repO b r p c) (cx.weak (Ψ := fun M w => Φ M w ∧ Elems M w [] ((allOf r).take 0)) fun M w h => ⟨h, by rw [List.take_zero]; exact Elems.nil⟩)).nobuf 37 9)), 0, [], rfl, rfl, Nat.zero_le _, rfl, rfl, rfl⟩, ?_⟩
  rintro q i cap iI R1 Φ1 m _ ⟨_, gs, rfl, rfl, hi, rfl, rfl, rfl⟩
  refine Br.intro (fun hlt => ?_) (fun hge => fun w G cx => ?_)
  · have hlt : i < 2 := by have := of_decide_eq_true hlt; omega
    have hio : i < (othersOf r.id).length := by omega
    obtain ⟨n, hn⟩ : ∃ n, (othersOf r.id)[i] = n := ⟨_, rfl⟩
    have hn3 : n < 3 := hn ▸ (others_lt _ (List.getElem_mem hio)).1
    have hfn := hf n hn3
    have hst : Stable (fun M w => Φ M w ∧ Elems M w gs ((allOf r).take i)) := inferInstance
    refine ⟨by omega, ptrK_intro k 0 rfl fun w G cx => ⟨n, ?_, fun w G cx => ?_⟩⟩
    · rw [Int.toNat_natCast, Nat.zero_add]
      refine cx.get 3 rfl ?_
      rw [List.getElem?_append_left (by rw [List.length_map]; omega), List.getElem?_map, List.getElem?_eq_getElem hio, hn]
      rfl
    refine entries_use (Φ := fun M w => Φ M w ∧ Elems M w gs ((allOf r).take i)) (gl cx) hr.recs n rfl hfn fun q2 cap2 w h1 h2 cx => ?_
    have hst2 : Stable (fun M w => (Φ M w ∧ Elems M w gs ((allOf r).take i)) ∧ Sl M w q2 (entriesOf r n).recs) := inferInstance
    refine ⟨_, _, _, _, _, _, _, _, q2, _, cap2, rfl, repO b r p c ++ (.buf q i cap gs 37 9 :: .blk k ((othersOf r.id).map (fun x : Nat => intv (x : Int)) ++ rest) 3 :: S), fun M w => (Φ M w ∧ Elems M w gs ((allOf r).take i)) ∧ Sl M w q2 (entriesOf r n).recs, hst2, gr cx, fun k2 w G cx => ?_⟩
    have cx1 : Ctx W w (.blk k2 ((entriesOf r n).cells q2 cap2) 37 :: .buf q i cap gs 37 9 :: (repO b r p c ++ (.blk k ((othersOf r.id).map (fun x : Nat => intv (x : Int)) ++ rest) 3 :: (S ++ G)))) (fun M w => (Φ M w ∧ Elems M w gs ((allOf r).take i)) ∧ Sl M w q2 (entriesOf r n).recs) := by
      exact cx.perm (List.Perm.cons _ ((List.Perm.of_eq (List.append_assoc _ _ _)).trans List.perm_middle))
    obtain ⟨p', cap', w', hrun, _, cx'⟩ := Ctx.app1 (P := Try.prog) (ts := 27) (ty := 27) (kb := #[false, false]) (size := 9) (bytes := 88) cx1 (by kernel_rfl) (by omega) rfl rfl (by omega) (by omega)
    have hst3 : Stable (fun M w => Φ M w ∧ Elems M w (gs ++ (entriesOf r n).cells q2 cap2) ((allOf r).take (i + 1))) := inferInstance
    refine ⟨p', i + 1, cap', w', hrun, repO b r p c ++ (.buf p' (i + 1) cap' (gs ++ (entriesOf r n).cells q2 cap2) 37 9 :: .blk k ((othersOf r.id).map (fun x : Nat => intv (x : Int)) ++ rest) 3 :: S), fun M w => Φ M w ∧ Elems M w (gs ++ (entriesOf r n).cells q2 cap2) ((allOf r).take (i + 1)), hst3, gr (mid ((cx'.weak fun M w h => ⟨h.1.1, ?_⟩))), by unfold I64; omega, _, _, 2 - (i + 1), hst3, fun w G cx => cx, ⟨i + 1, _, by omega, rfl, by omega, rfl, rfl, rfl⟩, by omega⟩
    have : (allOf r).take (i + 1) = (allOf r).take i ++ [entriesOf r n] := by
      rw [List.take_succ_eq_append_getElem (by omega)]
      unfold allOf
      rw [List.getElem_map, hn]
    rw [this]
    exact h.1.2.snoc (rep_msg (entries_ok hr hfn) h1 h2 h.2)
  · have hge : i = 2 := by have := of_decide_eq_false hge; omega
    subst hge
    have htk : (allOf r).take 2 = allOf r := by rw [← hal, List.take_length]
    have cx1 := front (gl cx)
    have h := cx1.phi.2
    rw [htk] at h
    have cx2 : Ctx W w (.buf q 2 cap gs 37 9 :: (repO b r p c ++ (.blk k ((othersOf r.id).map (fun x : Nat => intv (x : Int)) ++ rest) 3 :: S ++ G))) Φ := cx1.fst
    obtain ⟨cx3, hs, _, hcap, hmax⟩ := Ctx.freeze (α := MsgR) cx2 h
    have cx4 := (front (cx3.add (Ψ := fun M w => Sl M w q (allOf r)) hs)).drop1
    have := hK q cap w (by rw [hal]; exact hcap) hmax (Ctx.left (F := G) (Φ := fun M w => Φ M w ∧ Sl M w q (allOf r)) (gr cx4))
    rw [hal] at this
    exact this

end Go.Proofs.Ytifgijoeckoojaa
end

/-
  Replica: Tick, vote, sound, right.
-/
section
set_option linter.unusedVariables false
set_option linter.unusedSimpArgs false
namespace Go.Proofs.Ytifgijoeckoojaa
open Go.Vc

theorem I64_small {x : Int} (h : -1 ≤ x) (h' : x ≤ 1099511627777) : I64 x := by unfold I64; omega

/-- a message without entries is right as data -/
theorem msg_ok0 {r : Rep} (h : r.Ok) {kind to index prev : Int} {yes : Bool} (h1 : 0 ≤ kind ∧ kind ≤ 3) (h2 : -1 ≤ to ∧ to ≤ 2) (h3 : -1 ≤ index ∧ index ≤ 8000) (h4 : 0 ≤ prev ∧ prev ≤ 1099511627776) : (⟨kind, r.id, to, r.term, index, prev, 0, yes, []⟩ : MsgR).Ok := by
  have h5 := h.id
  have h6 := h.term0
  have h7 := h.termM
  exact ⟨I64_small (by simp only; omega) (by simp only; omega), I64_small (by simp only; omega) (by simp only; omega), I64_small (by simp only; omega) (by simp only; omega), I64_small (by simp only; omega) (by simp only; omega), I64_small (by simp only; omega) (by simp only; omega), I64_small (by simp only; omega) (by simp only; omega), I64_small (by simp only; omega) (by simp only; omega)⟩

/-- answer, out of a block that holds the message -/
theorem reply {W w : World} {S G : List Own} {Φ : PW} [Stable Φ] {b k : Nat} {r : Rep} {p : Option Addr} {c : Nat} {m : MsgR} (cx : Ctx W w (repO b r p c ++ .blk k (m.cells none 0) 37 :: S ++ G) Φ) (hm : m.Ok) (hr : m.recs = []) {K : Value → World → Prop} (hK : OutK W S Φ b r (outS [m]) K)
    {K2 : Ending → World → Prop} (hk2 : ∀ q w', Ctx W w' (repO b r p c ++ .blk k (m.cells none 0) 37 :: S ++ G) (fun M w => Φ M w ∧ Sl M w q [m]) → (∀ w G', Ctx W w (repO b r p c ++ .blk k (m.cells none 0) 37 :: S ++ G') (fun M w => Φ M w ∧ Sl M w q [m]) → K (outV (outS [m]) none 0 q 1) w) → K2 (.returned (outV (outS [m]) none 0 q 1)) w') :
    Calls Try.prog F.replica_answer #[m.v none 0] w K2 := by
  refine answer_use cx m none 0 hm (by rw [hr]; exact Nat.le_refl _) (by simp [maxLen]) (fun M w h => by rw [hr]; exact Sl.nil) fun q w cx => hk2 q w cx fun w G' cx => ?_
  have hst : Stable (fun M w => Φ M w ∧ Sl M w q [m]) := inferInstance
  exact hK.sent (by simp) (by simp [maxLen]) (Ctx.left (F := G') (lift cx).drop1)

set_option maxHeartbeats 1000000 in
theorem vote_use {W w : World} {S : List Own} {Φ : PW} [Stable Φ] {b : Nat} {r : Rep} {p : Option Addr} {c : Nat} (cx : Ctx W w (repO b r p c ++ S) Φ) (hr : r.Ok) (m : MsgR) (q : Option Addr) (qc : Nat) (h1 : 0 ≤ m.src) (h2 : m.src ≤ 2) {K : Ending → World → Prop}
    (hK : OutK W S Φ b (voteP r m).1 (voteP r m).2 fun v w => K (.returned v) w) : Calls Try.prog F.replica_Replica_vote #[.pointer (some ⟨b, 0, none⟩), m.v q qc] w K := by
  have hlen := hr.len
  refine (Breplica_Replica_vote_run b 0 m.kind m.src m.to m.term m.index m.prev m.commit m.yes q m.recs.length qc (J := fun u w' => K (.returned u) w') cx ?_).mono fun e w' ⟨v, he, hj⟩ => by rw [he]; exact hj
  refine fun _ _ w G cx => message_use (gl cx) 1 m.src fun w cx => ⟨_, _, _, _, _, _, _, _, none, _, 0, rfl, repO b r p c ++ S, Φ, inferInstance, gr cx, fun k w G cx => ⟨cx.can 0 rfl (by simp), fun w' hw' => ?_⟩⟩
  have cx1 : Ctx W w' (repO b r p c ++ .blk k ((msgOf r 1 m.src).cells none 0) 37 :: S ++ G) Φ := sink (cx.puts 0 hw' rfl)
  refine ⟨_, Φ, inferInstance, cx1, fun w G cx => ⟨p, r.log.length, c, cx.get 0 rfl rfl, fun w G cx => term_use (gl cx) rfl (Nat.le_refl _) hlen fun w cx => ⟨_, rfl, _, Φ, inferInstance, gr cx, fun w G cx => ⟨p, r.log.length, c, fun _ => cx.get 0 rfl rfl, fun w G cx => ⟨r.term, cx.get 0 rfl rfl, r.vote, fun _ => cx.get 0 rfl rfl, r.vote, fun _ => cx.get 0 rfl rfl, Br.intro (fun h => ?_) (fun h => ?_)⟩⟩⟩⟩⟩
  · have hv : voteP r m = ({ r with vote := m.src }, outS [⟨1, r.id, m.src, r.term, 0, 0, 0, true, []⟩]) := by unfold voteP freshP; rw [if_pos h]
    rw [hv] at hK
    refine ⟨[], fun _ _ => True, inferInstance, fun w G cx => (cx.weak fun _ _ _ => trivial).right, fun w G cx => ⟨cx.can 2 rfl (by simp), fun w' hw' => ?_⟩⟩
    have cx1 : Ctx W w' (repO b r p c ++ .blk k ((⟨1, r.id, m.src, r.term, 0, 0, 0, true, []⟩ : MsgR).cells none 0) 37 :: S ++ G) Φ := cx.put 2 hw' rfl
    refine ⟨_, Φ, inferInstance, cx1, fun w G cx => (cx.weak fun _ _ _ => trivial).right, fun w G cx => ⟨cx.can 0 rfl (by simp), fun w' hw' => ?_⟩⟩
    have cx1 : Ctx W w' (repO b { r with vote := m.src } p c ++ .blk k ((⟨1, r.id, m.src, r.term, 0, 0, 0, true, []⟩ : MsgR).cells none 0) 37 :: S ++ G) Φ := gr (put_rep (gl cx) hw' { r with vote := m.src } rfl rfl)
    refine ⟨_, Φ, inferInstance, cx1, fun w G cx => ⟨_, _, _, _, _, _, _, _, none, _, 0, cx.row0 2 rfl, fun w G cx => ?_⟩⟩
    refine reply cx (msg_ok0 hr (by omega) (by omega) (by omega) (by omega)) rfl hK fun q w cx hfin => ⟨_, _, _, _, none, _, 0, q, _, 1, rfl, _, _, inferInstance, cx, fun w G cx => hfin w G cx⟩
  · have hv : voteP r m = (r, outS [msgOf r 1 m.src]) := by unfold voteP freshP; rw [if_neg (by rw [h]; simp)]
    rw [hv] at hK
    refine fun w G cx => ⟨_, _, _, _, _, _, _, _, none, _, 0, cx.row0 2 rfl, fun w G cx => ?_⟩
    refine reply cx (msg_ok0 hr (by omega) (by omega) (by omega) (by omega)) rfl hK fun q w cx hfin => ⟨_, _, _, _, none, _, 0, q, _, 1, rfl, _, _, inferInstance, cx, fun w G cx => hfin w G cx⟩

/-! ### Tick -/
def askR (r : Rep) : Rep := { r with term := r.term + 1, vote := r.id, role := 1, votes := fun i => decide (i = r.id) }

theorem tick_lead {r : Rep} (h : r.role = 2) : tickP r = (r, outS (allOf r)) := by unfold tickP; rw [if_pos h]
theorem tick_max {r : Rep} (h : ¬ r.role = 2) (h2 : r.term = 1099511627776) : tickP r = (r, out0) := by unfold tickP; rw [if_neg h, if_pos h2]
theorem tick_ask {r : Rep} (h : ¬ r.role = 2) (h2 : ¬ r.term = 1099511627776) : tickP r = (askR r, ⟨true, r.term + 1, r.id, 0, [], (othersOf r.id).map fun i => askOf (askR r) i⟩) := by unfold tickP; rw [if_neg h, if_neg h2]; rfl

theorem ask_ok {r : Rep} (h : r.Ok) (hr : ¬ r.role = 2) (h2 : ¬ r.term = 1099511627776) : (askR r).Ok := by
  have h3 := h.term0
  have h4 := h.termM
  have h5 := h.id
  refine ⟨h.id, by show 0 ≤ r.term + 1; omega, by show r.term + 1 ≤ _; omega, by show -1 ≤ (r.id : Int); omega, by show (r.id : Int) ≤ 2; omega, ⟨h.log.lo, fun x hx => ?_, h.log.data, h.log.asc⟩, h.len, .inr (.inl rfl), h.commit, fun h => ?_, h.bound⟩
  · have := h.log.hi x hx
    show x.term ≤ r.term + 1
    omega
  · cases (show (1 : Int) = 2 from h)

theorem askOf_ok {r : Rep} (h : r.Ok) (to : Nat) (ht : to < 3) : (askOf r to).Ok := by
  have h1 := h.termAt r.log.length
  have h2 := h.len
  have h4 := h.termM
  exact msg_ok0 h (by omega) (by omega) (by omega) (by omega)

set_option maxHeartbeats 2000000 in
theorem Tick_use {W w : World} {S : List Own} {Φ : PW} [Stable Φ] {b : Nat} {r : Rep} {p : Option Addr} {c : Nat} (cx : Ctx W w (repO b r p c ++ S) Φ) (hr : r.Ok) {K : Ending → World → Prop}
    (hK : OutK W S Φ b (tickP r).1 (tickP r).2 fun v w => K (.returned v) w) : Calls Try.prog F.replica_Replica_Tick #[.pointer (some ⟨b, 0, none⟩)] w K := by
  have hlen := hr.len
  have hid := hr.id
  have ht0 := hr.term0
  have htM := hr.termM
  refine (Breplica_Replica_Tick_run b 0 (J := fun u w' => K (.returned u) w') cx ?_).mono fun e w' ⟨v, he, hj⟩ => by rw [he]; exact hj
  refine fun _ w G cx => ⟨r.role, cx.get 0 rfl rfl, Br.intro (fun h => fun w G cx => ?_) (fun h => fun w G cx => ⟨r.term, cx.get 0 rfl rfl, Br.intro (fun h2 => fun w G cx => ?_) (fun h2 => ?_)⟩)⟩
  · have h := of_decide_eq_true h
    rw [tick_lead h] at hK
    refine all_use (gl cx) hr (fun i hi => hr.fit h hi) fun q cap w h1 h2 cx => ⟨q, _, cap, rfl, repO b r p c ++ S, fun M w => Φ M w ∧ Sl M w q (allOf r), inferInstance, gr cx, fun w G cx => hK.sent h1 h2 (Ctx.left (F := G) (Φ := fun M w => Φ M w ∧ Sl M w q (allOf r)) cx)⟩
  · rw [tick_max (of_decide_eq_false h) (of_decide_eq_true h2)] at hK
    exact hK.zero cx.left
  have h := of_decide_eq_false h
  have h2 := of_decide_eq_false h2
  rw [tick_ask h h2] at hK
  have hao := ask_ok hr h h2
  refine fun w G cx => ⟨r.id, cx.get 0 rfl rfl, fun w G cx => ⟨r.term, cx.get 0 rfl rfl, by unfold I64; omega, fun w G cx => ⟨cx.can 0 rfl (by simp), fun w' hw' => ?_⟩⟩⟩
  have cx1 := gr (puts_rep (gl cx) hw' { r with term := r.term + 1, vote := r.id } rfl rfl)
  refine ⟨_, Φ, inferInstance, cx1, fun w G cx => ⟨cx.can 0 rfl (by simp), fun w' hw' => ?_⟩⟩
  have cx1 := gr (put_rep (gl cx) hw' { r with term := r.term + 1, vote := r.id, role := 1 } rfl rfl)
  refine ⟨_, Φ, inferInstance, cx1, fun w G cx => ⟨cx.can 0 rfl (by simp), fun w' hw' => ?_⟩⟩
  have cx1 := gr (puts_rep (gl cx) hw' { r with term := r.term + 1, vote := r.id, role := 1, votes := fun _ => false } rfl rfl)
  refine ⟨_, Φ, inferInstance, cx1, [], fun _ _ => True, inferInstance, fun w G cx => (cx.weak fun _ _ _ => trivial).right, fun w G cx => ⟨r.id, cx.get 0 rfl rfl, by omega, fun w G cx => ⟨cx.can 0 rfl (by rw [Int.toNat_natCast]; simp; omega), fun w' hw' => ?_⟩⟩⟩
  have hvo : ({ r with term := r.term + 1, vote := r.id, role := 1, votes := put (fun _ => false) r.id true } : Rep) = askR r := by
    unfold askR
    congr 1
  rw [Int.toNat_natCast, Nat.zero_add] at hw'
  have cx1 := gr (put_rep (gl cx) hw' { r with term := r.term + 1, vote := r.id, role := 1, votes := put (fun _ => false) r.id true } (set_vote (r := { r with term := r.term + 1, vote := r.id, role := 1, votes := fun _ => false }) true (by omega)) rfl)
  rw [hvo] at cx1
  have hal : (othersOf r.id).length = 2 := others_len _
  obtain ⟨sl, hsl⟩ : ∃ l, (othersOf r.id).map (fun i => askOf (askR r) i) = l := ⟨_, rfl⟩
  have hsll : sl.length = 2 := by rw [← hsl, List.length_map, hal]
  rw [hsl] at hK
  refine ⟨_, Φ, inferInstance, cx1, fun w G cx => (cx.weak fun _ _ _ => trivial).right, fun w G cx => ⟨_, _, cx.row 0 rfl (rows_of (vs := [.int .i64 (r.term + 1), .int .i64 r.id]) rfl), fun _ w G cx => others_use (r := askR r) hid (gl cx) fun k rest w cx => ⟨some ⟨k, 0, none⟩, 2, 3, rfl, repO b (askR r) p c ++ .blk k ((othersOf r.id).map (fun x : Nat => intv (x : Int)) ++ rest) 3 :: S, Φ, inferInstance, gr (Q := repO b (askR r) p c) (T := .blk k ((othersOf r.id).map (fun x : Nat => intv (x : Int)) ++ rest) 3 :: S) (mid cx), ?_⟩⟩⟩
  refine exI_mk (fun iI sv tm vt fr rp rn rc q n cap R' Φ' m => ∃ (i : Nat) (gs : List Value), iI = i ∧ n = i ∧ i ≤ 2 ∧ sv = true ∧ tm = r.term + 1 ∧ vt = r.id ∧ fr = 0 ∧ rn = 0 ∧ rp = none ∧ rc = 0 ∧ R' = repO b (askR r) p c ++ (.buf q i cap gs 37 9 :: .blk k ((othersOf r.id).map (fun x : Nat => intv (x : Int)) ++ rest) 3 :: S) ∧ Φ' = (fun M w => Φ M w ∧ Elems M w gs (sl.take i)) ∧ m = 2 - i)
    ⟨⟨_, fun M w => Φ M w ∧ Elems M w [] (sl.take 0), _, inferInstance, fun w G cx => gr (Q := repO b (askR r) p c) (T := .buf none 0 0 [] 37 9 :: .blk k ((othersOf r.id).map (fun x : Nat => intv (x : Int)) ++ rest) 3 :: S) (mid ((gl (Q := repO b (askR r) p c) (cx.weak (Ψ := fun M w => Φ M w ∧ Elems M w [] (sl.take 0)) fun M w h => ⟨h, by rw [List.take_zero]; exact Elems.nil⟩)).nobuf 37 9)), 0, [], rfl, rfl, Nat.zero_le _, rfl, rfl, rfl, rfl, rfl, rfl, rfl, rfl, rfl, rfl⟩, ?_⟩
  rintro iI _ _ _ _ _ _ _ q i cap R1 Φ1 m _ ⟨_, gs, rfl, rfl, hi, rfl, rfl, rfl, rfl, rfl, rfl, rfl, rfl, rfl, rfl⟩
  refine Br.intro (fun hlt => ?_) (fun hge => fun w G cx => ?_)
  · have hlt : i < 2 := by have := of_decide_eq_true hlt; omega
    have hio : i < (othersOf r.id).length := by omega
    obtain ⟨n, hn⟩ : ∃ n, (othersOf r.id)[i] = n := ⟨_, rfl⟩
    have hn3 : n < 3 := hn ▸ (others_lt _ (List.getElem_mem hio)).1
    have hst : Stable (fun M w => Φ M w ∧ Elems M w gs (sl.take i)) := inferInstance
    refine ⟨by omega, ptrK_intro k 0 rfl fun w G cx => ⟨n, ?_, fun w G cx => ?_⟩⟩
    · rw [Int.toNat_natCast, Nat.zero_add]
      refine cx.get 3 rfl ?_
      rw [List.getElem?_append_left (by rw [List.length_map]; omega), List.getElem?_map, List.getElem?_eq_getElem hio, hn]
      rfl
    refine message_use (Φ := fun M w => Φ M w ∧ Elems M w gs (sl.take i)) (gl cx) 0 n fun w cx => ⟨_, _, _, _, _, _, _, _, none, _, 0, rfl, _, _, hst, gr cx, fun k2 w G cx => ⟨cx.can 0 rfl (by simp), fun w' hw' => ?_⟩⟩
    have cx1 : Ctx W w' (repO b (askR r) p c ++ .blk k2 ((msgOf (askR r) 0 n).cells none 0) 37 :: (.buf q i cap gs 37 9 :: .blk k ((othersOf r.id).map (fun x : Nat => intv (x : Int)) ++ rest) 3 :: S) ++ G) (fun M w => Φ M w ∧ Elems M w gs (sl.take i)) := sink (cx.puts 0 hw' rfl)
    refine ⟨_, _, hst, cx1, repO b (askR r) p c, fun _ _ => True, inferInstance, fun w G cx => keepQ cx, p, r.log.length, c, fun w G cx => ⟨p, r.log.length, c, cx.get 0 rfl rfl, rfl⟩, p, r.log.length, c, fun w G cx => ⟨p, r.log.length, c, cx.get 0 rfl rfl, rfl⟩, fun w G cx => term_use (gl cx) rfl (Nat.le_refl _) hlen fun w cx => ⟨_, rfl, repO b (askR r) p c ++ .blk k2 ((msgOf (askR r) 0 n).cells none 0) 37 :: (.buf q i cap gs 37 9 :: .blk k ((othersOf r.id).map (fun x : Nat => intv (x : Int)) ++ rest) 3 :: S), fun M w => Φ M w ∧ Elems M w gs (sl.take i), hst, gr cx, fun w G cx => keepQ cx, fun w G cx => ⟨cx.can 2 rfl (by simp), fun w' hw' => ?_⟩⟩⟩
    have cx1 : Ctx W w' (repO b (askR r) p c ++ .blk k2 ((⟨0, r.id, n, r.term + 1, r.log.length, 0, 0, false, []⟩ : MsgR).cells none 0) 37 :: (.buf q i cap gs 37 9 :: .blk k ((othersOf r.id).map (fun x : Nat => intv (x : Int)) ++ rest) 3 :: S) ++ G) (fun M w => Φ M w ∧ Elems M w gs (sl.take i)) := cx.put 2 hw' rfl
    refine ⟨_, _, hst, cx1, fun w G cx => keepQ cx, fun w G cx => ⟨cx.can 2 rfl (by simp), fun w' hw' => ?_⟩⟩
    have cx1 : Ctx W w' (repO b (askR r) p c ++ .blk k2 ((askOf (askR r) n).cells none 0) 37 :: (.buf q i cap gs 37 9 :: .blk k ((othersOf r.id).map (fun x : Nat => intv (x : Int)) ++ rest) 3 :: S) ++ G) (fun M w => Φ M w ∧ Elems M w gs (sl.take i)) := cx.put 2 hw' rfl
    refine ⟨_, _, hst, cx1, fun w G cx => ⟨_, _, _, _, _, _, _, _, none, _, 0, cx.row0 2 rfl, fun k3 w G cx => ?_⟩⟩
    have cx1 : Ctx W w (.blk k3 ((askOf (askR r) n).cells none 0) 37 :: .buf q i cap gs 37 9 :: (repO b (askR r) p c ++ (.blk k2 ((askOf (askR r) n).cells none 0) 37 :: (.blk k ((othersOf r.id).map (fun x : Nat => intv (x : Int)) ++ rest) 3 :: S)) ++ G)) (fun M w => Φ M w ∧ Elems M w gs (sl.take i)) := by
      refine cx.perm (List.Perm.cons _ ?_)
      exact (List.Perm.append_right G (List.Perm.append_left _ (List.Perm.swap _ _ _))).trans (List.Perm.append_right G List.perm_middle)
    obtain ⟨p', cap', w', hrun, _, cx'⟩ := Ctx.app1 (P := Try.prog) (ts := 27) (ty := 27) (kb := #[false, false]) (size := 9) (bytes := 88) cx1 (by kernel_rfl) (by omega) rfl rfl (by omega) (by omega)
    have hst3 : Stable (fun M w => Φ M w ∧ Elems M w (gs ++ (askOf (askR r) n).cells none 0) (sl.take (i + 1))) := inferInstance
    have htk : sl.take (i + 1) = sl.take i ++ [askOf (askR r) n] := by
      rw [List.take_succ_eq_append_getElem (by omega)]
      congr 2
      simp only [← hsl, List.getElem_map, hn]
    have cx2 := (front (gl (Q := .buf p' (i + 1) cap' (gs ++ (askOf (askR r) n).cells none 0) 37 9 :: repO b (askR r) p c) (T := .blk k2 ((askOf (askR r) n).cells none 0) 37 :: (.blk k ((othersOf r.id).map (fun x : Nat => intv (x : Int)) ++ rest) 3 :: S)) cx')).drop1
    refine ⟨p', i + 1, cap', w', hrun, repO b (askR r) p c ++ (.buf p' (i + 1) cap' (gs ++ (askOf (askR r) n).cells none 0) 37 9 :: .blk k ((othersOf r.id).map (fun x : Nat => intv (x : Int)) ++ rest) 3 :: S), fun M w => Φ M w ∧ Elems M w (gs ++ (askOf (askR r) n).cells none 0) (sl.take (i + 1)), hst3, gr (mid (cx2.weak fun M w h => ⟨h.1, ?_⟩)), by unfold I64; omega, _, _, 2 - (i + 1), hst3, fun w G cx => cx, ⟨i + 1, _, by omega, rfl, by omega, rfl, rfl, rfl, rfl, rfl, rfl, rfl, rfl, rfl, rfl⟩, by omega⟩
    rw [htk]
    exact h.2.snoc (rep_msg (askOf_ok hao n hn3) (Nat.le_refl _) (by simp [maxLen]) Sl.nil)
  · have hge : i = 2 := by have := of_decide_eq_false hge; omega
    subst hge
    have htk : sl.take 2 = sl := by rw [← hsll, List.take_length]
    have cx1 := front (gl cx)
    have h := cx1.phi.2
    rw [htk] at h
    have cx2 : Ctx W w (.buf q 2 cap gs 37 9 :: (repO b (askR r) p c ++ (.blk k ((othersOf r.id).map (fun x : Nat => intv (x : Int)) ++ rest) 3 :: S ++ G))) Φ := cx1.fst
    obtain ⟨cx3, hs, _, hcap, hmax⟩ := Ctx.freeze (α := MsgR) cx2 h
    have cx4 := (front (cx3.add (Ψ := fun M w => Sl M w q sl) hs)).drop1
    have := hK p c none 0 q cap w (Nat.le_refl _) (by simp [maxLen]) (by show sl.length ≤ cap; omega) hmax ((Ctx.left (F := G) (Φ := fun M w => Φ M w ∧ Sl M w q sl) (gr cx4)).weak fun M w h => ⟨h.1, Sl.nil, h.2⟩)
    unfold outV at this
    simp only at this
    rw [hsll] at this
    exact this

end Go.Proofs.Ytifgijoeckoojaa
end

/-
  Replica: sound, right, New, voted, advance, appended.
-/
section
set_option linter.unusedVariables false
set_option linter.unusedSimpArgs false
namespace Go.Proofs.Ytifgijoeckoojaa
open Go.Vc

/-! ### sound -/
theorem soundR_drop (l : List RecD) (i : Nat) (hi : i < l.length) (least most : Int) : soundR (l.drop i) least most = if (decide (l[i].term < least) || decide (most < l[i].term) || decide (2000 < (l[i].data.size : Int))) = true then false else soundR (l.drop (i + 1)) l[i].term most := by
  rw [List.drop_eq_getElem_cons hi]; rfl

theorem sound_in {Φ : PW} [Stable Φ] (p : Option Addr) (cap : Nat) (l : List RecD) (least most : Int) (hΦ : ∀ M w, Φ M w → Sl M w p l) (hlen : l.length ≤ 9223372036854775807) :
    GivesIn Φ Try.prog F.replica_sound #[.slice p l.length cap, .int .i64 least, .int .i64 most] (.bool (soundR l least most)) := by
  refine .there (fun M w h => (hΦ M w h).there) fun hth => ?_
  refine gives_in (Breplica_sound_run p l.length cap least most) fun W R => ?_
  refine exI_mk (fun le n R' Φ' k => ∃ i : Nat, n = i ∧ i ≤ l.length ∧ R' = R ∧ Φ' = Φ ∧ k = l.length - i ∧ soundR l least most = soundR (l.drop i) le most) ⟨⟨R, Φ, _, inferInstance, fun w F c => c, 0, rfl, Nat.zero_le _, rfl, rfl, rfl, rfl⟩, ?_⟩
  rintro le n R1 Φ1 k _ ⟨i, rfl, hi, rfl, rfl, rfl, hs⟩
  refine Br.intro (fun hlt => ?_) (fun hge => fun w F cx => ⟨?_, cx.left⟩)
  · have hlt : i < l.length := by simpa using hlt
    obtain ⟨b, o, rfl⟩ := hth (by omega)
    rw [soundR_drop l i hlt] at hs
    refine ⟨by omega, ptrK_intro b o rfl fun w F cx => ⟨l[i].term, l[i].data, by rw [Int.toNat_natCast]; exact sl_rec (hΦ _ _ cx.phi) hlt, fun _ w F cx => Br.intro (fun h => fun w F cx => ⟨?_, cx.left⟩) (fun h => ⟨by unfold I64; omega, R1, Φ1, l.length - (i + 1), inferInstance, fun w F c => c, ⟨i + 1, rfl, hlt, rfl, rfl, rfl, ?_⟩, by omega⟩)⟩⟩
    · rw [hs, if_pos h]
    · rw [hs, if_neg (by rw [h]; simp)]
  · have hge : i = l.length := Nat.le_antisymm hi (by simpa using hge)
    rw [hs, hge, List.drop_length]
    rfl

/-! ### right -/
theorem right_use {W w : World} {S : List Own} {Φ : PW} [Stable Φ] {b : Nat} {r : Rep} {p : Option Addr} {c : Nat} (cx : Ctx W w (repO b r p c ++ S) Φ) (m : MsgR) (q : Option Addr) (qc : Nat) (hsl : ∀ M w, Φ M w → Sl M w q m.recs) (hlen : m.recs.length ≤ 9223372036854775807) (hix : I64 m.index) {K : Ending → World → Prop}
    (hK : ∀ w', Ctx W w' (repO b r p c ++ S) Φ → K (.returned (.bool (rightP r.id m))) w') : Calls Try.prog F.replica_Replica_right #[.pointer (some ⟨b, 0, none⟩), m.v q qc] w K := by
  refine (Breplica_Replica_right_run b 0 m.kind m.src m.to m.term m.index m.prev m.commit m.yes q m.recs.length qc (J := fun u w' => K (.returned u) w') cx ?_).mono fun e w' ⟨v, he, hj⟩ => by rw [he]; exact hj
  have hfalse : ∀ {w : World} {G : List Own}, rightP r.id m = false → Ctx W w (repO b r p c ++ S ++ G) Φ → K (.returned (.bool false)) w := fun {w G} h cx => by
    have := hK w cx.left
    rw [h] at this
    exact this
  refine fun _ w G cx => ⟨_, fun w' hw => (between_q m.kind 0 3).atN hw, r.id, fun _ => cx.get 0 rfl rfl, r.id, fun _ => cx.get 0 rfl rfl, _, fun _ w' hw => (between_q m.src 0 2).atN hw, Br.intro (fun h => fun w G cx => ?_) (fun h1 => fun w G cx => ?_)⟩
  · refine hfalse ?_ cx
    rw [Bool.eq_false_iff]
    intro hr
    unfold rightP at hr
    simp only [Bool.and_eq_true, Bool.or_eq_true, decide_eq_true_eq, Bool.not_eq_true', Bool.and_eq_false_iff, decide_eq_false_iff_not] at hr h
    omega
  refine ⟨_, fun w' hw => (between_q m.term 1 1099511627776).at hw, _, fun _ w' hw => (between_q m.index 0 4000).at hw, _, fun _ w' hw => (between_q m.prev 0 m.term).at hw, Br.intro (fun h => fun w G cx => ?_) (fun h2 => fun w G cx => ?_)⟩
  · refine hfalse ?_ cx
    rw [Bool.eq_false_iff]
    intro hr
    unfold rightP at hr
    simp only [Bool.and_eq_true, Bool.or_eq_true, decide_eq_true_eq, Bool.not_eq_true', Bool.and_eq_false_iff, decide_eq_false_iff_not] at hr h
    omega
  refine ((between_q m.commit 0 4000).gives).use (gl cx) fun w cx => ⟨_, rfl, repO b r p c ++ S, Φ, inferInstance, gr cx, Br.intro (fun h3 => Br.intro (fun h4 => ?_) (fun h => fun w G cx => ?_)) (fun h => fun w G cx => ?_)⟩
  · simp only [Bool.and_eq_true, Bool.or_eq_true, decide_eq_true_eq, Bool.or_eq_false_iff, Bool.not_eq_false', Bool.and_eq_false_iff, decide_eq_false_iff_not] at h1 h2 h3 h4
    refine ⟨by unfold I64; omega, Br.intro (fun h5 => fun w G cx => ?_) (fun h => fun w G cx => ?_)⟩
    · have h5 := of_decide_eq_true h5
      refine (sound_in q qc m.recs (max 1 m.prev) m.term hsl hlen).use (gl cx) fun w cx => ⟨_, rfl, repO b r p c ++ S, Φ, inferInstance, gr cx, fun w G cx => ?_⟩
      have := hK w cx.left
      have hr : rightP r.id m = soundR m.recs (max 1 m.prev) m.term := by
        unfold rightP
        have hz : (!(decide (m.index = 0) && decide (m.prev ≠ 0))) = true := by
          simp only [Bool.not_eq_true', Bool.and_eq_false_iff, decide_eq_false_iff_not]
          omega
        rw [hz, decide_eq_true (show 0 ≤ m.kind by omega), decide_eq_true (show m.kind ≤ 3 by omega), decide_eq_true (show m.to = r.id by omega), decide_eq_true (show m.src ≠ r.id by omega), decide_eq_true (show 0 ≤ m.src by omega), decide_eq_true (show m.src ≤ 2 by omega),
          decide_eq_true (show 1 ≤ m.term by omega), decide_eq_true (show m.term ≤ 1099511627776 by omega), decide_eq_true (show 0 ≤ m.index by omega), decide_eq_true (show m.index ≤ 4000 by omega), decide_eq_true (show 0 ≤ m.prev by omega), decide_eq_true (show m.prev ≤ m.term by omega),
          decide_eq_true (show 0 ≤ m.commit by omega), decide_eq_true (show m.commit ≤ 4000 by omega), decide_eq_true h4, decide_eq_true h5]
        rfl
      rw [hr] at this
      exact this
    · refine hfalse ?_ cx
      rw [Bool.eq_false_iff]
      intro hr
      unfold rightP at hr
      simp only [Bool.and_eq_true, decide_eq_true_eq, decide_eq_false_iff_not] at hr h
      omega
  · refine hfalse ?_ cx
    rw [Bool.eq_false_iff]
    intro hr
    unfold rightP at hr
    simp only [Bool.and_eq_true, decide_eq_true_eq, decide_eq_false_iff_not] at hr h
    omega
  · refine hfalse ?_ cx
    rw [Bool.eq_false_iff]
    intro hr
    unfold rightP at hr
    simp only [Bool.and_eq_true, decide_eq_true_eq, Bool.and_eq_false_iff, decide_eq_false_iff_not] at hr h
    omega

/-! ### New -/
def newB (id term vote : Int) (l : List RecD) : Bool := decide (0 ≤ id) && decide (id ≤ 2) && decide (0 ≤ term) && decide (term ≤ 1099511627776) && decide (-1 ≤ vote) && decide (vote ≤ 2) && decide ((l.length : Int) ≤ 4000) && soundR l 1 term

theorem New_use {W w : World} {S : List Own} {Φ : PW} [Stable Φ] (cx : Ctx W w S Φ) (id term vote : Int) (l : List RecD) (q : Option Addr) (qc : Nat) (hsl : ∀ M w, Φ M w → Sl M w q l) (hlen : l.length ≤ 9223372036854775807) {K : Ending → World → Prop}
    (h0 : newB id term vote l = false → ∀ w', Ctx W w' S Φ → K (.returned (.pointer none)) w')
    (h1 : newB id term vote l = true → ∀ b p c w', Ctx W w' (repO b (newRep id.toNat term vote l) p c ++ S) Φ → K (.returned (.pointer (some ⟨b, 0, none⟩))) w') : Calls Try.prog F.replica_New #[.int .i64 id, .agg #[.int .i64 term, .int .i64 vote], .slice q l.length qc] w K := by
  refine (Breplica_New_run id term vote q l.length qc (J := fun u w' => K (.returned u) w') cx ?_).mono fun e w' ⟨v, he, hj⟩ => by rw [he]; exact hj
  have hf : ∀ {w : World} {G : List Own}, newB id term vote l = false → Ctx W w (S ++ G) Φ → K (.returned (.pointer none)) w := fun h cx => h0 h _ cx.left
  refine fun _ w G cx => (between_q id 0 2).gives.use cx fun w cx => ⟨_, rfl, S, Φ, inferInstance, cx, Br.intro (fun h => fun w G cx => hf ?_ cx) (fun hb1 => fun w G cx => (between_q term 0 1099511627776).gives.use cx fun w cx => ⟨_, rfl, S, Φ, inferInstance, cx, Br.intro (fun h => fun w G cx => hf ?_ cx) (fun hb2 => fun w G cx => (between_q vote (-1) 2).gives.use cx fun w cx => ⟨_, rfl, S, Φ, inferInstance, cx, Br.intro (fun h => fun w G cx => hf ?_ cx) (fun hb3 => Br.intro (fun h => fun w G cx => hf ?_ cx) (fun hb4 => fun w G cx => (sound_in q qc l 1 term hsl hlen).use cx fun w cx => ⟨_, rfl, S, Φ, inferInstance, cx, Br.intro (fun h => fun w G cx => hf ?_ cx) (fun hb5 => ?_)⟩))⟩)⟩)⟩
  · unfold newB
    rw [Bool.eq_false_iff]; intro hr
    simp only [Bool.and_eq_true, decide_eq_true_eq, Bool.not_eq_true', Bool.and_eq_false_iff, decide_eq_false_iff_not] at hr h
    omega
  · unfold newB
    rw [Bool.eq_false_iff]; intro hr
    simp only [Bool.and_eq_true, decide_eq_true_eq, Bool.not_eq_true', Bool.and_eq_false_iff, decide_eq_false_iff_not] at hr h
    omega
  · unfold newB
    rw [Bool.eq_false_iff]; intro hr
    simp only [Bool.and_eq_true, decide_eq_true_eq, Bool.not_eq_true', Bool.and_eq_false_iff, decide_eq_false_iff_not] at hr h
    omega
  · unfold newB
    rw [Bool.eq_false_iff]; intro hr
    simp only [Bool.and_eq_true, decide_eq_true_eq] at hr h
    omega
  · unfold newB
    rw [show soundR l 1 term = false by simpa using h, Bool.and_false]
  · simp only [Bool.not_eq_false', Bool.and_eq_true, decide_eq_true_eq, decide_eq_false_iff_not] at hb1 hb2 hb3 hb4 hb5
    have hn : newB id term vote l = true := by
      unfold newB
      rw [hb5, Bool.and_true]
      simp only [Bool.and_eq_true, decide_eq_true_eq]
      omega
    refine ⟨[], fun _ _ => True, inferInstance, fun w G cx => (cx.weak fun _ _ _ => trivial).right, fun w G cx => CloneR_use cx hsl (by omega) fun p cap w cx => ⟨p, _, cap, rfl, .buf p l.length cap (recCells l) 55 2 :: S, Φ, inferInstance, cx, fun w G cx => (cx.weak fun _ _ _ => trivial).right, fun k => ⟨fun w G cx => (cx.weak fun _ _ _ => trivial).right, fun w G cx => ?_⟩⟩⟩
    have hid : id = (id.toNat : Nat) := by omega
    refine h1 hn k p cap w ?_
    have := cx.left
    rw [hid] at this
    exact this

/-! ### voted -/
theorem voted_no {r : Rep} {m : MsgR} (h : (decide (r.role ≠ 1) || decide (m.term ≠ r.term) || !m.yes) = true) : votedP r m = (r, out0) := by unfold votedP; rw [if_pos h]
def voteR (r : Rep) (m : MsgR) : Rep := { r with votes := put r.votes m.src.toNat true }
def leadR (r : Rep) (m : MsgR) : Rep := { voteR r m with role := 2, next := fun _ => r.log.length + 1, mat := fun _ => 0 }
theorem voted_few {r : Rep} {m : MsgR} (h : (decide (r.role ≠ 1) || decide (m.term ≠ r.term) || !m.yes) = false) (h2 : countV (voteR r m).votes < 2) : votedP r m = (voteR r m, out0) := by
  unfold votedP; rw [if_neg (by rw [h]; simp)]; show (if countV (voteR r m).votes < 2 then _ else _) = _; rw [if_pos h2]; rfl
theorem voted_lead {r : Rep} {m : MsgR} (h : (decide (r.role ≠ 1) || decide (m.term ≠ r.term) || !m.yes) = false) (h2 : ¬ countV (voteR r m).votes < 2) : votedP r m = (leadR r m, outS (allOf (leadR r m))) := by
  unfold votedP; rw [if_neg (by rw [h]; simp)]; show (if countV (voteR r m).votes < 2 then _ else _) = _; rw [if_neg h2]; rfl

theorem lead_ok {r : Rep} (h : r.Ok) (m : MsgR) : (leadR r m).Ok := by
  have h1 := h.len
  exact ⟨h.id, h.term0, h.termM, h.vote0, h.voteM, h.log, h.len, .inr (.inr rfl), h.commit, fun _ i => ⟨by show 1 ≤ r.log.length + 1; omega, Nat.le_refl _, Nat.zero_le _⟩, fun i => ⟨by show r.log.length + 1 ≤ 4001; omega, by show 0 ≤ 4000; omega⟩⟩

def countTo (v : Nat → Bool) : Nat → Nat
  | 0 => 0
  | k + 1 => countTo v k + b2n (v k)

theorem countTo_succ (v : Nat → Bool) (i : Nat) : countTo v (i + 1) = countTo v i + b2n (v i) := rfl

set_option maxHeartbeats 1000000 in
theorem voted_use {W w : World} {S : List Own} {Φ : PW} [Stable Φ] {b : Nat} {r : Rep} {p : Option Addr} {c : Nat} (cx : Ctx W w (repO b r p c ++ S) Φ) (hr : r.Ok) (m : MsgR) (q : Option Addr) (qc : Nat) (h1 : 0 ≤ m.src) (h2 : m.src ≤ 2) {K : Ending → World → Prop}
    (hK : OutK W S Φ b (votedP r m).1 (votedP r m).2 fun v w => K (.returned v) w) : Calls Try.prog F.replica_Replica_voted #[.pointer (some ⟨b, 0, none⟩), m.v q qc] w K := by
  have hlen := hr.len
  refine (Breplica_Replica_voted_run b 0 m.kind m.src m.to m.term m.index m.prev m.commit m.yes q m.recs.length qc (J := fun u w' => K (.returned u) w') cx ?_).mono fun e w' ⟨v, he, hj⟩ => by rw [he]; exact hj
  refine fun _ _ w G cx => ⟨r.role, cx.get 0 rfl rfl, r.term, fun _ => cx.get 0 rfl rfl, Br.intro (fun h => fun w G cx => ?_) (fun h => ?_)⟩
  · rw [voted_no h] at hK
    exact hK.zero cx.left
  refine ⟨[], fun _ _ => True, inferInstance, fun w G cx => (cx.weak fun _ _ _ => trivial).right, by omega, fun w G cx => ⟨cx.can 0 rfl (by simp; omega), fun w' hw' => ?_⟩⟩
  rw [Nat.zero_add] at hw'
  have cx1 : Ctx W w' (repO b (voteR r m) p c ++ S ++ G) Φ := gr (put_rep (gl cx) hw' (voteR r m) (set_vote (r := r) true (by omega)) rfl)
  refine ⟨_, Φ, inferInstance, cx1, fun w G cx => (cx.weak fun _ _ _ => trivial).right, fun w G cx => ⟨(voteR r m).votes 0, (voteR r m).votes 1, (voteR r m).votes 2, cx.row 0 rfl (rows_of (vs := [.bool ((voteR r m).votes 0), .bool ((voteR r m).votes 1), .bool ((voteR r m).votes 2)]) rfl), ?_⟩⟩
  refine exI_mk (fun n iI R' Φ' k => ∃ i : Nat, iI = i ∧ i ≤ 3 ∧ n = countTo (voteR r m).votes i ∧ R' = repO b (voteR r m) p c ++ S ∧ Φ' = Φ ∧ k = 3 - i) ⟨⟨_, Φ, _, inferInstance, fun w G cx => cx, 0, rfl, Nat.zero_le _, rfl, rfl, rfl, rfl⟩, ?_⟩
  rintro n iI R1 Φ1 k _ ⟨i, rfl, hi, rfl, rfl, rfl, rfl⟩
  have hct : countTo (voteR r m).votes i ≤ 3 := by
    have : ∀ j, countTo (voteR r m).votes j ≤ j := by
      intro j
      induction j with
      | zero => exact Nat.le_refl _
      | succ j ih => unfold countTo; have : b2n ((voteR r m).votes j) ≤ 1 := by unfold b2n; split <;> omega
                     omega
    have := this i; omega
  refine Br.intro (fun hlt => ?_) (fun hge => ?_)
  · have hlt : i < 3 := by have := of_decide_eq_true hlt; omega
    refine ⟨(voteR r m).votes i, ⟨by omega, by omega, ?_⟩, Br.intro (fun hv => ⟨by unfold I64; omega, by unfold I64; omega, _, Φ1, 3 - (i + 1), inferInstance, fun w G cx => cx, ⟨i + 1, rfl, by omega, ?_, rfl, rfl, rfl⟩, by omega⟩) (fun hv => ⟨by unfold I64; omega, _, Φ1, 3 - (i + 1), inferInstance, fun w G cx => cx, ⟨i + 1, rfl, by omega, ?_, rfl, rfl, rfl⟩, by omega⟩)⟩
    · match i, hlt with
      | 0, _ => rfl
      | 1, _ => rfl
      | 2, _ => rfl
    · rw [countTo_succ, hv]; simp [b2n]
    · rw [countTo_succ, hv]; simp [b2n]
  · have hge : i = 3 := by have := of_decide_eq_false hge; omega
    subst hge
    have hc3 : countTo (voteR r m).votes 3 = countV (voteR r m).votes := by simp [countTo, countV]
    rw [hc3]
    refine Br.intro (fun h2' => fun w G cx => ?_) (fun h2' => fun w G cx => ⟨cx.can 0 rfl (by simp), fun w' hw' => ?_⟩)
    · have h2' := of_decide_eq_true h2'
      rw [voted_few h (by omega)] at hK
      exact hK.zero cx.left
    have h2' := of_decide_eq_false h2'
    rw [voted_lead h (by omega)] at hK
    have cx1 : Ctx W w' (repO b { voteR r m with role := 2 } p c ++ S ++ G) Φ1 := gr (put_rep (gl cx) hw' { voteR r m with role := 2 } rfl rfl)
    refine ⟨_, Φ1, inferInstance, cx1, ?_⟩
    refine exI_mk (fun iI R' Φ' k => ∃ (i : Nat) (nx mt : Nat → Nat), iI = i ∧ i ≤ 3 ∧ (∀ j, j < i → nx j = r.log.length + 1 ∧ mt j = 0) ∧ R' = repO b { voteR r m with role := 2, next := nx, mat := mt } p c ++ S ∧ Φ' = Φ1 ∧ k = 3 - i) ⟨⟨_, Φ1, _, inferInstance, fun w G cx => cx, 0, r.next, r.mat, rfl, Nat.zero_le _, fun j h => by omega, rfl, rfl, rfl⟩, ?_⟩
    rintro iI R2 Φ2 k _ ⟨i, nx, mt, rfl, hi, hnm, rfl, rfl, rfl⟩
    refine Br.intro (fun hlt => ?_) (fun hge => fun w G cx => ?_)
    · have hlt : i < 3 := by have := of_decide_eq_true hlt; omega
      refine ⟨[], fun _ _ => True, inferInstance, fun w G cx => (cx.weak fun _ _ _ => trivial).right, fun w G cx => ⟨p, r.log.length, c, cx.get 0 rfl rfl, by unfold I64; omega, by omega, fun w G cx => ⟨cx.can 0 rfl (by simp; omega), fun w' hw' => ?_⟩⟩⟩
      rw [Nat.zero_add, Int.toNat_natCast, show ((r.log.length : Int) + 1) = ((r.log.length + 1 : Nat) : Int) by omega] at hw'
      have cx1 := gr (put_rep (gl cx) hw' { voteR r m with role := 2, next := put nx i (r.log.length + 1), mat := mt } (set_next (r := { voteR r m with role := 2, next := nx, mat := mt }) (r.log.length + 1) hlt) rfl)
      refine ⟨_, Φ2, inferInstance, cx1, fun w G cx => (cx.weak fun _ _ _ => trivial).right, by omega, fun w G cx => ⟨cx.can 0 rfl (by simp; omega), fun w' hw' => ?_⟩⟩
      rw [Nat.zero_add, Int.toNat_natCast] at hw'
      have cx1 := gr (put_rep (gl cx) hw' { voteR r m with role := 2, next := put nx i (r.log.length + 1), mat := put mt i 0 } (set_mat (r := { voteR r m with role := 2, next := put nx i (r.log.length + 1), mat := mt }) 0 hlt) rfl)
      refine ⟨_, Φ2, inferInstance, cx1, fun w G cx => (cx.weak fun _ _ _ => trivial).right, by unfold I64; omega, _, Φ2, 3 - (i + 1), inferInstance, fun w G cx => cx, ⟨i + 1, put nx i (r.log.length + 1), put mt i 0, rfl, by omega, fun j hj => ?_, rfl, rfl, rfl⟩, by omega⟩
      unfold put
      by_cases hji : j = i
      · rw [if_pos hji, if_pos hji]; exact ⟨rfl, rfl⟩
      · rw [if_neg hji, if_neg hji]; exact hnm j (by omega)
    · have hge : i = 3 := by have := of_decide_eq_false hge; omega
      subst hge
      have hcells : ({ voteR r m with role := 2, next := nx, mat := mt } : Rep).cells p c = (leadR r m).cells p c := by
        simp only [Rep.cells, leadR, (hnm 0 (by omega)).1, (hnm 1 (by omega)).1, (hnm 2 (by omega)).1, (hnm 0 (by omega)).2, (hnm 1 (by omega)).2, (hnm 2 (by omega)).2]
      have cx1 : Ctx W w (repO b (leadR r m) p c ++ (S ++ G)) Φ2 := by
        have := gl cx
        unfold repO at this
        rw [hcells] at this
        exact this
      have hlo := lead_ok hr m
      exact all_use cx1 hlo (fun i hi => hlo.fit rfl hi) fun q cap w h1 h2 cx => ⟨q, _, cap, rfl, repO b (leadR r m) p c ++ S, fun M w => Φ2 M w ∧ Sl M w q (allOf (leadR r m)), inferInstance, gr cx, fun w G cx => hK.sent h1 h2 (Ctx.left (F := G) (Φ := fun M w => Φ2 M w ∧ Sl M w q (allOf (leadR r m))) cx)⟩

end Go.Proofs.Ytifgijoeckoojaa
end

/-
  Replica: advance, appended, Propose.
-/
section
set_option linter.unusedVariables false
set_option linter.unusedSimpArgs false
namespace Go.Proofs.Ytifgijoeckoojaa
open Go.Vc

/-! ### advance -/
def mostTo (r : Rep) (l : List Nat) : Nat := l.foldl (fun a i => max a (r.mat i)) 0

theorem mostTo_take {r : Rep} {l : List Nat} {i : Nat} (h : i < l.length) : mostTo r (l.take (i + 1)) = max (mostTo r (l.take i)) (r.mat l[i]) := by
  unfold mostTo
  rw [List.take_succ_eq_append_getElem h, List.foldl_append]
  rfl

theorem mostTo_le {r : Rep} {n : Nat} (h : ∀ i, r.mat i ≤ n) (l : List Nat) : mostTo r l ≤ n := by
  have : ∀ (l : List Nat) (a : Nat), a ≤ n → l.foldl (fun a i => max a (r.mat i)) a ≤ n := by
    intro l
    induction l with
    | nil => intro a h; exact h
    | cons x l ih => intro a ha; exact ih _ (Nat.max_le.2 ⟨ha, h x⟩)
  exact this l 0 (Nat.zero_le _)

set_option maxHeartbeats 1000000 in
theorem advance_use {W w : World} {S : List Own} {Φ : PW} [Stable Φ] {b : Nat} {r : Rep} {p : Option Addr} {c : Nat} (cx : Ctx W w (repO b r p c ++ S) Φ) (hid : r.id ≤ 2) (hlen : r.log.length ≤ 4000) (hm : ∀ i, r.mat i ≤ r.log.length) {K : Ending → World → Prop}
    (hK : ∀ w', Ctx W w' (repO b (advanceP r) p c ++ S) Φ → K (.returned (.tuple #[])) w') : Calls Try.prog F.replica_Replica_advance #[.pointer (some ⟨b, 0, none⟩)] w K := by
  have hol := others_len r.id
  refine (Breplica_Replica_advance_run b 0 (J := fun u w' => K (.returned u) w') cx ?_).mono fun e w' ⟨v, he, hj⟩ => by rw [he]; exact hj
  refine fun w G cx => others_use hid (gl cx) fun k rest w cx => ⟨some ⟨k, 0, none⟩, 2, 3, rfl, repO b r p c ++ (.blk k ((othersOf r.id).map (fun x : Nat => intv (x : Int)) ++ rest) 3 :: S), Φ, inferInstance, gr (Q := repO b r p c) (T := .blk k ((othersOf r.id).map (fun x : Nat => intv (x : Int)) ++ rest) 3 :: S) (mid cx), ?_⟩
  refine exI_mk (fun n iI R' Φ' m => ∃ i : Nat, iI = i ∧ i ≤ 2 ∧ n = mostTo r ((othersOf r.id).take i) ∧ R' = repO b r p c ++ (.blk k ((othersOf r.id).map (fun x : Nat => intv (x : Int)) ++ rest) 3 :: S) ∧ Φ' = Φ ∧ m = 2 - i) ⟨⟨_, Φ, _, inferInstance, fun w G cx => cx, 0, rfl, Nat.zero_le _, rfl, rfl, rfl, rfl⟩, ?_⟩
  rintro n iI R1 Φ1 m _ ⟨i, rfl, hi, rfl, rfl, rfl, rfl⟩
  refine Br.intro (fun hlt => ?_) (fun hge => fun w G cx => ?_)
  · have hlt : i < 2 := by have := of_decide_eq_true hlt; omega
    have hio : i < (othersOf r.id).length := by omega
    have hn3 := (others_lt _ (List.getElem_mem hio)).1
    refine ⟨by omega, ptrK_intro k 0 rfl fun w G cx => ⟨((othersOf r.id)[i] : Nat), ?_, by omega, fun w G cx => ⟨(r.mat (othersOf r.id)[i] : Nat), ?_, by unfold I64; omega, _, Φ1, 2 - (i + 1), inferInstance, fun w G cx => cx, ⟨i + 1, rfl, by omega, ?_, rfl, rfl, rfl⟩, by omega⟩⟩⟩
    · rw [Int.toNat_natCast, Nat.zero_add]
      refine cx.get 2 rfl ?_
      rw [List.getElem?_append_left (by rw [List.length_map]; omega), List.getElem?_map, List.getElem?_eq_getElem hio]
      rfl
    · rw [Int.toNat_natCast, Nat.zero_add]
      exact cx.get 0 rfl (cells_mat hn3)
    · rw [mostTo_take hio]; omega
  · have hge : i = 2 := by have := of_decide_eq_false hge; omega
    subst hge
    have htk : (othersOf r.id).take 2 = othersOf r.id := by rw [← hol, List.take_length]
    rw [htk]
    have hml := mostTo_le hm (othersOf r.id)
    have hfin : ∀ {w : World} {G : List Own} {r' : Rep}, Ctx W w (repO b r' p c ++ (.blk k ((othersOf r.id).map (fun x : Nat => intv (x : Int)) ++ rest) 3 :: S) ++ G) Φ1 → Ctx W w (repO b r' p c ++ S) Φ1 := fun cx => (front cx.left).drop1
    refine ⟨r.commit, cx.get 0 rfl rfl, _, fun _ w' hw => term_dr (here_of (gl cx)) rfl hml hlen hw, r.term, fun _ => cx.get 0 rfl rfl, Br.intro (fun h => fun w G cx => ⟨cx.can 0 rfl (by simp), fun w' hw' => ?_⟩) (fun h => fun w G cx => ?_)⟩
    · have ha : advanceP r = { r with commit := mostOf r } := by
        unfold advanceP
        rw [if_pos]
        simp only [Bool.and_eq_true, decide_eq_true_eq] at h ⊢
        exact ⟨by have := h.1; show r.commit < mostTo r (othersOf r.id); omega, h.2⟩
      rw [ha] at hK
      have cx1 := gr (put_rep (gl cx) hw' { r with commit := mostOf r } rfl rfl)
      exact ⟨_, Φ1, inferInstance, cx1, fun w G cx => hK w (hfin cx)⟩
    · have ha : advanceP r = r := by
        unfold advanceP
        rw [if_neg]
        intro h'
        simp only [Bool.and_eq_true, decide_eq_true_eq, Bool.and_eq_false_iff, decide_eq_false_iff_not] at h h'
        rcases h with h | h
        · have := h'.1; change r.commit < mostTo r (othersOf r.id) at this; omega
        · exact h h'.2
      rw [ha] at hK
      exact hK w (hfin cx)

/-! ### appended -/
def backR (r : Rep) (m : MsgR) : Rep := { r with next := put r.next m.src.toNat (max (r.mat m.src.toNat + 1) (min (r.next m.src.toNat - 1) (m.index.toNat + 1))) }
def fwdR (r : Rep) (m : MsgR) : Rep := { r with mat := put r.mat m.src.toNat (max (r.mat m.src.toNat) m.index.toNat), next := put r.next m.src.toNat (max (r.mat m.src.toNat) m.index.toNat + 1) }

theorem appended_no {r : Rep} {m : MsgR} (h : (decide (r.role ≠ 2) || decide (m.term ≠ r.term) || m.yes && decide ((r.log.length : Int) < m.index)) = true) : appendedP r m = (r, out0) := by unfold appendedP; rw [if_pos h]
theorem appended_back {r : Rep} {m : MsgR} (h : (decide (r.role ≠ 2) || decide (m.term ≠ r.term) || m.yes && decide ((r.log.length : Int) < m.index)) = false) (hy : m.yes = false) : appendedP r m = (backR r m, outS [entriesOf (backR r m) m.src.toNat]) := by
  unfold appendedP; rw [if_neg (by rw [h]; simp)]; simp only [hy, if_true]; rfl
theorem appended_fwd {r : Rep} {m : MsgR} (h : (decide (r.role ≠ 2) || decide (m.term ≠ r.term) || m.yes && decide ((r.log.length : Int) < m.index)) = false) (hy : m.yes = true) :
    appendedP r m = if max (r.mat m.src.toNat) m.index.toNat + 1 ≤ r.log.length then (advanceP (fwdR r m), outS [entriesOf (advanceP (fwdR r m)) m.src.toNat]) else (advanceP (fwdR r m), out0) := by
  unfold appendedP; rw [if_neg (by rw [h]; simp)]; simp only [hy, Bool.true_eq_false, if_false]; rfl

theorem back_ok {r : Rep} (h : r.Ok) (hr : r.role = 2) (m : MsgR) : (backR r m).Ok := by
  have h1 := h.len
  have h2 := h.next hr m.src.toNat
  refine ⟨h.id, h.term0, h.termM, h.vote0, h.voteM, h.log, h.len, h.role, h.commit, fun _ i => ?_, fun i => ?_⟩
  · have h3 := h.next hr i
    show 1 ≤ put r.next _ _ i ∧ put r.next _ _ i ≤ r.log.length + 1 ∧ r.mat i ≤ r.log.length
    unfold put
    split
    · omega
    · exact h3
  · have h3 := h.next hr i
    show put r.next _ _ i ≤ 4001 ∧ r.mat i ≤ 4000
    unfold put
    split <;> omega

theorem fwd_ok {r : Rep} (h : r.Ok) (hr : r.role = 2) (m : MsgR) (hm : m.index.toNat ≤ r.log.length) : (fwdR r m).Ok := by
  have h1 := h.len
  have h2 := h.next hr m.src.toNat
  refine ⟨h.id, h.term0, h.termM, h.vote0, h.voteM, h.log, h.len, h.role, h.commit, fun _ i => ?_, fun i => ?_⟩
  · have h3 := h.next hr i
    show 1 ≤ put r.next _ _ i ∧ put r.next _ _ i ≤ r.log.length + 1 ∧ put r.mat _ _ i ≤ r.log.length
    unfold put
    split
    · omega
    · exact h3
  · have h3 := h.next hr i
    show put r.next _ _ i ≤ 4001 ∧ put r.mat _ _ i ≤ 4000
    unfold put
    split <;> omega

theorem adv_ok {r : Rep} (h : r.Ok) (hr : r.role = 2) : (advanceP r).Ok := by
  unfold advanceP
  split
  · refine ⟨h.id, h.term0, h.termM, h.vote0, h.voteM, h.log, h.len, h.role, ?_, h.next, h.bound⟩
    exact mostTo_le (fun i => (h.next hr i).2.2) (othersOf r.id)
  · exact h
theorem adv_eq (r : Rep) : (advanceP r).role = r.role ∧ (advanceP r).log = r.log ∧ (advanceP r).next = r.next ∧ (advanceP r).mat = r.mat ∧ (advanceP r).id = r.id ∧ (advanceP r).term = r.term ∧ (advanceP r).vote = r.vote := by
  unfold advanceP
  split <;> exact ⟨rfl, rfl, rfl, rfl, rfl, rfl, rfl⟩

set_option maxHeartbeats 1000000 in
theorem answer_entries {W w : World} {S G : List Own} {Φ : PW} [Stable Φ] {b : Nat} {r : Rep} {p : Option Addr} {c : Nat} {q : Option Addr} {cap n : Nat} (cx : Ctx W w (repO b r p c ++ S ++ G) (fun M w => Φ M w ∧ Sl M w q (entriesOf r n).recs)) (hm : (entriesOf r n).Ok) (h1 : (entriesOf r n).recs.length ≤ cap) (h2 : cap ≤ maxLen) {K : Value → World → Prop} (hK : OutK W S Φ b r (outS [entriesOf r n]) K)
    {K2 : Ending → World → Prop} (hk2 : ∀ q w', Ctx W w' (repO b r p c ++ S ++ G) (fun M w => Φ M w ∧ Sl M w q [entriesOf r n]) → (∀ w G', Ctx W w (repO b r p c ++ S ++ G') (fun M w => Φ M w ∧ Sl M w q [entriesOf r n]) → K (outV (outS [entriesOf r n]) none 0 q 1) w) → K2 (.returned (outV (outS [entriesOf r n]) none 0 q 1)) w') :
    Calls Try.prog F.replica_answer #[(entriesOf r n).v q cap] w K2 := by
  have hst : Stable (fun M w => Φ M w ∧ Sl M w q (entriesOf r n).recs) := inferInstance
  refine answer_use cx (entriesOf r n) q cap hm h1 h2 (fun M w h => h.2) fun q2 w cx => hk2 q2 w (cx.weak fun M w h => ⟨h.1.1, h.2⟩) fun w G' cx => ?_
  have hst : Stable (fun M w => Φ M w ∧ Sl M w q2 [entriesOf r n]) := inferInstance
  exact hK.sent (by simp) (by simp [maxLen]) (Ctx.left (F := G') cx)

set_option maxHeartbeats 1000000 in
theorem appended_use {W w : World} {S : List Own} {Φ : PW} [Stable Φ] {b : Nat} {r : Rep} {p : Option Addr} {c : Nat} (cx : Ctx W w (repO b r p c ++ S) Φ) (hr : r.Ok) (m : MsgR) (q : Option Addr) (qc : Nat) (h1 : 0 ≤ m.src) (h2 : m.src ≤ 2) (h3 : 0 ≤ m.index) (h4 : m.index ≤ 4000) {K : Ending → World → Prop}
    (hK : OutK W S Φ b (appendedP r m).1 (appendedP r m).2 fun v w => K (.returned v) w) : Calls Try.prog F.replica_Replica_appended #[.pointer (some ⟨b, 0, none⟩), m.v q qc] w K := by
  have hlen := hr.len
  have hsr : m.src = (m.src.toNat : Nat) := by omega
  have hs3 : m.src.toNat < 3 := by omega
  refine (Breplica_Replica_appended_run b 0 m.kind m.src m.to m.term m.index m.prev m.commit m.yes q m.recs.length qc (J := fun u w' => K (.returned u) w') cx ?_).mono fun e w' ⟨v, he, hj⟩ => by rw [he]; exact hj
  refine fun _ _ w G cx => ⟨r.role, cx.get 0 rfl rfl, r.term, fun _ => cx.get 0 rfl rfl, p, r.log.length, c, fun _ => cx.get 0 rfl rfl, Br.intro (fun h => fun w G cx => ?_) (fun h => fun w G cx => ⟨by omega, by omega, Br.intro (fun hy => fun w G cx => ?_) (fun hy => fun w G cx => ?_)⟩)⟩
  · rw [appended_no h] at hK
    exact hK.zero cx.left
  · have hy : m.yes = false := by simpa using hy
    rw [appended_back h hy] at hK
    have hrole : r.role = 2 := by
      simp only [Bool.or_eq_false_iff, decide_eq_false_iff_not] at h
      exact Decidable.not_not.1 h.1.1
    have hn := hr.next hrole m.src.toNat
    have hbo := back_ok hr hrole m
    refine ⟨(r.mat m.src.toNat : Nat), by rw [Nat.zero_add]; exact cx.get 0 rfl (cells_mat hs3), fun w G cx => ⟨(r.next m.src.toNat : Nat), by rw [Nat.zero_add]; exact cx.get 0 rfl (cells_next hs3), by unfold I64; omega, by unfold I64; omega, by unfold I64; omega, fun w G cx => ⟨cx.can 0 rfl (by simp; omega), fun w' hw' => ?_⟩⟩⟩
    have hval : max ((r.mat m.src.toNat : Int) + 1) (min ((r.next m.src.toNat : Int) - 1) (m.index + 1)) = ((max (r.mat m.src.toNat + 1) (min (r.next m.src.toNat - 1) (m.index.toNat + 1)) : Nat) : Int) := by omega
    rw [Nat.zero_add, hval] at hw'
    have cx1 : Ctx W w' (repO b (backR r m) p c ++ S ++ G) Φ := gr (put_rep (gl cx) hw' (backR r m) (set_next (r := r) _ hs3) rfl)
    refine ⟨_, Φ, inferInstance, cx1, fun w G cx => ?_⟩
    refine entries_use (gl cx) hbo.recs m.src.toNat hsr (hbo.fit hrole hs3) fun q2 cap2 w g1 g2 cx => ?_
    have hst : Stable (fun M w => Φ M w ∧ Sl M w q2 (entriesOf (backR r m) m.src.toNat).recs) := inferInstance
    refine ⟨_, _, _, _, _, _, _, _, q2, _, cap2, rfl, repO b (backR r m) p c ++ S, fun M w => Φ M w ∧ Sl M w q2 (entriesOf (backR r m) m.src.toNat).recs, hst, gr cx, fun w G cx => ?_⟩
    refine answer_entries cx (entries_ok hbo (hbo.fit hrole hs3)) g1 g2 hK fun q3 w cx hfin => ⟨_, _, _, _, none, _, 0, q3, _, 1, rfl, repO b (backR r m) p c ++ S, fun M w => Φ M w ∧ Sl M w q3 [entriesOf (backR r m) m.src.toNat], inferInstance, cx, fun w G cx => hfin w G cx⟩
  · have hy : m.yes = true := by simpa using hy
    rw [appended_fwd h hy] at hK
    simp only [Bool.or_eq_false_iff, decide_eq_false_iff_not, hy, Bool.true_and] at h
    have hrole : r.role = 2 := Decidable.not_not.1 h.1.1
    have hix : m.index.toNat ≤ r.log.length := by have := h.2; omega
    have hn := hr.next hrole m.src.toNat
    have hfo := fwd_ok hr hrole m hix
    obtain ⟨e1, e2, e3, e4, e5, e6, e7⟩ := adv_eq (fwdR r m)
    have hao := adv_ok hfo hrole
    refine ⟨(r.mat m.src.toNat : Nat), by rw [Nat.zero_add]; exact cx.get 0 rfl (cells_mat hs3), fun w G cx => ⟨cx.can 0 rfl (by simp; omega), fun w' hw' => ?_⟩⟩
    have hval : max (r.mat m.src.toNat : Int) m.index = ((max (r.mat m.src.toNat) m.index.toNat : Nat) : Int) := by omega
    rw [Nat.zero_add, hval] at hw'
    have cx1 := gr (put_rep (gl cx) hw' { r with mat := put r.mat m.src.toNat (max (r.mat m.src.toNat) m.index.toNat) } (set_mat (r := r) _ hs3) rfl)
    have hget : ({ r with mat := put r.mat m.src.toNat (max (r.mat m.src.toNat) m.index.toNat) } : Rep).mat m.src.toNat = max (r.mat m.src.toNat) m.index.toNat := by simp [put]
    refine ⟨_, Φ, inferInstance, cx1, fun w G cx => ⟨((max (r.mat m.src.toNat) m.index.toNat : Nat) : Int), ?_, by unfold I64; omega, fun w G cx => ⟨cx.can 0 rfl (by simp; omega), fun w' hw' => ?_⟩⟩⟩
    · rw [Nat.zero_add]
      have := cx.get 0 rfl (cells_mat (r := { r with mat := put r.mat m.src.toNat (max (r.mat m.src.toNat) m.index.toNat) }) (p := p) (c := c) hs3)
      rw [hget] at this
      exact this
    rw [Nat.zero_add, show (((max (r.mat m.src.toNat) m.index.toNat : Nat) : Int) + 1) = ((max (r.mat m.src.toNat) m.index.toNat + 1 : Nat) : Int) by omega] at hw'
    have cx1 : Ctx W w' (repO b (fwdR r m) p c ++ S ++ G) Φ := gr (put_rep (gl cx) hw' (fwdR r m) (set_next (r := { r with mat := put r.mat m.src.toNat (max (r.mat m.src.toNat) m.index.toNat) }) _ hs3) rfl)
    refine ⟨_, Φ, inferInstance, cx1, fun w G cx => advance_use (gl cx) hr.id hlen (fun i => (hfo.next hrole i).2.2) fun w cx => ⟨rfl, repO b (advanceP (fwdR r m)) p c ++ S, Φ, inferInstance, gr cx, fun w G cx => ⟨((max (r.mat m.src.toNat) m.index.toNat + 1 : Nat) : Int), ?_, p, (advanceP (fwdR r m)).log.length, c, cx.get 0 rfl rfl, Br.intro (fun hle => fun w G cx => ?_) (fun hle => fun w G cx => ?_)⟩⟩⟩
    · rw [Nat.zero_add]
      have := cx.get 0 rfl (cells_next (r := advanceP (fwdR r m)) (p := p) (c := c) hs3)
      rw [e3] at this
      have e8 : (fwdR r m).next m.src.toNat = max (r.mat m.src.toNat) m.index.toNat + 1 := by simp [fwdR, put]
      rw [e8] at this
      exact this
    · have hle := of_decide_eq_true hle
      rw [e2] at hle
      have hle : max (r.mat m.src.toNat) m.index.toNat + 1 ≤ r.log.length := by
        have : (fwdR r m).log = r.log := rfl
        rw [this] at hle
        omega
      rw [if_pos hle] at hK
      have hro : (advanceP (fwdR r m)).role = 2 := by rw [e1]; exact hrole
      refine entries_use (gl cx) hao.recs m.src.toNat hsr (hao.fit hro hs3) fun q2 cap2 w g1 g2 cx => ?_
      have hst : Stable (fun M w => Φ M w ∧ Sl M w q2 (entriesOf (advanceP (fwdR r m)) m.src.toNat).recs) := inferInstance
      refine ⟨_, _, _, _, _, _, _, _, q2, _, cap2, rfl, repO b (advanceP (fwdR r m)) p c ++ S, fun M w => Φ M w ∧ Sl M w q2 (entriesOf (advanceP (fwdR r m)) m.src.toNat).recs, hst, gr cx, fun w G cx => ?_⟩
      refine answer_entries cx (entries_ok hao (hao.fit hro hs3)) g1 g2 hK fun q3 w cx hfin => ⟨_, _, _, _, none, _, 0, q3, _, 1, rfl, repO b (advanceP (fwdR r m)) p c ++ S, fun M w => Φ M w ∧ Sl M w q3 [entriesOf (advanceP (fwdR r m)) m.src.toNat], inferInstance, cx, fun w G cx => hfin w G cx⟩
    · have hle := of_decide_eq_false hle
      rw [e2] at hle
      have hle : ¬ max (r.mat m.src.toNat) m.index.toNat + 1 ≤ r.log.length := by
        have : (fwdR r m).log = r.log := rfl
        rw [this] at hle
        omega
      rw [if_neg hle] at hK
      exact hK.zero cx.left

end Go.Proofs.Ytifgijoeckoojaa
end

/-
  Replica: Propose.
-/
section
set_option linter.unusedVariables false
set_option linter.unusedSimpArgs false
namespace Go.Proofs.Ytifgijoeckoojaa
open Go.Vc

abbrev zeroO : List Value := [.bool false, .int .i64 0, .int .i64 0, .int .i64 0, .slice none 0 0, .slice none 0 0]
def propR (r : Rep) (data : ByteArray) : Rep := { r with log := r.log ++ [⟨r.term, data⟩] }

theorem prop_no {r : Rep} {data : ByteArray} (h : r.role ≠ 2) : proposeP r data = (r, 0, 24, out0) := by unfold proposeP; rw [if_pos h]
theorem prop_big {r : Rep} {data : ByteArray} (h : ¬ r.role ≠ 2) (h2 : 2000 < (data.size : Int)) : proposeP r data = (r, 0, 1, out0) := by unfold proposeP; rw [if_neg h, if_pos h2]
theorem prop_full {r : Rep} {data : ByteArray} (h : ¬ r.role ≠ 2) (h2 : ¬ 2000 < (data.size : Int)) (h3 : r.log.length = 4000) : proposeP r data = (r, 0, 6, out0) := by unfold proposeP; rw [if_neg h, if_neg h2, if_pos h3]
theorem prop_ok {r : Rep} {data : ByteArray} (h : ¬ r.role ≠ 2) (h2 : ¬ 2000 < (data.size : Int)) (h3 : ¬ r.log.length = 4000) :
    proposeP r data = (propR r data, ((r.log.length + 1 : Nat) : Int), 0, ⟨false, 0, 0, ((r.log.length + 1 : Nat) : Int), [⟨r.term, data⟩], allOf (propR r data)⟩) := by unfold proposeP; rw [if_neg h, if_neg h2, if_neg h3]; rfl

theorem sorted_snoc {l : List RecD} {t : Int} {x : RecD} (h : Sorted l t) (h1 : 1 ≤ x.term) (h2 : x.term ≤ t) (h3 : x.data.size ≤ 2000) (h4 : ∀ y ∈ l, y.term ≤ x.term) : Sorted (l ++ [x]) t := by
  refine ⟨fun y hy => ?_, fun y hy => ?_, fun y hy => ?_, fun i j hij hj hi => ?_⟩
  · rcases List.mem_append.1 hy with hy | hy
    · exact h.lo y hy
    · rw [List.mem_singleton.1 hy]; exact h1
  · rcases List.mem_append.1 hy with hy | hy
    · exact h.hi y hy
    · rw [List.mem_singleton.1 hy]; exact h2
  · rcases List.mem_append.1 hy with hy | hy
    · exact h.data y hy
    · rw [List.mem_singleton.1 hy]; exact h3
  · rw [List.length_append, List.length_singleton] at hj hi
    by_cases hjl : j < l.length
    · rw [List.getElem_append_left (by omega), List.getElem_append_left hjl]
      exact h.asc i j hij hjl (by omega)
    · have hj' : j = l.length := by omega
      subst hj'
      rw [List.getElem_append_right (Nat.le_refl _)]
      simp only [Nat.sub_self, List.getElem_cons_zero]
      by_cases hil : i < l.length
      · rw [List.getElem_append_left hil]
        exact h4 _ (List.getElem_mem hil)
      · have : i = l.length := by omega
        subst this
        rw [List.getElem_append_right (Nat.le_refl _)]
        simp

theorem propR_ok {r : Rep} {data : ByteArray} (h : r.Ok) (hr : r.role = 2) (ht : 1 ≤ r.term) (h2 : ¬ 2000 < (data.size : Int)) (h3 : ¬ r.log.length = 4000) : (propR r data).Ok := by
  have hl := h.len
  have hlen : (propR r data).log.length = r.log.length + 1 := by simp [propR]
  refine ⟨h.id, h.term0, h.termM, h.vote0, h.voteM, ?_, by rw [hlen]; omega, h.role, by rw [hlen]; have := h.commit; show r.commit ≤ _; omega, fun _ i => ?_, fun i => ?_⟩
  · exact sorted_snoc h.log ht (Int.le_refl _) (by simp only; omega) h.log.hi
  · have := h.next hr i
    rw [hlen]
    show 1 ≤ r.next i ∧ r.next i ≤ r.log.length + 1 + 1 ∧ r.mat i ≤ r.log.length + 1
    omega
  · exact h.bound i

set_option maxHeartbeats 2000000 in
theorem Propose_use {W w : World} {S : List Own} {Φ : PW} [Stable Φ] {b : Nat} {r : Rep} {p : Option Addr} {c : Nat} (cx : Ctx W w (repO b r p c ++ S) Φ) (hr : r.Ok) (ht : r.role = 2 → 1 ≤ r.term) (data : ByteArray) {K : Ending → World → Prop}
    (hK : OutK W S Φ b (proposeP r data).1 (proposeP r data).2.2.2 fun v w => K (.returned (.tuple #[.int .i64 (proposeP r data).2.1, .int .i64 (proposeP r data).2.2.1, v])) w) : Calls Try.prog F.replica_Replica_Propose #[.pointer (some ⟨b, 0, none⟩), .string data] w K := by
  have hlen := hr.len
  refine (Breplica_Replica_Propose_run b 0 data (J := fun u w' => K (.returned u) w') cx ?_).mono fun e w' ⟨v, he, hj⟩ => by rw [he]; exact hj
  refine fun k0 w G cx => ⟨r.role, cx.get 1 rfl rfl, Br.intro (fun h => fun w G cx => ⟨cx.can 0 rfl (by simp), fun w' hw' => ?_⟩) (fun h => Br.intro (fun h2 => fun w G cx => ⟨cx.can 0 rfl (by simp), fun w' hw' => ?_⟩) (fun h2 => fun w G cx => ⟨p, r.log.length, c, cx.get 1 rfl rfl, Br.intro (fun h3 => fun w G cx => ⟨cx.can 0 rfl (by simp), fun w' hw' => ?_⟩) (fun h3 => fun w G cx => ⟨r.term, cx.get 1 rfl rfl, fun _ => ?_⟩)⟩))⟩
  · rw [prop_no (of_decide_eq_true h)] at hK
    have cx1 : Ctx W w' (.blk k0 zeroO 45 :: (repO b r p c ++ S) ++ G) Φ := cx.puts 0 hw' rfl
    exact ⟨_, Φ, inferInstance, cx1, fun w G cx => ⟨_, _, _, _, none, _, 0, none, _, 0, cx.row0 0 rfl, fun w G cx => hK.zero cx.left.drop1⟩⟩
  · rw [prop_big (of_decide_eq_false h) (of_decide_eq_true h2)] at hK
    have cx1 : Ctx W w' (.blk k0 zeroO 45 :: (repO b r p c ++ S) ++ G) Φ := cx.puts 0 hw' rfl
    exact ⟨_, Φ, inferInstance, cx1, fun w G cx => ⟨_, _, _, _, none, _, 0, none, _, 0, cx.row0 0 rfl, fun w G cx => hK.zero cx.left.drop1⟩⟩
  · rw [prop_full (of_decide_eq_false h) (of_decide_eq_false h2) (by have := of_decide_eq_true h3; omega)] at hK
    have cx1 : Ctx W w' (.blk k0 zeroO 45 :: (repO b r p c ++ S) ++ G) Φ := cx.puts 0 hw' rfl
    exact ⟨_, Φ, inferInstance, cx1, fun w G cx => ⟨_, _, _, _, none, _, 0, none, _, 0, cx.row0 0 rfl, fun w G cx => hK.zero cx.left.drop1⟩⟩
  have h := of_decide_eq_false h
  have h2 := of_decide_eq_false h2
  have h3' : ¬ r.log.length = 4000 := fun e => (of_decide_eq_false h3) (by omega)
  have hrole : r.role = 2 := Decidable.not_not.1 h
  rw [prop_ok h h2 h3'] at hK
  have hpo := propR_ok hr hrole (ht hrole) h2 h3'
  have hpl : (propR r data).log.length = r.log.length + 1 := by simp [propR]
  refine ⟨[.blk b (r.cells p c) 76], fun _ _ => True, inferInstance, fun w G cx => (cx.weak fun _ _ _ => trivial).sub (List.Sublist.cons _ (List.Sublist.cons_cons _ (List.Sublist.cons _ (List.sublist_append_right _ _)))), p, r.log.length, c, fun w G cx => ⟨p, r.log.length, c, cx.get 0 rfl rfl, rfl⟩, fun k1 => ⟨fun w G cx => (cx.weak fun _ _ _ => trivial).sub (List.Sublist.cons _ (List.Sublist.cons _ (List.Sublist.cons_cons _ (List.Sublist.cons _ (List.sublist_append_right _ _))))), fun w G cx => ?_⟩⟩
  have cx1 : Ctx W w (.blk k1 [.int .i64 r.term, .string data] 55 :: .buf p r.log.length c (recCells r.log) 55 2 :: ([.blk k0 zeroO 45, .blk b (r.cells p c) 76] ++ (S ++ G))) Φ :=
    cx.perm (List.Perm.cons _ (List.perm_middle (l₁ := [Own.blk k0 zeroO 45, Own.blk b (r.cells p c) 76])))
  obtain ⟨p', cap', w', hrun, _, cx'⟩ := Ctx.app1 (P := Try.prog) (ts := 35) (ty := 35) (kb := #[false, false]) (size := 2) (bytes := 24) cx1 (by kernel_rfl) (by omega) rfl rfl (by omega) (by omega)
  refine ⟨p', r.log.length + 1, cap', w', hrun, .buf p' (r.log.length + 1) cap' (recCells r.log ++ [Value.int .i64 r.term, Value.string data]) 55 2 :: .blk k0 zeroO 45 :: .blk b (r.cells p c) 76 :: S, Φ, inferInstance, cx', fun w G cx => (cx.weak fun _ _ _ => trivial).sub (List.Sublist.cons _ (List.Sublist.cons _ (List.Sublist.cons_cons _ (List.sublist_append_right _ _)))), fun w G cx => ⟨cx.can 2 rfl (by simp), fun w' hw' => ?_⟩⟩
  have hc : (r.cells p c).set 3 (.slice p' (r.log.length + 1) cap') = (propR r data).cells p' cap' := by simp [Rep.cells, propR]
  have hb : recCells r.log ++ [.int .i64 r.term, .string data] = recCells (propR r data).log := by
    show _ = recCells (r.log ++ [⟨r.term, data⟩])
    rw [recs_app]; rfl
  have cx1 : Ctx W w' (repO b (propR r data) p' cap' ++ .blk k0 zeroO 45 :: S ++ G) Φ := by
    have h1 : Ctx W w' (.buf p' (r.log.length + 1) cap' (recCells r.log ++ [.int .i64 r.term, .string data]) 55 2 :: .blk k0 zeroO 45 :: .blk b ((r.cells p c).set 3 (.slice p' (r.log.length + 1) cap')) 76 :: S ++ G) Φ := cx.put 2 hw' rfl
    rw [hc, hb, ← hpl] at h1
    exact h1.perm (List.perm_middle (l₁ := [Own.buf p' (propR r data).log.length cap' (recCells (propR r data).log) 55 2, Own.blk k0 zeroO 45]))
  generalize hr1 : propR r data = r1 at *
  have hfit : ∀ i, i < 3 → Fit r1 i := fun i hi => hpo.fit (by rw [← hr1]; exact hrole) hi
  have hst : ∀ q, Stable (fun M w => Φ M w ∧ Sl M w q (allOf r1)) := fun q => inferInstance
  have hal : (allOf r1).length = 2 := by unfold allOf; rw [List.length_map, others_len]
  have tail : ∀ (k : Nat) (q : Option Addr) (cap : Nat), (allOf r1).length ≤ cap → cap ≤ maxLen → ∀ (w : World) (G : List Own), Ctx W w (.blk k [.int .i64 r.term, .string data] 55 :: (repO b r1 p' cap' ++ .blk k0 zeroO 45 :: S) ++ G) (fun M w => Φ M w ∧ Sl M w q (allOf r1)) →
      CanWrite w k0 0 6 ∧ ∀ w', w' = w.setCells k0 0 [.bool false, .int .i64 0, .int .i64 0, .int .i64 (r1.log.length : Nat), .slice (some (Addr.mk k 0 none)) 1 1, .slice q (allOf r1).length cap] →
        ∃ (R : List Own) (Φ' : PW), Stable Φ' ∧ Ctx W w' (R ++ G) Φ' ∧ (∀ (w : World) (F' : List Own), Ctx W w (R ++ F') Φ' → Ctx W w ([.blk b (r1.cells p' cap') 76] ++ F') (fun _ _ => True)) ∧
          ∀ (w : World) (F' : List Own), Ctx W w (R ++ F') Φ' → ∃ (c1 : Bool) (n1 n2 n3 : Int) (p1 : Option Addr) (k1 k2 : Nat) (p2 : Option Addr) (k3 k4 : Nat), RowAt w k0 0 [.bool c1, .int .i64 n1, .int .i64 n2, .int .i64 n3, .slice p1 k1 k2, .slice p2 k3 k4] ∧
            ∀ (w : World) (F' : List Own), Ctx W w (R ++ F') Φ' → K (.returned (.tuple #[.int .i64 (r1.log.length : Nat), .int .i64 0, .agg #[.bool c1, .int .i64 n1, .int .i64 n2, .int .i64 n3, .slice p1 k1 k2, .slice p2 k3 k4]])) w := by
    intro k q cap hcap hmax w G cx
    refine ⟨cx.can 3 rfl (by simp), fun w' hw' => ?_⟩
    have cx2 := cx.puts 3 hw' rfl
    refine ⟨.blk k [.int .i64 r.term, .string data] 55 :: (repO b r1 p' cap' ++ .blk k0 [.bool false, .int .i64 0, .int .i64 0, .int .i64 (r1.log.length : Nat), .slice (some (Addr.mk k 0 none)) 1 1, .slice q (allOf r1).length cap] 45 :: S), _, hst q, cx2, fun w G cx => (cx.weak fun _ _ _ => trivial).sub (List.Sublist.cons _ (List.Sublist.cons_cons _ (List.Sublist.cons _ (List.Sublist.cons _ (List.sublist_append_right _ _))))), fun w G cx => ⟨_, _, _, _, _, _, _, _, _, _, cx.row0 3 rfl, fun w G cx => ?_⟩⟩
    have hxo : ((⟨r.term, data⟩ : RecD)).Ok := ⟨by have := hr.term0; have := hr.termM; show I64 r.term; unfold I64; omega, by show data.size ≤ maxLen; unfold maxLen; omega⟩
    have := hst q
    obtain ⟨cx3, hs⟩ := cx.left.freezeBlk (α := RecD) (l := [⟨r.term, data⟩]) (Elems.one (rep_rec hxo))
    have cx4 := (front (cx3.add (Ψ := fun M w => Sl M w (some ⟨k, 0, none⟩) [(⟨r.term, data⟩ : RecD)]) hs)).drop1
    have := hK p' cap' (some ⟨k, 0, none⟩) 1 q cap w (by simp) (by simp [maxLen]) hcap hmax (cx4.weak fun M w h => ⟨h.1.1, h.2, h.1.2⟩)
    rw [hpl]
    exact this
  refine ⟨_, Φ, inferInstance, cx1, [.blk b (r1.cells p' cap') 76], fun _ _ => True, inferInstance, fun w G cx => (cx.weak fun _ _ _ => trivial).sub (List.Sublist.cons_cons _ (List.Sublist.cons _ (List.Sublist.cons _ (List.sublist_append_right _ _)))), p', r1.log.length, cap', fun w G cx => ⟨p', r1.log.length, cap', cx.get 0 rfl rfl, rfl⟩, p', r1.log.length, cap', fun w G cx => ⟨p', r1.log.length, cap', cx.get 0 rfl rfl, rfl⟩, ⟨fun k2 => ⟨fun w G cx => (cx.weak fun _ _ _ => trivial).sub (List.Sublist.cons _ (List.Sublist.cons_cons _ (List.Sublist.cons _ (List.Sublist.cons _ (List.sublist_append_right _ _))))), fun w G cx => ?_, trivial⟩, fun w G cx => ?_, trivial⟩⟩
  · have cx5 : Ctx W w (.blk k2 [.int .i64 r.term, .string data] 55 :: (repO b r1 p' cap' ++ (.blk k0 zeroO 45 :: (S ++ G)))) Φ := cx.re (by simp)
    refine all_use (mid cx5) hpo hfit fun q cap w g1 g2 cx => ⟨q, _, cap, rfl, .blk k2 [.int .i64 r.term, .string data] 55 :: (repO b r1 p' cap' ++ .blk k0 zeroO 45 :: S), _, hst q, ?_, fun w G cx => (cx.weak fun _ _ _ => trivial).sub (List.Sublist.cons _ (List.Sublist.cons_cons _ (List.Sublist.cons _ (List.Sublist.cons _ (List.sublist_append_right _ _))))), fun w G cx => tail k2 q cap g1 g2 w G cx, trivial⟩
    have := hst q
    exact (front cx).re (by simp)
  · refine all_use (gl cx) hpo hfit fun q cap w g1 g2 cx => ⟨q, _, cap, rfl, repO b r1 p' cap' ++ .blk k0 zeroO 45 :: S, _, hst q, gr cx, fun w G cx => (cx.weak fun _ _ _ => trivial).sub (List.Sublist.cons_cons _ (List.Sublist.cons _ (List.Sublist.cons _ (List.sublist_append_right _ _)))), fun k2 => ⟨fun w G cx => (cx.weak fun _ _ _ => trivial).sub (List.Sublist.cons _ (List.Sublist.cons_cons _ (List.Sublist.cons _ (List.Sublist.cons _ (List.sublist_append_right _ _))))), fun w G cx => tail k2 q cap g1 g2 w G cx, trivial⟩, trivial⟩

end Go.Proofs.Ytifgijoeckoojaa
end

