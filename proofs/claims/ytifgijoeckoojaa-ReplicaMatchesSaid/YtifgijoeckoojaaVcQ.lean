/-
  Copies: what a function made and hands over; facts about single cells of a block that is laid aside.
-/
import Derived.Test.YtifgijoeckoojaaVcZ
set_option linter.unusedVariables false
set_option linter.unusedSimpArgs false
namespace Go.Vc

section
variable {P : Program} {W w w' : World} {S S' F : List Own} {Φ Ψ : PW}

theorem Stable.less {Φ : PW} [Stable Φ] {D M : List Nat} {w : World} (h : Φ (D ++ M) w) : Φ M w :=
  Stable.step (Φ := Φ) ⟨Chg.refl _ _, fun b hb => .inl (List.mem_append_right _ hb)⟩ h


/-- the function hands back a slice that it made: the caller owns it; what its elements are, is known -/
structure GivesNew (Φ : PW) (P : Program) (f : FuncId) (args : Array Value) {α : Type} [Gv α] (l : List α) (t : TypeId) : Prop where
  go : ∀ (W w : World) (S : List Own), Ctx W w S Φ → Calls P f args w fun e w' => ∃ p cap cs, e = .returned (.slice p l.length cap) ∧ Ctx W w' (.buf p l.length cap cs t (Gv.ty α).size :: S) (fun M w => Φ M w ∧ Elems M w cs l)

theorem GivesNew.use {f : FuncId} {args : Array Value} {α : Type} [Gv α] {l : List α} {t : TypeId} (h : GivesNew Φ P f args l t) (c : Ctx W w S Φ) {K : Ending → World → Prop}
    (hk : ∀ p cap cs w', Ctx W w' (.buf p l.length cap cs t (Gv.ty α).size :: S) (fun M w => Φ M w ∧ Elems M w cs l) → K (.returned (.slice p l.length cap)) w') : Calls P f args w K :=
  (h.go W w S c).mono fun e w' ⟨p, cap, cs, he, c'⟩ => by subst he; exact hk p cap cs w' c'

theorem gives_new [Stable Φ] {f : FuncId} {args : Array Value} {α : Type} [Gv α] {l : List α} {t : TypeId} {B : World → List Own → PW → (Value → World → Prop) → Prop}
    (run : ∀ {W w : World} {R : List Own} {Φ : PW} [Stable Φ] {J : Value → World → Prop}, Ctx W w R Φ → B W R Φ J → Calls P f args w fun e w' => ∃ v, e = .returned v ∧ J v w')
    (h : ∀ (W : World) (R : List Own), B W R Φ fun u w' => ∃ p cap cs, u = .slice p l.length cap ∧ Ctx W w' (.buf p l.length cap cs t (Gv.ty α).size :: R) (fun M w => Φ M w ∧ Elems M w cs l)) : GivesNew Φ P f args l t :=
  ⟨fun W w S c => calls_of (run c (h W S)) fun u w' ⟨p, cap, cs, h1, h2⟩ => ⟨p, cap, cs, by rw [h1], h2⟩⟩

theorem GivesNew.there {f : FuncId} {args : Array Value} {α : Type} [Gv α] {l : List α} {t : TypeId} {p : Option Addr} {n : Nat} (hΦ : ∀ M w, Φ M w → There p n) (h : There p n → GivesNew Φ P f args l t) : GivesNew Φ P f args l t :=
  ⟨fun W w S c => (h (hΦ _ _ c.phi)).go W w S c⟩

/-- a slice of plain data is appended to nothing: slices.Clone -/
theorem Ctx.cloned [Stable Φ] {α : Type} [Gv α] {q : Option Addr} {l : List α} {c2 : Nat} {k : Nat} {t : TypeId} {bytes : Nat} (c : Ctx W w (.blk k [] t :: S) Φ)
    {ts ty : TypeId} {kb : Array Bool} (hb : appB P ts t (Gv.ty α).size bytes = true) (h1 : ∀ M w cs (x : α), Gv.rep M w cs x → (cs.all fun u => oneC u) = true) (hsl : ∀ M w, Φ M w → Sl M w q l) (hlen : l.length < 100000000) (hbytes : bytes ≤ 1000) :
    ∃ p' cap' w' cs, Sem.run P (builtin Builtin.append #[ts, ts] ty kb #[.slice (some ⟨k, 0, none⟩) 0 0, .slice q l.length c2]) w = .ok (.value (.slice p' l.length cap')) w' ∧
      Ctx W w' (.buf p' l.length cap' cs t (Gv.ty α).size :: S) (fun M w => Φ M w ∧ Elems M w cs l) := by
  have c' : Ctx W w (.buf (some ⟨k, 0, none⟩) 0 0 [] t (Gv.ty α).size :: S) Φ := c.toBuf 0 0 (Gv.ty α).size rfl (by simp) (by simp [maxLen])
  rcases Nat.eq_zero_or_pos l.length with h0 | h0
  · obtain ⟨i, z, e1, e2, e3, e4, e5, e6⟩ := appB_out hb
    have hl : l = [] := List.eq_nil_of_length_eq_zero h0
    subst hl
    exact ⟨_, _, w, [], run_app (c'.append0 0 rfl e1 e2 q c2), c'.add Elems.nil⟩
  · obtain ⟨p', cap', w', news, h2, _, c3⟩ := c'.appSl (ty := ty) (kb := kb) (c2 := c2) hb h1 hsl h0 (by omega) hbytes
    rw [Nat.zero_add] at h2 c3
    exact ⟨p', cap', w', news, h2, c3⟩

/-- one of the slices that are owned, when all of them are let go -/
theorem Ctx.letGo [Stable Φ] {α : Type} [Gv α] {rows : List Own} {p : Option Addr} {n cap : Nat} {cs : List Value} {t : TypeId} {l : List α} (c : Ctx W w (rows ++ S) Φ) (hm : Own.buf p n cap cs t (Gv.ty α).size ∈ rows) (he : Elems (dom (rows ++ S)) w cs l) : Sl (dom S) w p l := by
  obtain ⟨s, u, rfl⟩ := List.append_of_mem hm
  have c' : Ctx W w (.buf p n cap cs t (Gv.ty α).size :: ((s ++ u) ++ S)) Φ := c.perm (by
    rw [← List.cons_append]
    exact List.Perm.append_right _ List.perm_middle)
  obtain ⟨_, h2, _⟩ := c'.freeze ⟨he.1, fun j hj => Gv.stable ⟨Chg.refl _ _, fun b hb => .inl (by
    have hd : (dom (s ++ Own.buf p n cap cs t (Gv.ty α).size :: u ++ S)).Perm (dom (.buf p n cap cs t (Gv.ty α).size :: ((s ++ u) ++ S))) := List.Perm.flatMap_right _ (by
      rw [← List.cons_append]
      exact List.Perm.append_right _ List.perm_middle)
    exact hd.mem_iff.2 hb)⟩ (he.2 j hj)⟩
  rw [dom_app] at h2
  exact h2.less

/-- these cells lie in a block that is not written -/
def RowIn (b o : Nat) (vs : List Value) (M : List Nat) (w : World) : Prop := b ∉ M ∧ RowAt w b o vs ∧ b < w.heap.size

instance instStableRowIn (b o : Nat) (vs : List Value) : Stable (fun M w => RowIn b o vs M w) := ⟨fun hs h =>
  ⟨fun hm => by rcases hs.sub b hm with h1 | h1; exact h.1 h1; have := h.2.2; omega, hs.chg.row h.2.1 h.1, Nat.lt_of_lt_of_le h.2.2 hs.chg.size⟩⟩

theorem Parked.rowIn {M : List Nat} {b o : Nat} {cs vs : List Value} {t : TypeId} (h : Parked W (.blk b cs t) M w) (hv : ∀ j, (hj : j < vs.length) → cs[o + j]? = some vs[j]) : RowIn b o vs M w :=
  ⟨(h.2 b (by simp [Own.dom])).1, Blk.row (show Blk w b cs t from h.1) hv, Own.at_lt h.1 b (by simp [Own.dom])⟩

/-- several things that are owned, laid aside -/
def ParkedL (W : World) (Q : List Own) (M : List Nat) (w : World) : Prop := (∀ o ∈ Q, o.at w) ∧ (dom Q).Nodup ∧ ∀ b ∈ dom Q, b ∉ M ∧ W.heap.size ≤ b

instance instStableParkedL (W : World) (Q : List Own) : Stable (fun M w => ParkedL W Q M w) := ⟨fun hs h => by
  have hlt : ∀ b ∈ dom Q, b < _ := fun b hb => by
    obtain ⟨o, ho, hb⟩ := List.mem_flatMap.1 hb
    exact Own.at_lt (h.1 o ho) b hb
  exact ⟨fun o ho => Own.at_keep (h.1 o ho) fun b hb => hs.chg.block b (hlt b (mem_dom ho hb)) (h.2.2 b (mem_dom ho hb)).1, h.2.1, fun b hb => ⟨fun hm => by
    rcases hs.sub b hm with h1 | h1
    · exact (h.2.2 b hb).1 h1
    · have := hlt b hb; omega, (h.2.2 b hb).2⟩⟩⟩

/-- what holds while Q is laid aside -/
def Aside (W : World) (Q : List Own) (Φ : PW) : PW := fun M w => Φ (dom Q ++ M) w ∧ ParkedL W Q M w
instance instStableAside (W : World) (Q : List Own) (Φ : PW) [Stable Φ] : Stable (Aside W Q Φ) :=
  have h1 : Stable (fun M w => Φ (dom Q ++ M) w) := instStableMore (dom Q) Φ
  instStableAnd (fun M w => Φ (dom Q ++ M) w) (fun M w => ParkedL W Q M w)

theorem Ctx.aside {Q : List Own} (c : Ctx W w (Q ++ S) Φ) : Ctx W w S (Aside W Q Φ) := by
  have hd := dom_app Q S
  have hn := c.nodup
  rw [hd, List.nodup_append] at hn
  refine ⟨c.chg, fun x hx => c.own x (List.mem_append_right _ hx), fun b hb => c.young b (by rw [hd]; exact List.mem_append_right _ hb), hn.2.1, ?_, fun o ho => c.own o (List.mem_append_left _ ho), hn.1, fun b hb => ⟨fun hm => hn.2.2 b hb b hm rfl, c.young b (by rw [hd]; exact List.mem_append_left _ hb)⟩⟩
  have := c.phi
  rw [hd] at this
  exact this

theorem Ctx.unaside {Q : List Own} (c : Ctx W w S (Aside W Q Φ)) : Ctx W w (Q ++ S) Φ := by
  obtain ⟨h1, h2, h3, h4⟩ := c.phi
  have hd := dom_app Q S
  refine ⟨c.chg, fun x hx => ?_, fun b hb => ?_, ?_, by rw [hd]; exact h1⟩
  · rcases List.mem_append.1 hx with hx | hx
    · exact h2 x hx
    · exact c.own x hx
  · rw [hd] at hb
    rcases List.mem_append.1 hb with hb | hb
    · exact (h4 b hb).2
    · exact c.young b hb
  · rw [hd, List.nodup_append]
    exact ⟨h3, c.nodup, fun a ha b hb e => by subst e; exact (h4 a ha).1 hb⟩

theorem Aside.parked {Q : List Own} {M : List Nat} (h : Aside W Q Φ M w) {o : Own} (ho : o ∈ Q) : Parked W o M w := ⟨h.2.1 o ho, fun b hb => h.2.2.2 b (mem_dom ho hb)⟩
theorem Aside.less [Stable Φ] {Q : List Own} {M : List Nat} (h : Aside W Q Φ M w) : Φ M w := Stable.less h.1

theorem Aside.imp {Q : List Own} {Ψ : PW} {M : List Nat} (h : Aside W Q Φ M w) (hi : ∀ M w, Φ M w → Ψ M w) : Aside W Q Ψ M w := ⟨hi _ _ h.1, h.2⟩

theorem Ctx.re (c : Ctx W w S Φ) (e : S = S') : Ctx W w S' Φ := e ▸ c
theorem Ctx.asideF {Q T G : List Own} (c : Ctx W w (Q ++ T ++ G) Φ) : Ctx W w (T ++ G) (Aside W Q Φ) := Ctx.aside (c.re (List.append_assoc _ _ _))
theorem Ctx.unasideF {Q T G : List Own} (c : Ctx W w (T ++ G) (Aside W Q Φ)) : Ctx W w (Q ++ T ++ G) Φ := c.unaside.re (List.append_assoc _ _ _).symm
theorem Ctx.dropF [Stable Φ] {Q T G : List Own} (c : Ctx W w (Q ++ T ++ G) Φ) : Ctx W w (T ++ G) Φ := Ctx.right (S := Q) (c.re (List.append_assoc _ _ _))

theorem Ctx.bufGet (c : Ctx W w S Φ) (k : Nat) {p : Option Addr} {n cap : Nat} {cs : List Value} {t : TypeId} {size : Nat} (hk : S[k]? = some (.buf p n cap cs t size)) {b i : Nat} {v : Value} (hp : p = some ⟨b, 0, none⟩) (hv : cs[i]? = some v) : w.cell? ⟨b, i, none⟩ = some v := by
  obtain ⟨b', h1, _, h2⟩ := c.bufCell k hk (by have := (List.getElem?_eq_some_iff.1 hv).1; omega)
  rw [hp] at h1
  cases h1
  exact (h2 _ _ hv).1

theorem addr_sub {α : Type} [Gv α] {M : List Nat} {p : Option Addr} {l : List α} {cap : Nat} (h : Sl M w p l) (k : Nat) (hc : l.length ≤ cap) : Sl M w (subPtr p (Gv.ty α).size k cap) (l.drop k) := by
  intro j hj
  rw [List.length_drop] at hj
  obtain ⟨b, o, cs, rfl, h2, h3, h4⟩ := h (k + j) (by omega)
  refine ⟨b, o + k * (Gv.ty α).size, cs, ?_, h2, ?_, ?_⟩
  · unfold subPtr
    rw [if_neg (by omega)]
    simp [Addr.add]
  · rw [show o + k * (Gv.ty α).size + j * (Gv.ty α).size = o + (k + j) * (Gv.ty α).size by rw [Nat.add_mul]; omega]
    exact h3
  · rw [List.getElem_drop]
    exact h4

end

end Go.Vc
