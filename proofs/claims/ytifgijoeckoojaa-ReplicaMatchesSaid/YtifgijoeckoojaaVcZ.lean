/-
  Writing into a slice that grows; rows of plain data out of a slice; permuting what is owned.
-/
import Derived.Test.YtifgijoeckoojaaVcX
set_option linter.unusedVariables false
set_option linter.unusedSimpArgs false
namespace Go.Vc

section
variable {P : Program} {W w w' : World} {S S' F : List Own} {Φ Ψ : PW}

theorem Ctx.swap [Stable Φ] {a b : Own} (c : Ctx W w (a :: b :: S) Φ) : Ctx W w (b :: a :: S) Φ := c.perm (List.Perm.swap _ _ _)

/-- a slice that grows lies in a block -/
theorem Ctx.bufBlk (c : Ctx W w S Φ) (k : Nat) {p : Option Addr} {n cap : Nat} {cs : List Value} {t : TypeId} {size : Nat} (hk : S[k]? = some (.buf p n cap cs t size)) (h0 : 0 < cs.length) :
    ∃ b cur, p = some ⟨b, 0, none⟩ ∧ Blk w b cur t ∧ cur.take (n * size) = cs ∧ n ≤ cap ∧ cap ≤ maxLen ∧ cur.length = cap * size ∧ cs.length = n * size := by
  obtain ⟨h1, h2⟩ := c.own _ (List.mem_of_getElem? hk)
  rcases h2 with ⟨e, rfl⟩ | ⟨g, cap', cur, e, _, hg, hnc, hcm, hcs, htake⟩
  · rw [Nat.zero_mul] at h1; omega
  · cases e
    exact ⟨g, cur.toList, rfl, by simpa [Blk] using hg, htake, hnc, hcm, by simpa using hcs, h1⟩

theorem Ctx.bufRow (c : Ctx W w S Φ) (k : Nat) {p : Option Addr} {n cap : Nat} {cs : List Value} {t : TypeId} {size : Nat} (hk : S[k]? = some (.buf p n cap cs t size)) {b o : Nat} (hp : p = some ⟨b, 0, none⟩) {vs : List Value}
    (hv : ∀ j, (hj : j < vs.length) → cs[o + j]? = some vs[j]) : RowAt w b o vs := by
  intro j hj
  have hlt : o + j < cs.length := (List.getElem?_eq_some_iff.1 (hv j hj)).1
  obtain ⟨b', h1, _, h2⟩ := c.bufCell k hk (by omega)
  rw [hp] at h1
  cases h1
  exact (h2 _ _ (hv j hj)).1

theorem Ctx.bufCan (c : Ctx W w S Φ) (k : Nat) {p : Option Addr} {n cap : Nat} {cs : List Value} {t : TypeId} {size : Nat} (hk : S[k]? = some (.buf p n cap cs t size)) {b o m : Nat} (hp : p = some ⟨b, 0, none⟩) (hm : o + m ≤ cs.length) : CanWrite w b o m := by
  intro j hj
  obtain ⟨b', h1, _, h2⟩ := c.bufCell k hk (by omega)
  rw [hp] at h1
  cases h1
  have := h2 (o + j) cs[o + j] (List.getElem?_eq_getElem (by omega))
  exact ⟨by rw [this.1]; rfl, this.2⟩

theorem setL_len : ∀ (vs : List Value) (cs : List Value) (o : Nat), (setL cs o vs).length = cs.length
  | [], _, _ => rfl
  | v :: r, cs, o => by unfold setL; rw [setL_len r]; simp

theorem setL_take : ∀ (vs : List Value) (cs : List Value) (o m : Nat), o + vs.length ≤ m → (setL cs o vs).take m = setL (cs.take m) o vs
  | [], _, _, _, _ => rfl
  | v :: r, cs, o, m, h => by
    unfold setL
    simp only [List.length_cons] at h
    rw [setL_take r _ _ _ (by omega), List.take_set]

theorem setL_get : ∀ (vs : List Value) (cs : List Value) (o i : Nat), (i < o ∨ o + vs.length ≤ i) → (setL cs o vs)[i]? = cs[i]?
  | [], _, _, _, _ => rfl
  | v :: r, cs, o, i, h => by
    unfold setL
    simp only [List.length_cons] at h
    rw [setL_get r _ _ _ (by omega), List.getElem?_set_ne (by omega)]

theorem setL_in : ∀ (vs : List Value) (cs : List Value) (o i : Nat), i < vs.length → o + vs.length ≤ cs.length → (setL cs o vs)[o + i]? = vs[i]?
  | [], _, _, _, h, _ => by simp at h
  | v :: r, cs, o, 0, h, hl => by
    unfold setL
    simp only [List.length_cons] at hl
    rw [setL_get r _ _ _ (by omega), Nat.add_zero, List.getElem?_set_self (by omega)]
    rfl
  | v :: r, cs, o, i + 1, h, hl => by
    unfold setL
    simp only [List.length_cons] at hl h
    rw [show o + (i + 1) = o + 1 + i by omega, setL_in r _ _ _ (by omega) (by simp; omega)]
    rfl

/-- write into it -/
theorem Ctx.bufPuts [Stable Φ] (c : Ctx W w S Φ) (k : Nat) {p : Option Addr} {n cap : Nat} {cs vs : List Value} {t : TypeId} {size : Nat} (hk : S[k]? = some (.buf p n cap cs t size)) {b o : Nat} (hp : p = some ⟨b, 0, none⟩) (h0 : 0 < cs.length) (ho : o + vs.length ≤ cs.length)
    (e : w' = w.setCells b o vs) : Ctx W w' (S.set k (.buf p n cap (setL cs o vs) t size)) Φ := by
  obtain ⟨b', cur, h1, hb, htake, hnc, hcm, hcl, hl⟩ := c.bufBlk k hk h0
  rw [hp] at h1
  cases h1
  subst e
  refine c.upd hk ((Chg.refl _ _).setCells (by subst hp; simp [Own.dom]) o vs) (fun x hx => .inl (by subst hp; exact hx)) (by subst hp; simp [Own.dom]) ?_
  have hb' := Blk.sets vs o hb
  refine ⟨by rw [setL_len, hl], .inr ⟨b, cap, (setL cur o vs).toArray, by rw [hp], Nat.zero_le _, hb', hnc, hcm, by simp [setL_len, hcl], ?_⟩⟩
  rw [← htake, setL_take _ _ _ _ (by omega)]

theorem Elems.setAt {α : Type} [Gv α] {M : List Nat} {cs d : List Value} {l : List α} {x : α} (h : Elems M w cs l) (k : Nat) (hk : k < l.length) (hx : Gv.rep M w d x) : Elems M w (setL cs (k * (Gv.ty α).size) d) (l.set k x) := by
  have hd := Gv.len hx
  refine ⟨by rw [setL_len, h.1]; simp, fun j hj => ?_⟩
  have hj : j < l.length := by simpa using hj
  have hle : (k + 1) * (Gv.ty α).size ≤ cs.length := by rw [h.1]; exact Nat.mul_le_mul_right _ hk
  have hlj : (j + 1) * (Gv.ty α).size ≤ cs.length := by rw [h.1]; exact Nat.mul_le_mul_right _ hj
  rw [Nat.add_mul, Nat.one_mul] at hle hlj
  by_cases hjk : k = j
  · subst hjk
    rw [List.getElem_set_self]
    have : ((setL cs (k * (Gv.ty α).size) d).drop (k * (Gv.ty α).size)).take (Gv.ty α).size = d := by
      apply List.ext_getElem?
      intro i
      by_cases hi : i < (Gv.ty α).size
      · rw [List.getElem?_take_of_lt hi, List.getElem?_drop, setL_in _ _ _ _ (by omega) (by omega)]
      · rw [List.getElem?_eq_none (by simp; omega), List.getElem?_eq_none (by omega)]
    rw [this]
    exact hx
  · rw [List.getElem_set_ne hjk]
    have : ((setL cs (k * (Gv.ty α).size) d).drop (j * (Gv.ty α).size)).take (Gv.ty α).size = (cs.drop (j * (Gv.ty α).size)).take (Gv.ty α).size := by
      apply List.ext_getElem?
      intro i
      by_cases hi : i < (Gv.ty α).size
      · rw [List.getElem?_take_of_lt hi, List.getElem?_drop, List.getElem?_take_of_lt hi, List.getElem?_drop]
        refine setL_get _ _ _ _ ?_
        rw [hd]
        rcases Nat.lt_or_gt_of_ne hjk with hlt | hlt
        · right
          have := Nat.mul_le_mul_right (Gv.ty α).size (show k + 1 ≤ j from hlt)
          rw [Nat.add_mul, Nat.one_mul] at this
          omega
        · left
          have := Nat.mul_le_mul_right (Gv.ty α).size (show j + 1 ≤ k from hlt)
          rw [Nat.add_mul, Nat.one_mul] at this
          omega
      · rw [List.getElem?_eq_none (by simp [setL_len]; omega), List.getElem?_eq_none (by simp; omega)]
    rw [this]
    exact h.2 j hj

/-- the cells of the elements of a slice, in a row -/
theorem Sl.cells {α : Type} [Gv α] {M : List Nat} {p : Option Addr} {l : List α} (h : Sl M w p l) (h1 : ∀ M w cs (x : α), Gv.rep M w cs x → (cs.all fun u => oneC u) = true) (h0 : 0 < l.length) :
    ∃ b o news, p = some ⟨b, o, none⟩ ∧ news.length = l.length * (Gv.ty α).size ∧ (∀ j u, news[j]? = some u → w.cell? ⟨b, o + j, none⟩ = some u) ∧ Elems M w news l ∧ (news.all fun u => oneC u) = true := by
  obtain ⟨b, o, _, hp, _⟩ := h 0 h0
  have key : ∀ k, k ≤ l.length → ∃ news : List Value, news.length = k * (Gv.ty α).size ∧ (∀ j u, news[j]? = some u → w.cell? ⟨b, o + j, none⟩ = some u) ∧ Elems M w news (l.take k) ∧ (news.all fun u => oneC u) = true := by
    intro k
    induction k with
    | zero => intro _; exact ⟨[], by simp, fun j u hj => by simp at hj, by rw [List.take_zero]; exact Elems.nil, rfl⟩
    | succ k ih =>
      intro hk
      obtain ⟨news, g1, g2, g3, g4⟩ := ih (by omega)
      obtain ⟨b', o', cs, e1, _, e3, e4⟩ := h k (by omega)
      rw [hp] at e1
      cases e1
      have hlen := Gv.len e4
      refine ⟨news ++ cs, by rw [List.length_append, g1, hlen, Nat.add_mul, Nat.one_mul], fun j u hj => ?_, ?_, by rw [List.all_append, g4, h1 _ _ _ _ e4]; rfl⟩
      · by_cases hlt : j < news.length
        · rw [List.getElem?_append_left hlt] at hj
          exact g2 j u hj
        · rw [List.getElem?_append_right (by omega)] at hj
          have hl2 : j - news.length < cs.length := (List.getElem?_eq_some_iff.1 hj).1
          have := e3 (j - news.length) hl2
          rw [show o + k * (Gv.ty α).size + (j - news.length) = o + j by omega] at this
          rw [this, ← hj, List.getElem?_eq_getElem hl2]
      · rw [List.take_succ_eq_append_getElem (by omega)]
        exact g3.snoc e4
  obtain ⟨news, g1, g2, g3, g4⟩ := key l.length (Nat.le_refl _)
  rw [List.take_length] at g3
  exact ⟨b, o, news, hp, g1, g2, g3, g4⟩

/-- append a slice of plain data -/
theorem Ctx.appSl [Stable Φ] {α : Type} [Gv α] {q : Option Addr} {l : List α} {c2 : Nat} {p : Option Addr} {n cap : Nat} {cs : List Value} {t : TypeId} {bytes : Nat} (c : Ctx W w (.buf p n cap cs t (Gv.ty α).size :: S) Φ)
    {ts ty : TypeId} {kb : Array Bool} (hb : appB P ts t (Gv.ty α).size bytes = true) (h1 : ∀ M w cs (x : α), Gv.rep M w cs x → (cs.all fun u => oneC u) = true) (hsl : ∀ M w, Φ M w → Sl M w q l) (h0 : 0 < l.length) (hlen : n + l.length < 100000000) (hbytes : bytes ≤ 1000) :
    ∃ p' cap' w' news, Sem.run P (builtin Builtin.append #[ts, ts] ty kb #[.slice p n cap, .slice q l.length c2]) w = .ok (.value (.slice p' (n + l.length) cap')) w' ∧ (∃ g, p' = some ⟨g, 0, none⟩) ∧
      Ctx W w' (.buf p' (n + l.length) cap' (cs ++ news) t (Gv.ty α).size :: S) (fun M w => Φ M w ∧ Elems M w news l) := by
  obtain ⟨i, z, e1, e2, e3, e4, e5, e6⟩ := appB_out hb
  have hby : (n + l.length) * i.bytes ≤ 100000000 * 1000 := Nat.mul_le_mul (by omega) (by omega)
  obtain ⟨b, o, news, hp, g1, g2, g3, g4⟩ := (hsl _ _ c.phi).cells h1 h0
  obtain ⟨p', cap', w', h2, c'⟩ := (c.add (Ψ := fun M w => Elems M w news l) g3).append 0 rfl (ty := ty) e1 e2 e3 e4 e5 (a := ⟨b, o, none⟩) (m := l.length) (c2 := c2) (news := news) h0 g1 (fun j u hj => by rw [addr_add]; exact g2 j u hj)
    (fun u hu => List.all_eq_true.1 g4 u hu) (by omega) (by omega)
  have hpos : 0 < (Gv.ty α).size := Gv.pos
  have hl2 : 0 < l.length * (Gv.ty α).size := Nat.mul_pos h0 hpos
  refine ⟨p', cap', w', news, by rw [hp]; exact run_app h2, ?_, c'⟩
  obtain ⟨g, hg, _⟩ := c'.bufCell 0 rfl (by rw [List.length_append]; omega)
  exact ⟨g, hg⟩

end

end Go.Vc
