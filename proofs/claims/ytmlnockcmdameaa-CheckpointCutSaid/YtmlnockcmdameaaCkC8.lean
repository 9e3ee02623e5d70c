/-
  Closed forms of what produce, report and flush do; streams.
-/
import Derived.Test.YtmlnockcmdameaaCkC7

section
set_option linter.unusedVariables false
set_option linter.unusedSimpArgs false
namespace Go.Proofs.Ytmlnockcmdameaa
open Go.Vc

def nbar (l : List MsgL) : Nat := l.countP fun m => decide (m.kind = 1)
def before (l : List MsgL) : List MsgL := l.takeWhile fun m => decide (m.kind ≠ 1)
theorem nbar_append (a b : List MsgL) : nbar (a ++ b) = nbar a + nbar b := List.countP_append
theorem nbar_cons (m : MsgL) (l : List MsgL) : nbar (m :: l) = nbar l + if m.kind = 1 then 1 else 0 := by
  unfold nbar
  rw [List.countP_cons]
  by_cases h : m.kind = 1 <;> simp [h]
theorem nbar_zero {l : List MsgL} : nbar l = 0 ↔ ∀ m ∈ l, m.kind ≠ 1 := by
  unfold nbar
  rw [List.countP_eq_zero]
  simp
theorem nbar_no {l : List MsgL} : nbar l = 0 ↔ noBar l = true := by
  rw [nbar_zero]
  unfold noBar
  simp
theorem before_all {l : List MsgL} (h : nbar l = 0) : before l = l := by
  induction l with
  | nil => rfl
  | cons m l ih =>
    rw [nbar_cons] at h
    have hm : m.kind ≠ 1 := fun e => by rw [if_pos e] at h; omega
    rw [if_neg hm] at h
    unfold before
    rw [List.takeWhile_cons, if_pos (by simpa using hm)]
    exact congrArg (m :: ·) (ih (by omega))
theorem before_append {a b : List MsgL} (h : nbar a = 0) : before (a ++ b) = a ++ before b := by
  have h := nbar_zero.1 h
  unfold before
  rw [List.takeWhile_append_of_pos]
  intro m hm
  simpa using h m hm
theorem before_stop {a b : List MsgL} (h : nbar a ≠ 0) : before (a ++ b) = before a := by
  induction a with
  | nil => exact absurd rfl h
  | cons m a ih =>
    unfold before
    rw [List.cons_append, List.takeWhile_cons, List.takeWhile_cons]
    by_cases hm : m.kind = 1
    · rw [if_neg (by simpa using hm), if_neg (by simpa using hm)]
    · rw [if_pos (by simpa using hm), if_pos (by simpa using hm)]
      rw [nbar_cons, if_neg hm] at h
      exact congrArg (m :: ·) (ih (by omega))
theorem before_bar {m : MsgL} {l : List MsgL} (h : m.kind = 1) : before (m :: l) = [] := by
  unfold before
  rw [List.takeWhile_cons, if_neg (by simpa using h)]
theorem before_cons {m : MsgL} {l : List MsgL} (h : m.kind ≠ 1) : before (m :: l) = m :: before l := by
  unfold before
  rw [List.takeWhile_cons, if_pos (by simpa using h)]
theorem nsOf_append (a b : List MsgL) : nsOf (a ++ b) = nsOf a ++ nsOf b := List.map_append

theorem ofEdge_append (k : Nat) (a b : List (Nat × MsgL)) : ofEdge k (a ++ b) = ofEdge k a ++ ofEdge k b := by
  unfold ofEdge
  rw [List.filter_append, List.map_append]
theorem ofEdge_mem {k : Nat} {l : List (Nat × MsgL)} {m : MsgL} (h : m ∈ ofEdge k l) : (k, m) ∈ l := by
  unfold ofEdge at h
  obtain ⟨y, hy, e⟩ := List.mem_map.1 h
  obtain ⟨h1, h2⟩ := List.mem_filter.1 hy
  have h2 : y.1 = k := by simpa using h2
  subst h2; subst e
  exact h1
theorem ofEdge_in {k : Nat} {l : List (Nat × MsgL)} {m : MsgL} (h : (k, m) ∈ l) : m ∈ ofEdge k l := by
  unfold ofEdge
  exact List.mem_map.2 ⟨(k, m), List.mem_filter.2 ⟨h, by simp⟩, rfl⟩
theorem outs_mem {x : NtD} {i e : Nat} : ∀ {k : Nat}, e ∈ outsK x i k ↔ e < k ∧ (x.eds e).src = i
  | 0 => by simp [outsK]
  | k + 1 => by
    unfold outsK
    by_cases h : (x.eds k).src = i
    · rw [if_pos h, List.mem_append, List.mem_singleton, outs_mem]
      constructor
      · rintro (⟨h1, h2⟩ | rfl)
        · exact ⟨by omega, h2⟩
        · exact ⟨by omega, h⟩
      · rintro ⟨h1, h2⟩
        rcases Nat.lt_or_ge e k with h3 | h3
        · exact .inl ⟨h3, h2⟩
        · exact .inr (by omega)
    · rw [if_neg h, outs_mem]
      constructor
      · rintro ⟨h1, h2⟩; exact ⟨by omega, h2⟩
      · rintro ⟨h1, h2⟩
        have : e ≠ k := fun e2 => h (e2 ▸ h2)
        exact ⟨by omega, h2⟩
theorem outs_ofEdge {x : NtD} {i e : Nat} (m : MsgL) : ∀ {k : Nat}, ofEdge e ((outsK x i k).map fun j => (j, m)) = if e < k ∧ (x.eds e).src = i then [m] else []
  | 0 => by rw [if_neg (by omega)]; rfl
  | k + 1 => by
    unfold outsK
    by_cases h : (x.eds k).src = i
    · rw [if_pos h, List.map_append, ofEdge_append, outs_ofEdge m]
      by_cases he : e = k
      · subst he
        rw [if_neg (by omega), if_pos ⟨by omega, h⟩]
        simp [ofEdge]
      · have hek : ¬ k = e := fun h => he h.symm
        have h2 : ofEdge e (List.map (fun j => (j, m)) [k]) = [] := by simp [ofEdge, hek]
        rw [h2, List.append_nil]
        by_cases h3 : e < k ∧ (x.eds e).src = i
        · rw [if_pos h3, if_pos ⟨by omega, h3.2⟩]
        · rw [if_neg h3, if_neg fun h4 => h3 ⟨by omega, h4.2⟩]
    · rw [if_neg h, outs_ofEdge m]
      by_cases h3 : e < k ∧ (x.eds e).src = i
      · rw [if_pos h3, if_pos ⟨by omega, h3.2⟩]
      · rw [if_neg h3, if_neg fun h4 => h3 ⟨by
          have : e ≠ k := fun e2 => h (e2 ▸ h4.2)
          omega, h4.2⟩]

/-! ### produce -/
theorem prodK_form (x : NtD) (i : Nat) (m : MsgL) : ∀ k, (∀ j, (prodK x i m k).ins j = if j = i then { x.ins i with box := (x.ins i).box ++ (outsK x i k).map fun e => (e, m) } else x.ins j) ∧
    (∀ e, (prodK x i m k).eds e = if e < k ∧ (x.eds e).src = i ∧ (x.ins i).rep = false then { x.eds e with made := (x.eds e).made ++ [m.n] } else x.eds e) ∧ (prodK x i m k).kind = x.kind ∧ (prodK x i m k).num = x.num
  | 0 => by
    refine ⟨fun j => ?_, fun e => ?_, rfl, rfl⟩
    · show x.ins j = _
      by_cases h : j = i
      · subst h; rw [if_pos rfl]; show _ = ({ x.ins j with box := (x.ins j).box ++ [] } : InD); rw [List.append_nil]
      · rw [if_neg h]
    · rw [if_neg (by omega)]; rfl
  | k + 1 => by
    obtain ⟨h1, h2, h3, h4⟩ := prodK_form x i m k
    have hsrc : ((prodK x i m k).eds k).src = (x.eds k).src := (same_prodK x i m k).src k
    have hek : (prodK x i m k).eds k = x.eds k := by rw [h2, if_neg (by omega)]
    have hi : (prodK x i m k).ins i = { x.ins i with box := (x.ins i).box ++ (outsK x i k).map fun e => (e, m) } := by rw [h1, if_pos rfl]
    show (∀ j, (prodStep (prodK x i m k) i m k).ins j = _) ∧ (∀ e, (prodStep (prodK x i m k) i m k).eds e = _) ∧ (prodStep (prodK x i m k) i m k).kind = _ ∧ (prodStep (prodK x i m k) i m k).num = _
    generalize prodK x i m k = y at *
    unfold prodStep outsK
    rw [hsrc]
    by_cases hs : (x.eds k).src = i
    · rw [if_pos hs, if_pos hs]
      have hbox : (y.setBox i ((y.ins i).box ++ [(k, m)])).ins = upd y.ins i { y.ins i with box := (y.ins i).box ++ [(k, m)] } := rfl
      have hins : ∀ j, upd y.ins i { y.ins i with box := (y.ins i).box ++ [(k, m)] } j = if j = i then { x.ins i with box := (x.ins i).box ++ (outsK x i k ++ [k]).map fun e => (e, m) } else x.ins j := fun j => by
        by_cases h : j = i
        · subst h
          rw [upd_self, if_pos rfl, hi, List.map_append, List.append_assoc]
          rfl
        · rw [upd_ne h, if_neg h, h1, if_neg h]
      have hrep : (y.ins i).rep = (x.ins i).rep := by rw [hi]
      rw [hrep]
      by_cases hr : (x.ins i).rep = true
      · rw [if_pos hr]
        refine ⟨hins, fun e => ?_, h3, h4⟩
        show y.eds e = _
        rw [h2, if_neg (fun h => by have := h.2.2; rw [hr] at this; cases this), if_neg (fun h => by have := h.2.2; rw [hr] at this; cases this)]
      · rw [if_neg hr]
        have hr : (x.ins i).rep = false := by simpa using hr
        refine ⟨hins, fun e => ?_, h3, h4⟩
        show upd y.eds k { y.eds k with made := (y.eds k).made ++ [m.n] } e = _
        by_cases h : e = k
        · subst h
          rw [upd_self, if_pos ⟨by omega, hs, hr⟩, hek]
        · rw [upd_ne h, h2]
          by_cases h5 : e < k ∧ (x.eds e).src = i ∧ (x.ins i).rep = false
          · rw [if_pos h5, if_pos ⟨by omega, h5.2⟩]
          · rw [if_neg h5, if_neg fun h6 => h5 ⟨by omega, h6.2⟩]
    · rw [if_neg hs, if_neg hs]
      refine ⟨h1, fun e => ?_, h3, h4⟩
      rw [h2]
      by_cases h5 : e < k ∧ (x.eds e).src = i ∧ (x.ins i).rep = false
      · rw [if_pos h5, if_pos ⟨by omega, h5.2⟩]
      · rw [if_neg h5, if_neg fun h6 => h5 ⟨by
          have : e ≠ k := fun e2 => hs (e2 ▸ h6.2.1)
          omega, h6.2⟩]

/-! ### report -/
theorem boxedL_form : ∀ (l : List (Nat × MsgL)) (x : NtD) (e : Nat), (boxedL x l).eds e = { x.eds e with boxed := (x.eds e).boxed ++ nsOf (ofEdge e l) }
  | [], x, e => by
    show x.eds e = ({ x.eds e with boxed := (x.eds e).boxed ++ [] } : EdD)
    rw [List.append_nil]
  | y :: l, x, e => by
    show (boxedL (boxedStep x y) l).eds e = _
    rw [boxedL_form l (boxedStep x y) e]
    have h1 : (boxedStep x y).eds e = if e = y.1 then { x.eds e with boxed := (x.eds e).boxed ++ [y.2.n] } else x.eds e := by
      show upd x.eds y.1 _ e = _
      by_cases h : e = y.1
      · subst h; rw [upd_self, if_pos rfl]
      · rw [upd_ne h, if_neg h]
    rw [h1]
    by_cases h : e = y.1
    · rw [if_pos h]
      have : ofEdge e (y :: l) = y.2 :: ofEdge e l := by unfold ofEdge; rw [List.filter_cons_of_pos (by simpa using h.symm)]; rfl
      rw [this]
      simp [nsOf]
    · rw [if_neg h]
      have : ofEdge e (y :: l) = ofEdge e l := by unfold ofEdge; rw [List.filter_cons_of_neg (by simpa using fun h2 => h h2.symm)]
      rw [this]

def repBox (x : NtD) (i : Nat) : List (Nat × MsgL) := if x.kind = 0 then (x.ins i).box ++ firstS x i else firstS x i ++ (x.ins i).box
theorem repS_form (x : NtD) (i : Nat) : (∀ j, (repS x i).ins j = if j = i then { x.ins i with rep := true, box := repBox x i } else x.ins j) ∧
    (∀ e, (repS x i).eds e = if x.kind = 0 then x.eds e else { x.eds e with boxed := (x.eds e).boxed ++ nsOf (ofEdge e (x.ins i).box) }) := by
  unfold repS repBox
  by_cases hk : x.kind = 0
  · rw [if_pos hk]
    refine ⟨fun j => ?_, fun e => ?_⟩
    · show upd (upd x.ins i _) i { upd x.ins i _ i with box := _ } j = _
      by_cases h : j = i
      · subst h; rw [upd_self, upd_self, if_pos rfl, if_pos hk]
      · rw [upd_ne h, upd_ne h, if_neg h]
    · rw [if_pos hk]; rfl
  · rw [if_neg hk]
    refine ⟨fun j => ?_, fun e => ?_⟩
    · show upd (boxedL (x.setRep i true) (x.ins i).box).ins i { (boxedL (x.setRep i true) (x.ins i).box).ins i with box := _ } j = _
      rw [boxedL_ins]
      show upd (upd x.ins i _) i { upd x.ins i _ i with box := _ } j = _
      by_cases h : j = i
      · subst h; rw [upd_self, upd_self, if_pos rfl, if_neg hk]
      · rw [upd_ne h, upd_ne h, if_neg h]
    · rw [if_neg hk]
      exact boxedL_form _ _ _

theorem first_ofEdge (x : NtD) (i e : Nat) (he : e < x.ne) : ofEdge e (firstS x i) = if (x.eds e).src = i then [barM x.num] else [] := by
  unfold firstS
  rw [outs_ofEdge]
  by_cases h : (x.eds e).src = i
  · rw [if_pos h, if_pos ⟨he, h⟩]
  · rw [if_neg h, if_neg fun h2 => h h2.2]

/-! ### flush -/
theorem flush_form {x y : NtD} {i : Nat} (h : flushS x i = some y) : ∃ k, ∃ (hk : k < (x.ins i).box.length), (x.eds (x.ins i).box[k].1).q.length < 4 ∧ (∀ j, (hj : j < k) → ¬ (x.eds ((x.ins i).box[j]'(by omega)).1).q.length < 4) ∧ y = (x.push (x.ins i).box[k]).setBox i ((x.ins i).box.take k ++ (x.ins i).box.drop (k + 1)) := by
  unfold flushS at h
  cases hf : (x.ins i).box.findIdx? (freeAt x) with
  | none => rw [hf] at h; cases h
  | some k =>
    rw [hf] at h
    rw [List.findIdx?_eq_some_iff_getElem] at hf
    obtain ⟨hk, h1, h2⟩ := hf
    refine ⟨k, hk, by simpa [freeAt] using h1, fun j hj => ?_, ?_⟩
    · have := h2 j hj
      simpa [freeAt] using this
    · have h := Option.some.inj h
      rw [← h, List.getElem?_eq_getElem hk]
      rfl
theorem flush_none {x : NtD} {i : Nat} (h : flushS x i = none) : ∀ y ∈ (x.ins i).box, ¬ (x.eds y.1).q.length < 4 := by
  unfold flushS at h
  cases hf : (x.ins i).box.findIdx? (freeAt x) with
  | some k => rw [hf] at h; cases h
  | none =>
    rw [List.findIdx?_eq_none_iff] at hf
    intro y hy
    have := hf y hy
    simpa [freeAt] using this

theorem ofEdge_none {k : Nat} {l : List (Nat × MsgL)} (h : ∀ y ∈ l, y.1 ≠ k) : ofEdge k l = [] := by
  unfold ofEdge
  rw [List.filter_eq_nil_iff.2 (fun y hy => by simpa using h y hy)]
  rfl
/-- flush leaves what is on the way of each edge -/
theorem flush_stream {x y : NtD} {i : Nat} (h : flushS x i = some y) (hsrc : ∀ z ∈ (x.ins i).box, (x.eds z.1).src = i) (e : Nat) : stream y e = stream x e := by
  obtain ⟨k, hk, h1, h2, rfl⟩ := flush_form h
  have hs := hsrc _ (List.getElem_mem hk)
  have hsplit : (x.ins i).box = (x.ins i).box.take k ++ (x.ins i).box[k] :: (x.ins i).box.drop (k + 1) := by
    rw [← List.drop_eq_getElem_cons hk, List.take_append_drop]
  generalize hit : (x.ins i).box[k] = it at *
  have hpre : ofEdge it.1 ((x.ins i).box.take k) = [] := ofEdge_none fun y hy => by
    obtain ⟨j, hj, e⟩ := List.getElem_of_mem hy
    rw [List.length_take] at hj
    rw [List.getElem_take] at e
    intro he
    have := h2 j (by omega)
    rw [e, he] at this
    exact this h1
  have hsame := (same_push x it).trans (same_box (x.push it) i ((x.ins i).box.take k ++ (x.ins i).box.drop (k + 1)))
  unfold stream
  rw [hsame.src]
  have heds : (((x.push it).setBox i ((x.ins i).box.take k ++ (x.ins i).box.drop (k + 1))).eds e).q = if e = it.1 then (x.eds e).q ++ [it.2] else (x.eds e).q := by
    show (upd x.eds it.1 _ e).q = _
    by_cases he : e = it.1
    · subst he; rw [upd_self, if_pos rfl]
    · rw [upd_ne he, if_neg he]
  have hins : ∀ j, (((x.push it).setBox i ((x.ins i).box.take k ++ (x.ins i).box.drop (k + 1))).ins j).box = if j = i then (x.ins i).box.take k ++ (x.ins i).box.drop (k + 1) else (x.ins j).box := fun j => by
    show (upd x.ins i _ j).box = _
    by_cases he : j = i
    · subst he; rw [upd_self, if_pos rfl]
    · rw [upd_ne he, if_neg he]
  rw [heds, hins]
  by_cases he : e = it.1
  · subst he
    rw [if_pos rfl, if_pos hs, hs]
    have h3 : ofEdge it.1 (it :: (x.ins i).box.drop (k + 1)) = it.2 :: ofEdge it.1 ((x.ins i).box.drop (k + 1)) := by
      unfold ofEdge; rw [List.filter_cons_of_pos (by simp)]; rfl
    have h4 : ofEdge it.1 (x.ins i).box = it.2 :: ofEdge it.1 ((x.ins i).box.drop (k + 1)) := by
      conv => lhs; rw [hsplit]
      rw [ofEdge_append, hpre, h3]
      rfl
    rw [h4, ofEdge_append, hpre]
    simp
  · rw [if_neg he]
    by_cases hsi : (x.eds e).src = i
    · rw [if_pos hsi, hsi]
      have h3 : ofEdge e (x.ins i).box = ofEdge e ((x.ins i).box.take k) ++ ofEdge e ((x.ins i).box.drop (k + 1)) := by
        conv => lhs; rw [hsplit]
        rw [ofEdge_append]
        congr 1
        unfold ofEdge
        rw [List.filter_cons_of_neg (by simpa using fun h => he h.symm)]
      rw [h3, ofEdge_append]
    · rw [if_neg hsi]
end Go.Proofs.Ytmlnockcmdameaa
end

/-
  The invariant of the net: what is true while no checkpoint is made, and while one is.
-/
section
set_option linter.unusedVariables false
set_option linter.unusedSimpArgs false
namespace Go.Proofs.Ytmlnockcmdameaa
open Go.Vc

/-! ### places among the channels of a receiver -/
def degK (x : NtD) (i : Nat) : Nat → Nat
  | 0 => 0
  | k + 1 => if (x.eds k).dst = i then degK x i k + 1 else degK x i k
theorem inbK_deg (x : NtD) (e : Nat) : ∀ k, inbK x e k = degK x (x.eds e).dst k
  | 0 => rfl
  | k + 1 => by unfold inbK degK; rw [inbK_deg x e k]
theorem degK_mono (x : NtD) (i : Nat) {a : Nat} : ∀ {b : Nat}, a ≤ b → degK x i a ≤ degK x i b
  | 0, h => by
    have : a = 0 := by omega
    subst this; exact Nat.le_refl _
  | b + 1, h => by
    rcases Nat.lt_or_ge b a with h2 | h2
    · have : a = b + 1 := by omega
      subst this; exact Nat.le_refl _
    · have := degK_mono x i h2
      show _ ≤ if (x.eds b).dst = i then degK x i b + 1 else degK x i b
      split <;> omega
theorem inb_lt {x : NtD} {e : Nat} (he : e < x.ne) : inb x e < degK x (x.eds e).dst x.ne := by
  unfold inb
  rw [inbK_deg]
  have h1 : degK x (x.eds e).dst (e + 1) = degK x (x.eds e).dst e + 1 := by rw [degK, if_pos rfl]
  have h2 := degK_mono x (x.eds e).dst (show e + 1 ≤ x.ne from he)
  omega
theorem inb_lt_inb {x : NtD} {e f : Nat} (h : e < f) (hd : (x.eds e).dst = (x.eds f).dst) : inb x e < inb x f := by
  unfold inb
  rw [inbK_deg, inbK_deg, hd]
  have h1 : degK x (x.eds f).dst (e + 1) = degK x (x.eds f).dst e + 1 := by rw [degK, if_pos hd]
  have h2 := degK_mono x (x.eds f).dst (show e + 1 ≤ f from h)
  omega
theorem inb_inj {x : NtD} {e f : Nat} (hd : (x.eds e).dst = (x.eds f).dst) (h : inb x e = inb x f) : e = f := by
  rcases Nat.lt_trichotomy e f with h1 | h1 | h1
  · have := inb_lt_inb h1 hd; omega
  · exact h1
  · have := inb_lt_inb h1 hd.symm; omega
theorem deg_sur {x : NtD} {i j : Nat} : ∀ {k : Nat}, j < degK x i k → ∃ e, e < k ∧ (x.eds e).dst = i ∧ degK x i e = j
  | 0, h => by simp [degK] at h
  | k + 1, h => by
    rcases Nat.lt_or_ge j (degK x i k) with h2 | h2
    · obtain ⟨e, h3, h4, h5⟩ := deg_sur h2
      exact ⟨e, by omega, h4, h5⟩
    · rw [degK] at h
      split at h
      · rename_i hd
        exact ⟨k, by omega, hd, by omega⟩
      · omega
theorem inb_sur {x : NtD} {i j : Nat} (h : j < degK x i x.ne) : ∃ e, e < x.ne ∧ (x.eds e).dst = i ∧ inb x e = j := by
  obtain ⟨e, h1, h2, h3⟩ := deg_sur h
  refine ⟨e, h1, h2, ?_⟩
  unfold inb
  rw [inbK_deg, h2]
  exact h3
theorem degK_same {x y : NtD} (h : SameE x y) (i : Nat) : ∀ k, degK y i k = degK x i k
  | 0 => rfl
  | k + 1 => by unfold degK; rw [h.dst, degK_same h i k]
theorem inb_same {x y : NtD} (h : SameE x y) (e : Nat) : inb y e = inb x e := by
  unfold inb
  rw [inbK_deg, inbK_deg, h.dst, degK_same h]

theorem nodup_le : ∀ {n : Nat} {l : List Nat}, l.Nodup → (∀ a ∈ l, a < n) → l.length ≤ n
  | 0, l, _, h => by
    have : l = [] := by
      cases l with
      | nil => rfl
      | cons a l => have := h a (by simp); omega
    subst this; simp
  | n + 1, l, hn, h => by
    by_cases hm : n ∈ l
    · have h1 := nodup_le (n := n) (hn.erase n) fun a ha => by
        have := (hn.mem_erase_iff).1 ha
        have := h a this.2
        omega
      rw [List.length_erase_of_mem hm] at h1
      omega
    · have h1 := nodup_le (n := n) hn fun a ha => by
        have h2 := h a ha
        have : a ≠ n := fun e => hm (e ▸ ha)
        omega
      omega
theorem nodup_all {n : Nat} {l : List Nat} (hn : l.Nodup) (h : ∀ a ∈ l, a < n) (hl : l.length = n) {j : Nat} (hj : j < n) : j ∈ l := by
  refine Classical.byContradiction fun hm => ?_
  have := nodup_le (n := n) (l := j :: l) (List.nodup_cons.2 ⟨hm, hn⟩) (fun a ha => by
    rcases List.mem_cons.1 ha with rfl | ha
    · exact hj
    · exact h a ha)
  rw [List.length_cons] at this
  omega
theorem not_all {n : Nat} {l : List Nat} (hn : l.Nodup) (h : ∀ a ∈ l, a < n) (hl : l.length ≠ n) : ∃ j, j < n ∧ j ∉ l := by
  refine Classical.byContradiction fun hc => ?_
  have h1 := nodup_le hn h
  have hall : ∀ j, j < n → j ∈ l := fun j hj => Classical.byContradiction fun h2 => hc ⟨j, hj, h2⟩
  have h2 : ∀ m, m ≤ n → m ≤ l.length := fun m hm => by
    have : (List.range m).length ≤ l.length := by
      have key : ∀ (r s : List Nat), r.Nodup → (∀ a ∈ r, a ∈ s) → r.length ≤ s.length := fun r => by
        induction r with
        | nil => intro s _ _; simp
        | cons a r ih =>
          intro s hr hs
          have h1 := ih (s.erase a) (List.nodup_cons.1 hr).2 (fun b hb => (List.mem_erase_of_ne (fun e => (List.nodup_cons.1 hr).1 (by rw [← e]; exact hb))).2 (hs b (by simp [hb])))
          rw [List.length_erase_of_mem (hs a (by simp))] at h1
          have : 0 < s.length := List.length_pos_of_mem (hs a (by simp))
          rw [List.length_cons]; omega
      exact key _ _ List.nodup_range fun a ha => hall a (by have := List.mem_range.1 ha; omega)
    simpa using this
  have := h2 n (Nat.le_refl _)
  omega

/-! ### the invariant -/
def arv (x : NtD) (k : Nat) : Bool := if (x.ins (x.eds k).dst).gate.busy then decide (inb x k ∈ (x.ins (x.eds k).dst).gate.came) else (x.ins (x.eds k).dst).rep

/-- messages of the net -/
def Fit (m : MsgL) : Prop := (m.kind = 1 ∧ 1 ≤ m.n ∧ m.n ≤ 1000) ∨ (m.kind = 2 ∧ 0 ≤ m.n ∧ m.n ≤ 2)
theorem Fit.ok {m : MsgL} (h : Fit m) : MsgOk m := by
  rcases h with ⟨h1, h2, h3⟩ | ⟨h1, h2, h3⟩
  · exact ⟨.inl h1, by omega, by omega⟩
  · exact ⟨.inr h1, by omega, by omega⟩

def nmark (l : List (Nat × MsgL)) : Nat := l.countP fun y => decide (y.2.kind ≠ 1)
def nbars (l : List (Nat × MsgL)) : Nat := l.countP fun y => decide (y.2.kind = 1)
theorem len_parts (l : List (Nat × MsgL)) : l.length = nmark l + nbars l := by
  unfold nmark nbars
  induction l with
  | nil => rfl
  | cons y l ih =>
    rw [List.countP_cons, List.countP_cons, List.length_cons, ih]
    by_cases h : y.2.kind = 1 <;> simp [h] <;> omega
theorem nmark_append (a b : List (Nat × MsgL)) : nmark (a ++ b) = nmark a + nmark b := List.countP_append
theorem nbars_append (a b : List (Nat × MsgL)) : nbars (a ++ b) = nbars a + nbars b := List.countP_append
theorem nmark_outs (l : List Nat) (m : MsgL) : nmark (l.map fun e => (e, m)) = if m.kind = 1 then 0 else l.length := by
  unfold nmark
  induction l with
  | nil => simp
  | cons a l ih =>
    rw [List.map_cons, List.countP_cons, ih]
    by_cases h : m.kind = 1 <;> simp [h]
theorem nbars_outs (l : List Nat) (m : MsgL) : nbars (l.map fun e => (e, m)) = if m.kind = 1 then l.length else 0 := by
  unfold nbars
  induction l with
  | nil => simp
  | cons a l ih =>
    rw [List.map_cons, List.countP_cons, ih]
    by_cases h : m.kind = 1 <;> simp [h]

structure Com (x : NtD) : Prop where
  n0 : 1 ≤ x.n
  n5 : x.n ≤ 5
  ne6 : x.ne ≤ 6
  lt : ∀ k, k < x.ne → (x.eds k).src < (x.eds k).dst ∧ (x.eds k).dst < x.n
  ch : ∀ i, i < x.n → (x.ins i).gate.ch = degK x i x.ne
  kind : x.kind = 0 ∨ x.kind = 1
  qlen : ∀ k, k < x.ne → (x.eds k).q.length ≤ 4
  fit : ∀ k, k < x.ne → ∀ m ∈ stream x k, Fit m
  item : ∀ i, i < x.n → ∀ y ∈ (x.ins i).box, y.1 < x.ne ∧ (x.eds y.1).src = i
  marks : ∀ i, i < x.n → nmark (x.ins i).box ≤ x.ne
  boxed : ∀ k, k < x.ne → (x.eds k).boxed.length ≤ 12
  came : ∀ i, i < x.n → (x.ins i).gate.came.Nodup ∧ (∀ j ∈ (x.ins i).gate.came, j < (x.ins i).gate.ch) ∧ ((x.ins i).gate.busy = false → (x.ins i).gate.came = [])
structure Idle (x : NtD) : Prop where
  num : x.num = 0
  nobar : ∀ k, k < x.ne → nbar (stream x k) = 0
  calm : ∀ i, i < x.n → (x.ins i).gate.busy = false ∧ (x.ins i).rep = false
def EdgeOk (kind num : Int) (a r d : Bool) (s : List MsgL) (e : EdD) : Prop :=
  nbar s = (if (r && !a) = true then 1 else 0) ∧ (a = true → r = true) ∧ e.made = e.handled ++ e.flying ++ (if a = true then [] else nsOf (before s)) ++ e.boxed ∧ (kind = 0 ∨ r = false → e.boxed = []) ∧ (kind = 0 ∨ d = false → e.flying = []) ∧ ∀ m ∈ s, m.kind = 1 → m.n = num
def InstOk (kind num : Int) (ne : Nat) (src : Bool) (a : InD) : Prop :=
  (a.gate.busy = true → a.gate.num = num ∧ a.gate.kind = kind ∧ a.gate.came.length ≠ a.gate.ch ∧ (kind = 0 → a.rep = false) ∧ (kind = 1 → a.rep = true)) ∧ (src = true → a.rep = true) ∧ nbars a.box ≤ if a.rep = true then ne else 0
structure Act (x : NtD) : Prop where
  num : 1 ≤ x.num ∧ x.num ≤ 1000
  edge : ∀ k, k < x.ne → EdgeOk x.kind x.num (arv x k) (x.ins (x.eds k).src).rep (x.ins (x.eds k).dst).rep (stream x k) (x.eds k)
  inst : ∀ i, i < x.n → InstOk x.kind x.num x.ne (sourceS x i) (x.ins i)

/-! ### edges -/
section
variable {kind num : Int} {a r d : Bool} {s : List MsgL} {e : EdD}
/-- a mark is produced -/
theorem EdgeOk.add (h : EdgeOk kind num a r d s e) {m : MsgL} (hm : m.kind ≠ 1) {e' : EdD} (he : e'.handled = e.handled ∧ e'.flying = e.flying ∧ e'.boxed = e.boxed ∧ e'.made = if r = false then e.made ++ [m.n] else e.made) : EdgeOk kind num a r d (s ++ [m]) e' := by
  obtain ⟨h1, h2, h3, h4, h5, h6⟩ := h
  obtain ⟨g1, g2, g3, g4⟩ := he
  refine ⟨?_, h2, ?_, by rw [g3]; exact h4, by rw [g2]; exact h5, fun u hu hk => ?_⟩
  · rw [nbar_append, h1, nbar_cons, if_neg hm]; rfl
  · rw [g1, g2, g3, g4]
    cases ha : a with
    | true =>
      rw [ha] at h2 h3
      rw [h2 rfl, if_pos rfl, if_neg (by simp)]
      rw [if_pos rfl] at h3
      exact h3
    | false =>
      rw [ha] at h1 h3
      rw [if_neg Bool.false_ne_true] at h3 ⊢
      cases hr : r with
      | true =>
        rw [hr] at h1
        rw [if_neg (by simp), before_stop (by rw [h1]; decide)]
        exact h3
      | false =>
        rw [hr] at h1
        have h4' := h4 (.inr hr)
        rw [if_pos rfl, h3, h4', before_append h1, before_cons hm, nsOf_append, before_all h1]
        simp [nsOf, before]
  · rcases List.mem_append.1 hu with hu | hu
    · exact h6 u hu hk
    · rw [List.mem_singleton.1 hu] at hk; exact absurd hk hm
/-- a mark is taken ahead of the receiver's report -/
theorem EdgeOk.take {m : MsgL} (h : EdgeOk kind num a r d (m :: s) e) (hm : m.kind ≠ 1) (hd : d = false) (ha : a = false) : EdgeOk kind num a r d s { e with handled := e.handled ++ [m.n] } := by
  obtain ⟨h1, h2, h3, h4, h5, h6⟩ := h
  rw [nbar_cons, if_neg hm] at h1
  refine ⟨h1, h2, ?_, h4, h5, fun u hu => h6 u (by simp [hu])⟩
  show e.made = _
  rw [h3, before_cons hm, ha]
  simp [h5 (.inr hd), nsOf]
/-- .. after it, on a channel whose barrier has not come -/
theorem EdgeOk.fly {m : MsgL} (h : EdgeOk kind num a r d (m :: s) e) (hm : m.kind ≠ 1) (hd : d = true) (hk : kind ≠ 0) (ha : a = false) : EdgeOk kind num a r d s { e with flying := e.flying ++ [m.n] } := by
  obtain ⟨h1, h2, h3, h4, h5, h6⟩ := h
  rw [nbar_cons, if_neg hm] at h1
  refine ⟨h1, h2, ?_, h4, ?_, fun u hu => h6 u (by simp [hu])⟩
  · show e.made = _
    rw [h3, before_cons hm, ha]
    simp [nsOf]
  · rintro (h | h)
    · exact absurd h hk
    · rw [hd] at h; cases h
/-- .. whose barrier has come -/
theorem EdgeOk.past {m : MsgL} (h : EdgeOk kind num a r d (m :: s) e) (hm : m.kind ≠ 1) (ha : a = true) : EdgeOk kind num a r d s e := by
  obtain ⟨h1, h2, h3, h4, h5, h6⟩ := h
  rw [nbar_cons, if_neg hm] at h1
  refine ⟨h1, h2, ?_, h4, h5, fun u hu => h6 u (by simp [hu])⟩
  rw [h3, ha, if_pos rfl, if_pos rfl]
/-- the barrier is taken -/
theorem EdgeOk.bar {m : MsgL} (h : EdgeOk kind num a r d (m :: s) e) (hm : m.kind = 1) (d' : Bool) (hd : d' = false → d = false) : EdgeOk kind num true r d' s e ∧ a = false ∧ r = true := by
  obtain ⟨h1, h2, h3, h4, h5, h6⟩ := h
  rw [nbar_cons, if_pos hm] at h1
  have hra : r = true ∧ a = false := by
    cases hr : r <;> cases ha : a <;> rw [hr, ha] at h1 <;> simp at h1 <;> simp
  refine ⟨⟨?_, fun _ => hra.1, ?_, h4, fun h => h5 (h.imp id hd), fun u hu => h6 u (by simp [hu])⟩, hra.2, hra.1⟩
  · rw [hra.1, hra.2] at h1
    rw [hra.1]
    simp at h1 ⊢
    exact h1
  · rw [h3, hra.2, before_bar hm]
    simp [nsOf]
/-- the sender reports: an aligned checkpoint -/
theorem EdgeOk.rep0 (h : EdgeOk kind num a r d s e) (hk : kind = 0) (hr : r = false) : EdgeOk kind num a true d (s ++ [barM num]) e := by
  obtain ⟨h1, h2, h3, h4, h5, h6⟩ := h
  have ha : a = false := by cases ha : a with | false => rfl | true => rw [h2 ha] at hr; cases hr
  rw [hr] at h1
  refine ⟨?_, fun _ => rfl, ?_, fun _ => h4 (.inl hk), h5, fun u hu hk => ?_⟩
  · rw [nbar_append, h1, ha]; rfl
  · rw [h3, before_append h1, before_bar rfl, List.append_nil, before_all h1]
  · rcases List.mem_append.1 hu with hu | hu
    · exact h6 u hu hk
    · rw [List.mem_singleton.1 hu]
/-- .. an overtaking one -/
theorem EdgeOk.rep1 {q t : List MsgL} (h : EdgeOk kind num a r d (q ++ t) e) (hk : kind = 1) (hr : r = false) : EdgeOk kind num a true d (q ++ barM num :: t) { e with boxed := e.boxed ++ nsOf t } := by
  obtain ⟨h1, h2, h3, h4, h5, h6⟩ := h
  have ha : a = false := by cases ha : a with | false => rfl | true => rw [h2 ha] at hr; cases hr
  rw [hr] at h1
  have h1' := h1
  rw [nbar_append] at h1
  have hq : nbar q = 0 := by simp at h1; omega
  have ht : nbar t = 0 := by simp at h1; omega
  refine ⟨?_, fun _ => rfl, ?_, ?_, h5, fun u hu hk => ?_⟩
  · rw [nbar_append, nbar_cons, hq, ht, ha]; rfl
  · show e.made = _
    rw [h3, h4 (.inr hr), before_all h1', ha, before_append hq, before_bar rfl, nsOf_append]
    simp
  · rintro (h | h)
    · rw [h] at hk; cases hk
    · cases h
  · rcases List.mem_append.1 hu with hu | hu
    · exact h6 u (by simp [hu]) hk
    · rcases List.mem_cons.1 hu with rfl | hu
      · rfl
      · exact h6 u (by simp [hu]) hk
end
end Go.Proofs.Ytmlnockcmdameaa
end

/-
  The invariant is kept: flush, produce, and taking a mark.
-/
section
set_option linter.unusedVariables false
set_option linter.unusedSimpArgs false
namespace Go.Proofs.Ytmlnockcmdameaa
open Go.Vc

/-- the gates stay, and who has reported -/
structure Gts (x z : NtD) : Prop where
  same : SameE x z
  kind : z.kind = x.kind
  num : z.num = x.num
  gate : ∀ i, (z.ins i).gate = (x.ins i).gate
  rep : ∀ i, (z.ins i).rep = (x.ins i).rep

def Good (x : NtD) : Prop := Com x ∧ (Idle x ∨ Act x)

section
variable {x z : NtD}
theorem Gts.arv (G : Gts x z) (k : Nat) : arv z k = arv x k := by
  unfold Go.Proofs.Ytmlnockcmdameaa.arv
  rw [G.same.dst, G.gate, G.rep, inb_same G.same]
theorem Gts.com (G : Gts x z) (c : Com x) (h1 : ∀ k, k < x.ne → (z.eds k).q.length ≤ 4) (h2 : ∀ k, k < x.ne → ∀ m ∈ stream z k, Fit m) (h3 : ∀ i, i < x.n → ∀ y ∈ (z.ins i).box, y.1 < x.ne ∧ (x.eds y.1).src = i) (h4 : ∀ i, i < x.n → nmark (z.ins i).box ≤ x.ne) (h5 : ∀ k, k < x.ne → (z.eds k).boxed.length ≤ 12) : Com z := by
  have e1 := G.same.n
  have e2 := G.same.ne
  refine ⟨by rw [e1]; exact c.n0, by rw [e1]; exact c.n5, by rw [e2]; exact c.ne6, fun k hk => ?_, fun i hi => ?_, by rw [G.kind]; exact c.kind, fun k hk => h1 k (by omega), fun k hk => h2 k (by omega), fun i hi y hy => ?_, fun i hi => ?_, fun k hk => h5 k (by omega), fun i hi => ?_⟩
  · rw [G.same.src, G.same.dst, e1]; exact c.lt k (by omega)
  · rw [G.gate, e2, degK_same G.same]; exact c.ch i (by omega)
  · rw [e2, G.same.src]; exact h3 i (by omega) y hy
  · rw [e2]; exact h4 i (by omega)
  · rw [G.gate]; exact c.came i (by omega)
theorem Gts.act (G : Gts x z) (a : Act x) (h1 : ∀ k, k < x.ne → EdgeOk x.kind x.num (Go.Proofs.Ytmlnockcmdameaa.arv x k) (x.ins (x.eds k).src).rep (x.ins (x.eds k).dst).rep (stream x k) (x.eds k) → EdgeOk x.kind x.num (Go.Proofs.Ytmlnockcmdameaa.arv x k) (x.ins (x.eds k).src).rep (x.ins (x.eds k).dst).rep (stream z k) (z.eds k)) (h2 : ∀ i, i < x.n → nbars (z.ins i).box ≤ nbars (x.ins i).box) : Act z := by
  have e1 := G.same.n
  have e2 := G.same.ne
  refine ⟨by rw [G.num]; exact a.num, fun k hk => ?_, fun i hi => ?_⟩
  · have := h1 k (by omega) (a.edge k (by omega))
    rw [G.kind, G.num, G.arv, G.same.src, G.same.dst, G.rep, G.rep]
    exact this
  · obtain ⟨g1, g2, g3⟩ := a.inst i (by omega)
    rw [G.kind, G.num, e2, sourceS_same G.same]
    unfold InstOk
    rw [G.gate, G.rep]
    exact ⟨g1, g2, Nat.le_trans (h2 i (by omega)) g3⟩
theorem Gts.idle (G : Gts x z) (a : Idle x) (h1 : ∀ k, k < x.ne → nbar (stream z k) = 0) : Idle z := by
  have e1 := G.same.n
  have e2 := G.same.ne
  exact ⟨by rw [G.num]; exact a.num, fun k hk => h1 k (by omega), fun i hi => by rw [G.gate, G.rep]; exact a.calm i (by omega)⟩
end

/-! ### flush -/
theorem flush_gts {x y : NtD} {i : Nat} (h : flushS x i = some y) : Gts x y := by
  obtain ⟨k, hk, _, _, rfl⟩ := flush_form h
  refine ⟨(same_push x _).trans (same_box _ _ _), rfl, rfl, fun j => ?_, fun j => ?_⟩
  · show (upd x.ins i _ j).gate = _
    by_cases h : j = i
    · subst h; rw [upd_self]; rfl
    · rw [upd_ne h]
  · show (upd x.ins i _ j).rep = _
    by_cases h : j = i
    · subst h; rw [upd_self]; rfl
    · rw [upd_ne h]
theorem flush_box {x y : NtD} {i : Nat} (h : flushS x i = some y) (j : Nat) : ((y.ins j).box).Sublist (x.ins j).box := by
  obtain ⟨k, hk, _, _, rfl⟩ := flush_form h
  show (upd x.ins i _ j).box.Sublist _
  by_cases h : j = i
  · subst h
    rw [upd_self]
    show (List.take k (x.ins j).box ++ List.drop (k + 1) (x.ins j).box).Sublist _
    have hsplit : (x.ins j).box = (x.ins j).box.take k ++ (x.ins j).box[k] :: (x.ins j).box.drop (k + 1) := by
      rw [← List.drop_eq_getElem_cons hk, List.take_append_drop]
    conv => rhs; rw [hsplit]
    exact List.Sublist.append (List.Sublist.refl _) (List.sublist_cons_self _ _)
  · rw [upd_ne h]
    exact List.Sublist.refl _
theorem flush_eds {x y : NtD} {i : Nat} (h : flushS x i = some y) (e : Nat) : (y.eds e).made = (x.eds e).made ∧ (y.eds e).boxed = (x.eds e).boxed ∧ (y.eds e).handled = (x.eds e).handled ∧ (y.eds e).flying = (x.eds e).flying ∧ (y.eds e).sent ≤ (x.eds e).sent + 1 ∧ ((x.eds e).q.length ≤ 4 → (y.eds e).q.length ≤ 4) := by
  obtain ⟨k, hk, h4, _, rfl⟩ := flush_form h
  generalize (x.ins i).box[k] = it at *
  show (upd x.eds it.1 _ e).made = _ ∧ (upd x.eds it.1 _ e).boxed = _ ∧ (upd x.eds it.1 _ e).handled = _ ∧ (upd x.eds it.1 _ e).flying = _ ∧ (upd x.eds it.1 _ e).sent ≤ _ ∧ (_ → (upd x.eds it.1 _ e).q.length ≤ 4)
  by_cases h : e = it.1
  · subst h
    rw [upd_self]
    refine ⟨rfl, rfl, rfl, rfl, Nat.le_refl _, fun _ => ?_⟩
    rw [List.length_append, List.length_singleton]
    omega
  · rw [upd_ne h]
    exact ⟨rfl, rfl, rfl, rfl, by omega, id⟩
theorem good_flush {x y : NtD} {i : Nat} (hi : i < x.n) (h : flushS x i = some y) (g : Good x) : Good y := by
  obtain ⟨c, g⟩ := g
  have G := flush_gts h
  have hst : ∀ e, stream y e = stream x e := fun e => flush_stream h (fun z hz => (c.item i hi z hz).2) e
  refine ⟨G.com c (fun k hk => (flush_eds h k).2.2.2.2.2 (c.qlen k hk)) (fun k hk => by rw [hst]; exact c.fit k hk) (fun j hj z hz => c.item j hj z ((flush_box h j).subset hz)) (fun j hj => Nat.le_trans ((flush_box h j).countP_le) (c.marks j hj)) (fun k hk => by rw [(flush_eds h k).2.1]; exact c.boxed k hk), ?_⟩
  rcases g with g | g
  · exact .inl (G.idle g fun k hk => by rw [hst]; exact g.nobar k hk)
  · refine .inr (G.act g (fun k hk he => ?_) (fun j hj => (flush_box h j).countP_le))
    obtain ⟨h1, h2, h3, h4, _⟩ := flush_eds h k
    rw [hst]
    unfold EdgeOk at he ⊢
    rw [h1, h2, h3, h4]
    exact he

/-! ### produce -/
theorem prod_gts (x : NtD) (i : Nat) (m : MsgL) : Gts x (prodS x i m) := by
  obtain ⟨h1, h2, h3, h4⟩ := prodK_form x i m x.ne
  refine ⟨same_prodK x i m x.ne, h3, h4, fun j => ?_, fun j => ?_⟩
  · show ((prodK x i m x.ne).ins j).gate = _
    rw [h1]
    by_cases h : j = i
    · subst h; rw [if_pos rfl]
    · rw [if_neg h]
  · show ((prodK x i m x.ne).ins j).rep = _
    rw [h1]
    by_cases h : j = i
    · subst h; rw [if_pos rfl]
    · rw [if_neg h]
theorem prod_stream (x : NtD) (i : Nat) (m : MsgL) {e : Nat} (he : e < x.ne) : stream (prodS x i m) e = if (x.eds e).src = i then stream x e ++ [m] else stream x e := by
  obtain ⟨h1, h2, h3, h4⟩ := prodK_form x i m x.ne
  unfold stream
  rw [(prod_gts x i m).same.src]
  show ((prodK x i m x.ne).eds e).q ++ ofEdge e ((prodK x i m x.ne).ins _).box = _
  rw [h1, h2]
  have hq : (if e < x.ne ∧ (x.eds e).src = i ∧ (x.ins i).rep = false then ({ x.eds e with made := (x.eds e).made ++ [m.n] } : EdD) else x.eds e).q = (x.eds e).q := by split <;> rfl
  rw [hq]
  by_cases h : (x.eds e).src = i
  · rw [if_pos h, if_pos h, h]
    show _ ++ ofEdge e ((x.ins i).box ++ _) = _
    rw [ofEdge_append, outs_ofEdge, if_pos ⟨he, h⟩, List.append_assoc]
  · rw [if_neg h, if_neg h]
theorem outs_len_le (x : NtD) (i : Nat) (k : Nat) : (outsK x i k).length ≤ k := outsK_len i k

theorem good_prod {x : NtD} {i : Nat} (hi : i < x.n) {m : MsgL} (hm : Fit m) (hk2 : m.kind = 2) (hb : (x.ins i).box = []) (g : Good x) : Good (prodS x i m) := by
  obtain ⟨c, g⟩ := g
  have G := prod_gts x i m
  obtain ⟨h1, h2, h3, h4⟩ := prodK_form x i m x.ne
  have hm1 : m.kind ≠ 1 := by omega
  have hbox : ∀ j, ((prodS x i m).ins j).box = if j = i then (outsK x i x.ne).map fun e => (e, m) else (x.ins j).box := fun j => by
    show ((prodK x i m x.ne).ins j).box = _
    rw [h1]
    by_cases h : j = i
    · subst h; rw [if_pos rfl, if_pos rfl]; show (x.ins j).box ++ _ = _; rw [hb]; rfl
    · rw [if_neg h, if_neg h]
  have heds : ∀ e, e < x.ne → (prodS x i m).eds e = if (x.eds e).src = i ∧ (x.ins i).rep = false then { x.eds e with made := (x.eds e).made ++ [m.n] } else x.eds e := fun e he => by
    show (prodK x i m x.ne).eds e = _
    rw [h2]
    by_cases h : (x.eds e).src = i ∧ (x.ins i).rep = false
    · rw [if_pos h, if_pos ⟨he, h⟩]
    · rw [if_neg h, if_neg fun h5 => h h5.2]
  have hnb : ∀ j, nbars ((prodS x i m).ins j).box ≤ nbars (x.ins j).box := fun j => by
    rw [hbox]
    by_cases h : j = i
    · rw [if_pos h, nbars_outs, if_neg hm1]; omega
    · rw [if_neg h]; omega
  refine ⟨G.com c (fun k hk => ?_) (fun k hk u hu => ?_) (fun j hj y hy => ?_) (fun j hj => ?_) (fun k hk => ?_), ?_⟩
  · rw [heds k hk]
    have := c.qlen k hk
    split <;> exact this
  · rw [prod_stream x i m hk] at hu
    by_cases h : (x.eds k).src = i
    · rw [if_pos h] at hu
      rcases List.mem_append.1 hu with hu | hu
      · exact c.fit k hk u hu
      · rw [List.mem_singleton.1 hu]; exact hm
    · rw [if_neg h] at hu; exact c.fit k hk u hu
  · rw [hbox] at hy
    by_cases h : j = i
    · rw [if_pos h] at hy
      obtain ⟨e, he, rfl⟩ := List.mem_map.1 hy
      have := outs_mem.1 he
      exact ⟨this.1, by rw [h]; exact this.2⟩
    · rw [if_neg h] at hy; exact c.item j hj y hy
  · rw [hbox]
    by_cases h : j = i
    · rw [if_pos h, nmark_outs, if_neg hm1]; exact outs_len_le x i x.ne
    · rw [if_neg h]; exact c.marks j hj
  · rw [heds k hk]
    have := c.boxed k hk
    split <;> exact this
  rcases g with g | g
  · refine .inl (G.idle g fun k hk => ?_)
    rw [prod_stream x i m hk]
    split
    · rw [nbar_append, g.nobar k hk, nbar_cons, if_neg hm1]; rfl
    · exact g.nobar k hk
  · refine .inr (G.act g (fun k hk he => ?_) fun j _ => hnb j)
    rw [prod_stream x i m hk, heds k hk]
    by_cases h : (x.eds k).src = i
    · rw [if_pos h]
      refine he.add hm1 ?_
      rw [h]
      by_cases hr : (x.ins i).rep = false
      · rw [if_pos ⟨rfl, hr⟩, if_pos hr]; exact ⟨rfl, rfl, rfl, rfl⟩
      · rw [if_neg fun h5 => hr h5.2, if_neg hr]; exact ⟨rfl, rfl, rfl, rfl⟩
    · rw [if_neg h, if_neg fun h5 => h h5.1]
      exact he

/-! ### what the gate answers -/
theorem arrive_mark {g : GtD} {i : Nat} {m : MsgL} {kind : Int} (hm : m.kind ≠ 1) : (arriveS g i m kind).2 = g ∧ (((arriveS g i m kind).1 = 0 ∧ g.busy = true ∧ g.kind ≠ 1 ∧ i ∈ g.came) ∨ ((arriveS g i m kind).1 = 2 ∧ g.busy = true ∧ g.kind = 1 ∧ i ∉ g.came) ∨
    ((arriveS g i m kind).1 = 1 ∧ (g.busy = true → g.kind = 1 → i ∈ g.came) ∧ (g.busy = true → g.kind ≠ 1 → i ∉ g.came))) := by
  have hm' : decide (m.kind ≠ 1) = true := decide_eq_true hm
  unfold arriveS
  simp only [hm', Bool.true_and]
  cases hb : g.busy with
  | false => simp [hm]
  | true =>
    by_cases hk : g.kind = 1
    · by_cases hc : i ∈ g.came
      · simp [hk, hc, hm]
      · simp [hk, hc, hm]
    · by_cases hc : i ∈ g.came
      · simp [hk, hc, hm]
      · simp [hk, hc, hm]
theorem arrive_bar {g : GtD} {i : Nat} {m : MsgL} {kind : Int} (hm : m.kind = 1) (hn : 1 ≤ m.n) (hb : g.busy = true → m.n = g.num ∧ kind = g.kind ∧ i ∉ g.came) : arriveS g i m kind = barrierS g i m.n kind := by
  unfold arriveS
  cases hbb : g.busy with
  | false => simp [hm]; omega
  | true =>
    obtain ⟨h1, h2, h3⟩ := hb hbb
    simp [hm, h1, h2, h3]
    omega

theorem setGate_same (x : NtD) (i : Nat) : x.setGate i (x.ins i).gate = x := by
  unfold NtD.setGate NtD.setIn
  rw [show ({ x.ins i with gate := (x.ins i).gate } : InD) = x.ins i from rfl, upd_id]

/-! ### a mark is taken -/
/-- the message is taken out, and noted -/
def popS (x : NtD) (e : Nat) (q : List MsgL) (m : MsgL) (a : Int) : NtD := flyS (handS (x.setQ e q) e m) e m a
theorem pop_calm (x : NtD) (e : Nat) (q : List MsgL) (m : MsgL) (a : Int) : Calm x (popS x e q m a) := ((calm_q x e q).trans (calm_hand _ _ _)).trans (calm_fly _ _ _ _)
theorem pop_ins (x : NtD) (e : Nat) (q : List MsgL) (m : MsgL) (a : Int) : (popS x e q m a).ins = x.ins := by
  unfold popS flyS handS
  split <;> split <;> rfl
theorem pop_gts (x : NtD) (e : Nat) (q : List MsgL) (m : MsgL) (a : Int) : Gts x (popS x e q m a) :=
  ⟨(pop_calm x e q m a).same, (pop_calm x e q m a).kind, (pop_calm x e q m a).num, fun i => by rw [pop_ins], fun i => by rw [pop_ins]⟩
theorem pop_eds (x : NtD) (e : Nat) (q : List MsgL) (m : MsgL) (a : Int) (k : Nat) : (popS x e q m a).eds k = if k = e then { x.eds e with q := q, handled := if (x.ins (x.eds e).dst).rep = true then (x.eds e).handled else (x.eds e).handled ++ [m.n], flying := if a = 2 then (x.eds e).flying ++ [m.n] else (x.eds e).flying } else x.eds k := by
  have hd : ((x.setQ e q).eds e) = { x.eds e with q := q } := upd_self _ _ _
  have hh : ∀ k, (handS (x.setQ e q) e m).eds k = if k = e then { x.eds e with q := q, handled := if (x.ins (x.eds e).dst).rep = true then (x.eds e).handled else (x.eds e).handled ++ [m.n] } else x.eds k := fun k => by
    unfold handS
    rw [hd]
    show (if (x.ins (x.eds e).dst).rep = true then x.setQ e q else (x.setQ e q).setHandled e ((x.eds e).handled ++ [m.n])).eds k = _
    by_cases hr : (x.ins (x.eds e).dst).rep = true
    · rw [if_pos hr, if_pos hr]
      show upd x.eds e _ k = _
      by_cases h : k = e
      · subst h; rw [upd_self, if_pos rfl]
      · rw [upd_ne h, if_neg h]
    · rw [if_neg hr, if_neg hr]
      show upd (x.setQ e q).eds e { (x.setQ e q).eds e with handled := _ } k = _
      by_cases h : k = e
      · subst h; rw [upd_self, if_pos rfl, hd]
      · rw [upd_ne h, if_neg h]; exact upd_ne h
  unfold popS flyS
  by_cases ha : a = 2
  · rw [if_pos ha, if_pos ha]
    show upd (handS (x.setQ e q) e m).eds e { (handS (x.setQ e q) e m).eds e with flying := ((handS (x.setQ e q) e m).eds e).flying ++ [m.n] } k = _
    by_cases h : k = e
    · subst h; rw [upd_self, if_pos rfl, hh, if_pos rfl]
    · rw [upd_ne h, if_neg h, hh, if_neg h]
  · rw [if_neg ha, if_neg ha, hh]
theorem pop_stream (x : NtD) (e : Nat) (q : List MsgL) (m : MsgL) (a : Int) (hq : (x.eds e).q = m :: q) (k : Nat) : stream x k = if k = e then m :: stream (popS x e q m a) k else stream (popS x e q m a) k := by
  unfold stream
  rw [(pop_gts x e q m a).same.src, pop_ins, pop_eds]
  by_cases h : k = e
  · subst h; rw [if_pos rfl, if_pos rfl, hq]; rfl
  · rw [if_neg h, if_neg h]

theorem good_pop {x : NtD} {e : Nat} (he : e < x.ne) {m : MsgL} {q : List MsgL} (hq : (x.eds e).q = m :: q) (hm : m.kind ≠ 1) (g : Good x) (hr : (arriveS (x.ins (x.eds e).dst).gate (inb x e) m x.kind).1 ≠ 0) : Good (popS x e q m (arriveS (x.ins (x.eds e).dst).gate (inb x e) m x.kind).1) := by
  obtain ⟨c, g⟩ := g
  obtain ⟨_, hcase⟩ := arrive_mark (g := (x.ins (x.eds e).dst).gate) (i := inb x e) (kind := x.kind) hm
  generalize (arriveS (x.ins (x.eds e).dst).gate (inb x e) m x.kind).1 = a at *
  have G := pop_gts x e q m a
  have hst := pop_stream x e q m a hq
  have hdn := (c.lt e he).2
  have hqe : ∀ k, k < x.ne → ((popS x e q m a).eds k).q.length ≤ 4 := fun k hk => by
    have := c.qlen k hk
    rw [pop_eds]
    by_cases h : k = e
    · subst h; rw [if_pos rfl]; rw [hq, List.length_cons] at this; show q.length ≤ 4; omega
    · rw [if_neg h]; exact this
  refine ⟨G.com c hqe (fun k hk u hu => c.fit k hk u ?_) (fun j hj y hy => by rw [pop_ins] at hy; exact c.item j hj y hy) (fun j hj => by rw [pop_ins]; exact c.marks j hj) (fun k hk => by rw [(pop_calm x e q m a).boxed]; exact c.boxed k hk), ?_⟩
  · rw [hst k]
    split
    · exact List.mem_cons_of_mem _ hu
    · exact hu
  rcases g with g | g
  · refine .inl (G.idle g fun k hk => ?_)
    have := g.nobar k hk
    rw [hst k] at this
    split at this
    · rw [nbar_cons] at this; omega
    · exact this
  · refine .inr (G.act g (fun k hk ho => ?_) fun j _ => by rw [pop_ins]; exact Nat.le_refl _)
    rw [pop_eds]
    by_cases hke : k = e
    · subst hke
      rw [hst k, if_pos rfl] at ho
      rw [if_pos rfl]
      obtain ⟨i1, i2, i3⟩ := g.inst _ hdn
      rcases hcase with ⟨h1, _⟩ | ⟨h1, h2, h3, h4⟩ | ⟨h1, h2, h3⟩
      · exact absurd h1 hr
      · -- Record
        obtain ⟨_, j2, _, _, j5⟩ := i1 h2
        have hk1 : x.kind = 1 := by rw [← j2]; exact h3
        have hd := j5 hk1
        have ha : Go.Proofs.Ytmlnockcmdameaa.arv x k = false := by unfold Go.Proofs.Ytmlnockcmdameaa.arv; rw [if_pos h2, decide_eq_false h4]
        rw [hd, if_pos rfl, if_pos h1]
        have := ho.fly hm hd (by omega) ha
        rw [hd] at this
        exact this
      · rw [if_neg (show ¬ a = 2 by omega)]
        by_cases hd : (x.ins (x.eds k).dst).rep = true
        · rw [if_pos hd]
          have ha : Go.Proofs.Ytmlnockcmdameaa.arv x k = true := by
            unfold Go.Proofs.Ytmlnockcmdameaa.arv
            cases hb : (x.ins (x.eds k).dst).gate.busy with
            | false => rw [if_neg Bool.false_ne_true, hd]
            | true =>
              rw [if_pos rfl]
              obtain ⟨_, j2, _, j4, _⟩ := i1 hb
              rcases c.kind with hk0 | hk1
              · rw [j4 hk0] at hd; cases hd
              · exact decide_eq_true (h2 hb (by omega))
          exact ho.past hm ha
        · rw [if_neg hd]
          have hd : (x.ins (x.eds k).dst).rep = false := by simpa using hd
          have ha : Go.Proofs.Ytmlnockcmdameaa.arv x k = false := by
            unfold Go.Proofs.Ytmlnockcmdameaa.arv
            cases hb : (x.ins (x.eds k).dst).gate.busy with
            | false => rw [if_neg Bool.false_ne_true, hd]
            | true =>
              rw [if_pos rfl]
              obtain ⟨_, j2, _, _, j5⟩ := i1 hb
              rcases c.kind with hk0 | hk1
              · exact decide_eq_false (h3 hb (by omega))
              · rw [j5 hk1] at hd; cases hd
          exact ho.take hm hd ha
    · rw [if_neg hke]
      rw [hst k, if_neg hke] at ho
      exact ho
end Go.Proofs.Ytmlnockcmdameaa
end

/-
  The invariant is kept: taking a barrier; starting; forgetting. A checkpoint that is whole is a consistent cut.
-/
section
set_option linter.unusedVariables false
set_option linter.unusedSimpArgs false
namespace Go.Proofs.Ytmlnockcmdameaa
open Go.Vc

theorem EdgeOk.congr {kind num : Int} {a r d d' : Bool} {s : List MsgL} {e e' : EdD} (h : EdgeOk kind num a r d s e) (hd : d' = false → d = false) (h1 : e'.made = e.made) (h2 : e'.handled = e.handled) (h3 : e'.flying = e.flying) (h4 : e'.boxed = e.boxed) : EdgeOk kind num a r d' s e' := by
  obtain ⟨g1, g2, g3, g4, g5, g6⟩ := h
  exact ⟨g1, g2, by rw [h1, h2, h3, h4]; exact g3, by rw [h4]; exact g4, by rw [h3]; exact fun h => g5 (h.imp id hd), g6⟩

theorem nbars_zero {l : List (Nat × MsgL)} : nbars l = 0 ↔ ∀ y ∈ l, y.2.kind ≠ 1 := by
  unfold nbars
  rw [List.countP_eq_zero]
  simp
theorem ofEdge_len (k : Nat) (l : List (Nat × MsgL)) : (ofEdge k l).length ≤ l.length := by
  unfold ofEdge
  rw [List.length_map]
  exact List.length_filter_le _ _
theorem repBox_ofEdge {x : NtD} {i k : Nat} (hk : k < x.ne) : ofEdge k (repBox x i) = if (x.eds k).src = i then (if x.kind = 0 then ofEdge k (x.ins i).box ++ [barM x.num] else barM x.num :: ofEdge k (x.ins i).box) else ofEdge k (x.ins i).box := by
  unfold repBox
  by_cases h0 : x.kind = 0
  · rw [if_pos h0, ofEdge_append, first_ofEdge x i k hk, if_pos h0]
    split <;> simp
  · rw [if_neg h0, ofEdge_append, first_ofEdge x i k hk, if_neg h0]
    split <;> simp
theorem repBox_marks (x : NtD) (i : Nat) : nmark (repBox x i) = nmark (x.ins i).box := by
  have h : nmark (firstS x i) = 0 := by unfold firstS; rw [nmark_outs, if_pos rfl]
  unfold repBox
  split <;> rw [nmark_append, h] <;> omega
theorem repBox_bars (x : NtD) (i : Nat) : nbars (repBox x i) ≤ nbars (x.ins i).box + x.ne := by
  have h : nbars (firstS x i) ≤ x.ne := by unfold firstS; rw [nbars_outs, if_pos rfl]; exact outsK_len i x.ne
  unfold repBox
  split <;> rw [nbars_append] <;> omega
theorem repBox_item {x : NtD} {i : Nat} {y : Nat × MsgL} (h : y ∈ repBox x i) : y ∈ (x.ins i).box ∨ (y.1 < x.ne ∧ (x.eds y.1).src = i) := by
  have key : y ∈ firstS x i → (y.1 < x.ne ∧ (x.eds y.1).src = i) := fun hy => by
    unfold firstS at hy
    obtain ⟨e, he, rfl⟩ := List.mem_map.1 hy
    exact outs_mem.1 he
  unfold repBox at h
  split at h
  · rcases List.mem_append.1 h with h | h
    · exact .inl h
    · exact .inr (key h)
  · rcases List.mem_append.1 h with h | h
    · exact .inr (key h)
    · exact .inl h

set_option maxHeartbeats 1000000 in
theorem good_bar {x : NtD} {e : Nat} (he : e < x.ne) {m : MsgL} {q : List MsgL} (hq : (x.eds e).q = m :: q) (hm : m.kind = 1) (g : Good x) :
    ((arriveS (x.ins (x.eds e).dst).gate (inb x e) m x.kind).1 = 3 ∨ (arriveS (x.ins (x.eds e).dst).gate (inb x e) m x.kind).1 = 4) ∧
    ((arriveS (x.ins (x.eds e).dst).gate (inb x e) m x.kind).1 = 4 → (x.ins (x.eds e).dst).rep = false) ∧ 0 < x.num ∧
    Good (actS ((x.setGate (x.eds e).dst (arriveS (x.ins (x.eds e).dst).gate (inb x e) m x.kind).2).setQ e q) e m (arriveS (x.ins (x.eds e).dst).gate (inb x e) m x.kind).1) := by
  obtain ⟨c, g⟩ := g
  have hse : stream x e = m :: (q ++ ofEdge e (x.ins (x.eds e).src).box) := by unfold stream; rw [hq]; rfl
  rcases g with g | g
  · exfalso
    have := g.nobar e he
    rw [hse, nbar_cons, if_pos hm] at this
    omega
  have hedge := g.edge e he
  rw [hse] at hedge
  have hmn : m.n = x.num := hedge.2.2.2.2.2 m (by simp) hm
  obtain ⟨_, hae, hre⟩ := hedge.bar hm true (by simp)
  obtain ⟨hsd, hdn⟩ := c.lt e he
  obtain ⟨i1, i2, i3⟩ := g.inst _ hdn
  obtain ⟨c1, c2, c3⟩ := c.came _ hdn
  have hch := c.ch _ hdn
  have hin := inb_lt he
  rw [← hch] at hin
  generalize hj : (x.eds e).dst = j at *
  have hnb : (x.ins j).gate.busy = false → (x.ins j).rep = false := fun h => by
    unfold arv at hae
    rw [hj, h, if_neg Bool.false_ne_true] at hae
    exact hae
  have hnc : inb x e ∉ (x.ins j).gate.came := fun h => by
    cases hb : (x.ins j).gate.busy with
    | false => rw [c3 hb] at h; cases h
    | true =>
      unfold arv at hae
      rw [hj, hb, if_pos rfl] at hae
      exact of_decide_eq_false hae h
  have hrj : (x.kind = 0 ∨ (x.ins j).gate.busy = false) → (x.ins j).rep = false := fun h => by
    cases hb : (x.ins j).gate.busy with
    | false => exact hnb hb
    | true =>
      rcases h with h | h
      · exact (i1 hb).2.2.2.1 h
      · rw [hb] at h; cases h
  have harr : arriveS (x.ins j).gate (inb x e) m x.kind = barrierS (x.ins j).gate (inb x e) m.n x.kind := arrive_bar hm (by have := g.num.1; omega) fun hb => ⟨by rw [hmn, (i1 hb).1], (i1 hb).2.1.symm, hnc⟩
  rw [harr]
  have hadd : (x.ins j).gate.add (inb x e) = (x.ins j).gate.came ++ [inb x e] := by unfold GtD.add; rw [if_neg hnc]
  -- the new gate, and whether it reports
  obtain ⟨g', hg'⟩ : ∃ g', (barrierS (x.ins j).gate (inb x e) m.n x.kind).2 = g' := ⟨_, rfl⟩
  obtain ⟨a, ha⟩ : ∃ a, (barrierS (x.ins j).gate (inb x e) m.n x.kind).1 = a := ⟨_, rfl⟩
  rw [hg', ha]
  unfold barrierS at hg' ha
  simp only [hadd] at hg' ha
  obtain ⟨all, hall⟩ : ∃ all, decide (((x.ins j).gate.came ++ [inb x e]).length = (x.ins j).gate.ch) = all := ⟨_, rfl⟩
  rw [hall] at hg' ha
  obtain ⟨snap, hsnap⟩ : ∃ snap, (decide (x.kind = 0) && all || decide (x.kind = 1) && !(x.ins j).gate.busy) = snap := ⟨_, rfl⟩
  rw [hsnap] at ha
  have hsn : snap = true → (x.ins j).rep = false := fun h => by
    rw [h] at hsnap
    simp only [Bool.or_eq_true, Bool.and_eq_true, decide_eq_true_eq] at hsnap
    rcases hsnap with h1 | h1
    · exact hrj (.inl h1.1)
    · exact hrj (.inr (by simpa using h1.2))
  have hg'ch : g'.ch = (x.ins j).gate.ch := by rw [← hg']; split <;> rfl
  have hg'busy : g'.busy = !all := by
    rw [← hg']
    cases all
    · rw [if_neg Bool.false_ne_true]
      show decide (0 < m.n) = true
      have := g.num.1
      exact decide_eq_true (by omega)
    · rw [if_pos rfl]; rfl
  have hrep2 : (all = true → ((x.ins j).rep || snap) = true) := fun h => by
    rcases c.kind with h0 | h1
    · rw [h, h0] at hsnap; rw [← hsnap]; simp
    · cases hb : (x.ins j).gate.busy with
      | false => rw [hb, h1] at hsnap; rw [← hsnap]; simp
      | true => rw [(i1 hb).2.2.2.2 h1]; rfl
  -- the state after it
  have hact : actS ((x.setGate j g').setQ e q) e m a = if snap = true then repS ((x.setGate j g').setQ e q) j else (x.setGate j g').setQ e q := by
    have hdst : (((x.setGate j g').setQ e q).eds e).dst = j := by
      rw [((same_gate x j g').trans (same_q _ e q)).dst, hj]
    unfold actS
    rw [hdst, ← ha]
    cases snap
    · rw [if_neg (by decide), if_neg (by decide), if_neg (by decide)]
    · rw [if_neg (by decide), if_pos (by decide), if_pos rfl]
  have hyi : ∀ k, ((x.setGate j g').setQ e q).ins k = if k = j then { x.ins j with gate := g' } else x.ins k := fun k => by
    show upd x.ins j _ k = _
    by_cases h : k = j
    · subst h; rw [upd_self, if_pos rfl]
    · rw [upd_ne h, if_neg h]
  have hye : ∀ k, ((x.setGate j g').setQ e q).eds k = if k = e then { x.eds e with q := q } else x.eds k := fun k => by
    show upd x.eds e _ k = _
    by_cases h : k = e
    · subst h; rw [upd_self, if_pos rfl]; rfl
    · rw [upd_ne h, if_neg h]
  have hys := (same_gate x j g').trans (same_q (x.setGate j g') e q)
  have hyk : ((x.setGate j g').setQ e q).kind = x.kind := rfl
  have hyn : ((x.setGate j g').setQ e q).num = x.num := rfl
  refine ⟨by rw [← ha]; cases snap <;> simp, fun h4 => hsn (by rw [← ha] at h4; cases snap <;> simp at h4 ⊢), by have := g.num.1; omega, ?_⟩
  rw [hact]
  clear hact ha harr
  generalize (x.setGate j g').setQ e q = y at *
  have hyj : y.ins j = { x.ins j with gate := g' } := by rw [hyi, if_pos rfl]
  obtain ⟨z, hz⟩ : ∃ z, (if snap = true then repS y j else y) = z := ⟨_, rfl⟩
  rw [hz]
  have hzs : SameE x z := by
    rw [← hz]
    split
    · exact hys.trans (same_repS y j)
    · exact hys
  have hzk : z.kind = x.kind ∧ z.num = x.num := by
    rw [← hz]
    split
    · exact ⟨(repS_kn y j).1.trans hyk, (repS_kn y j).2.trans hyn⟩
    · exact ⟨hyk, hyn⟩
  have hzi : ∀ k, z.ins k = if k = j then { gate := g', rep := (x.ins j).rep || snap, box := if snap = true then repBox y j else (x.ins j).box } else x.ins k := fun k => by
    rw [← hz]
    cases hs : snap
    · rw [if_neg Bool.false_ne_true, hyi]
      by_cases h : k = j
      · rw [if_pos h, if_pos h, if_neg Bool.false_ne_true, Bool.or_false]
      · rw [if_neg h, if_neg h]
    · rw [if_pos rfl, (repS_form y j).1]
      by_cases h : k = j
      · rw [if_pos h, if_pos h, hyj, if_pos rfl, Bool.or_true]
      · rw [if_neg h, if_neg h, hyi, if_neg h]
  have hbj : ∀ k, (x.eds k).src ≠ j → ofEdge k (x.ins j).box = [] := fun k hk => ofEdge_none fun v hv h => hk (h ▸ (c.item j hdn v hv).2)
  have hze : ∀ k, (z.eds k).made = (x.eds k).made ∧ (z.eds k).handled = (x.eds k).handled ∧ (z.eds k).flying = (x.eds k).flying ∧ (z.eds k).q = (if k = e then q else (x.eds k).q) ∧ (z.eds k).boxed = if snap = true ∧ x.kind ≠ 0 ∧ (x.eds k).src = j then (x.eds k).boxed ++ nsOf (ofEdge k (x.ins j).box) else (x.eds k).boxed := fun k => by
    have hy5 : (y.eds k).made = (x.eds k).made ∧ (y.eds k).handled = (x.eds k).handled ∧ (y.eds k).flying = (x.eds k).flying ∧ (y.eds k).q = (if k = e then q else (x.eds k).q) ∧ (y.eds k).boxed = (x.eds k).boxed := by
      rw [hye]
      by_cases h : k = e
      · subst h; rw [if_pos rfl, if_pos rfl]; exact ⟨rfl, rfl, rfl, rfl, rfl⟩
      · rw [if_neg h, if_neg h]; exact ⟨rfl, rfl, rfl, rfl, rfl⟩
    rw [← hz]
    cases hs : snap
    · rw [if_neg Bool.false_ne_true, if_neg (show ¬ (false = true ∧ x.kind ≠ 0 ∧ (x.eds k).src = j) from fun h => by cases h.1)]; exact hy5
    · rw [if_pos rfl, (repS_form y j).2]
      obtain ⟨k1, k2, k3, k4, k5⟩ := hy5
      by_cases h0 : y.kind = 0
      · rw [if_pos h0, if_neg (show ¬ (true = true ∧ x.kind ≠ 0 ∧ (x.eds k).src = j) from fun h => h.2.1 (by rw [← hyk]; exact h0))]; exact ⟨k1, k2, k3, k4, k5⟩
      · rw [if_neg h0]
        refine ⟨k1, k2, k3, k4, ?_⟩
        show (y.eds k).boxed ++ nsOf (ofEdge k (y.ins j).box) = _
        rw [k5, hyj]
        by_cases h : (x.eds k).src = j
        · rw [if_pos (show true = true ∧ x.kind ≠ 0 ∧ (x.eds k).src = j from ⟨rfl, by rw [← hyk]; exact h0, h⟩)]
        · rw [if_neg (show ¬ (true = true ∧ x.kind ≠ 0 ∧ (x.eds k).src = j) from fun h2 => h h2.2.2), hbj k h]; simp [nsOf]
  have hrb : ∀ k, k < x.ne → ofEdge k (repBox y j) = if (x.eds k).src = j then (if x.kind = 0 then ofEdge k (x.ins j).box ++ [barM x.num] else barM x.num :: ofEdge k (x.ins j).box) else ofEdge k (x.ins j).box := fun k hk => by
    rw [repBox_ofEdge (by rw [hys.ne]; exact hk), hys.src, hyk, hyn, hyj]
  have hsej : (x.eds e).src ≠ j := by omega
  have hst : ∀ k, k < x.ne → stream z k = if k = e then q ++ ofEdge e (x.ins (x.eds e).src).box else if (x.eds k).src = j ∧ snap = true then (if x.kind = 0 then stream x k ++ [barM x.num] else (x.eds k).q ++ barM x.num :: ofEdge k (x.ins j).box) else stream x k := fun k hk => by
    unfold stream
    rw [hzs.src, (hze k).2.2.2.1, hzi]
    by_cases h : k = e
    · subst h; rw [if_pos rfl, if_pos rfl, if_neg hsej]
    · rw [if_neg h, if_neg h]
      by_cases h2 : (x.eds k).src = j
      · rw [if_pos h2, h2]
        cases hs : snap
        · rw [if_neg (show ¬ (j = j ∧ false = true) from fun h => by cases h.2)]
          rfl
        · rw [if_pos (show j = j ∧ true = true from ⟨rfl, rfl⟩)]
          show _ ++ ofEdge k (repBox y j) = _
          rw [hrb k hk, if_pos h2]
          split
          · rw [List.append_assoc]
          · rfl
      · rw [if_neg h2, if_neg fun h => h2 h.1]
  have harv : ∀ k, k < x.ne → arv z k = if k = e then true else arv x k := fun k hk => by
    unfold arv
    rw [hzs.dst, hzi, inb_same hzs]
    by_cases hd : (x.eds k).dst = j
    · rw [if_pos hd, hd]
      show (if g'.busy = true then decide (inb x k ∈ g'.came) else ((x.ins j).rep || snap)) = _
      rw [hg'busy]
      cases hal : all
      · rw [hal, if_neg Bool.false_ne_true] at hg'
        rw [if_pos (show (!false) = true from rfl), ← hg']
        show decide (inb x k ∈ (x.ins j).gate.came ++ [inb x e]) = _
        by_cases h : k = e
        · subst h; rw [if_pos rfl]; exact decide_eq_true (by simp)
        · rw [if_neg h]
          have hne : inb x k ≠ inb x e := fun h2 => h (inb_inj (by rw [hd, hj]) h2)
          have e1 : decide (inb x k ∈ (x.ins j).gate.came ++ [inb x e]) = decide (inb x k ∈ (x.ins j).gate.came) := decide_eq_decide.2 (by simp [hne])
          rw [e1]
          cases hb : (x.ins j).gate.busy with
          | true => rw [if_pos rfl]
          | false => rw [if_neg Bool.false_ne_true, c3 hb, hnb hb]; simp
      · rw [if_neg (by simp), hrep2 hal]
        by_cases h : k = e
        · rw [if_pos h]
        · rw [if_neg h]
          have hne : inb x k ≠ inb x e := fun h2 => h (inb_inj (by rw [hd, hj]) h2)
          rw [hal] at hall
          have hfull := of_decide_eq_true hall
          have hk1 := inb_lt hk
          rw [hd, ← hch] at hk1
          have hmem : inb x k ∈ (x.ins j).gate.came ++ [inb x e] := nodup_all (List.nodup_append.2 ⟨c1, by simp, fun u hu v hv => by rw [List.mem_singleton.1 hv]; exact fun h => hnc (h ▸ hu)⟩) (fun u hu => by
            rcases List.mem_append.1 hu with hu | hu
            · exact c2 u hu
            · rw [List.mem_singleton.1 hu]; exact hin) hfull hk1
          have hmem : inb x k ∈ (x.ins j).gate.came := by
            rcases List.mem_append.1 hmem with h | h
            · exact h
            · exact absurd (List.mem_singleton.1 h) hne
          cases hb : (x.ins j).gate.busy with
          | true => rw [if_pos rfl, decide_eq_true hmem]
          | false => rw [c3 hb] at hmem; cases hmem
    · rw [if_neg hd, if_neg (show ¬ k = e from fun h => hd (by rw [h]; exact hj))]
  have hrepz : ∀ k, (z.ins k).rep = if k = j then ((x.ins j).rep || snap) else (x.ins k).rep := fun k => by rw [hzi]; split <;> rfl
  have hrepm : ∀ k, (z.ins k).rep = false → (x.ins k).rep = false := fun k h => by
    rw [hrepz] at h
    by_cases h2 : k = j
    · subst h2; rw [if_pos rfl] at h; simp at h; exact h.1
    · rw [if_neg h2] at h; exact h
  have e1 := hzs.n
  have e2 := hzs.ne
  have hboxj : snap = true → ((x.ins j).box.length ≤ 6 ∧ nbars (x.ins j).box = 0) := fun h => by
    have h1 := c.marks j hdn
    have h2 := i3
    rw [hsn h, if_neg Bool.false_ne_true] at h2
    have := len_parts (x.ins j).box
    have := c.ne6
    exact ⟨by omega, by omega⟩
  refine ⟨⟨by rw [e1]; exact c.n0, by rw [e1]; exact c.n5, by rw [e2]; exact c.ne6, fun k hk => ?_, fun i hi => ?_, by rw [hzk.1]; exact c.kind, fun k hk => ?_, fun k hk u hu => ?_, fun i hi v hv => ?_, fun i hi => ?_, fun k hk => ?_, fun i hi => ?_⟩, .inr ⟨by rw [hzk.2]; exact g.num, fun k hk => ?_, fun i hi => ?_⟩⟩
  · rw [hzs.src, hzs.dst, e1]; exact c.lt k (by omega)
  · rw [hzi, e2, degK_same hzs]
    by_cases h : i = j
    · rw [if_pos h, h]; show g'.ch = _; rw [hg'ch, hch]
    · rw [if_neg h]; exact c.ch i (by omega)
  · rw [(hze k).2.2.2.1]
    have := c.qlen k (by omega)
    by_cases h : k = e
    · subst h; rw [if_pos rfl]; rw [hq, List.length_cons] at this; omega
    · rw [if_neg h]; exact this
  · rw [hst k (by omega)] at hu
    have hbar : Fit (barM x.num) := .inl ⟨rfl, g.num.1, g.num.2⟩
    by_cases h : k = e
    · subst h
      rw [if_pos rfl] at hu
      exact c.fit k (by omega) u (by rw [hse]; exact List.mem_cons_of_mem _ hu)
    · rw [if_neg h] at hu
      split at hu
      · rename_i hs
        split at hu
        · rcases List.mem_append.1 hu with hu | hu
          · exact c.fit k (by omega) u hu
          · rw [List.mem_singleton.1 hu]; exact hbar
        · rcases List.mem_append.1 hu with hu | hu
          · exact c.fit k (by omega) u (by unfold stream; simp [hu])
          · rcases List.mem_cons.1 hu with rfl | hu
            · exact hbar
            · exact c.fit k (by omega) u (by unfold stream; rw [hs.1]; simp [hu])
      · exact c.fit k (by omega) u hu
  · rw [hzi] at hv
    rw [e2, hzs.src]
    by_cases h : i = j
    · rw [if_pos h] at hv
      subst h
      cases hs : snap
      · rw [hs] at hv; exact c.item i hdn v hv
      · rw [hs] at hv
        rcases repBox_item hv with hv | hv
        · rw [hyj] at hv; exact c.item i hdn v hv
        · rw [hys.ne, hys.src] at hv; exact hv
    · rw [if_neg h] at hv; exact c.item i (by omega) v hv
  · rw [hzi, e2]
    by_cases h : i = j
    · rw [if_pos h]
      subst h
      cases hs : snap
      · exact c.marks i hdn
      · show nmark (repBox y i) ≤ _
        rw [repBox_marks, hyj]; exact c.marks i hdn
    · rw [if_neg h]; exact c.marks i (by omega)
  · rw [(hze k).2.2.2.2]
    by_cases h : snap = true ∧ x.kind ≠ 0 ∧ (x.eds k).src = j
    · rw [if_pos h]
      have hb0 := (g.edge k (by omega)).2.2.2.1 (.inr (by rw [h.2.2]; exact hsn h.1))
      rw [hb0, List.nil_append]
      unfold nsOf
      rw [List.length_map]
      have := ofEdge_len k (x.ins j).box
      have := (hboxj h.1).1
      omega
    · rw [if_neg h]; exact c.boxed k (by omega)
  · rw [hzi]
    by_cases h : i = j
    · rw [if_pos h]
      show g'.came.Nodup ∧ (∀ t ∈ g'.came, t < g'.ch) ∧ (g'.busy = false → g'.came = [])
      rw [hg'ch, hg'busy, ← hg']
      cases all
      · rw [if_neg Bool.false_ne_true]
        refine ⟨List.nodup_append.2 ⟨c1, by simp, fun u hu v hv => by rw [List.mem_singleton.1 hv]; exact fun h => hnc (h ▸ hu)⟩, fun t ht => ?_, fun h => by cases h⟩
        rcases List.mem_append.1 ht with ht | ht
        · exact c2 t ht
        · rw [List.mem_singleton.1 ht]; exact hin
      · rw [if_pos rfl]
        exact ⟨by simp, fun t ht => by simp at ht, fun _ => rfl⟩
    · rw [if_neg h]; exact c.came i (by omega)
  · have hk' : k < x.ne := by omega
    have ho := g.edge k hk'
    obtain ⟨z1, z2, z3, z4, z5⟩ := hze k
    rw [hzk.1, hzk.2, harv k hk', hzs.src, hzs.dst, hst k hk']
    by_cases h : k = e
    · subst h
      rw [if_pos rfl, if_pos rfl]
      have hb2 := (hedge.bar hm (z.ins (x.eds k).dst).rep (fun h => by rw [hj] at h; exact hrepm j h)).1
      rw [hrepz (x.eds k).src, if_neg hsej]
      exact hb2.congr id z1 z2 z3 (by rw [z5, if_neg fun h => hsej h.2.2])
    · rw [if_neg h, if_neg h]
      by_cases h2 : (x.eds k).src = j
      · have hdj : (x.eds k).dst ≠ j := by have := (c.lt k hk').1; omega
        rw [hrepz (x.eds k).dst, if_neg hdj, hrepz (x.eds k).src, if_pos h2]
        rw [h2] at ho
        cases hs : snap
        · rw [if_neg (show ¬ ((x.eds k).src = j ∧ false = true) from fun h => by cases h.2), Bool.or_false]
          exact ho.congr id z1 z2 z3 (by rw [z5, hs, if_neg fun h => by cases h.1])
        · rw [if_pos (show (x.eds k).src = j ∧ true = true from ⟨h2, rfl⟩), Bool.or_true]
          have hr := hsn hs
          rcases c.kind with h0 | h1
          · rw [if_pos h0]
            have := ho.rep0 h0 hr
            exact this.congr id z1 z2 z3 (by rw [z5, if_neg fun h => h.2.1 h0])
          · have hn0 : x.kind ≠ 0 := by omega
            rw [if_neg hn0]
            unfold stream at ho
            rw [h2] at ho
            have := ho.rep1 h1 hr
            exact this.congr id z1 z2 z3 (by rw [z5, if_pos ⟨hs, hn0, h2⟩])
      · rw [if_neg fun h => h2 h.1]
        rw [hrepz (x.eds k).src, if_neg h2]
        exact ho.congr (fun h => hrepm _ h) z1 z2 z3 (by rw [z5, if_neg fun h => h2 h.2.2])
  · rw [hzk.1, hzk.2, e2, sourceS_same hzs, hzi]
    by_cases h : i = j
    · rw [if_pos h]
      subst h
      refine ⟨fun hb => ?_, fun hs => by show ((x.ins i).rep || snap) = true; rw [i2 hs]; rfl, ?_⟩
      · have hb : g'.busy = true := hb
        rw [hg'busy] at hb
        have hal : all = false := by simpa using hb
        rw [hal, if_neg Bool.false_ne_true] at hg'
        rw [hal] at hall
        rw [← hg']
        refine ⟨hmn, rfl, of_decide_eq_false hall, fun h0 => ?_, fun h1 => ?_⟩
        · show ((x.ins i).rep || snap) = false
          rw [hrj (.inl h0), ← hsnap, hal, h0]
          simp
        · show ((x.ins i).rep || snap) = true
          cases hb2 : (x.ins i).gate.busy with
          | true => rw [(i1 hb2).2.2.2.2 h1]; rfl
          | false => rw [← hsnap, hb2, h1]; simp
      · show nbars (if snap = true then repBox y i else (x.ins i).box) ≤ if ((x.ins i).rep || snap) = true then x.ne else 0
        cases hs : snap
        · rw [if_neg Bool.false_ne_true, Bool.or_false]; exact i3
        · rw [if_pos rfl, Bool.or_true, if_pos rfl]
          have h1 := repBox_bars y i
          rw [hyj, hys.ne] at h1
          have h2 := (hboxj hs).2
          exact Nat.le_trans h1 (by show nbars (x.ins i).box + x.ne ≤ _; omega)
    · rw [if_neg h]; exact g.inst i (by omega)
end Go.Proofs.Ytmlnockcmdameaa
end

/-
  The invariant is kept: starting, forgetting. A checkpoint that is whole is a consistent cut.
-/
section
set_option linter.unusedVariables false
set_option linter.unusedSimpArgs false
namespace Go.Proofs.Ytmlnockcmdameaa
open Go.Vc

theorem whole_out {x : NtD} (h : wholeS x = true) : (∀ i, i < x.n → (x.ins i).rep = true ∧ (x.ins i).gate.busy = false ∧ noBar ((x.ins i).box.map Prod.snd) = true) ∧ ∀ k, k < x.ne → noBar (x.eds k).q = true := by
  unfold wholeS at h
  rw [Bool.and_eq_true] at h
  exact ⟨of_decide_eq_true h.1, of_decide_eq_true h.2⟩
theorem whole_in {x : NtD} (h1 : ∀ i, i < x.n → (x.ins i).rep = true ∧ (x.ins i).gate.busy = false ∧ noBar ((x.ins i).box.map Prod.snd) = true) (h2 : ∀ k, k < x.ne → noBar (x.eds k).q = true) : wholeS x = true := by
  unfold wholeS
  rw [decide_eq_true h1, decide_eq_true h2]
  rfl
theorem whole_cut {x : NtD} (c : Com x) (a : Act x) (h : wholeS x = true) : ∀ k, k < x.ne → cutOk x k := fun k hk => by
  obtain ⟨h1, h2⟩ := whole_out h
  have hd := (c.lt k hk).2
  have har : arv x k = true := by unfold arv; rw [(h1 _ hd).2.1, if_neg Bool.false_ne_true, (h1 _ hd).1]
  obtain ⟨_, _, g3, g4, g5, _⟩ := a.edge k hk
  rw [har, if_pos rfl] at g3
  refine ⟨?_, fun h0 => ⟨g5 (.inl h0), g4 (.inl h0)⟩⟩
  rw [g3]; simp

theorem box_stream {x : NtD} (c : Com x) {i : Nat} (hi : i < x.n) {y : Nat × MsgL} (hy : y ∈ (x.ins i).box) : y.2 ∈ stream x y.1 := by
  obtain ⟨h1, h2⟩ := c.item i hi y hy
  unfold stream
  rw [h2]
  exact List.mem_append_right _ (ofEdge_in hy)

/-- a checkpoint is over -/
theorem good_clear {x : NtD} (g : Good x) (h : wholeS x = true) : Good (clearS { x with num := 0 }) := by
  obtain ⟨c, _⟩ := g
  obtain ⟨h1, h2⟩ := whole_out h
  have hs0 : SameE x ({ x with num := 0 } : NtD) := ⟨rfl, rfl, fun _ => rfl, fun _ => rfl⟩
  have hs := hs0.trans (same_clear _)
  obtain ⟨r1, r2, r3, r4⟩ := clear_rest { x with num := 0 }
  have hi : ∀ i, i < x.n → (clearS { x with num := 0 }).ins i = { x.ins i with rep := false } := fun i hi => by rw [clear_ins, if_pos hi]
  have he : ∀ k, k < x.ne → (clearS { x with num := 0 }).eds k = clrD (x.eds k) := fun k hk => by rw [clear_eds, if_pos hk]
  have hst : ∀ k, k < x.ne → stream (clearS { x with num := 0 }) k = stream x k := fun k hk => by
    unfold stream
    rw [hs.src, he k hk, hi _ (by have := (c.lt k hk); omega)]
    rfl
  have e1 := hs.n
  have e2 := hs.ne
  generalize clearS { x with num := 0 } = z at *
  refine ⟨⟨by rw [e1]; exact c.n0, by rw [e1]; exact c.n5, by rw [e2]; exact c.ne6, fun k hk => ?_, fun i hi' => ?_, by rw [r3]; exact c.kind, fun k hk => ?_, fun k hk => ?_, fun i hi' => ?_, fun i hi' => ?_, fun k hk => ?_, fun i hi' => ?_⟩, .inl ⟨by rw [r4], fun k hk => ?_, fun i hi' => ?_⟩⟩
  · rw [hs.src, hs.dst, e1]; exact c.lt k (by omega)
  · rw [hi i (by omega), e2, degK_same hs]; exact c.ch i (by omega)
  · rw [he k (by omega)]; exact c.qlen k (by omega)
  · rw [hst k (by omega)]; exact c.fit k (by omega)
  · rw [hi i (by omega), e2]
    intro y hy
    rw [hs.src]
    exact c.item i (by omega) y hy
  · rw [hi i (by omega), e2]; exact c.marks i (by omega)
  · rw [he k (by omega)]; exact Nat.zero_le _
  · rw [hi i (by omega)]; exact c.came i (by omega)
  · rw [hst k (by omega), nbar_zero]
    intro m hm
    unfold stream at hm
    rcases List.mem_append.1 hm with hm | hm
    · have := h2 k (by omega)
      rw [← nbar_no, nbar_zero] at this
      exact this m hm
    · have := (h1 (x.eds k).src (by have := c.lt k (by omega); omega)).2.2
      rw [← nbar_no, nbar_zero] at this
      exact this m (List.mem_map.2 ⟨_, ofEdge_mem hm, rfl⟩)
  · rw [hi i (by omega)]
    exact ⟨(h1 i (by omega)).2.1, rfl⟩

/-! ### starting -/
/-- as the invariant, but the sources from i0 on have not reported -/
structure ActS (x : NtD) (i0 : Nat) : Prop where
  com : Com x
  num : 1 ≤ x.num ∧ x.num ≤ 1000
  edge : ∀ k, k < x.ne → EdgeOk x.kind x.num (arv x k) (x.ins (x.eds k).src).rep (x.ins (x.eds k).dst).rep (stream x k) (x.eds k)
  inst : ∀ i, i < x.n → InstOk x.kind x.num x.ne (decide (i < i0) && sourceS x i) (x.ins i)
  left : ∀ i, i < x.n → i0 ≤ i → (x.ins i).rep = false
  calm : ∀ i, i < x.n → (x.ins i).gate.busy = false

theorem acts_skip {x : NtD} {i : Nat} (a : ActS x i) (hi : i < x.n) (h : sourceS x i = false) : ActS x (i + 1) := by
  refine ⟨a.com, a.num, a.edge, fun j hj => ?_, fun j hj h2 => a.left j hj (by omega), a.calm⟩
  obtain ⟨g1, g2, g3⟩ := a.inst j hj
  refine ⟨g1, fun h2 => ?_, g3⟩
  rw [Bool.and_eq_true] at h2
  have hlt := of_decide_eq_true h2.1
  by_cases e : j = i
  · subst e; rw [h] at h2; cases h2.2
  · exact g2 (by rw [h2.2, decide_eq_true (by omega)]; rfl)

theorem acts_rep {x : NtD} {i : Nat} (a : ActS x i) (hi : i < x.n) (h : sourceS x i = true) : ActS (repS x i) (i + 1) := by
  have c := a.com
  have hsrc : ∀ k, k < x.ne → (x.eds k).dst ≠ i := of_decide_eq_true h
  have hr := a.left i hi (Nat.le_refl _)
  obtain ⟨f1, f2⟩ := repS_form x i
  obtain ⟨f3, f4⟩ := repS_kn x i
  have hs := same_repS x i
  have hrb : ∀ k, k < x.ne → ofEdge k (repBox x i) = _ := fun k hk => repBox_ofEdge hk
  have hbj : ∀ k, (x.eds k).src ≠ i → ofEdge k (x.ins i).box = [] := fun k hk => ofEdge_none fun v hv h => hk (h ▸ (c.item i hi v hv).2)
  have hb6 : (x.ins i).box.length ≤ 6 ∧ nbars (x.ins i).box = 0 := by
    have h1 := c.marks i hi
    have h2 := (a.inst i hi).2.2
    rw [hr, if_neg Bool.false_ne_true] at h2
    have := len_parts (x.ins i).box
    have := c.ne6
    exact ⟨by omega, by omega⟩
  have hz5 : ∀ k, ((repS x i).eds k).made = (x.eds k).made ∧ ((repS x i).eds k).handled = (x.eds k).handled ∧ ((repS x i).eds k).flying = (x.eds k).flying ∧ ((repS x i).eds k).q = (x.eds k).q ∧ ((repS x i).eds k).boxed = if x.kind ≠ 0 ∧ (x.eds k).src = i then (x.eds k).boxed ++ nsOf (ofEdge k (x.ins i).box) else (x.eds k).boxed := fun k => by
    rw [f2]
    by_cases h0 : x.kind = 0
    · rw [if_pos h0, if_neg fun h => h.1 h0]; exact ⟨rfl, rfl, rfl, rfl, rfl⟩
    · rw [if_neg h0]
      refine ⟨rfl, rfl, rfl, rfl, ?_⟩
      show (x.eds k).boxed ++ nsOf (ofEdge k (x.ins i).box) = _
      by_cases h : (x.eds k).src = i
      · rw [if_pos ⟨h0, h⟩]
      · rw [if_neg fun h2 => h h2.2, hbj k h]; simp [nsOf]
  have hst : ∀ k, k < x.ne → stream (repS x i) k = if (x.eds k).src = i then (if x.kind = 0 then stream x k ++ [barM x.num] else (x.eds k).q ++ barM x.num :: ofEdge k (x.ins i).box) else stream x k := fun k hk => by
    unfold stream
    rw [hs.src, (hz5 k).2.2.2.1, f1]
    by_cases h : (x.eds k).src = i
    · rw [if_pos h, if_pos h, h]
      show _ ++ ofEdge k (repBox x i) = _
      rw [hrb k hk, if_pos h]
      split
      · rw [List.append_assoc]
      · rfl
    · rw [if_neg h, if_neg h]
  have harv : ∀ k, k < x.ne → arv (repS x i) k = arv x k := fun k hk => by
    unfold arv
    rw [hs.dst, f1, if_neg (hsrc k hk), inb_same hs]
  have e1 := hs.n
  have e2 := hs.ne
  generalize repS x i = z at *
  have hbar : Fit (barM x.num) := .inl ⟨rfl, a.num.1, a.num.2⟩
  refine ⟨⟨by rw [e1]; exact c.n0, by rw [e1]; exact c.n5, by rw [e2]; exact c.ne6, fun k hk => ?_, fun j hj => ?_, by rw [f3]; exact c.kind, fun k hk => ?_, fun k hk u hu => ?_, fun j hj v hv => ?_, fun j hj => ?_, fun k hk => ?_, fun j hj => ?_⟩, by rw [f4]; exact a.num, fun k hk => ?_, fun j hj => ?_, fun j hj h2 => ?_, fun j hj => ?_⟩
  · rw [hs.src, hs.dst, e1]; exact c.lt k (by omega)
  · rw [f1, e2, degK_same hs]
    by_cases h : j = i
    · rw [if_pos h, h]; exact c.ch i hi
    · rw [if_neg h]; exact c.ch j (by omega)
  · rw [(hz5 k).2.2.2.1]; exact c.qlen k (by omega)
  · rw [hst k (by omega)] at hu
    split at hu
    · rename_i hs'
      split at hu
      · rcases List.mem_append.1 hu with hu | hu
        · exact c.fit k (by omega) u hu
        · rw [List.mem_singleton.1 hu]; exact hbar
      · rcases List.mem_append.1 hu with hu | hu
        · exact c.fit k (by omega) u (by unfold stream; simp [hu])
        · rcases List.mem_cons.1 hu with rfl | hu
          · exact hbar
          · exact c.fit k (by omega) u (by unfold stream; rw [hs']; simp [hu])
    · exact c.fit k (by omega) u hu
  · rw [f1] at hv
    rw [e2, hs.src]
    by_cases h : j = i
    · rw [if_pos h] at hv
      subst h
      rcases repBox_item hv with hv | hv
      · exact c.item j hi v hv
      · exact hv
    · rw [if_neg h] at hv; exact c.item j (by omega) v hv
  · rw [f1, e2]
    by_cases h : j = i
    · rw [if_pos h]
      show nmark (repBox x i) ≤ _
      rw [repBox_marks]; exact c.marks i hi
    · rw [if_neg h]; exact c.marks j (by omega)
  · rw [(hz5 k).2.2.2.2]
    by_cases h : x.kind ≠ 0 ∧ (x.eds k).src = i
    · rw [if_pos h]
      have hb0 := (a.edge k (by omega)).2.2.2.1 (.inr (by rw [h.2]; exact hr))
      rw [hb0, List.nil_append]
      unfold nsOf
      rw [List.length_map]
      have := ofEdge_len k (x.ins i).box
      have := hb6.1
      omega
    · rw [if_neg h]; exact c.boxed k (by omega)
  · rw [f1]
    by_cases h : j = i
    · rw [if_pos h]; exact c.came i hi
    · rw [if_neg h]; exact c.came j (by omega)
  · have hk' : k < x.ne := by omega
    have ho := a.edge k hk'
    obtain ⟨z1, z2, z3, z4, z5⟩ := hz5 k
    rw [f3, f4, harv k hk', hs.src, hs.dst, hst k hk', f1 (x.eds k).dst, if_neg (hsrc k hk'), f1]
    by_cases h2 : (x.eds k).src = i
    · rw [if_pos h2, if_pos h2]
      rw [h2] at ho
      rcases c.kind with h0 | h1
      · rw [if_pos h0]
        exact (ho.rep0 h0 hr).congr id z1 z2 z3 (by rw [z5, if_neg fun h => h.1 h0])
      · have hn0 : x.kind ≠ 0 := by omega
        rw [if_neg hn0]
        unfold stream at ho
        rw [h2] at ho
        exact (ho.rep1 h1 hr).congr id z1 z2 z3 (by rw [z5, if_pos ⟨hn0, h2⟩])
    · rw [if_neg h2, if_neg h2]
      exact ho.congr id z1 z2 z3 (by rw [z5, if_neg fun h => h2 h.2])
  · rw [f3, f4, e2, sourceS_same hs, f1]
    by_cases h : j = i
    · rw [if_pos h]
      refine ⟨fun hb => ?_, fun _ => rfl, ?_⟩
      · have := a.calm i hi
        rw [show ({ gate := (x.ins i).gate, box := repBox x i, rep := true } : InD).gate.busy = (x.ins i).gate.busy from rfl, this] at hb
        cases hb
      · show nbars (repBox x i) ≤ if true = true then x.ne else 0
        rw [if_pos rfl]
        have := repBox_bars x i
        have := hb6.2
        omega
    · rw [if_neg h]
      obtain ⟨g1, g2, g3⟩ := a.inst j (by omega)
      refine ⟨g1, fun h2 => g2 ?_, g3⟩
      rw [Bool.and_eq_true] at h2 ⊢
      have := of_decide_eq_true h2.1
      exact ⟨decide_eq_true (by omega), h2.2⟩
  · rw [f1, if_neg (by omega)]; exact a.left j (by omega) (by omega)
  · rw [f1]
    by_cases h : j = i
    · rw [if_pos h]; exact a.calm i hi
    · rw [if_neg h]; exact a.calm j (by omega)

theorem acts_all {x : NtD} (a : ActS x 0) : ∀ i, i ≤ x.n → ActS (srcRep x i) i
  | 0, _ => a
  | i + 1, h => by
    have ih := acts_all a i (by omega)
    have hs := same_srcRep x i
    have hi : i < (srcRep x i).n := by rw [hs.n]; omega
    unfold srcRep
    split
    · rename_i h2; exact acts_rep ih hi h2
    · rename_i h2; exact acts_skip ih hi (by simpa using h2)

theorem start_base {x : NtD} (c : Com x) (d : Idle x) {number kind : Int} (hn : 1 ≤ number ∧ number ≤ 1000) (hk : kind = 0 ∨ kind = 1) : ActS (madeK (clearS { x with num := number, kind := kind }) x.ne) 0 ∧ (madeK (clearS { x with num := number, kind := kind }) x.ne).n = x.n ∧ (∀ k, k < x.ne → ((madeK (clearS { x with num := number, kind := kind }) x.ne).eds k).made = nsOf (stream x k) ∧ ((madeK (clearS { x with num := number, kind := kind }) x.ne).eds k).handled = [] ∧ ((madeK (clearS { x with num := number, kind := kind }) x.ne).eds k).flying = [] ∧ ((madeK (clearS { x with num := number, kind := kind }) x.ne).eds k).sent = (x.eds k).sent) ∧ (madeK (clearS { x with num := number, kind := kind }) x.ne).ne = x.ne := by
  have hs0 : SameE x ({ x with num := number, kind := kind } : NtD) := ⟨rfl, rfl, fun _ => rfl, fun _ => rfl⟩
  have hs := (hs0.trans (same_clear _)).trans (same_madeK (clearS { x with num := number, kind := kind }) x.ne)
  obtain ⟨r1, r2, r3, r4⟩ := clear_rest { x with num := number, kind := kind }
  obtain ⟨t1, t2, t3, t4, t5⟩ := madeK_rest (clearS { x with num := number, kind := kind }) x.ne
  have hci : ∀ i, i < x.n → (clearS { x with num := number, kind := kind }).ins i = { x.ins i with rep := false } := fun i hi => by rw [clear_ins, if_pos hi]
  have hce : ∀ k, k < x.ne → (clearS { x with num := number, kind := kind }).eds k = clrD (x.eds k) := fun k hk => by rw [clear_eds, if_pos hk]
  have hsc : SameE x (clearS { x with num := number, kind := kind }) := hs0.trans (same_clear _)
  have hcs : ∀ k, k < x.ne → stream (clearS { x with num := number, kind := kind }) k = stream x k := fun k hk => by
    unfold stream
    rw [hsc.src, hce k hk, hci _ (by have := (c.lt k hk); omega)]
    rfl
  have hi : ∀ i, i < x.n → (madeK (clearS { x with num := number, kind := kind }) x.ne).ins i = { x.ins i with rep := false } := fun i hi => by rw [t1, hci i hi]
  have he : ∀ k, k < x.ne → (madeK (clearS { x with num := number, kind := kind }) x.ne).eds k = { clrD (x.eds k) with made := nsOf (stream x k) } := fun k hk => by
    rw [madeK_eds, if_pos hk, hce k hk, hcs k hk]
    rfl
  rw [r3] at t4
  rw [r4] at t5
  clear hci hce hcs hsc r1 r2 r3 r4 t1 t2 t3
  generalize madeK (clearS { x with num := number, kind := kind }) x.ne = z at *
  have hst : ∀ k, k < x.ne → stream z k = stream x k := fun k hk => by
    unfold stream
    rw [hs.src, he k hk, hi _ (by have := (c.lt k hk); omega)]
    rfl
  have e1 := hs.n
  have e2 := hs.ne
  have harv : ∀ k, k < x.ne → arv z k = false := fun k hk => by
    have hd := (c.lt k hk).2
    unfold arv
    rw [hs.dst, hi _ hd]
    show (if (x.ins (x.eds k).dst).gate.busy = true then _ else false) = false
    rw [(d.calm _ hd).1, if_neg Bool.false_ne_true]
  refine ⟨⟨⟨by rw [e1]; exact c.n0, by rw [e1]; exact c.n5, by rw [e2]; exact c.ne6, fun k hk => ?_, fun i hi' => ?_, by rw [t4]; exact hk, fun k hk => ?_, fun k hk => ?_, fun i hi' => ?_, fun i hi' => ?_, fun k hk => ?_, fun i hi' => ?_⟩, by rw [t5]; exact hn, fun k hk' => ?_, fun i hi' => ?_, fun i hi' _ => ?_, fun i hi' => ?_⟩, e1, fun k hk => by rw [he k hk]; exact ⟨rfl, rfl, rfl, rfl⟩, e2⟩
  · rw [hs.src, hs.dst, e1]; exact c.lt k (by omega)
  · rw [hi i (by omega), e2, degK_same hs]; exact c.ch i (by omega)
  · rw [he k (by omega)]; exact c.qlen k (by omega)
  · rw [hst k (by omega)]; exact c.fit k (by omega)
  · rw [hi i (by omega), e2]
    intro y hy
    rw [hs.src]
    exact c.item i (by omega) y hy
  · rw [hi i (by omega), e2]; exact c.marks i (by omega)
  · rw [he k (by omega)]; exact Nat.zero_le _
  · rw [hi i (by omega)]; exact c.came i (by omega)
  · have hk2 : k < x.ne := by omega
    obtain ⟨hsd, hdn⟩ := c.lt k hk2
    have h0 := d.nobar k hk2
    rw [harv k hk2, hs.src, hs.dst, hst k hk2, he k hk2, hi _ hdn, hi _ (show (x.eds k).src < x.n by omega)]
    refine ⟨h0, fun h => (by cases h), ?_, fun _ => rfl, fun _ => rfl, fun m hm h1 => absurd h1 (nbar_zero.1 h0 m hm)⟩
    rw [if_neg Bool.false_ne_true, before_all h0]
    show nsOf (stream x k) = [] ++ [] ++ nsOf (stream x k) ++ []
    simp
  · have hi2 : i < x.n := by omega
    rw [hi i hi2]
    refine ⟨fun hb => ?_, fun h => (by simp at h), ?_⟩
    · have := (d.calm i hi2).1
      rw [show ({ gate := (x.ins i).gate, box := (x.ins i).box, rep := false } : InD).gate.busy = (x.ins i).gate.busy from rfl, this] at hb
      cases hb
    · show nbars (x.ins i).box ≤ 0
      have : nbars (x.ins i).box = 0 := nbars_zero.2 fun y hy => nbar_zero.1 (d.nobar y.1 (c.item i hi2 y hy).1) y.2 (box_stream c hi2 hy)
      omega
  · rw [hi i (by omega)]
  · rw [hi i (by omega)]; exact (d.calm i (by omega)).1

theorem acts_done {x : NtD} (a : ActS x x.n) : Good x := by
  refine ⟨a.com, .inr ⟨a.num, a.edge, fun i hi => ?_⟩⟩
  have := a.inst i hi
  rw [decide_eq_true hi, Bool.true_and] at this
  exact this

theorem good_start {x : NtD} (c : Com x) (d : Idle x) {number kind : Int} (hn : 1 ≤ number ∧ number ≤ 1000) (hk : kind = 0 ∨ kind = 1) : Good (startS x number kind) := by
  obtain ⟨h1, h2, _, h4⟩ := start_base c d hn hk
  unfold startS
  have := acts_all h1 x.n (by rw [h2]; exact Nat.le_refl _)
  refine acts_done ?_
  rw [(same_srcRep _ _).n, h2]
  exact this
end Go.Proofs.Ytmlnockcmdameaa
end

/-
  What take does to the net; when nothing can be done any more, all is done.
-/
section
set_option linter.unusedVariables false
set_option linter.unusedSimpArgs false
namespace Go.Proofs.Ytmlnockcmdameaa
open Go.Vc

/-! ### how much is still to be done -/
def wt (m : MsgL) : Nat := if m.kind = 1 then 1 else if m.n ≤ 0 then 1 else if m.n ≤ 1 then 13 else 85
def wq (l : List MsgL) : Nat := (l.map wt).sum
def wb (l : List (Nat × MsgL)) : Nat := (l.map fun y => wt y.2 + 1).sum
def sumR (f : Nat → Nat) : Nat → Nat
  | 0 => 0
  | n + 1 => sumR f n + f n
def unrep (x : NtD) (i : Nat) : Nat := if x.num = 0 then 0 else if (x.ins i).rep = true then 0 else 13
def todo (x : NtD) : Nat := sumR (fun k => wq (x.eds k).q) x.ne + sumR (fun i => wb (x.ins i).box) x.n + sumR (unrep x) x.n

theorem sumR_congr {f g : Nat → Nat} : ∀ {n : Nat}, (∀ k, k < n → g k = f k) → sumR g n = sumR f n
  | 0, _ => rfl
  | n + 1, h => by
    show sumR g n + g n = sumR f n + f n
    rw [sumR_congr fun k hk => h k (by omega), h n (by omega)]
theorem sumR_one {f g : Nat → Nat} {k : Nat} : ∀ {n : Nat}, k < n → (∀ j, j < n → j ≠ k → g j = f j) → sumR g n + f k = sumR f n + g k
  | 0, h, _ => by omega
  | n + 1, h, hj => by
    show sumR g n + g n + f k = sumR f n + f n + g k
    by_cases e : k = n
    · subst e
      rw [sumR_congr fun j h2 => hj j (by omega) (by omega)]
      omega
    · have := sumR_one (n := n) (by omega) fun j h1 h2 => hj j (by omega) h2
      rw [hj n (by omega) (fun h => e h.symm)]
      omega
theorem sumR_le {f : Nat → Nat} {b : Nat} : ∀ {n : Nat}, (∀ k, k < n → f k ≤ b) → sumR f n ≤ n * b
  | 0, _ => Nat.zero_le _
  | n + 1, h => by
    have h1 := sumR_le (n := n) fun k hk => h k (by omega)
    have h2 := h n (by omega)
    show sumR f n + f n ≤ _
    rw [Nat.add_mul]
    omega
theorem wq_append (a b : List MsgL) : wq (a ++ b) = wq a + wq b := by unfold wq; rw [List.map_append, List.sum_append_nat]
theorem wb_append (a b : List (Nat × MsgL)) : wb (a ++ b) = wb a + wb b := by unfold wb; rw [List.map_append, List.sum_append_nat]
theorem wb_outs (l : List Nat) (m : MsgL) : wb (l.map fun e => (e, m)) = l.length * (wt m + 1) := by
  induction l with
  | nil => simp [wb]
  | cons a l ih =>
    have : wb ((a :: l).map fun e => (e, m)) = (wt m + 1) + wb (l.map fun e => (e, m)) := rfl
    rw [this, ih, List.length_cons, Nat.add_mul]
    omega
theorem wt_pos (m : MsgL) : 1 ≤ wt m ∧ wt m ≤ 85 := by
  unfold wt
  split
  · omega
  · split
    · omega
    · split <;> omega
theorem wq_le : ∀ l : List MsgL, wq l ≤ l.length * 85
  | [] => Nat.le_refl _
  | m :: l => by
    have h1 := wq_le l
    have h2 := (wt_pos m).2
    show wt m + wq l ≤ _
    rw [List.length_cons, Nat.add_mul]
    omega
theorem wb_le : ∀ l : List (Nat × MsgL), wb l ≤ l.length * 86
  | [] => Nat.le_refl _
  | y :: l => by
    have h1 := wb_le l
    have h2 := (wt_pos y.2).2
    show wt y.2 + 1 + wb l ≤ _
    rw [List.length_cons, Nat.add_mul]
    omega

theorem box_le {x : NtD} (g : Good x) {i : Nat} (hi : i < x.n) : (x.ins i).box.length ≤ 12 := by
  obtain ⟨c, g⟩ := g
  have h1 := c.marks i hi
  have h2 := c.ne6
  have h3 : nbars (x.ins i).box ≤ 6 := by
    rcases g with g | g
    · have : nbars (x.ins i).box = 0 := nbars_zero.2 fun y hy => nbar_zero.1 (g.nobar y.1 (c.item i hi y hy).1) y.2 (box_stream c hi hy)
      omega
    · have := (g.inst i hi).2.2
      split at this <;> omega
  rw [len_parts]; omega
theorem todo_le {x : NtD} (g : Good x) : todo x ≤ 10000 := by
  have h1 : sumR (fun k => wq (x.eds k).q) x.ne ≤ x.ne * 340 := sumR_le fun k hk => by
    have := wq_le (x.eds k).q
    have := g.1.qlen k hk
    omega
  have h2 : sumR (fun i => wb (x.ins i).box) x.n ≤ x.n * 1032 := sumR_le fun i hi => by
    have := wb_le (x.ins i).box
    have := box_le g hi
    omega
  have h3 : sumR (unrep x) x.n ≤ x.n * 13 := sumR_le fun i hi => by unfold unrep; split <;> (try split) <;> omega
  have := g.1.ne6
  have := g.1.n5
  unfold todo
  omega

theorem flush_todo {x y : NtD} {i : Nat} (c : Com x) (hi : i < x.n) (h : flushS x i = some y) : todo y + 1 = todo x := by
  have G := flush_gts h
  have hi2 := c.item i hi
  obtain ⟨k, hk, _, _, hy⟩ := flush_form h
  have hke := (hi2 _ (List.getElem_mem hk)).1
  have hsplit : (x.ins i).box = (x.ins i).box.take k ++ (x.ins i).box[k] :: (x.ins i).box.drop (k + 1) := by
    rw [← List.drop_eq_getElem_cons hk, List.take_append_drop]
  generalize (x.ins i).box[k] = it at *
  have hye : ∀ e, (y.eds e).q = if e = it.1 then (x.eds it.1).q ++ [it.2] else (x.eds e).q := fun e => by
    rw [hy]
    show (upd x.eds it.1 _ e).q = _
    by_cases he : e = it.1
    · rw [he, upd_self, if_pos rfl]
    · rw [upd_ne he, if_neg he]
  have hyi : ∀ j, (y.ins j).box = if j = i then (x.ins i).box.take k ++ (x.ins i).box.drop (k + 1) else (x.ins j).box := fun j => by
    rw [hy]
    show (upd x.ins i _ j).box = _
    by_cases he : j = i
    · rw [he, upd_self, if_pos rfl]
    · rw [upd_ne he, if_neg he]
  clear hy
  have e1 := G.same.n
  have e2 := G.same.ne
  have h1 := sumR_one (f := fun k => wq (x.eds k).q) (g := fun k => wq (y.eds k).q) (k := it.1) (n := x.ne) hke fun j _ hj => by rw [hye, if_neg hj]
  have h2 := sumR_one (f := fun i => wb (x.ins i).box) (g := fun j => wb (y.ins j).box) (k := i) (n := x.n) hi fun j _ hj => by rw [hyi, if_neg hj]
  have h3 : sumR (unrep y) x.n = sumR (unrep x) x.n := sumR_congr fun j _ => by
    unfold unrep
    rw [G.num, G.rep]
  have g1 : wq (y.eds it.1).q = wq (x.eds it.1).q + wt it.2 := by rw [hye, if_pos rfl, wq_append]; rfl
  have g2 : wb (y.ins i).box + (wt it.2 + 1) = wb (x.ins i).box := by
    have h4 : wb (x.ins i).box = wb ((x.ins i).box.take k) + (wt it.2 + 1 + wb ((x.ins i).box.drop (k + 1))) := by
      conv => lhs; rw [hsplit]
      rw [wb_append]
      rfl
    rw [hyi, if_pos rfl, wb_append, h4]
    omega
  unfold todo
  rw [e1, e2, h3]
  omega

/-- no slice of an edge is longer than L -/
def Lens (x : NtD) (L : Nat) : Prop := ∀ k, k < x.ne → (x.eds k).made.length ≤ L ∧ (x.eds k).handled.length ≤ L ∧ (x.eds k).flying.length ≤ L ∧ (x.eds k).sent ≤ L
theorem Lens.more {x : NtD} {L L' : Nat} (h : Lens x L) (hl : L ≤ L') : Lens x L' := fun k hk => by
  obtain ⟨h1, h2, h3, h4⟩ := h k hk
  exact ⟨by omega, by omega, by omega, by omega⟩
theorem flush_lens {x y : NtD} {i L : Nat} (h : flushS x i = some y) (hl : Lens x L) : Lens y (L + 1) := fun k hk => by
  obtain ⟨h1, h2, h3, h4⟩ := hl k (by rw [← (flush_gts h).same.ne]; exact hk)
  obtain ⟨g1, g2, g3, g4, g5, _⟩ := flush_eds h k
  rw [g1, g3, g4]
  exact ⟨by omega, by omega, by omega, by omega⟩
theorem prod_lens {x : NtD} {i : Nat} {m : MsgL} {L : Nat} (hl : Lens x L) : Lens (prodS x i m) (L + 1) := fun k hk => by
  obtain ⟨h1, h2, h3, h4⟩ := hl k (by rw [← (prod_gts x i m).same.ne]; exact hk)
  show ((prodK x i m x.ne).eds k).made.length ≤ _ ∧ ((prodK x i m x.ne).eds k).handled.length ≤ _ ∧ ((prodK x i m x.ne).eds k).flying.length ≤ _ ∧ ((prodK x i m x.ne).eds k).sent ≤ _
  rw [(prodK_form x i m x.ne).2.1]
  split
  · refine ⟨?_, by show (x.eds k).handled.length ≤ _; omega, by show (x.eds k).flying.length ≤ _; omega, by show (x.eds k).sent ≤ _; omega⟩
    show ((x.eds k).made ++ [m.n]).length ≤ _
    rw [List.length_append, List.length_singleton]; omega
  · exact ⟨by omega, by omega, by omega, by omega⟩
theorem rep_same {x : NtD} (i k : Nat) : ((repS x i).eds k).made = (x.eds k).made ∧ ((repS x i).eds k).handled = (x.eds k).handled ∧ ((repS x i).eds k).flying = (x.eds k).flying ∧ ((repS x i).eds k).sent = (x.eds k).sent ∧ ((repS x i).eds k).q = (x.eds k).q := by
  rw [(repS_form x i).2]
  split <;> exact ⟨rfl, rfl, rfl, rfl, rfl⟩

/-- nothing can be taken from this edge -/
def StuckE (x : NtD) (e : Nat) : Prop := ∀ m q, (x.eds e).q = m :: q → blockedS x e m = true ∨ ((x.ins (x.eds e).dst).gate.busy = true ∧ (x.ins (x.eds e).dst).gate.kind ≠ 1 ∧ inb x e ∈ (x.ins (x.eds e).dst).gate.came)

structure TakeOk (x : NtD) (e : Nat) : Prop where
  good : Good (takeS x e).2
  ok : (takeS x e).1.2 = true
  no : (takeS x e).1.1 = false → (takeS x e).2 = x ∧ StuckE x e
  yes : (takeS x e).1.1 = true → todo (takeS x e).2 + 1 ≤ todo x
  lens : ∀ L, Lens x L → Lens (takeS x e).2 (L + 1)
  ne : (takeS x e).2.ne = x.ne
  n : (takeS x e).2.n = x.n

theorem relay_todo {x : NtD} (c : Com x) {i : Nat} (hi : i < x.n) {m : MsgL} (hm : Fit m) (hb : (x.ins i).box = []) : todo (prodS x i m) ≤ todo x + 6 * (wt m + 1) := by
  have G := prod_gts x i m
  have hq : sumR (fun k => wq ((prodS x i m).eds k).q) x.ne = sumR (fun k => wq (x.eds k).q) x.ne := sumR_congr fun k hk => by
    show wq ((prodK x i m x.ne).eds k).q = _
    rw [(prodK_form x i m x.ne).2.1]
    split <;> rfl
  have hbx := sumR_one (f := fun i => wb (x.ins i).box) (g := fun j => wb ((prodS x i m).ins j).box) (k := i) (n := x.n) hi fun j _ hj => by
    show wb ((prodK x i m x.ne).ins j).box = _
    rw [(prodK_form x i m x.ne).1, if_neg hj]
  have hbi : wb ((prodS x i m).ins i).box ≤ 6 * (wt m + 1) := by
    show wb ((prodK x i m x.ne).ins i).box ≤ _
    rw [(prodK_form x i m x.ne).1, if_pos rfl]
    show wb ((x.ins i).box ++ _) ≤ _
    rw [hb, List.nil_append, wb_outs]
    have := outsK_len (x := x) i x.ne
    have := c.ne6
    exact Nat.mul_le_mul (by omega) (Nat.le_refl _)
  have hr : sumR (unrep (prodS x i m)) x.n = sumR (unrep x) x.n := sumR_congr fun j _ => by unfold unrep; rw [G.num, G.rep]
  have e1 := G.same.n
  have e2 := G.same.ne
  unfold todo
  rw [e1, e2, hq, hr]
  have : wb (x.ins i).box = 0 := by rw [hb]; rfl
  omega
theorem wt_next {m : MsgL} (hm : Fit m) (hk : m.kind = 2) (h0 : 0 < m.n) : 6 * (wt (markM (m.n - 1)) + 1) + 1 ≤ wt m := by
  rcases hm with ⟨h, _⟩ | ⟨_, h1, h2⟩
  · omega
  · have h3 : m.n = 1 ∨ m.n = 2 := by omega
    unfold wt
    rcases h3 with h3 | h3
    · rw [h3, hk]; decide
    · rw [h3, hk]; decide

set_option maxHeartbeats 1000000 in
theorem take_ok {x : NtD} (g : Good x) {e : Nat} (he : e < x.ne) : TakeOk x e := by
  cases hq : (x.eds e).q with
  | nil =>
    have ht : takeS x e = ((false, true), x) := by unfold takeS; rw [hq]
    exact ⟨by rw [ht]; exact g, by rw [ht], fun _ => ⟨by rw [ht], fun m q h => by rw [hq] at h; cases h⟩, (fun h => by rw [ht] at h; cases h), fun L hl => by rw [ht]; exact hl.more (by omega), by rw [ht], by rw [ht]⟩
  | cons m q =>
    cases hbl : blockedS x e m with
    | true =>
      have ht : takeS x e = ((false, true), x) := by unfold takeS; rw [hq]; simp only [hbl, if_true]
      exact ⟨by rw [ht]; exact g, by rw [ht], fun _ => ⟨by rw [ht], fun m' q' h => by rw [hq] at h; cases h; exact .inl hbl⟩, (fun h => by rw [ht] at h; cases h), fun L hl => by rw [ht]; exact hl.more (by omega), by rw [ht], by rw [ht]⟩
    | false =>
      have c := g.1
      obtain ⟨hsd, hdn⟩ := c.lt e he
      have hmem : m ∈ stream x e := by unfold stream; rw [hq]; simp
      have hfit := c.fit e he m hmem
      have hqw : wq (x.eds e).q = wt m + wq q := by rw [hq]; rfl
      by_cases hm : m.kind = 1
      · -- a barrier
        obtain ⟨h34, hr4, hnum, hgood⟩ := good_bar he hq hm g
        obtain ⟨a, ha⟩ : ∃ a, (arriveS (x.ins (x.eds e).dst).gate (inb x e) m x.kind).1 = a := ⟨_, rfl⟩
        obtain ⟨g', hg'⟩ : ∃ g', (arriveS (x.ins (x.eds e).dst).gate (inb x e) m x.kind).2 = g' := ⟨_, rfl⟩
        have ht : takeS x e = ((true, true), actS ((x.setGate (x.eds e).dst g').setQ e q) e m a) := by
          unfold takeS; rw [hq]
          rw [ha] at h34
          simp only [hbl, ha, hg', Bool.false_eq_true, if_false]
          rw [if_neg (by omega), if_neg (by omega)]
        rw [ha, hg'] at hgood
        rw [ha] at h34 hr4
        clear ha hg'
        have hdst : (((x.setGate (x.eds e).dst g').setQ e q).eds e).dst = (x.eds e).dst := ((same_gate x (x.eds e).dst g').trans (same_q _ e q)).dst e
        have hact : actS ((x.setGate (x.eds e).dst g').setQ e q) e m a = if a = 4 then repS ((x.setGate (x.eds e).dst g').setQ e q) (x.eds e).dst else (x.setGate (x.eds e).dst g').setQ e q := by
          unfold actS; rw [hdst, if_neg (by omega)]
        have hyi : ∀ k, ((x.setGate (x.eds e).dst g').setQ e q).ins k = if k = (x.eds e).dst then { x.ins k with gate := g' } else x.ins k := fun k => by
          show upd x.ins (x.eds e).dst _ k = _
          by_cases h : k = (x.eds e).dst
          · rw [if_pos h, h, upd_self]
          · rw [upd_ne h, if_neg h]
        have hye : ∀ k, ((x.setGate (x.eds e).dst g').setQ e q).eds k = if k = e then { x.eds e with q := q } else x.eds k := fun k => by
          show upd x.eds e _ k = _
          by_cases h : k = e
          · subst h; rw [upd_self, if_pos rfl]; rfl
          · rw [upd_ne h, if_neg h]
        have hys := (same_gate x (x.eds e).dst g').trans (same_q (x.setGate (x.eds e).dst g') e q)
        have hyn : ((x.setGate (x.eds e).dst g').setQ e q).num = x.num := rfl
        have hyk : ((x.setGate (x.eds e).dst g').setQ e q).kind = x.kind := rfl
        rw [hact] at ht hgood
        clear hact hdst
        generalize (x.setGate (x.eds e).dst g').setQ e q = y at *
        generalize hj : (x.eds e).dst = j at *
        have hyl : ∀ L, Lens x L → Lens y L := fun L hl k hk => by
          rw [hye]
          by_cases h : k = e
          · rw [if_pos h]; exact hl e he
          · rw [if_neg h]; exact hl k (by rw [← hys.ne]; exact hk)
        have hqs := sumR_one (f := fun k => wq (x.eds k).q) (g := fun k => wq (y.eds k).q) (k := e) (n := x.ne) he fun k _ hk => by rw [hye, if_neg hk]
        have hqe : wq (y.eds e).q = wq q := by rw [hye, if_pos rfl]
        have hwm : wt m = 1 := by unfold wt; rw [if_pos hm]
        have hbs : ∀ k, (y.ins k).box = (x.ins k).box ∧ (y.ins k).rep = (x.ins k).rep := fun k => by
          rw [hyi]; split <;> exact ⟨rfl, rfl⟩
        have e1 := hys.n
        have e2 := hys.ne
        have hty : todo y + 1 ≤ todo x := by
          have hb : sumR (fun i => wb (y.ins i).box) x.n = sumR (fun i => wb (x.ins i).box) x.n := sumR_congr fun k _ => by rw [(hbs k).1]
          have hu : sumR (unrep y) x.n = sumR (unrep x) x.n := sumR_congr fun k _ => by unfold unrep; rw [hyn, (hbs k).2]
          unfold todo
          rw [e1, e2, hb, hu]
          omega
        refine ⟨by rw [ht]; exact hgood, by rw [ht], (fun h => by rw [ht] at h; cases h), fun _ => ?_, fun L hl => ?_, ?_, ?_⟩
        · rw [ht]
          show todo (if a = 4 then _ else _) + 1 ≤ _
          by_cases h4 : a = 4
          · rw [if_pos h4]
            have hr := hr4 h4
            obtain ⟨f1, f2⟩ := repS_form y j
            have hrs := same_repS y j
            have hq2 : sumR (fun k => wq ((repS y j).eds k).q) x.ne = sumR (fun k => wq (y.eds k).q) x.ne := sumR_congr fun k _ => by rw [(rep_same j k).2.2.2.2]
            have hjn : j < x.n := hdn
            have hb2 := sumR_one (f := fun i => wb (y.ins i).box) (g := fun i => wb ((repS y j).ins i).box) (k := j) (n := x.n) hjn fun k _ hk => by rw [f1, if_neg hk]
            have hu2 := sumR_one (f := unrep y) (g := unrep (repS y j)) (k := j) (n := x.n) hjn fun k _ hk => by unfold unrep; rw [(repS_kn y j).2, f1, if_neg hk]
            have hbj : wb ((repS y j).ins j).box ≤ wb (y.ins j).box + 12 := by
              rw [f1, if_pos rfl]
              show wb (repBox y j) ≤ _
              have hf : wb (firstS y j) ≤ 12 := by
                unfold firstS
                rw [wb_outs]
                have := outsK_len (x := y) j y.ne
                have := c.ne6
                have hw1 : wt (barM y.num) = 1 := by unfold wt; rw [if_pos rfl]
                rw [hw1]
                omega
              unfold repBox
              split <;> rw [wb_append] <;> omega
            have huj : unrep (repS y j) j = 0 := by
              unfold unrep
              rw [f1, if_pos rfl]
              split
              · rfl
              · rw [if_pos rfl]
            have huj2 : unrep y j = 13 := by
              unfold unrep
              rw [hyn, if_neg (by omega), (hbs j).2, hr, if_neg Bool.false_ne_true]
            have e3 := hrs.n
            have e4 := hrs.ne
            unfold todo at hty ⊢
            rw [e3, e4, e1, e2, hq2]
            rw [e1, e2] at hty
            omega
          · rw [if_neg h4]; exact hty
        · rw [ht]
          show Lens (if a = 4 then _ else _) _
          split
          · intro k hk
            obtain ⟨s1, s2, s3, s4, _⟩ := rep_same (x := y) j k
            rw [s1, s2, s3, s4]
            exact (hyl L hl).more (by omega) k (by rw [← (same_repS y j).ne]; exact hk)
          · exact (hyl L hl).more (by omega)
        · rw [ht]
          show (if a = 4 then repS y j else y).ne = _
          split
          · rw [(same_repS y j).ne, e2]
          · exact e2
        · rw [ht]
          show (if a = 4 then repS y j else y).n = _
          split
          · rw [(same_repS y j).n, e1]
          · exact e1
      · -- a mark
        have hk2 : m.kind = 2 := by
          rcases hfit with ⟨h, _⟩ | ⟨h, _⟩
          · exact absurd h hm
          · exact h
        have hbox : (x.ins (x.eds e).dst).box = [] := by
          unfold blockedS at hbl
          rw [decide_eq_true (show m.kind ≠ 1 from hm), Bool.or_true, Bool.and_true] at hbl
          have := of_decide_eq_false hbl
          exact List.eq_nil_of_length_eq_zero (by omega)
        obtain ⟨hsame, hcase⟩ := arrive_mark (g := (x.ins (x.eds e).dst).gate) (i := inb x e) (kind := x.kind) hm
        have hpop := good_pop he hq hm g
        obtain ⟨a, ha⟩ : ∃ a, (arriveS (x.ins (x.eds e).dst).gate (inb x e) m x.kind).1 = a := ⟨_, rfl⟩
        rw [ha] at hcase hpop
        by_cases ha0 : a = 0
        · have ht : takeS x e = ((false, true), x) := by
            unfold takeS; rw [hq]
            simp only [hbl, ha, hsame, ha0, Bool.false_eq_true, if_false, if_true, setGate_same]
          refine ⟨by rw [ht]; exact g, by rw [ht], fun _ => ⟨by rw [ht], fun m' q' h => ?_⟩, (fun h => by rw [ht] at h; cases h), fun L hl => by rw [ht]; exact hl.more (by omega), by rw [ht], by rw [ht]⟩
          rcases hcase with h1 | h1 | h1
          · exact .inr h1.2
          · omega
          · omega
        · have ha12 : a = 1 ∨ a = 2 := by
            rcases hcase with h1 | h1 | h1
            · omega
            · exact .inr h1.1
            · exact .inl h1.1
          have hpop := hpop ha0
          have hcalm := pop_calm x e q m a
          have hdst : (((x.setGate (x.eds e).dst (x.ins (x.eds e).dst).gate).setQ e q).eds e).dst = (x.eds e).dst := ((same_gate x (x.eds e).dst _).trans (same_q _ e q)).dst e
          have ht : takeS x e = ((true, true), relayS (popS x e q m a) (x.eds e).dst m) := by
            unfold takeS; rw [hq]
            simp only [hbl, ha, hsame, Bool.false_eq_true, if_false]
            rw [if_neg ha0, if_neg (by omega)]
            unfold actS
            rw [if_pos ha12, hdst, setGate_same]
            rfl
          have hpe := pop_eds x e q m a
          have hpi := pop_ins x e q m a
          have hps := hcalm.same
          have hpn := hcalm.num
          have hqs := sumR_one (f := fun k => wq (x.eds k).q) (g := fun k => wq ((popS x e q m a).eds k).q) (k := e) (n := x.ne) he fun k _ hk => by rw [hpe, if_neg hk]
          have hqe : wq ((popS x e q m a).eds e).q = wq q := by rw [hpe, if_pos rfl]
          have hlens : ∀ L, Lens x L → ∀ k, k < x.ne → ((popS x e q m a).eds k).made.length ≤ L ∧ ((popS x e q m a).eds k).handled.length ≤ L + 1 ∧ ((popS x e q m a).eds k).flying.length ≤ L + 1 ∧ ((popS x e q m a).eds k).sent ≤ L := fun L hl k hk => by
            rw [hpe]
            by_cases h : k = e
            · subst h
              rw [if_pos rfl]
              obtain ⟨l1, l2, l3, l4⟩ := hl k hk
              refine ⟨l1, ?_, ?_, l4⟩
              · show (if _ then _ else _ : List Int).length ≤ _
                split
                · omega
                · rw [List.length_append, List.length_singleton]; omega
              · show (if _ then _ else _ : List Int).length ≤ _
                split
                · rw [List.length_append, List.length_singleton]; omega
                · omega
            · rw [if_neg h]
              obtain ⟨l1, l2, l3, l4⟩ := hl k hk
              exact ⟨l1, by omega, by omega, l4⟩
          generalize popS x e q m a = y at *
          have e1 := hps.n
          have e2 := hps.ne
          have hty : todo y + wt m = todo x := by
            have hb : sumR (fun i => wb (y.ins i).box) x.n = sumR (fun i => wb (x.ins i).box) x.n := by rw [hpi]
            have hu : sumR (unrep y) x.n = sumR (unrep x) x.n := sumR_congr fun k _ => by unfold unrep; rw [hpn, hpi]
            unfold todo
            rw [e1, e2, hb, hu]
            omega
          have hyn : (x.eds e).dst < y.n := by omega
          have hyb : (y.ins (x.eds e).dst).box = [] := by rw [hpi]; exact hbox
          have hw := wt_pos m
          by_cases h0 : 0 < m.n
          · have er : relayS y (x.eds e).dst m = prodS y (x.eds e).dst (markM (m.n - 1)) := by unfold relayS; rw [if_pos h0]
            rw [er] at ht
            have hf2 : Fit (markM (m.n - 1)) := by
              rcases hfit with ⟨h, _⟩ | ⟨_, h1, h2⟩
              · exact absurd h hm
              · exact .inr ⟨rfl, by show 0 ≤ m.n - 1; omega, by show m.n - 1 ≤ 2; omega⟩
            have hG := prod_gts y (x.eds e).dst (markM (m.n - 1))
            refine ⟨by rw [ht]; exact good_prod hyn hf2 rfl hyb hpop, by rw [ht], (fun h => by rw [ht] at h; cases h), fun _ => ?_, fun L hl => ?_, by rw [ht]; exact hG.same.ne.trans e2, by rw [ht]; exact hG.same.n.trans e1⟩
            · rw [ht]
              have h1 := relay_todo hpop.1 hyn hf2 hyb
              have h2 := wt_next hfit hk2 h0
              show todo (prodS y (x.eds e).dst (markM (m.n - 1))) + 1 ≤ _
              omega
            · rw [ht]
              intro k hk
              have hk' : k < x.ne := by rw [← e2, ← hG.same.ne]; exact hk
              obtain ⟨l1, l2, l3, l4⟩ := hlens L hl k hk'
              show ((prodK y (x.eds e).dst (markM (m.n - 1)) y.ne).eds k).made.length ≤ _ ∧ ((prodK y (x.eds e).dst (markM (m.n - 1)) y.ne).eds k).handled.length ≤ _ ∧ ((prodK y (x.eds e).dst (markM (m.n - 1)) y.ne).eds k).flying.length ≤ _ ∧ ((prodK y (x.eds e).dst (markM (m.n - 1)) y.ne).eds k).sent ≤ _
              rw [(prodK_form y (x.eds e).dst (markM (m.n - 1)) y.ne).2.1]
              split
              · refine ⟨?_, by show (y.eds k).handled.length ≤ _; omega, by show (y.eds k).flying.length ≤ _; omega, by show (y.eds k).sent ≤ _; omega⟩
                show ((y.eds k).made ++ [_]).length ≤ _
                rw [List.length_append, List.length_singleton]; omega
              · exact ⟨by omega, by omega, by omega, by omega⟩
          · have er : relayS y (x.eds e).dst m = y := by unfold relayS; rw [if_neg h0]
            rw [er] at ht
            refine ⟨by rw [ht]; exact hpop, by rw [ht], (fun h => by rw [ht] at h; cases h), fun _ => ?_, fun L hl => ?_, by rw [ht]; exact e2, by rw [ht]; exact e1⟩
            · rw [ht]; show todo y + 1 ≤ _; omega
            · rw [ht]
              intro k hk
              obtain ⟨l1, l2, l3, l4⟩ := hlens L hl k (by rw [← e2]; exact hk)
              exact ⟨by show (y.eds k).made.length ≤ _; omega, by show (y.eds k).handled.length ≤ _; omega, by show (y.eds k).flying.length ≤ _; omega, by show (y.eds k).sent ≤ _; omega⟩
end Go.Proofs.Ytmlnockcmdameaa
end

/-
  When nothing can be sent and nothing can be taken, nothing is left, and the checkpoint is whole.
-/
section
set_option linter.unusedVariables false
set_option linter.unusedSimpArgs false
namespace Go.Proofs.Ytmlnockcmdameaa
open Go.Vc

theorem down {n : Nat} {P : Nat → Prop} (h : ∀ i, i < n → (∀ j, i < j → j < n → P j) → P i) : ∀ i, i < n → P i := by
  have key : ∀ d i, n - i ≤ d → i < n → P i := fun d => by
    induction d with
    | zero => intro i h1 h2; omega
    | succ d ih => intro i h1 h2; exact h i h2 fun j h3 h4 => ih j (by omega) h4
  exact fun i hi => key n i (by omega) hi
theorem up {n : Nat} {P : Nat → Prop} (h : ∀ i, i < n → (∀ j, j < i → P j) → P i) : ∀ i, i < n → P i := by
  have key : ∀ d i, i ≤ d → i < n → P i := fun d => by
    induction d with
    | zero => intro i h1 h2; exact h i h2 fun j h3 => by omega
    | succ d ih => intro i h1 h2; exact h i h2 fun j h3 => ih j (by omega) (by omega)
  exact fun i hi => key i i (Nat.le_refl _) hi

section
variable {x : NtD}
/-- a channel that is full, or not empty, where nothing is held: its receiver has something in its outbox -/
theorem blocked_box {e : Nat} {m : MsgL} (h : blockedS x e m = true) : 0 < (x.ins (x.eds e).dst).box.length := by
  unfold blockedS at h
  rw [Bool.and_eq_true] at h
  exact of_decide_eq_true h.1

theorem stuck_all (g : Good x) (hf : ∀ i, i < x.n → flushS x i = none) (ht : ∀ e, e < x.ne → StuckE x e) : (∀ k, k < x.ne → (x.eds k).q = []) ∧ (0 < x.num → wholeS x = true) := by
  obtain ⟨c, g⟩ := g
  -- a box that is not empty: its first channel is full
  have first : ∀ i, i < x.n → 0 < (x.ins i).box.length → ∃ e m q, e < x.ne ∧ (x.eds e).src = i ∧ (x.eds e).q = m :: q := fun i hi h0 => by
    have hm := List.getElem_mem h0
    obtain ⟨h1, h2⟩ := c.item i hi _ hm
    have h3 := flush_none (hf i hi) _ hm
    cases hq : (x.eds (x.ins i).box[0].1).q with
    | nil => rw [hq] at h3; simp at h3
    | cons m q => exact ⟨_, m, q, h1, h2, hq⟩
  -- nothing is held
  have noHold : ∀ e, e < x.ne → ¬((x.ins (x.eds e).dst).gate.busy = true ∧ (x.ins (x.eds e).dst).gate.kind ≠ 1 ∧ inb x e ∈ (x.ins (x.eds e).dst).gate.came) := by
    rcases g with g | g
    · intro e he h
      have := (g.calm _ (c.lt e he).2).1
      rw [this] at h
      cases h.1
    · rcases c.kind with h0 | h1
      · -- aligned: all have reported
        have boxes : ∀ u, u < x.n → ((x.ins u).rep = false → (x.ins u).box = []) := down fun u hu ih hr => by
          refine Classical.byContradiction fun hb => ?_
          have hb : 0 < (x.ins u).box.length := List.length_pos_iff.2 hb
          obtain ⟨e, m, q, he, hs, hq⟩ := first u hu hb
          obtain ⟨hsd, hdn⟩ := c.lt e he
          have hae : arv x e = false := by
            cases ha : arv x e with
            | false => rfl
            | true =>
              have := (g.edge e he).2.1 ha
              rw [hs, hr] at this
              cases this
          rcases ht e he m q hq with hbl | hh
          · have hd := blocked_box hbl
            have hrd : (x.ins (x.eds e).dst).rep = false := by
              cases hrd : (x.ins (x.eds e).dst).rep with
              | false => rfl
              | true =>
                unfold arv at hae
                cases hbs : (x.ins (x.eds e).dst).gate.busy with
                | false => rw [hbs, if_neg Bool.false_ne_true, hrd] at hae; cases hae
                | true => have := ((g.inst _ hdn).1 hbs).2.2.2.1 h0; rw [hrd] at this; cases this
            rw [ih _ (by omega) hdn hrd] at hd
            simp at hd
          · unfold arv at hae
            rw [hh.1, if_pos rfl, decide_eq_true hh.2.2] at hae
            cases hae
        have reps : ∀ u, u < x.n → (x.ins u).rep = true := up fun u hu ih => by
          cases hr : (x.ins u).rep with
          | true => rfl
          | false =>
            exfalso
            have hbx := boxes u hu hr
            obtain ⟨i1, i2, i3⟩ := g.inst u hu
            obtain ⟨c1, c2, c3⟩ := c.came u hu
            -- a channel whose barrier has not come
            have hex : ∃ e, e < x.ne ∧ (x.eds e).dst = u ∧ arv x e = false := by
              cases hb : (x.ins u).gate.busy with
              | true =>
                obtain ⟨j, hj, hjc⟩ := not_all c1 c2 (i1 hb).2.2.1
                rw [c.ch u hu] at hj
                obtain ⟨e, he, hd, hi⟩ := inb_sur hj
                refine ⟨e, he, hd, ?_⟩
                unfold arv
                rw [hd, hb, if_pos rfl, hi, decide_eq_false hjc]
              | false =>
                have hns : sourceS x u = false := by
                  cases hs : sourceS x u with
                  | false => rfl
                  | true => rw [i2 hs] at hr; cases hr
                have hns := of_decide_eq_false hns
                obtain ⟨e, he⟩ := Classical.not_forall.1 hns
                obtain ⟨he1, he2⟩ := Classical.not_imp.1 he
                have he2 : (x.eds e).dst = u := Classical.byContradiction he2
                refine ⟨e, he1, he2, ?_⟩
                unfold arv
                rw [he2, hb, if_neg Bool.false_ne_true, hr]
            obtain ⟨e, he, hd, hae⟩ := hex
            obtain ⟨hsd, hdn⟩ := c.lt e he
            have hsr : (x.ins (x.eds e).src).rep = true := ih _ (by omega)
            have hcnt := (g.edge e he).1
            rw [hsr, hae] at hcnt
            have hcnt : nbar (stream x e) = 1 := hcnt
            cases hq : (x.eds e).q with
            | cons m q =>
              rcases ht e he m q hq with hbl | hh
              · have := blocked_box hbl
                rw [hd, hbx] at this
                simp at this
              · unfold arv at hae
                rw [hh.1, if_pos rfl, decide_eq_true hh.2.2] at hae
                cases hae
            | nil =>
              have hne : stream x e ≠ [] := fun h => by rw [h] at hcnt; simp [nbar] at hcnt
              unfold stream at hne
              rw [hq, List.nil_append] at hne
              obtain ⟨m, hm⟩ := List.exists_mem_of_ne_nil _ hne
              have := flush_none (hf (x.eds e).src (by omega)) _ (ofEdge_mem hm)
              rw [hq] at this
              simp at this
        intro e he h
        have hdn := (c.lt e he).2
        have := ((g.inst _ hdn).1 h.1).2.2.2.1 h0
        rw [reps _ hdn] at this
        cases this
      · intro e he h
        have := ((g.inst _ (c.lt e he).2).1 h.1).2.1
        exact h.2.1 (this.trans h1)
  have boxes : ∀ i, i < x.n → (x.ins i).box = [] := down fun i hi ih => by
    refine Classical.byContradiction fun hb => ?_
    have hb : 0 < (x.ins i).box.length := List.length_pos_iff.2 hb
    obtain ⟨e, m, q, he, hs, hq⟩ := first i hi hb
    obtain ⟨hsd, hdn⟩ := c.lt e he
    rcases ht e he m q hq with hbl | hh
    · have := blocked_box hbl
      rw [ih _ (by omega) hdn] at this
      simp at this
    · exact noHold e he hh
  have qs : ∀ k, k < x.ne → (x.eds k).q = [] := fun k hk => by
    cases hq : (x.eds k).q with
    | nil => rfl
    | cons m q =>
      exfalso
      rcases ht k hk m q hq with hbl | hh
      · have := blocked_box hbl
        rw [boxes _ (c.lt k hk).2] at this
        simp at this
      · exact noHold k hk hh
  refine ⟨qs, fun hnum => ?_⟩
  rcases g with g | g
  · have := g.num; omega
  have hst : ∀ k, k < x.ne → stream x k = [] := fun k hk => by
    unfold stream
    rw [qs k hk, boxes _ (by have := c.lt k hk; omega)]
    rfl
  have hcnt : ∀ k, k < x.ne → (x.ins (x.eds k).src).rep = true → arv x k = true := fun k hk hr => by
    have := (g.edge k hk).1
    rw [hst k hk, hr] at this
    cases ha : arv x k with
    | true => rfl
    | false => rw [ha] at this; simp [nbar] at this
  have reps : ∀ u, u < x.n → (x.ins u).rep = true := up fun u hu ih => by
    cases hr : (x.ins u).rep with
    | true => rfl
    | false =>
      exfalso
      obtain ⟨i1, i2, i3⟩ := g.inst u hu
      obtain ⟨c1, c2, c3⟩ := c.came u hu
      cases hb : (x.ins u).gate.busy with
      | true =>
        obtain ⟨j, hj, hjc⟩ := not_all c1 c2 (i1 hb).2.2.1
        rw [c.ch u hu] at hj
        obtain ⟨e, he, hd, hi⟩ := inb_sur hj
        have := hcnt e he (ih _ (by have := c.lt e he; omega))
        unfold arv at this
        rw [hd, hb, if_pos rfl, hi] at this
        exact hjc (of_decide_eq_true this)
      | false =>
        have hns : sourceS x u = false := by
          cases hs : sourceS x u with
          | false => rfl
          | true => rw [i2 hs] at hr; cases hr
        have hns := of_decide_eq_false hns
        obtain ⟨e, he⟩ := Classical.not_forall.1 hns
        obtain ⟨he1, he2⟩ := Classical.not_imp.1 he
        have he2 : (x.eds e).dst = u := Classical.byContradiction he2
        have := hcnt e he1 (ih _ (by have := c.lt e he1; omega))
        unfold arv at this
        rw [he2, hb, if_neg Bool.false_ne_true, hr] at this
        cases this
  refine whole_in (fun i hi => ⟨reps i hi, ?_, by rw [boxes i hi]; rfl⟩) fun k hk => by rw [qs k hk]; rfl
  cases hb : (x.ins i).gate.busy with
  | false => rfl
  | true =>
    exfalso
    obtain ⟨i1, i2, i3⟩ := g.inst i hi
    obtain ⟨c1, c2, c3⟩ := c.came i hi
    obtain ⟨j, hj, hjc⟩ := not_all c1 c2 (i1 hb).2.2.1
    rw [c.ch i hi] at hj
    obtain ⟨e, he, hd, hie⟩ := inb_sur hj
    have := hcnt e he (reps _ (by have := c.lt e he; omega))
    unfold arv at this
    rw [hd, hb, if_pos rfl, hie] at this
    exact hjc (of_decide_eq_true this)
end

/-! ### sizes, once more -/
theorem good_nb {x : NtD} (g : Good x) {L : Nat} (hl : Lens x L) (hL : L < 900000) : NB x := by
  have c := g.1
  refine ⟨by have := c.ne6; omega, fun k hk => by have := c.lt k hk; omega, fun k hk => (c.lt k hk).2, fun i hi => by have := box_le g hi; omega, fun i hi y hy => ⟨(c.item i hi y hy).1, (c.fit y.1 (c.item i hi y hy).1 y.2 (box_stream c hi hy)).ok⟩, c.kind, fun k hk => ?_, fun k hk => by have := c.boxed k hk; omega, fun k hk => ?_, fun k hk => ?_, fun k hk => ?_⟩
  · have := (hl k hk).1; omega
  · have := (hl k hk).2.1; omega
  · have := (hl k hk).2.2.1; omega
  · have := (hl k hk).2.2.2; omega
theorem stream_len {x : NtD} (g : Good x) {k : Nat} (hk : k < x.ne) : (stream x k).length ≤ 16 := by
  have c := g.1
  have h1 := c.qlen k hk
  have h2 := ofEdge_len k (x.ins (x.eds k).src).box
  have h3 := box_le g (i := (x.eds k).src) (by have := c.lt k hk; omega)
  unfold stream
  rw [List.length_append]
  omega
theorem start_lens {x : NtD} (g : Good x) (d : Idle x) {number kind : Int} (hn : 1 ≤ number ∧ number ≤ 1000) (hk : kind = 0 ∨ kind = 1) {L : Nat} (hl : Lens x L) (h16 : 16 ≤ L) : Lens (startS x number kind) L := by
  obtain ⟨h1, h2, h3, h4⟩ := start_base g.1 d hn hk
  have hs := same_srcRep (madeK (clearS { x with num := number, kind := kind }) x.ne) x.n
  intro k hk
  have hk' : k < x.ne := by
    have : (startS x number kind).ne = x.ne := hs.ne.trans h4
    omega
  have hsame : ∀ i, ((srcRep (madeK (clearS { x with num := number, kind := kind }) x.ne) i).eds k).made = ((madeK (clearS { x with num := number, kind := kind }) x.ne).eds k).made ∧ ((srcRep (madeK (clearS { x with num := number, kind := kind }) x.ne) i).eds k).handled = ((madeK (clearS { x with num := number, kind := kind }) x.ne).eds k).handled ∧ ((srcRep (madeK (clearS { x with num := number, kind := kind }) x.ne) i).eds k).flying = ((madeK (clearS { x with num := number, kind := kind }) x.ne).eds k).flying ∧ ((srcRep (madeK (clearS { x with num := number, kind := kind }) x.ne) i).eds k).sent = ((madeK (clearS { x with num := number, kind := kind }) x.ne).eds k).sent := fun i => by
    induction i with
    | zero => exact ⟨rfl, rfl, rfl, rfl⟩
    | succ i ih =>
      unfold srcRep
      split
      · obtain ⟨s1, s2, s3, s4, _⟩ := rep_same (x := srcRep (madeK (clearS { x with num := number, kind := kind }) x.ne) i) i k
        rw [s1, s2, s3, s4]; exact ih
      · exact ih
  obtain ⟨s1, s2, s3, s4⟩ := hsame x.n
  obtain ⟨t1, t2, t3, t4⟩ := h3 k hk'
  have hs4 := (hl k hk').2.2.2
  have hst := stream_len g hk'
  unfold startS
  rw [s1, s2, s3, s4, t1, t2, t3, t4]
  unfold nsOf
  rw [List.length_map]
  exact ⟨by omega, Nat.zero_le _, Nat.zero_le _, hs4⟩
theorem clear_lens {x : NtD} {L : Nat} (hl : Lens x L) : Lens (clearS { x with num := 0 }) L := fun k hk => by
  have hk' : k < x.ne := by
    have := (clear_rest { x with num := 0 }).2.1
    rw [this] at hk; exact hk
  rw [clear_eds, if_pos hk']
  exact ⟨Nat.zero_le _, Nat.zero_le _, Nat.zero_le _, (hl k hk').2.2.2⟩
end Go.Proofs.Ytmlnockcmdameaa
end

/-
  start, walked.
-/
section
set_option linter.unusedVariables false
set_option linter.unusedSimpArgs false
namespace Go.Proofs.Ytmlnockcmdameaa
open Go.Vc


section
variable {W w : World} {S : List Own} {Φ : PW} {A : NA} {ea : Nat → EA} {ia : Nat → IA} {x : NtD}

theorem x_put [Stable Φ] {T F : List Own} {j : Nat} {v : Value} {y : NtD} (hj : j < 11) (hy : lay A ea ia y = .blk A.xb ((netC A x).set j v) 40 :: (lay A ea ia x).tail) (cx : Ctx W w ((lay A ea ia x ++ T) ++ F) Φ) :
    CanWrite w A.xb j 1 ∧ ∀ w', w' = w.setCell (Addr.mk A.xb j none) v → Ctx W w' ((lay A ea ia y ++ T) ++ F) Φ := by
  refine ⟨Ctx.can cx 0 rfl (by show j + 1 ≤ 11; omega), fun w' hw' => ?_⟩
  rw [hy]
  exact Ctx.put cx 0 hw' rfl

theorem sub5 {T R F : List Own} {o : Own} (h : [o].Sublist T) : ([Own.blk A.xb (netC A x) 40, arr A.mdp A.mdc x.ne 58 (gMd ea x), o]).Sublist (hd A ea ia x ++ (T ++ R)) :=
  List.Sublist.append (l₁ := [Own.blk A.xb (netC A x) 40, arr A.mdp A.mdc x.ne 58 (gMd ea x)]) (.cons_cons _ (.cons _ (.cons _ (.cons _ (.cons _ (.cons_cons _ (List.nil_sublist _))))))) (h.trans (List.sublist_append_left _ _))
theorem sub5' {T R F : List Own} {o : Own} (h : [o].Sublist R) : ([Own.blk A.xb (netC A x) 40, arr A.mdp A.mdc x.ne 58 (gMd ea x), o]).Sublist (hd A ea ia x ++ (T ++ R)) :=
  List.Sublist.append (l₁ := [Own.blk A.xb (netC A x) 40, arr A.mdp A.mdc x.ne 58 (gMd ea x)]) (.cons_cons _ (.cons _ (.cons _ (.cons _ (.cons _ (.cons_cons _ (List.nil_sublist _))))))) (h.trans (List.sublist_append_right _ _))

theorem box_mem {i : Nat} (hi : i < x.n) : [boxR (ia i).bp (ia i).bc (x.ins i).box].Sublist (insO ia x (List.range x.n)) :=
  List.singleton_sublist.2 (List.mem_flatMap.2 ⟨i, List.mem_range.2 hi, by simp⟩)

/-- the numbers on the way of an edge are noted, as far as this: j messages of its channel, then t of the outbox -/
abbrev noted (z : NtD) (k j t : Nat) : NtD := z.setMade k ((z.eds k).made ++ nsOf ((z.eds k).q.take j) ++ nsOf (ofEdge k ((z.ins (z.eds k).src).box.take t)))

theorem noted_eds (z : NtD) (k j t : Nat) : ((noted z k j t).eds k).made = (z.eds k).made ++ nsOf ((z.eds k).q.take j) ++ nsOf (ofEdge k ((z.ins (z.eds k).src).box.take t)) := by
  show (upd z.eds k _ k).made = _; rw [upd_self]

set_option maxHeartbeats 4000000 in
theorem start_use [Stable Φ] (hE : EdF Φ A x) (hne : x.ne ≤ 50) (hn : x.n ≤ 50) (hsrc : ∀ k, k < x.ne → (x.eds k).src < x.n) (hbox : ∀ i, i < x.n → (x.ins i).box.length ≤ 1000 ∧ ∀ y ∈ (x.ins i).box, y.1 < x.ne) (number kind : Int) (hkind : kind = 0 ∨ kind = 1) (hP : NP ea ia x)
    (c : Ctx W w (lay A ea ia x ++ S) Φ) {K : Ending → World → Prop}
    (hk : ∀ ea' ia' w', NP ea' ia' (startS x number kind) → Ctx W w' (lay A ea' ia' (startS x number kind) ++ S) Φ → K (.returned (.tuple #[])) w') : Calls Try.prog F.erratalaw39_net_start #[.pointer (some ⟨A.xb, 0, none⟩), .int .i64 number, .int .i64 kind] w K := by
  refine (Berratalaw39_net_start_run A.xb 0 number kind (J := fun u w' => K (.returned u) w') c ?_).mono fun e w' ⟨v, he, hj⟩ => by rw [he]; exact hj
  intro w G cx
  obtain ⟨g1, g2⟩ := x_put (x := x) (ea := ea) (ia := ia) (j := 10) (v := .int .i64 number) (y := { x with num := number }) (by omega) rfl cx
  refine ⟨g1, fun w' hw' => ⟨lay A ea ia { x with num := number } ++ S, Φ, inferInstance, g2 w' hw', fun w G cx => ?_⟩⟩
  clear g1 g2
  obtain ⟨g1, g2⟩ := x_put (x := { x with num := number }) (ea := ea) (ia := ia) (j := 9) (v := .int .i64 kind) (y := { x with num := number, kind := kind }) (by omega) rfl cx
  refine ⟨g1, fun w' hw' => ⟨lay A ea ia { x with num := number, kind := kind } ++ S, Φ, inferInstance, g2 w' hw', fun w G cx => ?_⟩⟩
  clear g1 g2
  have hs0 : SameE x ({ x with num := number, kind := kind } : NtD) := ⟨rfl, rfl, fun _ => rfl, fun _ => rfl⟩
  refine clear_use (S := S ++ G) (x := { x with num := number, kind := kind }) (by show x.ne ≤ 1000; omega) (by show x.n ≤ 1000; omega) ⟨hP.ch, hP.gt⟩ (by rw [← List.append_assoc]; exact cx) fun ea1 w hP1 cx => ⟨rfl, lay A ea1 ia (clearS { x with num := number, kind := kind }) ++ S, Φ, inferInstance, by rw [List.append_assoc]; exact cx, ?_⟩
  have hs := hs0.trans (same_clear _)
  have hmd0 : ∀ k, k < x.ne → ((clearS { x with num := number, kind := kind }).eds k).made = [] ∧ ((clearS { x with num := number, kind := kind }).eds k).boxed = [] := fun k hk => by rw [clear_eds, if_pos hk]; exact ⟨rfl, rfl⟩
  have hbx0 : ∀ i, i < x.n → ((clearS { x with num := number, kind := kind }).ins i).box = (x.ins i).box := fun i hi => by rw [clear_ins, if_pos hi]
  have hkd0 : (clearS { x with num := number, kind := kind }).kind = kind := (clear_rest _).2.2.1
  have hst : startS x number kind = srcRep (madeK (clearS { x with num := number, kind := kind }) x.ne) x.n := rfl
  rw [hst] at hk
  clear hst
  have hE1 := hs.edF hE
  have hn1 := hs.n
  have hne1 := hs.ne
  have hsr1 : ∀ k, k < x.ne → ((clearS { x with num := number, kind := kind }).eds k).src < x.n := fun k hk => by rw [hs.src]; exact hsrc k hk
  obtain ⟨b1, b2, b3, b4, b5, b6, b7, b8, hb⟩ := (lay_hd cx).ptr
  rw [List.append_assoc] at *
  generalize clearS { x with num := number, kind := kind } = y at *
  clear cx
  -- what is on the way of each edge
  refine exI_mk (fun ni R' Φ' m => ∃ (k : Nat) (ea' : Nat → EA), ni = k ∧ k ≤ x.ne ∧ R' = lay A ea' ia (madeK y k) ++ S ∧ Φ' = Φ ∧ m = x.ne - k ∧ NP ea' ia (madeK y k)) ⟨⟨_, Φ, _, inferInstance, fun w G cx => cx, 0, ea1, rfl, Nat.zero_le _, rfl, rfl, rfl, hP1⟩, ?_⟩
  rintro ni R1 Φ1 m _ ⟨k, ea2, rfl, hkn, rfl, rfl, rfl, hP2⟩
  have hs2 := same_madeK y k
  have hE2 := hs2.edF hE1
  have hb2 := hs2.ptr hb
  have hn2 := hs2.n
  have hne2 := hs2.ne
  refine fun w G cx => ⟨_, _, _, lay_x cx rfl, Br.intro (fun hlt => ?_) (fun hge => ?_)⟩
  · have hlt : k < x.ne := by have := of_decide_eq_true hlt; omega
    have hnext : madeK y (k + 1) = (madeK y k).setMade k (((madeK y k).eds k).made ++ nsOf (stream (madeK y k) k)) := rfl
    have hzk : ((madeK y k).eds k).made = [] := by rw [madeK_eds, if_neg (by omega)]; exact (hmd0 k hlt).1
    have hzsrc : ((madeK y k).eds k).src < x.n := by rw [hs2.src]; exact hsr1 k hlt
    have hzbox : ∀ i, i < x.n → ((madeK y k).ins i).box.length ≤ 1000 ∧ ∀ y2 ∈ ((madeK y k).ins i).box, y2.1 < x.ne := fun i hi => by rw [(madeK_rest y k).1, hbx0 i hi]; exact hbox i hi
    generalize madeK y k = z at *
    have hzlt : k < z.ne := by omega
    have hch := hP2.ch k hzlt
    have h4 := hch.count
    refine fun w G cx => ⟨_, _, _, lay_x cx rfl, ⟨by omega, Int.ofNat_lt.2 hzlt⟩, ptrK_intro b1 0 (hb2.ch (by omega)) fun w G cx => ⟨_, lay_get cx 1 rfl (hb2.ch (by omega)) hzlt, fun w G cx => ?_⟩⟩
    refine List_use (chan_in hzlt cx) hch fun p cap w cx => ?_
    have c1 : Ctx W w ((lay A ea2 ia z ++ (bufM p cap (z.eds k).q :: S)) ++ G) Φ1 := by
      refine chan_back (A := A) (ea := ea2) (ia := ia) (x := z) (T := bufM p cap (z.eds k).q :: S) (F := G) hzlt (cx.perm ?_)
      refine ((List.Perm.swap _ _ _).trans (List.Perm.cons _ ?_))
      have := (to_front (o := bufM p cap (z.eds k).q) (L := hd A ea2 ia z ++ ([intR (ea2 k).mp (ea2 k).mc (z.eds k).made, intR (ea2 k).bp (ea2 k).bc (z.eds k).boxed, intR (ea2 k).hp (ea2 k).hc (z.eds k).handled, intR (ea2 k).fp (ea2 k).fc (z.eds k).flying] ++ restE ea2 ia z k)) (R := S) (F := G)).symm
      simpa only [List.append_assoc] using this
    obtain ⟨pb, hpb⟩ : ∃ pb, 0 < (z.eds k).q.length → p = some ⟨pb, 0, none⟩ := by
      rcases Nat.eq_zero_or_pos (z.eds k).q.length with h0 | h0
      · exact ⟨0, fun h => by omega⟩
      · obtain ⟨pb, hpb, _⟩ := (c1.perm to_front).bufCell 0 rfl (by rw [((c1.perm to_front).bufLen 0 rfl).1]; omega)
        exact ⟨pb, fun _ => hpb⟩
    refine ⟨p, _, cap, rfl, lay A ea2 ia z ++ (bufM p cap (z.eds k).q :: S), Φ1, inferInstance, c1, ?_⟩
    clear c1 cx
    have h00 : noted z k 0 0 = z := by
      show z.setMade k _ = z
      have : (z.eds k).made ++ nsOf ((z.eds k).q.take 0) ++ nsOf (ofEdge k ((z.ins (z.eds k).src).box.take 0)) = (z.eds k).made := by simp [nsOf, ofEdge]
      rw [this, setMade_same]
    have hmk : ∀ j t, ((noted z k j t).eds k).made.length ≤ 2000 := fun j t => by
      rw [noted_eds, hzk]
      have h2 := (hzbox _ hzsrc).1
      have h3 : (ofEdge k ((z.ins (z.eds k).src).box.take t)).length ≤ (z.ins (z.eds k).src).box.length := by
        unfold ofEdge
        rw [List.length_map]
        refine Nat.le_trans (List.length_filter_le _ _) ?_
        rw [List.length_take]; omega
      simp only [nsOf, List.length_append, List.length_map, List.length_take, List.length_nil]
      omega
    have hsn : ∀ j t, SameE z (noted z k j t) := fun j t => same_made z k _
    refine exI_mk (fun nj R' Φ' m => ∃ (j : Nat) (ea' : Nat → EA), nj = j ∧ j ≤ (z.eds k).q.length ∧ R' = lay A ea' ia (noted z k j 0) ++ (bufM p cap (z.eds k).q :: S) ∧ Φ' = Φ1 ∧ m = (z.eds k).q.length - j ∧ NP ea' ia (noted z k j 0)) ⟨⟨_, Φ1, _, inferInstance, fun w G cx => cx, 0, ea2, rfl, Nat.zero_le _, by rw [h00], rfl, rfl, by rw [h00]; exact hP2⟩, ?_⟩
    rintro nj R2 Φ2 m _ ⟨j, ea3, rfl, hjl, rfl, rfl, rfl, hP3⟩
    have hb3 := (hsn j 0).ptr hb2
    have hz3 : k < (noted z k j 0).ne := hzlt
    refine Br.intro (fun hl2 => ?_) (fun hg2 => fun w G cx => ?_)
    · have hl2 : j < (z.eds k).q.length := by have := of_decide_eq_true hl2; omega
      have hpp := hpb (by omega)
      have hmd := hmk j 0
      have hnx : noted z k (j + 1) 0 = (noted z k j 0).setMade k (((noted z k j 0).eds k).made ++ [(z.eds k).q[j].n]) := by
        rw [noted_eds]
        unfold noted
        rw [setMade_set, List.take_succ_eq_append_getElem hl2]
        simp only [nsOf, ofEdge, List.map_append, List.map_cons, List.map_nil, List.take_zero, List.filter_nil, List.append_nil, List.append_assoc]
      refine ⟨[.blk A.xb (netC A (noted z k j 0)) 40, arr A.mdp A.mdc (noted z k j 0).ne 58 (gMd ea3 (noted z k j 0)), bufM p cap (z.eds k).q], tru, inferInstance, fun w F cx => cut_to cx (by unfold lay; rw [List.append_assoc]; exact sub5' (F := []) (.cons_cons _ (List.nil_sublist _))), by omega, ptrK_intro pb 0 hpp ⟨_, _, _, fun w F cx => ⟨_, _, _, cx.get 0 rfl rfl, rfl⟩, _, _, _, fun w F cx => ⟨_, _, _, cx.get 0 rfl rfl, rfl⟩, (z.eds k).q[j].n, fun w F cx => ⟨_, ?_, rfl⟩, ⟨by omega, Int.ofNat_lt.2 hz3⟩, ptrK_intro b5 0 (hb3.md (by omega)) ⟨_, _, _, fun w F cx => ⟨_, _, _, cx.arrGet 1 rfl (hb3.md (by omega)) hz3, rfl⟩, fun kb => ?_⟩⟩⟩
      · have hrow : RowAt w pb (0 + ((j : Nat) : Int).toNat * 6) (z.eds k).q[j].cells := by
          rw [Int.toNat_natCast, Nat.zero_add]
          exact Ctx.bufRow cx 2 rfl hpp (msg_row hl2)
        exact hrow 4 (by simp)
      refine push_made_tail (hb3.md (by omega)) hz3 (z.eds k).q[j].n (by omega) (fun {w T F} _ cx => cut_to cx (sub5' (F := []) (.cons_cons _ (List.nil_sublist _)))) (fun p2 c2 => ⟨by unfold I64; omega, _, Φ2, (z.eds k).q.length - (j + 1), inferInstance, fun w G cx => cx, ⟨j + 1, upd ea3 k { ea3 k with mp := p2, mc := c2 }, by omega, hl2, by rw [hnx], rfl, rfl, ?_⟩, by omega⟩) kb
      rw [hnx]
      exact hP3.ed (d := { (noted z k j 0).eds k with made := _ }) (hP3.ch k hz3)
    · have hg2 : j = (z.eds k).q.length := by have := of_decide_eq_false hg2; omega
      subst hg2
      obtain ⟨J, hJ⟩ : ∃ J, J = (z.eds k).q.length := ⟨_, rfl⟩
      rw [← hJ] at hP3 cx hz3 hb3 ⊢
      have hsr : ((noted z k J 0).eds k).src = (z.eds k).src := (hsn J 0).src k
      have hsl : (z.eds k).src < (noted z k J 0).n := by show _ < z.n; omega
      have hE3 := (hsn J 0).edF hE2
      have hbxz := hzbox _ hzsrc
      refine ⟨_, _, _, lay_x cx rfl, _, _, _, lay_x cx rfl, ⟨by omega, Int.ofNat_lt.2 hz3⟩, ptrK_intro A.eg A.eo (hE3.ptr (by omega)) ⟨((z.eds k).src : Int), by rw [← hsr]; exact hE3.cell0 cx.phi hz3, ⟨by omega, Int.ofNat_lt.2 hsl⟩, ptrK_intro b3 0 (hb3.bx (by omega)) ⟨_, _, _, lay_get cx 3 rfl (hb3.bx (by omega)) hsl, ?_⟩⟩⟩
      obtain ⟨bb, hbb⟩ : ∃ bb, 0 < (z.ins (z.eds k).src).box.length → (ia (z.eds k).src).bp = some ⟨bb, 0, none⟩ := by
        rcases Nat.eq_zero_or_pos (z.ins (z.eds k).src).box.length with h0 | h0
        · exact ⟨0, fun h => by omega⟩
        · obtain ⟨bb, hbb⟩ := box_ptr hsl cx h0
          exact ⟨bb, fun _ => hbb⟩
      clear cx
      refine exI_mk (fun nt R' Φ' m => ∃ (t : Nat) (ea' : Nat → EA), nt = t ∧ t ≤ (z.ins (z.eds k).src).box.length ∧ R' = lay A ea' ia (noted z k J t) ++ (bufM p cap (z.eds k).q :: S) ∧ Φ' = Φ2 ∧ m = (z.ins (z.eds k).src).box.length - t ∧ NP ea' ia (noted z k J t)) ⟨⟨_, Φ2, _, inferInstance, fun w G cx => cx, 0, ea3, rfl, Nat.zero_le _, rfl, rfl, rfl, hP3⟩, ?_⟩
      rintro nt R4 Φ4 m _ ⟨t, ea4, rfl, htl, rfl, rfl, rfl, hP4⟩
      have hb4 := (hsn J t).ptr hb2
      have hz4 : k < (noted z k J t).ne := hzlt
      have hsl4 : (z.eds k).src < (noted z k J t).n := hsl
      show Br (decide ((t : Int) < ((z.ins (z.eds k).src).box.length : Int))) _ _
      refine Br.intro (fun hl3 => ?_) (fun hg3 => ?_)
      · have hl3 : t < (z.ins (z.eds k).src).box.length := by have := of_decide_eq_true hl3; omega
        have hpp := hbb (by omega)
        have hmd := hmk J t
        have cellb : ∀ {w : World} {F : List Own} {M : PW} {L : List Own} {o : Nat}, Ctx W w (L ++ F) M → (L ++ F)[o]? = some (boxR (ia (z.eds k).src).bp (ia (z.eds k).src).bc (z.ins (z.eds k).src).box) → RowAt w bb (0 + ((t : Nat) : Int).toNat * 7) (itemC (z.ins (z.eds k).src).box[t]) := fun cx ho => by
          rw [Int.toNat_natCast, Nat.zero_add]
          exact Ctx.bufRow cx _ ho hpp (item_row hl3)
        refine ⟨⟨by omega, Int.ofNat_lt.2 hl3⟩, ptrK_intro bb 0 hpp fun w G cx => ⟨((z.ins (z.eds k).src).box[t].1 : Int), ?_, ?_⟩⟩
        · have hrow := itemRow (x := noted z k J t) hsl4 cx hl3 hpp
          have := hrow 0 (by simp)
          rw [Nat.add_zero] at this
          exact this
        rw [dec_nat]
        refine Br.intro (fun hyes => ?_) (fun hno => ?_)
        · have hyes := of_decide_eq_true hyes
          have hnx : noted z k J (t + 1) = (noted z k J t).setMade k (((noted z k J t).eds k).made ++ [(z.ins (z.eds k).src).box[t].2.n]) := by
            rw [noted_eds]
            unfold noted
            rw [setMade_set, List.take_succ_eq_append_getElem hl3, ofEdge_snoc, if_pos hyes]
            simp [nsOf]
          refine ⟨[.blk A.xb (netC A (noted z k J t)) 40, arr A.mdp A.mdc (noted z k J t).ne 58 (gMd ea4 (noted z k J t)), boxR (ia (z.eds k).src).bp (ia (z.eds k).src).bc (z.ins (z.eds k).src).box], tru, inferInstance, fun w F cx => cut_to cx (by unfold lay; rw [List.append_assoc]; exact sub5 (F := []) ((box_mem (x := noted z k J t) hsl4).trans (List.sublist_append_right _ _))), ⟨by omega, Int.ofNat_lt.2 hl3⟩, ptrK_intro bb 0 hpp ⟨_, _, _, fun w F cx => ⟨_, _, _, cx.get 0 rfl rfl, rfl⟩, _, _, _, fun w F cx => ⟨_, _, _, cx.get 0 rfl rfl, rfl⟩, ⟨by omega, Int.ofNat_lt.2 hz4⟩, ptrK_intro b5 0 (hb4.md (by omega)) ⟨(z.ins (z.eds k).src).box[t].2.n, fun w F cx => ⟨_, cellb (o := 2) cx rfl 5 (by simp), rfl⟩, _, _, _, fun w F cx => ⟨_, _, _, cx.arrGet 1 rfl (hb4.md (by omega)) hz4, rfl⟩, fun kb => ?_⟩⟩⟩
          refine push_made_tail (hb4.md (by omega)) hz4 (z.ins (z.eds k).src).box[t].2.n (by omega) (fun {w T F} hT cx => cut_to cx (sub5 (F := []) ((box_mem (x := noted z k J t) hsl4).trans hT))) (fun p2 c2 => ⟨by unfold I64; omega, _, Φ4, (z.ins (z.eds k).src).box.length - (t + 1), inferInstance, fun w G cx => cx, ⟨t + 1, upd ea4 k { ea4 k with mp := p2, mc := c2 }, by omega, hl3, by rw [hnx], rfl, rfl, ?_⟩, by omega⟩) kb
          rw [hnx]
          exact hP4.ed (d := { (noted z k J t).eds k with made := _ }) (hP4.ch k hz4)
        · have hno := of_decide_eq_false hno
          have hnx : noted z k J (t + 1) = noted z k J t := by
            unfold noted
            rw [List.take_succ_eq_append_getElem hl3, ofEdge_snoc, if_neg hno]
          exact ⟨by unfold I64; omega, _, Φ4, (z.ins (z.eds k).src).box.length - (t + 1), inferInstance, fun w G cx => cx, ⟨t + 1, ea4, by omega, hl3, by rw [hnx], rfl, rfl, by rw [hnx]; exact hP4⟩, by omega⟩
      · have hg3 : t = (z.ins (z.eds k).src).box.length := by have := of_decide_eq_false hg3; omega
        have hnx : madeK y (k + 1) = noted z k J t := by
          rw [hnext]
          unfold noted
          rw [hJ, hg3, List.take_length, List.take_length]
          congr 1
          show _ ++ nsOf ((z.eds k).q ++ ofEdge k (z.ins (z.eds k).src).box) = _
          simp [nsOf]
        exact ⟨by unfold I64; omega, lay A ea4 ia (noted z k J t) ++ S, Φ4, x.ne - (k + 1), inferInstance, fun w G cx => Ctx.drop1 (cx.perm to_front), ⟨k + 1, ea4, by omega, by omega, by rw [hnx], rfl, rfl, by rw [hnx]; exact hP4⟩, by omega⟩
  have hge : k = x.ne := by have := of_decide_eq_false hge; omega
  subst hge
  -- the sources report
  have hzbox : ∀ i, i < x.n → ((madeK y x.ne).ins i).box.length ≤ 1000 ∧ ∀ y2 ∈ ((madeK y x.ne).ins i).box, y2.1 < x.ne := fun i hi => by rw [(madeK_rest y _).1, hbx0 i hi]; exact hbox i hi
  have hzbd : ∀ k, k < x.ne → ((madeK y x.ne).eds k).boxed = [] := fun k hk => by rw [madeK_eds, if_pos hk]; exact (hmd0 k hk).2
  have hzkd : (madeK y x.ne).kind = kind := by rw [(madeK_rest y _).2.2.2.1, hkd0]
  generalize madeK y x.ne = z at *
  refine exI_mk (fun ni R' Φ' m => ∃ (i : Nat) (ea' : Nat → EA) (ia' : Nat → IA), ni = i ∧ i ≤ x.n ∧ R' = lay A ea' ia' (srcRep z i) ++ S ∧ Φ' = Φ1 ∧ m = x.n - i ∧ NP ea' ia' (srcRep z i)) ⟨⟨_, Φ1, _, inferInstance, fun w G cx => cx, 0, ea2, ia, rfl, Nat.zero_le _, rfl, rfl, rfl, hP2⟩, ?_⟩
  rintro ni R2 Φ2 m _ ⟨i, ea3, ia3, rfl, hin, rfl, rfl, rfl, hP3⟩
  have hs3 := same_srcRep z i
  have hE3 := hs3.edF hE2
  have hn3 := hs3.n
  have hne3 := hs3.ne
  refine fun w G cx => ⟨_, _, _, lay_x cx rfl, Br.intro (fun hlt => fun w G cx => ?_) (fun hge => fun w G cx => ?_)⟩
  · have hlt : i < x.n := by have := of_decide_eq_true hlt; omega
    have hnext : srcRep z (i + 1) = if sourceS (srcRep z i) i then repS (srcRep z i) i else srcRep z i := rfl
    have hbx3 : ((srcRep z i).ins i).box = (z.ins i).box := by rw [srcRep_ins z i i (Nat.le_refl _)]
    have hbd3 : ∀ k, k < x.ne → ((srcRep z i).eds k).boxed.length ≤ 100000 := fun k hk => by
      have h1 := srcRep_boxed z k 1000 (fun j hj => (hzbox j (by omega)).1) i (by omega)
      rw [hzbd k hk] at h1
      simp only [List.length_nil] at h1
      omega
    have hkd3 : (srcRep z i).kind = kind := by rw [(srcRep_kn z i).1, hzkd]
    generalize srcRep z i = u at *
    have hlu : i < u.n := by omega
    refine source_use (S := S ++ G) hE3 (by omega) i (by rw [← List.append_assoc]; exact cx) fun w cx => ⟨_, rfl, lay A ea3 ia3 u ++ S, Φ2, inferInstance, by rw [List.append_assoc]; exact cx, Br.intro (fun hs => fun w G cx => ?_) (fun hs => ?_)⟩
    · rw [if_pos hs] at hnext
      obtain ⟨h1, h2⟩ := hzbox i (by omega)
      refine report_use (S := S ++ G) hE3 (by omega) hlu hP3 (by rw [hbx3]; omega) (fun y2 hy => by rw [hbx3] at hy; have := h2 y2 hy; omega) (fun k hk => hbd3 k (by omega)) (by rw [hkd3]; exact hkind) (by rw [← List.append_assoc]; exact cx) fun ea' ia' w g1 cx => ⟨rfl, lay A ea' ia' (repS u i) ++ S, Φ2, inferInstance, by rw [List.append_assoc]; exact cx, by unfold I64; omega, _, Φ2, x.n - (i + 1), inferInstance, fun w G cx => cx, ⟨i + 1, ea', ia', by omega, by omega, by rw [hnext], rfl, rfl, by rw [hnext]; exact g1⟩, by omega⟩
    · rw [if_neg (by rw [hs]; exact Bool.false_ne_true)] at hnext
      exact ⟨by unfold I64; omega, _, Φ2, x.n - (i + 1), inferInstance, fun w G cx => cx, ⟨i + 1, ea3, ia3, by omega, by omega, by rw [hnext], rfl, rfl, by rw [hnext]; exact hP3⟩, by omega⟩
  · have hge : i = x.n := by have := of_decide_eq_false hge; omega
    subst hge
    exact hk ea3 ia3 w hP3 cx.left

end
end Go.Proofs.Ytmlnockcmdameaa
end

/-
  drain, walked.
-/
section
set_option linter.unusedVariables false
set_option linter.unusedSimpArgs false
namespace Go.Proofs.Ytmlnockcmdameaa
open Go.Vc


theorem same_hand (x : NtD) (e : Nat) (m : MsgL) : SameE x (handS x e m) := (calm_hand x e m).same
theorem same_prodS (x : NtD) (i : Nat) (m : MsgL) : SameE x (prodS x i m) := same_prodK x i m x.ne
theorem same_relay (x : NtD) (i : Nat) (m : MsgL) : SameE x (relayS x i m) := by unfold relayS; split; exact same_prodS _ _ _; exact .refl x
theorem same_act (x : NtD) (e : Nat) (m : MsgL) (a : Int) : SameE x (actS x e m a) := by
  unfold actS
  split
  · exact ((same_hand _ _ _).trans (calm_fly _ _ _ _).same).trans (same_relay _ _ _)
  · split
    · exact same_repS _ _
    · exact .refl x
theorem same_take (x : NtD) (e : Nat) : SameE x (takeS x e).2 := by
  unfold takeS
  split
  · exact .refl x
  · rename_i m q hq
    split
    · exact .refl x
    · simp only
      split
      · exact same_gate _ _ _
      · split
        · exact same_gate _ _ _
        · exact ((same_gate x _ _).trans (same_q _ _ _)).trans (same_act _ _ _ _)

/-- what stays known while the net is drained -/
structure DrI (x0 x : NtD) : Prop where
  good : Good x
  same : SameE x0 x
  lens : ∃ L, Lens x L ∧ L + todo x ≤ 100000
theorem DrI.nb {x0 x : NtD} (h : DrI x0 x) : NB x := by
  obtain ⟨L, h1, h2⟩ := h.lens
  exact good_nb h.good h1 (by omega)
theorem DrI.flush {x0 x y : NtD} {i : Nat} (h : DrI x0 x) (hi : i < x.n) (hf : flushS x i = some y) : DrI x0 y ∧ todo y + 1 = todo x := by
  obtain ⟨L, h1, h2⟩ := h.lens
  have ht := flush_todo h.good.1 hi hf
  exact ⟨⟨good_flush hi hf h.good, h.same.trans (flush_gts hf).same, L + 1, flush_lens hf h1, by omega⟩, ht⟩
theorem DrI.take {x0 x : NtD} {e : Nat} (h : DrI x0 x) (he : e < x.ne) : DrI x0 (takeS x e).2 ∧ (takeS x e).1.2 = true ∧ ((takeS x e).1.1 = false → (takeS x e).2 = x ∧ StuckE x e) ∧ ((takeS x e).1.1 = true → todo (takeS x e).2 + 1 ≤ todo x) := by
  obtain ⟨L, h1, h2⟩ := h.lens
  have ht := take_ok h.good he
  refine ⟨⟨ht.good, h.same.trans (same_take x e), ?_⟩, ht.ok, ht.no, ht.yes⟩
  cases hc : (takeS x e).1.1 with
  | true => exact ⟨L + 1, ht.lens L h1, by have := ht.yes hc; omega⟩
  | false => rw [(ht.no hc).1]; exact ⟨L, h1, h2⟩

section
variable {W w : World} {S : List Own} {Φ : PW} {A : NA} {ea : Nat → EA} {ia : Nat → IA} {x : NtD}

theorem take_go {y : NtD} {ea : Nat → EA} {ia : Nat → IA} {G : List Own} [Stable Φ] (hE : EdF Φ A x) (hD : DrI x y) {e : Nat} (he : e < y.ne) (hP : NP ea ia y) (c : Ctx W w ((lay A ea ia y ++ S) ++ G) Φ) {K : Ending → World → Prop}
    (hk : ∀ ea' ia' w', NP ea' ia' (takeS y e).2 → Ctx W w' ((lay A ea' ia' (takeS y e).2 ++ S) ++ G) Φ → K (.returned (.tuple #[.bool (takeS y e).1.1, .bool (takeS y e).1.2])) w') : Calls Try.prog F.erratalaw39_net_take #[.pointer (some ⟨A.xb, 0, none⟩), .int .i64 e] w K := by
  have cm := hD.good.1
  refine take_use (S := S ++ G) (hD.same.edF hE) hD.nb he ?_ hP (fun m hm => (cm.fit e he m (by unfold stream; simp [hm])).ok) (by rw [← List.append_assoc]; exact c) fun ea' ia' w' h1 h2 => hk ea' ia' w' h1 (by rw [List.append_assoc]; exact h2)
  rw [cm.ch _ (cm.lt e he).2]
  exact inb_lt he
theorem flush_go {y : NtD} {ea : Nat → EA} {ia : Nat → IA} {G : List Own} [Stable Φ] (hE : EdF Φ A x) (hD : DrI x y) {i : Nat} (hi : i < y.n) (hP : NP ea ia y) (c : Ctx W w ((lay A ea ia y ++ S) ++ G) Φ) {K : Ending → World → Prop}
    (hk0 : flushS y i = none → ∀ w', Ctx W w' ((lay A ea ia y ++ S) ++ G) Φ → K (.returned (.bool false)) w')
    (hk1 : ∀ z, flushS y i = some z → ∀ ea' ia' w', NP ea' ia' z → Ctx W w' ((lay A ea' ia' z ++ S) ++ G) Φ → K (.returned (.bool true)) w') : Calls Try.prog F.erratalaw39_net_flush #[.pointer (some ⟨A.xb, 0, none⟩), .int .i64 i] w K := by
  have nb := hD.nb
  exact flush_use (S := S ++ G) (hD.same.edF hE) hi hP (nb.box i hi) (nb.item i hi) nb.sent (by rw [← List.append_assoc]; exact c) (fun h w' cx => hk0 h w' (by rw [List.append_assoc]; exact cx)) fun z h ea' ia' w' h1 h2 => hk1 z h ea' ia' w' h1 (by rw [List.append_assoc]; exact h2)

set_option maxHeartbeats 1000000 in
theorem drain_use [Stable Φ] (hE : EdF Φ A x) (hD : DrI x x) (hP : NP ea ia x) (c : Ctx W w (lay A ea ia x ++ S) Φ) {K : Ending → World → Prop}
    (hk : ∀ z ea' ia' w', NP ea' ia' z → DrI x z → (∀ i, i < z.n → flushS z i = none) → (∀ e, e < z.ne → StuckE z e) → Ctx W w' (lay A ea' ia' z ++ S) Φ → K (.returned (.bool true)) w') : Calls Try.prog F.erratalaw39_net_drain #[.pointer (some ⟨A.xb, 0, none⟩)] w K := by
  refine (Berratalaw39_net_drain_run A.xb 0 (J := fun u w' => K (.returned u) w') c ?_).mono fun e w' ⟨v, he, hj⟩ => by rw [he]; exact hj
  refine exI_mk (fun more R' Φ' k => ∃ (y : NtD) (ea' : Nat → EA) (ia' : Nat → IA), R' = lay A ea' ia' y ++ S ∧ Φ' = Φ ∧ NP ea' ia' y ∧ DrI x y ∧ k = todo y + (if more = true then 1 else 0) ∧ (more = false → (∀ i, i < y.n → flushS y i = none) ∧ ∀ e, e < y.ne → StuckE y e)) ⟨⟨_, Φ, _, inferInstance, fun w G cx => cx, x, ea, ia, rfl, rfl, hP, hD, rfl, fun h => by cases h⟩, ?_⟩
  rintro more R1 Φ1 k _ ⟨y, ea1, ia1, rfl, rfl, hP1, hD1, rfl, hdone⟩
  have hn5 := hD1.good.1.n5
  have hne6 := hD1.good.1.ne6
  refine Br.intro (fun hm => fun w G cx => ?_) (fun hm => fun w G cx => ?_)
  rotate_left
  · obtain ⟨h1, h2⟩ := hdone hm
    exact hk y ea1 ia1 w hP1 hD1 h1 h2 cx.left
  subst hm
  clear hdone
  refine ⟨_, _, _, lay_x cx rfl, by unfold I64; omega, ?_⟩
  refine exI_mk (fun c1 ni R' Φ' k => ∃ (y1 : NtD) (ea' : Nat → EA) (ia' : Nat → IA) (i : Nat), ni = (i : Int) - 1 ∧ i ≤ y.n ∧ R' = lay A ea' ia' y1 ++ S ∧ Φ' = Φ1 ∧ NP ea' ia' y1 ∧ DrI x y1 ∧ k = i ∧ (c1 = false → y1 = y ∧ ∀ j, j < y.n → i ≤ j → flushS y j = none) ∧ (c1 = true → todo y1 < todo y)) ⟨⟨_, Φ1, _, inferInstance, fun w G cx => cx, y, ea1, ia1, y.n, rfl, Nat.le_refl _, rfl, rfl, hP1, hD1, rfl, fun _ => ⟨rfl, fun j h1 h2 => by omega⟩, fun h => by cases h⟩, ?_⟩
  rintro c1 ni R2 Φ2 k _ ⟨y1, ea2, ia2, i, rfl, hin, rfl, rfl, hP2, hD2, hki, hf2, ht2⟩
  have hnn : y1.n = y.n := hD2.same.n.trans hD1.same.n.symm
  have hnne : y1.ne = y.ne := hD2.same.ne.trans hD1.same.ne.symm
  refine Br.intro (fun h0 => ?_) (fun h0 => fun w G cx => ?_)
  · have h0 : 1 ≤ i := by have := of_decide_eq_true h0; omega
    refine exI_mk (fun c2 R' Φ' k => ∃ (y2 : NtD) (ea' : Nat → EA) (ia' : Nat → IA), R' = lay A ea' ia' y2 ++ S ∧ Φ' = Φ2 ∧ NP ea' ia' y2 ∧ DrI x y2 ∧ k = todo y2 ∧ (c2 = false → y2 = y ∧ ∀ j, j < y.n → i ≤ j → flushS y j = none) ∧ (c2 = true → todo y2 < todo y)) ⟨⟨_, Φ2, _, inferInstance, fun w G cx => cx, y1, ea2, ia2, rfl, rfl, hP2, hD2, rfl, hf2, ht2⟩, ?_⟩
    rintro c2 R3 Φ3 k _ ⟨y2, ea3, ia3, rfl, rfl, hP3, hD3, rfl, hf3, ht3⟩
    have hnn2 : y2.n = y.n := hD3.same.n.trans hD1.same.n.symm
    have hi : i - 1 < y2.n := by omega
    rw [show (i : Int) - 1 = ((i - 1 : Nat) : Int) by omega]
    refine fun w G cx => flush_go hE hD3 hi hP3 cx (fun hno w cx => ⟨false, rfl, lay A ea3 ia3 y2 ++ S, Φ3, inferInstance, cx, Br.intro (fun h => by cases h) (fun _ => ⟨by unfold I64; omega, _, Φ3, i - 1, inferInstance, fun w G cx => cx, ⟨y2, ea3, ia3, i - 1, by omega, by omega, rfl, rfl, hP3, hD3, rfl, fun hc => ?_, ht3⟩, by omega⟩)⟩) fun z hz ea' ia' w hP4 cx => ⟨true, rfl, lay A ea' ia' z ++ S, Φ3, inferInstance, cx, Br.intro (fun _ => ?_) (fun h => by cases h)⟩
    · obtain ⟨h1, h2⟩ := hf3 hc
      refine ⟨h1, fun j hj hij => ?_⟩
      rcases Nat.lt_or_ge j i with h | h
      · have : j = i - 1 := by omega
        subst this
        rw [← h1]; exact hno
      · exact h2 j hj h
    · obtain ⟨hD4, ht4⟩ := hD3.flush hi hz
      refine ⟨_, Φ3, todo z, inferInstance, fun w G cx => cx, ⟨z, ea', ia', rfl, rfl, hP4, hD4, rfl, (fun h => by cases h), fun _ => ?_⟩, by omega⟩
      cases c2 with
      | true => have := ht3 rfl; omega
      | false => have := (hf3 rfl).1; subst this; omega
  · have h0 : i = 0 := by have := of_decide_eq_false h0; omega
    subst h0
    refine ⟨_, _, _, lay_x cx rfl, by unfold I64; omega, ?_⟩
    refine exI_mk (fun c2 ne R' Φ' k => ∃ (y2 : NtD) (ea' : Nat → EA) (ia' : Nat → IA) (e : Nat), ne = (e : Int) - 1 ∧ e ≤ y.ne ∧ R' = lay A ea' ia' y2 ++ S ∧ Φ' = Φ2 ∧ NP ea' ia' y2 ∧ DrI x y2 ∧ k = e ∧ (c2 = false → y2 = y ∧ (∀ j, j < y.n → flushS y j = none) ∧ ∀ j, j < y.ne → e ≤ j → StuckE y j) ∧ (c2 = true → todo y2 < todo y)) ⟨⟨_, Φ2, _, inferInstance, fun w G cx => cx, y1, ea2, ia2, y1.ne, rfl, by omega, rfl, rfl, hP2, hD2, rfl, fun h => ⟨(hf2 h).1, fun j hj => (hf2 h).2 j hj (Nat.zero_le _), fun j h1 h2 => by omega⟩, ht2⟩, ?_⟩
    rintro c2 ne R3 Φ3 k _ ⟨y2, ea3, ia3, e, rfl, hen, rfl, rfl, hP3, hD3, hke, hf3, ht3⟩
    have hnne2 : y2.ne = y.ne := hD3.same.ne.trans hD1.same.ne.symm
    have hnn2 : y2.n = y.n := hD3.same.n.trans hD1.same.n.symm
    refine Br.intro (fun h0 => fun w G cx => ?_) (fun h0 => ?_)
    · have h0 : 1 ≤ e := by have := of_decide_eq_true h0; omega
      have he : e - 1 < y2.ne := by omega
      rw [show (e : Int) - 1 = ((e - 1 : Nat) : Int) by omega]
      obtain ⟨hD4, hok, hno, hyes⟩ := hD3.take he
      refine take_go hE hD3 he hP3 cx fun ea' ia' w hP4 cx => ⟨_, _, rfl, lay A ea' ia' (takeS y2 (e - 1)).2 ++ S, Φ3, inferInstance, cx, Br.intro (fun h => by rw [hok] at h; cases h) (fun _ => fun w G cx => ⟨by unfold I64; omega, _, Φ3, e - 1, inferInstance, fun w G cx => cx, ⟨(takeS y2 (e - 1)).2, ea', ia', e - 1, by omega, by omega, rfl, rfl, hP4, hD4, rfl, fun hc => ?_, fun hc => ?_⟩, by omega⟩)⟩
      · rw [Bool.or_eq_false_iff] at hc
        obtain ⟨h1, h2, h3⟩ := hf3 hc.1
        obtain ⟨h4, h5⟩ := hno hc.2
        refine ⟨h4.trans h1, h2, fun j hj hij => ?_⟩
        rcases Nat.lt_or_ge j e with h | h
        · have : j = e - 1 := by omega
          subst this
          rw [← h1]; exact h5
        · exact h3 j hj h
      · have hle : todo (takeS y2 (e - 1)).2 ≤ todo y2 := by
          cases hcc : (takeS y2 (e - 1)).1.1 with
          | true => have := hyes hcc; omega
          | false => rw [(hno hcc).1]; exact Nat.le_refl _
        cases c2 with
        | true => have := ht3 rfl; omega
        | false =>
          rw [Bool.false_or] at hc
          have h1 := hyes hc
          have := (hf3 rfl).1
          subst this
          omega
    · have h0 : e = 0 := by have := of_decide_eq_false h0; omega
      subst h0
      refine ⟨_, Φ3, todo y2 + (if c2 = true then 1 else 0), inferInstance, fun w G cx => cx, ⟨y2, ea3, ia3, rfl, rfl, hP3, hD3, rfl, fun hc => ?_⟩, ?_⟩
      · obtain ⟨h1, h2, h3⟩ := hf3 hc
        subst h1
        exact ⟨h2, fun j hj => h3 j hj (Nat.zero_le _)⟩
      · cases c2 with
        | true => have := ht3 rfl; simp only [if_true]; omega
        | false => have := (hf3 rfl).1; subst this; simp
end
end Go.Proofs.Ytmlnockcmdameaa
end

