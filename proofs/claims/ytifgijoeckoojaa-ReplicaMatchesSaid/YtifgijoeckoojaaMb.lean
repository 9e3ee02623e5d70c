/-
  Leaders and logs, plain: one leader a term; every log is made of prefixes of leaders' logs.
-/
import Derived.Test.YtifgijoeckoojaaMa
set_option linter.unusedVariables false
set_option linter.unusedSimpArgs false
namespace Go.Proofs.Ytifgijoeckoojaa
open Go.Vc

/-- what was: to whom each gave its vote, who led, and the leaders' logs -/
structure Gh where
  V : Int → Nat → Int
  ld : Int → Int
  LL : Int → List RecD

def AppM (LL : Int → List RecD) (m : MsgR) : Prop :=
  0 ≤ m.index ∧ m.index.toNat + m.recs.length ≤ (LL m.term).length ∧ m.recs = ((LL m.term).drop m.index.toNat).take m.recs.length ∧ m.prev = termAt (LL m.term) m.index.toNat

structure MInv (C : Cl) (g : Gh) : Prop where
  wf : C.Wf
  now : ∀ j, j < 3 → g.V (C.nd j).rep.term j = (C.nd j).rep.vote
  later : ∀ j, j < 3 → ∀ t, (C.nd j).rep.term < t → g.V t j = -1
  yes : ∀ m ∈ C.sent, YesM m → ∃ j : Nat, j < 3 ∧ m.src = j ∧ g.V m.term j = m.to ∧ 0 ≤ m.to
  cand : ∀ i, i < 3 → (C.nd i).rep.role = 1 → (∀ j, j < 3 → (C.nd i).rep.votes j = true → g.V (C.nd i).rep.term j = i) ∧ g.ld (C.nd i).rep.term ≠ i
  lead : ∀ i, i < 3 → (C.nd i).rep.role = 2 → g.ld (C.nd i).rep.term = i ∧ g.LL (C.nd i).rep.term = (C.nd i).rep.log
  quo : ∀ t, g.ld t ≠ -1 → ∃ a b, a < 3 ∧ b < 3 ∧ a ≠ b ∧ g.V t a = g.ld t ∧ g.V t b = g.ld t
  ldt : ∀ t, g.ld t ≠ -1 → ∃ j : Nat, j < 3 ∧ g.ld t = j ∧ t ≤ (C.nd j).rep.term
  none : ∀ t, g.ld t = -1 → g.LL t = []
  log : ∀ i, i < 3 → Pre g.LL (C.nd i).rep.log
  ll : ∀ t, Pre g.LL (g.LL t)
  app : ∀ m ∈ C.sent, m.kind = 2 → AppM g.LL m

theorem AppM.ext {LL LL' : Int → List RecD} (he : Ext LL LL') {m : MsgR} (h : AppM LL m) : AppM LL' m := by
  obtain ⟨h1, h2, h3, h4⟩ := h
  obtain ⟨s, hs⟩ := he m.term
  refine ⟨h1, by rw [hs, List.length_append]; omega, ?_, ?_⟩
  · rw [hs, List.drop_append_of_le_length (by omega), List.take_append_of_le_length (by rw [List.length_drop]; omega)]
    exact h3
  · rw [hs, term_ext (by omega)]
    exact h4

def voteV (V : Int → Nat → Int) (i : Nat) (t v : Int) : Int → Nat → Int := fun u j => if u = t ∧ j = i then v else V u j

theorem voteV_self (V : Int → Nat → Int) (i : Nat) (t v : Int) : voteV V i t v t i = v := if_pos ⟨rfl, rfl⟩
theorem voteV_ne (V : Int → Nat → Int) {i j : Nat} {t u : Int} (v : Int) (h : ¬ (u = t ∧ j = i)) : voteV V i t v u j = V u j := if_neg h

/-- what node i may become, and send -/
structure MFit (C : Cl) (g : Gh) (i : Nat) (r : Rep) (send : List MsgR) (g' : Gh) : Prop where
  V : g'.V = voteV g.V i r.term r.vote
  up : (C.nd i).rep.term ≤ r.term
  keep : (C.nd i).rep.term = r.term → (C.nd i).rep.vote ≠ -1 → r.vote = (C.nd i).rep.vote
  yes : ∀ m ∈ send, YesM m → m.src = i ∧ m.term = r.term ∧ m.to = r.vote ∧ 0 ≤ m.to
  ld : ∀ t, g'.ld t = g.ld t ∨ (g.ld t = -1 ∧ g'.ld t = i ∧ t ≤ r.term ∧ ∃ a b, a < 3 ∧ b < 3 ∧ a ≠ b ∧ g'.V t a = i ∧ g'.V t b = i)
  ext : Ext g.LL g'.LL
  LL : ∀ t, g'.LL t = g.LL t ∨ (g'.ld t = i ∧ Pre g'.LL (g'.LL t))
  cand : r.role = 1 → (∀ j, j < 3 → r.votes j = true → g'.V r.term j = i) ∧ g'.ld r.term ≠ i
  lead : r.role = 2 → g'.ld r.term = i ∧ g'.LL r.term = r.log
  log : Pre g'.LL r.log
  app : ∀ m ∈ send, m.kind = 2 → AppM g'.LL m

theorem MFit.oldV {C : Cl} {g g' : Gh} {i : Nat} {r : Rep} {send : List MsgR} (f : MFit C g i r send g') (h : MInv C g) (hi : i < 3) {t : Int} {j : Nat} (hv : g.V t j ≠ -1) : g'.V t j = g.V t j := by
  rw [f.V]
  by_cases hc : t = r.term ∧ j = i
  · obtain ⟨rfl, rfl⟩ := hc
    rw [voteV_self]
    have hup := f.up
    rcases Int.lt_or_eq_of_le hup with hlt | heq
    · exact absurd (h.later j hi r.term hlt) hv
    · have h1 := h.now j hi
      rw [heq] at h1
      rw [f.keep heq (by rw [← h1]; exact hv), ← h1]
  · exact voteV_ne _ _ hc

theorem MInv.node {C C' : Cl} {g g' : Gh} {i : Nat} {r : Rep} {send : List MsgR} (h : MInv C g) (hi : i < 3) (f : MFit C g i r send g') (hw : C'.Wf) (hr : (C'.nd i).rep = r) (hne : ∀ j, j ≠ i → C'.nd j = C.nd j) (hs : ∀ m ∈ C'.sent, m ∈ C.sent ∨ m ∈ send) : MInv C' g' := by
  have old := fun {t : Int} {j : Nat} (hv : g.V t j ≠ -1) => f.oldV h hi hv
  refine ⟨hw, fun j hj => ?_, fun j hj t ht => ?_, fun m hm hy => ?_, fun j hj hrole => ?_, fun j hj hrole => ?_, fun t ht => ?_, fun t ht => ?_, fun t ht => ?_, fun j hj => ?_, fun t => ?_, fun m hm hk => ?_⟩
  · by_cases hji : j = i
    · subst hji
      rw [hr, f.V, voteV_self]
    · rw [hne j hji, f.V, voteV_ne _ _ (fun hc => hji hc.2)]
      exact h.now j hj
  · by_cases hji : j = i
    · subst hji
      rw [hr] at ht
      have := f.up
      rw [f.V, voteV_ne _ _ (by omega)]
      exact h.later j hj t (by omega)
    · rw [hne j hji] at ht
      rw [f.V, voteV_ne _ _ (fun hc => hji hc.2)]
      exact h.later j hj t ht
  · rcases hs m hm with hm | hm
    · obtain ⟨j, hj, a1, a2, a3⟩ := h.yes m hm hy
      exact ⟨j, hj, a1, by rw [old (by omega), a2], a3⟩
    · obtain ⟨a1, a2, a3, a4⟩ := f.yes m hm hy
      exact ⟨i, hi, a1, by rw [f.V, a2, voteV_self, a3], a4⟩
  · by_cases hji : j = i
    · subst hji
      rw [hr] at hrole ⊢
      exact f.cand hrole
    · rw [hne j hji] at hrole ⊢
      obtain ⟨a1, a2⟩ := h.cand j hj hrole
      refine ⟨fun k hk hv => ?_, ?_⟩
      · have := a1 k hk hv
        rw [old (by omega), this]
      · rcases f.ld (C.nd j).rep.term with e | ⟨_, e, _⟩
        · rw [e]; exact a2
        · rw [e]; omega
  · by_cases hji : j = i
    · subst hji
      rw [hr] at hrole ⊢
      exact f.lead hrole
    · rw [hne j hji] at hrole ⊢
      obtain ⟨a1, a2⟩ := h.lead j hj hrole
      have e1 : g'.ld (C.nd j).rep.term = j := by
        rcases f.ld (C.nd j).rep.term with e | ⟨e, _⟩
        · rw [e]; exact a1
        · omega
      refine ⟨e1, ?_⟩
      rcases f.LL (C.nd j).rep.term with e | ⟨e, _⟩
      · rw [e]; exact a2
      · omega
  · rcases f.ld t with e | ⟨_, e, _, a, b, a1, a2, a3, a4, a5⟩
    · rw [e] at ht ⊢
      obtain ⟨a, b, a1, a2, a3, a4, a5⟩ := h.quo t ht
      exact ⟨a, b, a1, a2, a3, by rw [old (by rw [a4]; exact ht), a4], by rw [old (by rw [a5]; exact ht), a5]⟩
    · exact ⟨a, b, a1, a2, a3, by rw [a4, e], by rw [a5, e]⟩
  · rcases f.ld t with e | ⟨_, e, a1, _⟩
    · rw [e] at ht ⊢
      obtain ⟨j, hj, a1, a2⟩ := h.ldt t ht
      refine ⟨j, hj, a1, ?_⟩
      by_cases hji : j = i
      · subst hji
        rw [hr]
        have := f.up
        omega
      · rw [hne j hji]; exact a2
    · exact ⟨i, hi, e, by rw [hr]; exact a1⟩
  · have e1 : g.ld t = -1 := by
      rcases f.ld t with e | ⟨e, e2, _⟩
      · rw [← e]; exact ht
      · exact e
    rcases f.LL t with e | ⟨e, _⟩
    · rw [e]; exact h.none t e1
    · omega
  · by_cases hji : j = i
    · subst hji
      rw [hr]
      exact f.log
    · rw [hne j hji]
      exact pre_ext f.ext (h.log j hj)
  · rcases f.LL t with e | ⟨_, e⟩
    · rw [e]; exact pre_ext f.ext (h.ll t)
    · exact e
  · rcases hs m hm with hm | hm
    · exact (h.app m hm hk).ext f.ext
    · exact f.app m hm hk

theorem MInv.start {C : Cl} {g : Gh} (h : MInv C g) {i : Nat} (hi : i < 3) : MInv (startC C i) g := by
  obtain ⟨h1, h2, h3⟩ := h.wf.hard i hi
  have e : ((startC C i).nd i).rep = newRep i (C.nd i).sterm (C.nd i).svote (C.nd i).slog := by
    unfold startC
    simp only [put_self]
    rfl
  refine h.node (send := []) hi (g' := g) ⟨?_, by show _ ≤ (C.nd i).sterm; omega, fun _ _ => h2, fun m hm => (by cases hm), fun t => .inl rfl, Ext.refl _, fun t => .inl rfl, fun hr => (by cases (show (0 : Int) = 1 from hr)), fun hr => (by cases (show (0 : Int) = 2 from hr)), ?_, fun m hm => (by cases hm)⟩ (start_wf h.wf hi) e (fun j hj => put_ne _ _ hj) fun m hm => .inl hm
  · funext t j
    by_cases hc : t = (C.nd i).sterm ∧ j = i
    · obtain ⟨rfl, rfl⟩ := hc
      have := h.now j hi
      rw [← h1, ← h2] at this
      rw [this]
      exact (voteV_self _ _ _ _).symm
    · exact (voteV_ne _ _ hc).symm
  · show Pre g.LL (C.nd i).slog
    rw [h3]
    exact h.log i hi

theorem MInv.call {C : Cl} {g g' : Gh} (h : MInv C g) {i : Nat} (hi : i < 3) {x : Rep × OutR} (hx : x.1.Wf) (hf : Fits (C.nd i).rep x.1 x.2) (f : MFit C g i x.1 x.2.send g') : ∃ g2, MInv (callC C i x) g2 := by
  have hid := (h.wf.rep i hi).2
  have hw := call_wf h.wf hi hx hf
  have hh : (hardC C i x.1).Wf := hard_wf h.wf hi hx (by rw [hf.id]; exact hid)
  rw [call_cases h.wf hi hf] at hw ⊢
  split
  · exact ⟨g, h.start hi⟩
  rename_i hs1
  rw [if_neg hs1] at hw
  split
  · have h1 : MInv (hardC C i x.1) g' := h.node hi f hh (by unfold hardC; simp only [put_self]; rfl) (fun j hj => put_ne _ _ hj) fun m hm => .inl hm
    exact ⟨g', h1.start hi⟩
  · rename_i hs2
    rw [if_neg hs2] at hw
    refine ⟨g', h.node hi f hw (by unfold hardC; simp only [put_self]; rfl) (fun j hj => put_ne _ _ hj) fun m hm => ?_⟩
    rcases List.mem_append.1 hm with hm | hm
    · exact .inl hm
    · exact .inr (List.mem_of_mem_take hm)

theorem MInv.drop {C : Cl} {g : Gh} (h : MInv C g) {n : Nat} (hn : n < C.sent.length) : MInv (dropC C n) g := by
  have hs : ∀ m ∈ (dropC C n).sent, m ∈ C.sent := fun m hm => by
    rcases List.mem_append.1 hm with hm | hm
    · exact List.mem_of_mem_take hm
    · exact List.mem_of_mem_drop hm
  exact ⟨drop_wf h.wf hn, h.now, h.later, fun m hm => h.yes m (hs m hm), h.cand, h.lead, h.quo, h.ldt, h.none, h.log, h.ll, fun m hm => h.app m (hs m hm)⟩

theorem MInv.stop {C : Cl} {g : Gh} (h : MInv C g) {i : Nat} (hi : i < 3) {s : Int} (hs : s = 1 ∨ s = 2) : MInv (stopC C i s) g := by
  have e : ∀ j, ((stopC C i s).nd j).rep = (C.nd j).rep := fun j => by
    by_cases hj : j = i
    · subst hj
      unfold stopC ndC
      simp only [put_self]
    · unfold stopC ndC
      simp only [put_ne _ _ hj]
  refine ⟨stop_wf h.wf hi hs, fun j hj => ?_, fun j hj t ht => ?_, h.yes, fun j hj hr => ?_, fun j hj hr => ?_, h.quo, fun t ht => ?_, h.none, fun j hj => ?_, h.ll, h.app⟩
  · rw [e]; exact h.now j hj
  · rw [e] at ht; exact h.later j hj t ht
  · rw [e] at hr ⊢; exact h.cand j hj hr
  · rw [e] at hr ⊢; exact h.lead j hj hr
  · obtain ⟨j, hj, a1, a2⟩ := h.ldt t ht
    exact ⟨j, hj, a1, by rw [e]; exact a2⟩
  · rw [e]; exact h.log j hj

end Go.Proofs.Ytifgijoeckoojaa
