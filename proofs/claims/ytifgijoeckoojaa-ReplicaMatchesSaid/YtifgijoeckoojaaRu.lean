/-
  Votes, plain: nobody says Yes to two others in one term.
-/
import Derived.Test.YtifgijoeckoojaaRt
set_option linter.unusedVariables false
set_option linter.unusedSimpArgs false
namespace Go.Proofs.Ytifgijoeckoojaa
open Go.Vc

def YesM (m : MsgR) : Prop := m.kind = 1 ∧ m.yes = true

/-- what a call does to the vote, and to whom it says Yes -/
structure VFit (r : Rep) (x : Rep × OutR) : Prop where
  keep : r.term = x.1.term → r.vote ≠ -1 → x.1.vote = r.vote
  yes : ∀ m ∈ x.2.send, YesM m → m.src = r.id ∧ m.term = x.1.term ∧ m.to = x.1.vote ∧ 0 ≤ m.to

theorem all_kind (r : Rep) : ∀ m ∈ allOf r, m.kind = 2 := fun m hm => by
  unfold allOf at hm
  obtain ⟨i, _, rfl⟩ := List.mem_map.1 hm
  rfl

theorem no_yes {l : List MsgR} {k : Int} (hk : k ≠ 1) (h : ∀ m ∈ l, m.kind = k) {P : MsgR → Prop} : ∀ m ∈ l, YesM m → P m := fun m hm hy => absurd ((h m hm).symm.trans hy.1) hk

theorem tick_v (r : Rep) : VFit r (tickP r) := by
  unfold tickP
  split
  · exact ⟨fun _ _ => rfl, no_yes (by decide) (all_kind r)⟩
  split
  · exact ⟨fun _ _ => rfl, fun m hm => by cases hm⟩
  · refine ⟨fun h => ?_, fun m hm hy => ?_⟩
    · have : r.term = r.term + 1 := h
      omega
    · obtain ⟨i, _, rfl⟩ := List.mem_map.1 hm
      cases hy.1

theorem prop_v (r : Rep) (data : ByteArray) : VFit r ((proposeP r data).1, (proposeP r data).2.2.2) := by
  unfold proposeP
  split
  · exact ⟨fun _ _ => rfl, fun m hm => by cases hm⟩
  split
  · exact ⟨fun _ _ => rfl, fun m hm => by cases hm⟩
  split
  · exact ⟨fun _ _ => rfl, fun m hm => by cases hm⟩
  · exact ⟨fun _ _ => rfl, no_yes (by decide) (all_kind _)⟩

theorem vote_v (r : Rep) (m : MsgR) (h0 : 0 ≤ m.src) : VFit r (voteP r m) ∧ (voteP r m).1.term = r.term := by
  unfold voteP
  split
  · rename_i hc
    simp only [Bool.and_eq_true, Bool.or_eq_true, decide_eq_true_eq] at hc
    refine ⟨⟨fun _ hv => ?_, fun v hv hy => ?_⟩, rfl⟩
    · rcases hc.1.2 with h | h
      · exact absurd h hv
      · exact h.symm
    · rw [List.mem_singleton.1 hv]
      exact ⟨rfl, rfl, rfl, h0⟩
  · refine ⟨⟨fun _ _ => rfl, fun v hv hy => ?_⟩, rfl⟩
    rw [List.mem_singleton.1 hv] at hy
    cases hy.2

/-- term and vote stay, and nobody hears Yes -/
structure Mute (r : Rep) (x : Rep × OutR) : Prop where
  term : x.1.term = r.term
  vote : x.1.vote = r.vote
  send : ∀ m ∈ x.2.send, m.kind ≠ 1

theorem mute0 {r r' : Rep} (h1 : r'.term = r.term) (h2 : r'.vote = r.vote) : Mute r (r', out0) := ⟨h1, h2, fun m hm => by cases hm⟩

theorem voted_mute (r : Rep) (m : MsgR) : Mute r (votedP r m) := by
  unfold votedP
  split
  · exact mute0 rfl rfl
  simp only
  split
  · exact mute0 rfl rfl
  · exact ⟨rfl, rfl, fun v hv => by rw [all_kind _ v hv]; decide⟩

theorem append_mute (r : Rep) (m : MsgR) : Mute r (appendP r m) := by
  have h3 : ∀ {r' : Rep} {a : MsgR}, r'.term = r.term → r'.vote = r.vote → a.kind = 3 → Mute r (r', outS [a]) := fun h1 h2 h => ⟨h1, h2, fun v hv => by rw [List.mem_singleton.1 hv, h]; decide⟩
  unfold appendP
  split
  · exact h3 rfl rfl rfl
  split
  · exact mute0 rfl rfl
  simp only
  split
  · exact h3 rfl rfl rfl
  split
  · split
    · exact mute0 rfl rfl
    · exact ⟨rfl, rfl, fun v hv => by rw [List.mem_singleton.1 hv]; show (3 : Int) ≠ 1; decide⟩
  · exact h3 rfl rfl rfl

theorem adv_tv (r : Rep) : (advanceP r).term = r.term ∧ (advanceP r).vote = r.vote := by
  unfold advanceP
  split <;> exact ⟨rfl, rfl⟩

theorem appended_mute (r : Rep) (m : MsgR) : Mute r (appendedP r m) := by
  have h2 : ∀ {r' : Rep} {a : MsgR}, r'.term = r.term → r'.vote = r.vote → a.kind = 2 → Mute r (r', outS [a]) := fun h1 h2 h => ⟨h1, h2, fun v hv => by rw [List.mem_singleton.1 hv, h]; decide⟩
  unfold appendedP
  split
  · exact mute0 rfl rfl
  simp only
  split
  · exact h2 rfl rfl rfl
  split
  · exact h2 (adv_tv _).1 (adv_tv _).2 rfl
  · exact mute0 (adv_tv _).1 (adv_tv _).2

theorem Mute.v {r r1 : Rep} {x : Rep × OutR} (h : Mute r1 x) (h1 : r1.term = r.term → r1.vote = r.vote) : VFit r x :=
  ⟨fun ht _ => by rw [h.vote, h1 (by rw [← h.term, ← ht])], fun m hm hy => absurd hy.1 (h.send m hm)⟩

theorem fin_v {r : Rep} {x : Rep × OutR} (h : VFit r x) : VFit r (finO r x) := by
  unfold finO
  split
  · exact h
  · exact ⟨h.keep, h.yes⟩

theorem hear_v (r : Rep) (m : MsgR) : VFit r (hearP r m) := by
  cases hy : rightP r.id m with
  | false => rw [hear_no hy]; exact ⟨fun _ _ => rfl, fun v hv => by cases hv⟩
  | true =>
    have hm := right_iff.1 hy
    rw [hear_yes hy]
    refine fin_v ?_
    obtain ⟨r1, hr1⟩ : ∃ r1, (if r.term < m.term then upR r m else r) = r1 := ⟨_, rfl⟩
    have h1 : r1.term = r.term → r1.vote = r.vote := by
      rw [← hr1]
      split
      · rename_i hlt
        intro h
        have : m.term = r.term := h
        omega
      · exact fun _ => rfl
    have hid : r1.id = r.id := by rw [← hr1]; split <;> rfl
    rw [hr1]
    unfold hearX
    split
    · obtain ⟨⟨hk, hs⟩, ht⟩ := vote_v r1 m hm.src.2.1
      refine ⟨fun h hv => ?_, fun v hv hyv => ?_⟩
      · have e := h1 (by rw [← ht, ← h])
        rw [hk (by rw [ht]) (by rw [e]; exact hv), e]
      · rw [← hid]; exact hs v hv hyv
    split
    · exact (voted_mute r1 m).v h1
    split
    · exact (append_mute r1 m).v h1
    · exact (appended_mute r1 m).v h1

/-! ### the cluster -/
structure VInv (C : Cl) (said : List MsgR) : Prop where
  wf : C.Wf
  one : ∀ m ∈ C.sent ++ said, YesM m → ∃ j : Nat, j < 3 ∧ m.src = j ∧ m.term ≤ (C.nd j).rep.term ∧ (m.term = (C.nd j).rep.term → (C.nd j).rep.vote = m.to) ∧ 0 ≤ m.to
  two : ∀ m ∈ C.sent ++ said, ∀ m' ∈ C.sent ++ said, YesM m → YesM m' → m.src = m'.src → m.term = m'.term → m.to = m'.to
  all : ∀ m ∈ said, YesM m

structure VStep (C C' : Cl) : Prop where
  wf : C'.Wf
  up : ∀ j, j < 3 → (C.nd j).rep.term ≤ (C'.nd j).rep.term ∧ ((C.nd j).rep.term = (C'.nd j).rep.term → (C.nd j).rep.vote ≠ -1 → (C'.nd j).rep.vote = (C.nd j).rep.vote)
  new : ∀ m ∈ C'.sent, m ∈ C.sent ∨ (YesM m → ∃ j : Nat, j < 3 ∧ m.src = j ∧ m.term = (C'.nd j).rep.term ∧ m.to = (C'.nd j).rep.vote ∧ 0 ≤ m.to)

theorem VInv.step {C C' : Cl} {said : List MsgR} (h : VInv C said) (s : VStep C C') : VInv C' said := by
  have old : ∀ m ∈ C.sent ++ said, YesM m → ∃ j : Nat, j < 3 ∧ m.src = j ∧ m.term ≤ (C'.nd j).rep.term ∧ (m.term = (C'.nd j).rep.term → (C'.nd j).rep.vote = m.to) ∧ 0 ≤ m.to := fun m hm hy => by
    obtain ⟨j, hj, h1, h2, h3, h4⟩ := h.one m hm hy
    obtain ⟨u1, u2⟩ := s.up j hj
    refine ⟨j, hj, h1, by omega, fun ht => ?_, h4⟩
    have e1 : (C.nd j).rep.term = (C'.nd j).rep.term := by omega
    have e2 : (C.nd j).rep.vote = m.to := h3 (by omega)
    rw [u2 e1 (by omega), e2]
  have cases : ∀ m ∈ C'.sent ++ said, m ∈ C.sent ++ said ∨ (YesM m → ∃ j : Nat, j < 3 ∧ m.src = j ∧ m.term = (C'.nd j).rep.term ∧ m.to = (C'.nd j).rep.vote ∧ 0 ≤ m.to) := fun m hm => by
    rcases List.mem_append.1 hm with hm | hm
    · rcases s.new m hm with h1 | h1
      · exact .inl (List.mem_append_left _ h1)
      · exact .inr h1
    · exact .inl (List.mem_append_right _ hm)
  have mix : ∀ m m' : MsgR, (∃ j : Nat, j < 3 ∧ m.src = j ∧ m.term = (C'.nd j).rep.term ∧ m.to = (C'.nd j).rep.vote ∧ 0 ≤ m.to) → (∃ j : Nat, j < 3 ∧ m'.src = j ∧ m'.term ≤ (C'.nd j).rep.term ∧ (m'.term = (C'.nd j).rep.term → (C'.nd j).rep.vote = m'.to) ∧ 0 ≤ m'.to) → m.src = m'.src → m.term = m'.term → m.to = m'.to := by
    rintro m m' ⟨j, _, a1, a2, a3, _⟩ ⟨j', _, b1, _, b3, _⟩ hs ht
    have : j = j' := by omega
    subst this
    rw [a3, b3 (by omega)]
  refine ⟨s.wf, fun m hm hy => ?_, fun m hm m' hm' hy hy' hs ht => ?_, h.all⟩
  · rcases cases m hm with h1 | h1
    · exact old m h1 hy
    · obtain ⟨j, hj, a1, a2, a3, a4⟩ := h1 hy
      exact ⟨j, hj, a1, by omega, fun _ => a3.symm, a4⟩
  · rcases cases m hm with h1 | h1
    · rcases cases m' hm' with h2 | h2
      · exact h.two m h1 m' h2 hy hy' hs ht
      · exact (mix m' m (h2 hy') (old m h1 hy) hs.symm ht.symm).symm
    · rcases cases m' hm' with h2 | h2
      · exact mix m m' (h1 hy) (old m' h2 hy') hs ht
      · obtain ⟨j, hj, a1, a2, a3, a4⟩ := h2 hy'
        exact mix m m' (h1 hy) ⟨j, hj, a1, by omega, fun _ => a3.symm, a4⟩ hs ht

theorem VInv.say {C : Cl} {said : List MsgR} (h : VInv C said) {m : MsgR} (hm : m ∈ C.sent) (hy : YesM m) : VInv C (said ++ [m]) := by
  have hin : ∀ v ∈ C.sent ++ (said ++ [m]), v ∈ C.sent ++ said := fun v hv => by
    rcases List.mem_append.1 hv with hv | hv
    · exact List.mem_append_left _ hv
    · rcases List.mem_append.1 hv with hv | hv
      · exact List.mem_append_right _ hv
      · rw [List.mem_singleton.1 hv]; exact List.mem_append_left _ hm
  exact ⟨h.wf, fun v hv => h.one v (hin v hv), fun v hv v' hv' => h.two v (hin v hv) v' (hin v' hv'), fun v hv => by
    rcases List.mem_append.1 hv with hv | hv
    · exact h.all v hv
    · rw [List.mem_singleton.1 hv]; exact hy⟩

theorem step_refl {C : Cl} (h : C.Wf) : VStep C C := ⟨h, fun j hj => ⟨Int.le_refl _, fun _ _ => rfl⟩, fun m hm => .inl hm⟩

/-- one node changes -/
theorem step_node {C C' : Cl} (hw : C'.Wf) {i : Nat} (hi : i < 3) (hne : ∀ j, j ≠ i → C'.nd j = C.nd j) (h1 : (C.nd i).rep.term ≤ (C'.nd i).rep.term) (h2 : (C.nd i).rep.term = (C'.nd i).rep.term → (C.nd i).rep.vote ≠ -1 → (C'.nd i).rep.vote = (C.nd i).rep.vote)
    (h3 : ∀ m ∈ C'.sent, m ∈ C.sent ∨ (YesM m → m.src = i ∧ m.term = (C'.nd i).rep.term ∧ m.to = (C'.nd i).rep.vote ∧ 0 ≤ m.to)) : VStep C C' := by
  refine ⟨hw, fun j hj => ?_, fun m hm => ?_⟩
  · by_cases hji : j = i
    · subst hji; exact ⟨h1, h2⟩
    · rw [hne j hji]; exact ⟨Int.le_refl _, fun _ _ => rfl⟩
  · rcases h3 m hm with h | h
    · exact .inl h
    · exact .inr fun hy => ⟨i, hi, h hy⟩

theorem start_v {C : Cl} (h : C.Wf) {i : Nat} (hi : i < 3) : VStep C (startC C i) := by
  obtain ⟨h1, h2, h3⟩ := h.hard i hi
  have e : (startC C i).nd i = startN i (C.nd i) := put_self _ _ _
  refine step_node (start_wf h hi) hi (fun j hj => put_ne _ _ hj) ?_ ?_ fun m hm => .inl hm
  · rw [e]; show _ ≤ (C.nd i).sterm; omega
  · rw [e]; exact fun _ _ => h2

theorem call_v {C : Cl} (h : C.Wf) {i : Nat} (hi : i < 3) {x : Rep × OutR} (hx : x.1.Wf) (hf : Fits (C.nd i).rep x.1 x.2) (hv : VFit (C.nd i).rep x) : VStep C (callC C i x) := by
  have hid := (h.rep i hi).2
  have hw := call_wf h hi hx hf
  rw [call_cases h hi hf] at hw ⊢
  split
  · exact start_v h hi
  rename_i hs1
  rw [if_neg hs1] at hw
  split
  · rename_i hs2
    rw [if_pos hs2] at hw
    have e : (startC (hardC C i x.1) i).nd i = startN i (hardN (C.nd i) x.1) := by
      unfold startC hardC
      simp only [put_self]
    refine step_node hw hi (fun j hj => ?_) ?_ ?_ fun m hm => .inl hm
    · unfold startC hardC
      simp only [put_put]
      exact put_ne _ _ hj
    · rw [e]; exact hf.term
    · rw [e]; exact hv.keep
  · rename_i hs2
    rw [if_neg hs2] at hw
    have e : ({ hardC C i x.1 with sent := C.sent ++ x.2.send.take (300 - C.sent.length) } : Cl).nd i = hardN (C.nd i) x.1 := put_self _ _ _
    refine step_node hw hi (fun j hj => put_ne _ _ hj) ?_ ?_ fun m hm => ?_
    · rw [e]; exact hf.term
    · rw [e]; exact hv.keep
    · rcases List.mem_append.1 hm with hm | hm
      · exact .inl hm
      · refine .inr fun hy => ?_
        rw [e]
        obtain ⟨a, b⟩ := hv.yes m (List.mem_of_mem_take hm) hy
        exact ⟨by rw [a, hid], b⟩

theorem drop_v {C : Cl} (h : C.Wf) {n : Nat} (hn : n < C.sent.length) : VStep C (dropC C n) :=
  ⟨drop_wf h hn, fun j hj => ⟨Int.le_refl _, fun _ _ => rfl⟩, fun m hm => .inl (by
    rcases List.mem_append.1 hm with hm | hm
    · exact List.mem_of_mem_take hm
    · exact List.mem_of_mem_drop hm)⟩

theorem deliver_v {C : Cl} (h : C.Wf) (m : MsgR) : VStep C (deliver C m) := by
  have hi := who_lt m.to
  have hh := hear_wf (m := m) (h.rep _ hi).1
  exact call_v h hi hh.1 hh.2 (hear_v _ m)

theorem VInv.arrive {C : Cl} {said : List MsgR} (h : VInv C said) (n : Int) (keep : Bool) : VInv (arriveC C n keep) said := by
  unfold arriveC
  split
  · exact h
  · rename_i m hm
    have hlt := (List.getElem?_eq_some_iff.1 hm).1
    cases keep with
    | true => exact h.step (deliver_v h.wf m)
    | false =>
      have h1 := h.step (drop_v h.wf hlt)
      exact h1.step (deliver_v h1.wf m)

theorem VInv.cluster {C : Cl} {said : List MsgR} (h : VInv C said) (x : OpR) : VInv (stepC C x) said := by
  have hi := who_lt x.who
  have h1 := and_one x.n
  have hrw := (h.wf.rep _ hi).1
  unfold stepC
  simp only
  split
  · unfold loseC
    split
    · rename_i h0
      have hp := pickZ_lt (n := x.n) (show (0 : Int) < C.sent.length by omega)
      exact h.step (drop_v h.wf (by omega))
    · exact h
  split
  · exact h.arrive _ _
  split
  · have := tick_wf hrw
    exact h.step (call_v h.wf hi this.1 this.2 (tick_v _))
  split
  · have := propose_wf hrw x.data
    exact h.step (call_v (x := ((proposeP (C.nd (pickZ x.who 3).toNat).rep x.data).1, (proposeP (C.nd (pickZ x.who 3).toNat).rep x.data).2.2.2)) h.wf hi this.1 this.2 (prop_v _ _))
  split
  · exact h.step (start_v h.wf hi)
  split
  · have e : (stopC C (pickZ x.who 3).toNat (1 + andZ x.n 1)).nd (pickZ x.who 3).toNat = { C.nd (pickZ x.who 3).toNat with stop := 1 + andZ x.n 1 } := put_self _ _ _
    refine h.step (step_node (stop_wf h.wf hi (by omega)) hi (fun j hj => put_ne _ _ hj) ?_ ?_ fun m hm => .inl hm)
    · rw [e]; exact Int.le_refl _
    · rw [e]; exact fun _ _ => rfl
  · exact h.arrive _ _

theorem vinv0 : VInv cl0 [] := ⟨cl0_wf, fun m hm => (by cases hm), fun m hm => (by cases hm), fun m hm => (by cases hm)⟩

end Go.Proofs.Ytifgijoeckoojaa
