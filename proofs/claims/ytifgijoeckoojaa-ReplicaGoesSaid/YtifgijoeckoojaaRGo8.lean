/-
  Replica, plain: what each call keeps, and what its result says.
-/
import Derived.Test.YtifgijoeckoojaaRGo7

section
set_option linter.unusedVariables false
set_option linter.unusedSimpArgs false
namespace Go.Proofs.Ytifgijoeckoojaa
open Go.Vc

/-- a replica that may be found -/
structure Rep.Wf (r : Rep) : Prop where
  ok : r.Ok
  one : r.role ≠ 0 → 1 ≤ r.term

/-- the result tells what has changed of what is stored -/
structure Fits (r r' : Rep) (o : OutR) : Prop where
  id : r'.id = r.id
  save : o.save = true → o.term = r'.term ∧ o.vote = r'.vote
  keep : o.save = false → r'.term = r.term ∧ r'.vote = r.vote
  log : 0 < o.src → r'.log = r.log.take (min (o.src - 1) (r.log.length : Int)).toNat ++ o.recs
  same : ¬ 0 < o.src → r'.log = r.log
  term : r.term ≤ r'.term

theorem Fits.refl (r : Rep) : Fits r r out0 := ⟨rfl, fun h => (by cases h), fun _ => ⟨rfl, rfl⟩, fun h => (by cases h), fun _ => rfl, Int.le_refl _⟩

theorem sorted_take {l : List RecD} {t : Int} (h : Sorted l t) (k : Nat) : Sorted (l.take k) t :=
  ⟨fun x hx => h.lo x (List.mem_of_mem_take hx), fun x hx => h.hi x (List.mem_of_mem_take hx), fun x hx => h.data x (List.mem_of_mem_take hx), fun i j hij hj hi => by
    rw [List.getElem_take, List.getElem_take]
    exact h.asc i j hij (by simp at hj; omega) (by simp at hi; omega)⟩

theorem sorted_app {a b : List RecD} {t : Int} (ha : Sorted a t) (hb : Sorted b t) (h : ∀ x ∈ a, ∀ y ∈ b, x.term ≤ y.term) : Sorted (a ++ b) t := by
  refine ⟨fun x hx => ?_, fun x hx => ?_, fun x hx => ?_, fun i j hij hj hi => ?_⟩
  · rcases List.mem_append.1 hx with hx | hx
    · exact ha.lo x hx
    · exact hb.lo x hx
  · rcases List.mem_append.1 hx with hx | hx
    · exact ha.hi x hx
    · exact hb.hi x hx
  · rcases List.mem_append.1 hx with hx | hx
    · exact ha.data x hx
    · exact hb.data x hx
  · rw [List.length_append] at hj hi
    by_cases hja : j < a.length
    · rw [List.getElem_append_left hja, List.getElem_append_left (by omega)]
      exact ha.asc i j hij hja (by omega)
    · rw [List.getElem_append_right (show a.length ≤ j by omega)]
      by_cases hia : i < a.length
      · rw [List.getElem_append_left hia]
        exact h _ (List.getElem_mem hia) _ (List.getElem_mem _)
      · rw [List.getElem_append_right (show a.length ≤ i by omega)]
        exact hb.asc (i - a.length) (j - a.length) (by omega) (by omega) (by omega)

theorem sorted_up {l : List RecD} {t u : Int} (h : Sorted l t) (hu : t ≤ u) : Sorted l u := ⟨h.lo, fun x hx => Int.le_trans (h.hi x hx) hu, h.data, h.asc⟩

theorem sorted_drop {l : List RecD} {t : Int} (h : Sorted l t) (k : Nat) : Sorted (l.drop k) t :=
  ⟨fun x hx => h.lo x (List.mem_of_mem_drop hx), fun x hx => h.hi x (List.mem_of_mem_drop hx), fun x hx => h.data x (List.mem_of_mem_drop hx), fun i j hij hj hi => by
    rw [List.getElem_drop, List.getElem_drop]
    exact h.asc (k + i) (k + j) (by omega) (by simp at hj; omega) (by simp at hi; omega)⟩

theorem right_sorted {id : Nat} {m : MsgR} (h : m.Right id) : Sorted m.recs m.term ∧ ∀ x ∈ m.recs, m.prev ≤ x.term := by
  obtain ⟨h1, h2⟩ := soundR_iff _ _ _ h.sound
  exact ⟨⟨fun x hx => by have := (h1 x hx).1; omega, fun x hx => (h1 x hx).2.1, fun x hx => (h1 x hx).2.2, h2⟩, fun x hx => by have := (h1 x hx).1; omega⟩

theorem last_le {l : List RecD} {t : Int} (h : Sorted l t) {k : Nat} (hk : k ≤ l.length) : ∀ x ∈ l.take k, x.term ≤ termAt l k := by
  intro x hx
  obtain ⟨i, hi, rfl⟩ := List.getElem_of_mem hx
  rw [List.length_take] at hi
  rw [List.getElem_take]
  obtain ⟨j, rfl⟩ : ∃ j, k = j + 1 := ⟨k - 1, by omega⟩
  rw [termAt_succ (by omega)]
  exact h.asc i j (by omega) (by omega) (by omega)

/-- the entries that agree have the same terms -/
theorem agree_terms : ∀ (a b : List RecD) (i : Nat), i < agree a b → ∃ (ha : i < a.length) (hb : i < b.length), a[i].term = b[i].term
  | [], b, i, h => by cases b <;> simp [agree] at h
  | x :: a, [], i, h => by simp [agree] at h
  | x :: a, y :: b, i, h => by
    unfold agree at h
    split at h
    · rename_i hxy
      cases i with
      | zero => exact ⟨by simp, by simp, by simpa using hxy⟩
      | succ i =>
        obtain ⟨h1, h2, h3⟩ := agree_terms a b i (by omega)
        exact ⟨by simp; omega, by simp; omega, by simpa using h3⟩
    · omega

theorem app_sorted {r : Rep} (hr : r.Ok) {m : MsgR} (hm : m.Right r.id) (ht : ¬ m.term < r.term) (hle : m.index.toNat ≤ r.log.length) (hp : termAt r.log m.index.toNat = m.prev) : Sorted (r.log.take (m.index.toNat + appK r m) ++ m.recs.drop (appK r m)) m.term := by
  obtain ⟨h1, h2⟩ := right_sorted hm
  have hk := agree_lt (r.log.drop m.index.toNat) m.recs
  rw [List.length_drop] at hk
  refine sorted_app (sorted_up (sorted_take hr.log _) (by omega)) (sorted_drop h1 _) fun x hx y hy => ?_
  have hle2 : m.index.toNat + appK r m ≤ r.log.length := by unfold appK; omega
  have hx := last_le hr.log hle2 x hx
  refine Int.le_trans hx ?_
  obtain ⟨j, hj, rfl⟩ := List.getElem_of_mem hy
  rw [List.getElem_drop]
  have hj2 : appK r m + j < m.recs.length := by rw [List.length_drop] at hj; omega
  by_cases hz : appK r m = 0
  · have e : termAt r.log (m.index.toNat + appK r m) = m.prev := by rw [hz, Nat.add_zero, hp]
    rw [e]
    exact h2 _ (List.getElem_mem _)
  · obtain ⟨i, hi⟩ : ∃ i, appK r m = i + 1 := ⟨appK r m - 1, by omega⟩
    obtain ⟨a1, a2, a3⟩ := agree_terms (r.log.drop m.index.toNat) m.recs i (by unfold appK at hi; omega)
    rw [List.getElem_drop] at a3
    have e : termAt r.log (m.index.toNat + appK r m) = m.recs[i].term := by
      rw [hi, show m.index.toNat + (i + 1) = m.index.toNat + i + 1 by omega, termAt_succ (by omega), a3]
    rw [e]
    exact h1.asc i (appK r m + j) (by omega) hj2 a2

theorem app_len {r : Rep} {m : MsgR} (hle : m.index.toNat ≤ r.log.length) : (r.log.take (m.index.toNat + appK r m) ++ m.recs.drop (appK r m)).length = m.index.toNat + m.recs.length := by
  have hk := agree_lt (r.log.drop m.index.toNat) m.recs
  have hk2 := agree_le (r.log.drop m.index.toNat) m.recs
  rw [List.length_drop] at hk
  rw [List.length_append, List.length_take, List.length_drop]
  unfold appK
  omega

/-! ### each call -/
theorem vote_wf {r : Rep} (h : r.Wf) {m : MsgR} (h1 : 0 ≤ m.src ∧ m.src ≤ 2) : (voteP r m).1.Wf ∧ (voteP r m).1.id = r.id ∧ (voteP r m).1.term = r.term ∧ (voteP r m).1.log = r.log ∧ (voteP r m).2.src = 0 := by
  unfold voteP
  split
  · exact ⟨⟨⟨h.ok.id, h.ok.term0, h.ok.termM, by show -1 ≤ m.src; omega, h1.2, h.ok.log, h.ok.len, h.ok.role, h.ok.commit, h.ok.next, h.ok.bound⟩, h.one⟩, rfl, rfl, rfl, rfl⟩
  · exact ⟨h, rfl, rfl, rfl, rfl⟩

theorem voted_wf {r : Rep} (h : r.Wf) {m : MsgR} : (votedP r m).1.Wf ∧ (votedP r m).1.id = r.id ∧ (votedP r m).1.term = r.term ∧ (votedP r m).1.vote = r.vote ∧ (votedP r m).1.log = r.log ∧ (votedP r m).2.src = 0 := by
  by_cases hc : (decide (r.role ≠ 1) || decide (m.term ≠ r.term) || !m.yes) = true
  · rw [voted_no hc]; exact ⟨h, rfl, rfl, rfl, rfl, rfl⟩
  have hc : (decide (r.role ≠ 1) || decide (m.term ≠ r.term) || !m.yes) = false := by simpa using hc
  have hrole : r.role = 1 := by simp only [Bool.or_eq_false_iff, decide_eq_false_iff_not] at hc; exact Decidable.not_not.1 hc.1.1
  by_cases h2 : countV (voteR r m).votes < 2
  · rw [voted_few hc h2]
    exact ⟨⟨⟨h.ok.id, h.ok.term0, h.ok.termM, h.ok.vote0, h.ok.voteM, h.ok.log, h.ok.len, h.ok.role, h.ok.commit, h.ok.next, h.ok.bound⟩, h.one⟩, rfl, rfl, rfl, rfl, rfl⟩
  · rw [voted_lead hc h2]
    exact ⟨⟨lead_ok h.ok m, fun _ => h.one (by rw [hrole]; decide)⟩, rfl, rfl, rfl, rfl, rfl⟩

theorem appended_wf {r : Rep} (h : r.Wf) {m : MsgR} (hi : 0 ≤ m.index) : (appendedP r m).1.Wf ∧ (appendedP r m).1.id = r.id ∧ (appendedP r m).1.term = r.term ∧ (appendedP r m).1.vote = r.vote ∧ (appendedP r m).1.log = r.log ∧ (appendedP r m).2.src = 0 := by
  by_cases hc : (decide (r.role ≠ 2) || decide (m.term ≠ r.term) || m.yes && decide ((r.log.length : Int) < m.index)) = true
  · rw [appended_no hc]; exact ⟨h, rfl, rfl, rfl, rfl, rfl⟩
  have hc : (decide (r.role ≠ 2) || decide (m.term ≠ r.term) || m.yes && decide ((r.log.length : Int) < m.index)) = false := by simpa using hc
  have hrole : r.role = 2 := by simp only [Bool.or_eq_false_iff, decide_eq_false_iff_not] at hc; exact Decidable.not_not.1 hc.1.1
  cases hy : m.yes with
  | false =>
    rw [appended_back hc hy]
    exact ⟨⟨back_ok h.ok hrole m, h.one⟩, rfl, rfl, rfl, rfl, rfl⟩
  | true =>
    rw [appended_fwd hc hy]
    have hix : m.index.toNat ≤ r.log.length := by
      simp only [Bool.or_eq_false_iff, decide_eq_false_iff_not, hy, Bool.true_and] at hc
      have := hc.2; omega
    have ha := adv_ok (fwd_ok h.ok hrole m hix) hrole
    obtain ⟨e1, e2, e3, e4, e5, e6, e7⟩ := adv_eq (fwdR r m)
    have hw : (advanceP (fwdR r m)).Wf := ⟨ha, fun _ => by rw [e6]; exact h.one (by rw [hrole]; decide)⟩
    split
    · exact ⟨hw, e5, e6, e7, e2, rfl⟩
    · exact ⟨hw, e5, e6, e7, e2, rfl⟩

theorem fol_wf {r : Rep} (h : r.Wf) : (folR r).Wf := ⟨⟨h.ok.id, h.ok.term0, h.ok.termM, h.ok.vote0, h.ok.voteM, h.ok.log, h.ok.len, .inl rfl, h.ok.commit, fun hr => (by cases (show (0 : Int) = 2 from hr)), h.ok.bound⟩, fun hr => absurd rfl hr⟩

theorem append_wf {r : Rep} (h : r.Wf) {m : MsgR} (hm : m.Right r.id) (heq : m.term ≤ r.term) : (appendP r m).1.Wf ∧ (appendP r m).1.id = r.id ∧ (appendP r m).1.term = r.term ∧ (appendP r m).1.vote = r.vote ∧
    (0 < (appendP r m).2.src → (appendP r m).1.log = r.log.take (min ((appendP r m).2.src - 1) (r.log.length : Int)).toNat ++ (appendP r m).2.recs) ∧ (¬ 0 < (appendP r m).2.src → (appendP r m).1.log = r.log) ∧ (appendP r m).2.save = false := by
  by_cases h1 : m.term < r.term
  · rw [append_old h1]; exact ⟨h, rfl, rfl, rfl, fun h => (by cases h), fun _ => rfl, rfl⟩
  by_cases h2 : r.role = 2
  · rw [append_lead h1 h2]; exact ⟨h, rfl, rfl, rfl, fun h => (by cases h), fun _ => rfl, rfl⟩
  by_cases h3 : (decide ((r.log.length : Int) < m.index) || decide (termAt r.log m.index.toNat ≠ m.prev)) = true
  · rw [append_gap h1 h2 h3]; exact ⟨fol_wf h, rfl, rfl, rfl, fun h => (by cases h), fun _ => rfl, rfl⟩
  have h3 : (decide ((r.log.length : Int) < m.index) || decide (termAt r.log m.index.toNat ≠ m.prev)) = false := by simpa using h3
  have hm1 := hm.index
  have hm2 := hm.commit
  obtain ⟨hle, hp⟩ : m.index.toNat ≤ r.log.length ∧ termAt r.log m.index.toNat = m.prev := by
    simp only [Bool.or_eq_false_iff, decide_eq_false_iff_not] at h3
    exact ⟨by omega, Decidable.not_not.1 h3.2⟩
  have hk := agree_lt (r.log.drop m.index.toNat) m.recs
  have hk2 := agree_le (r.log.drop m.index.toNat) m.recs
  rw [List.length_drop] at hk
  by_cases h4 : appK r m < m.recs.length
  · by_cases h5 : m.index.toNat + appK r m + 1 ≤ r.commit
    · rw [append_done h1 h2 h3 h4 h5]; exact ⟨fol_wf h, rfl, rfl, rfl, fun h => (by cases h), fun _ => rfl, rfl⟩
    · rw [append_new h1 h2 h3 h4 h5]
      have hs := app_sorted h.ok hm h1 hle hp
      have hl := app_len (r := r) (m := m) hle
      have hft := hm.fits
      refine ⟨⟨⟨h.ok.id, h.ok.term0, h.ok.termM, h.ok.vote0, h.ok.voteM, sorted_up hs heq, ?_, .inl rfl, ?_, fun hr => (by cases (show (0 : Int) = 2 from hr)), h.ok.bound⟩, fun hr => absurd rfl hr⟩, rfl, rfl, rfl, fun _ => ?_, fun hn => ?_, rfl⟩
      · show (r.log.take (m.index.toNat + appK r m) ++ m.recs.drop (appK r m)).length ≤ 4000
        omega
      · show appC r m ≤ (r.log.take (m.index.toNat + appK r m) ++ m.recs.drop (appK r m)).length
        rw [hl]
        unfold appC
        omega
      · show r.log.take (m.index.toNat + appK r m) ++ m.recs.drop (appK r m) = r.log.take (min (((m.index.toNat + appK r m + 1 : Nat) : Int) - 1) (r.log.length : Int)).toNat ++ m.recs.drop (appK r m)
        congr 2
        unfold appK
        omega
      · exfalso
        apply hn
        show (0 : Int) < ((m.index.toNat + appK r m + 1 : Nat) : Int)
        omega
  · rw [append_same h1 h2 h3 h4]
    have hcm := h.ok.commit
    refine ⟨⟨⟨h.ok.id, h.ok.term0, h.ok.termM, h.ok.vote0, h.ok.voteM, h.ok.log, h.ok.len, .inl rfl, ?_, fun hr => (by cases (show (0 : Int) = 2 from hr)), h.ok.bound⟩, fun hr => absurd rfl hr⟩, rfl, rfl, rfl, fun h => (by cases h), fun _ => rfl, rfl⟩
    show appC r m ≤ r.log.length
    unfold appC
    unfold appK at h4
    omega

theorem up_wf {r : Rep} (h : r.Wf) {m : MsgR} (hm : m.Right r.id) (ht : r.term < m.term) : (upR r m).Wf := ⟨up_ok h.ok m hm ht, fun hr => absurd rfl hr⟩

theorem fin_fits {r : Rep} {x : Rep × OutR} (h1 : x.1.id = r.id) (h2 : r.term ≤ x.1.term) (hs : x.2.save = false) (hl : 0 < x.2.src → x.1.log = r.log.take (min (x.2.src - 1) (r.log.length : Int)).toNat ++ x.2.recs) (hn : ¬ 0 < x.2.src → x.1.log = r.log) : Fits r (finO r x).1 (finO r x).2 := by
  unfold finO
  split
  · rename_i he
    simp only [Bool.and_eq_true, decide_eq_true_eq] at he
    exact ⟨h1, fun h => (by rw [hs] at h; cases h), fun _ => he, hl, hn, h2⟩
  · exact ⟨h1, fun _ => ⟨rfl, rfl⟩, fun h => (by cases h), hl, hn, h2⟩

theorem fin_fst {r : Rep} {x : Rep × OutR} : (finO r x).1 = x.1 := by unfold finO; split <;> rfl
theorem fin_send {r : Rep} {x : Rep × OutR} : (finO r x).2.send = x.2.send := by unfold finO; split <;> rfl

theorem vote_save (r : Rep) (m : MsgR) : (voteP r m).2.save = false := by unfold voteP; split <;> rfl
theorem voted_save (r : Rep) (m : MsgR) : (votedP r m).2.save = false := by
  unfold votedP; split
  · rfl
  · simp only; split <;> rfl
theorem appended_save (r : Rep) (m : MsgR) : (appendedP r m).2.save = false := by
  unfold appendedP; split
  · rfl
  · simp only; split
    · rfl
    · split <;> rfl

theorem hear_wf {r : Rep} (h : r.Wf) {m : MsgR} : (hearP r m).1.Wf ∧ Fits r (hearP r m).1 (hearP r m).2 := by
  cases hy : rightP r.id m with
  | false => rw [hear_no hy]; exact ⟨h, Fits.refl r⟩
  | true =>
    rw [hear_yes hy]
    have hm := right_iff.1 hy
    obtain ⟨r1, hr1, hw1, ht1, hid1, hlog1, hle1⟩ : ∃ r1, (if r.term < m.term then upR r m else r) = r1 ∧ r1.Wf ∧ r.term ≤ r1.term ∧ r1.id = r.id ∧ r1.log = r.log ∧ m.term ≤ r1.term := by
      split
      · rename_i ht; exact ⟨_, rfl, up_wf h hm ht, by show r.term ≤ m.term; omega, rfl, rfl, Int.le_refl _⟩
      · rename_i ht; exact ⟨_, rfl, h, Int.le_refl _, rfl, rfl, by omega⟩
    rw [hr1]
    have hm1 : m.Right r1.id := by rw [hid1]; exact hm
    unfold hearX
    split
    · obtain ⟨a1, a2, a3, a4, a5⟩ := vote_wf hw1 (m := m) hm.src.2
      exact ⟨by rw [fin_fst]; exact a1, fin_fits (by rw [a2, hid1]) (by rw [a3]; exact ht1) (vote_save _ _) (fun hh => by rw [a5] at hh; cases hh) (fun _ => by rw [a4, hlog1])⟩
    · split
      · obtain ⟨a1, a2, a3, a4, a5, a6⟩ := voted_wf hw1 (m := m)
        exact ⟨by rw [fin_fst]; exact a1, fin_fits (by rw [a2, hid1]) (by rw [a3]; exact ht1) (voted_save _ _) (fun hh => by rw [a6] at hh; cases hh) (fun _ => by rw [a5, hlog1])⟩
      · split
        · obtain ⟨a1, a2, a3, a4, a5, a6, a7⟩ := append_wf hw1 hm1 hle1
          rw [hlog1] at a5 a6
          exact ⟨by rw [fin_fst]; exact a1, fin_fits (by rw [a2, hid1]) (by rw [a3]; exact ht1) a7 a5 a6⟩
        · obtain ⟨a1, a2, a3, a4, a5, a6⟩ := appended_wf hw1 (m := m) hm.index.1
          exact ⟨by rw [fin_fst]; exact a1, fin_fits (by rw [a2, hid1]) (by rw [a3]; exact ht1) (appended_save _ _) (fun hh => by rw [a6] at hh; cases hh) (fun _ => by rw [a5, hlog1])⟩

theorem tick_wf {r : Rep} (h : r.Wf) : (tickP r).1.Wf ∧ Fits r (tickP r).1 (tickP r).2 := by
  by_cases h1 : r.role = 2
  · rw [tick_lead h1]; exact ⟨h, Fits.refl r |>.id, fun h => (by cases h), fun _ => ⟨rfl, rfl⟩, fun h => (by cases h), fun _ => rfl, Int.le_refl _⟩
  by_cases h2 : r.term = 1099511627776
  · rw [tick_max h1 h2]; exact ⟨h, Fits.refl r⟩
  rw [tick_ask h1 h2]
  have := h.ok.term0
  exact ⟨⟨ask_ok h.ok h1 h2, fun _ => by show 1 ≤ r.term + 1; omega⟩, rfl, fun _ => ⟨rfl, rfl⟩, fun h => (by cases h), fun h => (by cases h), fun _ => rfl, by show r.term ≤ r.term + 1; omega⟩

theorem propose_wf {r : Rep} (h : r.Wf) (data : ByteArray) : (proposeP r data).1.Wf ∧ Fits r (proposeP r data).1 (proposeP r data).2.2.2 := by
  by_cases h1 : r.role ≠ 2
  · rw [prop_no h1]; exact ⟨h, Fits.refl r⟩
  by_cases h2 : 2000 < (data.size : Int)
  · rw [prop_big h1 h2]; exact ⟨h, Fits.refl r⟩
  by_cases h3 : r.log.length = 4000
  · rw [prop_full h1 h2 h3]; exact ⟨h, Fits.refl r⟩
  rw [prop_ok h1 h2 h3]
  have hr : r.role = 2 := Decidable.not_not.1 h1
  refine ⟨⟨propR_ok h.ok hr (h.one (by rw [hr]; decide)) h2 h3, h.one⟩, rfl, fun h => (by cases h), fun _ => ⟨rfl, rfl⟩, fun _ => ?_, fun hn => ?_, Int.le_refl _⟩
  · show r.log ++ [⟨r.term, data⟩] = r.log.take (min (((r.log.length + 1 : Nat) : Int) - 1) (r.log.length : Int)).toNat ++ [⟨r.term, data⟩]
    rw [show (min (((r.log.length + 1 : Nat) : Int) - 1) (r.log.length : Int)).toNat = r.log.length by omega, List.take_length]
  · exfalso
    apply hn
    show (0 : Int) < ((r.log.length + 1 : Nat) : Int)
    omega

theorem new_wf {i : Nat} {t v : Int} {l : List RecD} (hi : i ≤ 2) (h0 : 0 ≤ t) (hM : t ≤ 1099511627776) (hv0 : -1 ≤ v) (hvM : v ≤ 2) (hl : Sorted l t) (hlen : l.length ≤ 4000) : (newRep i t v l).Wf :=
  ⟨⟨hi, h0, hM, hv0, hvM, hl, hlen, .inl rfl, Nat.zero_le _, fun hr => (by cases (show (0 : Int) = 2 from hr)), fun i => ⟨by show 0 ≤ 4001; omega, by show 0 ≤ 4000; omega⟩⟩, fun hr => absurd rfl hr⟩

theorem soundR_of : ∀ (l : List RecD) (least most : Int), (∀ x ∈ l, least ≤ x.term) → (∀ x ∈ l, x.term ≤ most) → (∀ x ∈ l, x.data.size ≤ 2000) → (∀ i j, i ≤ j → (hj : j < l.length) → (hi : i < l.length) → l[i].term ≤ l[j].term) → soundR l least most = true
  | [], _, _, _, _, _, _ => rfl
  | x :: l, least, most, h1, h2, h3, h4 => by
    unfold soundR
    rw [if_neg]
    · refine soundR_of l x.term most (fun y hy => ?_) (fun y hy => h2 y (List.mem_cons_of_mem _ hy)) (fun y hy => h3 y (List.mem_cons_of_mem _ hy)) (fun i j hij hj hi => ?_)
      · obtain ⟨j, hj, rfl⟩ := List.getElem_of_mem hy
        exact h4 0 (j + 1) (by omega) (by simp; omega) (by simp)
      · exact h4 (i + 1) (j + 1) (by omega) (by simp; omega) (by simp; omega)
    · have a := h1 x (by simp)
      have b := h2 x (by simp)
      have c := h3 x (by simp)
      simp only [Bool.or_eq_true, decide_eq_true_eq, not_or]
      omega

theorem new_yes {i : Nat} {r : Rep} (hi : i ≤ 2) (h : r.Ok) : newB i r.term r.vote r.log = true := by
  have h1 := h.term0
  have h2 := h.termM
  have h3 := h.vote0
  have h4 := h.voteM
  have h5 := h.len
  unfold newB
  rw [soundR_of r.log 1 r.term h.log.lo h.log.hi h.log.data h.log.asc, Bool.and_true]
  simp only [Bool.and_eq_true, decide_eq_true_eq]
  omega

end Go.Proofs.Ytifgijoeckoojaa
end

/-
  The cluster: start.
-/
section
set_option linter.unusedVariables false
set_option linter.unusedSimpArgs false
namespace Go.Proofs.Ytifgijoeckoojaa
open Go.Vc

def CPhi (Φ : PW) (L : Lay) (C : Cl) : PW := fun M w => Φ M w ∧ ClS L C M w
instance cphi_stable (Φ : PW) [Stable Φ] (L : Lay) (C : Cl) : Stable (CPhi Φ L C) := instStableAnd Φ (ClS L C)

/-- the node i is another one, with the same entries stored -/
def ndC (C : Cl) (i : Nat) (n : Node) : Cl := { C with nd := put C.nd i n }

theorem put_put {α : Type} (f : Nat → α) (i : Nat) (x y : α) : put (put f i x) i y = put f i y := by
  funext j; unfold put; split <;> rfl

theorem repC_nd {C : Cl} {i : Nat} {n : Node} {r : Rep} : repC (ndC C i n) i r = ndC C i { n with rep := r } := by
  unfold repC ndC
  simp only [put_put, put_self]

theorem ClS_nd {L : Lay} {C : Cl} {i : Nat} {n : Node} (hi : i < 3) (h : n.slog = (C.nd i).slog) {M : List Nat} {w : World} : ClS L (ndC C i n) M w ↔ ClS L C M w := by
  match i, hi with
  | 0, _ => unfold ClS ndC; simp only [put_self, put_ne C.nd n (show (1 : Nat) ≠ 0 by decide), put_ne C.nd n (show (2 : Nat) ≠ 0 by decide), h]
  | 1, _ => unfold ClS ndC; simp only [put_self, put_ne C.nd n (show (0 : Nat) ≠ 1 by decide), put_ne C.nd n (show (2 : Nat) ≠ 1 by decide), h]
  | 2, _ => unfold ClS ndC; simp only [put_self, put_ne C.nd n (show (0 : Nat) ≠ 2 by decide), put_ne C.nd n (show (1 : Nat) ≠ 2 by decide), h]

theorem reps_nd {L : Lay} {C : Cl} {i : Nat} {n : Node} (hi : i < 3) (h : n.rep = (C.nd i).rep) : repsO L (ndC C i n) = repsO L C := by
  match i, hi with
  | 0, _ => simp only [repsO, repI, ndC, put_self, put_ne C.nd n (show (1 : Nat) ≠ 0 by decide), put_ne C.nd n (show (2 : Nat) ≠ 0 by decide), h]
  | 1, _ => simp only [repsO, repI, ndC, put_self, put_ne C.nd n (show (0 : Nat) ≠ 1 by decide), put_ne C.nd n (show (2 : Nat) ≠ 1 by decide), h]
  | 2, _ => simp only [repsO, repI, ndC, put_self, put_ne C.nd n (show (0 : Nat) ≠ 2 by decide), put_ne C.nd n (show (1 : Nat) ≠ 2 by decide), h]

/-- the cells of what node i has stored -/
theorem s_row {L : Lay} {C : Cl} {i : Nat} (hi : i < 3) : ((sCells L C).drop (i * 4)).take 4 = nodeS (C.nd i) (L.lp i) (L.lc i) := by
  match i, hi with
  | 0, _ => rfl
  | 1, _ => rfl
  | 2, _ => rfl

theorem s_at {L : Lay} {C : Cl} {i k : Nat} (hi : i < 3) (hk : k < 4) {v : Value} (hv : (nodeS (C.nd i) (L.lp i) (L.lc i))[k]? = some v) : (sCells L C)[i * 4 + k]? = some v := by
  rw [← s_row hi, List.getElem?_take_of_lt hk, List.getElem?_drop] at hv
  exact hv

theorem s_set {L : Lay} {C : Cl} {i k : Nat} {v : Value} {n : Node} (hi : i < 3) (hk : k < 4) (hn : (nodeS (C.nd i) (L.lp i) (L.lc i)).set k v = nodeS n (L.lp i) (L.lc i)) : (sCells L C).set (i * 4 + k) v = sCells L (ndC C i n) := by
  match i, hi with
  | 0, _ =>
    simp only [sCells, ndC, put_self, put_ne C.nd n (show (1 : Nat) ≠ 0 by decide), put_ne C.nd n (show (2 : Nat) ≠ 0 by decide), ← hn]
    match k, hk with
    | 0, _ => rfl
    | 1, _ => rfl
    | 2, _ => rfl
    | 3, _ => rfl
  | 1, _ =>
    simp only [sCells, ndC, put_self, put_ne C.nd n (show (0 : Nat) ≠ 1 by decide), put_ne C.nd n (show (2 : Nat) ≠ 1 by decide), ← hn]
    match k, hk with
    | 0, _ => rfl
    | 1, _ => rfl
    | 2, _ => rfl
    | 3, _ => rfl
  | 2, _ =>
    simp only [sCells, ndC, put_self, put_ne C.nd n (show (0 : Nat) ≠ 2 by decide), put_ne C.nd n (show (1 : Nat) ≠ 2 by decide), ← hn]
    match k, hk with
    | 0, _ => rfl
    | 1, _ => rfl
    | 2, _ => rfl
    | 3, _ => rfl

theorem r_at {L : Lay} {i : Nat} (hi : i < 3) : (rCells L)[i]? = some (ptrV (L.b i)) := by
  match i, hi with
  | 0, _ => rfl
  | 1, _ => rfl
  | 2, _ => rfl

theorem r_set {L : Lay} {i b : Nat} {p : Option Addr} {c : Nat} (hi : i < 3) : (rCells L).set i (ptrV b) = rCells (L.at i b p c) := by
  match i, hi with
  | 0, _ => rfl
  | 1, _ => rfl
  | 2, _ => rfl

/-- write into the stored state -/
theorem s_put {W w w' : World} {L : Lay} {C : Cl} {G : List Own} {Φ : PW} [Stable Φ] {i k : Nat} (hi : i < 3) (hk : k < 4) {n : Node} (hr : n.rep = (C.nd i).rep) {v : Value} (hn : (nodeS (C.nd i) (L.lp i) (L.lc i)).set k v = nodeS n (L.lp i) (L.lc i))
    (cx : Ctx W w (clO L C ++ G) Φ) {g : Nat} (hg : L.sp = some ⟨g, 0, none⟩) (hw : w' = w.setCell ⟨g, i * 4 + k, none⟩ v) : Ctx W w' (clO L (ndC C i n) ++ G) Φ := by
  have hlen : (sCells L C).length = 12 := rfl
  have cx1 := cx.bufPuts 2 rfl hg (by rw [hlen]; omega) (o := i * 4 + k) (vs := [v]) (by rw [hlen]; simp; omega) hw
  have hset : setL (sCells L C) (i * 4 + k) [v] = sCells L (ndC C i n) := s_set hi hk hn
  show Ctx W w' ((heads L (ndC C i n) ++ repsO L (ndC C i n)) ++ G) Φ
  rw [reps_nd hi hr]
  have e : heads L (ndC C i n) = [.blk L.x (xCells L C) 34, .buf L.rp 3 L.rc (rCells L) 46 1, .buf L.sp 3 L.sc (setL (sCells L C) (i * 4 + k) [v]) 42 4, .buf L.tp C.sent.length L.tc L.mc 37 9] := by rw [hset]; rfl
  rw [e]
  exact cx1

theorem lay_at {W w : World} {L : Lay} {C : Cl} {G : List Own} {Φ : PW} (cx : Ctx W w (clO L C ++ G) Φ) : (∃ g, L.sp = some ⟨g, 0, none⟩) ∧ (∃ g, L.rp = some ⟨g, 0, none⟩) := by
  obtain ⟨g, hg, _⟩ := cx.bufCell 2 rfl (show 0 < 12 by decide)
  obtain ⟨g2, hg2, _⟩ := cx.bufCell 1 rfl (show 0 < 3 by decide)
  exact ⟨⟨g, hg⟩, g2, hg2⟩

set_option maxHeartbeats 2000000 in
theorem start_use {W w : World} {L : Lay} {C : Cl} {G : List Own} {Φ : PW} [Stable Φ] (cx : Ctx W w (clO L C ++ G) (CPhi Φ L C)) {i : Nat} (hi : i < 3) (hn : newB i (C.nd i).sterm (C.nd i).svote (C.nd i).slog = true) {K : Ending → World → Prop}
    (hK : ∀ L' w', L'.x = L.x → Ctx W w' (clO L' (startC C i) ++ G) (CPhi Φ L' (startC C i)) → K (.returned (.bool true)) w') : Calls Try.prog F.erratalaw08_cluster_start #[.pointer (some ⟨L.x, 0, none⟩), .int .i64 i] w K := by
  obtain ⟨⟨gs, hgs⟩, gp, hgp⟩ := lay_at cx
  have hll : (C.nd i).slog.length ≤ 4000 := by
    unfold newB at hn
    simp only [Bool.and_eq_true, decide_eq_true_eq] at hn
    omega
  refine (Berratalaw08_cluster_start_run L.x 0 i (J := fun u w' => K (.returned u) w') cx ?_).mono fun e w' ⟨v, he, hj⟩ => by rw [he]; exact hj
  refine fun w F cx => ⟨L.sp, 3, L.sc, cx.get 0 rfl rfl, by omega, ptrK_intro gs 0 hgs fun w F cx => ⟨cx.bufCan 2 rfl hgs (by show _ ≤ 12; rw [Int.toNat_natCast]; omega), fun w' hw' => ?_⟩⟩
  rw [Int.toNat_natCast, Nat.zero_add] at hw'
  obtain ⟨C1, hC1⟩ : ∃ C1, ndC C i { C.nd i with stop := 0 } = C1 := ⟨_, rfl⟩
  have hnd : C1.nd i = { C.nd i with stop := 0 } := by rw [← hC1]; exact put_self _ _ _
  have cx1 : Ctx W w' (clO L C1 ++ G ++ F) (CPhi Φ L C1) := by
    have h1 := s_put (n := { C.nd i with stop := 0 }) hi (show 3 < 4 by decide) rfl (by rfl) (cx.re (List.append_assoc _ _ _)) hgs hw'
    rw [hC1] at h1
    refine (h1.re (List.append_assoc _ _ _).symm).weak fun M w h => ⟨h.1, ?_⟩
    rw [← hC1]
    exact (ClS_nd (n := { C.nd i with stop := 0 }) hi rfl).2 h.2
  have hx1 : xCells L C1 = xCells L C := by rw [← hC1]; rfl
  have hsub : ∀ {w : World} {F : List Own} {A : List Own} {Ψ : PW} [Stable Ψ], Ctx W w (heads L C1 ++ A ++ F) Ψ → Ctx W w ([.blk L.x (xCells L C1) 34, .buf L.sp 3 L.sc (sCells L C1) 42 4] ++ F) (fun _ _ => True) := fun cx => (cx.weak fun _ _ _ => trivial).sub (List.Sublist.cons_cons _ (List.Sublist.cons _ (List.Sublist.cons_cons _ (List.Sublist.cons _ (List.sublist_append_right _ _)))))
  refine ⟨clO L C1 ++ G, CPhi Φ L C1, inferInstance, cx1, [.blk L.x (xCells L C1) 34, .buf L.sp 3 L.sc (sCells L C1) 42 4], fun _ _ => True, inferInstance, fun w F cx => hsub (A := repsO L C1 ++ G) (cx.re (by simp)), L.rp, 3, L.rc, fun w F cx => ⟨L.rp, 3, L.rc, cx.get 0 rfl rfl, rfl⟩, L.sp, 3, L.sc, fun w F cx => ⟨L.sp, 3, L.sc, cx.get 0 rfl rfl, rfl⟩, L.sp, 3, L.sc, fun w F cx => ⟨L.sp, 3, L.sc, cx.get 0 rfl rfl, rfl⟩, by omega, ptrK_intro gs 0 hgs ⟨by omega, ptrK_intro gs 0 hgs ⟨(C.nd i).sterm, (C.nd i).svote, fun w F cx => ⟨(C.nd i).sterm, (C.nd i).svote, ?_, rfl⟩, L.lp i, (C.nd i).slog.length, L.lc i, fun w F cx => ⟨L.lp i, (C.nd i).slog.length, L.lc i, ?_, rfl⟩, fun w F cx => ?_⟩⟩⟩
  · rw [Int.toNat_natCast, Nat.zero_add]
    refine cx.bufRow 1 rfl hgs (fun j hj => ?_)
    have : (nodeS (C1.nd i) (L.lp i) (L.lc i))[j]? = some [Value.int .i64 (C.nd i).sterm, Value.int .i64 (C.nd i).svote][j] := by
      rw [hnd]
      match j, hj with
      | 0, _ => rfl
      | 1, _ => rfl
    exact s_at hi (by simp at hj; omega) this
  · rw [Int.toNat_natCast, Nat.zero_add]
    refine cx.bufGet 1 rfl hgs (s_at hi (by decide) ?_)
    rw [hnd]
    rfl
  have hslog : (C1.nd i).slog = (C.nd i).slog := by rw [hnd]
  refine New_use cx (i : Int) (C.nd i).sterm (C.nd i).svote (C.nd i).slog (L.lp i) (L.lc i) (fun M w h => hslog ▸ h.2.log hi) (by omega) (fun h => by rw [hn] at h; cases h) fun _ b p c w cx => ?_
  rw [Int.toNat_natCast] at cx
  obtain ⟨r0, hr0⟩ : ∃ r0, newRep i (C.nd i).sterm (C.nd i).svote (C.nd i).slog = r0 := ⟨_, rfl⟩
  rw [hr0] at cx
  have cx2 : Ctx W w (heads L C1 ++ (repO b r0 p c ++ (repsO L C1 ++ G)) ++ F) (CPhi Φ L C1) := by
    refine cx.perm ?_
    have e1 : (repO b r0 p c ++ ((clO L C1 ++ G) ++ F)).Perm ((repO b r0 p c ++ heads L C1) ++ ((repsO L C1 ++ G) ++ F)) := List.Perm.of_eq (by simp)
    refine e1.trans ((List.Perm.append_right _ List.perm_append_comm).trans (List.Perm.of_eq (by simp)))
  refine ⟨some ⟨b, 0, none⟩, rfl, heads L C1 ++ (repO b r0 p c ++ (repsO L C1 ++ G)), CPhi Φ L C1, inferInstance, cx2, fun w F cx => hsub cx, by omega, ptrK_intro gp 0 hgp fun w F cx => ⟨cx.bufCan 1 rfl hgp (by show _ ≤ 3; rw [Int.toNat_natCast]; omega), fun w' hw' => ?_⟩⟩
  rw [Int.toNat_natCast, Nat.zero_add] at hw'
  have cx3 := cx.bufPuts 1 rfl hgp (show 0 < 3 by decide) (o := i) (vs := [ptrV b]) (by show _ ≤ 3; simp; omega) hw'
  have hset : setL (rCells L) i [ptrV b] = rCells (L.at i b p c) := r_set hi
  -- as a cluster again
  have hsc : startC C i = repC C1 i r0 := by
    rw [← hC1, repC_nd, ← hr0]
    rfl
  have cx4 : Ctx W w' (clO (L.at i b p c) (startC C i) ++ G ++ F) (CPhi Φ (L.at i b p c) (startC C i)) := by
    rw [hsc]
    have hh : heads (L.at i b p c) (repC C1 i r0) = [.blk L.x (xCells L C1) 34, .buf L.rp 3 L.rc (setL (rCells L) i [ptrV b]) 46 1, .buf L.sp 3 L.sc (sCells L C1) 42 4, .buf L.tp C1.sent.length L.tc L.mc 37 9] := by
      rw [hset]
      match i, hi with
      | 0, _ => rfl
      | 1, _ => rfl
      | 2, _ => rfl
    have h1 : Ctx W w' (heads (L.at i b p c) (repC C1 i r0) ++ (repO b r0 p c ++ (repsO L C1 ++ (G ++ F)))) (CPhi Φ L C1) := by
      rw [hh]
      exact cx3.re (by simp)
    have h2 : Ctx W w' (repI L C1 i ++ (heads (L.at i b p c) (repC C1 i r0) ++ (repO b r0 p c ++ (restO L C1 i ++ (G ++ F))))) (CPhi Φ L C1) := by
      refine h1.perm ?_
      have e1 : (repsO L C1 ++ (G ++ F)).Perm (repI L C1 i ++ (restO L C1 i ++ (G ++ F))) := (List.Perm.append_right _ (reps_perm L C1 hi)).trans (List.Perm.of_eq (List.append_assoc _ _ _))
      refine (List.Perm.append_left _ (List.Perm.append_left _ e1)).trans ?_
      have e2 : (heads (L.at i b p c) (repC C1 i r0) ++ (repO b r0 p c ++ (repI L C1 i ++ (restO L C1 i ++ (G ++ F))))).Perm (((heads (L.at i b p c) (repC C1 i r0) ++ repO b r0 p c) ++ repI L C1 i) ++ (restO L C1 i ++ (G ++ F))) := List.Perm.of_eq (by simp)
      refine e2.trans ((List.Perm.append_right _ List.perm_append_comm).trans (List.Perm.of_eq (by simp)))
    have h3 := h2.right
    have h4 : Ctx W w' (clO (L.at i b p c) (repC C1 i r0) ++ (G ++ F)) (CPhi Φ L C1) := by
      refine unfocus hi ?_
      rw [repI_at, rest_at hi]
      refine h3.perm ?_
      have e1 : (heads (L.at i b p c) (repC C1 i r0) ++ (repO b r0 p c ++ (restO L C1 i ++ (G ++ F)))).Perm ((heads (L.at i b p c) (repC C1 i r0) ++ repO b r0 p c) ++ (restO L C1 i ++ (G ++ F))) := List.Perm.of_eq (by simp)
      refine e1.trans ((List.Perm.append_right _ List.perm_append_comm).trans (List.Perm.of_eq (by simp)))
    exact (h4.re (List.append_assoc _ _ _).symm).weak fun M w h => ⟨h.1, (ClS_at hi).2 h.2⟩
  refine ⟨_, CPhi Φ (L.at i b p c) (startC C i), inferInstance, cx4, fun w F cx => ⟨L.rp, 3, L.rc, cx.get 0 rfl rfl, by omega, ptrK_intro gp 0 hgp fun w F cx => ⟨some ⟨b, 0, none⟩, ?_, fun w F cx => hK (L.at i b p c) w rfl cx.left⟩⟩⟩
  rw [Int.toNat_natCast, Nat.zero_add]
  refine cx.bufGet 1 rfl hgp ?_
  have := r_at (L := L.at i b p c) hi
  rw [this]
  simp only [Lay.at, put_self]

end Go.Proofs.Ytifgijoeckoojaa
end

/-
  The cluster: done.
-/
section
set_option linter.unusedVariables false
set_option linter.unusedSimpArgs false
namespace Go.Proofs.Ytifgijoeckoojaa
open Go.Vc

theorem pin_msg {M : List Nat} {w : World} {b o : Nat} {cs : List (List Value)} {l : List MsgR} (h : Pin b o cs l M w) {j : Nat} (hj : j < l.length) : ∃ p c, cs.getD j [] = l[j].cells p c ∧ l[j].recs.length ≤ c ∧ c ≤ maxLen ∧ l[j].Ok := by
  obtain ⟨_, h1, h2⟩ := h j hj
  obtain ⟨p, c, e, g1, g2, g3, _⟩ := msg_cells h2
  exact ⟨p, c, e, g1, g2, g3⟩

theorem pin_msgSl {M : List Nat} {w : World} {b o : Nat} {cs : List (List Value)} {l : List MsgR} (h : Pin b o cs l M w) {j : Nat} (hj : j < l.length) {p : Option Addr} {c : Nat} (e : cs.getD j [] = l[j].cells p c) : Sl M w p l[j].recs := by
  have := (h j hj).2.2
  rw [e] at this
  exact msg_sl this

theorem pin_msgAt {M : List Nat} {w : World} {b o : Nat} {cs : List (List Value)} {l : List MsgR} (h : Pin b o cs l M w) {j : Nat} (hj : j < l.length) {p : Option Addr} {c : Nat} (e : cs.getD j [] = l[j].cells p c) : RowAt w b (o + j * 9) (l[j].cells p c) := by
  have := (h j hj).2.1
  rw [e] at this
  exact this

theorem app_recs {W w : World} {S : List Own} {Φ : PW} [Stable Φ] {p : Option Addr} {cap : Nat} {a b : List RecD} {q : Option Addr} {c2 : Nat} (c : Ctx W w (.buf p a.length cap (recCells a) 55 2 :: S) Φ) (hsl : ∀ M w, Φ M w → Sl M w q b) (hlen : a.length + b.length < 100000000) :
    ∃ p' cap' w', Sem.run Try.prog (builtin Builtin.append #[35, 35] 35 #[false, false] #[.slice p a.length cap, .slice q b.length c2]) w = .ok (.value (.slice p' (a ++ b).length cap')) w' ∧ Ctx W w' (.buf p' (a ++ b).length cap' (recCells (a ++ b)) 55 2 :: S) Φ := by
  rcases Nat.eq_zero_or_pos b.length with h0 | h0
  · have hb : b = [] := List.eq_nil_of_length_eq_zero h0
    subst hb
    rw [List.append_nil]
    obtain ⟨i, z, e1, e2, _⟩ := appB_out (P := Try.prog) (ts := 35) (t := 55) (size := 2) (bytes := 24) (by kernel_rfl)
    exact ⟨p, cap, w, run_app (c.append0 0 rfl e1 e2 q c2), c⟩
  · obtain ⟨p', cap', w', news, hrun, _, cx'⟩ := Ctx.appSl (P := Try.prog) (α := RecD) (ts := 35) (ty := 35) (kb := #[false, false]) (bytes := 24) (c2 := c2) c (by kernel_rfl) rec_one hsl h0 (by omega) (by omega)
    have hnews := (elems_recs cx'.phi.2).1
    subst hnews
    rw [← List.length_append] at hrun cx'
    rw [← recs_app] at cx'
    exact ⟨p', cap', w', hrun, cx'.fst⟩

theorem s_set2 {L : Lay} {C : Cl} {i : Nat} {a b : Value} {n : Node} (hi : i < 3) (hn : nodeS n (L.lp i) (L.lc i) = [a, b, .slice (L.lp i) (C.nd i).slog.length (L.lc i), .int .i64 (C.nd i).stop]) : setL (sCells L C) (i * 4) [a, b] = sCells L (ndC C i n) := by
  match i, hi with
  | 0, _ =>
    simp only [sCells, ndC, put_self, put_ne C.nd n (show (1 : Nat) ≠ 0 by decide), put_ne C.nd n (show (2 : Nat) ≠ 0 by decide), hn]
    rfl
  | 1, _ =>
    simp only [sCells, ndC, put_self, put_ne C.nd n (show (0 : Nat) ≠ 1 by decide), put_ne C.nd n (show (2 : Nat) ≠ 1 by decide), hn]
    rfl
  | 2, _ =>
    simp only [sCells, ndC, put_self, put_ne C.nd n (show (0 : Nat) ≠ 2 by decide), put_ne C.nd n (show (1 : Nat) ≠ 2 by decide), hn]
    rfl

/-- the entries that node i has stored are others -/
def Lay.logAt (L : Lay) (i : Nat) (p : Option Addr) (c : Nat) : Lay := { L with lp := put L.lp i p, lc := put L.lc i c }

theorem s_setLog {L : Lay} {C : Cl} {i : Nat} {p : Option Addr} {c : Nat} {l : List RecD} (hi : i < 3) : setL (sCells L C) (i * 4 + 2) [.slice p l.length c] = sCells (L.logAt i p c) (ndC C i { C.nd i with slog := l }) := by
  match i, hi with
  | 0, _ => rfl
  | 1, _ => rfl
  | 2, _ => rfl

theorem ClS_log {L : Lay} {C : Cl} {i : Nat} {p : Option Addr} {c : Nat} {l : List RecD} (hi : i < 3) {M : List Nat} {w : World} (h : ClS L C M w) (hl : LogS M w p c l) : ClS (L.logAt i p c) (ndC C i { C.nd i with slog := l }) M w := by
  obtain ⟨h0, h1, h2, h3⟩ := h
  match i, hi with
  | 0, _ => exact ⟨h0, hl, h2, h3⟩
  | 1, _ => exact ⟨h0, h1, hl, h3⟩
  | 2, _ => exact ⟨h0, h1, h2, hl⟩

theorem reps_log {L : Lay} {C : Cl} {i : Nat} {p : Option Addr} {c : Nat} {l : List RecD} (hi : i < 3) : repsO (L.logAt i p c) (ndC C i { C.nd i with slog := l }) = repsO L C := by
  match i, hi with
  | 0, _ => rfl
  | 1, _ => rfl
  | 2, _ => rfl

theorem ndC_ndC {C : Cl} {i : Nat} {n n' : Node} : ndC (ndC C i n) i n' = ndC C i n' := by unfold ndC; simp only [put_put]
theorem ndC_id {C : Cl} {i : Nat} : ndC C i (C.nd i) = C := by unfold ndC; rw [put_id]
theorem ndC_at {C : Cl} {i : Nat} {n : Node} : (ndC C i n).nd i = n := put_self _ _ _

theorem rec0 (p : Option Addr) (c : Nat) : subPtr p 2 0 c = p := by
  unfold subPtr
  split
  · rfl
  · cases p with
    | none => rfl
    | some a => simp [Addr.add]

/-- one more message -/
def Lay.sentAt (L : Lay) (p : Option Addr) (c : Nat) (mc : List Value) : Lay := { L with tp := p, tc := c, mc := mc }

set_option maxHeartbeats 4000000 in
theorem done_use {W w : World} {L : Lay} {C : Cl} {G : List Own} {Φ : PW} [Stable Φ] (cx : Ctx W w (clO L C ++ G) (CPhi Φ L C)) {i : Nat} (hi : i < 3) (o : OutR) (q1 : Option Addr) (c1 : Nat) (q2 : Option Addr) (c2 : Nat) (hrecs : ∀ M w, Φ M w → Sl M w q1 o.recs) (hsend : ∀ M w, Φ M w → Sl M w q2 o.send)
    (hrl : o.recs.length ≤ 100000) (hsl : o.send.length ≤ 100000) (h300 : C.sent.length ≤ 300) (hsrc : o.src ≤ 100000) (hll : (C.nd i).slog.length ≤ 4000)
    (hn1 : (C.nd i).stop = 1 → newB i (C.nd i).sterm (C.nd i).svote (C.nd i).slog = true) (hn2 : (C.nd i).stop = 2 → newB i (keepN (saveN (C.nd i) o) o).sterm (keepN (saveN (C.nd i) o) o).svote (keepN (saveN (C.nd i) o) o).slog = true) {K : Ending → World → Prop}
    (hK : ∀ L' w', L'.x = L.x → Ctx W w' (clO L' (doneC C i o) ++ G) (CPhi Φ L' (doneC C i o)) → K (.returned (.bool true)) w') : Calls Try.prog F.erratalaw08_cluster_done #[.pointer (some ⟨L.x, 0, none⟩), .int .i64 i, outV o q1 c1 q2 c2] w K := by
  obtain ⟨⟨gs, hgs⟩, gp, hgp⟩ := lay_at cx
  obtain ⟨pb, po, pcs, hpp, cxp⟩ := cx.pin (hsend _ _ cx.phi.1)
  have hpcs : ∀ j, (hj : j < o.send.length) → ∃ p c, pcs.getD j [] = o.send[j].cells p c ∧ o.send[j].recs.length ≤ c ∧ c ≤ maxLen ∧ o.send[j].Ok := fun j hj => pin_msg cxp.phi.2 hj
  obtain ⟨Φ2, hΦ2⟩ : ∃ Φ2 : PW, (fun M w => Φ M w ∧ Pin pb po pcs o.send M w) = Φ2 := ⟨_, rfl⟩
  have hst2 : Stable Φ2 := by rw [← hΦ2]; infer_instance
  have hΦ21 : ∀ M w, Φ2 M w → Φ M w := fun M w h => by rw [← hΦ2] at h; exact h.1
  have hΦ22 : ∀ M w, Φ2 M w → Pin pb po pcs o.send M w := fun M w h => by rw [← hΦ2] at h; exact h.2
  have cx0 : Ctx W w (clO L C ++ G) (CPhi Φ2 L C) := cxp.weak fun M w h => ⟨by rw [← hΦ2]; exact ⟨h.1.1, h.2⟩, h.1.2⟩
  have hK' : ∀ L' w', L'.x = L.x → Ctx W w' (clO L' (doneC C i o) ++ G) (CPhi Φ2 L' (doneC C i o)) → K (.returned (.bool true)) w' := fun L' w' hx c => hK L' w' hx (c.weak fun M w h => ⟨hΦ21 M w h.1, h.2⟩)
  have hcap : (C.nd i).slog.length ≤ L.lc i := (cx.phi.2.logs hi).1
  clear cx cxp hK
  refine (Berratalaw08_cluster_done_run L.x 0 i o.save o.term o.vote o.src q1 o.recs.length c1 q2 o.send.length c2 (J := fun u w' => K (.returned u) w') cx0 ?_).mono fun e w' ⟨v, he, hj⟩ => by rw [he]; exact hj
  refine fun _ w F cx => ⟨L.sp, 3, L.sc, cx.get 0 rfl rfl, by omega, ptrK_intro gs 0 hgs fun w F cx => ⟨(C.nd i).stop, by rw [Int.toNat_natCast, Nat.zero_add]; exact cx.bufGet 2 rfl hgs (s_at hi (by decide) rfl), Br.intro (fun h1 => fun w F cx => ?_) (fun h1 => ?_)⟩⟩
  · have h1 := of_decide_eq_true h1
    refine start_use (gl cx) hi (hn1 h1) fun L' w hx cx => ⟨true, rfl, clO L' (startC C i) ++ G, CPhi Φ2 L' (startC C i), inferInstance, gr cx, fun w F cx => ?_⟩
    have hd : doneC C i o = startC C i := by unfold doneC; rw [if_pos h1]
    exact hK' L' w hx (by rw [hd]; exact cx.left)
  have h1 := of_decide_eq_false h1
  refine exI_mk (fun R' Φ' => R' = clO L (ndC C i (saveN (C.nd i) o)) ++ G ∧ Φ' = CPhi Φ2 L (ndC C i (saveN (C.nd i) o))) ⟨Br.intro (fun hs => fun w F cx => ⟨L.sp, 3, L.sc, cx.get 0 rfl rfl, by omega, ptrK_intro gs 0 hgs fun w F cx => ⟨cx.bufCan 2 rfl hgs (by show _ ≤ 12; rw [Int.toNat_natCast]; omega), fun w' hw' => ?_⟩⟩) (fun hs => ?_), ?_⟩
  · rw [Int.toNat_natCast, Nat.zero_add] at hw'
    have hsv : saveN (C.nd i) o = { C.nd i with sterm := o.term, svote := o.vote } := by unfold saveN; rw [if_pos hs]
    have cx1 := cx.bufPuts 2 rfl hgs (show 0 < 12 by decide) (o := i * 4) (vs := [.int .i64 o.term, .int .i64 o.vote]) (by show _ ≤ 12; simp; omega) hw'
    have hset : setL (sCells L C) (i * 4) [.int .i64 o.term, .int .i64 o.vote] = sCells L (ndC C i (saveN (C.nd i) o)) := s_set2 hi (by rw [hsv])
    have cx2 : Ctx W w' (clO L (ndC C i (saveN (C.nd i) o)) ++ G ++ F) (CPhi Φ2 L (ndC C i (saveN (C.nd i) o))) := by
      have e : heads L (ndC C i (saveN (C.nd i) o)) = [.blk L.x (xCells L C) 34, .buf L.rp 3 L.rc (rCells L) 46 1, .buf L.sp 3 L.sc (setL (sCells L C) (i * 4) [.int .i64 o.term, .int .i64 o.vote]) 42 4, .buf L.tp C.sent.length L.tc L.mc 37 9] := by rw [hset]; rfl
      show Ctx W w' ((heads L (ndC C i (saveN (C.nd i) o)) ++ repsO L (ndC C i (saveN (C.nd i) o))) ++ G ++ F) _
      rw [reps_nd hi (by rw [hsv]), e]
      exact cx1.weak fun M w h => ⟨h.1, (ClS_nd hi (by rw [hsv])).2 h.2⟩
    exact ⟨_, CPhi Φ2 L (ndC C i (saveN (C.nd i) o)), inferInstance, cx2, _, CPhi Φ2 L (ndC C i (saveN (C.nd i) o)), inferInstance, fun w F cx => cx, rfl, rfl⟩
  · have hsv : saveN (C.nd i) o = C.nd i := by unfold saveN; rw [if_neg (by rw [hs]; simp)]
    rw [hsv, ndC_id]
    exact ⟨_, CPhi Φ2 L C, inferInstance, fun w F cx => cx, rfl, rfl⟩
  rintro R1 Φ1 _ ⟨rfl, rfl⟩
  obtain ⟨n1, hn1e⟩ : ∃ n1, saveN (C.nd i) o = n1 := ⟨_, rfl⟩
  have hn1l : n1.slog = (C.nd i).slog := by rw [← hn1e]; unfold saveN; split <;> rfl
  have hn1s : n1.stop = (C.nd i).stop := by rw [← hn1e]; unfold saveN; split <;> rfl
  rw [hn1e] at hn2 ⊢
  obtain ⟨n2, hn2e⟩ : ∃ n2, keepN n1 o = n2 := ⟨_, rfl⟩
  have hn2s : n2.stop = (C.nd i).stop := by rw [← hn2e]; unfold keepN; split; exact hn1s; exact hn1s
  rw [hn2e] at hn2
  refine exI_mk (fun R' Φ' => ∃ L2 : Lay, L2.x = L.x ∧ R' = clO L2 (ndC C i n2) ++ G ∧ Φ' = CPhi Φ2 L2 (ndC C i n2)) ⟨Br.intro (fun hs => ?_) (fun hs => ?_), ?_⟩
  · -- the entries are replaced
    have hs := of_decide_eq_true hs
    obtain ⟨nn, hnn⟩ : ∃ nn : Nat, (min (o.src - 1) (n1.slog.length : Int)).toNat = nn := ⟨_, rfl⟩
    have hnl : nn ≤ n1.slog.length := by omega
    have hk2 : n2 = { n1 with slog := n1.slog.take nn ++ o.recs } := by rw [← hn2e]; unfold keepN; rw [if_pos hs, hnn]
    have hat : (ndC C i n1).nd i = n1 := ndC_at
    have hsub0 : ∀ {w : World} {F : List Own} {Ψ : PW} [Stable Ψ], Ctx W w (clO L (ndC C i n1) ++ G ++ F) Ψ → Ctx W w ([.blk L.x (xCells L C) 34, .buf L.sp 3 L.sc (sCells L (ndC C i n1)) 42 4] ++ F) (fun _ _ => True) := fun {w F Ψ} _ cx => by
      have h1 : Ctx W w (heads L (ndC C i n1) ++ (repsO L (ndC C i n1) ++ G ++ F)) Ψ := cx.re (by simp)
      exact (h1.weak fun _ _ _ => trivial).sub (List.Sublist.cons_cons _ (List.Sublist.cons _ (List.Sublist.cons_cons _ (List.Sublist.cons _ (List.sublist_append_right _ _)))))
    have hsub1 : ∀ {w : World} {F : List Own} {o1 : Own} {Ψ : PW} [Stable Ψ], Ctx W w (o1 :: (clO L (ndC C i n1) ++ G) ++ F) Ψ → Ctx W w ([.blk L.x (xCells L C) 34, .buf L.sp 3 L.sc (sCells L (ndC C i n1)) 42 4] ++ F) (fun _ _ => True) := fun cx => hsub0 cx.drop1
    refine ⟨[.blk L.x (xCells L C) 34, .buf L.sp 3 L.sc (sCells L (ndC C i n1)) 42 4], fun _ _ => True, inferInstance, fun w F cx => hsub0 cx, by unfold I64; omega, L.sp, 3, L.sc, fun w F cx => ⟨L.sp, 3, L.sc, cx.get 0 rfl rfl, rfl⟩, L.sp, 3, L.sc, fun w F cx => ⟨L.sp, 3, L.sc, cx.get 0 rfl rfl, rfl⟩, L.sp, 3, L.sc, fun w F cx => ⟨L.sp, 3, L.sc, cx.get 0 rfl rfl, rfl⟩, by omega, ptrK_intro gs 0 hgs ⟨by omega, ptrK_intro gs 0 hgs ?_⟩⟩
    have hrd : ∀ {w : World} {F : List Own}, Ctx W w ([.blk L.x (xCells L C) 34, .buf L.sp 3 L.sc (sCells L (ndC C i n1)) 42 4] ++ F) (fun _ _ => True) → w.cell? ⟨gs, 0 + (i : Int).toNat * 4 + 2, none⟩ = some (.slice (L.lp i) n1.slog.length (L.lc i)) := fun cx => by
      rw [Int.toNat_natCast, Nat.zero_add]
      refine cx.bufGet 1 rfl hgs (s_at hi (by decide) ?_)
      rw [hat]; rfl
    refine ⟨L.lp i, n1.slog.length, L.lc i, fun w F cx => ⟨_, _, _, hrd cx, rfl⟩, L.lp i, n1.slog.length, L.lc i, fun w F cx => ⟨_, _, _, hrd cx, rfl⟩, ?_, fun k => ⟨fun w F cx => hsub1 cx, fun w F cx => ?_⟩⟩
    · rw [← hn1l] at hcap
      omega
    rw [hnn, rec0]
    obtain ⟨p1, cap1, w1, cs1, hrun1, cx1⟩ := Ctx.cloned (P := Try.prog) (α := RecD) (l := n1.slog.take nn) (ts := 35) (ty := 35) (kb := #[false, false]) (bytes := 24) (c2 := L.lc i) cx (by kernel_rfl) rec_one (fun M w h => Sl.take (by have := h.2.log hi; rw [hat] at this; exact this) nn) (by rw [List.length_take]; omega) (by omega)
    obtain ⟨hcs1, _⟩ := elems_recs cx1.phi.2
    subst hcs1
    have htl : (n1.slog.take nn).length = nn := by rw [List.length_take]; omega
    rw [htl] at hrun1
    refine ⟨p1, nn, cap1, w1, hrun1, .buf p1 (n1.slog.take nn).length cap1 (recCells (n1.slog.take nn)) 55 2 :: (clO L (ndC C i n1) ++ G), CPhi Φ2 L (ndC C i n1), inferInstance, cx1.fst, fun w F cx => hsub1 cx, fun w F cx => ?_⟩
    obtain ⟨p2, cap2, w2, hrun2, cx2⟩ := app_recs (c2 := c1) cx (fun M w h => hrecs M w (hΦ21 M w h.1)) (by rw [htl]; omega)
    rw [htl] at hrun2
    refine ⟨p2, _, cap2, w2, hrun2, .buf p2 (n1.slog.take nn ++ o.recs).length cap2 (recCells (n1.slog.take nn ++ o.recs)) 55 2 :: (clO L (ndC C i n1) ++ G), CPhi Φ2 L (ndC C i n1), inferInstance, cx2, fun w F cx => hsub1 cx, by omega, ptrK_intro gs 0 hgs fun w F cx => ⟨cx.bufCan 3 rfl hgs (by show _ ≤ 12; rw [Int.toNat_natCast]; omega), fun w' hw' => ?_⟩⟩
    rw [Int.toNat_natCast, Nat.zero_add] at hw'
    have cx3 := cx.bufPuts 3 rfl hgs (show 0 < 12 by decide) (o := i * 4 + 2) (vs := [.slice p2 (n1.slog.take nn ++ o.recs).length cap2]) (by show _ ≤ 12; simp; omega) hw'
    have hset := s_setLog (L := L) (C := ndC C i n1) (i := i) (p := p2) (c := cap2) (l := n1.slog.take nn ++ o.recs) hi
    have hC2 : ndC C i n2 = ndC (ndC C i n1) i { (ndC C i n1).nd i with slog := n1.slog.take nn ++ o.recs } := by rw [ndC_ndC, hat, hk2]
    have cx4 : Ctx W w' (.buf p2 (n1.slog.take nn ++ o.recs).length cap2 (recCells (n1.slog.take nn ++ o.recs)) 55 2 :: (clO (L.logAt i p2 cap2) (ndC C i n2) ++ G ++ F)) (CPhi Φ2 L (ndC C i n1)) := by
      have e : heads (L.logAt i p2 cap2) (ndC C i n2) = [.blk L.x (xCells L (ndC C i n1)) 34, .buf L.rp 3 L.rc (rCells L) 46 1, .buf L.sp 3 L.sc (setL (sCells L (ndC C i n1)) (i * 4 + 2) [.slice p2 (n1.slog.take nn ++ o.recs).length cap2]) 42 4, .buf L.tp C.sent.length L.tc L.mc 37 9] := by rw [hset, ← hC2]; rfl
      have e2 : repsO (L.logAt i p2 cap2) (ndC C i n2) = repsO L (ndC C i n1) := by rw [hC2]; exact reps_log hi
      show Ctx W w' (.buf p2 (n1.slog.take nn ++ o.recs).length cap2 (recCells (n1.slog.take nn ++ o.recs)) 55 2 :: ((heads (L.logAt i p2 cap2) (ndC C i n2) ++ repsO (L.logAt i p2 cap2) (ndC C i n2)) ++ G ++ F)) _
      rw [e, e2]
      exact cx3
    have hok : ∀ x ∈ n1.slog.take nn ++ o.recs, x.Ok := fun x hx => by
      rcases List.mem_append.1 hx with hx | hx
      · have := cx4.phi.2.log hi
        rw [hat] at this
        exact sl_recOk this x (List.mem_of_mem_take hx)
      · exact sl_recOk (hrecs _ _ (hΦ21 _ _ cx4.phi.1)) x hx
    obtain ⟨cx5, hs5, _, hcap5, _⟩ := Ctx.freeze (α := RecD) cx4 (recs_elems hok)
    have cx6 : Ctx W w' (clO (L.logAt i p2 cap2) (ndC C i n2) ++ G ++ F) (CPhi Φ2 (L.logAt i p2 cap2) (ndC C i n2)) := (cx5.add (Ψ := fun M w => Sl M w p2 (n1.slog.take nn ++ o.recs)) hs5).weak fun M w h => ⟨h.1.1, by rw [hC2]; exact ClS_log hi h.1.2 ⟨hcap5, h.2⟩⟩
    exact ⟨_, CPhi Φ2 (L.logAt i p2 cap2) (ndC C i n2), inferInstance, cx6, _, CPhi Φ2 (L.logAt i p2 cap2) (ndC C i n2), inferInstance, fun w F cx => cx, L.logAt i p2 cap2, rfl, rfl, rfl⟩
  · have hk2 : n2 = n1 := by rw [← hn2e]; unfold keepN; rw [if_neg (of_decide_eq_false hs)]
    rw [hk2]
    exact ⟨_, CPhi Φ2 L (ndC C i n1), inferInstance, fun w F cx => cx, L, rfl, rfl, rfl⟩
  rintro R1 Φ1 _ ⟨L2, hx2, rfl, rfl⟩ w F cx
  have hat : (ndC C i n2).nd i = n2 := ndC_at
  have hdone : ¬ (C.nd i).stop = 2 → doneC C i o = { ndC C i n2 with sent := C.sent ++ o.send.take (300 - C.sent.length) } := fun h => by
    unfold doneC; rw [if_neg h1]; simp only; rw [if_neg h, hn1e, hn2e]; rfl
  have hdone2 : (C.nd i).stop = 2 → doneC C i o = startC (ndC C i n2) i := fun h => by
    unfold doneC; rw [if_neg h1]; simp only; rw [if_pos h, hn1e, hn2e]; rfl
  rw [← hx2]
  obtain ⟨⟨gs2, hgs2⟩, _⟩ := lay_at (gl cx)
  refine ⟨L2.sp, 3, L2.sc, cx.get 0 rfl rfl, by omega, ptrK_intro gs2 0 hgs2 fun w F cx => ⟨(C.nd i).stop, ?_, Br.intro (fun h2 => fun w F cx => ?_) (fun h2 => ?_)⟩⟩
  · rw [Int.toNat_natCast, Nat.zero_add]
    refine cx.bufGet 2 rfl hgs2 (s_at hi (by decide) ?_)
    rw [hat, ← hn2s]
    rfl
  · have h2 := of_decide_eq_true h2
    refine start_use (gl cx) hi (by rw [hat]; exact hn2 h2) fun L' w hx cx => ⟨true, rfl, clO L' (startC (ndC C i n2) i) ++ G, CPhi Φ2 L' (startC (ndC C i n2) i), inferInstance, gr cx, fun w F cx => ?_⟩
    exact hK' L' w (by rw [hx, hx2]) (by rw [hdone2 h2]; exact cx.left)
  have h2 := of_decide_eq_false h2
  refine exI_mk (fun jI R' Φ' kk => ∃ (j : Nat) (L3 : Lay), jI = j ∧ j ≤ o.send.length ∧ C.sent.length + j ≤ 300 ∧ L3.x = L2.x ∧ R' = clO L3 { ndC C i n2 with sent := C.sent ++ o.send.take j } ++ G ∧ Φ' = CPhi Φ2 L3 { ndC C i n2 with sent := C.sent ++ o.send.take j } ∧ kk = o.send.length - j)
    ⟨⟨clO L2 { ndC C i n2 with sent := C.sent ++ o.send.take 0 } ++ G, CPhi Φ2 L2 { ndC C i n2 with sent := C.sent ++ o.send.take 0 }, _, inferInstance, fun w F cx => by rw [List.take_zero, List.append_nil]; exact cx, 0, L2, rfl, Nat.zero_le _, by omega, rfl, rfl, rfl, rfl⟩, ?_⟩
  rintro jI R1 Φ1 kk _ ⟨j, L3, rfl, hj, hj3, hx3, rfl, rfl, rfl⟩ w F cx
  obtain ⟨C3, hC3⟩ : ∃ C3 : Cl, ({ ndC C i n2 with sent := C.sent ++ o.send.take j } : Cl) = C3 := ⟨_, rfl⟩
  have hs3 : C3.sent = C.sent ++ o.send.take j := by rw [← hC3]
  have hs3l : C3.sent.length = C.sent.length + j := by rw [hs3, List.length_append, List.length_take]; omega
  rw [hC3] at cx ⊢
  rw [← hx3]
  refine ⟨L3.tp, C3.sent.length, L3.tc, fun _ => cx.get 0 rfl rfl, Br.intro (fun hb => ?_) (fun hb => fun w F cx => ?_)⟩
  · simp only [Bool.and_eq_true, decide_eq_true_eq] at hb
    have hjl : j < o.send.length := by omega
    obtain ⟨mp, mcap, hme, hm1, hm2, hmo⟩ := hpcs j hjl
    have hpp' := hpp (by omega)
    generalize hmj : o.send[j] = m at hme hm1 hmo
    have hsubX : ∀ {w : World} {F A : List Own} {o1 : Own} {Ψ : PW} [Stable Ψ], Ctx W w (o1 :: .blk L3.x (xCells L3 C3) 34 :: A ++ F) Ψ → Ctx W w ([.blk L3.x (xCells L3 C3) 34] ++ F) Ψ := fun cx => cx.sub (List.Sublist.cons _ (List.Sublist.cons_cons _ (List.sublist_append_right _ _)))
    have hrow : ∀ {M : List Nat} {w : World}, CPhi Φ2 L3 C3 M w → RowAt w pb (po + j * 9) (m.cells mp mcap) := fun {M w} h => pin_msgAt (l := o.send) (hΦ22 _ _ h.1) hjl (by rw [hmj]; exact hme) |> fun h => by rw [hmj] at h; exact h
    have hmsl : ∀ {M : List Nat} {w : World}, CPhi Φ2 L3 C3 M w → Sl M w mp m.recs := fun {M w} h => pin_msgSl (l := o.send) (hΦ22 _ _ h.1) hjl (by rw [hmj]; exact hme) |> fun h => by rw [hmj] at h; exact h
    refine ⟨[.blk L3.x (xCells L3 C3) 34], CPhi Φ2 L3 C3, inferInstance, fun w F cx => cx.sub (List.Sublist.cons_cons _ (List.sublist_append_right _ _)), by omega, ptrK_intro pb po hpp' ⟨L3.tp, C3.sent.length, L3.tc, fun w F cx => ⟨L3.tp, C3.sent.length, L3.tc, cx.get 0 rfl rfl, rfl⟩, m.kind, m.src, m.to, m.term, m.index, m.prev, m.commit, m.yes, mp, m.recs.length, mcap, fun w F cx => ⟨m.kind, m.src, m.to, m.term, m.index, m.prev, m.commit, m.yes, mp, m.recs.length, mcap, by rw [Int.toNat_natCast]; exact hrow cx.phi, rfl⟩, fun k => ⟨fun w F cx => ?_, fun w F cx => ?_⟩⟩⟩
    · exact cx.sub (List.Sublist.cons _ (List.Sublist.cons_cons _ (List.sublist_append_right _ _)))
    have cx1 : Ctx W w (.blk k (m.cells mp mcap) 37 :: .buf L3.tp C3.sent.length L3.tc L3.mc 37 9 :: ([.blk L3.x (xCells L3 C3) 34, .buf L3.rp 3 L3.rc (rCells L3) 46 1, .buf L3.sp 3 L3.sc (sCells L3 C3) 42 4] ++ (repsO L3 C3 ++ G ++ F))) (CPhi Φ2 L3 C3) :=
      cx.perm (List.Perm.cons _ (List.perm_middle (l₁ := [Own.blk L3.x (xCells L3 C3) 34, Own.buf L3.rp 3 L3.rc (rCells L3) 46 1, Own.buf L3.sp 3 L3.sc (sCells L3 C3) 42 4])))
    obtain ⟨p', cap', w', hrun, _, cx'⟩ := Ctx.app1 (P := Try.prog) (ts := 27) (ty := 27) (kb := #[false, false]) (size := 9) (bytes := 88) cx1 (by kernel_rfl) (by omega) rfl rfl (by omega) (by omega)
    refine ⟨p', C3.sent.length + 1, cap', w', hrun, .buf p' (C3.sent.length + 1) cap' (L3.mc ++ m.cells mp mcap) 37 9 :: .blk L3.x (xCells L3 C3) 34 :: (.buf L3.rp 3 L3.rc (rCells L3) 46 1 :: .buf L3.sp 3 L3.sc (sCells L3 C3) 42 4 :: (repsO L3 C3 ++ G)), CPhi Φ2 L3 C3, inferInstance, cx', fun w F cx => hsubX cx, fun w F cx => ⟨cx.can 1 rfl (by simp), fun w' hw' => ?_⟩⟩
    have cx2 := cx.put 1 hw' rfl
    obtain ⟨C4, hC4⟩ : ∃ C4 : Cl, ({ ndC C i n2 with sent := C.sent ++ o.send.take (j + 1) } : Cl) = C4 := ⟨_, rfl⟩
    have hs4 : C4.sent = C3.sent ++ [m] := by rw [← hC4, hs3, List.append_assoc, List.take_succ_eq_append_getElem hjl, hmj]
    have hn4 : C4.nd = C3.nd := by rw [← hC4, ← hC3]
    have hl4 : C4.sent.length = C3.sent.length + 1 := by rw [hs4]; simp
    have cx3 : Ctx W w' (clO (L3.sentAt p' cap' (L3.mc ++ m.cells mp mcap)) C4 ++ G ++ F) (CPhi Φ2 (L3.sentAt p' cap' (L3.mc ++ m.cells mp mcap)) C4) := by
      have e1 : heads (L3.sentAt p' cap' (L3.mc ++ m.cells mp mcap)) C4 = [.blk L3.x [.slice L3.rp 3 L3.rc, .slice L3.sp 3 L3.sc, .slice p' (C3.sent.length + 1) cap'] 34, .buf L3.rp 3 L3.rc (rCells L3) 46 1, .buf L3.sp 3 L3.sc (sCells L3 C3) 42 4, .buf p' (C3.sent.length + 1) cap' (L3.mc ++ m.cells mp mcap) 37 9] := by
        simp only [heads, xCells, sCells, hl4, hn4, Lay.sentAt]
      have e2 : repsO (L3.sentAt p' cap' (L3.mc ++ m.cells mp mcap)) C4 = repsO L3 C3 := by
        simp only [repsO, repI, hn4, Lay.sentAt]
      show Ctx W w' ((heads (L3.sentAt p' cap' (L3.mc ++ m.cells mp mcap)) C4 ++ repsO (L3.sentAt p' cap' (L3.mc ++ m.cells mp mcap)) C4) ++ G ++ F) _
      rw [e1, e2]
      have cx4 : Ctx W w' ([.blk L3.x [.slice L3.rp 3 L3.rc, .slice L3.sp 3 L3.sc, .slice p' (C3.sent.length + 1) cap'] 34, .buf L3.rp 3 L3.rc (rCells L3) 46 1, .buf L3.sp 3 L3.sc (sCells L3 C3) 42 4] ++ .buf p' (C3.sent.length + 1) cap' (L3.mc ++ m.cells mp mcap) 37 9 :: (repsO L3 C3 ++ G ++ F)) (CPhi Φ2 L3 C3) := mid (Q := [.blk L3.x [.slice L3.rp 3 L3.rc, .slice L3.sp 3 L3.sc, .slice p' (C3.sent.length + 1) cap'] 34, .buf L3.rp 3 L3.rc (rCells L3) 46 1, .buf L3.sp 3 L3.sc (sCells L3 C3) 42 4]) cx2
      refine cx4.weak fun M w h => ⟨h.1, ?_, ?_⟩
      · show Elems M w (L3.mc ++ m.cells mp mcap) C4.sent
        rw [hs4]
        exact h.2.1.snoc (rep_msg hmo hm1 hm2 (hmsl h))
      · show LogS M w (L3.lp 0) (L3.lc 0) (C4.nd 0).slog ∧ LogS M w (L3.lp 1) (L3.lc 1) (C4.nd 1).slog ∧ LogS M w (L3.lp 2) (L3.lc 2) (C4.nd 2).slog
        rw [hn4]
        exact h.2.2
    exact ⟨_, CPhi Φ2 (L3.sentAt p' cap' (L3.mc ++ m.cells mp mcap)) C4, inferInstance, cx3, by unfold I64; omega, _, CPhi Φ2 (L3.sentAt p' cap' (L3.mc ++ m.cells mp mcap)) C4, o.send.length - (j + 1), inferInstance, fun w F cx => cx, ⟨j + 1, L3.sentAt p' cap' (L3.mc ++ m.cells mp mcap), rfl, hjl, by omega, rfl, by rw [hC4], by rw [hC4], rfl⟩, by omega⟩
  · have hfin : o.send.take j = o.send.take (300 - C.sent.length) := by
      simp only [Bool.and_eq_false_iff, decide_eq_false_iff_not] at hb
      rcases hb with hb | hb
      · rw [List.take_of_length_le (by omega), List.take_of_length_le (by omega)]
      · rw [show j = 300 - C.sent.length by omega]
    have hd : doneC C i o = C3 := by rw [hdone h2, ← hC3, hfin]
    exact hK' L3 w (by rw [hx3, hx2]) (by rw [hd]; exact cx.left)

end Go.Proofs.Ytifgijoeckoojaa
end

/-
  The cluster: a call of a replica and what is done after it; in plain Lean, and walked.
-/
section
set_option linter.unusedVariables false
set_option linter.unusedSimpArgs false
namespace Go.Proofs.Ytifgijoeckoojaa
open Go.Vc

/-! ### results are short -/
structure Small (o : OutR) : Prop where
  recs : o.recs.length ≤ 4000
  src : o.src ≤ 4001
  send : o.send.length ≤ 2

theorem small0 : Small out0 := ⟨by simp, by simp, by simp⟩
theorem smallS {l : List MsgR} (h : l.length ≤ 2) : Small (outS l) := ⟨by simp, by simp, h⟩
theorem all_len (r : Rep) : (allOf r).length ≤ 2 := by unfold allOf; rw [List.length_map, others_len]; exact Nat.le_refl _

theorem tick_small (r : Rep) : Small (tickP r).2 := by
  unfold tickP
  split
  · exact smallS (all_len r)
  split
  · exact small0
  · exact ⟨by simp, by simp, by simp [others_len]⟩

theorem vote_small (r : Rep) (m : MsgR) : Small (voteP r m).2 := by
  unfold voteP
  split
  · exact smallS (by simp)
  · exact smallS (by simp)

theorem voted_small (r : Rep) (m : MsgR) : Small (votedP r m).2 := by
  unfold votedP
  split
  · exact small0
  · simp only
    split
    · exact small0
    · exact smallS (all_len _)

theorem append_small (r : Rep) {m : MsgR} (h1 : m.recs.length ≤ 8) (h2 : m.index + m.recs.length ≤ 4000) (h3 : 0 ≤ m.index) : Small (appendP r m).2 := by
  unfold appendP
  split
  · exact smallS (by simp)
  split
  · exact small0
  simp only
  split
  · exact smallS (by simp)
  split
  · rename_i hk
    split
    · exact small0
    · exact ⟨by simp; omega, by simp only; omega, by simp⟩
  · exact smallS (by simp)

theorem appended_small (r : Rep) (m : MsgR) : Small (appendedP r m).2 := by
  unfold appendedP
  split
  · exact small0
  simp only
  split
  · exact smallS (by simp)
  split
  · exact smallS (by simp)
  · exact small0

theorem fin_small {r : Rep} {x : Rep × OutR} (h : Small x.2) : Small (finO r x).2 := by
  unfold finO
  split
  · exact h
  · exact ⟨h.recs, h.src, h.send⟩

theorem hear_small (r : Rep) (m : MsgR) : Small (hearP r m).2 := by
  cases hy : rightP r.id m with
  | false => rw [hear_no hy]; exact small0
  | true =>
    have hm := right_iff.1 hy
    rw [hear_yes hy]
    refine fin_small ?_
    unfold hearX
    split
    · exact vote_small _ m
    split
    · exact voted_small _ m
    split
    · exact append_small _ hm.len hm.fits hm.index.1
    · exact appended_small _ m

theorem propose_small {r : Rep} (h : r.log.length ≤ 4000) (data : ByteArray) : Small (proposeP r data).2.2.2 := by
  unfold proposeP
  split
  · exact small0
  split
  · exact small0
  split
  · exact small0
  · exact ⟨by simp, by simp only; omega, all_len _⟩

/-! ### a cluster that may be found -/
structure Cl.Wf (C : Cl) : Prop where
  rep : ∀ i, i < 3 → (C.nd i).rep.Wf ∧ (C.nd i).rep.id = i
  hard : ∀ i, i < 3 → (C.nd i).sterm = (C.nd i).rep.term ∧ (C.nd i).svote = (C.nd i).rep.vote ∧ (C.nd i).slog = (C.nd i).rep.log
  stop : ∀ i, i < 3 → (C.nd i).stop = 0 ∨ (C.nd i).stop = 1 ∨ (C.nd i).stop = 2
  sent : C.sent.length ≤ 300

/-- node i is another replica, and that is stored -/
def hardN (n : Node) (r : Rep) : Node := ⟨r, r.term, r.vote, r.log, n.stop⟩
def hardC (C : Cl) (i : Nat) (r : Rep) : Cl := { C with nd := put C.nd i (hardN (C.nd i) r) }
/-- a call of node i has given x -/
def callC (C : Cl) (i : Nat) (x : Rep × OutR) : Cl := doneC (repC C i x.1) i x.2

theorem keep_fits {n : Node} {r : Rep} {o : OutR} (h1 : n.sterm = n.rep.term) (h2 : n.svote = n.rep.vote) (h3 : n.slog = n.rep.log) (hf : Fits n.rep r o) : keepN (saveN { n with rep := r } o) o = hardN n r := by
  have hs : saveN { n with rep := r } o = ⟨r, r.term, r.vote, n.slog, n.stop⟩ := by
    unfold saveN
    cases hsv : o.save with
    | true => obtain ⟨a, b⟩ := hf.save hsv; rw [if_pos rfl, a, b]
    | false => obtain ⟨a, b⟩ := hf.keep hsv; rw [if_neg (by simp), h1, h2, ← a, ← b]
  rw [hs]
  unfold keepN hardN
  by_cases hp : 0 < o.src
  · rw [if_pos hp, hf.log hp, ← h3]
  · rw [if_neg hp, hf.same hp, ← h3]

theorem start_rep (C : Cl) (i : Nat) (r : Rep) : startC (repC C i r) i = startC C i := by
  unfold startC repC
  simp only [put_put, put_self]
  rfl

theorem call_cases {C : Cl} (h : C.Wf) {i : Nat} (hi : i < 3) {x : Rep × OutR} (hf : Fits (C.nd i).rep x.1 x.2) :
    callC C i x = if (C.nd i).stop = 1 then startC C i else if (C.nd i).stop = 2 then startC (hardC C i x.1) i else { hardC C i x.1 with sent := C.sent ++ x.2.send.take (300 - C.sent.length) } := by
  obtain ⟨h1, h2, h3⟩ := h.hard i hi
  have hn : (repC C i x.1).nd i = { C.nd i with rep := x.1 } := put_self _ _ _
  have hk : put (repC C i x.1).nd i (keepN (saveN ((repC C i x.1).nd i) x.2) x.2) = (hardC C i x.1).nd := by
    rw [hn, keep_fits h1 h2 h3 hf]
    unfold repC hardC
    simp only [put_put]
  unfold callC doneC
  simp only [hk]
  rw [start_rep, hn]
  rfl

theorem start_wf {C : Cl} (h : C.Wf) {i : Nat} (hi : i < 3) : (startC C i).Wf := by
  obtain ⟨h1, h2, h3⟩ := h.hard i hi
  obtain ⟨hw, hid⟩ := h.rep i hi
  have hself : (startC C i).nd i = startN i (C.nd i) := put_self _ _ _
  have hne : ∀ j, j ≠ i → (startC C i).nd j = C.nd j := fun j hj => put_ne _ _ hj
  refine ⟨fun j hj => ?_, fun j hj => ?_, fun j hj => ?_, h.sent⟩
  all_goals
    by_cases hji : j = i
    · subst hji
      rw [hself]
      unfold startN
      first
        | exact ⟨new_wf (by omega) (by rw [h1]; exact hw.ok.term0) (by rw [h1]; exact hw.ok.termM) (by rw [h2]; exact hw.ok.vote0) (by rw [h2]; exact hw.ok.voteM) (by rw [h1, h3]; exact hw.ok.log) (by rw [h3]; exact hw.ok.len), rfl⟩
        | exact ⟨rfl, rfl, rfl⟩
        | exact .inl rfl
    · rw [hne j hji]
      first
        | exact h.rep j hj
        | exact h.hard j hj
        | exact h.stop j hj

theorem hard_wf {C : Cl} (h : C.Wf) {i : Nat} (hi : i < 3) {r : Rep} (hr : r.Wf) (hid : r.id = i) : (hardC C i r).Wf := by
  have hself : (hardC C i r).nd i = hardN (C.nd i) r := put_self _ _ _
  have hne : ∀ j, j ≠ i → (hardC C i r).nd j = C.nd j := fun j hj => put_ne _ _ hj
  refine ⟨fun j hj => ?_, fun j hj => ?_, fun j hj => ?_, h.sent⟩
  all_goals
    by_cases hji : j = i
    · subst hji
      rw [hself]
      unfold hardN
      first
        | exact ⟨hr, hid⟩
        | exact ⟨rfl, rfl, rfl⟩
        | exact h.stop j hj
    · rw [hne j hji]
      first
        | exact h.rep j hj
        | exact h.hard j hj
        | exact h.stop j hj

theorem call_wf {C : Cl} (h : C.Wf) {i : Nat} (hi : i < 3) {x : Rep × OutR} (hx : x.1.Wf) (hf : Fits (C.nd i).rep x.1 x.2) : (callC C i x).Wf := by
  rw [call_cases h hi hf]
  have hh : (hardC C i x.1).Wf := hard_wf h hi hx (by rw [hf.id]; exact (h.rep i hi).2)
  split
  · exact start_wf h hi
  split
  · exact start_wf hh hi
  · refine ⟨hh.rep, hh.hard, hh.stop, ?_⟩
    have := h.sent
    simp only [List.length_append, List.length_take]
    omega

/-! ### walked -/
theorem after_use {W w : World} {L1 : Lay} {C : Cl} {G : List Own} {Φ : PW} [Stable Φ] {i : Nat} {x : Rep × OutR} {q1 q2 : Option Addr} (h : C.Wf) (hi : i < 3) (hx : x.1.Wf) (hf : Fits (C.nd i).rep x.1 x.2) (hs : Small x.2)
    (cx : Ctx W w (clO L1 (repC C i x.1) ++ G) (CPhi (OPhi Φ q1 x.2.recs q2 x.2.send) L1 (repC C i x.1))) (c1 c2 : Nat) {K : Ending → World → Prop}
    (hK : ∀ L' w', L'.x = L1.x → Ctx W w' (clO L' (callC C i x) ++ G) (CPhi Φ L' (callC C i x)) → K (.returned (.bool true)) w') :
    Calls Try.prog F.erratalaw08_cluster_done #[.pointer (some ⟨L1.x, 0, none⟩), .int .i64 i, outV x.2 q1 c1 q2 c2] w K := by
  obtain ⟨h1, h2, h3⟩ := h.hard i hi
  obtain ⟨hw, hid⟩ := h.rep i hi
  have hn : (repC C i x.1).nd i = { C.nd i with rep := x.1 } := put_self _ _ _
  have hs1 := hs.recs
  have hs2 := hs.src
  have hs3 := hs.send
  refine done_use cx hi x.2 q1 c1 q2 c2 (fun M w h => h.2.1) (fun M w h => h.2.2) (by omega) (by omega) h.sent (by omega) (by rw [hn]; show (C.nd i).slog.length ≤ 4000; rw [h3]; exact hw.ok.len) (fun _ => ?_) (fun _ => ?_) fun L' w' hx' cx' => hK L' w' hx' (cx'.weak fun M w h => ⟨h.1.1, h.2⟩)
  · rw [hn]
    show newB i (C.nd i).sterm (C.nd i).svote (C.nd i).slog = true
    rw [h1, h2, h3]
    exact new_yes (by omega) hw.ok
  · rw [hn, keep_fits h1 h2 h3 hf]
    exact new_yes (by omega) hx.ok

theorem out_k {W : World} {L : Lay} {C : Cl} {G : List Own} {Φ : PW} [Stable Φ] {i : Nat} (hi : i < 3) {x : Rep × OutR} {J : Value → World → Prop}
    (hJ : ∀ p c q1 c1 q2 c2 w', Ctx W w' (clO (L.at i (L.b i) p c) (repC C i x.1) ++ G) (CPhi (OPhi Φ q1 x.2.recs q2 x.2.send) (L.at i (L.b i) p c) (repC C i x.1)) → J (outV x.2 q1 c1 q2 c2) w') :
    OutK W (heads L C ++ restO L C i ++ G) (CPhi Φ L C) (L.b i) x.1 x.2 J := by
  intro p c q1 c1 q2 c2 w' _ _ _ _ cx
  exact hJ p c q1 c1 q2 c2 w' ((refocus hi cx).weak fun M w h => ⟨⟨h.1.1, h.2⟩, (ClS_at hi).2 h.1.2⟩)

end Go.Proofs.Ytifgijoeckoojaa
end

/-
  The cluster: a message arrives, or is lost.
-/
section
set_option linter.unusedVariables false
set_option linter.unusedSimpArgs false
namespace Go.Proofs.Ytifgijoeckoojaa
open Go.Vc

def remL {α : Type} (l : List α) (n : Nat) : List α := l.take n ++ l.drop (n + 1)
def dropC (C : Cl) (n : Nat) : Cl := { C with sent := remL C.sent n }
def deliver (C : Cl) (m : MsgR) : Cl := callC C (pickZ m.to 3).toNat (hearP (C.nd (pickZ m.to 3).toNat).rep m)
def arriveC (C : Cl) (n : Int) (keep : Bool) : Cl :=
  match C.sent[(pickZ n C.sent.length).toNat]? with
  | none => C
  | some m => deliver (if keep then C else dropC C (pickZ n C.sent.length).toNat) m

theorem rem_len {α : Type} (l : List α) {n : Nat} (h : n < l.length) : (remL l n).length = l.length - 1 := by
  unfold remL
  rw [List.length_append, List.length_take, List.length_drop]
  omega

theorem drop_wf {C : Cl} (h : C.Wf) {n : Nat} (hn : n < C.sent.length) : (dropC C n).Wf :=
  ⟨h.rep, h.hard, h.stop, by have := h.sent; show (remL C.sent n).length ≤ 300; rw [rem_len _ hn]; omega⟩

theorem deliver_wf {C : Cl} (h : C.Wf) (m : MsgR) : (deliver C m).Wf := by
  have hp := pickZ_lt (n := m.to) (show (0 : Int) < 3 by decide)
  have hi : (pickZ m.to 3).toNat < 3 := by omega
  have := hear_wf (m := m) (h.rep _ hi).1
  exact call_wf h hi this.1 this.2

theorem arrive_wf {C : Cl} (h : C.Wf) (n : Int) (keep : Bool) : (arriveC C n keep).Wf := by
  unfold arriveC
  split
  · exact h
  · rename_i m hm
    have hlt := (List.getElem?_eq_some_iff.1 hm).1
    cases keep with
    | true => exact deliver_wf h m
    | false => exact deliver_wf (drop_wf h hlt) m

theorem sub0 (p : Option Addr) (s c : Nat) : subPtr p s 0 c = p := by
  unfold subPtr
  split
  · rfl
  · cases p with
    | none => rfl
    | some a => simp [Addr.add]

theorem msg_one (M : List Nat) (w : World) (cs : List Value) (x : MsgR) (h : Gv.rep M w cs x) : (cs.all fun u => oneC u) = true := by
  obtain ⟨p, c, e, _⟩ := msg_cells h
  rw [e]; rfl

theorem app_msgs {W w : World} {S : List Own} {Φ : PW} [Stable Φ] {p : Option Addr} {cap : Nat} {cs : List Value} {a b : List MsgR} {q : Option Addr} {c2 : Nat} (c : Ctx W w (.buf p a.length cap cs 37 9 :: S) Φ) (ha : ∀ M w, Φ M w → Elems M w cs a) (hsl : ∀ M w, Φ M w → Sl M w q b) (hlen : a.length + b.length < 100000000) :
    ∃ p' cap' w' cs', Sem.run Try.prog (builtin Builtin.append #[27, 27] 27 #[false, false] #[.slice p a.length cap, .slice q b.length c2]) w = .ok (.value (.slice p' (a ++ b).length cap')) w' ∧ Ctx W w' (.buf p' (a ++ b).length cap' cs' 37 9 :: S) (fun M w => Φ M w ∧ Elems M w cs' (a ++ b)) := by
  rcases Nat.eq_zero_or_pos b.length with h0 | h0
  · have hb : b = [] := List.eq_nil_of_length_eq_zero h0
    subst hb
    rw [List.append_nil]
    obtain ⟨i, z, e1, e2, _⟩ := appB_out (P := Try.prog) (ts := 27) (t := 37) (size := 9) (bytes := 88) (by kernel_rfl)
    exact ⟨p, cap, w, cs, run_app (c.append0 0 rfl e1 e2 q c2), c.weak fun M w h => ⟨h, ha M w h⟩⟩
  · obtain ⟨p', cap', w', news, hrun, _, cx'⟩ := Ctx.appSl (P := Try.prog) (α := MsgR) (ts := 27) (ty := 27) (kb := #[false, false]) (bytes := 88) (c2 := c2) c (by kernel_rfl) msg_one hsl h0 (by omega) (by omega)
    rw [← List.length_append] at hrun cx'
    exact ⟨p', cap', w', cs ++ news, hrun, cx'.weak fun M w h => ⟨h.1, (ha M w h.1).append h.2⟩⟩

/-- a message among those that are under way -/
theorem sent_at {M : List Nat} {w : World} {mc : List Value} {l : List MsgR} (h : Elems M w mc l) {j : Nat} {m : MsgR} (hj : l[j]? = some m) : ∃ p c, (mc.drop (j * 9)).take 9 = m.cells p c ∧ m.recs.length ≤ c ∧ c ≤ maxLen ∧ m.Ok := by
  obtain ⟨hlt, rfl⟩ := List.getElem?_eq_some_iff.1 hj
  obtain ⟨p, c, e, h1, h2, h3, _⟩ := msg_cells (h.2 j hlt)
  exact ⟨p, c, e, h1, h2, h3⟩

theorem sent_sl {M : List Nat} {w : World} {mc : List Value} {l : List MsgR} (h : Elems M w mc l) {j : Nat} {m : MsgR} (hj : l[j]? = some m) {p : Option Addr} {c : Nat} (e : (mc.drop (j * 9)).take 9 = m.cells p c) : Sl M w p m.recs := by
  obtain ⟨hlt, rfl⟩ := List.getElem?_eq_some_iff.1 hj
  have := h.2 j hlt
  rw [show (Gv.ty MsgR).size = 9 from rfl, e] at this
  exact msg_sl this

abbrev h3 (L : Lay) (C : Cl) : List Own := [.blk L.x (xCells L C) 34, .buf L.rp 3 L.rc (rCells L) 46 1, .buf L.sp 3 L.sc (sCells L C) 42 4]
abbrev R3 (L : Lay) (C : Cl) (G : List Own) : List Own := h3 L C ++ (repsO L C ++ G)
abbrev remF (L : Lay) (C : Cl) (Φ : PW) : PW := fun M w => CPhi Φ L C M w ∧ Sl M w L.tp C.sent
instance rem_stable (L : Lay) (C : Cl) (Φ : PW) [Stable Φ] : Stable (remF L C Φ) := instStableAnd (CPhi Φ L C) (fun M w => Sl M w L.tp C.sent)

/-- the first half of what is kept -/
theorem rem_one {W w : World} {L : Lay} {C : Cl} {G F : List Own} {Φ : PW} [Stable Φ] {k n : Nat} (cx : Ctx W w (.blk k [] 37 :: (clO L C ++ G) ++ F) (CPhi Φ L C)) (hn : n ≤ C.sent.length) (h300 : C.sent.length ≤ 300) :
    ∃ p' cap' w' cs, Sem.run Try.prog (builtin Builtin.append #[27, 27] 27 #[false, false] #[.slice (some ⟨k, 0, none⟩) 0 0, .slice (subPtr L.tp 9 0 L.tc) n L.tc]) w = .ok (.value (.slice p' n cap')) w' ∧
      C.sent.length ≤ L.tc ∧ Ctx W w' (.buf p' (C.sent.take n).length cap' cs 37 9 :: R3 L C G ++ F) (fun M w => remF L C Φ M w ∧ Elems M w cs (C.sent.take n)) := by
  have cx1 : Ctx W w (.buf L.tp C.sent.length L.tc L.mc 37 9 :: (.blk k [] 37 :: R3 L C G ++ F)) (CPhi Φ L C) := by
    refine cx.perm ?_
    refine ((List.Perm.cons (Own.blk k [] 37) (List.perm_middle (l₁ := h3 L C) (a := Own.buf L.tp C.sent.length L.tc L.mc 37 9) (l₂ := repsO L C ++ G ++ F))).trans ?_)
    refine (List.Perm.swap _ _ _).trans (List.Perm.of_eq (by simp))
  obtain ⟨cx2, hs, hl, hc, _⟩ := Ctx.freeze (α := MsgR) cx1 cx1.phi.2.1
  have cx3 := cx2.add (Ψ := fun M w => Sl M w L.tp C.sent) hs
  obtain ⟨p', cap', w', cs, hrun, cx4⟩ := Ctx.cloned (P := Try.prog) (α := MsgR) (l := C.sent.take n) (ts := 27) (ty := 27) (kb := #[false, false]) (bytes := 88) (c2 := L.tc) cx3 (by kernel_rfl) msg_one (fun M w h => Sl.take h.2 n) (by rw [List.length_take]; omega) (by omega)
  have htl : (C.sent.take n).length = n := by rw [List.length_take]; omega
  refine ⟨p', cap', w', cs, ?_, hc, cx4⟩
  rw [sub0]
  rw [htl] at hrun
  exact hrun

theorem rem_two {W w : World} {L : Lay} {C : Cl} {G F : List Own} {Φ : PW} [Stable Φ] {n : Nat} {p : Option Addr} {cap : Nat} {cs : List Value} (hn : n < C.sent.length) (h300 : C.sent.length ≤ 300) (hc : C.sent.length ≤ L.tc)
    (cx : Ctx W w (.buf p (C.sent.take n).length cap cs 37 9 :: R3 L C G ++ F) (fun M w => remF L C Φ M w ∧ Elems M w cs (C.sent.take n))) (c2 : Nat) :
    ∃ p' cap' w' cs', Sem.run Try.prog (builtin Builtin.append #[27, 27] 27 #[false, false] #[.slice p n cap, .slice (subPtr L.tp 9 (n + 1) L.tc) (C.sent.length - (n + 1)) c2]) w = .ok (.value (.slice p' (remL C.sent n).length cap')) w' ∧
      Ctx W w' (.buf p' (remL C.sent n).length cap' cs' 37 9 :: R3 L C G ++ F) (fun M w => CPhi Φ L C M w ∧ Elems M w cs' (remL C.sent n)) := by
  have htl : (C.sent.take n).length = n := by rw [List.length_take]; omega
  obtain ⟨p', cap', w', cs', hrun, cx'⟩ := app_msgs (b := C.sent.drop (n + 1)) (q := subPtr L.tp 9 (n + 1) L.tc) (c2 := c2) cx (fun M w h => h.2) (fun M w h => addr_sub h.1.2 (n + 1) hc) (by rw [htl, List.length_drop]; omega)
  rw [htl, List.length_drop] at hrun
  exact ⟨p', cap', w', cs', hrun, cx'.weak fun M w h => ⟨h.1.1.1, h.2⟩⟩

theorem rem_three {W w w' : World} {L : Lay} {C : Cl} {G F : List Own} {Φ : PW} [Stable Φ] {n : Nat} {p : Option Addr} {cap : Nat} {cs : List Value}
    (cx : Ctx W w (.buf p (remL C.sent n).length cap cs 37 9 :: R3 L C G ++ F) (fun M w => CPhi Φ L C M w ∧ Elems M w cs (remL C.sent n))) (hw : w' = w.setCell ⟨L.x, 2, none⟩ (.slice p (remL C.sent n).length cap)) :
    Ctx W w' (clO (L.sentAt p cap cs) (dropC C n) ++ G ++ F) (CPhi Φ (L.sentAt p cap cs) (dropC C n)) := by
  have cx2 := cx.put 1 hw rfl
  have e1 : heads (L.sentAt p cap cs) (dropC C n) = [.blk L.x [.slice L.rp 3 L.rc, .slice L.sp 3 L.sc, .slice p (remL C.sent n).length cap] 34, .buf L.rp 3 L.rc (rCells L) 46 1, .buf L.sp 3 L.sc (sCells L C) 42 4, .buf p (remL C.sent n).length cap cs 37 9] := rfl
  have e2 : repsO (L.sentAt p cap cs) (dropC C n) = repsO L C := rfl
  show Ctx W w' ((heads (L.sentAt p cap cs) (dropC C n) ++ repsO (L.sentAt p cap cs) (dropC C n)) ++ G ++ F) _
  rw [e1, e2]
  have cx4 : Ctx W w' ([.blk L.x [.slice L.rp 3 L.rc, .slice L.sp 3 L.sc, .slice p (remL C.sent n).length cap] 34, .buf L.rp 3 L.rc (rCells L) 46 1, .buf L.sp 3 L.sc (sCells L C) 42 4] ++ .buf p (remL C.sent n).length cap cs 37 9 :: (repsO L C ++ G ++ F)) (fun M w => CPhi Φ L C M w ∧ Elems M w cs (remL C.sent n)) := mid (Q := [.blk L.x [.slice L.rp 3 L.rc, .slice L.sp 3 L.sc, .slice p (remL C.sent n).length cap] 34, .buf L.rp 3 L.rc (rCells L) 46 1, .buf L.sp 3 L.sc (sCells L C) 42 4]) cx2
  exact cx4.weak fun M w h => ⟨h.1.1, h.2, h.1.2.2⟩

end Go.Proofs.Ytifgijoeckoojaa
end

/-
  The cluster: arrive, walked.
-/
section
set_option linter.unusedVariables false
set_option linter.unusedSimpArgs false
namespace Go.Proofs.Ytifgijoeckoojaa
open Go.Vc

abbrev MPhi (Φ : PW) (p : Option Addr) (l : List RecD) : PW := fun M w => Φ M w ∧ Sl M w p l
instance mphi_stable (Φ : PW) [Stable Φ] (p : Option Addr) (l : List RecD) : Stable (MPhi Φ p l) := instStableAnd Φ (fun M w => Sl M w p l)

theorem row_of {mc vs : List Value} {o k : Nat} (e : (mc.drop o).take k = vs) : ∀ i, (hi : i < vs.length) → mc[o + i]? = some vs[i] := by
  intro i hi
  subst e
  have hk : i < k := by simp at hi; omega
  rw [List.getElem_take, List.getElem_drop]
  have : o + i < mc.length := by simp at hi; omega
  exact List.getElem?_eq_getElem this

/-- x.done(i, x.r[i].Hear(m)) -/
theorem arrive_empty {C : Cl} {n : Int} {keep : Bool} (h : C.sent.length = 0) : arriveC C n keep = C := by
  unfold arriveC
  rw [List.eq_nil_of_length_eq_zero h]
  rfl

theorem arrive_some {C : Cl} {n : Int} {keep : Bool} {j : Nat} {m : MsgR} (hj : pickZ n C.sent.length = j) (hm : C.sent[j]? = some m) : arriveC C n keep = deliver (if keep then C else dropC C j) m := by
  unfold arriveC
  rw [hj, Int.toNat_natCast, hm]

set_option maxHeartbeats 2000000 in
theorem arrive_use {W w : World} {L : Lay} {C : Cl} {G : List Own} {Φ : PW} [Stable Φ] (cx : Ctx W w (clO L C ++ G) (CPhi Φ L C)) (h : C.Wf) (n : Int) (keep : Bool) {K : Ending → World → Prop}
    (hK : ∀ L' w', L'.x = L.x → Ctx W w' (clO L' (arriveC C n keep) ++ G) (CPhi Φ L' (arriveC C n keep)) → K (.returned (.bool true)) w') : Calls Try.prog F.erratalaw08_cluster_arrive #[.pointer (some ⟨L.x, 0, none⟩), .int .i64 n, .bool keep] w K := by
  have h300 := h.sent
  refine (Berratalaw08_cluster_arrive_run L.x 0 n keep (J := fun u w' => K (.returned u) w') cx ?_).mono fun e w' ⟨v, he, hj⟩ => by rw [he]; exact hj
  clear cx
  refine fun w F cx => ⟨L.tp, C.sent.length, L.tc, cx.get 0 rfl rfl, Br.intro (fun h0 => fun w F cx => ?_) (fun h0 => fun w F cx => ⟨L.tp, C.sent.length, L.tc, cx.get 0 rfl rfl, fun w F cx => ?_⟩)⟩
  · have h0 := of_decide_eq_true h0
    exact hK L w rfl (by rw [arrive_empty (by omega)]; exact cx.left)
  have h0 := of_decide_eq_false h0
  have hp := pickZ_lt (n := n) (show (0 : Int) < C.sent.length by omega)
  obtain ⟨j, hj⟩ : ∃ j : Nat, pickZ n C.sent.length = j := ⟨_, (Int.toNat_of_nonneg hp.1).symm⟩
  have hjl : j < C.sent.length := by omega
  obtain ⟨m, hm⟩ : ∃ m, C.sent[j]? = some m := ⟨_, List.getElem?_eq_getElem hjl⟩
  rw [arrive_some hj hm] at hK
  obtain ⟨mp, mcap, hme, hm1, hm2, hmo⟩ := sent_at cx.phi.2.1 hm
  obtain ⟨gt, hgt, _⟩ := cx.bufCell 3 rfl (show 0 < L.mc.length by
    have := cx.phi.2.1.1
    rw [show (Gv.ty MsgR).size = 9 from rfl] at this
    omega)
  refine (pick_q n C.sent.length (by unfold I64; omega)).gives.use cx fun w cx => ⟨_, rfl, clO L C ++ G, CPhi Φ L C, inferInstance, cx, fun w F cx => ⟨L.tp, C.sent.length, L.tc, cx.get 0 rfl rfl, hp, ptrK_intro gt 0 hgt ?_⟩⟩
  rw [hj, Int.toNat_natCast, Nat.zero_add]
  refine fun w F cx => ⟨m.kind, m.src, m.to, m.term, m.index, m.prev, m.commit, m.yes, mp, m.recs.length, mcap, cx.bufRow 3 rfl hgt (row_of hme), fun _ => ?_⟩
  obtain ⟨C1, hC1⟩ : ∃ C1, (if keep then C else dropC C j) = C1 := ⟨_, rfl⟩
  have hw1 : C1.Wf := by
    rw [← hC1]
    split
    · exact h
    · exact drop_wf h hjl
  rw [hC1] at hK
  refine exI_mk (fun R' Φ' => ∃ L2 : Lay, L2.x = L.x ∧ R' = clO L2 C1 ++ G ∧ Φ' = CPhi (MPhi Φ mp m.recs) L2 C1) ⟨Br.intro (fun hk => ?_) (fun hk => ?_), ?_⟩
  · have hC1 : C1 = dropC C j := by
      rw [← hC1, if_neg]
      simpa using hk
    have hsub : ∀ {w : World} {F A : List Own} {o1 : Own} {Ψ : PW} [Stable Ψ], Ctx W w (o1 :: .blk L.x (xCells L C) 34 :: A ++ F) Ψ → Ctx W w ([.blk L.x (xCells L C) 34] ++ F) (fun _ _ => True) := fun cx => (cx.weak fun _ _ _ => trivial).sub (List.Sublist.cons _ (List.Sublist.cons_cons _ (List.sublist_append_right _ _)))
    refine ⟨[.blk L.x (xCells L C) 34], fun _ _ => True, inferInstance, fun w F cx => (cx.weak fun _ _ _ => trivial).sub (List.Sublist.cons_cons _ (List.sublist_append_right _ _)), by unfold I64; omega, L.tp, C.sent.length, L.tc, fun w F cx => ⟨L.tp, C.sent.length, L.tc, cx.get 0 rfl rfl, rfl⟩, L.tp, C.sent.length, L.tc, fun w F cx => ⟨L.tp, C.sent.length, L.tc, cx.get 0 rfl rfl, rfl⟩, ?_, ?_, fun k => ⟨fun w F cx => hsub cx, fun w F cx => ?_⟩⟩
    · have := (cx.bufLen 3 rfl).2.1
      omega
    · have := (cx.bufLen 3 rfl).2.1
      omega
    obtain ⟨p1, cap1, w1, cs1, hrun1, hcap, cx1⟩ := rem_one (n := j) cx (by omega) h300
    have e1 : ((j : Int) + 1).toNat = j + 1 := by omega
    rw [e1]
    refine ⟨p1, j, cap1, w1, hrun1, .buf p1 (C.sent.take j).length cap1 cs1 37 9 :: R3 L C G, fun M w => remF L C Φ M w ∧ Elems M w cs1 (C.sent.take j), inferInstance, cx1, fun w F cx => hsub cx, fun w F cx => ?_⟩
    obtain ⟨p2, cap2, w2, cs2, hrun2, cx2⟩ := rem_two hjl h300 hcap cx (L.tc - (j + 1))
    refine ⟨p2, _, cap2, w2, hrun2, .buf p2 (remL C.sent j).length cap2 cs2 37 9 :: R3 L C G, fun M w => CPhi Φ L C M w ∧ Elems M w cs2 (remL C.sent j), inferInstance, cx2, fun w F cx => hsub cx, fun w F cx => ⟨cx.can 1 rfl (by simp), fun w' hw' => ?_⟩⟩
    refine ⟨clO (L.sentAt p2 cap2 cs2) (dropC C j) ++ G, CPhi (MPhi Φ mp m.recs) (L.sentAt p2 cap2 cs2) (dropC C j), inferInstance, ?_, _, CPhi (MPhi Φ mp m.recs) (L.sentAt p2 cap2 cs2) (dropC C j), inferInstance, fun w F cx => cx, L.sentAt p2 cap2 cs2, rfl, by rw [hC1], by rw [hC1]⟩
    have cxm : Ctx W w (.buf p2 (remL C.sent j).length cap2 cs2 37 9 :: R3 L C G ++ F) (fun M w => CPhi (MPhi Φ mp m.recs) L C M w ∧ Elems M w cs2 (remL C.sent j)) := cx.weak fun M w h => ⟨⟨⟨h.1.1, sent_sl h.1.2.1 hm hme⟩, h.1.2⟩, h.2⟩
    exact rem_three cxm hw'
  · have hC1 : C1 = C := by
      rw [← hC1, if_pos]
      simpa using hk
    exact ⟨clO L C ++ G, CPhi (MPhi Φ mp m.recs) L C, inferInstance, fun w F cx => cx.weak fun M w h => ⟨⟨h.1, sent_sl h.2.1 hm hme⟩, h.2⟩, L, rfl, by rw [hC1], by rw [hC1]⟩
  clear cx
  rintro R1 Φ1 _ ⟨L2, hx2, rfl, rfl⟩ w F cx
  have hq := pickZ_lt (n := m.to) (show (0 : Int) < 3 by decide)
  obtain ⟨i, hi⟩ : ∃ i : Nat, pickZ m.to 3 = i := ⟨_, (Int.toNat_of_nonneg hq.1).symm⟩
  have hi3 : i < 3 := by omega
  have hdl : deliver C1 m = callC C1 i (hearP (C1.nd i).rep m) := by unfold deliver; rw [hi, Int.toNat_natCast]
  rw [hdl] at hK
  obtain ⟨_, gp, hgp⟩ := lay_at (gl cx)
  refine (pick_q m.to 3 (by unfold I64; omega)).gives.use cx fun w cx => ⟨_, rfl, clO L2 C1 ++ G, CPhi (MPhi Φ mp m.recs) L2 C1, inferInstance, cx, [.blk L2.x (xCells L2 C1) 34, .buf L2.rp 3 L2.rc (rCells L2) 46 1], fun _ _ => True, inferInstance, ?_, L2.rp, 3, L2.rc, fun w F cx => ⟨L2.rp, 3, L2.rc, ?_, rfl⟩, hq, ptrK_intro gp 0 hgp ⟨some ⟨L2.b i, 0, none⟩, fun w F cx => ⟨some ⟨L2.b i, 0, none⟩, ?_, rfl⟩, ?_⟩⟩
  · exact fun w F cx => (cx.weak fun _ _ _ => trivial).sub (List.Sublist.cons_cons _ (List.Sublist.cons_cons _ (List.sublist_append_right _ _)))
  · rw [← hx2]; exact cx.get 0 rfl rfl
  · rw [hi, Int.toNat_natCast, Nat.zero_add]
    exact cx.bufGet 1 rfl hgp (r_at hi3)
  rw [hi]
  intro w F cx
  obtain ⟨hrw, hrid⟩ := hw1.rep i hi3
  have hh := hear_wf (m := m) hrw
  refine Hear_use (focus hi3 (gl cx)) hrw.ok m hmo mp mcap (fun M w h => h.1.2) hm1 hm2 (out_k hi3 fun p c q1 c1 q2 c2 w cx => ?_)
  refine ⟨_, _, _, _, q1, _, c1, q2, _, c2, rfl, clO (L2.at i (L2.b i) p c) (repC C1 i (hearP (C1.nd i).rep m).1) ++ G, CPhi (OPhi (MPhi Φ mp m.recs) q1 (hearP (C1.nd i).rep m).2.recs q2 (hearP (C1.nd i).rep m).2.send) (L2.at i (L2.b i) p c) (repC C1 i (hearP (C1.nd i).rep m).1), inferInstance, gr cx, fun w F cx => ?_, fun w F cx => ?_⟩
  · have hhd : heads (L2.at i (L2.b i) p c) (repC C1 i (hearP (C1.nd i).rep m).1) = heads L2 C1 := heads_at hi3
    have cx' : Ctx W w (heads L2 C1 ++ (repsO (L2.at i (L2.b i) p c) (repC C1 i (hearP (C1.nd i).rep m).1) ++ G ++ F)) (fun _ _ => True) := by
      rw [← hhd]
      exact (cx.weak fun _ _ _ => trivial).re (by simp)
    exact cx'.sub (List.Sublist.cons_cons _ (List.Sublist.cons_cons _ (List.Sublist.cons _ (List.Sublist.cons _ (List.sublist_append_right _ _)))))
  · have := after_use (L1 := L2.at i (L2.b i) p c) hw1 hi3 hh.1 hh.2 (hear_small _ m) (gl cx) c1 c2 (K := fun e w' => ∃ c145, e = Ending.returned (.bool c145) ∧ ∃ R146 Φ147, Stable Φ147 ∧ Ctx W w' (R146 ++ F) Φ147 ∧ ∀ w F, Ctx W w (R146 ++ F) Φ147 → K (.returned (.bool c145)) w) fun L' w' hx' cx' => ⟨true, rfl, clO L' (callC C1 i (hearP (C1.nd i).rep m)) ++ G, CPhi (MPhi Φ mp m.recs) L' (callC C1 i (hearP (C1.nd i).rep m)), inferInstance, gr cx', fun w F cx => hK L' w (by rw [hx']; exact hx2) (cx.left.weak fun M w h => ⟨h.1.1, h.2⟩)⟩
    rw [← hx2]
    exact this

end Go.Proofs.Ytifgijoeckoojaa
end

/-
  The cluster: step.
-/
section
set_option linter.unusedVariables false
set_option linter.unusedSimpArgs false
namespace Go.Proofs.Ytifgijoeckoojaa
open Go.Vc

def andZ (a m : Int) : Int := IntKind.i64.wrap (BitVec.ofInt 64 a &&& BitVec.ofInt 64 m).toNat
theorem and_run (a m : Int) (w : World) : Sem.run Try.prog (binOp BinOp.and 3 (.int .i64 a) (.int .i64 m)) w = .ok (.int .i64 (andZ a m)) w := rfl
theorem and_one (a : Int) : andZ a 1 = 0 ∨ andZ a 1 = 1 := by
  have h : (BitVec.ofInt 64 a &&& BitVec.ofInt 64 1).toNat = (BitVec.ofInt 64 a).toNat % 2 := by
    rw [BitVec.toNat_and]
    exact Nat.and_one_is_mod _
  unfold andZ
  rw [h]
  rcases Nat.mod_two_eq_zero_or_one (BitVec.ofInt 64 a).toNat with h | h
  · rw [h]; exact .inl (by decide)
  · rw [h]; exact .inr (by decide)

def tickC (C : Cl) (i : Nat) : Cl := callC C i (tickP (C.nd i).rep)
def propC (C : Cl) (i : Nat) (data : ByteArray) : Cl := callC C i ((proposeP (C.nd i).rep data).1, (proposeP (C.nd i).rep data).2.2.2)
def stopC (C : Cl) (i : Nat) (s : Int) : Cl := ndC C i { C.nd i with stop := s }
def loseC (C : Cl) (n : Int) : Cl := if 0 < C.sent.length then dropC C (pickZ n C.sent.length).toNat else C
def stepCl (C : Cl) (x : OpR) : Cl :=
  let i := (pickZ x.who 3).toNat
  let k := andZ x.op 15
  if k = 8 then loseC C x.n
  else if k = 9 then arriveC C x.n true
  else if k = 10 ∨ k = 11 then tickC C i
  else if k = 12 ∨ k = 13 then propC C i x.data
  else if k = 14 then startC C i
  else if k = 15 then stopC C i (1 + andZ x.n 1)
  else arriveC C x.n false

theorem tick_c {C : Cl} (h : C.Wf) {i : Nat} (hi : i < 3) : (tickC C i).Wf :=
  have := tick_wf (h.rep i hi).1
  call_wf h hi this.1 this.2
theorem prop_c {C : Cl} (h : C.Wf) {i : Nat} (hi : i < 3) (data : ByteArray) : (propC C i data).Wf :=
  have := propose_wf (h.rep i hi).1 data
  call_wf h hi this.1 this.2
theorem stop_wf {C : Cl} (h : C.Wf) {i : Nat} (hi : i < 3) {s : Int} (hs : s = 1 ∨ s = 2) : (stopC C i s).Wf := by
  have hself : (stopC C i s).nd i = { C.nd i with stop := s } := put_self _ _ _
  have hne : ∀ j, j ≠ i → (stopC C i s).nd j = C.nd j := fun j hj => put_ne _ _ hj
  refine ⟨fun j hj => ?_, fun j hj => ?_, fun j hj => ?_, h.sent⟩
  all_goals
    by_cases hji : j = i
    · subst hji
      rw [hself]
      first
        | exact h.rep j hj
        | exact h.hard j hj
        | exact .inr hs
    · rw [hne j hji]
      first
        | exact h.rep j hj
        | exact h.hard j hj
        | exact h.stop j hj

theorem who_lt (n : Int) : (pickZ n 3).toNat < 3 := by
  have hp := pickZ_lt (n := n) (show (0 : Int) < 3 by decide)
  omega

theorem sub_xr {W w : World} {L : Lay} {C : Cl} {G F : List Own} {Ψ : PW} [Stable Ψ] (cx : Ctx W w (clO L C ++ G ++ F) Ψ) : Ctx W w ([.blk L.x (xCells L C) 34, .buf L.rp 3 L.rc (rCells L) 46 1] ++ F) (fun _ _ => True) := by
  have cx1 : Ctx W w (heads L C ++ (repsO L C ++ G ++ F)) (fun _ _ => True) := (cx.weak fun _ _ _ => trivial).re (by simp)
  exact cx1.sub (List.Sublist.cons_cons _ (List.Sublist.cons_cons _ (List.Sublist.cons _ (List.Sublist.cons _ (List.sublist_append_right _ _)))))

theorem sub_xr2 {W w : World} {L : Lay} {C : Cl} {G F : List Own} {i : Nat} {p : Option Addr} {c : Nat} {r : Rep} {Ψ : PW} [Stable Ψ] (hi : i < 3) (cx : Ctx W w (clO (L.at i (L.b i) p c) (repC C i r) ++ G ++ F) Ψ) : Ctx W w ([.blk L.x (xCells L C) 34, .buf L.rp 3 L.rc (rCells L) 46 1] ++ F) (fun _ _ => True) := by
  have hhd : heads (L.at i (L.b i) p c) (repC C i r) = heads L C := heads_at hi
  have cx1 : Ctx W w (heads (L.at i (L.b i) p c) (repC C i r) ++ (repsO (L.at i (L.b i) p c) (repC C i r) ++ G ++ F)) (fun _ _ => True) := (cx.weak fun _ _ _ => trivial).re (by simp)
  rw [hhd] at cx1
  exact cx1.sub (List.Sublist.cons_cons _ (List.Sublist.cons_cons _ (List.Sublist.cons _ (List.Sublist.cons _ (List.sublist_append_right _ _)))))

theorem prop_fits {r : Rep} (h : r.Wf) (data : ByteArray) : Fits r (proposeP r data).1 (proposeP r data).2.2.2 := (propose_wf h data).2

set_option maxHeartbeats 4000000 in
theorem step_use {W w : World} {L : Lay} {C : Cl} {G : List Own} {Φ : PW} [Stable Φ] (cx : Ctx W w (clO L C ++ G) (CPhi Φ L C)) (h : C.Wf) (x : OpR) {K : Ending → World → Prop}
    (hK : ∀ L' w', L'.x = L.x → Ctx W w' (clO L' (stepCl C x) ++ G) (CPhi Φ L' (stepCl C x)) → K (.returned (.bool true)) w') : Calls Try.prog F.erratalaw08_cluster_step #[.pointer (some ⟨L.x, 0, none⟩), .agg #[.int .i64 x.op, .int .i64 x.who, .int .i64 x.n, .string x.data]] w K := by
  obtain ⟨op, who, n, data⟩ := x
  have h300 := h.sent
  refine (Berratalaw08_cluster_step_run L.x 0 op who n data (J := fun u w' => K (.returned u) w') cx ?_).mono fun e w' ⟨v, he, hj⟩ => by rw [he]; exact hj
  clear cx
  intro _ w H0 cx
  have hq := pickZ_lt (n := who) (show (0 : Int) < 3 by decide)
  obtain ⟨i, hi⟩ : ∃ i : Nat, pickZ who 3 = i := ⟨_, (Int.toNat_of_nonneg hq.1).symm⟩
  have hi3 : i < 3 := by omega
  obtain ⟨k, hk⟩ : ∃ k, andZ op 15 = k := ⟨_, rfl⟩
  obtain ⟨⟨gs, hgs⟩, gp, hgp⟩ := lay_at (gl cx)
  obtain ⟨hrw, hrid⟩ := h.rep i hi3
  refine (pick_q who 3 (by unfold I64; omega)).gives.use cx fun w cx => ⟨_, rfl, clO L C ++ G, CPhi Φ L C, inferInstance, cx, _, and_run op 15, ?_⟩
  rw [hi, hk]
  have hS : stepCl C ⟨op, who, n, data⟩ = if k = 8 then loseC C n else if k = 9 then arriveC C n true else if k = 10 ∨ k = 11 then tickC C i else if k = 12 ∨ k = 13 then propC C i data else if k = 14 then startC C i else if k = 15 then stopC C i (1 + andZ n 1) else arriveC C n false := by
    unfold stepCl
    simp only [hi, hk, Int.toNat_natCast]
  rw [hS] at hK
  have hreadP : ∀ {w : World} {A : List Own} {Ψ : PW}, Ctx W w ([.blk L.x (xCells L C) 34, .buf L.rp 3 L.rc (rCells L) 46 1] ++ A) Ψ → w.cell? ⟨gp, 0 + (i : Int).toNat, none⟩ = some (.pointer (some ⟨L.b i, 0, none⟩)) := fun cx => by
    rw [Int.toNat_natCast, Nat.zero_add]
    exact cx.bufGet 1 rfl hgp (r_at hi3)
  refine Br.intro (fun h8 => ?_) (fun h8 => Br.intro (fun h9 => ?_) (fun h9 => Br.intro (fun h10 => Br.intro (fun _ => ?_) (fun h => by rw [h10] at h; cases h)) (fun h10 => Br.intro (fun h11 => ?_) (fun h11 => Br.intro (fun h12 => Br.intro (fun _ => ?_) (fun h => by rw [h12] at h; cases h)) (fun h12 => Br.intro (fun h13 => ?_) (fun h13 => Br.intro (fun h14 => ?_) (fun h14 => Br.intro (fun h15 => ?_) (fun h15 => ?_))))))))
  · -- lost
    rw [if_pos (of_decide_eq_true h8)] at hK
    unfold loseC at hK
    refine fun w F cx => ⟨L.tp, C.sent.length, L.tc, cx.get 0 rfl rfl, Br.intro (fun h0 => fun w F cx => ?_) (fun h0 => fun w F cx => ?_)⟩
    · have h0 : 0 < C.sent.length := by have := of_decide_eq_true h0; omega
      rw [if_pos h0] at hK
      have hp := pickZ_lt (n := n) (show (0 : Int) < C.sent.length by omega)
      obtain ⟨j, hj⟩ : ∃ j : Nat, pickZ n C.sent.length = j := ⟨_, (Int.toNat_of_nonneg hp.1).symm⟩
      have hjl : j < C.sent.length := by omega
      rw [hj, Int.toNat_natCast] at hK
      have hcap := (cx.bufLen 3 rfl).2.1
      have hsub : ∀ {w : World} {F A : List Own} {o1 : Own} {Ψ : PW} [Stable Ψ], Ctx W w (o1 :: .blk L.x (xCells L C) 34 :: A ++ F) Ψ → Ctx W w ([.blk L.x (xCells L C) 34] ++ F) (fun _ _ => True) := fun cx => (cx.weak fun _ _ _ => trivial).sub (List.Sublist.cons _ (List.Sublist.cons_cons _ (List.sublist_append_right _ _)))
      refine ⟨L.tp, C.sent.length, L.tc, cx.get 0 rfl rfl, j, fun w' hw => by rw [← hj]; exact (pick_q n C.sent.length (by unfold I64; omega)).atN hw, [.blk L.x (xCells L C) 34], fun _ _ => True, inferInstance, fun w F cx => (cx.weak fun _ _ _ => trivial).sub (List.Sublist.cons_cons _ (List.sublist_append_right _ _)), by unfold I64; omega, L.tp, C.sent.length, L.tc, fun w F cx => ⟨L.tp, C.sent.length, L.tc, cx.get 0 rfl rfl, rfl⟩, L.tp, C.sent.length, L.tc, fun w F cx => ⟨L.tp, C.sent.length, L.tc, cx.get 0 rfl rfl, rfl⟩, by omega, by omega, fun k0 => ⟨fun w F cx => hsub cx, fun w F cx => ?_⟩⟩
      obtain ⟨p1, cap1, w1, cs1, hrun1, hcap, cx1⟩ := rem_one (n := j) cx (by omega) h300
      have e1 : ((j : Int) + 1).toNat = j + 1 := by omega
      rw [e1, Int.toNat_natCast]
      refine ⟨p1, j, cap1, w1, hrun1, .buf p1 (C.sent.take j).length cap1 cs1 37 9 :: R3 L C G, fun M w => remF L C Φ M w ∧ Elems M w cs1 (C.sent.take j), inferInstance, cx1, fun w F cx => hsub cx, fun w F cx => ?_⟩
      obtain ⟨p2, cap2, w2, cs2, hrun2, cx2⟩ := rem_two hjl h300 hcap cx (L.tc - (j + 1))
      refine ⟨p2, _, cap2, w2, hrun2, .buf p2 (remL C.sent j).length cap2 cs2 37 9 :: R3 L C G, fun M w => CPhi Φ L C M w ∧ Elems M w cs2 (remL C.sent j), inferInstance, cx2, fun w F cx => hsub cx, fun w F cx => ⟨cx.can 1 rfl (by simp), fun w' hw' => ?_⟩⟩
      exact ⟨clO (L.sentAt p2 cap2 cs2) (dropC C j) ++ G, CPhi Φ (L.sentAt p2 cap2 cs2) (dropC C j), inferInstance, rem_three cx hw', fun w F cx => hK (L.sentAt p2 cap2 cs2) w rfl cx.left⟩
    · rw [if_neg (by have := of_decide_eq_false h0; omega)] at hK
      exact hK L w rfl cx.left
  all_goals rw [if_neg (of_decide_eq_false h8)] at hK
  · rw [if_pos (of_decide_eq_true h9)] at hK
    exact fun w F cx => arrive_use (gl cx) h n true fun L' w' hx cx => ⟨true, rfl, clO L' (arriveC C n true) ++ G, CPhi Φ L' (arriveC C n true), inferInstance, gr cx, fun w F cx => hK L' w hx cx.left⟩
  all_goals rw [if_neg (of_decide_eq_false h9)] at hK
  iterate 2
    · rw [if_pos (by first | exact .inl (of_decide_eq_true h10) | exact .inr (of_decide_eq_true h11))] at hK
      have hh := tick_wf hrw
      refine fun w F cx => ⟨L.rp, 3, L.rc, cx.get 0 rfl rfl, by omega, ptrK_intro gp 0 hgp fun w F cx => ⟨some ⟨L.b i, 0, none⟩, hreadP (sub_xr cx), fun w F cx => Tick_use (focus hi3 (gl cx)) hrw.ok (out_k hi3 fun p c q1 c1 q2 c2 w cx => ?_)⟩⟩
      refine ⟨_, _, _, _, q1, _, c1, q2, _, c2, rfl, clO (L.at i (L.b i) p c) (repC C i (tickP (C.nd i).rep).1) ++ G, CPhi (OPhi Φ q1 (tickP (C.nd i).rep).2.recs q2 (tickP (C.nd i).rep).2.send) (L.at i (L.b i) p c) (repC C i (tickP (C.nd i).rep).1), inferInstance, gr cx, fun w F cx => ?_⟩
      exact after_use (L1 := L.at i (L.b i) p c) h hi3 hh.1 hh.2 (tick_small _) (gl cx) c1 c2 fun L' w' hx' cx' => ⟨true, rfl, clO L' (tickC C i) ++ G, CPhi Φ L' (tickC C i), inferInstance, gr cx', fun w F cx => hK L' w hx' cx.left⟩
  all_goals rw [if_neg (by intro h; rcases h with h | h; exact of_decide_eq_false h10 h; exact of_decide_eq_false h11 h)] at hK
  iterate 2
    · rw [if_pos (by first | exact .inl (of_decide_eq_true h12) | exact .inr (of_decide_eq_true h13))] at hK
      have hh := propose_wf hrw data
      have hfin : ∀ {w : World} {H : List Own} {a : Own} {p q1 q2 : Option Addr} {c c1 c2 : Nat}, Ctx W w (a :: (clO (L.at i (L.b i) p c) (repC C i (proposeP (C.nd i).rep data).1) ++ G) ++ H) (CPhi (OPhi Φ q1 (proposeP (C.nd i).rep data).2.2.2.recs q2 (proposeP (C.nd i).rep data).2.2.2.send) (L.at i (L.b i) p c) (repC C i (proposeP (C.nd i).rep data).1)) → Calls Try.prog F.erratalaw08_cluster_done #[.pointer (some ⟨L.x, 0, none⟩), .int .i64 i, outV (proposeP (C.nd i).rep data).2.2.2 q1 c1 q2 c2] w fun e w' => ∃ c, e = Ending.returned (.bool c) ∧ ∃ R' Φ', Stable Φ' ∧ Ctx W w' (R' ++ H) Φ' ∧ ∀ w F, Ctx W w (R' ++ F) Φ' → K (.returned (.bool c)) w := fun {w H a p q1 q2 c c1 c2} cx => by
        have cx1 : Ctx W w (clO (L.at i (L.b i) p c) (repC C i (proposeP (C.nd i).rep data).1) ++ G ++ H) (CPhi (OPhi Φ q1 (proposeP (C.nd i).rep data).2.2.2.recs q2 (proposeP (C.nd i).rep data).2.2.2.send) (L.at i (L.b i) p c) (repC C i (proposeP (C.nd i).rep data).1)) := cx.drop1
        exact after_use (x := ((proposeP (C.nd i).rep data).1, (proposeP (C.nd i).rep data).2.2.2)) (L1 := (L.at i (L.b i) p c)) h hi3 hh.1 hh.2 (propose_small hrw.ok.len data) (gl cx1) c1 c2 fun L' w' hx' cx' => ⟨true, rfl, clO L' (propC C i data) ++ G, CPhi Φ L' (propC C i data), inferInstance, gr cx', fun w F cx => hK L' w hx' cx.left⟩
      refine ⟨[.blk L.x (xCells L C) 34, .buf L.rp 3 L.rc (rCells L) 46 1], fun _ _ => True, inferInstance, fun w F cx => sub_xr cx, L.rp, 3, L.rc, fun w F cx => ⟨L.rp, 3, L.rc, cx.get 0 rfl rfl, rfl⟩, by omega, ptrK_intro gp 0 hgp ⟨some ⟨L.b i, 0, none⟩, fun w F cx => ⟨some ⟨L.b i, 0, none⟩, hreadP cx, rfl⟩, ⟨fun w F cx => Propose_use (focus hi3 (gl cx)) hrw.ok (fun hr => hrw.one (by rw [hr]; decide)) data (out_k (x := ((proposeP (C.nd i).rep data).1, (proposeP (C.nd i).rep data).2.2.2)) hi3 fun p c q1 c1 q2 c2 w cx => ?_), fun k0 => ⟨fun w F cx => sub_xr cx.drop1, fun w F cx => Propose_use (focus hi3 (gl (sink cx))) hrw.ok (fun hr => hrw.one (by rw [hr]; decide)) data (out_k (x := ((proposeP (C.nd i).rep data).1, (proposeP (C.nd i).rep data).2.2.2)) hi3 fun p c q1 c1 q2 c2 w cx => ?_), trivial⟩, trivial⟩⟩⟩
      · exact ⟨_, _, _, _, _, _, q1, _, c1, q2, _, c2, rfl, clO (L.at i (L.b i) p c) (repC C i (proposeP (C.nd i).rep data).1) ++ G, (CPhi (OPhi Φ q1 (proposeP (C.nd i).rep data).2.2.2.recs q2 (proposeP (C.nd i).rep data).2.2.2.send) (L.at i (L.b i) p c) (repC C i (proposeP (C.nd i).rep data).1)), inferInstance, gr cx, fun w F cx => sub_xr2 hi3 cx, fun k0 => ⟨fun w F cx => sub_xr2 hi3 cx.drop1, fun w F cx => ⟨cx.can 0 rfl (by simp), fun w' hw' => ⟨.blk k0 [.bool (proposeP (C.nd i).rep data).2.2.2.save, .int .i64 (proposeP (C.nd i).rep data).2.2.2.term, .int .i64 (proposeP (C.nd i).rep data).2.2.2.vote, .int .i64 (proposeP (C.nd i).rep data).2.2.2.src, .slice q1 (proposeP (C.nd i).rep data).2.2.2.recs.length c1, .slice q2 (proposeP (C.nd i).rep data).2.2.2.send.length c2] 45 :: (clO (L.at i (L.b i) p c) (repC C i (proposeP (C.nd i).rep data).1) ++ G), (CPhi (OPhi Φ q1 (proposeP (C.nd i).rep data).2.2.2.recs q2 (proposeP (C.nd i).rep data).2.2.2.send) (L.at i (L.b i) p c) (repC C i (proposeP (C.nd i).rep data).1)), inferInstance, cx.puts 0 hw' rfl, fun w F cx => sub_xr2 hi3 cx.drop1, fun w F cx => ⟨_, _, _, _, q1, _, c1, q2, _, c2, cx.row0 0 rfl, fun w F cx => hfin cx⟩⟩⟩, trivial⟩, trivial⟩
      · exact ⟨_, _, _, _, _, _, q1, _, c1, q2, _, c2, rfl, .blk k0 [.bool false, .int .i64 0, .int .i64 0, .int .i64 0, .slice none 0 0, .slice none 0 0] 45 :: (clO (L.at i (L.b i) p c) (repC C i (proposeP (C.nd i).rep data).1) ++ G), (CPhi (OPhi Φ q1 (proposeP (C.nd i).rep data).2.2.2.recs q2 (proposeP (C.nd i).rep data).2.2.2.send) (L.at i (L.b i) p c) (repC C i (proposeP (C.nd i).rep data).1)), inferInstance, lift (gr cx), fun w F cx => sub_xr2 hi3 cx.drop1, fun w F cx => ⟨cx.can 0 rfl (by simp), fun w' hw' => ⟨.blk k0 [.bool (proposeP (C.nd i).rep data).2.2.2.save, .int .i64 (proposeP (C.nd i).rep data).2.2.2.term, .int .i64 (proposeP (C.nd i).rep data).2.2.2.vote, .int .i64 (proposeP (C.nd i).rep data).2.2.2.src, .slice q1 (proposeP (C.nd i).rep data).2.2.2.recs.length c1, .slice q2 (proposeP (C.nd i).rep data).2.2.2.send.length c2] 45 :: (clO (L.at i (L.b i) p c) (repC C i (proposeP (C.nd i).rep data).1) ++ G), (CPhi (OPhi Φ q1 (proposeP (C.nd i).rep data).2.2.2.recs q2 (proposeP (C.nd i).rep data).2.2.2.send) (L.at i (L.b i) p c) (repC C i (proposeP (C.nd i).rep data).1)), inferInstance, cx.puts 0 hw' rfl, fun w F cx => sub_xr2 hi3 cx.drop1, fun w F cx => ⟨_, _, _, _, q1, _, c1, q2, _, c2, cx.row0 0 rfl, fun w F cx => hfin cx⟩⟩⟩, trivial⟩
  all_goals rw [if_neg (by intro h; rcases h with h | h; exact of_decide_eq_false h12 h; exact of_decide_eq_false h13 h)] at hK
  · rw [if_pos (of_decide_eq_true h14)] at hK
    obtain ⟨a1, a2, a3⟩ := h.hard i hi3
    exact fun w F cx => start_use (gl cx) hi3 (by rw [a1, a2, a3]; exact new_yes (by omega) hrw.ok) fun L' w' hx cx => ⟨true, rfl, clO L' (startC C i) ++ G, CPhi Φ L' (startC C i), inferInstance, gr cx, fun w F cx => hK L' w hx cx.left⟩
  all_goals rw [if_neg (of_decide_eq_false h14)] at hK
  · rw [if_pos (of_decide_eq_true h15)] at hK
    have h1 := and_one n
    refine ⟨_, and_run n 1, fun w F cx => ⟨L.sp, 3, L.sc, cx.get 0 rfl rfl, by unfold I64; omega, by omega, ptrK_intro gs 0 hgs fun w F cx => ⟨cx.bufCan 2 rfl hgs (by show _ ≤ 12; rw [Int.toNat_natCast]; omega), fun w' hw' => ?_⟩⟩⟩
    rw [Int.toNat_natCast, Nat.zero_add] at hw'
    have h2 := s_put (n := { C.nd i with stop := 1 + andZ n 1 }) hi3 (show 3 < 4 by decide) rfl (by rfl) (gl cx) hgs hw'
    exact ⟨clO L (stopC C i (1 + andZ n 1)) ++ G, CPhi Φ L (stopC C i (1 + andZ n 1)), inferInstance, gr (h2.weak fun M w h => ⟨h.1, (ClS_nd (n := { C.nd i with stop := 1 + andZ n 1 }) hi3 rfl).2 h.2⟩), fun w F cx => hK L w rfl cx.left⟩
  · rw [if_neg (of_decide_eq_false h15)] at hK
    exact fun w F cx => arrive_use (gl cx) h n false fun L' w' hx cx => ⟨true, rfl, clO L' (arriveC C n false) ++ G, CPhi Φ L' (arriveC C n false), inferInstance, gr cx, fun w F cx => hK L' w hx cx.left⟩

end Go.Proofs.Ytifgijoeckoojaa
end

/-
  Log, Role, Commit, Hard; the example of the documentation.
-/
section
set_option linter.unusedVariables false
set_option linter.unusedSimpArgs false
namespace Go.Proofs.Ytifgijoeckoojaa
open Go.Vc

theorem Log_use {W w : World} {S : List Own} {Φ : PW} [Stable Φ] {b : Nat} {r : Rep} {p : Option Addr} {c : Nat} (cx : Ctx W w (repO b r p c ++ S) Φ) (hok : ∀ x ∈ r.log, x.Ok) (hlen : r.log.length ≤ 4000) {K : Ending → World → Prop}
    (hK : ∀ q cap w', r.log.length ≤ cap → cap ≤ maxLen → Ctx W w' (repO b r p c ++ S) (fun M w => Φ M w ∧ Sl M w q r.log) → K (.returned (.slice q r.log.length cap)) w') :
    Calls Try.prog F.replica_Replica_Log #[.pointer (some ⟨b, 0, none⟩)] w K := by
  refine (Breplica_Replica_Log_run b 0 (J := fun u w' => K (.returned u) w') cx ?_).mono fun e w' ⟨v, he, hj⟩ => by rw [he]; exact hj
  refine fun w G cx => ⟨p, r.log.length, c, cx.get 0 rfl rfl, fun w G cx => ?_⟩
  have cx1 : Ctx W w (S ++ G) (Aside W (repO b r p c) Φ) := Ctx.aside (cx.re (List.append_assoc _ _ _))
  refine CloneR_use cx1 (fun M w h => log_sl h (n := r.log.length) (c := c) (by simp) hok) (by omega) fun q cap w cx => ?_
  obtain ⟨_, hcap1, hcap2⟩ := cx.bufLen 0 rfl
  have cx2 : Ctx W w (.buf q r.log.length cap (recCells r.log) 55 2 :: (repO b r p c ++ (S ++ G))) Φ := cx.unaside.perm List.perm_middle
  obtain ⟨cx3, hs, _⟩ := Ctx.freeze (α := RecD) cx2 (recs_elems hok)
  have hst : Stable (fun M w => Φ M w ∧ Sl M w q r.log) := instStableAnd Φ (fun M w => Sl M w q r.log)
  exact ⟨q, _, cap, rfl, repO b r p c ++ S, fun M w => Φ M w ∧ Sl M w q r.log, hst, gr (cx3.add hs), fun w G cx => hK q cap w hcap1 hcap2 cx.left⟩

theorem Role_q {w : World} {b : Nat} {r : Rep} {p : Option Addr} {c : Nat} (h : Here w b r p c) : Calls Try.prog F.replica_Replica_Role #[.pointer (some ⟨b, 0, none⟩)] w fun e w' => e = .returned (.int .i64 r.role) ∧ w' = w :=
  (Qreplica_Replica_Role_run b 0 w (fun u w' => u = .int .i64 r.role ∧ w' = w) ⟨r.role, h.at 4 rfl, rfl, rfl⟩).mono fun e w' ⟨v, h1, h2, h3⟩ => ⟨by rw [h1, h2], h3⟩

theorem Commit_q {w : World} {b : Nat} {r : Rep} {p : Option Addr} {c : Nat} (h : Here w b r p c) : Calls Try.prog F.replica_Replica_Commit #[.pointer (some ⟨b, 0, none⟩)] w fun e w' => e = .returned (.int .i64 r.commit) ∧ w' = w :=
  (Qreplica_Replica_Commit_run b 0 w (fun u w' => u = .int .i64 r.commit ∧ w' = w) ⟨r.commit, h.at 5 rfl, rfl, rfl⟩).mono fun e w' ⟨v, h1, h2, h3⟩ => ⟨by rw [h1, h2], h3⟩

theorem Commit_use {W w : World} {S : List Own} {Φ : PW} [Stable Φ] {b : Nat} {r : Rep} {p : Option Addr} {c : Nat} (cx : Ctx W w (repO b r p c ++ S) Φ) {K : Ending → World → Prop} (hK : ∀ w', Ctx W w' (repO b r p c ++ S) Φ → K (.returned (.int .i64 r.commit)) w') :
    Calls Try.prog F.replica_Replica_Commit #[.pointer (some ⟨b, 0, none⟩)] w K :=
  (Commit_q (here_of cx)).mono fun e w' ⟨h1, h2⟩ => by subst h2; rw [h1]; exact hK _ cx

theorem first_msg {W w : World} {S : List Own} {Φ : PW} [Stable Φ] {q1 q2 : Option Addr} {recs : List RecD} {send rest : List MsgR} {m : MsgR} (cx : Ctx W w S (OPhi Φ q1 recs q2 send)) (hs : send = m :: rest) :
    ∃ b o mp mc, ∃ Ψ : PW, Stable Ψ ∧ q2 = some ⟨b, o, none⟩ ∧ Ctx W w S Ψ ∧ (∀ M w, Ψ M w → Φ M w ∧ RowAt w b o (m.cells mp mc) ∧ Sl M w mp m.recs) ∧ m.recs.length ≤ mc ∧ mc ≤ maxLen ∧ m.Ok := by
  obtain ⟨b, o, cs, hp, cx'⟩ := cx.pin cx.phi.2.2
  subst hs
  have h0 : 0 < (m :: rest).length := by simp
  obtain ⟨mp, mc, he, h1, h2, h3⟩ := pin_msg cx'.phi.2 h0
  refine ⟨b, o, mp, mc, fun M w => OPhi Φ q1 recs q2 (m :: rest) M w ∧ Pin b o cs (m :: rest) M w, inferInstance, hp h0, cx', fun M w h => ⟨h.1.1, ?_, ?_⟩, h1, h2, h3⟩
  · have := pin_msgAt h.2 h0 he
    rw [Nat.zero_mul, Nat.add_zero] at this
    exact this
  · exact pin_msgSl h.2 h0 he

theorem swapL {W w : World} {A B S G : List Own} {Φ : PW} [Stable Φ] (c : Ctx W w (A ++ (B ++ S) ++ G) Φ) : Ctx W w (B ++ (A ++ S ++ G)) Φ := by
  refine c.perm ?_
  have e1 : (A ++ (B ++ S) ++ G).Perm ((A ++ B) ++ (S ++ G)) := List.Perm.of_eq (by simp)
  exact e1.trans ((List.Perm.append_right _ List.perm_append_comm).trans (List.Perm.of_eq (by simp)))

theorem out_gr {W : World} {S G : List Own} {Φ : PW} {b : Nat} {r' : Rep} {o : OutR} {J : Value → World → Prop} (h : ∀ p' c' q1 c1 q2 c2 w', o.recs.length ≤ c1 → c1 ≤ maxLen → o.send.length ≤ c2 → c2 ≤ maxLen → Ctx W w' (repO b r' p' c' ++ S ++ G) (OPhi Φ q1 o.recs q2 o.send) → J (outV o q1 c1 q2 c2) w') :
    OutK W (S ++ G) Φ b r' o J := fun p' c' q1 c1 q2 c2 w' h1 h2 h3 h4 cx => h p' c' q1 c1 q2 c2 w' h1 h2 h3 h4 (gr cx)

def exA0 : Rep := newRep 0 0 (-1) []
def exB0 : Rep := newRep 1 0 (-1) []
def exM1 : MsgR := ⟨0, 0, 1, 1, 0, 0, 0, false, []⟩
def exM2 : MsgR := ⟨1, 1, 0, 1, 0, 0, 0, true, []⟩
def exE : RecD := ⟨1, ByteArray.mk #[OfNat.ofNat 97]⟩
def exM4 : MsgR := ⟨2, 0, 1, 1, 0, 0, 0, false, [exE]⟩
def exM5 : MsgR := ⟨3, 1, 0, 1, 1, 0, 0, true, []⟩
def exX1 := tickP exA0
def exX2 := hearP exB0 exM1
def exX3 := hearP exX1.1 exM2
def exX4 := proposeP exX3.1 (ByteArray.mk #[OfNat.ofNat 97])
def exX5 := hearP exX2.1 exM4
def exX6 := hearP exX4.1 exM5

theorem ex1 : exX1.2.save = true ∧ exX1.2.term = 1 ∧ exX1.2.vote = 0 ∧ exX1.2.send.length = 2 ∧ ∃ r, exX1.2.send = exM1 :: r := ⟨by decide, by decide, by decide, by decide, _, rfl⟩
theorem ex2 : exX2.2.send = [exM2] := rfl
theorem ex4 : exX4.2.1 = 1 ∧ exX4.2.2.1 = 0 ∧ exX4.2.2.2.send.length = 2 ∧ ∃ r, exX4.2.2.2.send = exM4 :: r := ⟨by decide, by decide, by decide, _, rfl⟩
theorem ex5 : exX5.2.src = 1 ∧ exX5.2.send = [exM5] := ⟨by decide, rfl⟩
theorem exWa : exA0.Wf := new_wf (by decide) (by decide) (by decide) (by decide) (by decide) ⟨by simp, by simp, by simp, by simp⟩ (by simp)
theorem exWb : exB0.Wf := new_wf (by decide) (by decide) (by decide) (by decide) (by decide) ⟨by simp, by simp, by simp, by simp⟩ (by simp)
theorem exW1 : exX1.1.Wf := (tick_wf exWa).1
theorem exW2 : exX2.1.Wf := (hear_wf exWb).1
theorem exW3 : exX3.1.Wf := (hear_wf exW1).1
theorem exW4 : exX4.1.Wf := (propose_wf exW3 _).1
theorem exW5 : exX5.1.Wf := (hear_wf exW2).1
theorem exW6 : exX6.1.Wf := (hear_wf exW4).1

end Go.Proofs.Ytifgijoeckoojaa
end

/-
  The example of the documentation, walked.
-/
section
set_option linter.unusedVariables false
set_option linter.unusedSimpArgs false
namespace Go.Proofs.Ytifgijoeckoojaa
open Go.Vc

set_option maxHeartbeats 2000000 in
set_option maxRecDepth 10000 in
theorem small_g : Gives Try.prog F.erratalaw08_small #[] (.bool true) := by
  refine gives_of Berratalaw08_small_run fun W R Φ _ => ?_
  refine fun w G cx => New_use cx 0 0 (-1) [] none 0 (fun _ _ _ => Sl.nil) (by simp) (fun h => absurd h (by decide)) fun _ ba pa ca w cx => ⟨some ⟨ba, 0, none⟩, rfl, repO ba exA0 pa ca ++ R, Φ, inferInstance, gr cx, fun w G cx => New_use cx 1 0 (-1) [] none 0 (fun _ _ _ => Sl.nil) (by simp) (fun h => absurd h (by decide)) fun _ bb pb cb w cx => ⟨some ⟨bb, 0, none⟩, rfl, repO bb exB0 pb cb ++ (repO ba exA0 pa ca ++ R), Φ, inferInstance, gr cx, fun w G cx => Br.intro (fun h => by cases h) (fun _ => ?_)⟩⟩
  intro w G cx
  refine Tick_use (swapL cx) exWa.ok (out_gr fun pa ca q1 c1 q2 c2 w _ _ _ _ cx => ?_)
  obtain ⟨y1, y2, y3, y4, r1, y5⟩ := ex1
  obtain ⟨b1, o1, mp1, mc1, Φ1, hst1, hq1, cz1, hΦ1, hl1, hl1', hm1⟩ := first_msg cx y5
  subst hq1
  refine ⟨_, _, _, _, q1, _, c1, some ⟨b1, o1, none⟩, _, c2, rfl, repO ba exX1.1 pa ca ++ (repO bb exB0 pb cb ++ R), Φ1, hst1, cz1, fun _ => Br.intro (fun h => absurd h (by decide)) (fun _ => Br.intro (fun h => absurd h (by decide)) (fun _ => ⟨okAgg40, Br.intro (fun h => absurd h (by decide)) (fun _ => ⟨⟨by decide, by decide⟩, ptrK_intro b1 o1 rfl fun w G cx => ⟨_, _, _, _, _, _, _, _, mp1, _, mc1, (hΦ1 _ _ cx.phi).2.1, fun w G cx => ?_⟩⟩)⟩))⟩
  refine Hear_use (swapL cx) exWb.ok exM1 hm1 mp1 mc1 (fun M w h => (hΦ1 M w h).2.2) hl1 hl1' (out_gr fun pb cb q3 c3 q4 c4 w _ _ _ _ cx => ?_)
  obtain ⟨b2, o2, mp2, mc2, Φ2, hst2, hq2, cz2, hΦ2, hl2, hl2', hm2⟩ := first_msg cx ex2
  subst hq2
  refine ⟨_, _, _, _, q3, _, c3, some ⟨b2, o2, none⟩, _, c4, rfl, repO bb exX2.1 pb cb ++ (repO ba exX1.1 pa ca ++ R), Φ2, hst2, cz2, fun _ w G cx => ⟨fun _ => ⟨by decide, by decide⟩, ptrK_intro b2 o2 rfl ⟨true, fun _ => (hΦ2 _ _ cx.phi).2.1 7 (show 7 < 9 by decide), Br.intro (fun h => absurd h (by decide)) (fun _ => ⟨⟨by decide, by decide⟩, ptrK_intro b2 o2 rfl fun w G cx => ⟨_, _, _, _, _, _, _, _, mp2, _, mc2, (hΦ2 _ _ cx.phi).2.1, fun w G cx => ?_⟩⟩)⟩⟩⟩
  refine Hear_use (swapL cx) exW1.ok exM2 hm2 mp2 mc2 (fun M w h => (hΦ2 M w h).2.2) hl2 hl2' (out_gr fun pa ca q5 c5 q6 c6 w _ _ _ _ cx => ?_)
  refine ⟨_, _, _, _, q5, _, c5, q6, _, c6, rfl, repO ba exX3.1 pa ca ++ (repO bb exX2.1 pb cb ++ R), OPhi Φ2 q5 exX3.2.recs q6 exX3.2.send, inferInstance, cx, fun _ w G cx => ?_⟩
  refine Propose_use (gl cx) exW3.ok (fun hr => exW3.one (by rw [hr]; decide)) _ (out_gr fun pa ca q7 c7 q8 c8 w _ _ _ _ cx => ?_)
  obtain ⟨z1, z2, z3, r4, z4⟩ := ex4
  obtain ⟨b4, o4, mp4, mc4, Φ4, hst4, hq4, cz4, hΦ4, hl4, hl4', hm4⟩ := first_msg cx z4
  subst hq4
  refine ⟨_, _, _, _, _, _, q7, _, c7, some ⟨b4, o4, none⟩, _, c8, rfl, repO ba exX4.1 pa ca ++ (repO bb exX2.1 pb cb ++ R), Φ4, hst4, cz4, fun _ w G cx => ⟨exX4.1.role, fun _ w' hw => by rw [hw]; exact Role_q (here_of (gl cx)), Br.intro (fun h => absurd h (by decide)) (fun _ => ⟨⟨by decide, by decide⟩, ptrK_intro b4 o4 rfl fun w G cx => ⟨_, _, _, _, _, _, _, _, mp4, _, mc4, (hΦ4 _ _ cx.phi).2.1, fun w G cx => ?_⟩⟩)⟩⟩
  refine Hear_use (swapL cx) exW2.ok exM4 hm4 mp4 mc4 (fun M w h => (hΦ4 M w h).2.2) hl4 hl4' (out_gr fun pb cb q9 c9 q10 c10 w _ _ _ _ cx => ?_)
  obtain ⟨b5, o5, mp5, mc5, Φ5, hst5, hq5, cz5, hΦ5, hl5, hl5', hm5⟩ := first_msg cx ex5.2
  subst hq5
  refine ⟨_, _, _, _, q9, _, c9, some ⟨b5, o5, none⟩, _, c10, rfl, repO bb exX5.1 pb cb ++ (repO ba exX4.1 pa ca ++ R), Φ5, hst5, cz5, fun _ w G cx => Br.intro (fun h => absurd h (by decide)) (fun _ => ⟨⟨by decide, by decide⟩, ptrK_intro b5 o5 rfl fun w G cx => ⟨_, _, _, _, _, _, _, _, mp5, _, mc5, (hΦ5 _ _ cx.phi).2.1, fun w G cx => ?_⟩⟩)⟩
  refine Hear_use (swapL cx) exW4.ok exM5 hm5 mp5 mc5 (fun M w h => (hΦ5 M w h).2.2) hl5 hl5' (out_gr fun pa ca q11 c11 q12 c12 w _ _ _ _ cx => ?_)
  refine ⟨_, _, _, _, q11, _, c11, q12, _, c12, rfl, repO ba exX6.1 pa ca ++ (repO bb exX5.1 pb cb ++ R), OPhi Φ5 q11 exX6.2.recs q12 exX6.2.send, inferInstance, cx, fun w G cx => Commit_use (gl cx) fun w cx => ⟨_, rfl, repO ba exX6.1 pa ca ++ (repO bb exX5.1 pb cb ++ R), OPhi Φ5 q11 exX6.2.recs q12 exX6.2.send, inferInstance, gr cx, Br.intro (fun _ w G cx => ?_) (fun h => absurd h (by decide))⟩⟩
  have hΦ : ∀ M w, OPhi Φ5 q11 exX6.2.recs q12 exX6.2.send M w → Φ M w := fun M w h => (hΦ1 M w (hΦ2 M w (hΦ4 M w (hΦ5 M w h.1).1).1.1).1).1
  have hst6 : Stable (OPhi Φ5 q11 exX6.2.recs q12 exX6.2.send) := inferInstance
  generalize OPhi Φ5 q11 exX6.2.recs q12 exX6.2.send = Φ6 at cx hΦ hst6
  refine Log_use (gl cx) exW6.ok.recs exW6.ok.len fun q cap w _ _ cx => ⟨q, _, cap, rfl, repO ba exX6.1 pa ca ++ (repO bb exX5.1 pb cb ++ R), (fun M w => Φ6 M w ∧ Sl M w q exX6.1.log), instStableAnd Φ6 (fun M w => Sl M w q exX6.1.log), gr cx, Br.intro (fun _ w G cx => ?_) (fun h => absurd h (by decide))⟩
  have cy : Ctx W w (repO ba exX6.1 pa ca ++ (repO bb exX5.1 pb cb ++ R) ++ G) Φ := cx.weak fun M w h => hΦ M w h.1
  refine Log_use (swapL cy) exW5.ok.recs exW5.ok.len fun q cap w _ _ cx => ⟨q, _, cap, rfl, repO bb exX5.1 pb cb ++ (repO ba exX6.1 pa ca ++ R), Φ, inferInstance, (gr cx).weak fun M w h => h.1, fun w G cx => ⟨rfl, cx.left.right.right⟩⟩

end Go.Proofs.Ytifgijoeckoojaa
end

/-
  Three new replicas.
-/
section
set_option linter.unusedVariables false
set_option linter.unusedSimpArgs false
namespace Go.Proofs.Ytifgijoeckoojaa
open Go.Vc

def nd0 (i : Nat) : Node := ⟨newRep i 0 (-1) [], 0, -1, [], 0⟩
def cl0 : Cl := ⟨nd0, []⟩

theorem cl0_wf : cl0.Wf :=
  ⟨fun i hi => ⟨new_wf (by omega) (by decide) (by decide) (by decide) (by decide) ⟨by simp, by simp, by simp, by simp⟩ (by simp), rfl⟩, fun i hi => ⟨rfl, rfl, rfl⟩, fun i hi => .inl rfl, Nat.zero_le _⟩

abbrev rC (b : Nat → Nat) (n : Nat) : List Value := (List.range n).map fun i => ptrV (b i)
abbrev kept0 : List Value := [.int .i64 0, .int .i64 (-1), .slice none 0 0, .int .i64 0]
abbrev sC (n : Nat) : List Value := (List.range n).flatMap fun _ => kept0
abbrev rpsO (b : Nat → Nat) (p : Nat → Option Addr) (c : Nat → Nat) (n : Nat) : List Own := (List.range n).flatMap fun i => repO (b i) (newRep i 0 (-1) []) (p i) (c i)

theorem range_map_put {α β : Type} (f : Nat → α) (g : α → β) (n : Nat) (x : α) : ((List.range (n + 1)).map fun i => g (put f n x i)) = ((List.range n).map fun i => g (f i)) ++ [g x] := by
  rw [List.range_succ, List.map_append, List.map_singleton, put_self]
  congr 1
  exact List.map_congr_left fun i hi => by rw [put_ne f x (by have := List.mem_range.1 hi; omega)]

theorem sC_succ (n : Nat) : sC (n + 1) = sC n ++ kept0 := by
  unfold sC
  rw [List.range_succ, List.flatMap_append]
  simp

theorem rps_succ (b : Nat → Nat) (p : Nat → Option Addr) (c : Nat → Nat) (n x z : Nat) (y : Option Addr) : rpsO (put b n x) (put p n y) (put c n z) (n + 1) = rpsO b p c n ++ repO x (newRep n 0 (-1) []) y z := by
  unfold rpsO
  rw [List.range_succ, List.flatMap_append]
  congr 1
  · rw [List.flatMap_def, List.flatMap_def]
    congr 1
    exact List.map_congr_left fun i hi => by
      have hne : i ≠ n := by have := List.mem_range.1 hi; omega
      rw [put_ne b x hne, put_ne p y hne, put_ne c z hne]
  · simp [put_self]

abbrev bgO (x n : Nat) (rp : Option Addr) (rc : Nat) (sp : Option Addr) (sc : Nat) (b : Nat → Nat) (p : Nat → Option Addr) (c : Nat → Nat) (R : List Own) : List Own :=
  [.blk x [.slice rp n rc, .slice sp n sc, .slice none 0 0] 34, .buf rp n rc (rC b n) 46 1, .buf sp n sc (sC n) 42 4] ++ (rpsO b p c n ++ R)

theorem new_b {n : Nat} (h : n < 3) : newB (n : Int) 0 (-1) [] = true := by
  match n, h with
  | 0, _ => decide
  | 1, _ => decide
  | 2, _ => decide

set_option maxHeartbeats 1000000 in
theorem begin_use {W w : World} {S : List Own} {Φ : PW} [Stable Φ] (cx : Ctx W w S Φ) {K : Ending → World → Prop} (hK : ∀ L w', Ctx W w' (clO L cl0 ++ S) (CPhi Φ L cl0) → K (.returned (.pointer (some ⟨L.x, 0, none⟩))) w') :
    Calls Try.prog F.erratalaw08_begin #[] w K := by
  refine (Berratalaw08_begin_run (J := fun u w' => K (.returned u) w') cx ?_).mono fun e w' ⟨v, he, hj⟩ => by rw [he]; exact hj
  clear cx
  intro x
  refine exI_mk (fun nI R' Φ' k => ∃ (n : Nat) (rp sp : Option Addr) (rc sc : Nat) (b : Nat → Nat) (p : Nat → Option Addr) (c : Nat → Nat), nI = n ∧ n ≤ 3 ∧ R' = bgO x n rp rc sp sc b p c S ∧ Φ' = Φ ∧ k = 3 - n)
    ⟨⟨bgO x 0 none 0 none 0 (fun _ => 0) (fun _ => none) (fun _ => 0) S, Φ, _, inferInstance, fun w F cx => ((cx.nobuf 42 4).nobuf 46 1).perm ?_, 0, none, none, 0, 0, _, _, _, rfl, by omega, rfl, rfl, rfl⟩, ?_⟩
  · exact List.perm_middle (l₁ := [Own.buf none 0 0 [] 46 1, Own.buf none 0 0 [] 42 4])
  rintro nI R1 Φ1 k _ ⟨n, rp, sp, rc, sc, b, p, c, rfl, hn, rfl, rfl, rfl⟩
  refine Br.intro (fun hlt => ?_) (fun hge => fun w F cx => ?_)
  · have hlt : n < 3 := by have := of_decide_eq_true hlt; omega
    have hsub : ∀ {w : World} {A F : List Own} {Ψ : PW} [Stable Ψ], Ctx W w (.blk x [.slice rp n rc, .slice sp n sc, .slice none 0 0] 34 :: A ++ F) Ψ → Ctx W w ([.blk x [.slice rp n rc, .slice sp n sc, .slice none 0 0] 34] ++ F) (fun _ _ => True) := fun cx => (cx.weak fun _ _ _ => trivial).sub (List.Sublist.cons_cons _ (List.sublist_append_right _ _))
    have hsub1 : ∀ {w : World} {a : Own} {A F : List Own} {Ψ : PW} [Stable Ψ], Ctx W w (a :: .blk x [.slice rp n rc, .slice sp n sc, .slice none 0 0] 34 :: A ++ F) Ψ → Ctx W w ([.blk x [.slice rp n rc, .slice sp n sc, .slice none 0 0] 34] ++ F) (fun _ _ => True) := fun cx => (cx.weak fun _ _ _ => trivial).sub (List.Sublist.cons _ (List.Sublist.cons_cons _ (List.sublist_append_right _ _)))
    refine ⟨[.blk x [.slice rp n rc, .slice sp n sc, .slice none 0 0] 34], fun _ _ => True, inferInstance, fun w F cx => hsub cx, rp, n, rc, fun w F cx => ⟨rp, n, rc, cx.get 0 rfl rfl, rfl⟩, fun w F cx => New_use cx n 0 (-1) [] none 0 (fun _ _ _ => Sl.nil) (by simp) (fun h => by rw [new_b hlt] at h; cases h) fun _ bx px cx1 w cx => ?_⟩
    rw [Int.toNat_natCast] at cx
    have cx2 : Ctx W w ([.blk x [.slice rp n rc, .slice sp n sc, .slice none 0 0] 34, .buf rp n rc (rC b n) 46 1, .buf sp n sc (sC n) 42 4] ++ (repO bx (newRep n 0 (-1) []) px cx1 ++ (rpsO b p c n ++ S)) ++ F) Φ1 := by
      refine cx.perm ?_
      have e1 : (repO bx (newRep n 0 (-1) []) px cx1 ++ (bgO x n rp rc sp sc b p c S ++ F)).Perm ((repO bx (newRep n 0 (-1) []) px cx1 ++ [.blk x [.slice rp n rc, .slice sp n sc, .slice none 0 0] 34, .buf rp n rc (rC b n) 46 1, .buf sp n sc (sC n) 42 4]) ++ (rpsO b p c n ++ S ++ F)) := List.Perm.of_eq (by simp)
      exact e1.trans ((List.Perm.append_right _ List.perm_append_comm).trans (List.Perm.of_eq (by simp)))
    refine ⟨some ⟨bx, 0, none⟩, rfl, [.blk x [.slice rp n rc, .slice sp n sc, .slice none 0 0] 34, .buf rp n rc (rC b n) 46 1, .buf sp n sc (sC n) 42 4] ++ (repO bx (newRep n 0 (-1) []) px cx1 ++ (rpsO b p c n ++ S)), Φ1, inferInstance, cx2, fun w F cx => hsub cx, fun k1 => ⟨fun w F cx => hsub1 cx, fun w F cx => ?_⟩⟩
    have cx3 : Ctx W w (.blk k1 [ptrV bx] 46 :: .buf rp n rc (rC b n) 46 1 :: (.blk x [.slice rp n rc, .slice sp n sc, .slice none 0 0] 34 :: .buf sp n sc (sC n) 42 4 :: (repO bx (newRep n 0 (-1) []) px cx1 ++ (rpsO b p c n ++ S)) ++ F)) Φ1 := cx.perm (List.Perm.cons _ (List.Perm.swap _ _ _))
    obtain ⟨rp2, rc2, w2, hrun, _, cx4⟩ := Ctx.app1 (P := Try.prog) (ts := 31) (ty := 31) (kb := #[false, false]) (size := 1) (bytes := 8) cx3 (by kernel_rfl) (by omega) rfl rfl (by omega) (by omega)
    refine ⟨rp2, n + 1, rc2, w2, hrun, .buf rp2 (n + 1) rc2 (rC b n ++ [ptrV bx]) 46 1 :: .blk x [.slice rp n rc, .slice sp n sc, .slice none 0 0] 34 :: .buf sp n sc (sC n) 42 4 :: (repO bx (newRep n 0 (-1) []) px cx1 ++ (rpsO b p c n ++ S)), Φ1, inferInstance, cx4, fun w F cx => hsub1 cx, fun w F cx => ⟨cx.can 1 rfl (by simp), fun w' hw' => ?_⟩⟩
    have cx5 := cx.put 1 hw' rfl
    refine ⟨.buf rp2 (n + 1) rc2 (rC b n ++ [ptrV bx]) 46 1 :: .blk x [.slice rp2 (n + 1) rc2, .slice sp n sc, .slice none 0 0] 34 :: .buf sp n sc (sC n) 42 4 :: (repO bx (newRep n 0 (-1) []) px cx1 ++ (rpsO b p c n ++ S)), Φ1, inferInstance, cx5, fun w F cx => ⟨sp, n, sc, cx.get 1 rfl rfl, fun k2 w F cx => ?_⟩⟩
    have cx6 : Ctx W w (.blk k2 kept0 42 :: .buf sp n sc (sC n) 42 4 :: ([.buf rp2 (n + 1) rc2 (rC b n ++ [ptrV bx]) 46 1, .blk x [.slice rp2 (n + 1) rc2, .slice sp n sc, .slice none 0 0] 34] ++ (repO bx (newRep n 0 (-1) []) px cx1 ++ (rpsO b p c n ++ S)) ++ F)) Φ1 := cx.perm (List.Perm.cons _ (List.perm_middle (l₁ := [Own.buf rp2 (n + 1) rc2 (rC b n ++ [ptrV bx]) 46 1, Own.blk x [.slice rp2 (n + 1) rc2, .slice sp n sc, .slice none 0 0] 34])))
    obtain ⟨sp2, sc2, w3, hrun2, _, cx7⟩ := Ctx.app1 (P := Try.prog) (ts := 32) (ty := 32) (kb := #[false, false]) (size := 4) (bytes := 48) cx6 (by kernel_rfl) (by omega) rfl rfl (by omega) (by omega)
    refine ⟨sp2, n + 1, sc2, w3, hrun2, .buf sp2 (n + 1) sc2 (sC n ++ kept0) 42 4 :: .buf rp2 (n + 1) rc2 (rC b n ++ [ptrV bx]) 46 1 :: .blk x [.slice rp2 (n + 1) rc2, .slice sp n sc, .slice none 0 0] 34 :: (repO bx (newRep n 0 (-1) []) px cx1 ++ (rpsO b p c n ++ S)), Φ1, inferInstance, cx7, fun w F cx => ⟨cx.can 2 rfl (by simp), fun w' hw' => ?_⟩⟩
    have cx8 := cx.put 2 hw' rfl
    have cx9 : Ctx W w' (bgO x (n + 1) rp2 rc2 sp2 sc2 (put b n bx) (put p n px) (put c n cx1) S ++ F) Φ1 := by
      unfold bgO
      rw [sC_succ, rps_succ, show rC (put b n bx) (n + 1) = rC b n ++ [ptrV bx] from range_map_put b ptrV n bx]
      refine cx8.perm ?_
      have e1 : ([Own.buf sp2 (n + 1) sc2 (sC n ++ kept0) 42 4, .buf rp2 (n + 1) rc2 (rC b n ++ [ptrV bx]) 46 1, .blk x [.slice rp2 (n + 1) rc2, .slice sp2 (n + 1) sc2, .slice none 0 0] 34]).Perm [.blk x [.slice rp2 (n + 1) rc2, .slice sp2 (n + 1) sc2, .slice none 0 0] 34, .buf rp2 (n + 1) rc2 (rC b n ++ [ptrV bx]) 46 1, .buf sp2 (n + 1) sc2 (sC n ++ kept0) 42 4] := List.reverse_perm [Own.blk x [.slice rp2 (n + 1) rc2, .slice sp2 (n + 1) sc2, .slice none 0 0] 34, .buf rp2 (n + 1) rc2 (rC b n ++ [ptrV bx]) 46 1, .buf sp2 (n + 1) sc2 (sC n ++ kept0) 42 4]
      have e2 : (repO bx (newRep n 0 (-1) []) px cx1 ++ (rpsO b p c n ++ S) ++ F).Perm (rpsO b p c n ++ repO bx (newRep n 0 (-1) []) px cx1 ++ S ++ F) := by
        have e3 : (repO bx (newRep n 0 (-1) []) px cx1 ++ (rpsO b p c n ++ S) ++ F).Perm ((repO bx (newRep n 0 (-1) []) px cx1 ++ rpsO b p c n) ++ (S ++ F)) := List.Perm.of_eq (by simp)
        exact e3.trans ((List.Perm.append_right _ List.perm_append_comm).trans (List.Perm.of_eq (by simp)))
      exact (e1.append e2).trans (List.Perm.of_eq (by simp))
    exact ⟨_, Φ1, inferInstance, cx9, by unfold I64; omega, _, Φ1, _, inferInstance, fun w F cx => cx, ⟨n + 1, rp2, sp2, rc2, sc2, put b n bx, put p n px, put c n cx1, rfl, hlt, rfl, rfl, rfl⟩, by omega⟩
  · have hn3 : n = 3 := by have := of_decide_eq_false hge; omega
    subst hn3
    obtain ⟨g, hg, _⟩ := cx.bufCell 1 rfl (show 0 < 3 by decide)
    have h0 := cx.bufGet 1 rfl hg (show (rC b 3)[0]? = some (ptrV (b 0)) from rfl)
    have h1 := cx.bufGet 1 rfl hg (show (rC b 3)[1]? = some (ptrV (b 1)) from rfl)
    have h2 := cx.bufGet 1 rfl hg (show (rC b 3)[2]? = some (ptrV (b 2)) from rfl)
    refine ⟨rp, 3, rc, cx.get 0 rfl rfl, by omega, ptrK_intro g 0 hg ⟨some ⟨b 0, 0, none⟩, h0, rp, 3, rc, fun _ => cx.get 0 rfl rfl, fun _ => by omega, ptrK_intro g 0 hg ⟨some ⟨b 1, 0, none⟩, fun _ => h1, rp, 3, rc, fun _ => cx.get 0 rfl rfl, fun _ => by omega, ptrK_intro g 0 hg ⟨some ⟨b 2, 0, none⟩, fun _ => h2, Br.intro (fun h => by cases h) (fun _ => fun w F cx => ?_)⟩⟩⟩⟩
    have cx1 := (cx.left).nobuf 37 9
    have hL : ∃ L : Lay, L = ⟨x, rp, rc, sp, sc, none, 0, [], b, p, c, fun _ => none, fun _ => 0⟩ := ⟨_, rfl⟩
    obtain ⟨L, hL⟩ := hL
    have cx2 : Ctx W w (clO L cl0 ++ S) Φ1 := by
      refine cx1.perm ?_
      rw [hL]
      exact (List.perm_middle (l₁ := [Own.blk x [.slice rp 3 rc, .slice sp 3 sc, .slice none 0 0] 34, .buf rp 3 rc (rC b 3) 46 1, .buf sp 3 sc (sC 3) 42 4])).symm.trans (List.Perm.of_eq (by simp [rpsO, clO, heads, repsO, repI, cl0, nd0, List.range_succ]; exact ⟨rfl, rfl⟩))
    have := hK L w (cx2.weak fun M w h => ⟨h, by rw [hL]; exact ⟨Elems.nil, ⟨Nat.le_refl _, Sl.nil⟩, ⟨Nat.le_refl _, Sl.nil⟩, ⟨Nat.le_refl _, Sl.nil⟩⟩⟩)
    rw [hL] at this
    exact this

end Go.Proofs.Ytifgijoeckoojaa
end

/-
  Votes, plain: nobody says Yes to two others in one term.
-/
section
set_option linter.unusedVariables false
set_option linter.unusedSimpArgs false
namespace Go.Proofs.Ytifgijoeckoojaa
open Go.Vc

def YesM (m : MsgR) : Prop := m.kind = 1 ∧ m.yes = true

/-- what a call does to the vote, and to whom it says Yes -/
structure VFit (r : Rep) (x : Rep × OutR) : Prop where
  keep : r.term = x.1.term → r.vote ≠ -1 → x.1.vote = r.vote
  yes : ∀ m ∈ x.2.send, YesM m → m.src = r.id ∧ m.term = x.1.term ∧ m.to = x.1.vote ∧ 0 ≤ m.to

theorem all_kind (r : Rep) : ∀ m ∈ allOf r, m.kind = 2 := fun m hm => by
  unfold allOf at hm
  obtain ⟨i, _, rfl⟩ := List.mem_map.1 hm
  rfl

theorem no_yes {l : List MsgR} {k : Int} (hk : k ≠ 1) (h : ∀ m ∈ l, m.kind = k) {P : MsgR → Prop} : ∀ m ∈ l, YesM m → P m := fun m hm hy => absurd ((h m hm).symm.trans hy.1) hk

theorem tick_v (r : Rep) : VFit r (tickP r) := by
  unfold tickP
  split
  · exact ⟨fun _ _ => rfl, no_yes (by decide) (all_kind r)⟩
  split
  · exact ⟨fun _ _ => rfl, fun m hm => by cases hm⟩
  · refine ⟨fun h => ?_, fun m hm hy => ?_⟩
    · have : r.term = r.term + 1 := h
      omega
    · obtain ⟨i, _, rfl⟩ := List.mem_map.1 hm
      cases hy.1

theorem prop_v (r : Rep) (data : ByteArray) : VFit r ((proposeP r data).1, (proposeP r data).2.2.2) := by
  unfold proposeP
  split
  · exact ⟨fun _ _ => rfl, fun m hm => by cases hm⟩
  split
  · exact ⟨fun _ _ => rfl, fun m hm => by cases hm⟩
  split
  · exact ⟨fun _ _ => rfl, fun m hm => by cases hm⟩
  · exact ⟨fun _ _ => rfl, no_yes (by decide) (all_kind _)⟩

theorem vote_v (r : Rep) (m : MsgR) (h0 : 0 ≤ m.src) : VFit r (voteP r m) ∧ (voteP r m).1.term = r.term := by
  unfold voteP
  split
  · rename_i hc
    simp only [Bool.and_eq_true, Bool.or_eq_true, decide_eq_true_eq] at hc
    refine ⟨⟨fun _ hv => ?_, fun v hv hy => ?_⟩, rfl⟩
    · rcases hc.1.2 with h | h
      · exact absurd h hv
      · exact h.symm
    · rw [List.mem_singleton.1 hv]
      exact ⟨rfl, rfl, rfl, h0⟩
  · refine ⟨⟨fun _ _ => rfl, fun v hv hy => ?_⟩, rfl⟩
    rw [List.mem_singleton.1 hv] at hy
    cases hy.2

/-- term and vote stay, and nobody hears Yes -/
structure Mute (r : Rep) (x : Rep × OutR) : Prop where
  term : x.1.term = r.term
  vote : x.1.vote = r.vote
  send : ∀ m ∈ x.2.send, m.kind ≠ 1

theorem mute0 {r r' : Rep} (h1 : r'.term = r.term) (h2 : r'.vote = r.vote) : Mute r (r', out0) := ⟨h1, h2, fun m hm => by cases hm⟩

theorem voted_mute (r : Rep) (m : MsgR) : Mute r (votedP r m) := by
  unfold votedP
  split
  · exact mute0 rfl rfl
  simp only
  split
  · exact mute0 rfl rfl
  · exact ⟨rfl, rfl, fun v hv => by rw [all_kind _ v hv]; decide⟩

theorem append_mute (r : Rep) (m : MsgR) : Mute r (appendP r m) := by
  have h3 : ∀ {r' : Rep} {a : MsgR}, r'.term = r.term → r'.vote = r.vote → a.kind = 3 → Mute r (r', outS [a]) := fun h1 h2 h => ⟨h1, h2, fun v hv => by rw [List.mem_singleton.1 hv, h]; decide⟩
  unfold appendP
  split
  · exact h3 rfl rfl rfl
  split
  · exact mute0 rfl rfl
  simp only
  split
  · exact h3 rfl rfl rfl
  split
  · split
    · exact mute0 rfl rfl
    · exact ⟨rfl, rfl, fun v hv => by rw [List.mem_singleton.1 hv]; show (3 : Int) ≠ 1; decide⟩
  · exact h3 rfl rfl rfl

theorem adv_tv (r : Rep) : (advanceP r).term = r.term ∧ (advanceP r).vote = r.vote := by
  unfold advanceP
  split <;> exact ⟨rfl, rfl⟩

theorem appended_mute (r : Rep) (m : MsgR) : Mute r (appendedP r m) := by
  have h2 : ∀ {r' : Rep} {a : MsgR}, r'.term = r.term → r'.vote = r.vote → a.kind = 2 → Mute r (r', outS [a]) := fun h1 h2 h => ⟨h1, h2, fun v hv => by rw [List.mem_singleton.1 hv, h]; decide⟩
  unfold appendedP
  split
  · exact mute0 rfl rfl
  simp only
  split
  · exact h2 rfl rfl rfl
  split
  · exact h2 (adv_tv _).1 (adv_tv _).2 rfl
  · exact mute0 (adv_tv _).1 (adv_tv _).2

theorem Mute.v {r r1 : Rep} {x : Rep × OutR} (h : Mute r1 x) (h1 : r1.term = r.term → r1.vote = r.vote) : VFit r x :=
  ⟨fun ht _ => by rw [h.vote, h1 (by rw [← h.term, ← ht])], fun m hm hy => absurd hy.1 (h.send m hm)⟩

theorem fin_v {r : Rep} {x : Rep × OutR} (h : VFit r x) : VFit r (finO r x) := by
  unfold finO
  split
  · exact h
  · exact ⟨h.keep, h.yes⟩

theorem hear_v (r : Rep) (m : MsgR) : VFit r (hearP r m) := by
  cases hy : rightP r.id m with
  | false => rw [hear_no hy]; exact ⟨fun _ _ => rfl, fun v hv => by cases hv⟩
  | true =>
    have hm := right_iff.1 hy
    rw [hear_yes hy]
    refine fin_v ?_
    obtain ⟨r1, hr1⟩ : ∃ r1, (if r.term < m.term then upR r m else r) = r1 := ⟨_, rfl⟩
    have h1 : r1.term = r.term → r1.vote = r.vote := by
      rw [← hr1]
      split
      · rename_i hlt
        intro h
        have : m.term = r.term := h
        omega
      · exact fun _ => rfl
    have hid : r1.id = r.id := by rw [← hr1]; split <;> rfl
    rw [hr1]
    unfold hearX
    split
    · obtain ⟨⟨hk, hs⟩, ht⟩ := vote_v r1 m hm.src.2.1
      refine ⟨fun h hv => ?_, fun v hv hyv => ?_⟩
      · have e := h1 (by rw [← ht, ← h])
        rw [hk (by rw [ht]) (by rw [e]; exact hv), e]
      · rw [← hid]; exact hs v hv hyv
    split
    · exact (voted_mute r1 m).v h1
    split
    · exact (append_mute r1 m).v h1
    · exact (appended_mute r1 m).v h1

/-! ### the cluster -/
structure VInv (C : Cl) (said : List MsgR) : Prop where
  wf : C.Wf
  one : ∀ m ∈ C.sent ++ said, YesM m → ∃ j : Nat, j < 3 ∧ m.src = j ∧ m.term ≤ (C.nd j).rep.term ∧ (m.term = (C.nd j).rep.term → (C.nd j).rep.vote = m.to) ∧ 0 ≤ m.to
  two : ∀ m ∈ C.sent ++ said, ∀ m' ∈ C.sent ++ said, YesM m → YesM m' → m.src = m'.src → m.term = m'.term → m.to = m'.to
  all : ∀ m ∈ said, YesM m

structure VStep (C C' : Cl) : Prop where
  wf : C'.Wf
  up : ∀ j, j < 3 → (C.nd j).rep.term ≤ (C'.nd j).rep.term ∧ ((C.nd j).rep.term = (C'.nd j).rep.term → (C.nd j).rep.vote ≠ -1 → (C'.nd j).rep.vote = (C.nd j).rep.vote)
  new : ∀ m ∈ C'.sent, m ∈ C.sent ∨ (YesM m → ∃ j : Nat, j < 3 ∧ m.src = j ∧ m.term = (C'.nd j).rep.term ∧ m.to = (C'.nd j).rep.vote ∧ 0 ≤ m.to)

theorem VInv.step {C C' : Cl} {said : List MsgR} (h : VInv C said) (s : VStep C C') : VInv C' said := by
  have old : ∀ m ∈ C.sent ++ said, YesM m → ∃ j : Nat, j < 3 ∧ m.src = j ∧ m.term ≤ (C'.nd j).rep.term ∧ (m.term = (C'.nd j).rep.term → (C'.nd j).rep.vote = m.to) ∧ 0 ≤ m.to := fun m hm hy => by
    obtain ⟨j, hj, h1, h2, h3, h4⟩ := h.one m hm hy
    obtain ⟨u1, u2⟩ := s.up j hj
    refine ⟨j, hj, h1, by omega, fun ht => ?_, h4⟩
    have e1 : (C.nd j).rep.term = (C'.nd j).rep.term := by omega
    have e2 : (C.nd j).rep.vote = m.to := h3 (by omega)
    rw [u2 e1 (by omega), e2]
  have cases : ∀ m ∈ C'.sent ++ said, m ∈ C.sent ++ said ∨ (YesM m → ∃ j : Nat, j < 3 ∧ m.src = j ∧ m.term = (C'.nd j).rep.term ∧ m.to = (C'.nd j).rep.vote ∧ 0 ≤ m.to) := fun m hm => by
    rcases List.mem_append.1 hm with hm | hm
    · rcases s.new m hm with h1 | h1
      · exact .inl (List.mem_append_left _ h1)
      · exact .inr h1
    · exact .inl (List.mem_append_right _ hm)
  have mix : ∀ m m' : MsgR, (∃ j : Nat, j < 3 ∧ m.src = j ∧ m.term = (C'.nd j).rep.term ∧ m.to = (C'.nd j).rep.vote ∧ 0 ≤ m.to) → (∃ j : Nat, j < 3 ∧ m'.src = j ∧ m'.term ≤ (C'.nd j).rep.term ∧ (m'.term = (C'.nd j).rep.term → (C'.nd j).rep.vote = m'.to) ∧ 0 ≤ m'.to) → m.src = m'.src → m.term = m'.term → m.to = m'.to := by
    rintro m m' ⟨j, _, a1, a2, a3, _⟩ ⟨j', _, b1, _, b3, _⟩ hs ht
    have : j = j' := by omega
    subst this
    rw [a3, b3 (by omega)]
  refine ⟨s.wf, fun m hm hy => ?_, fun m hm m' hm' hy hy' hs ht => ?_, h.all⟩
  · rcases cases m hm with h1 | h1
    · exact old m h1 hy
    · obtain ⟨j, hj, a1, a2, a3, a4⟩ := h1 hy
      exact ⟨j, hj, a1, by omega, fun _ => a3.symm, a4⟩
  · rcases cases m hm with h1 | h1
    · rcases cases m' hm' with h2 | h2
      · exact h.two m h1 m' h2 hy hy' hs ht
      · exact (mix m' m (h2 hy') (old m h1 hy) hs.symm ht.symm).symm
    · rcases cases m' hm' with h2 | h2
      · exact mix m m' (h1 hy) (old m' h2 hy') hs ht
      · obtain ⟨j, hj, a1, a2, a3, a4⟩ := h2 hy'
        exact mix m m' (h1 hy) ⟨j, hj, a1, by omega, fun _ => a3.symm, a4⟩ hs ht

/-- one node changes -/
theorem step_node {C C' : Cl} (hw : C'.Wf) {i : Nat} (hi : i < 3) (hne : ∀ j, j ≠ i → C'.nd j = C.nd j) (h1 : (C.nd i).rep.term ≤ (C'.nd i).rep.term) (h2 : (C.nd i).rep.term = (C'.nd i).rep.term → (C.nd i).rep.vote ≠ -1 → (C'.nd i).rep.vote = (C.nd i).rep.vote)
    (h3 : ∀ m ∈ C'.sent, m ∈ C.sent ∨ (YesM m → m.src = i ∧ m.term = (C'.nd i).rep.term ∧ m.to = (C'.nd i).rep.vote ∧ 0 ≤ m.to)) : VStep C C' := by
  refine ⟨hw, fun j hj => ?_, fun m hm => ?_⟩
  · by_cases hji : j = i
    · subst hji; exact ⟨h1, h2⟩
    · rw [hne j hji]; exact ⟨Int.le_refl _, fun _ _ => rfl⟩
  · rcases h3 m hm with h | h
    · exact .inl h
    · exact .inr fun hy => ⟨i, hi, h hy⟩

theorem start_v {C : Cl} (h : C.Wf) {i : Nat} (hi : i < 3) : VStep C (startC C i) := by
  obtain ⟨h1, h2, h3⟩ := h.hard i hi
  have e : (startC C i).nd i = startN i (C.nd i) := put_self _ _ _
  refine step_node (start_wf h hi) hi (fun j hj => put_ne _ _ hj) ?_ ?_ fun m hm => .inl hm
  · rw [e]; show _ ≤ (C.nd i).sterm; omega
  · rw [e]; exact fun _ _ => h2

theorem call_v {C : Cl} (h : C.Wf) {i : Nat} (hi : i < 3) {x : Rep × OutR} (hx : x.1.Wf) (hf : Fits (C.nd i).rep x.1 x.2) (hv : VFit (C.nd i).rep x) : VStep C (callC C i x) := by
  have hid := (h.rep i hi).2
  have hw := call_wf h hi hx hf
  rw [call_cases h hi hf] at hw ⊢
  split
  · exact start_v h hi
  rename_i hs1
  rw [if_neg hs1] at hw
  split
  · rename_i hs2
    rw [if_pos hs2] at hw
    have e : (startC (hardC C i x.1) i).nd i = startN i (hardN (C.nd i) x.1) := by
      unfold startC hardC
      simp only [put_self]
    refine step_node hw hi (fun j hj => ?_) ?_ ?_ fun m hm => .inl hm
    · unfold startC hardC
      simp only [put_put]
      exact put_ne _ _ hj
    · rw [e]; exact hf.term
    · rw [e]; exact hv.keep
  · rename_i hs2
    rw [if_neg hs2] at hw
    have e : ({ hardC C i x.1 with sent := C.sent ++ x.2.send.take (300 - C.sent.length) } : Cl).nd i = hardN (C.nd i) x.1 := put_self _ _ _
    refine step_node hw hi (fun j hj => put_ne _ _ hj) ?_ ?_ fun m hm => ?_
    · rw [e]; exact hf.term
    · rw [e]; exact hv.keep
    · rcases List.mem_append.1 hm with hm | hm
      · exact .inl hm
      · refine .inr fun hy => ?_
        rw [e]
        obtain ⟨a, b⟩ := hv.yes m (List.mem_of_mem_take hm) hy
        exact ⟨by rw [a, hid], b⟩

theorem drop_v {C : Cl} (h : C.Wf) {n : Nat} (hn : n < C.sent.length) : VStep C (dropC C n) :=
  ⟨drop_wf h hn, fun j hj => ⟨Int.le_refl _, fun _ _ => rfl⟩, fun m hm => .inl (by
    rcases List.mem_append.1 hm with hm | hm
    · exact List.mem_of_mem_take hm
    · exact List.mem_of_mem_drop hm)⟩

theorem deliver_v {C : Cl} (h : C.Wf) (m : MsgR) : VStep C (deliver C m) := by
  have hi := who_lt m.to
  have hh := hear_wf (m := m) (h.rep _ hi).1
  exact call_v h hi hh.1 hh.2 (hear_v _ m)

theorem VInv.arrive {C : Cl} {said : List MsgR} (h : VInv C said) (n : Int) (keep : Bool) : VInv (arriveC C n keep) said := by
  unfold arriveC
  split
  · exact h
  · rename_i m hm
    have hlt := (List.getElem?_eq_some_iff.1 hm).1
    cases keep with
    | true => exact h.step (deliver_v h.wf m)
    | false =>
      have h1 := h.step (drop_v h.wf hlt)
      exact h1.step (deliver_v h1.wf m)

theorem VInv.cluster {C : Cl} {said : List MsgR} (h : VInv C said) (x : OpR) : VInv (stepCl C x) said := by
  have hi := who_lt x.who
  have h1 := and_one x.n
  have hrw := (h.wf.rep _ hi).1
  unfold stepCl
  simp only
  split
  · unfold loseC
    split
    · rename_i h0
      have hp := pickZ_lt (n := x.n) (show (0 : Int) < C.sent.length by omega)
      exact h.step (drop_v h.wf (by omega))
    · exact h
  split
  · exact h.arrive _ _
  split
  · have := tick_wf hrw
    exact h.step (call_v h.wf hi this.1 this.2 (tick_v _))
  split
  · have := propose_wf hrw x.data
    exact h.step (call_v (x := ((proposeP (C.nd (pickZ x.who 3).toNat).rep x.data).1, (proposeP (C.nd (pickZ x.who 3).toNat).rep x.data).2.2.2)) h.wf hi this.1 this.2 (prop_v _ _))
  split
  · exact h.step (start_v h.wf hi)
  split
  · have e : (stopC C (pickZ x.who 3).toNat (1 + andZ x.n 1)).nd (pickZ x.who 3).toNat = { C.nd (pickZ x.who 3).toNat with stop := 1 + andZ x.n 1 } := put_self _ _ _
    refine h.step (step_node (stop_wf h.wf hi (by omega)) hi (fun j hj => put_ne _ _ hj) ?_ ?_ fun m hm => .inl hm)
    · rw [e]; exact Int.le_refl _
    · rw [e]; exact fun _ _ => rfl
  · exact h.arrive _ _

end Go.Proofs.Ytifgijoeckoojaa
end

/-
  ReplicaVotes, walked.
-/
section
set_option linter.unusedVariables false
set_option linter.unusedSimpArgs false
namespace Go.Proofs.Ytifgijoeckoojaa
open Go.Vc

abbrev EPhi (Φ : PW) (gs : List Value) (said : List MsgR) : PW := fun M w => Φ M w ∧ Elems M w gs said
instance ephi_stable (Φ : PW) [Stable Φ] (gs : List Value) (said : List MsgR) : Stable (EPhi Φ gs said) := instStableAnd Φ (fun M w => Elems M w gs said)
end Go.Proofs.Ytifgijoeckoojaa
end

/-
  Logs, plain: prefixes of what leaders had.
-/
section
set_option linter.unusedVariables false
set_option linter.unusedSimpArgs false
namespace Go.Proofs.Ytifgijoeckoojaa
open Go.Vc

/-- up to each entry, the list is the list of that entry's term -/
def Pre (LL : Int → List RecD) (l : List RecD) : Prop := ∀ p x, l[p]? = some x → l.take (p + 1) = (LL x.term).take (p + 1)

def Ext (LL LL' : Int → List RecD) : Prop := ∀ t, ∃ s, LL' t = LL t ++ s
theorem Ext.refl (LL : Int → List RecD) : Ext LL LL := fun t => ⟨[], (List.append_nil _).symm⟩

theorem pre_nil (LL : Int → List RecD) : Pre LL [] := fun p x h => by simp at h

theorem pre_take {LL : Int → List RecD} {l : List RecD} (h : Pre LL l) (n : Nat) : Pre LL (l.take n) := fun p x hx => by
  rw [List.getElem?_take] at hx
  split at hx
  · rename_i hp
    rw [List.take_take, Nat.min_eq_left (by omega)]
    exact h p x hx
  · cases hx

theorem take_len {LL : Int → List RecD} {l : List RecD} {p : Nat} {t : Int} (hp : p < l.length) (h : l.take (p + 1) = (LL t).take (p + 1)) : p < (LL t).length := by
  have := congrArg List.length h
  rw [List.length_take, List.length_take] at this
  omega

theorem pre_ext {LL LL' : Int → List RecD} (he : Ext LL LL') {l : List RecD} (h : Pre LL l) : Pre LL' l := fun p x hx => by
  have h1 := h p x hx
  have hp := (List.getElem?_eq_some_iff.1 hx).1
  have h2 := take_len hp h1
  obtain ⟨s, hs⟩ := he x.term
  rw [hs, List.take_append_of_le_length (by omega)]
  exact h1

theorem pre_match {LL : Int → List RecD} {a b : List RecD} (ha : Pre LL a) (hb : Pre LL b) {p : Nat} {x y : RecD} (hx : a[p]? = some x) (hy : b[p]? = some y) (e : x.term = y.term) : a.take (p + 1) = b.take (p + 1) := by
  rw [ha p x hx, hb p y hy, e]

theorem term_some {l : List RecD} {p : Nat} {x : RecD} (h : l[p]? = some x) : termAt l (p + 1) = x.term := by
  show (match l[p]? with
    | some x => x.term
    | none => 0) = x.term
  rw [h]

theorem term_ext {l s : List RecD} {p : Nat} (h : p ≤ l.length) : termAt (l ++ s) p = termAt l p := by
  cases p with
  | zero => rfl
  | succ p =>
    have hp : p < l.length := h
    obtain ⟨x, hx⟩ : ∃ x, l[p]? = some x := ⟨_, List.getElem?_eq_getElem hp⟩
    rw [term_some hx, term_some (x := x) (by rw [List.getElem?_append_left hp]; exact hx)]

theorem match_at {LL : Int → List RecD} {a b : List RecD} (ha : Pre LL a) (hb : Pre LL b) {ix : Nat} (h1 : ix ≤ a.length) (h2 : ix ≤ b.length) (e : termAt a ix = termAt b ix) : a.take ix = b.take ix := by
  cases ix with
  | zero => simp
  | succ p =>
    obtain ⟨x, hx⟩ : ∃ x, a[p]? = some x := ⟨_, List.getElem?_eq_getElem h1⟩
    obtain ⟨y, hy⟩ : ∃ y, b[p]? = some y := ⟨_, List.getElem?_eq_getElem h2⟩
    rw [term_some hx, term_some hy] at e
    exact pre_match ha hb hx hy e

/-- a slice of M that fits behind l: l agrees with M as far as the terms do -/
theorem match_agree {LL : Int → List RecD} {l M recs : List RecD} {ix : Nat} (hl : Pre LL l) (hM : Pre LL M) (h1 : ix ≤ l.length) (h2 : ix + recs.length ≤ M.length) (hr : recs = (M.drop ix).take recs.length) (e : termAt l ix = termAt M ix) :
    l.take (ix + agree (l.drop ix) recs) = M.take (ix + agree (l.drop ix) recs) := by
  rcases Nat.eq_zero_or_pos (agree (l.drop ix) recs) with h0 | h0
  · rw [h0]
    exact match_at hl hM h1 (by omega) e
  · obtain ⟨k, hk⟩ : ∃ k, agree (l.drop ix) recs = k + 1 := ⟨agree (l.drop ix) recs - 1, by omega⟩
    rw [hk]
    obtain ⟨ha, hb, ht⟩ := agree_terms (l.drop ix) recs k (by omega)
    have hx : l[ix + k]? = some (l.drop ix)[k] := by
      rw [List.getElem_drop]
      exact List.getElem?_eq_getElem _
    have hy : M[ix + k]? = some recs[k] := by
      have h3 : recs[k]? = some recs[k] := List.getElem?_eq_getElem hb
      have h4 : ((M.drop ix).take recs.length)[k]? = some recs[k] := by rw [← hr]; exact h3
      rw [List.getElem?_take_of_lt hb, List.getElem?_drop] at h4
      exact h4
    exact pre_match hl hM hx hy ht

theorem slice_drop {M recs : List RecD} {ix k : Nat} (hr : recs = (M.drop ix).take recs.length) : recs.drop k = (M.drop (ix + k)).take (recs.length - k) := by
  have h : ((M.drop ix).take recs.length).drop k = (M.drop (ix + k)).take (recs.length - k) := by rw [List.drop_take, List.drop_drop]
  rw [← h, ← hr]

/-- the new list is a prefix of M -/
theorem match_new {LL : Int → List RecD} {l M recs : List RecD} {ix : Nat} (hl : Pre LL l) (hM : Pre LL M) (h1 : ix ≤ l.length) (h2 : ix + recs.length ≤ M.length) (hr : recs = (M.drop ix).take recs.length) (e : termAt l ix = termAt M ix) (hk : agree (l.drop ix) recs ≤ recs.length) :
    l.take (ix + agree (l.drop ix) recs) ++ recs.drop (agree (l.drop ix) recs) = M.take (ix + recs.length) := by
  rw [match_agree hl hM h1 h2 hr e, slice_drop hr, ← List.take_add]
  congr 1
  omega

end Go.Proofs.Ytifgijoeckoojaa
end

/-
  Leaders and logs, plain: one leader a term; every log is made of prefixes of leaders' logs.
-/
section
set_option linter.unusedVariables false
set_option linter.unusedSimpArgs false
namespace Go.Proofs.Ytifgijoeckoojaa
open Go.Vc

/-- what was: to whom each gave its vote, who led, and the leaders' logs -/
structure Gh where
  V : Int → Nat → Int
  ld : Int → Int
  LL : Int → List RecD

def AppM (LL : Int → List RecD) (m : MsgR) : Prop :=
  0 ≤ m.index ∧ m.index.toNat + m.recs.length ≤ (LL m.term).length ∧ m.recs = ((LL m.term).drop m.index.toNat).take m.recs.length ∧ m.prev = termAt (LL m.term) m.index.toNat

structure MInv (C : Cl) (g : Gh) : Prop where
  wf : C.Wf
  now : ∀ j, j < 3 → g.V (C.nd j).rep.term j = (C.nd j).rep.vote
  later : ∀ j, j < 3 → ∀ t, (C.nd j).rep.term < t → g.V t j = -1
  yes : ∀ m ∈ C.sent, YesM m → ∃ j : Nat, j < 3 ∧ m.src = j ∧ g.V m.term j = m.to ∧ 0 ≤ m.to
  cand : ∀ i, i < 3 → (C.nd i).rep.role = 1 → (∀ j, j < 3 → (C.nd i).rep.votes j = true → g.V (C.nd i).rep.term j = i) ∧ g.ld (C.nd i).rep.term ≠ i
  lead : ∀ i, i < 3 → (C.nd i).rep.role = 2 → g.ld (C.nd i).rep.term = i ∧ g.LL (C.nd i).rep.term = (C.nd i).rep.log
  quo : ∀ t, g.ld t ≠ -1 → ∃ a b, a < 3 ∧ b < 3 ∧ a ≠ b ∧ g.V t a = g.ld t ∧ g.V t b = g.ld t
  ldt : ∀ t, g.ld t ≠ -1 → ∃ j : Nat, j < 3 ∧ g.ld t = j ∧ t ≤ (C.nd j).rep.term
  none : ∀ t, g.ld t = -1 → g.LL t = []
  log : ∀ i, i < 3 → Pre g.LL (C.nd i).rep.log
  ll : ∀ t, Pre g.LL (g.LL t)
  app : ∀ m ∈ C.sent, m.kind = 2 → AppM g.LL m

theorem AppM.ext {LL LL' : Int → List RecD} (he : Ext LL LL') {m : MsgR} (h : AppM LL m) : AppM LL' m := by
  obtain ⟨h1, h2, h3, h4⟩ := h
  obtain ⟨s, hs⟩ := he m.term
  refine ⟨h1, by rw [hs, List.length_append]; omega, ?_, ?_⟩
  · rw [hs, List.drop_append_of_le_length (by omega), List.take_append_of_le_length (by rw [List.length_drop]; omega)]
    exact h3
  · rw [hs, term_ext (by omega)]
    exact h4

def voteV (V : Int → Nat → Int) (i : Nat) (t v : Int) : Int → Nat → Int := fun u j => if u = t ∧ j = i then v else V u j

theorem voteV_self (V : Int → Nat → Int) (i : Nat) (t v : Int) : voteV V i t v t i = v := if_pos ⟨rfl, rfl⟩
theorem voteV_ne (V : Int → Nat → Int) {i j : Nat} {t u : Int} (v : Int) (h : ¬ (u = t ∧ j = i)) : voteV V i t v u j = V u j := if_neg h

/-- what node i may become, and send -/
structure MFit (C : Cl) (g : Gh) (i : Nat) (r : Rep) (send : List MsgR) (g' : Gh) : Prop where
  V : g'.V = voteV g.V i r.term r.vote
  up : (C.nd i).rep.term ≤ r.term
  keep : (C.nd i).rep.term = r.term → (C.nd i).rep.vote ≠ -1 → r.vote = (C.nd i).rep.vote
  yes : ∀ m ∈ send, YesM m → m.src = i ∧ m.term = r.term ∧ m.to = r.vote ∧ 0 ≤ m.to
  ld : ∀ t, g'.ld t = g.ld t ∨ (g.ld t = -1 ∧ g'.ld t = i ∧ t ≤ r.term ∧ ∃ a b, a < 3 ∧ b < 3 ∧ a ≠ b ∧ g'.V t a = i ∧ g'.V t b = i)
  ext : Ext g.LL g'.LL
  LL : ∀ t, g'.LL t = g.LL t ∨ (g'.ld t = i ∧ Pre g'.LL (g'.LL t))
  cand : r.role = 1 → (∀ j, j < 3 → r.votes j = true → g'.V r.term j = i) ∧ g'.ld r.term ≠ i
  lead : r.role = 2 → g'.ld r.term = i ∧ g'.LL r.term = r.log
  log : Pre g'.LL r.log
  app : ∀ m ∈ send, m.kind = 2 → AppM g'.LL m

theorem MFit.oldV {C : Cl} {g g' : Gh} {i : Nat} {r : Rep} {send : List MsgR} (f : MFit C g i r send g') (h : MInv C g) (hi : i < 3) {t : Int} {j : Nat} (hv : g.V t j ≠ -1) : g'.V t j = g.V t j := by
  rw [f.V]
  by_cases hc : t = r.term ∧ j = i
  · obtain ⟨rfl, rfl⟩ := hc
    rw [voteV_self]
    have hup := f.up
    rcases Int.lt_or_eq_of_le hup with hlt | heq
    · exact absurd (h.later j hi r.term hlt) hv
    · have h1 := h.now j hi
      rw [heq] at h1
      rw [f.keep heq (by rw [← h1]; exact hv), ← h1]
  · exact voteV_ne _ _ hc

theorem MInv.node {C C' : Cl} {g g' : Gh} {i : Nat} {r : Rep} {send : List MsgR} (h : MInv C g) (hi : i < 3) (f : MFit C g i r send g') (hw : C'.Wf) (hr : (C'.nd i).rep = r) (hne : ∀ j, j ≠ i → C'.nd j = C.nd j) (hs : ∀ m ∈ C'.sent, m ∈ C.sent ∨ m ∈ send) : MInv C' g' := by
  have old := fun {t : Int} {j : Nat} (hv : g.V t j ≠ -1) => f.oldV h hi hv
  refine ⟨hw, fun j hj => ?_, fun j hj t ht => ?_, fun m hm hy => ?_, fun j hj hrole => ?_, fun j hj hrole => ?_, fun t ht => ?_, fun t ht => ?_, fun t ht => ?_, fun j hj => ?_, fun t => ?_, fun m hm hk => ?_⟩
  · by_cases hji : j = i
    · subst hji
      rw [hr, f.V, voteV_self]
    · rw [hne j hji, f.V, voteV_ne _ _ (fun hc => hji hc.2)]
      exact h.now j hj
  · by_cases hji : j = i
    · subst hji
      rw [hr] at ht
      have := f.up
      rw [f.V, voteV_ne _ _ (by omega)]
      exact h.later j hj t (by omega)
    · rw [hne j hji] at ht
      rw [f.V, voteV_ne _ _ (fun hc => hji hc.2)]
      exact h.later j hj t ht
  · rcases hs m hm with hm | hm
    · obtain ⟨j, hj, a1, a2, a3⟩ := h.yes m hm hy
      exact ⟨j, hj, a1, by rw [old (by omega), a2], a3⟩
    · obtain ⟨a1, a2, a3, a4⟩ := f.yes m hm hy
      exact ⟨i, hi, a1, by rw [f.V, a2, voteV_self, a3], a4⟩
  · by_cases hji : j = i
    · subst hji
      rw [hr] at hrole ⊢
      exact f.cand hrole
    · rw [hne j hji] at hrole ⊢
      obtain ⟨a1, a2⟩ := h.cand j hj hrole
      refine ⟨fun k hk hv => ?_, ?_⟩
      · have := a1 k hk hv
        rw [old (by omega), this]
      · rcases f.ld (C.nd j).rep.term with e | ⟨_, e, _⟩
        · rw [e]; exact a2
        · rw [e]; omega
  · by_cases hji : j = i
    · subst hji
      rw [hr] at hrole ⊢
      exact f.lead hrole
    · rw [hne j hji] at hrole ⊢
      obtain ⟨a1, a2⟩ := h.lead j hj hrole
      have e1 : g'.ld (C.nd j).rep.term = j := by
        rcases f.ld (C.nd j).rep.term with e | ⟨e, _⟩
        · rw [e]; exact a1
        · omega
      refine ⟨e1, ?_⟩
      rcases f.LL (C.nd j).rep.term with e | ⟨e, _⟩
      · rw [e]; exact a2
      · omega
  · rcases f.ld t with e | ⟨_, e, _, a, b, a1, a2, a3, a4, a5⟩
    · rw [e] at ht ⊢
      obtain ⟨a, b, a1, a2, a3, a4, a5⟩ := h.quo t ht
      exact ⟨a, b, a1, a2, a3, by rw [old (by rw [a4]; exact ht), a4], by rw [old (by rw [a5]; exact ht), a5]⟩
    · exact ⟨a, b, a1, a2, a3, by rw [a4, e], by rw [a5, e]⟩
  · rcases f.ld t with e | ⟨_, e, a1, _⟩
    · rw [e] at ht ⊢
      obtain ⟨j, hj, a1, a2⟩ := h.ldt t ht
      refine ⟨j, hj, a1, ?_⟩
      by_cases hji : j = i
      · subst hji
        rw [hr]
        have := f.up
        omega
      · rw [hne j hji]; exact a2
    · exact ⟨i, hi, e, by rw [hr]; exact a1⟩
  · have e1 : g.ld t = -1 := by
      rcases f.ld t with e | ⟨e, e2, _⟩
      · rw [← e]; exact ht
      · exact e
    rcases f.LL t with e | ⟨e, _⟩
    · rw [e]; exact h.none t e1
    · omega
  · by_cases hji : j = i
    · subst hji
      rw [hr]
      exact f.log
    · rw [hne j hji]
      exact pre_ext f.ext (h.log j hj)
  · rcases f.LL t with e | ⟨_, e⟩
    · rw [e]; exact pre_ext f.ext (h.ll t)
    · exact e
  · rcases hs m hm with hm | hm
    · exact (h.app m hm hk).ext f.ext
    · exact f.app m hm hk

theorem MInv.start {C : Cl} {g : Gh} (h : MInv C g) {i : Nat} (hi : i < 3) : MInv (startC C i) g := by
  obtain ⟨h1, h2, h3⟩ := h.wf.hard i hi
  have e : ((startC C i).nd i).rep = newRep i (C.nd i).sterm (C.nd i).svote (C.nd i).slog := by
    unfold startC
    simp only [put_self]
    rfl
  refine h.node (send := []) hi (g' := g) ⟨?_, by show _ ≤ (C.nd i).sterm; omega, fun _ _ => h2, fun m hm => (by cases hm), fun t => .inl rfl, Ext.refl _, fun t => .inl rfl, fun hr => (by cases (show (0 : Int) = 1 from hr)), fun hr => (by cases (show (0 : Int) = 2 from hr)), ?_, fun m hm => (by cases hm)⟩ (start_wf h.wf hi) e (fun j hj => put_ne _ _ hj) fun m hm => .inl hm
  · funext t j
    by_cases hc : t = (C.nd i).sterm ∧ j = i
    · obtain ⟨rfl, rfl⟩ := hc
      have := h.now j hi
      rw [← h1, ← h2] at this
      rw [this]
      exact (voteV_self _ _ _ _).symm
    · exact (voteV_ne _ _ hc).symm
  · show Pre g.LL (C.nd i).slog
    rw [h3]
    exact h.log i hi

theorem MInv.call {C : Cl} {g g' : Gh} (h : MInv C g) {i : Nat} (hi : i < 3) {x : Rep × OutR} (hx : x.1.Wf) (hf : Fits (C.nd i).rep x.1 x.2) (f : MFit C g i x.1 x.2.send g') : ∃ g2, MInv (callC C i x) g2 := by
  have hid := (h.wf.rep i hi).2
  have hw := call_wf h.wf hi hx hf
  have hh : (hardC C i x.1).Wf := hard_wf h.wf hi hx (by rw [hf.id]; exact hid)
  rw [call_cases h.wf hi hf] at hw ⊢
  split
  · exact ⟨g, h.start hi⟩
  rename_i hs1
  rw [if_neg hs1] at hw
  split
  · have h1 : MInv (hardC C i x.1) g' := h.node hi f hh (by unfold hardC; simp only [put_self]; rfl) (fun j hj => put_ne _ _ hj) fun m hm => .inl hm
    exact ⟨g', h1.start hi⟩
  · rename_i hs2
    rw [if_neg hs2] at hw
    refine ⟨g', h.node hi f hw (by unfold hardC; simp only [put_self]; rfl) (fun j hj => put_ne _ _ hj) fun m hm => ?_⟩
    rcases List.mem_append.1 hm with hm | hm
    · exact .inl hm
    · exact .inr (List.mem_of_mem_take hm)

theorem MInv.drop {C : Cl} {g : Gh} (h : MInv C g) {n : Nat} (hn : n < C.sent.length) : MInv (dropC C n) g := by
  have hs : ∀ m ∈ (dropC C n).sent, m ∈ C.sent := fun m hm => by
    rcases List.mem_append.1 hm with hm | hm
    · exact List.mem_of_mem_take hm
    · exact List.mem_of_mem_drop hm
  exact ⟨drop_wf h.wf hn, h.now, h.later, fun m hm => h.yes m (hs m hm), h.cand, h.lead, h.quo, h.ldt, h.none, h.log, h.ll, fun m hm => h.app m (hs m hm)⟩

theorem MInv.stop {C : Cl} {g : Gh} (h : MInv C g) {i : Nat} (hi : i < 3) {s : Int} (hs : s = 1 ∨ s = 2) : MInv (stopC C i s) g := by
  have e : ∀ j, ((stopC C i s).nd j).rep = (C.nd j).rep := fun j => by
    by_cases hj : j = i
    · subst hj
      unfold stopC ndC
      simp only [put_self]
    · unfold stopC ndC
      simp only [put_ne _ _ hj]
  refine ⟨stop_wf h.wf hi hs, fun j hj => ?_, fun j hj t ht => ?_, h.yes, fun j hj hr => ?_, fun j hj hr => ?_, h.quo, fun t ht => ?_, h.none, fun j hj => ?_, h.ll, h.app⟩
  · rw [e]; exact h.now j hj
  · rw [e] at ht; exact h.later j hj t ht
  · rw [e] at hr ⊢; exact h.cand j hj hr
  · rw [e] at hr ⊢; exact h.lead j hj hr
  · obtain ⟨j, hj, a1, a2⟩ := h.ldt t ht
    exact ⟨j, hj, a1, by rw [e]; exact a2⟩
  · rw [e]; exact h.log j hj

end Go.Proofs.Ytifgijoeckoojaa
end

