/-
  Replica, plain: what each call keeps, and what its result says.
-/
import Derived.Test.YtifgijoeckoojaaRj
set_option linter.unusedVariables false
set_option linter.unusedSimpArgs false
namespace Go.Proofs.Ytifgijoeckoojaa
open Go.Vc

/-- a replica that may be found -/
structure Rep.Wf (r : Rep) : Prop where
  ok : r.Ok
  one : r.role ≠ 0 → 1 ≤ r.term

/-- the result tells what has changed of what is stored -/
structure Fits (r r' : Rep) (o : OutR) : Prop where
  id : r'.id = r.id
  save : o.save = true → o.term = r'.term ∧ o.vote = r'.vote
  keep : o.save = false → r'.term = r.term ∧ r'.vote = r.vote
  log : 0 < o.src → r'.log = r.log.take (min (o.src - 1) (r.log.length : Int)).toNat ++ o.recs
  same : ¬ 0 < o.src → r'.log = r.log
  term : r.term ≤ r'.term

theorem Fits.refl (r : Rep) : Fits r r out0 := ⟨rfl, fun h => (by cases h), fun _ => ⟨rfl, rfl⟩, fun h => (by cases h), fun _ => rfl, Int.le_refl _⟩

theorem sorted_take {l : List RecD} {t : Int} (h : Sorted l t) (k : Nat) : Sorted (l.take k) t :=
  ⟨fun x hx => h.lo x (List.mem_of_mem_take hx), fun x hx => h.hi x (List.mem_of_mem_take hx), fun x hx => h.data x (List.mem_of_mem_take hx), fun i j hij hj hi => by
    rw [List.getElem_take, List.getElem_take]
    exact h.asc i j hij (by simp at hj; omega) (by simp at hi; omega)⟩

theorem sorted_app {a b : List RecD} {t : Int} (ha : Sorted a t) (hb : Sorted b t) (h : ∀ x ∈ a, ∀ y ∈ b, x.term ≤ y.term) : Sorted (a ++ b) t := by
  refine ⟨fun x hx => ?_, fun x hx => ?_, fun x hx => ?_, fun i j hij hj hi => ?_⟩
  · rcases List.mem_append.1 hx with hx | hx
    · exact ha.lo x hx
    · exact hb.lo x hx
  · rcases List.mem_append.1 hx with hx | hx
    · exact ha.hi x hx
    · exact hb.hi x hx
  · rcases List.mem_append.1 hx with hx | hx
    · exact ha.data x hx
    · exact hb.data x hx
  · rw [List.length_append] at hj hi
    by_cases hja : j < a.length
    · rw [List.getElem_append_left hja, List.getElem_append_left (by omega)]
      exact ha.asc i j hij hja (by omega)
    · rw [List.getElem_append_right (show a.length ≤ j by omega)]
      by_cases hia : i < a.length
      · rw [List.getElem_append_left hia]
        exact h _ (List.getElem_mem hia) _ (List.getElem_mem _)
      · rw [List.getElem_append_right (show a.length ≤ i by omega)]
        exact hb.asc (i - a.length) (j - a.length) (by omega) (by omega) (by omega)

theorem sorted_up {l : List RecD} {t u : Int} (h : Sorted l t) (hu : t ≤ u) : Sorted l u := ⟨h.lo, fun x hx => Int.le_trans (h.hi x hx) hu, h.data, h.asc⟩

theorem sorted_drop {l : List RecD} {t : Int} (h : Sorted l t) (k : Nat) : Sorted (l.drop k) t :=
  ⟨fun x hx => h.lo x (List.mem_of_mem_drop hx), fun x hx => h.hi x (List.mem_of_mem_drop hx), fun x hx => h.data x (List.mem_of_mem_drop hx), fun i j hij hj hi => by
    rw [List.getElem_drop, List.getElem_drop]
    exact h.asc (k + i) (k + j) (by omega) (by simp at hj; omega) (by simp at hi; omega)⟩

theorem right_sorted {id : Nat} {m : MsgR} (h : m.Right id) : Sorted m.recs m.term ∧ ∀ x ∈ m.recs, m.prev ≤ x.term := by
  obtain ⟨h1, h2⟩ := soundR_iff _ _ _ h.sound
  exact ⟨⟨fun x hx => by have := (h1 x hx).1; omega, fun x hx => (h1 x hx).2.1, fun x hx => (h1 x hx).2.2, h2⟩, fun x hx => by have := (h1 x hx).1; omega⟩

theorem last_le {l : List RecD} {t : Int} (h : Sorted l t) {k : Nat} (hk : k ≤ l.length) : ∀ x ∈ l.take k, x.term ≤ termAt l k := by
  intro x hx
  obtain ⟨i, hi, rfl⟩ := List.getElem_of_mem hx
  rw [List.length_take] at hi
  rw [List.getElem_take]
  obtain ⟨j, rfl⟩ : ∃ j, k = j + 1 := ⟨k - 1, by omega⟩
  rw [termAt_succ (by omega)]
  exact h.asc i j (by omega) (by omega) (by omega)

/-- the entries that agree have the same terms -/
theorem agree_terms : ∀ (a b : List RecD) (i : Nat), i < agree a b → ∃ (ha : i < a.length) (hb : i < b.length), a[i].term = b[i].term
  | [], b, i, h => by cases b <;> simp [agree] at h
  | x :: a, [], i, h => by simp [agree] at h
  | x :: a, y :: b, i, h => by
    unfold agree at h
    split at h
    · rename_i hxy
      cases i with
      | zero => exact ⟨by simp, by simp, by simpa using hxy⟩
      | succ i =>
        obtain ⟨h1, h2, h3⟩ := agree_terms a b i (by omega)
        exact ⟨by simp; omega, by simp; omega, by simpa using h3⟩
    · omega

theorem app_sorted {r : Rep} (hr : r.Ok) {m : MsgR} (hm : m.Right r.id) (ht : ¬ m.term < r.term) (hle : m.index.toNat ≤ r.log.length) (hp : termAt r.log m.index.toNat = m.prev) : Sorted (r.log.take (m.index.toNat + appK r m) ++ m.recs.drop (appK r m)) m.term := by
  obtain ⟨h1, h2⟩ := right_sorted hm
  have hk := agree_lt (r.log.drop m.index.toNat) m.recs
  rw [List.length_drop] at hk
  refine sorted_app (sorted_up (sorted_take hr.log _) (by omega)) (sorted_drop h1 _) fun x hx y hy => ?_
  have hle2 : m.index.toNat + appK r m ≤ r.log.length := by unfold appK; omega
  have hx := last_le hr.log hle2 x hx
  refine Int.le_trans hx ?_
  obtain ⟨j, hj, rfl⟩ := List.getElem_of_mem hy
  rw [List.getElem_drop]
  have hj2 : appK r m + j < m.recs.length := by rw [List.length_drop] at hj; omega
  by_cases hz : appK r m = 0
  · have e : termAt r.log (m.index.toNat + appK r m) = m.prev := by rw [hz, Nat.add_zero, hp]
    rw [e]
    exact h2 _ (List.getElem_mem _)
  · obtain ⟨i, hi⟩ : ∃ i, appK r m = i + 1 := ⟨appK r m - 1, by omega⟩
    obtain ⟨a1, a2, a3⟩ := agree_terms (r.log.drop m.index.toNat) m.recs i (by unfold appK at hi; omega)
    rw [List.getElem_drop] at a3
    have e : termAt r.log (m.index.toNat + appK r m) = m.recs[i].term := by
      rw [hi, show m.index.toNat + (i + 1) = m.index.toNat + i + 1 by omega, termAt_succ (by omega), a3]
    rw [e]
    exact h1.asc i (appK r m + j) (by omega) hj2 a2

theorem app_len {r : Rep} {m : MsgR} (hle : m.index.toNat ≤ r.log.length) : (r.log.take (m.index.toNat + appK r m) ++ m.recs.drop (appK r m)).length = m.index.toNat + m.recs.length := by
  have hk := agree_lt (r.log.drop m.index.toNat) m.recs
  have hk2 := agree_le (r.log.drop m.index.toNat) m.recs
  rw [List.length_drop] at hk
  rw [List.length_append, List.length_take, List.length_drop]
  unfold appK
  omega

/-! ### each call -/
theorem vote_wf {r : Rep} (h : r.Wf) {m : MsgR} (h1 : 0 ≤ m.src ∧ m.src ≤ 2) : (voteP r m).1.Wf ∧ (voteP r m).1.id = r.id ∧ (voteP r m).1.term = r.term ∧ (voteP r m).1.log = r.log ∧ (voteP r m).2.src = 0 := by
  unfold voteP
  split
  · exact ⟨⟨⟨h.ok.id, h.ok.term0, h.ok.termM, by show -1 ≤ m.src; omega, h1.2, h.ok.log, h.ok.len, h.ok.role, h.ok.commit, h.ok.next, h.ok.bound⟩, h.one⟩, rfl, rfl, rfl, rfl⟩
  · exact ⟨h, rfl, rfl, rfl, rfl⟩

theorem voted_wf {r : Rep} (h : r.Wf) {m : MsgR} : (votedP r m).1.Wf ∧ (votedP r m).1.id = r.id ∧ (votedP r m).1.term = r.term ∧ (votedP r m).1.vote = r.vote ∧ (votedP r m).1.log = r.log ∧ (votedP r m).2.src = 0 := by
  by_cases hc : (decide (r.role ≠ 1) || decide (m.term ≠ r.term) || !m.yes) = true
  · rw [voted_no hc]; exact ⟨h, rfl, rfl, rfl, rfl, rfl⟩
  have hc : (decide (r.role ≠ 1) || decide (m.term ≠ r.term) || !m.yes) = false := by simpa using hc
  have hrole : r.role = 1 := by simp only [Bool.or_eq_false_iff, decide_eq_false_iff_not] at hc; exact Decidable.not_not.1 hc.1.1
  by_cases h2 : countV (voteR r m).votes < 2
  · rw [voted_few hc h2]
    exact ⟨⟨⟨h.ok.id, h.ok.term0, h.ok.termM, h.ok.vote0, h.ok.voteM, h.ok.log, h.ok.len, h.ok.role, h.ok.commit, h.ok.next, h.ok.bound⟩, h.one⟩, rfl, rfl, rfl, rfl, rfl⟩
  · rw [voted_lead hc h2]
    exact ⟨⟨lead_ok h.ok m, fun _ => h.one (by rw [hrole]; decide)⟩, rfl, rfl, rfl, rfl, rfl⟩

theorem appended_wf {r : Rep} (h : r.Wf) {m : MsgR} (hi : 0 ≤ m.index) : (appendedP r m).1.Wf ∧ (appendedP r m).1.id = r.id ∧ (appendedP r m).1.term = r.term ∧ (appendedP r m).1.vote = r.vote ∧ (appendedP r m).1.log = r.log ∧ (appendedP r m).2.src = 0 := by
  by_cases hc : (decide (r.role ≠ 2) || decide (m.term ≠ r.term) || m.yes && decide ((r.log.length : Int) < m.index)) = true
  · rw [appended_no hc]; exact ⟨h, rfl, rfl, rfl, rfl, rfl⟩
  have hc : (decide (r.role ≠ 2) || decide (m.term ≠ r.term) || m.yes && decide ((r.log.length : Int) < m.index)) = false := by simpa using hc
  have hrole : r.role = 2 := by simp only [Bool.or_eq_false_iff, decide_eq_false_iff_not] at hc; exact Decidable.not_not.1 hc.1.1
  cases hy : m.yes with
  | false =>
    rw [appended_back hc hy]
    exact ⟨⟨back_ok h.ok hrole m, h.one⟩, rfl, rfl, rfl, rfl, rfl⟩
  | true =>
    rw [appended_fwd hc hy]
    have hix : m.index.toNat ≤ r.log.length := by
      simp only [Bool.or_eq_false_iff, decide_eq_false_iff_not, hy, Bool.true_and] at hc
      have := hc.2; omega
    have ha := adv_ok (fwd_ok h.ok hrole m hix) hrole
    obtain ⟨e1, e2, e3, e4, e5, e6, e7⟩ := adv_eq (fwdR r m)
    have hw : (advanceP (fwdR r m)).Wf := ⟨ha, fun _ => by rw [e6]; exact h.one (by rw [hrole]; decide)⟩
    split
    · exact ⟨hw, e5, e6, e7, e2, rfl⟩
    · exact ⟨hw, e5, e6, e7, e2, rfl⟩

theorem fol_wf {r : Rep} (h : r.Wf) : (folR r).Wf := ⟨⟨h.ok.id, h.ok.term0, h.ok.termM, h.ok.vote0, h.ok.voteM, h.ok.log, h.ok.len, .inl rfl, h.ok.commit, fun hr => (by cases (show (0 : Int) = 2 from hr)), h.ok.bound⟩, fun hr => absurd rfl hr⟩

theorem append_wf {r : Rep} (h : r.Wf) {m : MsgR} (hm : m.Right r.id) (heq : m.term ≤ r.term) : (appendP r m).1.Wf ∧ (appendP r m).1.id = r.id ∧ (appendP r m).1.term = r.term ∧ (appendP r m).1.vote = r.vote ∧
    (0 < (appendP r m).2.src → (appendP r m).1.log = r.log.take (min ((appendP r m).2.src - 1) (r.log.length : Int)).toNat ++ (appendP r m).2.recs) ∧ (¬ 0 < (appendP r m).2.src → (appendP r m).1.log = r.log) ∧ (appendP r m).2.save = false := by
  by_cases h1 : m.term < r.term
  · rw [append_old h1]; exact ⟨h, rfl, rfl, rfl, fun h => (by cases h), fun _ => rfl, rfl⟩
  by_cases h2 : r.role = 2
  · rw [append_lead h1 h2]; exact ⟨h, rfl, rfl, rfl, fun h => (by cases h), fun _ => rfl, rfl⟩
  by_cases h3 : (decide ((r.log.length : Int) < m.index) || decide (termAt r.log m.index.toNat ≠ m.prev)) = true
  · rw [append_gap h1 h2 h3]; exact ⟨fol_wf h, rfl, rfl, rfl, fun h => (by cases h), fun _ => rfl, rfl⟩
  have h3 : (decide ((r.log.length : Int) < m.index) || decide (termAt r.log m.index.toNat ≠ m.prev)) = false := by simpa using h3
  have hm1 := hm.index
  have hm2 := hm.commit
  obtain ⟨hle, hp⟩ : m.index.toNat ≤ r.log.length ∧ termAt r.log m.index.toNat = m.prev := by
    simp only [Bool.or_eq_false_iff, decide_eq_false_iff_not] at h3
    exact ⟨by omega, Decidable.not_not.1 h3.2⟩
  have hk := agree_lt (r.log.drop m.index.toNat) m.recs
  have hk2 := agree_le (r.log.drop m.index.toNat) m.recs
  rw [List.length_drop] at hk
  by_cases h4 : appK r m < m.recs.length
  · by_cases h5 : m.index.toNat + appK r m + 1 ≤ r.commit
    · rw [append_done h1 h2 h3 h4 h5]; exact ⟨fol_wf h, rfl, rfl, rfl, fun h => (by cases h), fun _ => rfl, rfl⟩
    · rw [append_new h1 h2 h3 h4 h5]
      have hs := app_sorted h.ok hm h1 hle hp
      have hl := app_len (r := r) (m := m) hle
      have hft := hm.fits
      refine ⟨⟨⟨h.ok.id, h.ok.term0, h.ok.termM, h.ok.vote0, h.ok.voteM, sorted_up hs heq, ?_, .inl rfl, ?_, fun hr => (by cases (show (0 : Int) = 2 from hr)), h.ok.bound⟩, fun hr => absurd rfl hr⟩, rfl, rfl, rfl, fun _ => ?_, fun hn => ?_, rfl⟩
      · show (r.log.take (m.index.toNat + appK r m) ++ m.recs.drop (appK r m)).length ≤ 4000
        omega
      · show appC r m ≤ (r.log.take (m.index.toNat + appK r m) ++ m.recs.drop (appK r m)).length
        rw [hl]
        unfold appC
        omega
      · show r.log.take (m.index.toNat + appK r m) ++ m.recs.drop (appK r m) = r.log.take (min (((m.index.toNat + appK r m + 1 : Nat) : Int) - 1) (r.log.length : Int)).toNat ++ m.recs.drop (appK r m)
        congr 2
        unfold appK
        omega
      · exfalso
        apply hn
        show (0 : Int) < ((m.index.toNat + appK r m + 1 : Nat) : Int)
        omega
  · rw [append_same h1 h2 h3 h4]
    have hcm := h.ok.commit
    refine ⟨⟨⟨h.ok.id, h.ok.term0, h.ok.termM, h.ok.vote0, h.ok.voteM, h.ok.log, h.ok.len, .inl rfl, ?_, fun hr => (by cases (show (0 : Int) = 2 from hr)), h.ok.bound⟩, fun hr => absurd rfl hr⟩, rfl, rfl, rfl, fun h => (by cases h), fun _ => rfl, rfl⟩
    show appC r m ≤ r.log.length
    unfold appC
    unfold appK at h4
    omega

theorem up_wf {r : Rep} (h : r.Wf) {m : MsgR} (hm : m.Right r.id) (ht : r.term < m.term) : (upR r m).Wf := ⟨up_ok h.ok m hm ht, fun hr => absurd rfl hr⟩

theorem fin_fits {r : Rep} {x : Rep × OutR} (h1 : x.1.id = r.id) (h2 : r.term ≤ x.1.term) (hs : x.2.save = false) (hl : 0 < x.2.src → x.1.log = r.log.take (min (x.2.src - 1) (r.log.length : Int)).toNat ++ x.2.recs) (hn : ¬ 0 < x.2.src → x.1.log = r.log) : Fits r (finO r x).1 (finO r x).2 := by
  unfold finO
  split
  · rename_i he
    simp only [Bool.and_eq_true, decide_eq_true_eq] at he
    exact ⟨h1, fun h => (by rw [hs] at h; cases h), fun _ => he, hl, hn, h2⟩
  · exact ⟨h1, fun _ => ⟨rfl, rfl⟩, fun h => (by cases h), hl, hn, h2⟩

theorem fin_fst {r : Rep} {x : Rep × OutR} : (finO r x).1 = x.1 := by unfold finO; split <;> rfl
theorem fin_send {r : Rep} {x : Rep × OutR} : (finO r x).2.send = x.2.send := by unfold finO; split <;> rfl

theorem vote_save (r : Rep) (m : MsgR) : (voteP r m).2.save = false := by unfold voteP; split <;> rfl
theorem voted_save (r : Rep) (m : MsgR) : (votedP r m).2.save = false := by
  unfold votedP; split
  · rfl
  · simp only; split <;> rfl
theorem appended_save (r : Rep) (m : MsgR) : (appendedP r m).2.save = false := by
  unfold appendedP; split
  · rfl
  · simp only; split
    · rfl
    · split <;> rfl

theorem hear_wf {r : Rep} (h : r.Wf) {m : MsgR} : (hearP r m).1.Wf ∧ Fits r (hearP r m).1 (hearP r m).2 := by
  cases hy : rightP r.id m with
  | false => rw [hear_no hy]; exact ⟨h, Fits.refl r⟩
  | true =>
    rw [hear_yes hy]
    have hm := right_iff.1 hy
    obtain ⟨r1, hr1, hw1, ht1, hid1, hlog1, hle1⟩ : ∃ r1, (if r.term < m.term then upR r m else r) = r1 ∧ r1.Wf ∧ r.term ≤ r1.term ∧ r1.id = r.id ∧ r1.log = r.log ∧ m.term ≤ r1.term := by
      split
      · rename_i ht; exact ⟨_, rfl, up_wf h hm ht, by show r.term ≤ m.term; omega, rfl, rfl, Int.le_refl _⟩
      · rename_i ht; exact ⟨_, rfl, h, Int.le_refl _, rfl, rfl, by omega⟩
    rw [hr1]
    have hm1 : m.Right r1.id := by rw [hid1]; exact hm
    unfold hearX
    split
    · obtain ⟨a1, a2, a3, a4, a5⟩ := vote_wf hw1 (m := m) hm.src.2
      exact ⟨by rw [fin_fst]; exact a1, fin_fits (by rw [a2, hid1]) (by rw [a3]; exact ht1) (vote_save _ _) (fun hh => by rw [a5] at hh; cases hh) (fun _ => by rw [a4, hlog1])⟩
    · split
      · obtain ⟨a1, a2, a3, a4, a5, a6⟩ := voted_wf hw1 (m := m)
        exact ⟨by rw [fin_fst]; exact a1, fin_fits (by rw [a2, hid1]) (by rw [a3]; exact ht1) (voted_save _ _) (fun hh => by rw [a6] at hh; cases hh) (fun _ => by rw [a5, hlog1])⟩
      · split
        · obtain ⟨a1, a2, a3, a4, a5, a6, a7⟩ := append_wf hw1 hm1 hle1
          rw [hlog1] at a5 a6
          exact ⟨by rw [fin_fst]; exact a1, fin_fits (by rw [a2, hid1]) (by rw [a3]; exact ht1) a7 a5 a6⟩
        · obtain ⟨a1, a2, a3, a4, a5, a6⟩ := appended_wf hw1 (m := m) hm.index.1
          exact ⟨by rw [fin_fst]; exact a1, fin_fits (by rw [a2, hid1]) (by rw [a3]; exact ht1) (appended_save _ _) (fun hh => by rw [a6] at hh; cases hh) (fun _ => by rw [a5, hlog1])⟩

theorem tick_wf {r : Rep} (h : r.Wf) : (tickP r).1.Wf ∧ Fits r (tickP r).1 (tickP r).2 := by
  by_cases h1 : r.role = 2
  · rw [tick_lead h1]; exact ⟨h, Fits.refl r |>.id, fun h => (by cases h), fun _ => ⟨rfl, rfl⟩, fun h => (by cases h), fun _ => rfl, Int.le_refl _⟩
  by_cases h2 : r.term = 1099511627776
  · rw [tick_max h1 h2]; exact ⟨h, Fits.refl r⟩
  rw [tick_ask h1 h2]
  have := h.ok.term0
  exact ⟨⟨ask_ok h.ok h1 h2, fun _ => by show 1 ≤ r.term + 1; omega⟩, rfl, fun _ => ⟨rfl, rfl⟩, fun h => (by cases h), fun h => (by cases h), fun _ => rfl, by show r.term ≤ r.term + 1; omega⟩

theorem propose_wf {r : Rep} (h : r.Wf) (data : ByteArray) : (proposeP r data).1.Wf ∧ Fits r (proposeP r data).1 (proposeP r data).2.2.2 := by
  by_cases h1 : r.role ≠ 2
  · rw [prop_no h1]; exact ⟨h, Fits.refl r⟩
  by_cases h2 : 2000 < (data.size : Int)
  · rw [prop_big h1 h2]; exact ⟨h, Fits.refl r⟩
  by_cases h3 : r.log.length = 4000
  · rw [prop_full h1 h2 h3]; exact ⟨h, Fits.refl r⟩
  rw [prop_ok h1 h2 h3]
  have hr : r.role = 2 := Decidable.not_not.1 h1
  refine ⟨⟨propR_ok h.ok hr (h.one (by rw [hr]; decide)) h2 h3, h.one⟩, rfl, fun h => (by cases h), fun _ => ⟨rfl, rfl⟩, fun _ => ?_, fun hn => ?_, Int.le_refl _⟩
  · show r.log ++ [⟨r.term, data⟩] = r.log.take (min (((r.log.length + 1 : Nat) : Int) - 1) (r.log.length : Int)).toNat ++ [⟨r.term, data⟩]
    rw [show (min (((r.log.length + 1 : Nat) : Int) - 1) (r.log.length : Int)).toNat = r.log.length by omega, List.take_length]
  · exfalso
    apply hn
    show (0 : Int) < ((r.log.length + 1 : Nat) : Int)
    omega

theorem new_wf {i : Nat} {t v : Int} {l : List RecD} (hi : i ≤ 2) (h0 : 0 ≤ t) (hM : t ≤ 1099511627776) (hv0 : -1 ≤ v) (hvM : v ≤ 2) (hl : Sorted l t) (hlen : l.length ≤ 4000) : (newRep i t v l).Wf :=
  ⟨⟨hi, h0, hM, hv0, hvM, hl, hlen, .inl rfl, Nat.zero_le _, fun hr => (by cases (show (0 : Int) = 2 from hr)), fun i => ⟨by show 0 ≤ 4001; omega, by show 0 ≤ 4000; omega⟩⟩, fun hr => absurd rfl hr⟩

theorem soundR_of : ∀ (l : List RecD) (least most : Int), (∀ x ∈ l, least ≤ x.term) → (∀ x ∈ l, x.term ≤ most) → (∀ x ∈ l, x.data.size ≤ 2000) → (∀ i j, i ≤ j → (hj : j < l.length) → (hi : i < l.length) → l[i].term ≤ l[j].term) → soundR l least most = true
  | [], _, _, _, _, _, _ => rfl
  | x :: l, least, most, h1, h2, h3, h4 => by
    unfold soundR
    rw [if_neg]
    · refine soundR_of l x.term most (fun y hy => ?_) (fun y hy => h2 y (List.mem_cons_of_mem _ hy)) (fun y hy => h3 y (List.mem_cons_of_mem _ hy)) (fun i j hij hj hi => ?_)
      · obtain ⟨j, hj, rfl⟩ := List.getElem_of_mem hy
        exact h4 0 (j + 1) (by omega) (by simp; omega) (by simp)
      · exact h4 (i + 1) (j + 1) (by omega) (by simp; omega) (by simp; omega)
    · have a := h1 x (by simp)
      have b := h2 x (by simp)
      have c := h3 x (by simp)
      simp only [Bool.or_eq_true, decide_eq_true_eq, not_or]
      omega

theorem new_yes {i : Nat} {r : Rep} (hi : i ≤ 2) (h : r.Ok) : newB i r.term r.vote r.log = true := by
  have h1 := h.term0
  have h2 := h.termM
  have h3 := h.vote0
  have h4 := h.voteM
  have h5 := h.len
  unfold newB
  rw [soundR_of r.log 1 r.term h.log.lo h.log.hi h.log.data h.log.asc, Bool.and_true]
  simp only [Bool.and_eq_true, decide_eq_true_eq]
  omega

end Go.Proofs.Ytifgijoeckoojaa
