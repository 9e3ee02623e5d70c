/-
  For every input erratalaw08.ReplicaTells returns true, does not panic, comes to an end, and leaves what came in as it was.
  Conditions: none beyond the given statement's own (ReplicaTellsSaid).
-/
import Derived.Test.YtifgijoeckoojaaTe9
import Derived.Test.YtifgijoeckoojaaTe5
import Derived.Test.YtifgijoeckoojaaTe7
import Derived.Test.YtifgijoeckoojaaRows

/-
  Replica, plain: what each call keeps, and what its result says.
-/
section
set_option linter.unusedVariables false
set_option linter.unusedSimpArgs false
namespace Go.Proofs.Ytifgijoeckoojaa
open Go.Vc

/-- a replica that may be found -/
structure Rep.Wf (r : Rep) : Prop where
  ok : r.Ok
  one : r.role ≠ 0 → 1 ≤ r.term

/-- the result tells what has changed of what is stored -/
structure Fits (r r' : Rep) (o : OutR) : Prop where
  id : r'.id = r.id
  save : o.save = true → o.term = r'.term ∧ o.vote = r'.vote
  keep : o.save = false → r'.term = r.term ∧ r'.vote = r.vote
  log : 0 < o.src → r'.log = r.log.take (min (o.src - 1) (r.log.length : Int)).toNat ++ o.recs
  same : ¬ 0 < o.src → r'.log = r.log
  term : r.term ≤ r'.term

theorem Fits.refl (r : Rep) : Fits r r out0 := ⟨rfl, fun h => (by cases h), fun _ => ⟨rfl, rfl⟩, fun h => (by cases h), fun _ => rfl, Int.le_refl _⟩

theorem sorted_take {l : List RecD} {t : Int} (h : Sorted l t) (k : Nat) : Sorted (l.take k) t :=
  ⟨fun x hx => h.lo x (List.mem_of_mem_take hx), fun x hx => h.hi x (List.mem_of_mem_take hx), fun x hx => h.data x (List.mem_of_mem_take hx), fun i j hij hj hi => by
    rw [List.getElem_take, List.getElem_take]
    exact h.asc i j hij (by simp at hj; omega) (by simp at hi; omega)⟩

theorem sorted_app {a b : List RecD} {t : Int} (ha : Sorted a t) (hb : Sorted b t) (h : ∀ x ∈ a, ∀ y ∈ b, x.term ≤ y.term) : Sorted (a ++ b) t := by
  refine ⟨fun x hx => ?_, fun x hx => ?_, fun x hx => ?_, fun i j hij hj hi => ?_⟩
  · rcases List.mem_append.1 hx with hx | hx
    · exact ha.lo x hx
    · exact hb.lo x hx
  · rcases List.mem_append.1 hx with hx | hx
    · exact ha.hi x hx
    · exact hb.hi x hx
  · rcases List.mem_append.1 hx with hx | hx
    · exact ha.data x hx
    · exact hb.data x hx
  · rw [List.length_append] at hj hi
    by_cases hja : j < a.length
    · rw [List.getElem_append_left hja, List.getElem_append_left (by omega)]
      exact ha.asc i j hij hja (by omega)
    · rw [List.getElem_append_right (show a.length ≤ j by omega)]
      by_cases hia : i < a.length
      · rw [List.getElem_append_left hia]
        exact h _ (List.getElem_mem hia) _ (List.getElem_mem _)
      · rw [List.getElem_append_right (show a.length ≤ i by omega)]
        exact hb.asc (i - a.length) (j - a.length) (by omega) (by omega) (by omega)

theorem sorted_up {l : List RecD} {t u : Int} (h : Sorted l t) (hu : t ≤ u) : Sorted l u := ⟨h.lo, fun x hx => Int.le_trans (h.hi x hx) hu, h.data, h.asc⟩

theorem sorted_drop {l : List RecD} {t : Int} (h : Sorted l t) (k : Nat) : Sorted (l.drop k) t :=
  ⟨fun x hx => h.lo x (List.mem_of_mem_drop hx), fun x hx => h.hi x (List.mem_of_mem_drop hx), fun x hx => h.data x (List.mem_of_mem_drop hx), fun i j hij hj hi => by
    rw [List.getElem_drop, List.getElem_drop]
    exact h.asc (k + i) (k + j) (by omega) (by simp at hj; omega) (by simp at hi; omega)⟩

theorem right_sorted {id : Nat} {m : MsgR} (h : m.Right id) : Sorted m.recs m.term ∧ ∀ x ∈ m.recs, m.prev ≤ x.term := by
  obtain ⟨h1, h2⟩ := soundR_iff _ _ _ h.sound
  exact ⟨⟨fun x hx => by have := (h1 x hx).1; omega, fun x hx => (h1 x hx).2.1, fun x hx => (h1 x hx).2.2, h2⟩, fun x hx => by have := (h1 x hx).1; omega⟩

theorem last_le {l : List RecD} {t : Int} (h : Sorted l t) {k : Nat} (hk : k ≤ l.length) : ∀ x ∈ l.take k, x.term ≤ termAt l k := by
  intro x hx
  obtain ⟨i, hi, rfl⟩ := List.getElem_of_mem hx
  rw [List.length_take] at hi
  rw [List.getElem_take]
  obtain ⟨j, rfl⟩ : ∃ j, k = j + 1 := ⟨k - 1, by omega⟩
  rw [termAt_succ (by omega)]
  exact h.asc i j (by omega) (by omega) (by omega)

/-- the entries that agree have the same terms -/
theorem agree_terms : ∀ (a b : List RecD) (i : Nat), i < agree a b → ∃ (ha : i < a.length) (hb : i < b.length), a[i].term = b[i].term
  | [], b, i, h => by cases b <;> simp [agree] at h
  | x :: a, [], i, h => by simp [agree] at h
  | x :: a, y :: b, i, h => by
    unfold agree at h
    split at h
    · rename_i hxy
      cases i with
      | zero => exact ⟨by simp, by simp, by simpa using hxy⟩
      | succ i =>
        obtain ⟨h1, h2, h3⟩ := agree_terms a b i (by omega)
        exact ⟨by simp; omega, by simp; omega, by simpa using h3⟩
    · omega

theorem app_sorted {r : Rep} (hr : r.Ok) {m : MsgR} (hm : m.Right r.id) (ht : ¬ m.term < r.term) (hle : m.index.toNat ≤ r.log.length) (hp : termAt r.log m.index.toNat = m.prev) : Sorted (r.log.take (m.index.toNat + appK r m) ++ m.recs.drop (appK r m)) m.term := by
  obtain ⟨h1, h2⟩ := right_sorted hm
  have hk := agree_lt (r.log.drop m.index.toNat) m.recs
  rw [List.length_drop] at hk
  refine sorted_app (sorted_up (sorted_take hr.log _) (by omega)) (sorted_drop h1 _) fun x hx y hy => ?_
  have hle2 : m.index.toNat + appK r m ≤ r.log.length := by unfold appK; omega
  have hx := last_le hr.log hle2 x hx
  refine Int.le_trans hx ?_
  obtain ⟨j, hj, rfl⟩ := List.getElem_of_mem hy
  rw [List.getElem_drop]
  have hj2 : appK r m + j < m.recs.length := by rw [List.length_drop] at hj; omega
  by_cases hz : appK r m = 0
  · have e : termAt r.log (m.index.toNat + appK r m) = m.prev := by rw [hz, Nat.add_zero, hp]
    rw [e]
    exact h2 _ (List.getElem_mem _)
  · obtain ⟨i, hi⟩ : ∃ i, appK r m = i + 1 := ⟨appK r m - 1, by omega⟩
    obtain ⟨a1, a2, a3⟩ := agree_terms (r.log.drop m.index.toNat) m.recs i (by unfold appK at hi; omega)
    rw [List.getElem_drop] at a3
    have e : termAt r.log (m.index.toNat + appK r m) = m.recs[i].term := by
      rw [hi, show m.index.toNat + (i + 1) = m.index.toNat + i + 1 by omega, termAt_succ (by omega), a3]
    rw [e]
    exact h1.asc i (appK r m + j) (by omega) hj2 a2

theorem app_len {r : Rep} {m : MsgR} (hle : m.index.toNat ≤ r.log.length) : (r.log.take (m.index.toNat + appK r m) ++ m.recs.drop (appK r m)).length = m.index.toNat + m.recs.length := by
  have hk := agree_lt (r.log.drop m.index.toNat) m.recs
  have hk2 := agree_le (r.log.drop m.index.toNat) m.recs
  rw [List.length_drop] at hk
  rw [List.length_append, List.length_take, List.length_drop]
  unfold appK
  omega

/-! ### each call -/
theorem vote_wf {r : Rep} (h : r.Wf) {m : MsgR} (h1 : 0 ≤ m.src ∧ m.src ≤ 2) : (voteP r m).1.Wf ∧ (voteP r m).1.id = r.id ∧ (voteP r m).1.term = r.term ∧ (voteP r m).1.log = r.log ∧ (voteP r m).2.src = 0 := by
  unfold voteP
  split
  · exact ⟨⟨⟨h.ok.id, h.ok.term0, h.ok.termM, by show -1 ≤ m.src; omega, h1.2, h.ok.log, h.ok.len, h.ok.role, h.ok.commit, h.ok.next, h.ok.bound⟩, h.one⟩, rfl, rfl, rfl, rfl⟩
  · exact ⟨h, rfl, rfl, rfl, rfl⟩

theorem voted_wf {r : Rep} (h : r.Wf) {m : MsgR} : (votedP r m).1.Wf ∧ (votedP r m).1.id = r.id ∧ (votedP r m).1.term = r.term ∧ (votedP r m).1.vote = r.vote ∧ (votedP r m).1.log = r.log ∧ (votedP r m).2.src = 0 := by
  by_cases hc : (decide (r.role ≠ 1) || decide (m.term ≠ r.term) || !m.yes) = true
  · rw [voted_no hc]; exact ⟨h, rfl, rfl, rfl, rfl, rfl⟩
  have hc : (decide (r.role ≠ 1) || decide (m.term ≠ r.term) || !m.yes) = false := by simpa using hc
  have hrole : r.role = 1 := by simp only [Bool.or_eq_false_iff, decide_eq_false_iff_not] at hc; exact Decidable.not_not.1 hc.1.1
  by_cases h2 : countV (voteR r m).votes < 2
  · rw [voted_few hc h2]
    exact ⟨⟨⟨h.ok.id, h.ok.term0, h.ok.termM, h.ok.vote0, h.ok.voteM, h.ok.log, h.ok.len, h.ok.role, h.ok.commit, h.ok.next, h.ok.bound⟩, h.one⟩, rfl, rfl, rfl, rfl, rfl⟩
  · rw [voted_lead hc h2]
    exact ⟨⟨lead_ok h.ok m, fun _ => h.one (by rw [hrole]; decide)⟩, rfl, rfl, rfl, rfl, rfl⟩

theorem appended_wf {r : Rep} (h : r.Wf) {m : MsgR} (hi : 0 ≤ m.index) : (appendedP r m).1.Wf ∧ (appendedP r m).1.id = r.id ∧ (appendedP r m).1.term = r.term ∧ (appendedP r m).1.vote = r.vote ∧ (appendedP r m).1.log = r.log ∧ (appendedP r m).2.src = 0 := by
  by_cases hc : (decide (r.role ≠ 2) || decide (m.term ≠ r.term) || m.yes && decide ((r.log.length : Int) < m.index)) = true
  · rw [appended_no hc]; exact ⟨h, rfl, rfl, rfl, rfl, rfl⟩
  have hc : (decide (r.role ≠ 2) || decide (m.term ≠ r.term) || m.yes && decide ((r.log.length : Int) < m.index)) = false := by simpa using hc
  have hrole : r.role = 2 := by simp only [Bool.or_eq_false_iff, decide_eq_false_iff_not] at hc; exact Decidable.not_not.1 hc.1.1
  cases hy : m.yes with
  | false =>
    rw [appended_back hc hy]
    exact ⟨⟨back_ok h.ok hrole m, h.one⟩, rfl, rfl, rfl, rfl, rfl⟩
  | true =>
    rw [appended_fwd hc hy]
    have hix : m.index.toNat ≤ r.log.length := by
      simp only [Bool.or_eq_false_iff, decide_eq_false_iff_not, hy, Bool.true_and] at hc
      have := hc.2; omega
    have ha := adv_ok (fwd_ok h.ok hrole m hix) hrole
    obtain ⟨e1, e2, e3, e4, e5, e6, e7⟩ := adv_eq (fwdR r m)
    have hw : (advanceP (fwdR r m)).Wf := ⟨ha, fun _ => by rw [e6]; exact h.one (by rw [hrole]; decide)⟩
    split
    · exact ⟨hw, e5, e6, e7, e2, rfl⟩
    · exact ⟨hw, e5, e6, e7, e2, rfl⟩

theorem fol_wf {r : Rep} (h : r.Wf) : (folR r).Wf := ⟨⟨h.ok.id, h.ok.term0, h.ok.termM, h.ok.vote0, h.ok.voteM, h.ok.log, h.ok.len, .inl rfl, h.ok.commit, fun hr => (by cases (show (0 : Int) = 2 from hr)), h.ok.bound⟩, fun hr => absurd rfl hr⟩

theorem append_wf {r : Rep} (h : r.Wf) {m : MsgR} (hm : m.Right r.id) (heq : m.term ≤ r.term) : (appendP r m).1.Wf ∧ (appendP r m).1.id = r.id ∧ (appendP r m).1.term = r.term ∧ (appendP r m).1.vote = r.vote ∧
    (0 < (appendP r m).2.src → (appendP r m).1.log = r.log.take (min ((appendP r m).2.src - 1) (r.log.length : Int)).toNat ++ (appendP r m).2.recs) ∧ (¬ 0 < (appendP r m).2.src → (appendP r m).1.log = r.log) ∧ (appendP r m).2.save = false := by
  by_cases h1 : m.term < r.term
  · rw [append_old h1]; exact ⟨h, rfl, rfl, rfl, fun h => (by cases h), fun _ => rfl, rfl⟩
  by_cases h2 : r.role = 2
  · rw [append_lead h1 h2]; exact ⟨h, rfl, rfl, rfl, fun h => (by cases h), fun _ => rfl, rfl⟩
  by_cases h3 : (decide ((r.log.length : Int) < m.index) || decide (termAt r.log m.index.toNat ≠ m.prev)) = true
  · rw [append_gap h1 h2 h3]; exact ⟨fol_wf h, rfl, rfl, rfl, fun h => (by cases h), fun _ => rfl, rfl⟩
  have h3 : (decide ((r.log.length : Int) < m.index) || decide (termAt r.log m.index.toNat ≠ m.prev)) = false := by simpa using h3
  have hm1 := hm.index
  have hm2 := hm.commit
  obtain ⟨hle, hp⟩ : m.index.toNat ≤ r.log.length ∧ termAt r.log m.index.toNat = m.prev := by
    simp only [Bool.or_eq_false_iff, decide_eq_false_iff_not] at h3
    exact ⟨by omega, Decidable.not_not.1 h3.2⟩
  have hk := agree_lt (r.log.drop m.index.toNat) m.recs
  have hk2 := agree_le (r.log.drop m.index.toNat) m.recs
  rw [List.length_drop] at hk
  by_cases h4 : appK r m < m.recs.length
  · by_cases h5 : m.index.toNat + appK r m + 1 ≤ r.commit
    · rw [append_done h1 h2 h3 h4 h5]; exact ⟨fol_wf h, rfl, rfl, rfl, fun h => (by cases h), fun _ => rfl, rfl⟩
    · rw [append_new h1 h2 h3 h4 h5]
      have hs := app_sorted h.ok hm h1 hle hp
      have hl := app_len (r := r) (m := m) hle
      have hft := hm.fits
      refine ⟨⟨⟨h.ok.id, h.ok.term0, h.ok.termM, h.ok.vote0, h.ok.voteM, sorted_up hs heq, ?_, .inl rfl, ?_, fun hr => (by cases (show (0 : Int) = 2 from hr)), h.ok.bound⟩, fun hr => absurd rfl hr⟩, rfl, rfl, rfl, fun _ => ?_, fun hn => ?_, rfl⟩
      · show (r.log.take (m.index.toNat + appK r m) ++ m.recs.drop (appK r m)).length ≤ 4000
        omega
      · show appC r m ≤ (r.log.take (m.index.toNat + appK r m) ++ m.recs.drop (appK r m)).length
        rw [hl]
        unfold appC
        omega
      · show r.log.take (m.index.toNat + appK r m) ++ m.recs.drop (appK r m) = r.log.take (min (((m.index.toNat + appK r m + 1 : Nat) : Int) - 1) (r.log.length : Int)).toNat ++ m.recs.drop (appK r m)
        congr 2
        unfold appK
        omega
      · exfalso
        apply hn
        show (0 : Int) < ((m.index.toNat + appK r m + 1 : Nat) : Int)
        omega
  · rw [append_same h1 h2 h3 h4]
    have hcm := h.ok.commit
    refine ⟨⟨⟨h.ok.id, h.ok.term0, h.ok.termM, h.ok.vote0, h.ok.voteM, h.ok.log, h.ok.len, .inl rfl, ?_, fun hr => (by cases (show (0 : Int) = 2 from hr)), h.ok.bound⟩, fun hr => absurd rfl hr⟩, rfl, rfl, rfl, fun h => (by cases h), fun _ => rfl, rfl⟩
    show appC r m ≤ r.log.length
    unfold appC
    unfold appK at h4
    omega

theorem up_wf {r : Rep} (h : r.Wf) {m : MsgR} (hm : m.Right r.id) (ht : r.term < m.term) : (upR r m).Wf := ⟨up_ok h.ok m hm ht, fun hr => absurd rfl hr⟩

theorem fin_fits {r : Rep} {x : Rep × OutR} (h1 : x.1.id = r.id) (h2 : r.term ≤ x.1.term) (hs : x.2.save = false) (hl : 0 < x.2.src → x.1.log = r.log.take (min (x.2.src - 1) (r.log.length : Int)).toNat ++ x.2.recs) (hn : ¬ 0 < x.2.src → x.1.log = r.log) : Fits r (finO r x).1 (finO r x).2 := by
  unfold finO
  split
  · rename_i he
    simp only [Bool.and_eq_true, decide_eq_true_eq] at he
    exact ⟨h1, fun h => (by rw [hs] at h; cases h), fun _ => he, hl, hn, h2⟩
  · exact ⟨h1, fun _ => ⟨rfl, rfl⟩, fun h => (by cases h), hl, hn, h2⟩

theorem fin_fst {r : Rep} {x : Rep × OutR} : (finO r x).1 = x.1 := by unfold finO; split <;> rfl
theorem vote_save (r : Rep) (m : MsgR) : (voteP r m).2.save = false := by unfold voteP; split <;> rfl
theorem voted_save (r : Rep) (m : MsgR) : (votedP r m).2.save = false := by
  unfold votedP; split
  · rfl
  · simp only; split <;> rfl
theorem appended_save (r : Rep) (m : MsgR) : (appendedP r m).2.save = false := by
  unfold appendedP; split
  · rfl
  · simp only; split
    · rfl
    · split <;> rfl

theorem hear_wf {r : Rep} (h : r.Wf) {m : MsgR} : (hearP r m).1.Wf ∧ Fits r (hearP r m).1 (hearP r m).2 := by
  cases hy : rightP r.id m with
  | false => rw [hear_no hy]; exact ⟨h, Fits.refl r⟩
  | true =>
    rw [hear_yes hy]
    have hm := right_iff.1 hy
    obtain ⟨r1, hr1, hw1, ht1, hid1, hlog1, hle1⟩ : ∃ r1, (if r.term < m.term then upR r m else r) = r1 ∧ r1.Wf ∧ r.term ≤ r1.term ∧ r1.id = r.id ∧ r1.log = r.log ∧ m.term ≤ r1.term := by
      split
      · rename_i ht; exact ⟨_, rfl, up_wf h hm ht, by show r.term ≤ m.term; omega, rfl, rfl, Int.le_refl _⟩
      · rename_i ht; exact ⟨_, rfl, h, Int.le_refl _, rfl, rfl, by omega⟩
    rw [hr1]
    have hm1 : m.Right r1.id := by rw [hid1]; exact hm
    unfold hearX
    split
    · obtain ⟨a1, a2, a3, a4, a5⟩ := vote_wf hw1 (m := m) hm.src.2
      exact ⟨by rw [fin_fst]; exact a1, fin_fits (by rw [a2, hid1]) (by rw [a3]; exact ht1) (vote_save _ _) (fun hh => by rw [a5] at hh; cases hh) (fun _ => by rw [a4, hlog1])⟩
    · split
      · obtain ⟨a1, a2, a3, a4, a5, a6⟩ := voted_wf hw1 (m := m)
        exact ⟨by rw [fin_fst]; exact a1, fin_fits (by rw [a2, hid1]) (by rw [a3]; exact ht1) (voted_save _ _) (fun hh => by rw [a6] at hh; cases hh) (fun _ => by rw [a5, hlog1])⟩
      · split
        · obtain ⟨a1, a2, a3, a4, a5, a6, a7⟩ := append_wf hw1 hm1 hle1
          rw [hlog1] at a5 a6
          exact ⟨by rw [fin_fst]; exact a1, fin_fits (by rw [a2, hid1]) (by rw [a3]; exact ht1) a7 a5 a6⟩
        · obtain ⟨a1, a2, a3, a4, a5, a6⟩ := appended_wf hw1 (m := m) hm.index.1
          exact ⟨by rw [fin_fst]; exact a1, fin_fits (by rw [a2, hid1]) (by rw [a3]; exact ht1) (appended_save _ _) (fun hh => by rw [a6] at hh; cases hh) (fun _ => by rw [a5, hlog1])⟩

theorem tick_wf {r : Rep} (h : r.Wf) : (tickP r).1.Wf ∧ Fits r (tickP r).1 (tickP r).2 := by
  by_cases h1 : r.role = 2
  · rw [tick_lead h1]; exact ⟨h, Fits.refl r |>.id, fun h => (by cases h), fun _ => ⟨rfl, rfl⟩, fun h => (by cases h), fun _ => rfl, Int.le_refl _⟩
  by_cases h2 : r.term = 1099511627776
  · rw [tick_max h1 h2]; exact ⟨h, Fits.refl r⟩
  rw [tick_ask h1 h2]
  have := h.ok.term0
  exact ⟨⟨ask_ok h.ok h1 h2, fun _ => by show 1 ≤ r.term + 1; omega⟩, rfl, fun _ => ⟨rfl, rfl⟩, fun h => (by cases h), fun h => (by cases h), fun _ => rfl, by show r.term ≤ r.term + 1; omega⟩

theorem propose_wf {r : Rep} (h : r.Wf) (data : ByteArray) : (proposeP r data).1.Wf ∧ Fits r (proposeP r data).1 (proposeP r data).2.2.2 := by
  by_cases h1 : r.role ≠ 2
  · rw [prop_no h1]; exact ⟨h, Fits.refl r⟩
  by_cases h2 : 2000 < (data.size : Int)
  · rw [prop_big h1 h2]; exact ⟨h, Fits.refl r⟩
  by_cases h3 : r.log.length = 4000
  · rw [prop_full h1 h2 h3]; exact ⟨h, Fits.refl r⟩
  rw [prop_ok h1 h2 h3]
  have hr : r.role = 2 := Decidable.not_not.1 h1
  refine ⟨⟨propR_ok h.ok hr (h.one (by rw [hr]; decide)) h2 h3, h.one⟩, rfl, fun h => (by cases h), fun _ => ⟨rfl, rfl⟩, fun _ => ?_, fun hn => ?_, Int.le_refl _⟩
  · show r.log ++ [⟨r.term, data⟩] = r.log.take (min (((r.log.length + 1 : Nat) : Int) - 1) (r.log.length : Int)).toNat ++ [⟨r.term, data⟩]
    rw [show (min (((r.log.length + 1 : Nat) : Int) - 1) (r.log.length : Int)).toNat = r.log.length by omega, List.take_length]
  · exfalso
    apply hn
    show (0 : Int) < ((r.log.length + 1 : Nat) : Int)
    omega

theorem new_wf {i : Nat} {t v : Int} {l : List RecD} (hi : i ≤ 2) (h0 : 0 ≤ t) (hM : t ≤ 1099511627776) (hv0 : -1 ≤ v) (hvM : v ≤ 2) (hl : Sorted l t) (hlen : l.length ≤ 4000) : (newRep i t v l).Wf :=
  ⟨⟨hi, h0, hM, hv0, hvM, hl, hlen, .inl rfl, Nat.zero_le _, fun hr => (by cases (show (0 : Int) = 2 from hr)), fun i => ⟨by show 0 ≤ 4001; omega, by show 0 ≤ 4000; omega⟩⟩, fun hr => absurd rfl hr⟩

end Go.Proofs.Ytifgijoeckoojaa
end

/-
  The cluster: start.
-/
section
set_option linter.unusedVariables false
set_option linter.unusedSimpArgs false
namespace Go.Proofs.Ytifgijoeckoojaa
open Go.Vc

def CPhi (Φ : PW) (L : Lay) (C : Cl) : PW := fun M w => Φ M w ∧ ClS L C M w
instance cphi_stable (Φ : PW) [Stable Φ] (L : Lay) (C : Cl) : Stable (CPhi Φ L C) := instStableAnd Φ (ClS L C)

/-- the node i is another one, with the same entries stored -/
def ndC (C : Cl) (i : Nat) (n : Node) : Cl := { C with nd := put C.nd i n }

end Go.Proofs.Ytifgijoeckoojaa
end

/-
  The cluster: done.
-/
section
set_option linter.unusedVariables false
set_option linter.unusedSimpArgs false
namespace Go.Proofs.Ytifgijoeckoojaa
open Go.Vc

theorem pin_msg {M : List Nat} {w : World} {b o : Nat} {cs : List (List Value)} {l : List MsgR} (h : Pin b o cs l M w) {j : Nat} (hj : j < l.length) : ∃ p c, cs.getD j [] = l[j].cells p c ∧ l[j].recs.length ≤ c ∧ c ≤ maxLen ∧ l[j].Ok := by
  obtain ⟨_, h1, h2⟩ := h j hj
  obtain ⟨p, c, e, g1, g2, g3, _⟩ := msg_cells h2
  exact ⟨p, c, e, g1, g2, g3⟩

theorem pin_msgSl {M : List Nat} {w : World} {b o : Nat} {cs : List (List Value)} {l : List MsgR} (h : Pin b o cs l M w) {j : Nat} (hj : j < l.length) {p : Option Addr} {c : Nat} (e : cs.getD j [] = l[j].cells p c) : Sl M w p l[j].recs := by
  have := (h j hj).2.2
  rw [e] at this
  exact msg_sl this

theorem pin_msgAt {M : List Nat} {w : World} {b o : Nat} {cs : List (List Value)} {l : List MsgR} (h : Pin b o cs l M w) {j : Nat} (hj : j < l.length) {p : Option Addr} {c : Nat} (e : cs.getD j [] = l[j].cells p c) : RowAt w b (o + j * 9) (l[j].cells p c) := by
  have := (h j hj).2.1
  rw [e] at this
  exact this

/-- the entries that node i has stored are others -/
def Lay.logAt (L : Lay) (i : Nat) (p : Option Addr) (c : Nat) : Lay := { L with lp := put L.lp i p, lc := put L.lc i c }

/-- one more message -/
def Lay.sentAt (L : Lay) (p : Option Addr) (c : Nat) (mc : List Value) : Lay := { L with tp := p, tc := c, mc := mc }

end Go.Proofs.Ytifgijoeckoojaa
end

/-
  The cluster: a call of a replica and what is done after it; in plain Lean, and walked.
-/
section
set_option linter.unusedVariables false
set_option linter.unusedSimpArgs false
namespace Go.Proofs.Ytifgijoeckoojaa
open Go.Vc

/-! ### results are short -/
structure Small (o : OutR) : Prop where
  recs : o.recs.length ≤ 4000
  src : o.src ≤ 4001
  send : o.send.length ≤ 2

theorem small0 : Small out0 := ⟨by simp, by simp, by simp⟩
theorem smallS {l : List MsgR} (h : l.length ≤ 2) : Small (outS l) := ⟨by simp, by simp, h⟩
theorem all_len (r : Rep) : (allOf r).length ≤ 2 := by unfold allOf; rw [List.length_map, others_len]; exact Nat.le_refl _

theorem tick_small (r : Rep) : Small (tickP r).2 := by
  unfold tickP
  split
  · exact smallS (all_len r)
  split
  · exact small0
  · exact ⟨by simp, by simp, by simp [others_len]⟩

theorem vote_small (r : Rep) (m : MsgR) : Small (voteP r m).2 := by
  unfold voteP
  split
  · exact smallS (by simp)
  · exact smallS (by simp)

theorem voted_small (r : Rep) (m : MsgR) : Small (votedP r m).2 := by
  unfold votedP
  split
  · exact small0
  · simp only
    split
    · exact small0
    · exact smallS (all_len _)

theorem append_small (r : Rep) {m : MsgR} (h1 : m.recs.length ≤ 8) (h2 : m.index + m.recs.length ≤ 4000) (h3 : 0 ≤ m.index) : Small (appendP r m).2 := by
  unfold appendP
  split
  · exact smallS (by simp)
  split
  · exact small0
  simp only
  split
  · exact smallS (by simp)
  split
  · rename_i hk
    split
    · exact small0
    · exact ⟨by simp; omega, by simp only; omega, by simp⟩
  · exact smallS (by simp)

theorem appended_small (r : Rep) (m : MsgR) : Small (appendedP r m).2 := by
  unfold appendedP
  split
  · exact small0
  simp only
  split
  · exact smallS (by simp)
  split
  · exact smallS (by simp)
  · exact small0

theorem fin_small {r : Rep} {x : Rep × OutR} (h : Small x.2) : Small (finO r x).2 := by
  unfold finO
  split
  · exact h
  · exact ⟨h.recs, h.src, h.send⟩

theorem hear_small (r : Rep) (m : MsgR) : Small (hearP r m).2 := by
  cases hy : rightP r.id m with
  | false => rw [hear_no hy]; exact small0
  | true =>
    have hm := right_iff.1 hy
    rw [hear_yes hy]
    refine fin_small ?_
    unfold hearX
    split
    · exact vote_small _ m
    split
    · exact voted_small _ m
    split
    · exact append_small _ hm.len hm.fits hm.index.1
    · exact appended_small _ m

theorem propose_small {r : Rep} (h : r.log.length ≤ 4000) (data : ByteArray) : Small (proposeP r data).2.2.2 := by
  unfold proposeP
  split
  · exact small0
  split
  · exact small0
  split
  · exact small0
  · exact ⟨by simp, by simp only; omega, all_len _⟩

/-! ### a cluster that may be found -/
structure Cl.Wf (C : Cl) : Prop where
  rep : ∀ i, i < 3 → (C.nd i).rep.Wf ∧ (C.nd i).rep.id = i
  hard : ∀ i, i < 3 → (C.nd i).sterm = (C.nd i).rep.term ∧ (C.nd i).svote = (C.nd i).rep.vote ∧ (C.nd i).slog = (C.nd i).rep.log
  stop : ∀ i, i < 3 → (C.nd i).stop = 0 ∨ (C.nd i).stop = 1 ∨ (C.nd i).stop = 2
  sent : C.sent.length ≤ 300

/-- node i is another replica, and that is stored -/
def hardN (n : Node) (r : Rep) : Node := ⟨r, r.term, r.vote, r.log, n.stop⟩
def hardC (C : Cl) (i : Nat) (r : Rep) : Cl := { C with nd := put C.nd i (hardN (C.nd i) r) }
/-- a call of node i has given x -/
def callC (C : Cl) (i : Nat) (x : Rep × OutR) : Cl := doneC (repC C i x.1) i x.2

/-! ### walked -/
end Go.Proofs.Ytifgijoeckoojaa
end

/-
  The cluster: a message arrives, or is lost.
-/
section
set_option linter.unusedVariables false
set_option linter.unusedSimpArgs false
namespace Go.Proofs.Ytifgijoeckoojaa
open Go.Vc

def remL {α : Type} (l : List α) (n : Nat) : List α := l.take n ++ l.drop (n + 1)
def dropC (C : Cl) (n : Nat) : Cl := { C with sent := remL C.sent n }
def deliver (C : Cl) (m : MsgR) : Cl := callC C (pickZ m.to 3).toNat (hearP (C.nd (pickZ m.to 3).toNat).rep m)
def arriveC (C : Cl) (n : Int) (keep : Bool) : Cl :=
  match C.sent[(pickZ n C.sent.length).toNat]? with
  | none => C
  | some m => deliver (if keep then C else dropC C (pickZ n C.sent.length).toNat) m

abbrev h3 (L : Lay) (C : Cl) : List Own := [.blk L.x (xCells L C) 34, .buf L.rp 3 L.rc (rCells L) 46 1, .buf L.sp 3 L.sc (sCells L C) 42 4]
abbrev R3 (L : Lay) (C : Cl) (G : List Own) : List Own := h3 L C ++ (repsO L C ++ G)
abbrev remF (L : Lay) (C : Cl) (Φ : PW) : PW := fun M w => CPhi Φ L C M w ∧ Sl M w L.tp C.sent
instance rem_stable (L : Lay) (C : Cl) (Φ : PW) [Stable Φ] : Stable (remF L C Φ) := instStableAnd (CPhi Φ L C) (fun M w => Sl M w L.tp C.sent)

end Go.Proofs.Ytifgijoeckoojaa
end

/-
  The cluster: arrive, walked.
-/
section
set_option linter.unusedVariables false
set_option linter.unusedSimpArgs false
namespace Go.Proofs.Ytifgijoeckoojaa
open Go.Vc

abbrev MPhi (Φ : PW) (p : Option Addr) (l : List RecD) : PW := fun M w => Φ M w ∧ Sl M w p l
instance mphi_stable (Φ : PW) [Stable Φ] (p : Option Addr) (l : List RecD) : Stable (MPhi Φ p l) := instStableAnd Φ (fun M w => Sl M w p l)

end Go.Proofs.Ytifgijoeckoojaa
end

/-
  The cluster: step.
-/
section
set_option linter.unusedVariables false
set_option linter.unusedSimpArgs false
namespace Go.Proofs.Ytifgijoeckoojaa
open Go.Vc

def andZ (a m : Int) : Int := IntKind.i64.wrap (BitVec.ofInt 64 a &&& BitVec.ofInt 64 m).toNat
theorem and_run (a m : Int) (w : World) : Sem.run Try.prog (binOp BinOp.and 3 (.int .i64 a) (.int .i64 m)) w = .ok (.int .i64 (andZ a m)) w := rfl
def tickC (C : Cl) (i : Nat) : Cl := callC C i (tickP (C.nd i).rep)
def propC (C : Cl) (i : Nat) (data : ByteArray) : Cl := callC C i ((proposeP (C.nd i).rep data).1, (proposeP (C.nd i).rep data).2.2.2)
def stopC (C : Cl) (i : Nat) (s : Int) : Cl := ndC C i { C.nd i with stop := s }
def loseC (C : Cl) (n : Int) : Cl := if 0 < C.sent.length then dropC C (pickZ n C.sent.length).toNat else C
def stepC (C : Cl) (x : OpR) : Cl :=
  let i := (pickZ x.who 3).toNat
  let k := andZ x.op 15
  if k = 8 then loseC C x.n
  else if k = 9 then arriveC C x.n true
  else if k = 10 ∨ k = 11 then tickC C i
  else if k = 12 ∨ k = 13 then propC C i x.data
  else if k = 14 then startC C i
  else if k = 15 then stopC C i (1 + andZ x.n 1)
  else arriveC C x.n false

end Go.Proofs.Ytifgijoeckoojaa
end

/-
  Log, Role, Commit, Hard; the example of the documentation.
-/
section
set_option linter.unusedVariables false
set_option linter.unusedSimpArgs false
namespace Go.Proofs.Ytifgijoeckoojaa
open Go.Vc

theorem Log_use {W w : World} {S : List Own} {Φ : PW} [Stable Φ] {b : Nat} {r : Rep} {p : Option Addr} {c : Nat} (cx : Ctx W w (repO b r p c ++ S) Φ) (hok : ∀ x ∈ r.log, x.Ok) (hlen : r.log.length ≤ 4000) {K : Ending → World → Prop}
    (hK : ∀ q cap w', r.log.length ≤ cap → cap ≤ maxLen → Ctx W w' (repO b r p c ++ S) (fun M w => Φ M w ∧ Sl M w q r.log) → K (.returned (.slice q r.log.length cap)) w') :
    Calls Try.prog F.replica_Replica_Log #[.pointer (some ⟨b, 0, none⟩)] w K := by
  refine (Breplica_Replica_Log_run b 0 (J := fun u w' => K (.returned u) w') cx ?_).mono fun e w' ⟨v, he, hj⟩ => by rw [he]; exact hj
  refine fun w G cx => ⟨p, r.log.length, c, cx.get 0 rfl rfl, fun w G cx => ?_⟩
  have cx1 : Ctx W w (S ++ G) (Aside W (repO b r p c) Φ) := Ctx.aside (cx.re (List.append_assoc _ _ _))
  refine CloneR_use cx1 (fun M w h => log_sl h (n := r.log.length) (c := c) (by simp) hok) (by omega) fun q cap w cx => ?_
  obtain ⟨_, hcap1, hcap2⟩ := cx.bufLen 0 rfl
  have cx2 : Ctx W w (.buf q r.log.length cap (recCells r.log) 55 2 :: (repO b r p c ++ (S ++ G))) Φ := cx.unaside.perm List.perm_middle
  obtain ⟨cx3, hs, _⟩ := Ctx.freeze (α := RecD) cx2 (recs_elems hok)
  have hst : Stable (fun M w => Φ M w ∧ Sl M w q r.log) := instStableAnd Φ (fun M w => Sl M w q r.log)
  exact ⟨q, _, cap, rfl, repO b r p c ++ S, fun M w => Φ M w ∧ Sl M w q r.log, hst, gr (cx3.add hs), fun w G cx => hK q cap w hcap1 hcap2 cx.left⟩

theorem Role_q {w : World} {b : Nat} {r : Rep} {p : Option Addr} {c : Nat} (h : Here w b r p c) : Calls Try.prog F.replica_Replica_Role #[.pointer (some ⟨b, 0, none⟩)] w fun e w' => e = .returned (.int .i64 r.role) ∧ w' = w :=
  (Qreplica_Replica_Role_run b 0 w (fun u w' => u = .int .i64 r.role ∧ w' = w) ⟨r.role, h.at 4 rfl, rfl, rfl⟩).mono fun e w' ⟨v, h1, h2, h3⟩ => ⟨by rw [h1, h2], h3⟩

theorem Commit_q {w : World} {b : Nat} {r : Rep} {p : Option Addr} {c : Nat} (h : Here w b r p c) : Calls Try.prog F.replica_Replica_Commit #[.pointer (some ⟨b, 0, none⟩)] w fun e w' => e = .returned (.int .i64 r.commit) ∧ w' = w :=
  (Qreplica_Replica_Commit_run b 0 w (fun u w' => u = .int .i64 r.commit ∧ w' = w) ⟨r.commit, h.at 5 rfl, rfl, rfl⟩).mono fun e w' ⟨v, h1, h2, h3⟩ => ⟨by rw [h1, h2], h3⟩

theorem Commit_use {W w : World} {S : List Own} {Φ : PW} [Stable Φ] {b : Nat} {r : Rep} {p : Option Addr} {c : Nat} (cx : Ctx W w (repO b r p c ++ S) Φ) {K : Ending → World → Prop} (hK : ∀ w', Ctx W w' (repO b r p c ++ S) Φ → K (.returned (.int .i64 r.commit)) w') :
    Calls Try.prog F.replica_Replica_Commit #[.pointer (some ⟨b, 0, none⟩)] w K :=
  (Commit_q (here_of cx)).mono fun e w' ⟨h1, h2⟩ => by subst h2; rw [h1]; exact hK _ cx

theorem Hard_use {W w : World} {S : List Own} {Φ : PW} [Stable Φ] {b : Nat} {r : Rep} {p : Option Addr} {c : Nat} (cx : Ctx W w (repO b r p c ++ S) Φ) {K : Ending → World → Prop} (hK : ∀ w', Ctx W w' (repO b r p c ++ S) Φ → K (.returned (.agg #[.int .i64 r.term, .int .i64 r.vote])) w') :
    Calls Try.prog F.replica_Replica_Hard #[.pointer (some ⟨b, 0, none⟩)] w K := by
  refine (Breplica_Replica_Hard_run b 0 (J := fun u w' => K (.returned u) w') cx ?_).mono fun e w' ⟨v, he, hj⟩ => by rw [he]; exact hj
  exact fun _ w G cx => ⟨r.term, r.vote, cx.row 0 rfl (rows_of (vs := [.int .i64 r.term, .int .i64 r.vote]) rfl), fun w G cx => hK w cx.left⟩

theorem first_msg {W w : World} {S : List Own} {Φ : PW} [Stable Φ] {q1 q2 : Option Addr} {recs : List RecD} {send rest : List MsgR} {m : MsgR} (cx : Ctx W w S (OPhi Φ q1 recs q2 send)) (hs : send = m :: rest) :
    ∃ b o mp mc, ∃ Ψ : PW, Stable Ψ ∧ q2 = some ⟨b, o, none⟩ ∧ Ctx W w S Ψ ∧ (∀ M w, Ψ M w → Φ M w ∧ RowAt w b o (m.cells mp mc) ∧ Sl M w mp m.recs) ∧ m.recs.length ≤ mc ∧ mc ≤ maxLen ∧ m.Ok := by
  obtain ⟨b, o, cs, hp, cx'⟩ := cx.pin cx.phi.2.2
  subst hs
  have h0 : 0 < (m :: rest).length := by simp
  obtain ⟨mp, mc, he, h1, h2, h3⟩ := pin_msg cx'.phi.2 h0
  refine ⟨b, o, mp, mc, fun M w => OPhi Φ q1 recs q2 (m :: rest) M w ∧ Pin b o cs (m :: rest) M w, inferInstance, hp h0, cx', fun M w h => ⟨h.1.1, ?_, ?_⟩, h1, h2, h3⟩
  · have := pin_msgAt h.2 h0 he
    rw [Nat.zero_mul, Nat.add_zero] at this
    exact this
  · exact pin_msgSl h.2 h0 he

theorem swapL {W w : World} {A B S G : List Own} {Φ : PW} [Stable Φ] (c : Ctx W w (A ++ (B ++ S) ++ G) Φ) : Ctx W w (B ++ (A ++ S ++ G)) Φ := by
  refine c.perm ?_
  have e1 : (A ++ (B ++ S) ++ G).Perm ((A ++ B) ++ (S ++ G)) := List.Perm.of_eq (by simp)
  exact e1.trans ((List.Perm.append_right _ List.perm_append_comm).trans (List.Perm.of_eq (by simp)))

theorem out_gr {W : World} {S G : List Own} {Φ : PW} {b : Nat} {r' : Rep} {o : OutR} {J : Value → World → Prop} (h : ∀ p' c' q1 c1 q2 c2 w', o.recs.length ≤ c1 → c1 ≤ maxLen → o.send.length ≤ c2 → c2 ≤ maxLen → Ctx W w' (repO b r' p' c' ++ S ++ G) (OPhi Φ q1 o.recs q2 o.send) → J (outV o q1 c1 q2 c2) w') :
    OutK W (S ++ G) Φ b r' o J := fun p' c' q1 c1 q2 c2 w' h1 h2 h3 h4 cx => h p' c' q1 c1 q2 c2 w' h1 h2 h3 h4 (gr cx)

def exA0 : Rep := newRep 0 0 (-1) []
def exB0 : Rep := newRep 1 0 (-1) []
def exM1 : MsgR := ⟨0, 0, 1, 1, 0, 0, 0, false, []⟩
def exM2 : MsgR := ⟨1, 1, 0, 1, 0, 0, 0, true, []⟩
def exE : RecD := ⟨1, ByteArray.mk #[OfNat.ofNat 97]⟩
def exM4 : MsgR := ⟨2, 0, 1, 1, 0, 0, 0, false, [exE]⟩
def exM5 : MsgR := ⟨3, 1, 0, 1, 1, 0, 0, true, []⟩
def exX1 := tickP exA0
def exX2 := hearP exB0 exM1
def exX3 := hearP exX1.1 exM2
def exX4 := proposeP exX3.1 (ByteArray.mk #[OfNat.ofNat 97])
def exX5 := hearP exX2.1 exM4
def exX6 := hearP exX4.1 exM5

theorem ex1 : exX1.2.save = true ∧ exX1.2.term = 1 ∧ exX1.2.vote = 0 ∧ exX1.2.send.length = 2 ∧ ∃ r, exX1.2.send = exM1 :: r := ⟨by decide, by decide, by decide, by decide, _, rfl⟩
theorem ex2 : exX2.2.send = [exM2] := rfl
theorem ex4 : exX4.2.1 = 1 ∧ exX4.2.2.1 = 0 ∧ exX4.2.2.2.send.length = 2 ∧ ∃ r, exX4.2.2.2.send = exM4 :: r := ⟨by decide, by decide, by decide, _, rfl⟩
theorem ex5 : exX5.2.src = 1 ∧ exX5.2.send = [exM5] := ⟨by decide, rfl⟩
theorem exWa : exA0.Wf := new_wf (by decide) (by decide) (by decide) (by decide) (by decide) ⟨by simp, by simp, by simp, by simp⟩ (by simp)
theorem exWb : exB0.Wf := new_wf (by decide) (by decide) (by decide) (by decide) (by decide) ⟨by simp, by simp, by simp, by simp⟩ (by simp)
theorem exW1 : exX1.1.Wf := (tick_wf exWa).1
theorem exW2 : exX2.1.Wf := (hear_wf exWb).1
theorem exW3 : exX3.1.Wf := (hear_wf exW1).1
theorem exW4 : exX4.1.Wf := (propose_wf exW3 _).1
theorem exW5 : exX5.1.Wf := (hear_wf exW2).1
theorem exW6 : exX6.1.Wf := (hear_wf exW4).1

end Go.Proofs.Ytifgijoeckoojaa
end

/-
  The example of the documentation, walked.
-/
section
set_option linter.unusedVariables false
set_option linter.unusedSimpArgs false
namespace Go.Proofs.Ytifgijoeckoojaa
open Go.Vc

set_option maxHeartbeats 2000000 in
set_option maxRecDepth 10000 in
theorem small_g : Gives Try.prog F.erratalaw08_small #[] (.bool true) := by
  refine gives_of Berratalaw08_small_run fun W R Φ _ => ?_
  refine fun w G cx => New_use cx 0 0 (-1) [] none 0 (fun _ _ _ => Sl.nil) (by simp) (fun h => absurd h (by decide)) fun _ ba pa ca w cx => ⟨some ⟨ba, 0, none⟩, rfl, repO ba exA0 pa ca ++ R, Φ, inferInstance, gr cx, fun w G cx => New_use cx 1 0 (-1) [] none 0 (fun _ _ _ => Sl.nil) (by simp) (fun h => absurd h (by decide)) fun _ bb pb cb w cx => ⟨some ⟨bb, 0, none⟩, rfl, repO bb exB0 pb cb ++ (repO ba exA0 pa ca ++ R), Φ, inferInstance, gr cx, fun w G cx => Br.intro (fun h => by cases h) (fun _ => ?_)⟩⟩
  intro w G cx
  refine Tick_use (swapL cx) exWa.ok (out_gr fun pa ca q1 c1 q2 c2 w _ _ _ _ cx => ?_)
  obtain ⟨y1, y2, y3, y4, r1, y5⟩ := ex1
  obtain ⟨b1, o1, mp1, mc1, Φ1, hst1, hq1, cz1, hΦ1, hl1, hl1', hm1⟩ := first_msg cx y5
  subst hq1
  refine ⟨_, _, _, _, q1, _, c1, some ⟨b1, o1, none⟩, _, c2, rfl, repO ba exX1.1 pa ca ++ (repO bb exB0 pb cb ++ R), Φ1, hst1, cz1, fun _ => Br.intro (fun h => absurd h (by decide)) (fun _ => Br.intro (fun h => absurd h (by decide)) (fun _ => ⟨okAgg40, Br.intro (fun h => absurd h (by decide)) (fun _ => ⟨⟨by decide, by decide⟩, ptrK_intro b1 o1 rfl fun w G cx => ⟨_, _, _, _, _, _, _, _, mp1, _, mc1, (hΦ1 _ _ cx.phi).2.1, fun w G cx => ?_⟩⟩)⟩))⟩
  refine Hear_use (swapL cx) exWb.ok exM1 hm1 mp1 mc1 (fun M w h => (hΦ1 M w h).2.2) hl1 hl1' (out_gr fun pb cb q3 c3 q4 c4 w _ _ _ _ cx => ?_)
  obtain ⟨b2, o2, mp2, mc2, Φ2, hst2, hq2, cz2, hΦ2, hl2, hl2', hm2⟩ := first_msg cx ex2
  subst hq2
  refine ⟨_, _, _, _, q3, _, c3, some ⟨b2, o2, none⟩, _, c4, rfl, repO bb exX2.1 pb cb ++ (repO ba exX1.1 pa ca ++ R), Φ2, hst2, cz2, fun _ w G cx => ⟨fun _ => ⟨by decide, by decide⟩, ptrK_intro b2 o2 rfl ⟨true, fun _ => (hΦ2 _ _ cx.phi).2.1 7 (show 7 < 9 by decide), Br.intro (fun h => absurd h (by decide)) (fun _ => ⟨⟨by decide, by decide⟩, ptrK_intro b2 o2 rfl fun w G cx => ⟨_, _, _, _, _, _, _, _, mp2, _, mc2, (hΦ2 _ _ cx.phi).2.1, fun w G cx => ?_⟩⟩)⟩⟩⟩
  refine Hear_use (swapL cx) exW1.ok exM2 hm2 mp2 mc2 (fun M w h => (hΦ2 M w h).2.2) hl2 hl2' (out_gr fun pa ca q5 c5 q6 c6 w _ _ _ _ cx => ?_)
  refine ⟨_, _, _, _, q5, _, c5, q6, _, c6, rfl, repO ba exX3.1 pa ca ++ (repO bb exX2.1 pb cb ++ R), OPhi Φ2 q5 exX3.2.recs q6 exX3.2.send, inferInstance, cx, fun _ w G cx => ?_⟩
  refine Propose_use (gl cx) exW3.ok (fun hr => exW3.one (by rw [hr]; decide)) _ (out_gr fun pa ca q7 c7 q8 c8 w _ _ _ _ cx => ?_)
  obtain ⟨z1, z2, z3, r4, z4⟩ := ex4
  obtain ⟨b4, o4, mp4, mc4, Φ4, hst4, hq4, cz4, hΦ4, hl4, hl4', hm4⟩ := first_msg cx z4
  subst hq4
  refine ⟨_, _, _, _, _, _, q7, _, c7, some ⟨b4, o4, none⟩, _, c8, rfl, repO ba exX4.1 pa ca ++ (repO bb exX2.1 pb cb ++ R), Φ4, hst4, cz4, fun _ w G cx => ⟨exX4.1.role, fun _ w' hw => by rw [hw]; exact Role_q (here_of (gl cx)), Br.intro (fun h => absurd h (by decide)) (fun _ => ⟨⟨by decide, by decide⟩, ptrK_intro b4 o4 rfl fun w G cx => ⟨_, _, _, _, _, _, _, _, mp4, _, mc4, (hΦ4 _ _ cx.phi).2.1, fun w G cx => ?_⟩⟩)⟩⟩
  refine Hear_use (swapL cx) exW2.ok exM4 hm4 mp4 mc4 (fun M w h => (hΦ4 M w h).2.2) hl4 hl4' (out_gr fun pb cb q9 c9 q10 c10 w _ _ _ _ cx => ?_)
  obtain ⟨b5, o5, mp5, mc5, Φ5, hst5, hq5, cz5, hΦ5, hl5, hl5', hm5⟩ := first_msg cx ex5.2
  subst hq5
  refine ⟨_, _, _, _, q9, _, c9, some ⟨b5, o5, none⟩, _, c10, rfl, repO bb exX5.1 pb cb ++ (repO ba exX4.1 pa ca ++ R), Φ5, hst5, cz5, fun _ w G cx => Br.intro (fun h => absurd h (by decide)) (fun _ => ⟨⟨by decide, by decide⟩, ptrK_intro b5 o5 rfl fun w G cx => ⟨_, _, _, _, _, _, _, _, mp5, _, mc5, (hΦ5 _ _ cx.phi).2.1, fun w G cx => ?_⟩⟩)⟩
  refine Hear_use (swapL cx) exW4.ok exM5 hm5 mp5 mc5 (fun M w h => (hΦ5 M w h).2.2) hl5 hl5' (out_gr fun pa ca q11 c11 q12 c12 w _ _ _ _ cx => ?_)
  refine ⟨_, _, _, _, q11, _, c11, q12, _, c12, rfl, repO ba exX6.1 pa ca ++ (repO bb exX5.1 pb cb ++ R), OPhi Φ5 q11 exX6.2.recs q12 exX6.2.send, inferInstance, cx, fun w G cx => Commit_use (gl cx) fun w cx => ⟨_, rfl, repO ba exX6.1 pa ca ++ (repO bb exX5.1 pb cb ++ R), OPhi Φ5 q11 exX6.2.recs q12 exX6.2.send, inferInstance, gr cx, Br.intro (fun _ w G cx => ?_) (fun h => absurd h (by decide))⟩⟩
  have hΦ : ∀ M w, OPhi Φ5 q11 exX6.2.recs q12 exX6.2.send M w → Φ M w := fun M w h => (hΦ1 M w (hΦ2 M w (hΦ4 M w (hΦ5 M w h.1).1).1.1).1).1
  have hst6 : Stable (OPhi Φ5 q11 exX6.2.recs q12 exX6.2.send) := inferInstance
  generalize OPhi Φ5 q11 exX6.2.recs q12 exX6.2.send = Φ6 at cx hΦ hst6
  refine Log_use (gl cx) exW6.ok.recs exW6.ok.len fun q cap w _ _ cx => ⟨q, _, cap, rfl, repO ba exX6.1 pa ca ++ (repO bb exX5.1 pb cb ++ R), (fun M w => Φ6 M w ∧ Sl M w q exX6.1.log), instStableAnd Φ6 (fun M w => Sl M w q exX6.1.log), gr cx, Br.intro (fun _ w G cx => ?_) (fun h => absurd h (by decide))⟩
  have cy : Ctx W w (repO ba exX6.1 pa ca ++ (repO bb exX5.1 pb cb ++ R) ++ G) Φ := cx.weak fun M w h => hΦ M w h.1
  refine Log_use (swapL cy) exW5.ok.recs exW5.ok.len fun q cap w _ _ cx => ⟨q, _, cap, rfl, repO bb exX5.1 pb cb ++ (repO ba exX6.1 pa ca ++ R), Φ, inferInstance, (gr cx).weak fun M w h => h.1, fun w G cx => ⟨rfl, cx.left.right.right⟩⟩

end Go.Proofs.Ytifgijoeckoojaa
end

/-
  The comparisons: equal results are found equal.
-/
section
set_option linter.unusedVariables false
set_option linter.unusedSimpArgs false
namespace Go.Proofs.Ytifgijoeckoojaa
open Go.Vc


theorem SameRecs_big {Φ : PW} [Stable Φ] (p q : Option Addr) (cap cap2 : Nat) (a b : List RecD) (hΦ : ∀ M w, Φ M w → Sl M w p a) (hΨ : ∀ M w, Φ M w → Sl M w q b) (hlen : a.length ≤ 9223372036854775807) :
    GivesIn Φ Try.prog F.errataref08_SameRecs #[.slice p a.length cap, .slice q b.length cap2] (.bool (decide (a = b))) := by
  refine .there (fun M w h => (hΦ M w h).there) fun hth => .there (fun M w h => (hΨ M w h).there) fun hth2 => ?_
  refine gives_in (Berrataref08_SameRecs_run p a.length cap q b.length cap2) fun W R => ?_
  refine Br.intro (fun h => fun w G cx => ⟨?_, cx.left⟩) (fun h => ?_)
  · rw [decide_eq_false]
    intro e
    have := of_decide_eq_true h
    rw [e] at this
    exact this rfl
  have hl : a.length = b.length := by have := of_decide_eq_false h; omega
  refine exI_mk (fun iI R' Φ' k => ∃ i : Nat, iI = i ∧ i ≤ a.length ∧ R' = R ∧ Φ' = Φ ∧ k = a.length - i ∧ a.take i = b.take i) ⟨⟨R, Φ, _, inferInstance, fun w F c => c, 0, rfl, Nat.zero_le _, rfl, rfl, rfl, rfl⟩, ?_⟩
  rintro iI R1 Φ1 k _ ⟨i, rfl, hi, rfl, rfl, rfl, hs⟩
  refine Br.intro (fun hlt => fun w G cx => ?_) (fun hge => fun w F cx => ⟨?_, cx.left⟩)
  · have hlt : i < a.length := by simpa using hlt
    have hltb : i < b.length := by omega
    obtain ⟨b1, o1, rfl⟩ := hth (by omega)
    obtain ⟨b2, o2, rfl⟩ := hth2 (by omega)
    refine ⟨by omega, ptrK_intro b1 o1 rfl ⟨a[i].term, a[i].data, by rw [Int.toNat_natCast]; exact sl_rec (hΦ _ _ cx.phi) hlt, by omega, ptrK_intro b2 o2 rfl ⟨b[i].term, b[i].data, by rw [Int.toNat_natCast]; exact sl_rec (hΨ _ _ cx.phi) hltb, okAgg55, Br.intro (fun h => fun w G cx => ⟨?_, cx.left⟩) (fun h => ⟨by unfold I64; omega, R1, Φ1, a.length - (i + 1), inferInstance, fun w F c => c, ⟨i + 1, rfl, hlt, rfl, rfl, rfl, ?_⟩, by omega⟩)⟩⟩⟩
    · rw [decide_eq_false]
      intro e
      subst e
      simp at h
    · have he : a[i] = b[i] := by
        simp only [Bool.not_eq_false', Bool.and_true, Bool.and_eq_true, decide_eq_true_eq] at h
        exact rec_ext.2 h
      rw [List.take_succ_eq_append_getElem hlt, List.take_succ_eq_append_getElem hltb, hs, he]
  · have hge : i = a.length := Nat.le_antisymm hi (by simpa using hge)
    rw [decide_eq_true]
    rw [hge, List.take_length, hl, List.take_length] at hs
    exact hs


theorem bool_self (b : Bool) : (b == b) = true := by cases b <;> rfl

theorem SameMsg_same {Φ : PW} [Stable Φ] (m : MsgR) (p q : Option Addr) (c c2 : Nat) (hΦ : ∀ M w, Φ M w → Sl M w p m.recs) (hΨ : ∀ M w, Φ M w → Sl M w q m.recs) (hlen : m.recs.length ≤ 9223372036854775807) :
    GivesIn Φ Try.prog F.errataref08_SameMsg #[m.v p c, m.v q c2] (.bool true) := by
  refine gives_in (Berrataref08_SameMsg_run m.kind m.src m.to m.term m.index m.prev m.commit m.yes p m.recs.length c m.kind m.src m.to m.term m.index m.prev m.commit m.yes q m.recs.length c2) fun W R => ?_
  refine fun _ _ => Br.intro (fun _ => Br.intro (fun _ => Br.intro (fun _ => Br.intro (fun _ => Br.intro (fun _ => Br.intro (fun _ => Br.intro (fun _ => Br.intro (fun _ => ?_) (fun h => absurd (bool_self _) (by rw [h]; simp))) (fun h => absurd rfl (of_decide_eq_false h))) (fun h => absurd rfl (of_decide_eq_false h))) (fun h => absurd rfl (of_decide_eq_false h))) (fun h => absurd rfl (of_decide_eq_false h))) (fun h => absurd rfl (of_decide_eq_false h))) (fun h => absurd rfl (of_decide_eq_false h))) (fun h => absurd rfl (of_decide_eq_false h))
  have h := SameRecs_big (Φ := Φ) p q c c2 m.recs m.recs hΦ hΨ hlen
  rw [decide_eq_true rfl] at h
  exact fun w G cx => h.use cx fun w cx => ⟨_, rfl, R, Φ, inferInstance, cx, fun w G cx => ⟨rfl, cx.left⟩⟩

set_option maxHeartbeats 1000000 in
theorem SameOut_pin {Φ : PW} [Stable Φ] (o : OutR) (p1 : Option Addr) (c1 : Nat) (p2 : Option Addr) (c2 : Nat) (q1 : Option Addr) (d1 : Nat) (q2 : Option Addr) (d2 : Nat) (b1 o1 : Nat) (cs1 : List (List Value)) (b2 o2 : Nat) (cs2 : List (List Value))
    (hp : 0 < o.send.length → p2 = some ⟨b1, o1, none⟩) (hq : 0 < o.send.length → q2 = some ⟨b2, o2, none⟩) (h1 : ∀ M w, Φ M w → Sl M w p1 o.recs) (h2 : ∀ M w, Φ M w → Sl M w q1 o.recs) (h3 : ∀ M w, Φ M w → Pin b1 o1 cs1 o.send M w) (h4 : ∀ M w, Φ M w → Pin b2 o2 cs2 o.send M w)
    (hr : o.recs.length ≤ 9223372036854775807) (hs : o.send.length ≤ 9223372036854775807) :
    GivesIn Φ Try.prog F.errataref08_SameOut #[outV o p1 c1 p2 c2, outV o q1 d1 q2 d2] (.bool true) := by
  refine gives_in (Berrataref08_SameOut_run o.save o.term o.vote o.src p1 o.recs.length c1 p2 o.send.length c2 o.save o.term o.vote o.src q1 o.recs.length d1 q2 o.send.length d2) fun W R => ?_
  have hsr := SameRecs_big (Φ := Φ) p1 q1 c1 d1 o.recs o.recs h1 h2 hr
  rw [decide_eq_true rfl] at hsr
  refine fun _ _ => Br.intro (fun h => by cases hb : o.save <;> rw [hb] at h <;> cases h) (fun _ => ⟨okAgg40, Br.intro (fun h => by simp at h) (fun _ => Br.intro (fun h => absurd rfl (of_decide_eq_true h)) (fun _ => fun w G cx => hsr.use cx fun w cx => ⟨_, rfl, R, Φ, inferInstance, cx, Br.intro (fun h => by cases h) (fun _ => Br.intro (fun h => absurd rfl (of_decide_eq_true h)) (fun _ => ?_))⟩))⟩)
  refine exI_mk (fun iI R' Φ' k => ∃ i : Nat, iI = i ∧ i ≤ o.send.length ∧ R' = R ∧ Φ' = Φ ∧ k = o.send.length - i) ⟨⟨R, Φ, _, inferInstance, fun w F c => c, 0, rfl, Nat.zero_le _, rfl, rfl, rfl⟩, ?_⟩
  rintro iI R1 Φ1 k _ ⟨i, rfl, hi, rfl, rfl, rfl⟩
  refine Br.intro (fun hlt => ?_) (fun hge => fun w F cx => ⟨rfl, cx.left⟩)
  have hlt : i < o.send.length := by have := of_decide_eq_true hlt; omega
  -- what is known of the messages holds in all worlds of which Φ1 tells
  by_cases hex : ∃ M w, Φ1 M w
  · obtain ⟨M0, w0, h0⟩ := hex
    obtain ⟨mp, mc, e1, g1, g2, g3⟩ := pin_msg (h3 _ _ h0) hlt
    obtain ⟨np, nc, e2, k1, k2, k3⟩ := pin_msg (h4 _ _ h0) hlt
    have ha : ∀ M w, Φ1 M w → RowAt w b1 (o1 + i * 9) (o.send[i].cells mp mc) := fun M w h => pin_msgAt (h3 M w h) hlt e1
    have hb : ∀ M w, Φ1 M w → RowAt w b2 (o2 + i * 9) (o.send[i].cells np nc) := fun M w h => pin_msgAt (h4 M w h) hlt e2
    have ha' : ∀ M w, Φ1 M w → Sl M w mp o.send[i].recs := fun M w h => pin_msgSl (h3 M w h) hlt e1
    have hb' : ∀ M w, Φ1 M w → Sl M w np o.send[i].recs := fun M w h => pin_msgSl (h4 M w h) hlt e2
    generalize o.send[i] = m at ha hb ha' hb' g1
    have hml : m.recs.length ≤ 9223372036854775807 := Nat.le_trans g1 (Nat.le_trans g2 (by decide))
    exact ⟨R1, Φ1, inferInstance, fun w G cx => cx, by omega, ptrK_intro b1 o1 (hp (by omega)) ⟨by omega, ptrK_intro b2 o2 (hq (by omega)) ⟨m.kind, m.src, m.to, m.term, m.index, m.prev, m.commit, m.yes, mp, m.recs.length, mc, fun w G cx => ⟨_, _, _, _, _, _, _, _, mp, m.recs.length, mc, by rw [Int.toNat_natCast]; exact ha _ _ cx.phi, rfl⟩,
      m.kind, m.src, m.to, m.term, m.index, m.prev, m.commit, m.yes, np, m.recs.length, nc, fun w G cx => ⟨_, _, _, _, _, _, _, _, np, m.recs.length, nc, by rw [Int.toNat_natCast]; exact hb _ _ cx.phi, rfl⟩, fun w G cx => (SameMsg_same m mp np mc nc ha' hb' hml).use cx fun w cx => ⟨_, rfl, R1, Φ1, inferInstance, cx, Br.intro (fun h => by cases h) (fun _ => ⟨by unfold I64; omega, R1, Φ1, o.send.length - (i + 1), inferInstance, fun w G cx => cx, ⟨i + 1, by omega, hlt, rfl, rfl, rfl⟩, by omega⟩)⟩⟩⟩⟩
  · have hno : ∀ {w : World} {G : List Own} {P : Prop}, Ctx W w (R1 ++ G) Φ1 → P := fun cx => absurd ⟨_, _, cx.phi⟩ hex
    exact ⟨R1, Φ1, inferInstance, fun w G cx => cx, by omega, ptrK_intro b1 o1 (hp (by omega)) ⟨by omega, ptrK_intro b2 o2 (hq (by omega)) ⟨0, 0, 0, 0, 0, 0, 0, false, none, 0, 0, fun w G cx => hno cx, 0, 0, 0, 0, 0, 0, 0, false, none, 0, 0, fun w G cx => hno cx, fun w G cx => hno cx⟩⟩⟩

theorem SameOut_same {Φ : PW} [Stable Φ] (o : OutR) (p1 : Option Addr) (c1 : Nat) (p2 : Option Addr) (c2 : Nat) (q1 : Option Addr) (d1 : Nat) (q2 : Option Addr) (d2 : Nat)
    (h1 : ∀ M w, Φ M w → Sl M w p1 o.recs) (h2 : ∀ M w, Φ M w → Sl M w q1 o.recs) (h3 : ∀ M w, Φ M w → Sl M w p2 o.send) (h4 : ∀ M w, Φ M w → Sl M w q2 o.send)
    (hr : o.recs.length ≤ 9223372036854775807) (hs : o.send.length ≤ 9223372036854775807) :
    GivesIn Φ Try.prog F.errataref08_SameOut #[outV o p1 c1 p2 c2, outV o q1 d1 q2 d2] (.bool true) :=
  .pinned h3 fun b1 o1 cs1 hp => .pinned (fun M w h => h4 M w h.1) fun b2 o2 cs2 hq =>
    SameOut_pin (Φ := fun M w => (Φ M w ∧ Pin b1 o1 cs1 o.send M w) ∧ Pin b2 o2 cs2 o.send M w) o p1 c1 p2 c2 q1 d1 q2 d2 b1 o1 cs1 b2 o2 cs2 hp hq (fun M w h => h1 M w h.1.1) (fun M w h => h2 M w h.1.1) (fun M w h => h.1.2) (fun M w h => h.2) hr hs

/-! ### short -/
theorem short_in {Φ : PW} [Stable Φ] (p : Option Addr) (cap : Nat) (l : List RecD) (hΦ : ∀ M w, Φ M w → Sl M w p l) (hlen : l.length ≤ 9223372036854775807) : ∃ bf : Bool, GivesIn Φ Try.prog F.erratalaw08_short #[.slice p l.length cap] (.bool bf) := by
  refine ⟨(l.all fun x => decide (x.data.size ≤ 2100)), ?_⟩
  refine .there (fun M w h => (hΦ M w h).there) fun hth => ?_
  refine gives_in (Berratalaw08_short_run p l.length cap) fun W R => ?_
  refine exI_mk (fun iI R' Φ' k => ∃ i : Nat, iI = i ∧ i ≤ l.length ∧ R' = R ∧ Φ' = Φ ∧ k = l.length - i ∧ (l.all fun x => decide (x.data.size ≤ 2100)) = ((l.drop i).all fun x => decide (x.data.size ≤ 2100))) ⟨⟨R, Φ, _, inferInstance, fun w F c => c, 0, rfl, Nat.zero_le _, rfl, rfl, rfl, rfl⟩, ?_⟩
  rintro iI R1 Φ1 k _ ⟨i, rfl, hi, rfl, rfl, rfl, hs⟩
  refine Br.intro (fun hlt => ?_) (fun hge => fun w F cx => ⟨?_, cx.left⟩)
  · have hlt : i < l.length := by simpa using hlt
    obtain ⟨b, o, rfl⟩ := hth (by omega)
    rw [List.drop_eq_getElem_cons hlt, List.all_cons] at hs
    refine ⟨by omega, ptrK_intro b o rfl fun w F cx => ⟨l[i].data, by rw [Int.toNat_natCast]; exact sl_rec (hΦ _ _ cx.phi) hlt 1 (by simp), Br.intro (fun h => fun w F cx => ⟨?_, cx.left⟩) (fun h => ⟨by unfold I64; omega, R1, Φ1, l.length - (i + 1), inferInstance, fun w F c => c, ⟨i + 1, rfl, hlt, rfl, rfl, rfl, ?_⟩, by omega⟩)⟩⟩
    · rw [hs, decide_eq_false (by have := of_decide_eq_true h; omega), Bool.false_and]
    · rw [hs, decide_eq_true (by have := of_decide_eq_false h; omega), Bool.true_and]
  · have hge : i = l.length := Nat.le_antisymm hi (by simpa using hge)
    rw [hs, hge, List.drop_length]
    rfl

end Go.Proofs.Ytifgijoeckoojaa
end

/-
  ReplicaTells, walked.
-/
section
set_option linter.unusedVariables false
set_option linter.unusedSimpArgs false
namespace Go.Proofs.Ytifgijoeckoojaa
open Go.Vc


theorem swapR {W w : World} {A B S G : List Own} {Φ : PW} [Stable Φ] (c : Ctx W w (B ++ (A ++ S ++ G)) Φ) : Ctx W w (A ++ (B ++ S) ++ G) Φ := by
  refine c.perm ?_
  have e1 : (A ++ (B ++ S) ++ G).Perm ((A ++ B) ++ (S ++ G)) := List.Perm.of_eq (by simp)
  exact (e1.trans ((List.Perm.append_right _ List.perm_append_comm).trans (List.Perm.of_eq (by simp)))).symm

theorem newB_wf {id term vote : Int} {l : List RecD} (h : newB id term vote l = true) : (newRep id.toNat term vote l).Wf := by
  unfold newB at h
  simp only [Bool.and_eq_true, decide_eq_true_eq] at h
  obtain ⟨h1, h2⟩ := soundR_iff _ _ _ h.2
  exact new_wf (by omega) (by omega) (by omega) (by omega) (by omega) ⟨fun x hx => (h1 x hx).1, fun x hx => (h1 x hx).2.1, fun x hx => (h1 x hx).2.2, h2⟩ (by omega)

theorem Role_use {W w : World} {S : List Own} {Φ : PW} [Stable Φ] {b : Nat} {r : Rep} {p : Option Addr} {c : Nat} (cx : Ctx W w (repO b r p c ++ S) Φ) {K : Ending → World → Prop} (hK : ∀ w', Ctx W w' (repO b r p c ++ S) Φ → K (.returned (.int .i64 r.role)) w') :
    Calls Try.prog F.replica_Replica_Role #[.pointer (some ⟨b, 0, none⟩)] w K :=
  (Role_q (here_of cx)).mono fun e w' ⟨h1, h2⟩ => by subst h2; rw [h1]; exact hK _ cx

/-- the log, and what the reference has of it -/
theorem same_logs {W w : World} {R G : List Own} {Ψ : PW} [Stable Ψ] {b : Nat} {r1 : Rep} {p' : Option Addr} {c' : Nat} {L' : Loc} {p2' : Option Addr} {c2' : Nat} {q5 : Option Addr} {c7 : Nat} (cx : Ctx W w (repO b r1 p' c' ++ (refO L' r1 p2' c2' ++ R) ++ G) (fun M w => Ψ M w ∧ Sl M w q5 r1.log)) (hok : ∀ x ∈ r1.log, x.Ok) (hlen : r1.log.length ≤ 4000) {K : Ending → World → Prop}
    (hK : ∀ w', Ctx W w' (repO b r1 p' c' ++ (refO L' r1 p2' c2' ++ R) ++ G) (fun M w => Ψ M w ∧ Sl M w q5 r1.log) → K (.returned (.bool true)) w') : Calls Try.prog F.errataref08_SameRecs #[.slice q5 r1.log.length c7, .slice p2' r1.log.length c2'] w K := by
  have hst : Stable (fun M w => Ψ M w ∧ Sl M w q5 r1.log) := inferInstance
  have h := SameRecs_big (Φ := Aside W (refO L' r1 p2' c2') (fun M w => Ψ M w ∧ Sl M w q5 r1.log)) q5 p2' c7 c2' r1.log r1.log (fun M w h => h.less.2) (fun M w h => log_sl h (p := p2') (n := r1.log.length) (c := c2') (by simp) hok) (by omega)
  rw [decide_eq_true rfl] at h
  exact h.use (swapL cx).aside fun w cx => hK w (swapR cx.unaside)

/-- what is said of the two replicas in the loop -/
def TInv (R : List Own) (Φ : PW) (b b2 : Nat) (R' : List Own) (Φ' : PW) : Prop := ∃ (r : Rep) (p : Option Addr) (c : Nat) (L : Loc) (p2 : Option Addr) (c2 : Nat), L.b = b2 ∧ r.Wf ∧ R' = repO b r p c ++ (refO L r p2 c2 ++ R) ∧ Φ' = Φ

set_option maxHeartbeats 8000000 in
set_option maxRecDepth 20000 in
theorem Tells_pin {Φ : PW} [Stable Φ] (id term vote : Int) (lp : Option Addr) (lcap : Nat) (log : List RecD) (op : Option Addr) (ocap : Nat) (ops : List OpR) (mp : Option Addr) (mcap : Nat) (ms : List MsgR) (mb mo : Nat) (mcs : List (List Value)) (hmp : 0 < ms.length → mp = some ⟨mb, mo, none⟩)
    (hlog : ∀ M w, Φ M w → Sl M w lp log) (hops : ∀ M w, Φ M w → Sl M w op ops) (hms : ∀ M w, Φ M w → Pin mb mo mcs ms M w) (hll : log.length ≤ 9223372036854775807) (hol : ops.length ≤ 9223372036854775807) (hml : ms.length ≤ 9223372036854775807) :
    GivesIn Φ Try.prog F.erratalaw08_ReplicaTells #[.int .i64 id, .agg #[.int .i64 term, .int .i64 vote], .slice lp log.length lcap, .slice op ops.length ocap, .slice mp ms.length mcap] (.bool true) := by
  refine .there (fun M w h => (hops M w h).there) fun hth => ?_
  refine gives_in (Berratalaw08_ReplicaTells_run id term vote lp log.length lcap op ops.length ocap mp ms.length mcap) fun W R => ?_
  have hend : ∀ {w : World} {G : List Own}, Ctx W w (R ++ G) Φ → Value.bool true = .bool true ∧ Ctx W w R Φ := fun cx => ⟨rfl, cx.left⟩
  obtain ⟨bf, hbf, _⟩ := few_in (Φ := Φ) op ocap ops 60 hops hol
  obtain ⟨sf, hsf⟩ := short_in (Φ := Φ) lp lcap log hlog hll
  refine fun _ w G cx => small_g.use cx fun w cx => ⟨true, rfl, R, Φ, inferInstance, cx, Br.intro (fun _ w G cx => hend cx) (fun h20 => fun w G cx => hbf.use cx fun w cx => ⟨bf, rfl, R, Φ, inferInstance, cx, Br.intro (fun _ w G cx => hend cx) (fun _ => Br.intro (fun _ w G cx => hend cx) (fun _ => fun w G cx => hsf.use cx fun w cx => ⟨sf, rfl, R, Φ, inferInstance, cx, Br.intro (fun _ w G cx => hend cx) (fun _ => fun w G cx => ?_)⟩))⟩)⟩
  clear hbf hsf
  cases hnb : newB id term vote log with
  | false =>
    refine New_use cx id term vote log lp lcap hlog hll (fun _ w cx => ⟨none, rfl, R, Φ, inferInstance, cx, fun w G cx => qNew_use cx id term vote log lp lcap hlog hll (fun _ w cx => ⟨none, rfl, R, Φ, inferInstance, cx, Br.intro (fun h => by cases h) (fun _ => ?_)⟩) (fun h => by rw [hnb] at h; cases h)⟩) (fun h => by rw [hnb] at h; cases h)
    refine exI_mk (fun n R' Φ' k => R' = R ∧ Φ' = Φ) ⟨⟨R, Φ, 0, inferInstance, fun w G cx => cx, rfl, rfl⟩, ?_⟩
    rintro n R1 Φ1 k _ ⟨rfl, rfl⟩
    exact fun w G cx => Br.intro (fun h => by simp at h) (fun _ => fun w G cx => hend cx)
  | true =>
    refine New_use cx id term vote log lp lcap hlog hll (fun h => by rw [hnb] at h; cases h) (fun _ b p c w cx => ⟨some ⟨b, 0, none⟩, rfl, repO b (newRep id.toNat term vote log) p c ++ R, Φ, inferInstance, gr cx, fun w G cx => qNew_use cx id term vote log lp lcap hlog hll (fun h => by rw [hnb] at h; cases h) (fun _ L0 p2 c2 w cx => ⟨some ⟨L0.b, 0, none⟩, rfl, repO b (newRep id.toNat term vote log) p c ++ (refO L0 (newRep id.toNat term vote log) p2 c2 ++ R), Φ, inferInstance, swapR (B := refO L0 (newRep id.toNat term vote log) p2 c2) (cx.re (by simp)), Br.intro (fun h => by cases h) (fun _ => ?_)⟩)⟩)
    have hw0 := newB_wf hnb
    refine exI_mk (fun n R' Φ' k => ∃ i : Nat, n = i ∧ i ≤ ops.length ∧ TInv R Φ b L0.b R' Φ' ∧ k = ops.length - i) ⟨⟨_, Φ, _, inferInstance, fun w G cx => cx, 0, rfl, Nat.zero_le _, ⟨_, p, c, L0, p2, c2, rfl, hw0, rfl, rfl⟩, rfl⟩, ?_⟩
    rintro n R1 Φ1 k _ ⟨i, rfl, hi, ⟨r, p, c, L, p2, c2, hL, hw, rfl, rfl⟩, rfl⟩
    rw [← hL]
    have hsame : ∀ (o1 : OutR) (q1 : Option Addr) (c1 : Nat) (q2 : Option Addr) (c3 : Nat) (q3 : Option Addr) (c5 : Nat) (q4 : Option Addr) (c6 : Nat), Small o1 → GivesIn (OPhi (OPhi Φ1 q1 o1.recs q2 o1.send) q3 o1.recs q4 o1.send) Try.prog F.errataref08_SameOut #[outV o1 q1 c1 q2 c3, outV o1 q3 c5 q4 c6] (.bool true) := fun o1 q1 c1 q2 c3 q3 c5 q4 c6 hs =>
      SameOut_same o1 q1 c1 q2 c3 q3 c5 q4 c6 (fun M w h => h.1.2.1) (fun M w h => h.2.1) (fun M w h => h.1.2.2) (fun M w h => h.2.2) (by have := hs.recs; omega) (by have := hs.send; omega)
    have hstop : ∀ {w : World} {G : List Own}, Ctx W w (repO b r p c ++ (refO L r p2 c2 ++ R) ++ G) Φ1 → Value.bool true = .bool true ∧ Ctx W w R Φ1 := fun cx => ⟨rfl, cx.left.right.right⟩
    refine fun w G cx => Br.intro (fun hlt => fun _ _ => ?_) (fun _ => fun w G cx => hstop cx)
    have hlt : i < ops.length := by
      simp only [Bool.and_eq_true, decide_eq_true_eq] at hlt
      omega
    obtain ⟨ob, oo, rfl⟩ := hth (by omega)
    have hrow : ∀ {M : List Nat} {w : World}, Φ1 M w → RowAt w ob (oo + i * 4) [.int .i64 ops[i].op, .int .i64 ops[i].who, .int .i64 ops[i].n, .string ops[i].data] := fun {M w} h => sl_op (hops M w h) hlt
    clear cx
    refine ⟨by omega, ptrK_intro ob oo rfl fun w G cx => ⟨ops[i].op, by rw [Int.toNat_natCast]; have := hrow cx.phi 0 (by simp); simpa using this, _, fun w => and_run _ _ w, fun w G cx => Br.intro (fun hm => ?_) (fun hm => Br.intro (fun ht => fun w G cx => ?_) (fun ht => ?_))⟩⟩
    · have hmi : i < ms.length := by
        simp only [Bool.and_eq_true, decide_eq_true_eq] at hm
        omega
      have hmp := hmp (by omega)
      obtain ⟨q, qc, e1, g1, g2, g3⟩ := pin_msg (hms _ _ cx.phi) hmi
      have hrw : ∀ {M : List Nat} {w : World}, Φ1 M w → RowAt w mb (mo + i * 9) (ms[i].cells q qc) := fun {M w} h => pin_msgAt (hms M w h) hmi e1
      have hsl : ∀ M w, Φ1 M w → Sl M w q ms[i].recs := fun M w h => pin_msgSl (hms M w h) hmi e1
      generalize ms[i] = m at hrw hsl g1 g3
      obtain ⟨sf, hsf⟩ := short_in (Φ := Φ1) q qc m.recs hsl (Nat.le_trans g1 (Nat.le_trans g2 (by decide)))
      have h8 : ∀ {M : List Nat} {w : World}, Φ1 M w → w.cell? ⟨mb, mo + i * 9 + 8, none⟩ = some (.slice q m.recs.length qc) := fun {M w} h => by have := hrw h 8 (by simp); simpa using this
      clear cx
      refine ⟨by omega, ptrK_intro mb mo hmp fun w G cx => ⟨q, _, qc, by rw [Int.toNat_natCast]; exact h8 cx.phi, fun w G cx => hsf.use cx fun w cx => ⟨sf, rfl, _, Φ1, inferInstance, cx, Br.intro (fun _ w G cx => hstop cx) (fun _ => ⟨by omega, ptrK_intro mb mo hmp fun w G cx => ⟨q, _, qc, by rw [Int.toNat_natCast]; exact h8 cx.phi, Br.intro (fun _ w G cx => hstop cx) (fun _ => ⟨by omega, ptrK_intro mb mo hmp fun w G cx => ⟨_, _, _, _, _, _, _, _, q, _, qc, by rw [Int.toNat_natCast]; exact hrw cx.phi, fun w G cx => ?_⟩⟩)⟩⟩)⟩⟩⟩
      have hw1 := (hear_wf hw (m := m)).1
      have hsm := hear_small r m
      refine Hear_use (gl cx) hw.ok m g3 q qc hsl g1 g2 fun p' c' q1 c1 q2 c3 w h1 h2 h3 h4 cx => ⟨_, _, _, _, q1, _, c1, q2, _, c3, rfl, repO b (hearP r m).1 p' c' ++ (refO L r p2 c2 ++ R), OPhi Φ1 q1 (hearP r m).2.recs q2 (hearP r m).2.send, inferInstance, gr cx, by omega, ptrK_intro mb mo hmp fun w G cx => ⟨_, _, _, _, _, _, _, _, q, _, qc, by rw [Int.toNat_natCast]; exact hrw cx.phi.1, fun w G cx => ?_⟩⟩
      refine qHear_use (swapL cx) hw.ok m g3 q qc (fun M w h => hsl M w h.1) g1 g2 fun L' p2' c2' q3 c5 q4 c6 w hL' h5 h6 h7 h8 cx => ⟨_, _, _, _, q3, _, c5, q4, _, c6, rfl, repO b (hearP r m).1 p' c' ++ (refO L' (hearP r m).1 p2' c2' ++ R), _, inferInstance, swapR cx, fun w G cx => ?_⟩
      generalize (hearP r m).1 = r1 at *
      generalize (hearP r m).2 = o1 at *
      refine (hsame o1 q1 c1 q2 c3 q3 c5 q4 c6 hsm).use cx fun w cx => ⟨true, rfl, repO b r1 p' c' ++ (refO L' r1 p2' c2' ++ R), OPhi (OPhi Φ1 q1 o1.recs q2 o1.send) q3 o1.recs q4 o1.send, inferInstance, cx, refO L' r1 p2' c2', fun _ _ => True, inferInstance, fun w G cx => wkA cx, Br.intro (fun h => by cases h) (fun _ => ptrK_intro L'.b 0 (by rw [hL']) ⟨r1.term, r1.vote, fun w G cx => ⟨_, _, cx.row 0 rfl (rows_of (vs := [.int .i64 r1.term, .int .i64 r1.vote]) rfl), rfl⟩, fun w G cx => Hard_use (gl cx) fun w cx => ⟨_, _, rfl, repO b r1 p' c' ++ (refO L' r1 p2' c2' ++ R), OPhi (OPhi Φ1 q1 o1.recs q2 o1.send) q3 o1.recs q4 o1.send, inferInstance, gr cx, fun w G cx => wkA cx, refO L' r1 p2' c2', fun _ _ => True, inferInstance, fun w G cx => wkA cx, okAgg40, Br.intro (fun h => by simp at h) (fun _ => ptrK_intro L'.b 0 (by rw [hL']) ⟨r1.role, fun w G cx => ⟨_, cx.get 0 rfl rfl, rfl⟩, fun w G cx => Role_use (gl cx) fun w cx => ⟨_, rfl, repO b r1 p' c' ++ (refO L' r1 p2' c2' ++ R), OPhi (OPhi Φ1 q1 o1.recs q2 o1.send) q3 o1.recs q4 o1.send, inferInstance, gr cx, fun w G cx => wkA cx, refO L' r1 p2' c2', fun _ _ => True, inferInstance, fun w G cx => wkA cx, Br.intro (fun h => by simp at h) (fun _ => ptrK_intro L'.b 0 (by rw [hL']) ⟨(r1.commit : Nat), fun w G cx => ⟨_, cx.get 0 rfl rfl, rfl⟩, fun w G cx => Commit_use (gl cx) fun w cx => ⟨_, rfl, repO b r1 p' c' ++ (refO L' r1 p2' c2' ++ R), OPhi (OPhi Φ1 q1 o1.recs q2 o1.send) q3 o1.recs q4 o1.send, inferInstance, gr cx, fun w G cx => wkA cx, refO L' r1 p2' c2', fun _ _ => True, inferInstance, fun w G cx => wkA cx, Br.intro (fun h => by simp at h) (fun _ => ptrK_intro L'.b 0 (by rw [hL']) ⟨p2', r1.log.length, c2', fun w G cx => ⟨p2', _, c2', cx.get 0 rfl rfl, rfl⟩, fun w G cx => Log_use (gl cx) hw1.ok.recs hw1.ok.len fun q5 c7 w h9 h10 cx => ⟨q5, _, c7, rfl, repO b r1 p' c' ++ (refO L' r1 p2' c2' ++ R), fun M w => (OPhi (OPhi Φ1 q1 o1.recs q2 o1.send) q3 o1.recs q4 o1.send) M w ∧ Sl M w q5 r1.log, inferInstance, gr cx, fun w G cx => wkA cx, fun w G cx => same_logs cx hw1.ok.recs hw1.ok.len fun w cx => ⟨true, rfl, repO b r1 p' c' ++ (refO L' r1 p2' c2' ++ R), fun M w => (OPhi (OPhi Φ1 q1 o1.recs q2 o1.send) q3 o1.recs q4 o1.send) M w ∧ Sl M w q5 r1.log, inferInstance, cx, Br.intro (fun h => by cases h) (fun _ => ⟨by unfold I64; omega, repO b r1 p' c' ++ (refO L' r1 p2' c2' ++ R), Φ1, ops.length - (i + 1), inferInstance, fun w G cx => cx.weak fun M w h => h.1.1.1, ⟨i + 1, by omega, hlt, ⟨r1, p', c', L', p2', c2', hL', hw1, rfl, rfl⟩, rfl⟩, by omega⟩)⟩⟩⟩)⟩⟩)⟩⟩)⟩⟩)⟩
    · have hw1 := (tick_wf hw).1
      have hsm := tick_small r
      refine Tick_use (gl cx) hw.ok fun p' c' q1 c1 q2 c3 w h1 h2 h3 h4 cx => ⟨_, _, _, _, q1, _, c1, q2, _, c3, rfl, repO b (tickP r).1 p' c' ++ (refO L r p2 c2 ++ R), OPhi Φ1 q1 (tickP r).2.recs q2 (tickP r).2.send, inferInstance, gr cx, fun w G cx => ?_⟩
      refine qTick_use (swapL cx) hw.ok fun L' p2' c2' q3 c5 q4 c6 w hL' h5 h6 h7 h8 cx => ⟨_, _, _, _, q3, _, c5, q4, _, c6, rfl, repO b (tickP r).1 p' c' ++ (refO L' (tickP r).1 p2' c2' ++ R), _, inferInstance, swapR cx, fun w G cx => ?_⟩
      generalize (tickP r).1 = r1 at *
      generalize (tickP r).2 = o1 at *
      refine (hsame o1 q1 c1 q2 c3 q3 c5 q4 c6 hsm).use cx fun w cx => ⟨true, rfl, repO b r1 p' c' ++ (refO L' r1 p2' c2' ++ R), OPhi (OPhi Φ1 q1 o1.recs q2 o1.send) q3 o1.recs q4 o1.send, inferInstance, cx, refO L' r1 p2' c2', fun _ _ => True, inferInstance, fun w G cx => wkA cx, Br.intro (fun h => by cases h) (fun _ => ptrK_intro L'.b 0 (by rw [hL']) ⟨r1.term, r1.vote, fun w G cx => ⟨_, _, cx.row 0 rfl (rows_of (vs := [.int .i64 r1.term, .int .i64 r1.vote]) rfl), rfl⟩, fun w G cx => Hard_use (gl cx) fun w cx => ⟨_, _, rfl, repO b r1 p' c' ++ (refO L' r1 p2' c2' ++ R), OPhi (OPhi Φ1 q1 o1.recs q2 o1.send) q3 o1.recs q4 o1.send, inferInstance, gr cx, fun w G cx => wkA cx, refO L' r1 p2' c2', fun _ _ => True, inferInstance, fun w G cx => wkA cx, okAgg40, Br.intro (fun h => by simp at h) (fun _ => ptrK_intro L'.b 0 (by rw [hL']) ⟨r1.role, fun w G cx => ⟨_, cx.get 0 rfl rfl, rfl⟩, fun w G cx => Role_use (gl cx) fun w cx => ⟨_, rfl, repO b r1 p' c' ++ (refO L' r1 p2' c2' ++ R), OPhi (OPhi Φ1 q1 o1.recs q2 o1.send) q3 o1.recs q4 o1.send, inferInstance, gr cx, fun w G cx => wkA cx, refO L' r1 p2' c2', fun _ _ => True, inferInstance, fun w G cx => wkA cx, Br.intro (fun h => by simp at h) (fun _ => ptrK_intro L'.b 0 (by rw [hL']) ⟨(r1.commit : Nat), fun w G cx => ⟨_, cx.get 0 rfl rfl, rfl⟩, fun w G cx => Commit_use (gl cx) fun w cx => ⟨_, rfl, repO b r1 p' c' ++ (refO L' r1 p2' c2' ++ R), OPhi (OPhi Φ1 q1 o1.recs q2 o1.send) q3 o1.recs q4 o1.send, inferInstance, gr cx, fun w G cx => wkA cx, refO L' r1 p2' c2', fun _ _ => True, inferInstance, fun w G cx => wkA cx, Br.intro (fun h => by simp at h) (fun _ => ptrK_intro L'.b 0 (by rw [hL']) ⟨p2', r1.log.length, c2', fun w G cx => ⟨p2', _, c2', cx.get 0 rfl rfl, rfl⟩, fun w G cx => Log_use (gl cx) hw1.ok.recs hw1.ok.len fun q5 c7 w h9 h10 cx => ⟨q5, _, c7, rfl, repO b r1 p' c' ++ (refO L' r1 p2' c2' ++ R), fun M w => (OPhi (OPhi Φ1 q1 o1.recs q2 o1.send) q3 o1.recs q4 o1.send) M w ∧ Sl M w q5 r1.log, inferInstance, gr cx, fun w G cx => wkA cx, fun w G cx => same_logs cx hw1.ok.recs hw1.ok.len fun w cx => ⟨true, rfl, repO b r1 p' c' ++ (refO L' r1 p2' c2' ++ R), fun M w => (OPhi (OPhi Φ1 q1 o1.recs q2 o1.send) q3 o1.recs q4 o1.send) M w ∧ Sl M w q5 r1.log, inferInstance, cx, Br.intro (fun h => by cases h) (fun _ => ⟨by unfold I64; omega, repO b r1 p' c' ++ (refO L' r1 p2' c2' ++ R), Φ1, ops.length - (i + 1), inferInstance, fun w G cx => cx.weak fun M w h => h.1.1.1, ⟨i + 1, by omega, hlt, ⟨r1, p', c', L', p2', c2', hL', hw1, rfl, rfl⟩, rfl⟩, by omega⟩)⟩⟩⟩)⟩⟩)⟩⟩)⟩⟩)⟩
    · obtain ⟨d, hd⟩ : ∃ d, ops[i].data = d := ⟨_, rfl⟩
      rw [hd] at hrow
      have hw1 := (propose_wf hw d).1
      have hsm := propose_small hw.ok.len d
      have h3c : ∀ {M : List Nat} {w : World}, Φ1 M w → w.cell? ⟨ob, oo + i * 4 + 3, none⟩ = some (.string d) := fun {M w} h => by have := hrow h 3 (by simp); simpa using this
      have hone : r.role = 2 → 1 ≤ r.term := fun h => hw.one (by rw [h]; decide)
      refine ⟨by omega, ptrK_intro ob oo rfl fun w G cx => ⟨d, by rw [Int.toNat_natCast]; exact h3c cx.phi, fun w G cx => ?_⟩⟩
      refine Propose_use (gl cx) hw.ok hone d fun p' c' q1 c1 q2 c3 w h1 h2 h3 h4 cx => ⟨_, _, _, _, _, _, q1, _, c1, q2, _, c3, rfl, repO b (proposeP r d).1 p' c' ++ (refO L r p2 c2 ++ R), OPhi Φ1 q1 (proposeP r d).2.2.2.recs q2 (proposeP r d).2.2.2.send, inferInstance, gr cx, fun _ => ⟨by omega, ptrK_intro ob oo rfl fun w G cx => ⟨d, by rw [Int.toNat_natCast]; exact h3c cx.phi.1, fun w G cx => ?_⟩⟩⟩
      refine qPropose_use (swapL cx) hw.ok hone d fun L' p2' c2' q3 c5 q4 c6 w hL' h5 h6 h7 h8 cx => ⟨_, _, _, _, _, _, q3, _, c5, q4, _, c6, rfl, repO b (proposeP r d).1 p' c' ++ (refO L' (proposeP r d).1 p2' c2' ++ R), _, inferInstance, swapR cx, fun _ w G cx => Br.intro (fun h => by simp at h) (fun _ => fun w G cx => ?_)⟩
      generalize (proposeP r d).1 = r1 at *
      generalize (proposeP r d).2.2.2 = o1 at *
      refine (hsame o1 q1 c1 q2 c3 q3 c5 q4 c6 hsm).use cx fun w cx => ⟨true, rfl, repO b r1 p' c' ++ (refO L' r1 p2' c2' ++ R), OPhi (OPhi Φ1 q1 o1.recs q2 o1.send) q3 o1.recs q4 o1.send, inferInstance, cx, refO L' r1 p2' c2', fun _ _ => True, inferInstance, fun w G cx => wkA cx, Br.intro (fun h => by cases h) (fun _ => ptrK_intro L'.b 0 (by rw [hL']) ⟨r1.term, r1.vote, fun w G cx => ⟨_, _, cx.row 0 rfl (rows_of (vs := [.int .i64 r1.term, .int .i64 r1.vote]) rfl), rfl⟩, fun w G cx => Hard_use (gl cx) fun w cx => ⟨_, _, rfl, repO b r1 p' c' ++ (refO L' r1 p2' c2' ++ R), OPhi (OPhi Φ1 q1 o1.recs q2 o1.send) q3 o1.recs q4 o1.send, inferInstance, gr cx, fun w G cx => wkA cx, refO L' r1 p2' c2', fun _ _ => True, inferInstance, fun w G cx => wkA cx, okAgg40, Br.intro (fun h => by simp at h) (fun _ => ptrK_intro L'.b 0 (by rw [hL']) ⟨r1.role, fun w G cx => ⟨_, cx.get 0 rfl rfl, rfl⟩, fun w G cx => Role_use (gl cx) fun w cx => ⟨_, rfl, repO b r1 p' c' ++ (refO L' r1 p2' c2' ++ R), OPhi (OPhi Φ1 q1 o1.recs q2 o1.send) q3 o1.recs q4 o1.send, inferInstance, gr cx, fun w G cx => wkA cx, refO L' r1 p2' c2', fun _ _ => True, inferInstance, fun w G cx => wkA cx, Br.intro (fun h => by simp at h) (fun _ => ptrK_intro L'.b 0 (by rw [hL']) ⟨(r1.commit : Nat), fun w G cx => ⟨_, cx.get 0 rfl rfl, rfl⟩, fun w G cx => Commit_use (gl cx) fun w cx => ⟨_, rfl, repO b r1 p' c' ++ (refO L' r1 p2' c2' ++ R), OPhi (OPhi Φ1 q1 o1.recs q2 o1.send) q3 o1.recs q4 o1.send, inferInstance, gr cx, fun w G cx => wkA cx, refO L' r1 p2' c2', fun _ _ => True, inferInstance, fun w G cx => wkA cx, Br.intro (fun h => by simp at h) (fun _ => ptrK_intro L'.b 0 (by rw [hL']) ⟨p2', r1.log.length, c2', fun w G cx => ⟨p2', _, c2', cx.get 0 rfl rfl, rfl⟩, fun w G cx => Log_use (gl cx) hw1.ok.recs hw1.ok.len fun q5 c7 w h9 h10 cx => ⟨q5, _, c7, rfl, repO b r1 p' c' ++ (refO L' r1 p2' c2' ++ R), fun M w => (OPhi (OPhi Φ1 q1 o1.recs q2 o1.send) q3 o1.recs q4 o1.send) M w ∧ Sl M w q5 r1.log, inferInstance, gr cx, fun w G cx => wkA cx, fun w G cx => same_logs cx hw1.ok.recs hw1.ok.len fun w cx => ⟨true, rfl, repO b r1 p' c' ++ (refO L' r1 p2' c2' ++ R), fun M w => (OPhi (OPhi Φ1 q1 o1.recs q2 o1.send) q3 o1.recs q4 o1.send) M w ∧ Sl M w q5 r1.log, inferInstance, cx, Br.intro (fun h => by cases h) (fun _ => ⟨by unfold I64; omega, repO b r1 p' c' ++ (refO L' r1 p2' c2' ++ R), Φ1, ops.length - (i + 1), inferInstance, fun w G cx => cx.weak fun M w h => h.1.1.1, ⟨i + 1, by omega, hlt, ⟨r1, p', c', L', p2', c2', hL', hw1, rfl, rfl⟩, rfl⟩, by omega⟩)⟩⟩⟩)⟩⟩)⟩⟩)⟩⟩)⟩

end Go.Proofs.Ytifgijoeckoojaa
end

section
set_option linter.unusedVariables false
set_option linter.unusedSimpArgs false
namespace Go.Proofs.Ytifgijoeckoojaa
open Go.ChangeShapes Go.WideShapes Go.ChangeAt Go.RowKit Go.Vc

theorem rp_own : ownKnob Try.prog.godebug = none := by kernel_rfl
theorem rp_laid : laidOutB Try.prog = true := by kernel_rfl
theorem len_max {n c : Nat} (h1 : n ≤ c) (h2 : c ≤ maxLen) : n ≤ 9223372036854775807 := Nat.le_trans h1 (Nat.le_trans h2 (by decide))

theorem Tells_in {Φ : PW} [Stable Φ] (id term vote : Int) (lp : Option Addr) (lcap : Nat) (log : List RecD) (op : Option Addr) (ocap : Nat) (ops : List OpR) (mp : Option Addr) (mcap : Nat) (ms : List MsgR)
    (hlog : ∀ M w, Φ M w → Sl M w lp log) (hops : ∀ M w, Φ M w → Sl M w op ops) (hms : ∀ M w, Φ M w → Sl M w mp ms) (hll : log.length ≤ 9223372036854775807) (hol : ops.length ≤ 9223372036854775807) (hml : ms.length ≤ 9223372036854775807) :
    GivesIn Φ Try.prog F.erratalaw08_ReplicaTells #[.int .i64 id, .agg #[.int .i64 term, .int .i64 vote], .slice lp log.length lcap, .slice op ops.length ocap, .slice mp ms.length mcap] (.bool true) :=
  .pinned hms fun b o cs hp => Tells_pin (Φ := fun M w => Φ M w ∧ Pin b o cs ms M w) id term vote lp lcap log op ocap ops mp mcap ms b o cs hp (fun M w h => hlog M w h.1) (fun M w h => hops M w h.1) (fun M w h => h.2) hll hol hml

set_option maxRecDepth 100000 in
theorem tells_lifted (os : Os) (started : os.Started) (H : Type) (enc : TypeId × Value → H) :
    ReturnsInHanded {} Try.checked os 5 .any (Rows.replicaTellsSpec.pre6 enc Try.prog Try.f5 Rows.replicaTellsRow.domain false) (Rows.replicaTellsSpec.post enc Try.prog Try.f5 false true false false) := by
  refine lawTrue (C := Try.checked) (tb := 4) rp_own started (by kernel_rfl) Try.func5 rp_laid rfl ?_ rfl Try.underlying4 (by kernel_rfl)
    (ChangeSpec.witness6 (enc := enc) (C := Try.checked) false ⟨#[], #[.int .i64 0, .agg #[.int .i64 0, .int .i64 0], .slice none 0 0, .slice none 0 0, .slice none 0 0], []⟩ 8 (by kernel_rfl) (by kernel_rfl) (by kernel_rfl) (by kernel_rfl)) ?_
  · intro ds hd
    match ds, hd with
    | [_, _, _, _, _], _ => exact ⟨rfl, rfl, rfl⟩
  · intro W base args ds p hval0 hA0 _
    have hval : ∀ (j : Nat) t v, Try.f5.params[j]? = some t → args[j]? = some v → Value.okWide Try.prog W .any base t v := hval0
    have hA : DataW.TrodAll enc Try.prog W 0 (fun _ => true) true Try.f5.params.toList args.toList ds p := hA0
    rw [Try.params5] at hA hval
    obtain ⟨v0, v1, v2, v3, v4, d0, d1, d2, d3, d4, p0, p1, p2, p3, p4, rfl, rfl, rfl, h0, h1, h2, h3, h4⟩ := trodAll_five hA
    obtain ⟨a, rfl, rfl, rfl, wa⟩ := open_int Try.underlying3 (hval 0 3 v0 rfl rfl) h0
    obtain ⟨hs, hd, rfl, hh⟩ := open_agg (α := Int × Int) 8 Try.underlying40 (hval 1 40 v1 rfl rfl) (by kernel_rfl) h1
    obtain ⟨_, _, rfl, ⟨rfl, _⟩, rfl, _⟩ := hh
    obtain ⟨lp, lcap, log, rfl, l1, l2, s1⟩ := open_sl (α := RecD) 12 Try.underlying35 (hval 2 35 v2 rfl rfl) (by kernel_rfl) h2
    obtain ⟨op, ocap, ops, rfl, l3, l4, s2⟩ := open_sl (α := OpR) 12 Try.underlying22 (hval 3 22 v3 rfl rfl) (by kernel_rfl) h3
    obtain ⟨mp, mcap, ms, rfl, l5, l6, s3⟩ := open_sl (α := MsgR) 12 Try.underlying27 (hval 4 27 v4 rfl rfl) (by kernel_rfl) h4
    have hst1 := instStableSl lp log
    have hst2 := instStableSl op ops
    have hst3 := instStableSl mp ms
    have hst4 : Stable (fun M w => Sl M w op ops ∧ Sl M w mp ms) := instStableAnd (fun M w => Sl M w op ops) (fun M w => Sl M w mp ms)
    have hst : Stable (fun M w => Sl M w lp log ∧ Sl M w op ops ∧ Sl M w mp ms) := instStableAnd (fun M w => Sl M w lp log) (fun M w => Sl M w op ops ∧ Sl M w mp ms)
    exact (Tells_in (Φ := fun M w => Sl M w lp log ∧ Sl M w op ops ∧ Sl M w mp ms) a hd.1 hd.2 lp lcap log op ocap ops mp mcap ms (fun _ _ h => h.1) (fun _ _ h => h.2.1) (fun _ _ h => h.2.2) (len_max l1 l2) (len_max l3 l4) (len_max l5 l6)).law ⟨s1, s2, s3⟩

theorem tells_holds : Rows.ReplicaTellsSaid :=
  OpenClaim.holds_of_wide 5 Try.f5 rfl rfl rfl rfl rfl rfl rfl ⟨rfl, rfl, rfl, rfl, rfl⟩ rfl rfl rfl rfl rfl (by kernel_rfl) Try.func5 (by kernel_rfl)
    (of_decide_eq_true (by kernel_rfl)) (by unfold Func.isWrapper; first | (rw [if_pos (by decide +kernel)]; kernel_rfl) | (rw [if_neg (by decide +kernel)]; exact ⟨rfl, rfl⟩))
    (fun os started H enc _ => tells_lifted os started H enc)

end Go.Proofs.Ytifgijoeckoojaa
end

