/-
  The walks of the small functions of the reference.
-/
import Derived.Test.YtflanndhfdfemaaWn
import Derived.Test.YtflanndhfdfemaaBd
set_option linter.unusedVariables false
set_option linter.unusedSimpArgs false
namespace Go.Proofs.Ytflanndhfdfemaa
open Go.Vc

theorem rwithin_q (n a b : Int) : Quiet Try.prog F.errataref20_within #[.int .i64 n, .int .i64 a, .int .i64 b] (.bool (win n a b)) :=
  quiet_of (Qerrataref20_within_run n a b) fun w => ⟨rfl, rfl⟩
theorem rwithin_g (n a b : Int) : Gives Try.prog F.errataref20_within #[.int .i64 n, .int .i64 a, .int .i64 b] (.bool (win n a b)) := (rwithin_q n a b).gives

theorem rinputs_q (op : Int) : Quiet Try.prog F.errataref20_inputs #[.int .i64 op] (.int .i64 (kIn op)) :=
  quiet_of (Qerrataref20_inputs_run op) fun w => by
    have e : kIn op = if op = 0 then 0 else if op = 3 ∨ op = 6 ∨ op = 7 then 2 else 1 := rfl
    refine Br.intro (fun h => ⟨?_, rfl⟩) (fun h0 => Br.intro (fun h3 => Br.intro (fun _ => ⟨?_, rfl⟩) (fun h => absurd h3 (by simp [h]))) (fun h3 => Br.intro (fun h6 => Br.intro (fun _ => ⟨?_, rfl⟩) (fun h => absurd h6 (by simp [h]))) (fun h6 => Br.intro (fun h7 => ⟨?_, rfl⟩) (fun h7 => ⟨?_, rfl⟩))))
    · rw [e, if_pos (by simpa using h)]
    · rw [e, if_neg (by simpa using h0), if_pos (.inl (by simpa using h3))]
    · rw [e, if_neg (by simpa using h0), if_pos (.inr (.inl (by simpa using h6)))]
    · rw [e, if_neg (by simpa using h0), if_pos (.inr (.inr (by simpa using h7)))]
    · have h0 : ¬ op = 0 := by simpa using h0
      have h3 : ¬ op = 3 := by simpa using h3
      have h6 : ¬ op = 6 := by simpa using h6
      have h7 : ¬ op = 7 := by simpa using h7
      rw [e, if_neg h0, if_neg (by omega)]

theorem rtimes_q (a b : Int) (ha : 0 ≤ a) (hb : 0 ≤ b) : Quiet Try.prog F.errataref20_times #[.int .i64 a, .int .i64 b] (.int .i64 (min (a * b) 1099511627776)) :=
  quiet_of (Qerrataref20_times_run a b) fun w => by
    refine Br.intro (fun h => ⟨?_, rfl⟩) (fun h => ?_)
    · have h : a = 0 ∨ b = 0 := by simpa using h
      rcases h with h | h <;> subst h <;> simp <;> decide
    · have h : ¬ (a = 0 ∨ b = 0) := by simpa using h
      refine ⟨by omega, tdiv_le b, Br.intro (fun hl => ⟨?_, rfl⟩) (fun hl => ?_)⟩
      · have hl : Int.tdiv 1099511627776 b < a := by simpa using hl
        rw [Int.tdiv_eq_ediv_of_nonneg (by omega)] at hl
        have h2 := Int.lt_mul_ediv_self_add (x := 1099511627776) (k := b) (by omega)
        have h3 := Int.mul_le_mul_of_nonneg_left (show 1099511627776 / b + 1 ≤ a by omega) hb
        rw [Int.mul_add, Int.mul_one, Int.mul_comm b a] at h3
        congr 1; omega
      · have hl : a ≤ Int.tdiv 1099511627776 b := by simpa using hl
        rw [Int.tdiv_eq_ediv_of_nonneg (by omega)] at hl
        have h2 := Int.mul_le_mul_of_nonneg_left hl hb
        have h3 := Int.mul_ediv_self_le (x := 1099511627776) (k := b) (by omega)
        have h4 := Int.mul_nonneg ha hb
        rw [Int.mul_comm b a] at h2
        exact ⟨by unfold I64; omega, rfl, rfl⟩

theorem rRightConfig_g (x : CfgC) : Gives Try.prog F.errataref20_RightConfig #[x.v] (.bool (cfgB x)) := by
  refine gives_of (Berrataref20_RightConfig_run x.parts x.delay x.late x.ahead x.rate x.span) fun W R Φ _ => ?_
  refine fun _ w F c => fun w F c => ⟨?_, c.left⟩
  congr 1
  rw [Bool.eq_iff_iff]
  simp only [cfgB, win, Bool.and_eq_true, decide_eq_true_eq]
  omega

theorem rBounded_g (x : NodeC) : Gives Try.prog F.errataref20_Bounded #[x.v] (.bool (boundedB x)) := by
  refine gives_of (Berrataref20_Bounded_run x.n0 x.n1P x.n1N x.n1C x.n2 x.n3 x.n4P x.n4N x.n4C x.n5 x.n6 x.n7 x.n8P x.n8N x.n8C x.n9P x.n9N x.n9C x.n10 x.n11 x.n12 x.n13P x.n13N x.n13C x.n14P x.n14N x.n14C x.n15P x.n15N x.n15C) fun W R Φ _ => ?_
  unfold boundedB
  refine fun _ => Br.intro (fun h4 => ?_) (fun h4 => Br.intro (fun h5 => ?_) (fun h5 => Br.intro (fun h6 => ?_) (fun h6 => Br.intro (fun h7 => ?_) (fun h7 => Br.intro (fun h8 => ?_) (fun h8 => ?_)))))
  · have h4 : x.n0 = 4 := by simpa using h4
    rw [if_pos h4]
    unfold windowB sizedB
    refine fun w F c => (rwithin_g _ _ _).use c fun w c => ⟨_, rfl, _, _, inferInstance, c, Br.intro (fun hs => fun w F c => ⟨?_, c.left⟩) (fun hs => ?_)⟩
    · have hs : win x.n6 1 10000 = false := by simpa using hs
      rw [hs]; simp
    have hs : win x.n6 1 10000 = true := by simpa using hs
    rw [hs]
    refine Br.intro (fun h => fun w F c => ⟨?_, c.left⟩) (fun h0 => Br.intro (fun h1 => Br.intro (fun h => fun w F c => ⟨?_, c.left⟩) (fun h => ⟨fun e => ?_, fun w F c => ⟨?_, c.left⟩⟩)) (fun h1 => Br.intro (fun h2 => fun w F c => (rwithin_g _ _ _).use c fun w c => ⟨_, rfl, _, _, inferInstance, c, fun w F c => ⟨?_, c.left⟩⟩) (fun h2 => fun w F c => ⟨?_, c.left⟩)))
    · rw [if_pos (by simpa using h)]
    · have h : x.n7 < 1 := by simpa using h
      rw [if_neg (by simpa using h0), if_pos (by simpa using h1), decide_eq_false (by omega : ¬ 0 < x.n7)]; rfl
    · have h : ¬ x.n7 < 1 := by simpa using h
      omega
    · have h : ¬ x.n7 < 1 := by simpa using h
      rw [if_neg (by simpa using h0), if_pos (by simpa using h1), decide_eq_true (by omega : 0 < x.n7)]; rfl
    · rw [if_neg (by simpa using h0), if_neg (by simpa using h1), if_pos (by simpa using h2)]; rfl
    · rw [if_neg (by simpa using h0), if_neg (by simpa using h1), if_neg (by simpa using h2)]
  · have h4 : ¬ x.n0 = 4 := by simpa using h4
    have h5 : x.n0 = 5 := by simpa using h5
    rw [if_neg h4, if_pos h5]
    exact fun w F c => ⟨_, fun w e => (rwithin_q _ _ _).at e, _, fun _ w e => (rwithin_q _ _ _).at e, fun w F c => ⟨rfl, c.left⟩⟩
  · have h4 : ¬ x.n0 = 4 := by simpa using h4
    have h5 : ¬ x.n0 = 5 := by simpa using h5
    have h6 : x.n0 = 6 := by simpa using h6
    rw [if_neg h4, if_neg h5, if_pos h6]
    exact fun w F c => ⟨_, fun w e => (rwithin_q _ _ _).at e, _, fun _ w e => (rwithin_q _ _ _).at e, fun w F c => ⟨rfl, c.left⟩⟩
  · have h4 : ¬ x.n0 = 4 := by simpa using h4
    have h5 : ¬ x.n0 = 5 := by simpa using h5
    have h6 : ¬ x.n0 = 6 := by simpa using h6
    have h7 : x.n0 = 7 := by simpa using h7
    rw [if_neg h4, if_neg h5, if_neg h6, if_pos h7]
    exact fun w F c => (rwithin_g _ _ _).use c fun w c => ⟨_, rfl, _, _, inferInstance, c, fun w F c => ⟨rfl, c.left⟩⟩
  · have h4 : ¬ x.n0 = 4 := by simpa using h4
    have h5 : ¬ x.n0 = 5 := by simpa using h5
    have h6 : ¬ x.n0 = 6 := by simpa using h6
    have h7 : ¬ x.n0 = 7 := by simpa using h7
    have h8 : x.n0 = 8 := by simpa using h8
    rw [if_neg h4, if_neg h5, if_neg h6, if_neg h7, if_pos h8]
    exact fun w F c => ⟨_, fun w e => (rwithin_q _ _ _).at e, _, fun _ w e => (rwithin_q _ _ _).at e, fun w F c => ⟨rfl, c.left⟩⟩
  · have h4 : ¬ x.n0 = 4 := by simpa using h4
    have h5 : ¬ x.n0 = 5 := by simpa using h5
    have h6 : ¬ x.n0 = 6 := by simpa using h6
    have h7 : ¬ x.n0 = 7 := by simpa using h7
    have h8 : ¬ x.n0 = 8 := by simpa using h8
    rw [if_neg h4, if_neg h5, if_neg h6, if_neg h7, if_neg h8]
    exact fun w F c => (rwithin_g _ _ _).use c fun w c => ⟨_, rfl, _, _, inferInstance, c, fun w F c => ⟨rfl, c.left⟩⟩

/-- what is bounded can be looked back -/
theorem bounded_i64 {x : NodeC} (h : boundedB x = true) : (x.n0 = 4 → I64 (x.n6 - 1) ∧ (x.n5 = 2 → I64 (x.n7 - 1))) ∧ (x.n0 = 5 ∨ x.n0 = 8 → I64 (x.n6 - 1)) ∧ (x.n0 = 7 → I64 (x.n12 - 1)) := by
  unfold boundedB at h
  refine ⟨fun e => ?_, fun e => ?_, fun e => ?_⟩
  · rw [if_pos e] at h
    have hs : 1 ≤ x.n6 ∧ x.n6 ≤ 10000 ∧ (x.n5 = 2 → 1 ≤ x.n7 ∧ x.n7 ≤ x.n6) := by
      unfold windowB at h
      split at h
      · have := sized_bd h; omega
      split at h
      · simp only [Bool.and_eq_true] at h; have := sized_bd h.1; omega
      split at h
      · simp only [Bool.and_eq_true] at h; have := sized_bd h.1; have h2 := h.2; simp [win] at h2; omega
      · cases h
    exact ⟨by unfold I64; omega, fun h5 => by have := hs.2.2 h5; unfold I64; omega⟩
  · rcases e with e | e
    · rw [if_neg (by omega), if_pos e] at h
      simp only [Bool.and_eq_true] at h
      have := sized_bd h.1
      unfold I64; omega
    · rw [if_neg (by omega), if_neg (by omega), if_neg (by omega), if_neg (by omega), if_pos e] at h
      simp only [Bool.and_eq_true] at h
      have := sized_bd h.1
      unfold I64; omega
  · rw [if_neg (by omega), if_neg (by omega), if_neg (by omega), if_pos e] at h
    have h : 1 ≤ x.n12 ∧ x.n12 ≤ 10000 := by simpa [win] using h
    unfold I64; omega

theorem rOwn_g (x : NodeC) : Gives Try.prog F.errataref20_Own #[x.v] (twoV (ownI x)) := by
  refine gives_of (Berrataref20_Own_run x.n0 x.n1P x.n1N x.n1C x.n2 x.n3 x.n4P x.n4N x.n4C x.n5 x.n6 x.n7 x.n8P x.n8N x.n8C x.n9P x.n9N x.n9C x.n10 x.n11 x.n12 x.n13P x.n13N x.n13C x.n14P x.n14N x.n14C x.n15P x.n15N x.n15C) fun W R Φ _ => ?_
  refine fun _ w F c => (rBounded_g x).use c fun w c => ⟨_, rfl, _, _, inferInstance, c, Br.intro (fun h => fun w F c => ⟨?_, c.left⟩) (fun hb => ?_)⟩
  · have h : boundedB x = false := by simpa using h
    unfold ownI; rw [h]; rfl
  have hb : boundedB x = true := by simpa using hb
  obtain ⟨g1, g2, g3⟩ := bounded_i64 hb
  unfold ownI
  rw [if_pos hb]
  refine Br.intro (fun h4 => ?_) (fun h4 => Br.intro (fun h5 => ?_) (fun h5 => Br.intro (fun h6 => ?_) (fun h6 => Br.intro (fun h7 => ?_) (fun h7 => Br.intro (fun h8 => ?_) (fun h8 => ?_)))))
  · have h4 : x.n0 = 4 := by simpa using h4
    rw [if_pos (.inl h4)]
    unfold blockI
    refine Br.intro (fun h => ?_) (fun h => ?_)
    · have h : x.n5 = 2 := by simpa using h
      rw [if_pos ⟨h4, h⟩]
      exact fun w F c => ⟨(g1 h4).1, (g1 h4).2 h, fun w F c => ⟨rfl, c.left⟩⟩
    · have h : ¬ x.n5 = 2 := by simpa using h
      rw [if_neg (fun e => h e.2)]
      exact fun w F c => ⟨(g1 h4).1, (g1 h4).1, fun w F c => ⟨rfl, c.left⟩⟩
  · have h4 : ¬ x.n0 = 4 := by simpa using h4
    have h5 : x.n0 = 5 := by simpa using h5
    rw [if_pos (.inr h5)]
    unfold blockI
    rw [if_neg (fun e => h4 e.1)]
    exact fun w F c => ⟨g2 (.inl h5), g2 (.inl h5), fun w F c => ⟨rfl, c.left⟩⟩
  · have h4 : ¬ x.n0 = 4 := by simpa using h4
    have h5 : ¬ x.n0 = 5 := by simpa using h5
    have h6 : x.n0 = 6 := by simpa using h6
    rw [if_neg (by omega), if_pos h6]
    exact fun w F c => ⟨rfl, c.left⟩
  · have h4 : ¬ x.n0 = 4 := by simpa using h4
    have h5 : ¬ x.n0 = 5 := by simpa using h5
    have h6 : ¬ x.n0 = 6 := by simpa using h6
    have h7 : x.n0 = 7 := by simpa using h7
    rw [if_neg (by omega), if_neg h6, if_pos h7]
    exact ⟨g3 h7, fun w F c => ⟨rfl, c.left⟩⟩
  · have h4 : ¬ x.n0 = 4 := by simpa using h4
    have h5 : ¬ x.n0 = 5 := by simpa using h5
    have h6 : ¬ x.n0 = 6 := by simpa using h6
    have h7 : ¬ x.n0 = 7 := by simpa using h7
    have h8 : x.n0 = 8 := by simpa using h8
    rw [if_neg (by omega), if_neg h6, if_neg h7, if_pos h8]
    exact ⟨g2 (.inr h8), fun w F c => ⟨rfl, c.left⟩⟩
  · have h4 : ¬ x.n0 = 4 := by simpa using h4
    have h5 : ¬ x.n0 = 5 := by simpa using h5
    have h6 : ¬ x.n0 = 6 := by simpa using h6
    have h7 : ¬ x.n0 = 7 := by simpa using h7
    have h8 : ¬ x.n0 = 8 := by simpa using h8
    rw [if_neg (by omega), if_neg h6, if_neg h7, if_neg h8]
    exact fun w F c => ⟨rfl, c.left⟩

end Go.Proofs.Ytflanndhfdfemaa
