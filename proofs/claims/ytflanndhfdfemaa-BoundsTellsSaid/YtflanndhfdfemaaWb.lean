/-
  The walks of bounds.of, Bounded, Own and RightConfig.
-/
import Derived.Test.YtflanndhfdfemaaWa
set_option linter.unusedVariables false
set_option linter.unusedSimpArgs false
namespace Go.Proofs.Ytflanndhfdfemaa
open Go.Vc

def kIn (op : Int) : Int := if op = 0 then 0 else if op = 3 ∨ op = 6 ∨ op = 7 then 2 else 1
def kB (op : Int) : FuncId := if op = 4 then F.bounds_window else if op = 5 then F.bounds_of_1 else if op = 6 then F.bounds_of_2 else if op = 7 then F.bounds_of_4 else if op = 8 then F.bounds_of_6 else F.bounds_always
def kO (op : Int) : FuncId := if op = 4 ∨ op = 5 then F.bounds_block else if op = 6 then F.bounds_of_3 else if op = 7 then F.bounds_of_5 else if op = 8 then F.bounds_of_7 else F.bounds_none
def kKeeps (op : Int) : Bool := decide (4 ≤ op)
def kCells (op : Int) : List Value := [.int .i64 (kIn op), .func (.func (kB op)) #[] #[], .func (.func (kO op)) #[] #[], .bool (kKeeps op)]
abbrev kV (op : Int) : Value := .agg #[.int .i64 (kIn op), .func (.func (kB op)) #[] #[], .func (.func (kO op)) #[] #[], .bool (kKeeps op)]
abbrev k0V : Value := .agg #[.int .i64 0, .nilFunc, .nilFunc, .bool false]

theorem op_cases {op : Int} (h : win op 0 8 = true) : op = 0 ∨ op = 1 ∨ op = 2 ∨ op = 3 ∨ op = 4 ∨ op = 5 ∨ op = 6 ∨ op = 7 ∨ op = 8 := by
  simp [win] at h; omega

def kAll : List Value := (([0, 1, 2, 3, 4, 5, 6, 7, 8] : List Int).map kCells).flatten

theorem of_g (op : Int) : Gives Try.prog F.bounds_of #[.int .i64 op] (.tuple #[if win op 0 8 then kV op else k0V, .bool (win op 0 8)]) := by
  refine gives_of (Bbounds_of_run op) fun W R Φ _ => ?_
  refine fun _ k0 w F c => ⟨by simp [OneAll, oneC], c.can 0 rfl (by simp), fun w' h => ⟨.blk k0 _ 75 :: R, Φ, inferInstance, c.puts 0 h rfl, ?_⟩⟩
  clear c h
  refine fun w F c => (within_g op 0 8).use c fun w c => ⟨_, rfl, _, _, inferInstance, c, Br.intro (fun h => ?_) (fun h => ?_)⟩
  · have h : win op 0 8 = false := by simpa using h
    refine ⟨by simp [OneAll, oneC], fun w F c => ⟨?_, c.left.drop1⟩⟩
    rw [h]; rfl
  · have h : win op 0 8 = true := by simpa using h
    refine ⟨by simp [win] at h; omega, fun w F c => ⟨kIn op, .func (.func (kB op)) #[] #[], .func (.func (kO op)) #[] #[], kKeeps op, ?_, ?_, fun w F c => ⟨?_, c.left.drop1⟩⟩⟩
    · refine c.row 0 rfl (rows_of ?_)
      rcases op_cases h with rfl | rfl | rfl | rfl | rfl | rfl | rfl | rfl | rfl <;> kernel_rfl
    · simp [OneAll, oneC]
    · rw [h]; rfl

def boundedB (x : NodeC) : Bool :=
  if x.n0 = 4 then windowB x else if x.n0 = 5 then sizedB x && win x.n12 1 100 else if x.n0 = 6 then win x.n10 0 10000 && win x.n11 0 10000
  else if x.n0 = 7 then win x.n12 1 10000 else if x.n0 = 8 then sizedB x && win x.n14N 1 8 else win x.n0 0 8

theorem kB_g (x : NodeC) (h : win x.n0 0 8 = true) : okFun Try.prog (kB x.n0) = true ∧ Gives Try.prog (kB x.n0) #[x.v] (.bool (boundedB x)) := by
  unfold kB boundedB
  by_cases h4 : x.n0 = 4
  · rw [if_pos h4, if_pos h4]; exact ⟨by kernel_rfl, window_g x⟩
  rw [if_neg h4, if_neg h4]
  by_cases h5 : x.n0 = 5
  · rw [if_pos h5, if_pos h5]; exact ⟨by kernel_rfl, of1_g x⟩
  rw [if_neg h5, if_neg h5]
  by_cases h6 : x.n0 = 6
  · rw [if_pos h6, if_pos h6]; exact ⟨by kernel_rfl, of2_g x⟩
  rw [if_neg h6, if_neg h6]
  by_cases h7 : x.n0 = 7
  · rw [if_pos h7, if_pos h7]; exact ⟨by kernel_rfl, of4_g x⟩
  rw [if_neg h7, if_neg h7]
  by_cases h8 : x.n0 = 8
  · rw [if_pos h8, if_pos h8]; exact ⟨by kernel_rfl, of6_g x⟩
  rw [if_neg h8, if_neg h8, h]
  exact ⟨by kernel_rfl, always_g x⟩

theorem Bounded_g (x : NodeC) : Gives Try.prog F.bounds_Bounded #[x.v] (.bool (boundedB x)) := by
  refine gives_of (Bbounds_Bounded_run x.n0 x.n1P x.n1N x.n1C x.n2 x.n3 x.n4P x.n4N x.n4C x.n5 x.n6 x.n7 x.n8P x.n8N x.n8C x.n9P x.n9N x.n9C x.n10 x.n11 x.n12 x.n13P x.n13N x.n13C x.n14P x.n14N x.n14C x.n15P x.n15N x.n15C) fun W R Φ _ => ?_
  refine fun _ w F c => (of_g x.n0).use c fun w c => ?_
  cases h : win x.n0 0 8 with
  | true =>
    obtain ⟨h1, h2⟩ := kB_g x h
    refine ⟨_, _, _, _, _, rfl, _, _, inferInstance, c, fun _ => ⟨by simp [OneAll, oneC], _, _, _, rfl, fun w F c => ⟨h1, h2.use c fun w c => ⟨_, rfl, _, _, inferInstance, c, fun w F c => ⟨rfl, c.left⟩⟩⟩⟩⟩
  | false =>
    refine ⟨_, _, _, _, _, rfl, _, _, inferInstance, c, fun _ => ⟨by simp [OneAll, oneC], fun w F c => ⟨?_, c.left⟩⟩⟩
    have h' : ¬ (0 ≤ x.n0 ∧ x.n0 ≤ 8) := by simpa [win] using h
    unfold boundedB
    rw [if_neg (by omega), if_neg (by omega), if_neg (by omega), if_neg (by omega), if_neg (by omega), h]

def ownI (x : NodeC) : Int × Int :=
  if boundedB x = true then (if x.n0 = 4 ∨ x.n0 = 5 then blockI x else if x.n0 = 6 then (max x.n10 x.n11, 0) else if x.n0 = 7 then (x.n12 - 1, 0) else if x.n0 = 8 then (x.n6 - 1, 0) else (0, 0)) else (0, 0)

theorem sized_bd {x : NodeC} (h : sizedB x = true) : 1 ≤ x.n6 ∧ x.n6 ≤ 10000 := by simpa [sizedB, win] using h

theorem kO_g (x : NodeC) (h : boundedB x = true) : okFun Try.prog (kO x.n0) = true ∧ Gives Try.prog (kO x.n0) #[x.v] (twoV (ownI x)) := by
  have hb := h
  unfold boundedB at h
  unfold kO ownI
  rw [if_pos hb]
  by_cases h4 : x.n0 = 4
  · rw [if_pos (.inl h4), if_pos (.inl h4)]
    rw [if_pos h4] at h
    have hs : 1 ≤ x.n6 ∧ x.n6 ≤ 10000 ∧ (x.n5 = 2 → 1 ≤ x.n7 ∧ x.n7 ≤ x.n6) := by
      unfold windowB at h
      split at h
      · have := sized_bd h; omega
      split at h
      · simp only [Bool.and_eq_true] at h; have := sized_bd h.1; omega
      split at h
      · simp only [Bool.and_eq_true] at h; have := sized_bd h.1; have h2 := h.2; simp [win] at h2; omega
      · cases h
    exact ⟨by kernel_rfl, block_g x (by unfold I64; omega) (fun _ h5 => by have := hs.2.2 h5; unfold I64; omega)⟩
  rw [if_neg h4] at h
  by_cases h5 : x.n0 = 5
  · rw [if_pos (.inr h5), if_pos (.inr h5)]
    rw [if_pos h5] at h
    simp only [Bool.and_eq_true] at h
    have := sized_bd h.1
    exact ⟨by kernel_rfl, block_g x (by unfold I64; omega) (fun h => absurd h h4)⟩
  have h45 : ¬ (x.n0 = 4 ∨ x.n0 = 5) := by omega
  rw [if_neg h45, if_neg h45]
  rw [if_neg h5] at h
  by_cases h6 : x.n0 = 6
  · rw [if_pos h6, if_pos h6]; exact ⟨by kernel_rfl, of3_g x⟩
  rw [if_neg h6, if_neg h6]
  rw [if_neg h6] at h
  by_cases h7 : x.n0 = 7
  · rw [if_pos h7, if_pos h7]
    rw [if_pos h7] at h
    have h : 1 ≤ x.n12 ∧ x.n12 ≤ 10000 := by simpa [win] using h
    exact ⟨by kernel_rfl, of5_g x (by unfold I64; omega)⟩
  rw [if_neg h7, if_neg h7]
  rw [if_neg h7] at h
  by_cases h8 : x.n0 = 8
  · rw [if_pos h8, if_pos h8]
    rw [if_pos h8] at h
    simp only [Bool.and_eq_true] at h
    have := sized_bd h.1
    exact ⟨by kernel_rfl, of7_g x (by unfold I64; omega)⟩
  rw [if_neg h8, if_neg h8]
  exact ⟨by kernel_rfl, none_g x⟩

theorem bounded_op {x : NodeC} (h : boundedB x = true) : win x.n0 0 8 = true := by
  unfold boundedB at h
  split at h
  · rename_i e; rw [e]; rfl
  split at h
  · rename_i e; rw [e]; rfl
  split at h
  · rename_i e; rw [e]; rfl
  split at h
  · rename_i e; rw [e]; rfl
  split at h
  · rename_i e; rw [e]; rfl
  exact h

theorem Own_g (x : NodeC) : Gives Try.prog F.bounds_Own #[x.v] (twoV (ownI x)) := by
  refine gives_of (Bbounds_Own_run x.n0 x.n1P x.n1N x.n1C x.n2 x.n3 x.n4P x.n4N x.n4C x.n5 x.n6 x.n7 x.n8P x.n8N x.n8C x.n9P x.n9N x.n9C x.n10 x.n11 x.n12 x.n13P x.n13N x.n13C x.n14P x.n14N x.n14C x.n15P x.n15N x.n15C) fun W R Φ _ => ?_
  refine fun _ w F c => (Bounded_g x).use c fun w c => ⟨_, rfl, _, _, inferInstance, c, Br.intro (fun h => ?_) (fun h => ?_)⟩
  · have h : boundedB x = false := by simpa using h
    refine fun w F c => ⟨?_, c.left⟩
    unfold ownI; rw [h]; rfl
  · have h : boundedB x = true := by simpa using h
    refine fun w F c => (of_g x.n0).use c fun w c => ?_
    rw [bounded_op h]
    obtain ⟨h1, h2⟩ := kO_g x h
    exact ⟨_, _, _, _, _, rfl, _, _, inferInstance, c, fun _ => ⟨by simp [OneAll, oneC], _, _, _, rfl, fun w F c => ⟨h1, h2.use c fun w c => ⟨_, _, rfl, _, _, inferInstance, c, fun w F c => ⟨rfl, c.left⟩⟩⟩⟩⟩

/-- a configuration -/
structure CfgC where
  parts : Int
  delay : Int
  late : Int
  ahead : Int
  rate : Int
  span : Int

abbrev CfgC.v (c : CfgC) : Value := .agg #[.int .i64 c.parts, .int .i64 c.delay, .int .i64 c.late, .int .i64 c.ahead, .int .i64 c.rate, .int .i64 c.span]

def cfgB (c : CfgC) : Bool := win c.parts 1 8 && win c.delay 0 c.late && decide (c.late ≤ 10000) && win c.ahead 0 10000 && win c.rate 1 20 && win c.span (c.late + 1) 30000

theorem cfg_bd {c : CfgC} (h : cfgB c = true) : (1 ≤ c.parts ∧ c.parts ≤ 8) ∧ (0 ≤ c.late ∧ c.late ≤ 10000) ∧ (1 ≤ c.rate ∧ c.rate ≤ 20) ∧ c.late + 1 ≤ c.span ∧ c.span ≤ 30000 := by
  simp [cfgB, win] at h
  omega

theorem RightConfig_g (x : CfgC) : Gives Try.prog F.bounds_RightConfig #[x.v] (.bool (cfgB x)) := by
  refine gives_of (Bbounds_RightConfig_run x.parts x.delay x.late x.ahead x.rate x.span) fun W R Φ _ => ?_
  refine fun _ w F c => ⟨_, fun w e => (within_q _ _ _).at e, _, fun _ w e => (within_q _ _ _).at e, _, fun _ w e => (within_q _ _ _).at e, _, fun _ w e => (within_q _ _ _).at e, fun h => ?_, _, fun _ w e => (within_q _ _ _).at e, fun w F c => ⟨rfl, c.left⟩⟩
  simp [win] at h
  unfold I64; omega

end Go.Proofs.Ytflanndhfdfemaa
