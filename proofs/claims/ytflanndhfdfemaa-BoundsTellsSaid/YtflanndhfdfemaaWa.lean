/-
  The walks of the small functions of package bounds.
-/
import Derived.Test.YtflanndhfdfemaaBq
import Derived.Test.YtflanndhfdfemaaVcW
set_option linter.unusedVariables false
set_option linter.unusedSimpArgs false
namespace Go.Proofs.Ytflanndhfdfemaa
open Go.Vc

/-- the cells of a node: 0 Op, 1 In, 5 Kind, 6 Size, 7 Step, 10 Before, 11 After, 12 Keep, 14 Seq, 15 Cols -/
structure NodeC where
  n0 : Int
  n1P : Option Addr
  n1N : Nat
  n1C : Nat
  n2 : ByteArray
  n3 : Int
  n4P : Option Addr
  n4N : Nat
  n4C : Nat
  n5 : Int
  n6 : Int
  n7 : Int
  n8P : Option Addr
  n8N : Nat
  n8C : Nat
  n9P : Option Addr
  n9N : Nat
  n9C : Nat
  n10 : Int
  n11 : Int
  n12 : Int
  n13P : Option Addr
  n13N : Nat
  n13C : Nat
  n14P : Option Addr
  n14N : Nat
  n14C : Nat
  n15P : Option Addr
  n15N : Nat
  n15C : Nat

abbrev NodeC.cells (x : NodeC) : List Value := [.int .i64 x.n0, .slice x.n1P x.n1N x.n1C, .string x.n2, .int .i64 x.n3, .slice x.n4P x.n4N x.n4C, .int .i64 x.n5, .int .i64 x.n6, .int .i64 x.n7, .slice x.n8P x.n8N x.n8C, .slice x.n9P x.n9N x.n9C,
  .int .i64 x.n10, .int .i64 x.n11, .int .i64 x.n12, .slice x.n13P x.n13N x.n13C, .slice x.n14P x.n14N x.n14C, .slice x.n15P x.n15N x.n15C]
abbrev NodeC.v (x : NodeC) : Value := .agg #[.int .i64 x.n0, .slice x.n1P x.n1N x.n1C, .string x.n2, .int .i64 x.n3, .slice x.n4P x.n4N x.n4C, .int .i64 x.n5, .int .i64 x.n6, .int .i64 x.n7, .slice x.n8P x.n8N x.n8C, .slice x.n9P x.n9N x.n9C,
  .int .i64 x.n10, .int .i64 x.n11, .int .i64 x.n12, .slice x.n13P x.n13N x.n13C, .slice x.n14P x.n14N x.n14C, .slice x.n15P x.n15N x.n15C]

/-- the numbers of a node are ints -/
structure NodeC.Ok (x : NodeC) : Prop where
  h5 : I64 x.n5
  h6 : I64 x.n6
  h7 : I64 x.n7
  h10 : I64 x.n10
  h11 : I64 x.n11
  h12 : I64 x.n12

def win (n a b : Int) : Bool := decide (a ≤ n) && decide (n ≤ b)

theorem within_q (n a b : Int) : Quiet Try.prog F.bounds_within #[.int .i64 n, .int .i64 a, .int .i64 b] (.bool (win n a b)) :=
  quiet_of (Qbounds_within_run n a b) fun w => ⟨rfl, rfl⟩
theorem within_g (n a b : Int) : Gives Try.prog F.bounds_within #[.int .i64 n, .int .i64 a, .int .i64 b] (.bool (win n a b)) := (within_q n a b).gives

def M40 : Int := 1099511627776
def plusI (a b : Int) : Int := min (a + b) 1099511627776
def timesI (a b : Int) : Int := if a ≠ 0 ∧ Int.tdiv 1099511627776 a < b then 1099511627776 else a * b

theorem plus_q (a b : Int) (h : I64 (a + b)) : Quiet Try.prog F.bounds_plus #[.int .i64 a, .int .i64 b] (.int .i64 (plusI a b)) :=
  quiet_of (Qbounds_plus_run a b) fun w => ⟨h, rfl, rfl⟩

theorem tdiv_le (a : Int) : I64 (Int.tdiv 1099511627776 a) := by
  have h : (Int.tdiv 1099511627776 a).natAbs ≤ 1099511627776 := by
    rw [Int.natAbs_tdiv]
    exact Nat.div_le_self _ _
  unfold I64
  omega

theorem times_q (a b : Int) (h : ¬ (a ≠ 0 ∧ Int.tdiv 1099511627776 a < b) → I64 (a * b)) : Quiet Try.prog F.bounds_times #[.int .i64 a, .int .i64 b] (.int .i64 (timesI a b)) := by
  refine quiet_of (Qbounds_times_run a b) fun w => ⟨fun h => by simpa using h, fun _ => tdiv_le a, Br.intro (fun hc => ?_) (fun hc => ?_)⟩
  · have hc : a ≠ 0 ∧ Int.tdiv 1099511627776 a < b := by simpa using hc
    exact ⟨by unfold timesI; rw [if_pos hc], rfl⟩
  · have hc : ¬ (a ≠ 0 ∧ Int.tdiv 1099511627776 a < b) := by simpa [Bool.and_eq_true] using hc
    exact ⟨h hc, by unfold timesI; rw [if_neg hc], rfl⟩

def sizedB (x : NodeC) : Bool := win x.n6 1 10000

theorem sized_g (x : NodeC) : Gives Try.prog F.bounds_sized #[x.v] (.bool (sizedB x)) := by
  refine gives_of (Bbounds_sized_run x.n0 x.n1P x.n1N x.n1C x.n2 x.n3 x.n4P x.n4N x.n4C x.n5 x.n6 x.n7 x.n8P x.n8N x.n8C x.n9P x.n9N x.n9C x.n10 x.n11 x.n12 x.n13P x.n13N x.n13C x.n14P x.n14N x.n14C x.n15P x.n15N x.n15C) fun W R Φ _ => ?_
  intro _ w F c
  exact (within_g _ _ _).use c fun w c => ⟨_, rfl, _, _, inferInstance, c, fun w F c => ⟨rfl, c.left⟩⟩

theorem always_g (x : NodeC) : Gives Try.prog F.bounds_always #[x.v] (.bool true) := by
  refine gives_of (Bbounds_always_run x.n0 x.n1P x.n1N x.n1C x.n2 x.n3 x.n4P x.n4N x.n4C x.n5 x.n6 x.n7 x.n8P x.n8N x.n8C x.n9P x.n9N x.n9C x.n10 x.n11 x.n12 x.n13P x.n13N x.n13C x.n14P x.n14N x.n14C x.n15P x.n15N x.n15C) fun W R Φ _ => ?_
  exact fun _ w F c => ⟨rfl, c.left⟩

theorem none_g (x : NodeC) : Gives Try.prog F.bounds_none #[x.v] (.tuple #[.int .i64 0, .int .i64 0]) := by
  refine gives_of (Bbounds_none_run x.n0 x.n1P x.n1N x.n1C x.n2 x.n3 x.n4P x.n4N x.n4C x.n5 x.n6 x.n7 x.n8P x.n8N x.n8C x.n9P x.n9N x.n9C x.n10 x.n11 x.n12 x.n13P x.n13N x.n13C x.n14P x.n14N x.n14C x.n15P x.n15N x.n15C) fun W R Φ _ => ?_
  exact fun _ w F c => ⟨rfl, c.left⟩

def windowB (x : NodeC) : Bool :=
  if x.n5 = 0 then sizedB x
  else if x.n5 = 1 then sizedB x && (decide (0 < x.n7) && decide (x.n6.tmod x.n7 = 0))
  else if x.n5 = 2 then sizedB x && win x.n7 1 x.n6
  else false

theorem window_g (x : NodeC) : Gives Try.prog F.bounds_window #[x.v] (.bool (windowB x)) := by
  refine gives_of (Bbounds_window_run x.n0 x.n1P x.n1N x.n1C x.n2 x.n3 x.n4P x.n4N x.n4C x.n5 x.n6 x.n7 x.n8P x.n8N x.n8C x.n9P x.n9N x.n9C x.n10 x.n11 x.n12 x.n13P x.n13N x.n13C x.n14P x.n14N x.n14C x.n15P x.n15N x.n15C) fun W R Φ _ => ?_
  refine fun _ => Br.intro (fun h => fun w F c => ?_) fun h => Br.intro (fun h1 => fun w F c => ?_) fun h1 => Br.intro (fun h2 => fun w F c => ?_) fun h2 => fun w F c => ?_
  · have h : x.n5 = 0 := by simpa using h
    refine (sized_g x).use c fun w c => ⟨_, rfl, _, _, inferInstance, c, fun w F c => ⟨?_, c.left⟩⟩
    unfold windowB; rw [if_pos h]
  · have h : ¬ x.n5 = 0 := by simpa using h
    have h1 : x.n5 = 1 := by simpa using h1
    refine (sized_g x).use c fun w c => ⟨_, rfl, _, _, inferInstance, c, Br.intro (fun hs => Br.intro (fun hp => ⟨fun h0 => ?_, fun w F c => ⟨?_, c.left⟩⟩) (fun hp => fun w F c => ⟨?_, c.left⟩)) (fun hs => fun w F c => ⟨?_, c.left⟩)⟩
    · have : 0 < x.n7 := by simpa using hp
      omega
    · unfold windowB; rw [if_neg h, if_pos h1, hs, hp]; rfl
    · unfold windowB; rw [if_neg h, if_pos h1, hs, hp]; rfl
    · unfold windowB; rw [if_neg h, if_pos h1, hs]; rfl
  · have h : ¬ x.n5 = 0 := by simpa using h
    have h1 : ¬ x.n5 = 1 := by simpa using h1
    have h2 : x.n5 = 2 := by simpa using h2
    refine (sized_g x).use c fun w c => ⟨_, rfl, _, _, inferInstance, c, Br.intro (fun hs => fun w F c => (within_g _ _ _).use c fun w c => ⟨_, rfl, _, _, inferInstance, c, fun w F c => ⟨?_, c.left⟩⟩) (fun hs => fun w F c => ⟨?_, c.left⟩)⟩
    · unfold windowB; rw [if_neg h, if_neg h1, if_pos h2, hs]; rfl
    · unfold windowB; rw [if_neg h, if_neg h1, if_pos h2, hs]; rfl
  · have h : ¬ x.n5 = 0 := by simpa using h
    have h1 : ¬ x.n5 = 1 := by simpa using h1
    have h2 : ¬ x.n5 = 2 := by simpa using h2
    refine ⟨?_, c.left⟩
    unfold windowB; rw [if_neg h, if_neg h1, if_neg h2]

def blockI (x : NodeC) : Int × Int := if x.n0 = 4 ∧ x.n5 = 2 then (x.n6 - 1, x.n7 - 1) else (x.n6 - 1, x.n6 - 1)
def twoV (p : Int × Int) : Value := .tuple #[.int .i64 p.1, .int .i64 p.2]

theorem block_g (x : NodeC) (h6 : I64 (x.n6 - 1)) (h7 : x.n0 = 4 → x.n5 = 2 → I64 (x.n7 - 1)) : Gives Try.prog F.bounds_block #[x.v] (twoV (blockI x)) := by
  refine gives_of (Bbounds_block_run x.n0 x.n1P x.n1N x.n1C x.n2 x.n3 x.n4P x.n4N x.n4C x.n5 x.n6 x.n7 x.n8P x.n8N x.n8C x.n9P x.n9N x.n9C x.n10 x.n11 x.n12 x.n13P x.n13N x.n13C x.n14P x.n14N x.n14C x.n15P x.n15N x.n15C) fun W R Φ _ => ?_
  refine fun _ w F c => Br.intro (fun h => fun w F c => ?_) (fun h => fun w F c => ?_)
  · have h : x.n0 = 4 ∧ x.n5 = 2 := by simpa using h
    refine ⟨h6, h7 h.1 h.2, fun w F c => ⟨?_, c.left⟩⟩
    unfold blockI; rw [if_pos h]; rfl
  · have h : ¬ (x.n0 = 4 ∧ x.n5 = 2) := by simpa using h
    refine ⟨h6, h6, fun w F c => ⟨?_, c.left⟩⟩
    unfold blockI; rw [if_neg h]; rfl

theorem of1_g (x : NodeC) : Gives Try.prog F.bounds_of_1 #[x.v] (.bool (sizedB x && win x.n12 1 100)) := by
  refine gives_of (Bbounds_of_1_run x.n0 x.n1P x.n1N x.n1C x.n2 x.n3 x.n4P x.n4N x.n4C x.n5 x.n6 x.n7 x.n8P x.n8N x.n8C x.n9P x.n9N x.n9C x.n10 x.n11 x.n12 x.n13P x.n13N x.n13C x.n14P x.n14N x.n14C x.n15P x.n15N x.n15C) fun W R Φ _ => ?_
  refine fun _ w F c => (sized_g x).use c fun w c => ⟨_, rfl, _, _, inferInstance, c, Br.intro (fun hs => fun w F c => (within_g _ _ _).use c fun w c => ⟨_, rfl, _, _, inferInstance, c, fun w F c => ⟨?_, c.left⟩⟩) (fun hs => fun w F c => ⟨?_, c.left⟩)⟩
  · rw [hs]; rfl
  · rw [hs]; rfl

theorem of2_g (x : NodeC) : Gives Try.prog F.bounds_of_2 #[x.v] (.bool (win x.n10 0 10000 && win x.n11 0 10000)) := by
  refine gives_of (Bbounds_of_2_run x.n0 x.n1P x.n1N x.n1C x.n2 x.n3 x.n4P x.n4N x.n4C x.n5 x.n6 x.n7 x.n8P x.n8N x.n8C x.n9P x.n9N x.n9C x.n10 x.n11 x.n12 x.n13P x.n13N x.n13C x.n14P x.n14N x.n14C x.n15P x.n15N x.n15C) fun W R Φ _ => ?_
  exact fun _ w F c => ⟨_, fun w e => (within_q _ _ _).at e, _, fun _ w e => (within_q _ _ _).at e, fun w F c => ⟨rfl, c.left⟩⟩

theorem of3_g (x : NodeC) : Gives Try.prog F.bounds_of_3 #[x.v] (twoV (max x.n10 x.n11, 0)) := by
  refine gives_of (Bbounds_of_3_run x.n0 x.n1P x.n1N x.n1C x.n2 x.n3 x.n4P x.n4N x.n4C x.n5 x.n6 x.n7 x.n8P x.n8N x.n8C x.n9P x.n9N x.n9C x.n10 x.n11 x.n12 x.n13P x.n13N x.n13C x.n14P x.n14N x.n14C x.n15P x.n15N x.n15C) fun W R Φ _ => ?_
  exact fun _ w F c => ⟨rfl, c.left⟩

theorem of4_g (x : NodeC) : Gives Try.prog F.bounds_of_4 #[x.v] (.bool (win x.n12 1 10000)) := by
  refine gives_of (Bbounds_of_4_run x.n0 x.n1P x.n1N x.n1C x.n2 x.n3 x.n4P x.n4N x.n4C x.n5 x.n6 x.n7 x.n8P x.n8N x.n8C x.n9P x.n9N x.n9C x.n10 x.n11 x.n12 x.n13P x.n13N x.n13C x.n14P x.n14N x.n14C x.n15P x.n15N x.n15C) fun W R Φ _ => ?_
  exact fun _ w F c => (within_g _ _ _).use c fun w c => ⟨_, rfl, _, _, inferInstance, c, fun w F c => ⟨rfl, c.left⟩⟩

theorem of5_g (x : NodeC) (h : I64 (x.n12 - 1)) : Gives Try.prog F.bounds_of_5 #[x.v] (twoV (x.n12 - 1, 0)) := by
  refine gives_of (Bbounds_of_5_run x.n0 x.n1P x.n1N x.n1C x.n2 x.n3 x.n4P x.n4N x.n4C x.n5 x.n6 x.n7 x.n8P x.n8N x.n8C x.n9P x.n9N x.n9C x.n10 x.n11 x.n12 x.n13P x.n13N x.n13C x.n14P x.n14N x.n14C x.n15P x.n15N x.n15C) fun W R Φ _ => ?_
  exact fun _ => ⟨h, fun w F c => ⟨rfl, c.left⟩⟩

theorem of6_g (x : NodeC) : Gives Try.prog F.bounds_of_6 #[x.v] (.bool (sizedB x && win x.n14N 1 8)) := by
  refine gives_of (Bbounds_of_6_run x.n0 x.n1P x.n1N x.n1C x.n2 x.n3 x.n4P x.n4N x.n4C x.n5 x.n6 x.n7 x.n8P x.n8N x.n8C x.n9P x.n9N x.n9C x.n10 x.n11 x.n12 x.n13P x.n13N x.n13C x.n14P x.n14N x.n14C x.n15P x.n15N x.n15C) fun W R Φ _ => ?_
  refine fun _ w F c => (sized_g x).use c fun w c => ⟨_, rfl, _, _, inferInstance, c, Br.intro (fun hs => fun w F c => (within_g _ _ _).use c fun w c => ⟨_, rfl, _, _, inferInstance, c, fun w F c => ⟨?_, c.left⟩⟩) (fun hs => fun w F c => ⟨?_, c.left⟩)⟩
  · rw [hs]; rfl
  · rw [hs]; rfl

theorem of7_g (x : NodeC) (h : I64 (x.n6 - 1)) : Gives Try.prog F.bounds_of_7 #[x.v] (twoV (x.n6 - 1, 0)) := by
  refine gives_of (Bbounds_of_7_run x.n0 x.n1P x.n1N x.n1C x.n2 x.n3 x.n4P x.n4N x.n4C x.n5 x.n6 x.n7 x.n8P x.n8N x.n8C x.n9P x.n9N x.n9C x.n10 x.n11 x.n12 x.n13P x.n13N x.n13C x.n14P x.n14N x.n14C x.n15P x.n15N x.n15C) fun W R Φ _ => ?_
  exact fun _ => ⟨h, fun w F c => ⟨rfl, c.left⟩⟩

end Go.Proofs.Ytflanndhfdfemaa
