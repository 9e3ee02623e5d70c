/-
  THE CONDITIONS OF A WALK AS ONE FORMULA: operations that only read.
-/
import Derived.Test.YtifgijoeckoojaaVcA
set_option linter.unusedVariables false
set_option linter.unusedSimpArgs false
namespace Go.Vc
open Go.RowKit

/-- an obligation of an operation under a guard -/
def ob (g : Option Bool) (p : Prop) : Prop :=
  match g with
  | none => p
  | some c => c = true → p

def gOn : Option Bool → Prop
  | none => True
  | some c => c = true

theorem ob_out {g : Option Bool} {p : Prop} (h : ob g p) (hg : gOn g) : p := by
  cases g with
  | none => exact h
  | some c => exact h hg

/-- a number that an int holds -/
def I64 (n : Int) : Prop := -9223372036854775808 ≤ n ∧ n ≤ 9223372036854775807

theorem i64_wrap {n : Int} (h : I64 n) : IntKind.i64.wrap n = n := IntWalk.i64_in n h

/-- what arithmetic on integers yields: for ints, unless 'wr' is set, the number itself, which must fit -/
def ari (wr : Bool) (g : Option Bool) (k : IntKind) (n : Int) (K : Value → Prop) : Prop :=
  match k, wr with
  | .i64, false => ob g (I64 n) ∧ K (.int .i64 n)
  | k, _ => K (.int k (k.wrap n))

theorem ari_sound {wr : Bool} {g : Option Bool} {k : IntKind} {n : Int} {K : Value → Prop} (h : ari wr g k n K) :
    ∃ v, (gOn g → v = .int k (k.wrap n)) ∧ K v := by
  unfold ari at h
  split at h
  · exact ⟨_, fun hg => by rw [i64_wrap (ob_out h.1 hg)], h.2⟩
  · exact ⟨_, fun _ => rfl, h⟩

/-- the run of an operation that looks at no memory -/
def PureRun (P : Program) (g : Option Bool) (s : Sem Value) (v : Value) : Prop := gOn g → ∀ w, s.run P w = .ok v w

/-- what '&' with 2^n - 1 leaves -/
def maskOf (b : Int) : Bool := b == 1 || b == 3 || b == 7 || b == 15 || b == 31 || b == 63 || b == 127 || b == 255

/-- the binary operators on plain values -/
def vBin (wr : Bool) (g : Option Bool) (op : BinOp) (x y : Value) (K : Value → Prop) : Option Prop :=
  match op, x, y with
  | .add, .int k a, .int k' b => if k = k' then some (ari wr g k (a + b) K) else none
  | .sub, .int k a, .int k' b => if k = k' then some (ari wr g k (a - b) K) else none
  | .mul, .int k a, .int k' b => if k = k' then some (ari wr g k (a * b) K) else none
  | .quo, .int k a, .int k' b => if k = k' then some (ob g (b ≠ 0) ∧ ari wr g k (a.tdiv b) K) else none
  | .rem, .int k a, .int k' b => if k = k' then some (ob g (b ≠ 0) ∧ K (.int k (a.tmod b))) else none
  | .eql, .int k a, .int k' b => if k = k' then some (K (.bool (decide (a = b)))) else none
  | .neq, .int k a, .int k' b => if k = k' then some (K (.bool (decide (a ≠ b)))) else none
  | .lss, .int k a, .int k' b => if k = k' then some (K (.bool (decide (a < b)))) else none
  | .leq, .int k a, .int k' b => if k = k' then some (K (.bool (decide (a ≤ b)))) else none
  | .gtr, .int k a, .int k' b => if k = k' then some (K (.bool (decide (b < a)))) else none
  | .geq, .int k a, .int k' b => if k = k' then some (K (.bool (decide (b ≤ a)))) else none
  | .eql, .string a, .string b => some (K (.bool (decide (a = b))))
  | .neq, .string a, .string b => some (K (.bool (decide (a ≠ b))))
  | .lss, .string a, .string b => some (K (.bool (Op.bytesLess a.toList b.toList)))
  | .add, .string a, .string b => some (ob g (a.size + b.size ≤ 9223372036854775807) ∧ K (.string (a ++ b)))
  | _, _, _ => none

theorem run_int_bin {P : Program} {op : BinOp} {t : TypeId} {k : IntKind} {a b : Int} {ox oy : Operand} (h1 : op ≠ .shl) (h2 : op ≠ .shr) (w : World) :
    (do eqGuard op t ox oy (.int k a) (.int k b); binOp op t (.int k a) (.int k b) : Sem Value).run P w =
      (match op with | .add | .sub | .mul => Op.intArith op k a b | .quo | .rem => Op.intDiv op k a b | .and | .or | .xor | .andNot => Op.intBits op k a b | _ => Op.intCmp op a b).run P w := by
  cases op <;> simp [eqGuard, binOp, Result.andThen] at * <;> rfl

theorem run_str_bin {P : Program} {op : BinOp} {t : TypeId} {a b : ByteArray} {ox oy : Operand} (w : World) :
    (do eqGuard op t ox oy (.string a) (.string b); binOp op t (.string a) (.string b) : Sem Value).run P w = (Op.stringOp op a b).run P w := by
  cases op <;> simp [eqGuard, binOp, Result.andThen] <;> rfl

theorem bytes_eq (a b : ByteArray) : (a.toList == b.toList) = decide (a = b) := by
  have h : a.toList = b.toList ↔ a = b := by
    refine ⟨fun h => ?_, fun h => by rw [h]⟩
    have h1 : ∀ x : ByteArray, x.toList = x.data.toList := fun x => ByteArray.toList_eq x
    rw [h1, h1] at h
    cases a; cases b; simp at h; simp [h]
  by_cases e : a = b
  · simp [e]
  · simp [e, h]

theorem vBin_sound {P : Program} {wr : Bool} {g : Option Bool} {op : BinOp} {t : TypeId} {ox oy : Operand} {x y : Value} {K : Value → Prop} {p : Prop} (h : vBin wr g op x y K = some p) (hp : p) :
    ∃ v, PureRun P g (do eqGuard op t ox oy x y; binOp op t x y) v ∧ K v := by
  unfold vBin at h
  split at h
  case h_16 => cases h
  case h_12 => cases h; exact ⟨_, fun _ w => by rw [run_str_bin]; simp [Op.stringOp, bytes_eq], hp⟩
  case h_13 => cases h; refine ⟨_, fun _ w => ?_, hp⟩; rw [run_str_bin]; simp [Op.stringOp, bytes_eq]
  case h_14 => cases h; exact ⟨_, fun _ w => by rw [run_str_bin]; simp [Op.stringOp], hp⟩
  case h_15 =>
    cases h
    obtain ⟨h1, h2⟩ := hp
    refine ⟨_, fun hg w => ?_, h2⟩
    have := ob_out h1 hg
    rw [run_str_bin]
    unfold Op.stringOp
    simp only
    rw [if_neg (by simp [IntKind.max, IntKind.signed, IntKind.bits]; omega)]
    rfl
  all_goals
    split at h
    case isFalse => cases h
    rename_i hk
    subst hk
    cases h
  case h_4 =>
    obtain ⟨h1, h2⟩ := hp
    obtain ⟨v, hv, hk⟩ := ari_sound h2
    refine ⟨v, fun hg w => ?_, hk⟩
    have h0 := ob_out h1 hg
    rw [run_int_bin (by decide) (by decide), hv hg]
    simp [Op.intDiv, h0]
  case h_5 =>
    obtain ⟨h1, h2⟩ := hp
    refine ⟨_, fun hg w => ?_, h2⟩
    have h0 := ob_out h1 hg
    rw [run_int_bin (by decide) (by decide)]
    simp [Op.intDiv, h0]
  case h_1 => obtain ⟨v, hv, hk⟩ := ari_sound hp; exact ⟨v, fun hg w => by rw [run_int_bin (by decide) (by decide), hv hg]; rfl, hk⟩
  case h_2 => obtain ⟨v, hv, hk⟩ := ari_sound hp; exact ⟨v, fun hg w => by rw [run_int_bin (by decide) (by decide), hv hg]; rfl, hk⟩
  case h_3 => obtain ⟨v, hv, hk⟩ := ari_sound hp; exact ⟨v, fun hg w => by rw [run_int_bin (by decide) (by decide), hv hg]; rfl, hk⟩
  all_goals (refine ⟨_, fun _ w => ?_, hp⟩; rw [run_int_bin (by decide) (by decide)]; simp [Op.intCmp]; try (first | rfl | (rw [Bool.eq_iff_iff]; simp)))

end Go.Vc
