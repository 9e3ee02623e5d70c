/-
  Lists in order: what the steps of a stable sort do (in plain Lean).
-/
import Derived.Test.YtjlfpkgjcffilaaGreatDoorSH4
import Derived.Lib.Bytealg
import Derived.Test.YtjlfpkgjcffilaaGreatDoorSH3
import Derived.Test.YtjlfpkgjcffilaaGreatDoorSH2
import Derived.Lib.Strings
import Derived.Lib.Walk
import Derived.Shelf.Strings.Builder1
import Derived.Shelf.Strconv.Itoa3
import Derived.Lib.AppendStr
import Derived.Lib.LaidTab
import Derived.LaidMore
import Derived.OpenShut
import Derived.Stop.Joined
import Derived.MapKept
import Derived.Shelf.Small.Strs
import Derived.Shelf.Small.Wraps
import Derived.Shelf.Strings.BuilderF
import Derived.Shelf.Strings.BuilderK
import Derived.Shelf.Strconv.Atoi
import Derived.Shelf.Strconv.Itoa0
import Derived.Shelf.Strconv.Itoa1
import Derived.Shelf.LaysM
import Derived.Shelf.Strconv.Itoa2
import Derived.Shelf.Strconv.AtoiErrFast
import Derived.Shelf.Strconv.ParseIntEmpty
import Derived.Shelf.Strconv.AtoiFail
import Derived.Shelf.Strconv.Clone
import Derived.Shelf.Strconv.SyntaxError
import Derived.Shelf.LaysC
import Derived.Shelf.Strconv.ToError
import Derived.Shelf.Strconv.AtoiErr
import Derived.Shelf.Strconv.ErrVar
import Derived.Shelf.Strconv.Lower
import Derived.Shelf.Strconv.ParseUint10
import Derived.Shelf.Strconv.ParseUint10Empty
import Derived.Shelf.Strconv.ParseUint10Any
import Derived.Shelf.Strconv.ParseInt10
import Derived.Shelf.Strconv.AtoiLong
import Derived.Shelf.Strconv.AtoiInnerAll
import Derived.Shelf.Strconv.RangeError
import Derived.Shelf.Strconv.ToErrorRange
import Derived.Shelf.Strconv.AtoiAll
import Derived.Shelf.Strconv.ErrVarAll
import Derived.Shelf.Strconv.ParseUintEmpty
import Derived.Shelf.Strconv.ParseUint10b64
import Derived.Shelf.Strconv.ParseUint10b32
import Derived.Shelf.Strconv.ParseUint10b16
import Derived.Shelf.Strconv.ParseUint10b8
import Derived.Shelf.Strconv.ParseUint10At
import Derived.Shelf.Strconv.ParseInt10At64
import Derived.Shelf.Strconv.ParseInt10At32
import Derived.Shelf.Strconv.ParseInt10At16
import Derived.Shelf.Strconv.ParseInt10At8
import Derived.Shelf.Strings.Search1
import Derived.Shelf.Strings.Prefix
import Derived.Shelf.Strings.BuilderCap
import Derived.Shelf.Slices.Turned
import Derived.Shelf.Slices.Clone
import Derived.Shelf.Slices.SearchI
import Derived.Shelf.Slices.Empties
import Derived.Shelf.SlicesE.Clone
import Derived.Test.YtjlfpkgjcffilaaGreatDoorRows
import Derived.Lib.ItoaNum
import Derived.Lib.ConvBytes
import Derived.Lib.AtoiErrMem
import Derived.Lib.AppendZeros
import Derived.Lib.SliceRun

section
set_option linter.unusedVariables false
set_option linter.unusedSimpArgs false
namespace Go.Vc

section
variable {ε : Type} {le : ε → ε → Prop}

/-- a total preorder -/
structure Ord (le : ε → ε → Prop) : Prop where
  total : ∀ x y, le x y ∨ le y x
  trans : ∀ x y z, le x y → le y z → le x z

theorem Ord.refl (h : Ord le) (x : ε) : le x x := (h.total x x).elim id id

abbrev Asc (le : ε → ε → Prop) (l : List ε) : Prop := l.Pairwise le

/-- chunks of one length, each in order, and a rest -/
structure Chunks (le : ε → ε → Prop) (bs : Nat) (cs : List (List ε)) (rest : List ε) : Prop where
  len : ∀ c ∈ cs, c.length = bs
  asc : ∀ c ∈ cs, Asc le c
  last : Asc le rest
  short : rest.length < bs

end

end Go.Vc
end

/-
  Values, rows and deltas in order (in plain Lean).
-/
section
set_option linter.unusedVariables false
set_option linter.unusedSimpArgs false
namespace Go.Proofs.YtjlfpkgjcffilaaGreatDoor
open Go.Vc

structure ValD where
  kind : Int
  num : Int
  text : ByteArray
instance : Gv ValD := Gv.via (β := Int × Int × ByteArray) (fun x => (x.kind, x.num, x.text)) (fun y => ⟨y.1, y.2.1, y.2.2⟩) (fun _ => rfl)

structure DeltaD where
  time : Int
  row : List ValD
  n : Int
instance : Gv DeltaD := Gv.via (β := Int × List ValD × Int) (fun x => (x.time, x.row, x.n)) (fun y => ⟨y.1, y.2.1, y.2.2⟩) (fun _ => rfl)

abbrev ValD.v (x : ValD) : Value := .agg #[.int .i64 x.kind, .int .i64 x.num, .string x.text]

theorem val_ext {x y : ValD} : x = y ↔ (x.kind = y.kind ∧ (x.num = y.num ∧ x.text = y.text)) := by
  cases x; cases y; simp
instance : DecidableEq ValD := fun _ _ => decidable_of_iff _ val_ext.symm

/-! ### comparisons of three answers -/
structure Cmp {α : Type} (c : α → α → Int) : Prop where
  eq : ∀ x y, c x y = 0 ↔ x = y
  anti : ∀ x y, 0 < c x y ↔ c y x < 0
  trans : ∀ x y z, c x y < 0 → c y z < 0 → c x z < 0
  bd : ∀ x y, -1 ≤ c x y ∧ c x y ≤ 1

theorem Cmp.refl {α : Type} {c : α → α → Int} (h : Cmp c) (x : α) : c x x = 0 := (h.eq x x).2 rfl
theorem Cmp.tri {α : Type} {c : α → α → Int} (h : Cmp c) (x y : α) : c x y < 0 ∨ x = y ∨ c y x < 0 := by
  rcases Int.lt_trichotomy (c x y) 0 with h1 | h1 | h1
  · exact .inl h1
  · exact .inr (.inl ((h.eq x y).1 h1))
  · exact .inr (.inr ((h.anti x y).1 h1))
def cmpI (x y : Int) : Int := if x < y then -1 else if y < x then 1 else 0

theorem cmpI_cmp : Cmp cmpI := by
  refine ⟨fun x y => ?_, fun x y => ?_, fun x y z => ?_, fun x y => ?_⟩
  · unfold cmpI; split
    · constructor <;> intro h <;> omega
    · split
      · constructor <;> intro h <;> omega
      · constructor <;> intro h <;> omega
  · unfold cmpI; split <;> split <;> try split
    all_goals first | omega | (split <;> omega)
  · unfold cmpI; split
    · intro _
      split
      · intro _; rw [if_pos (by omega)]; omega
      · split <;> (intro h; omega)
    · split <;> (intro h; omega)
  · unfold cmpI; split; omega; split <;> omega

theorem bytes_cmp : Cmp Lib.compareBytes := by
  have heq : ∀ a b : List UInt8, Lib.compareBytes a b = 0 ↔ a = b := by
    intro a
    induction a with
    | nil => intro b; cases b <;> simp [Lib.compareBytes]
    | cons x a ih =>
      intro b
      cases b with
      | nil => simp [Lib.compareBytes]
      | cons y b =>
        unfold Lib.compareBytes
        split
        · rename_i h; constructor
          · intro h'; omega
          · intro h'; simp only [List.cons.injEq] at h'; rw [h'.1] at h; exact absurd h (by exact UInt8.lt_irrefl y)
        · split
          · rename_i h; constructor
            · intro h'; omega
            · intro h'; simp only [List.cons.injEq] at h'; rw [h'.1] at h; exact absurd h (by exact UInt8.lt_irrefl y)
          · rename_i h1 h2
            have : x = y := UInt8.le_antisymm (UInt8.not_lt.1 h2) (UInt8.not_lt.1 h1)
            subst this
            rw [ih b]
            simp
  have hanti : ∀ a b : List UInt8, 0 < Lib.compareBytes a b ↔ Lib.compareBytes b a < 0 := by
    intro a
    induction a with
    | nil => intro b; cases b <;> simp [Lib.compareBytes]
    | cons x a ih =>
      intro b
      cases b with
      | nil => simp [Lib.compareBytes]
      | cons y b =>
        unfold Lib.compareBytes
        by_cases h1 : x < y
        · rw [if_pos h1, if_neg (UInt8.lt_asymm h1), if_pos h1]; omega
        · rw [if_neg h1]
          by_cases h2 : y < x
          · rw [if_pos h2, if_pos h2]; omega
          · rw [if_neg h2, if_neg h2, if_neg h1]; exact ih b
  have htrans : ∀ a b c : List UInt8, Lib.compareBytes a b < 0 → Lib.compareBytes b c < 0 → Lib.compareBytes a c < 0 := by
    intro a
    induction a with
    | nil =>
      intro b c h1 h2
      cases c with
      | nil => cases b <;> simp [Lib.compareBytes] at h2
      | cons => simp [Lib.compareBytes]
    | cons x a ih =>
      intro b c h1 h2
      cases b with
      | nil => simp [Lib.compareBytes] at h1
      | cons y b =>
        cases c with
        | nil => simp [Lib.compareBytes] at h2
        | cons z c =>
          unfold Lib.compareBytes at h1 h2 ⊢
          by_cases hxy : x < y
          · by_cases hyz : y < z
            · rw [if_pos (UInt8.lt_trans hxy hyz)]; omega
            · rw [if_neg hyz] at h2
              by_cases hzy : z < y
              · rw [if_pos hzy] at h2; omega
              · have : y = z := UInt8.le_antisymm (UInt8.not_lt.1 hzy) (UInt8.not_lt.1 hyz)
                subst this
                rw [if_pos hxy]; omega
          · rw [if_neg hxy] at h1
            by_cases hyx : y < x
            · rw [if_pos hyx] at h1; omega
            · have : x = y := UInt8.le_antisymm (UInt8.not_lt.1 hyx) (UInt8.not_lt.1 hxy)
              subst this
              rw [if_neg hyx] at h1
              by_cases hyz : x < z
              · rw [if_pos hyz]; omega
              · rw [if_neg hyz] at h2 ⊢
                by_cases hzy : z < x
                · rw [if_pos hzy] at h2; omega
                · rw [if_neg hzy] at h2 ⊢
                  exact ih b c h1 h2
  have hbd : ∀ a b : List UInt8, -1 ≤ Lib.compareBytes a b ∧ Lib.compareBytes a b ≤ 1 := by
    intro a
    induction a with
    | nil => intro b; cases b <;> simp [Lib.compareBytes]
    | cons x a ih =>
      intro b
      cases b with
      | nil => simp [Lib.compareBytes]
      | cons y b =>
        unfold Lib.compareBytes
        split
        · omega
        · split
          · omega
          · exact ih b
  exact ⟨heq, hanti, htrans, hbd⟩

def cmpT (a b : ByteArray) : Int := Lib.compareBytes a.data.toList b.data.toList
theorem cmpT_cmp : Cmp cmpT :=
  ⟨fun x y => (bytes_cmp.eq _ _).trans ⟨fun h => ByteArray.ext (Array.toList_inj.1 h), fun h => by rw [h]⟩, fun x y => bytes_cmp.anti _ _, fun x y z => bytes_cmp.trans _ _ _, fun x y => bytes_cmp.bd _ _⟩

def orI : List Int → Int
  | [] => 0
  | x :: r => if x ≠ 0 then x else orI r

theorem orI_two (a b : Int) : orI [a, b] = if a ≠ 0 then a else b := by
  unfold orI orI orI
  split
  · rfl
  · split
    · rfl
    · omega

/-- first the one, then the other -/
def lex {α β : Type} (c : α → α → Int) (d : β → β → Int) (x y : α × β) : Int := if c x.1 y.1 ≠ 0 then c x.1 y.1 else d x.2 y.2

theorem lex_cmp {α β : Type} {c : α → α → Int} {d : β → β → Int} (hc : Cmp c) (hd : Cmp d) : Cmp (lex c d) := by
  refine ⟨fun x y => ?_, fun x y => ?_, fun x y z h1 h2 => ?_, fun x y => ?_⟩
  · unfold lex
    by_cases h : c x.1 y.1 = 0
    · rw [if_neg (by simp [h]), hd.eq]
      have := (hc.eq _ _).1 h
      constructor
      · intro h'; exact Prod.ext this h'
      · intro h'; rw [h']
    · rw [if_pos h]
      constructor
      · intro h'; exact absurd h' h
      · intro h'; rw [h'] at h; exact absurd (hc.refl _) h
  · unfold lex
    by_cases h : c x.1 y.1 = 0
    · have := (hc.eq _ _).1 h
      rw [if_neg (by simp [h]), if_neg (by rw [this]; simp [hc.refl])]
      exact hd.anti _ _
    · have h2 : c y.1 x.1 ≠ 0 := fun e => h ((hc.eq _ _).2 ((hc.eq _ _).1 e).symm)
      rw [if_pos h, if_pos h2]
      exact hc.anti _ _
  · unfold lex at h1 h2 ⊢
    by_cases e1 : c x.1 y.1 = 0
    · rw [if_neg (by simp [e1])] at h1
      have q := (hc.eq _ _).1 e1
      rw [q]
      by_cases e2 : c y.1 z.1 = 0
      · rw [if_neg (by simp [e2])] at h2 ⊢
        exact hd.trans _ _ _ h1 h2
      · rw [if_pos e2] at h2 ⊢
        exact h2
    · rw [if_pos e1] at h1
      by_cases e2 : c y.1 z.1 = 0
      · have q := (hc.eq _ _).1 e2
        rw [← q, if_pos e1]
        exact h1
      · rw [if_pos e2] at h2
        have := hc.trans _ _ _ h1 h2
        rw [if_pos (by omega)]
        exact this
  · unfold lex
    split
    · exact hc.bd _ _
    · exact hd.bd _ _

theorem Cmp.on {α β : Type} {c : β → β → Int} (h : Cmp c) (f : α → β) (hf : ∀ x y, f x = f y → x = y) : Cmp (fun x y => c (f x) (f y)) :=
  ⟨fun x y => ⟨fun e => hf _ _ ((h.eq _ _).1 e), fun e => by rw [e]; exact h.refl _⟩, fun x y => h.anti _ _, fun x y z => h.trans _ _ _, fun x y => h.bd _ _⟩

abbrev cmpL (x y : ValD) : List Int := [cmpI x.kind y.kind, cmpI x.num y.num, cmpT x.text y.text]
def cmpV (x y : ValD) : Int := orI (cmpL x y)

theorem cmpV_lex (x y : ValD) : cmpV x y = lex cmpI (lex cmpI cmpT) (x.kind, x.num, x.text) (y.kind, y.num, y.text) := by
  unfold cmpV cmpL lex
  rw [orI]
  split
  · rfl
  · rw [orI_two]

theorem cmpV_cmp : Cmp cmpV := by
  have h := (lex_cmp cmpI_cmp (lex_cmp cmpI_cmp cmpT_cmp)).on (fun x : ValD => (x.kind, x.num, x.text)) (fun x y e => by cases x; cases y; simpa using e)
  have e : cmpV = fun x y => lex cmpI (lex cmpI cmpT) (x.kind, x.num, x.text) (y.kind, y.num, y.text) := by funext x y; exact cmpV_lex x y
  rw [e]; exact h

def cmpR : List ValD → List ValD → Int
  | [], [] => 0
  | [], _ :: _ => -1
  | _ :: _, [] => 1
  | a :: ar, b :: br => if cmpV a b ≠ 0 then cmpV a b else cmpR ar br

theorem cmpR_cmp : Cmp cmpR := by
  refine ⟨?_, ?_, ?_, ?_⟩
  · intro x
    induction x with
    | nil => intro y; cases y <;> simp [cmpR]
    | cons a x ih =>
      intro y
      cases y with
      | nil => simp [cmpR]
      | cons b y =>
        unfold cmpR
        by_cases h : cmpV a b = 0
        · rw [if_neg (by simp [h]), ih y, (cmpV_cmp.eq _ _).1 h]; simp
        · rw [if_pos h]
          constructor
          · intro h'; exact absurd h' h
          · intro h'; simp only [List.cons.injEq] at h'; rw [h'.1] at h; exact absurd (cmpV_cmp.refl _) h
  · intro x
    induction x with
    | nil => intro y; cases y <;> simp [cmpR]
    | cons a x ih =>
      intro y
      cases y with
      | nil => simp [cmpR]
      | cons b y =>
        unfold cmpR
        by_cases h : cmpV a b = 0
        · have := (cmpV_cmp.eq _ _).1 h
          rw [if_neg (by simp [h]), if_neg (by rw [this]; simp [cmpV_cmp.refl])]
          exact ih y
        · have h2 : cmpV b a ≠ 0 := fun e => h ((cmpV_cmp.eq _ _).2 ((cmpV_cmp.eq _ _).1 e).symm)
          rw [if_pos h, if_pos h2]
          exact cmpV_cmp.anti _ _
  · intro x
    induction x with
    | nil =>
      intro y z h1 h2
      cases z with
      | nil => cases y <;> simp [cmpR] at h2
      | cons => simp [cmpR]
    | cons a x ih =>
      intro y z h1 h2
      cases y with
      | nil => simp [cmpR] at h1
      | cons b y =>
        cases z with
        | nil => simp [cmpR] at h2
        | cons c z =>
          unfold cmpR at h1 h2 ⊢
          by_cases e1 : cmpV a b = 0
          · rw [if_neg (by simp [e1])] at h1
            have q := (cmpV_cmp.eq _ _).1 e1
            rw [q]
            by_cases e2 : cmpV b c = 0
            · rw [if_neg (by simp [e2])] at h2 ⊢
              exact ih y z h1 h2
            · rw [if_pos e2] at h2 ⊢
              exact h2
          · rw [if_pos e1] at h1
            by_cases e2 : cmpV b c = 0
            · have q := (cmpV_cmp.eq _ _).1 e2
              rw [← q, if_pos e1]
              exact h1
            · rw [if_pos e2] at h2
              have := cmpV_cmp.trans _ _ _ h1 h2
              rw [if_pos (by omega)]
              exact this
  · intro x
    induction x with
    | nil => intro y; cases y <;> simp [cmpR]
    | cons a x ih =>
      intro y
      cases y with
      | nil => simp [cmpR]
      | cons b y =>
        unfold cmpR
        split
        · exact cmpV_cmp.bd _ _
        · exact ih y

theorem cmpR_left {l r : List ValD} {i : Nat} (hi : i < l.length) (hr : r.length ≤ i) : cmpR (l.drop i) (r.drop i) = 1 := by
  rw [List.drop_eq_getElem_cons hi, List.drop_of_length_le hr]; rfl
theorem cmpR_both {l r : List ValD} {i : Nat} (hi : i < l.length) (hr : i < r.length) : cmpR (l.drop i) (r.drop i) = if cmpV l[i] r[i] ≠ 0 then cmpV l[i] r[i] else cmpR (l.drop (i + 1)) (r.drop (i + 1)) := by
  rw [List.drop_eq_getElem_cons hi, List.drop_eq_getElem_cons hr]; rfl

/-! ### deltas -/
abbrev Key : Type := Int × List ValD
abbrev DeltaD.key (x : DeltaD) : Key := (x.time, x.row)
def cmpK (x y : Key) : Int := lex cmpI cmpR x y
theorem cmpK_cmp : Cmp cmpK := lex_cmp cmpI_cmp cmpR_cmp
abbrev cmpDL (x y : DeltaD) : List Int := [cmpI x.time y.time, cmpR x.row y.row]
def cmpD (x y : DeltaD) : Int := orI (cmpDL x y)
theorem cmpD_key (x y : DeltaD) : cmpD x y = cmpK x.key y.key := by
  unfold cmpD cmpDL cmpK lex
  rw [orI_two]
theorem delta_ext {x y : DeltaD} (h1 : x.key = y.key) (h2 : x.n = y.n) : x = y := by
  cases x; cases y
  simp only [DeltaD.key, Prod.mk.injEq] at h1
  simp only at h2
  obtain ⟨rfl, rfl⟩ := h1
  subst h2
  rfl

end Go.Proofs.YtjlfpkgjcffilaaGreatDoor
end

/-
  Consolidated lists of deltas (in plain Lean).
-/
section
set_option linter.unusedVariables false
set_option linter.unusedSimpArgs false
namespace Go.Proofs.YtjlfpkgjcffilaaGreatDoor
open Go.Vc

/-! ### sums that wrap round -/
abbrev w64 (x : Int) : Int := IntKind.i64.wrap x
theorem w64_eq (x : Int) : w64 x = if 9223372036854775808 ≤ x % 18446744073709551616 then x % 18446744073709551616 - 18446744073709551616 else x % 18446744073709551616 := by
  simp [w64, IntKind.wrap, IntKind.signed, IntKind.bits]
theorem w64_in (x : Int) : I64 (w64 x) := by rw [w64_eq]; unfold I64; split <;> omega
theorem w64_id {x : Int} (h : I64 x) : w64 x = x := by rw [w64_eq]; unfold I64 at h; split <;> omega
theorem w64_mod (x : Int) : (w64 x - x) % 18446744073709551616 = 0 := by rw [w64_eq]; split <;> omega
theorem w64_cong {x y : Int} (h : (x - y) % 18446744073709551616 = 0) : w64 x = w64 y := by
  rw [w64_eq, w64_eq]
  have : x % 18446744073709551616 = y % 18446744073709551616 := by omega
  rw [this]
theorem w64_l (x y : Int) : w64 (w64 x + y) = w64 (x + y) := w64_cong (by have := w64_mod x; omega)
theorem w64_r (x y : Int) : w64 (x + w64 y) = w64 (x + y) := w64_cong (by have := w64_mod y; omega)
theorem w64_w (x : Int) : w64 (w64 x) = w64 x := w64_id (w64_in x)

/-- how often something is there, before it wraps round -/
def sumK : List DeltaD → Key → Int
  | [], _ => 0
  | x :: l, k => (if x.key = k then x.n else 0) + sumK l k

def findP (l : List DeltaD) (k : Key) : Int := w64 (sumK l k)

theorem sumK_app : ∀ (a b : List DeltaD) (k : Key), sumK (a ++ b) k = sumK a k + sumK b k
  | [], b, k => by simp [sumK]
  | x :: a, b, k => by simp only [List.cons_append, sumK, sumK_app a b k]; omega

theorem sumK_perm {a b : List DeltaD} (h : a.Perm b) (k : Key) : sumK a k = sumK b k := by
  induction h with
  | nil => rfl
  | cons x _ ih => simp only [sumK, ih]
  | swap x y l => simp only [sumK]; omega
  | trans _ _ h1 h2 => exact h1.trans h2

theorem findP_perm {a b : List DeltaD} (h : a.Perm b) (k : Key) : findP a k = findP b k := by unfold findP; rw [sumK_perm h]

theorem sumK_none {l : List DeltaD} {k : Key} (h : ∀ x ∈ l, x.key ≠ k) : sumK l k = 0 := by
  induction l with
  | nil => rfl
  | cons x l ih =>
    simp only [sumK]
    rw [if_neg (h x (by simp)), ih fun y hy => h y (by simp [hy])]
    rfl

/-! ### the consolidated form -/
structure Norm (c : List DeltaD) : Prop where
  asc : c.Pairwise fun x y => cmpD x y < 0
  nz : ∀ x ∈ c, x.n ≠ 0
  i64 : ∀ x ∈ c, I64 x.n

theorem Norm.nil : Norm [] := ⟨List.Pairwise.nil, by simp, by simp⟩
theorem Norm.tail {x : DeltaD} {c : List DeltaD} (h : Norm (x :: c)) : Norm c := ⟨(List.pairwise_cons.1 h.asc).2, fun y hy => h.nz y (by simp [hy]), fun y hy => h.i64 y (by simp [hy])⟩
theorem Norm.head {x : DeltaD} {c : List DeltaD} (h : Norm (x :: c)) : ∀ y ∈ c, cmpK x.key y.key < 0 := fun y hy => by
  rw [← cmpD_key]; exact (List.pairwise_cons.1 h.asc).1 y hy
theorem Norm.cons {x : DeltaD} {c : List DeltaD} (h : Norm c) (h1 : ∀ y ∈ c, cmpK x.key y.key < 0) (h2 : x.n ≠ 0) (h3 : I64 x.n) : Norm (x :: c) :=
  ⟨List.pairwise_cons.2 ⟨fun y hy => by rw [cmpD_key]; exact h1 y hy, h.asc⟩, fun y hy => by rcases List.mem_cons.1 hy with rfl | hy; exact h2; exact h.nz y hy, fun y hy => by rcases List.mem_cons.1 hy with rfl | hy; exact h3; exact h.i64 y hy⟩

theorem Norm.head_ne {x : DeltaD} {c : List DeltaD} (h : Norm (x :: c)) : ∀ y ∈ c, y.key ≠ x.key := fun y hy e => by
  have := h.head y hy
  rw [e, cmpK_cmp.refl] at this
  omega

theorem Norm.find_head {x : DeltaD} {c : List DeltaD} (h : Norm (x :: c)) : findP (x :: c) x.key = x.n := by
  unfold findP
  rw [show sumK (x :: c) x.key = (if x.key = x.key then x.n else 0) + sumK c x.key from rfl, if_pos rfl, sumK_none h.head_ne, Int.add_zero]
  exact w64_id (h.i64 x (by simp))

/-- there is one consolidated list alone for what is there -/
theorem norm_unique : ∀ {c d : List DeltaD}, Norm c → Norm d → (∀ k, findP c k = findP d k) → c = d := by
  have none : ∀ {c : List DeltaD} {x : DeltaD} {l : List DeltaD}, Norm (x :: l) → (∀ y ∈ c, y.key ≠ x.key) → findP (x :: l) x.key = findP c x.key → False := fun {c x l} h hc e => by
    rw [h.find_head] at e
    unfold findP at e
    rw [sumK_none hc] at e
    exact h.nz x (by simp) e
  intro c
  induction c with
  | nil =>
    intro d _ hd h
    cases d with
    | nil => rfl
    | cons y d => exact (none (c := []) hd (by simp) (h _).symm).elim
  | cons x c ih =>
    intro d hc hd h
    cases d with
    | nil => exact (none (c := []) hc (by simp) (h _)).elim
    | cons y d =>
      rcases cmpK_cmp.tri x.key y.key with hlt | he | hgt
      · refine (none (c := y :: d) hc (fun z hz e => ?_) (h _)).elim
        rcases List.mem_cons.1 hz with rfl | hz
        · rw [e, cmpK_cmp.refl] at hlt; omega
        · have := cmpK_cmp.trans _ _ _ hlt (hd.head z hz)
          rw [e, cmpK_cmp.refl] at this; omega
      · have hn : x.n = y.n := by rw [← hc.find_head, ← hd.find_head, ← he, h]
        have hxy : x = y := delta_ext he hn
        subst hxy
        congr 1
        refine ih hc.tail hd.tail fun k => ?_
        by_cases hk : x.key = k
        · subst hk
          unfold findP
          rw [sumK_none hc.head_ne, sumK_none hd.head_ne]
        · have := h k
          unfold findP at this ⊢
          simp only [sumK] at this
          rwa [if_neg hk, Int.zero_add, Int.zero_add] at this
      · refine (none (c := x :: c) hd (fun z hz e => ?_) (h _).symm).elim
        rcases List.mem_cons.1 hz with rfl | hz
        · rw [e, cmpK_cmp.refl] at hgt; omega
        · have := cmpK_cmp.trans _ _ _ hgt (hc.head z hz)
          rw [e, cmpK_cmp.refl] at this; omega

/-- one more element -/
def insD (x : DeltaD) : List DeltaD → List DeltaD
  | [] => if w64 x.n = 0 then [] else [⟨x.time, x.row, w64 x.n⟩]
  | y :: t => if cmpD x y < 0 then (if w64 x.n = 0 then y :: t else ⟨x.time, x.row, w64 x.n⟩ :: y :: t)
      else if cmpD x y = 0 then (if w64 (x.n + y.n) = 0 then t else ⟨y.time, y.row, w64 (x.n + y.n)⟩ :: t)
      else y :: insD x t

theorem insD_key (x : DeltaD) : ∀ (c : List DeltaD), ∀ z ∈ insD x c, z.key = x.key ∨ ∃ y ∈ c, y.key = z.key := by
  intro c
  induction c with
  | nil =>
    intro z hz
    unfold insD at hz
    split at hz
    · cases hz
    · rcases List.mem_singleton.1 hz with rfl; exact .inl rfl
  | cons y t ih =>
    intro z hz
    unfold insD at hz
    split at hz
    · split at hz
      · exact .inr ⟨z, hz, rfl⟩
      · rcases List.mem_cons.1 hz with rfl | hz
        · exact .inl rfl
        · exact .inr ⟨z, hz, rfl⟩
    · split at hz
      · split at hz
        · exact .inr ⟨z, by simp [hz], rfl⟩
        · rcases List.mem_cons.1 hz with rfl | hz
          · exact .inr ⟨y, by simp, rfl⟩
          · exact .inr ⟨z, by simp [hz], rfl⟩
      · rcases List.mem_cons.1 hz with rfl | hz
        · exact .inr ⟨z, by simp, rfl⟩
        · rcases ih z hz with h | ⟨y', hy, h⟩
          · exact .inl h
          · exact .inr ⟨y', by simp [hy], h⟩

theorem insD_norm (x : DeltaD) : ∀ {c : List DeltaD}, Norm c → Norm (insD x c) ∧ ∀ k, findP (insD x c) k = findP (x :: c) k := by
  intro c
  induction c with
  | nil =>
    intro _
    unfold insD
    split
    · rename_i h
      refine ⟨Norm.nil, fun k => ?_⟩
      unfold findP
      simp only [sumK]
      split
      · rw [Int.add_zero, h]; rfl
      · rfl
    · rename_i h
      refine ⟨Norm.nil.cons (by simp) h (w64_in _), fun k => ?_⟩
      unfold findP
      simp only [sumK]
      by_cases hk : x.key = k
      · rw [if_pos hk, if_pos (show (⟨x.time, x.row, w64 x.n⟩ : DeltaD).key = k from hk), Int.add_zero, Int.add_zero, w64_w]
      · rw [if_neg hk, if_neg (show ¬ (⟨x.time, x.row, w64 x.n⟩ : DeltaD).key = k from hk)]
  | cons y t ih =>
    intro h
    unfold insD
    by_cases h1 : cmpD x y < 0
    · rw [if_pos h1]
      have hlt : ∀ z ∈ y :: t, cmpK x.key z.key < 0 := fun z hz => by
        rw [cmpD_key] at h1
        rcases List.mem_cons.1 hz with rfl | hz
        · exact h1
        · exact cmpK_cmp.trans _ _ _ h1 (h.head z hz)
      split
      · rename_i hz
        refine ⟨h, fun k => ?_⟩
        unfold findP
        rw [show sumK (x :: y :: t) k = (if x.key = k then x.n else 0) + sumK (y :: t) k from rfl]
        split
        · rw [← w64_l, hz, Int.zero_add]
        · rw [Int.zero_add]
      · rename_i hz
        refine ⟨h.cons hlt hz (w64_in _), fun k => ?_⟩
        unfold findP
        rw [show sumK (x :: y :: t) k = (if x.key = k then x.n else 0) + sumK (y :: t) k from rfl,
          show sumK (⟨x.time, x.row, w64 x.n⟩ :: y :: t) k = (if x.key = k then w64 x.n else 0) + sumK (y :: t) k from rfl]
        split
        · rw [w64_l]
        · rfl
    · rw [if_neg h1]
      by_cases h2 : cmpD x y = 0
      · rw [if_pos h2]
        have hk : x.key = y.key := by rw [cmpD_key] at h2; exact (cmpK_cmp.eq _ _).1 h2
        split
        · rename_i hz
          refine ⟨h.tail, fun k => ?_⟩
          unfold findP
          rw [show sumK (x :: y :: t) k = (if x.key = k then x.n else 0) + ((if y.key = k then y.n else 0) + sumK t k) from rfl, hk]
          split
          · rw [← Int.add_assoc, ← w64_l, hz, Int.zero_add]
          · rw [Int.zero_add, Int.zero_add]
        · rename_i hz
          refine ⟨h.tail.cons (fun z hz' => h.head z hz') hz (w64_in _), fun k => ?_⟩
          unfold findP
          rw [show sumK (x :: y :: t) k = (if x.key = k then x.n else 0) + ((if y.key = k then y.n else 0) + sumK t k) from rfl, hk,
            show sumK (⟨y.time, y.row, w64 (x.n + y.n)⟩ :: t) k = (if y.key = k then w64 (x.n + y.n) else 0) + sumK t k from rfl]
          split
          · rw [w64_l, Int.add_assoc]
          · simp only [Int.zero_add]
      · rw [if_neg h2]
        obtain ⟨ih1, ih2⟩ := ih h.tail
        have hgt : cmpK y.key x.key < 0 := by
          rw [cmpD_key] at h1 h2
          exact (cmpK_cmp.anti _ _).1 (by omega)
        refine ⟨ih1.cons (fun z hz => ?_) (h.nz y (by simp)) (h.i64 y (by simp)), fun k => ?_⟩
        · rcases insD_key x t z hz with e | ⟨y', hy', e⟩
          · rw [e]; exact hgt
          · rw [← e]; exact h.head y' hy'
        · have := ih2 k
          unfold findP at this ⊢
          rw [show sumK (y :: insD x t) k = (if y.key = k then y.n else 0) + sumK (insD x t) k from rfl, show sumK (x :: y :: t) k = (if x.key = k then x.n else 0) + ((if y.key = k then y.n else 0) + sumK t k) from rfl, ← w64_r, this, w64_r]
          rw [show sumK (x :: t) k = (if x.key = k then x.n else 0) + sumK t k from rfl]
          congr 1
          omega

/-- the consolidated list of what is there -/
def consP (l : List DeltaD) : List DeltaD := l.foldr insD []

theorem consP_norm (l : List DeltaD) : Norm (consP l) ∧ ∀ k, findP (consP l) k = findP l k := by
  induction l with
  | nil => exact ⟨Norm.nil, fun k => rfl⟩
  | cons x l ih =>
    obtain ⟨h1, h2⟩ := insD_norm x ih.1
    refine ⟨h1, fun k => ?_⟩
    show findP (insD x (consP l)) k = _
    rw [h2]
    have := ih.2 k
    unfold findP at this ⊢
    rw [show sumK (x :: consP l) k = (if x.key = k then x.n else 0) + sumK (consP l) k from rfl, show sumK (x :: l) k = (if x.key = k then x.n else 0) + sumK l k from rfl, ← w64_r, this, w64_r]

theorem consP_is {l c : List DeltaD} (h : Norm c) (hf : ∀ k, findP c k = findP l k) : consP l = c :=
  norm_unique (consP_norm l).1 h fun k => by rw [(consP_norm l).2, hf]
end Go.Proofs.YtjlfpkgjcffilaaGreatDoor
end

/-
  Deltas as they lie in memory.
-/
section
set_option linter.unusedVariables false
set_option linter.unusedSimpArgs false
namespace Go.Proofs.YtjlfpkgjcffilaaGreatDoor
open Go.Vc

abbrev DeltaD.v (x : DeltaD) (p : Option Addr) (c : Nat) : Value := .agg #[.int .i64 x.time, .slice p x.row.length c, .int .i64 x.n]
abbrev DeltaD.cells (x : DeltaD) (p : Option Addr) (c : Nat) : List Value := [.int .i64 x.time, .slice p x.row.length c, .int .i64 x.n]

theorem delta_cells {M : List Nat} {w : World} {cs : List Value} {x : DeltaD} (h : Gv.rep M w cs x) : ∃ p c, cs = x.cells p c ∧ x.row.length ≤ c ∧ c ≤ maxLen ∧ I64 x.time ∧ I64 x.n ∧ Sl M w p x.row := by
  obtain ⟨_, _, rfl, ⟨rfl, ht⟩, _, _, rfl, ⟨p, c, rfl, h1, h2, h3⟩, rfl, hn⟩ := h
  exact ⟨p, c, rfl, h1, h2, ht, hn, h3⟩

/-- a delta, and where its row lies -/
structure DE where
  d : DeltaD
  p : Option Addr
  c : Nat
abbrev DE.cells (x : DE) : List Value := x.d.cells x.p x.c
abbrev DE.v (x : DE) : Value := x.d.v x.p x.c

/-- what the elements are -/
def EPhi (es : List DE) : PW := fun M w => ∀ x ∈ es, Gv.rep M w x.cells x.d
instance instStableEPhi (es : List DE) : Stable (EPhi es) := ⟨fun hs h x hx => Gv.stable hs (h x hx)⟩

end Go.Proofs.YtjlfpkgjcffilaaGreatDoor
end

/-
  The sort's steps over deltas: swapRange, rotate.
-/
section
set_option linter.unusedVariables false
set_option linter.unusedSimpArgs false
namespace Go.Proofs.YtjlfpkgjcffilaaGreatDoor
open Go.Vc


/-! ### swapRange -/
end Go.Proofs.YtjlfpkgjcffilaaGreatDoor
end

/-
  The sort's steps over deltas: rotate, insertionSort.
-/
section
set_option linter.unusedVariables false
set_option linter.unusedSimpArgs false
namespace Go.Proofs.YtjlfpkgjcffilaaGreatDoor
open Go.Vc


/-! ### rotate -/
/-! ### the order -/
/-! ### insertionSort -/
end Go.Proofs.YtjlfpkgjcffilaaGreatDoor
end

/-
  The sort's steps over deltas: symMerge.
-/
section
set_option linter.unusedVariables false
set_option linter.unusedSimpArgs false
namespace Go.Proofs.YtjlfpkgjcffilaaGreatDoor
open Go.Vc


/-! ### one element into those behind it -/
/-! ### one element into those ahead of it -/
end Go.Proofs.YtjlfpkgjcffilaaGreatDoor
end

/-
  The sort's steps over deltas: symMerge, whole.
-/
section
set_option linter.unusedVariables false
set_option linter.unusedSimpArgs false
namespace Go.Proofs.YtjlfpkgjcffilaaGreatDoor
open Go.Vc


end Go.Proofs.YtjlfpkgjcffilaaGreatDoor
end

/-
  The stable sort of deltas.
-/
section
set_option linter.unusedVariables false
set_option linter.unusedSimpArgs false
namespace Go.Proofs.YtjlfpkgjcffilaaGreatDoor
open Go.Vc


end Go.Proofs.YtjlfpkgjcffilaaGreatDoor
end

/-
  THE ROW, out of a contract over owned worlds.
-/
section
set_option linter.unusedVariables false
set_option linter.unusedSimpArgs false
namespace Go.Vc
open Go.ChangeShapes Go.WideShapes Go.RowKit

section
variable {H : Type} {enc : TypeId × Value → H} {P : Program} {W : World}

/-- what came in is plain data -/
theorem open_gv {α : Type} [Gv α] (d : Nat) {t : TypeId} {v : Value} {x : DataW H} {ps : List MemPlace} (hty : Ty.is P d (Gv.ty α) t = true) (h : DataW.Trod enc P W 0 (fun _ => true) true t v x ps) : ∃ y : α, Gv.rep [] W v.cells.toList y := by
  obtain ⟨fuel, h⟩ := h
  exact Gv.opens.ap hty h

/-- .. a slice -/
theorem open_sl {α : Type} [Gv α] (d : Nat) {t e : TypeId} {v : Value} {r : Reach} {base : Nat} {x : DataW H} {ps : List MemPlace} (ht : P.underlying t = some (.slice e)) (hv : Value.okWide P W r base t v) (hty : Ty.is P d (Gv.ty (List α)) t = true)
    (h : DataW.Trod enc P W 0 (fun _ => true) true t v x ps) : ∃ (p : Option Addr) (cap : Nat) (l : List α), v = .slice p l.length cap ∧ l.length ≤ cap ∧ cap ≤ maxLen ∧ Sl [] W p l := by
  obtain ⟨a, len, cap, rfl⟩ := okWide_slice ht hv
  obtain ⟨l, hl⟩ := open_gv (α := List α) d hty h
  obtain ⟨p, c, e, h1, h2, h3⟩ := rep_list.1 hl
  simp only [Value.cells, List.cons.injEq, Value.slice.injEq, and_true] at e
  obtain ⟨rfl, rfl, rfl⟩ := e
  exact ⟨a, cap, l, rfl, h1, h2, h3⟩

/-- from a contract that knows what came in -/
theorem GivesIn.law {Φ : PW} {f : FuncId} {args : Array Value} (h : GivesIn Φ P f args (.bool true)) (h0 : Φ [] W) : Calls P f args W fun e W' => ∃ u, e = .returned u ∧ (u = .bool true ∧ Chg [] W W') :=
  (h.go W W [] (Ctx.start W h0)).mono fun e w' ⟨h1, h2⟩ => ⟨_, h1, rfl, h2.chg⟩

end

end Go.Vc
end

/-
  The walks of the comparisons of values, rows and deltas; of Clone.
-/
section
set_option linter.unusedVariables false
set_option linter.unusedSimpArgs false
namespace Go.Proofs.YtjlfpkgjcffilaaGreatDoor
open Go.Vc


theorem sl_val {M : List Nat} {w : World} {b o : Nat} {l : List ValD} (h : Sl M w (some ⟨b, o, none⟩) l) {i : Nat} (hi : i < l.length) : RowAt w b (o + i * 3) [.int .i64 l[i].kind, .int .i64 l[i].num, .string l[i].text] := by
  obtain ⟨b', o', cs, e, _, h3, _, _, rfl, ⟨rfl, _⟩, _, _, rfl, ⟨rfl, _⟩, rfl, _⟩ := h i hi
  cases e
  exact h3

theorem sl_int {M : List Nat} {w : World} {b o : Nat} {l : List Int} (h : Sl M w (some ⟨b, o, none⟩) l) {i : Nat} (hi : i < l.length) : w.cell? ⟨b, o + i, none⟩ = some (.int .i64 l[i]) := by
  obtain ⟨b', o', cs, e, _, h3, rfl, _⟩ := h i hi
  cases e
  have := h3 0 (by simp)
  simpa [show (Gv.ty Int).size = 1 from rfl] using this

/-! ### deltas -/
end Go.Proofs.YtjlfpkgjcffilaaGreatDoor
end

/-
  STRINGS.BUILDER over what a walk owns; tables that a row lays; rows with laid tables; the decimal form of ints.
-/
section
set_option linter.unusedVariables false
set_option linter.unusedSimpArgs false
namespace Go.Vc
open Go.RowKit Go.Shelf

section
variable {P : Program} {W w w' : World} {S R F : List Own} {Φ Ψ : PW}

/-- what is owned changes, and is owned no more -/
theorem Ctx.lose [Stable Φ] (c : Ctx W w (R ++ S) Φ) (h : Chg (dom R) w w') : Ctx W w' S Φ := by
  have hn := c.nodup
  rw [dom_app, List.nodup_append] at hn
  refine c.go ⟨h.mono fun x hx => by rw [dom_app]; exact List.mem_append_left _ hx, fun b hb => .inl (by rw [dom_app]; exact List.mem_append_right _ hb)⟩ (fun o ho => ?_) hn.2.1
  exact Own.at_keep (c.own o (List.mem_append_right _ ho)) fun b hb => h.block b (c.lt (mem_dom (List.mem_append_right _ ho) hb)) fun hm => hn.2.2 b hm b (mem_dom ho hb) rfl

/-- a strings.Builder (of type T, in block b) that holds these bytes (of type e) -/
def Bd (T e : TypeId) (b : Nat) (l : List UInt8) (R : List Own) : Prop :=
  ∃ (pa : Value) (p : Option Addr) (cap : Nat), (pa = .pointer none ∨ pa = .pointer (some ⟨b, 0, none⟩)) ∧ R = [.blk b [pa, .slice p l.length cap] T, .buf p l.length cap (Lib.byteCells l) e 1]

theorem Bd.fresh [Stable Φ] {T e : TypeId} {b : Nat} (c : Ctx W w (.blk b [.pointer none, .slice none 0 0] T :: S) Φ) : Ctx W w ([.blk b [.pointer none, .slice none 0 0] T, .buf none 0 0 [] e 1] ++ S) Φ :=
  ((c.buf0 e 1).perm (List.Perm.swap _ _ _))
theorem Bd.nil {T e : TypeId} {b : Nat} : Bd T e b [] [.blk b [.pointer none, .slice none 0 0] T, .buf none 0 0 [] e 1] := ⟨.pointer none, none, 0, .inl rfl, rfl⟩

end

/-! ### String -/
section
open Go.Proofs
variable {P : Program} {ρ : Ren}

theorem chg_freeze {a w : World} {D : List Nat} (h : Chg D a w) {p : Addr} (hp : p.block ∈ D) (n : Nat) : Chg D a (w.freeze p n) := by
  refine h.trans (T := D) ?_ (fun x hx => .inl hx)
  unfold World.freeze
  split
  · exact Chg.refl _ _
  · refine ⟨rfl, rfl, rfl, by simp, fun k hk hn => ?_⟩
    simp only [Array.getElem?_modify]
    rw [if_neg (fun e => hn (by rw [← e]; exact hp))]

set_option maxHeartbeats 1000000 in
set_option maxRecDepth 100000 in
theorem builder_String_some (L : Lays.n169 P ρ) (X : Builder.Extra P ρ) (b g cap : Nat) (pa : Value) (l : List UInt8) (w : World) (h0 : l ≠ []) (hbk : w.heap[b]? = some (.cells #[pa, .slice (some ⟨g, 0, none⟩) l.length cap] (ρ.t 72) (0, 0)))
    (hown : w.ownsRow 0 (ρ.t 5) 1 (.slice (some ⟨g, 0, none⟩) l.length cap) l.length (Lib.byteCells l)) :
    Calls P (ρ.f 169) #[.pointer (some ⟨b, 0, none⟩)] w fun e w' => e = .returned (.string ⟨l.toArray⟩) ∧ Chg [g] w w' := by
  have hl0 : l.length ≠ 0 := by simpa using h0
  obtain ⟨cur, hg, hnc, hcm, hcs, htake⟩ : ∃ cur, w.heap[g]? = some (.cells cur (ρ.t 5) (0, 0)) ∧ l.length ≤ cap ∧ cap ≤ maxLen ∧ cur.size = cap * 1 ∧ cur.toList.take (l.length * 1) = Lib.byteCells l := by
    rcases hown.2 with ⟨hv, _⟩ | ⟨g', cap', cur, hv, _, r⟩
    · cases hv
    · cases hv; exact ⟨cur, r⟩
  have c1 : w.drew.cell? ⟨b, 1, none⟩ = some (.slice (some ⟨g, 0, none⟩) l.length cap) := by
    have : w.drew.heap[b]? = some (.cells #[pa, .slice (some ⟨g, 0, none⟩) l.length cap] (ρ.t 72) (0, 0)) := hbk
    rw [Lib.cell_of_heap this]; rfl
  have hSD : (Builtin.unsafeSliceData_ #[(ρ.t 37)] (ρ.t 127) #[.slice (some ⟨g, 0, none⟩) l.length cap]).run P w.drew = .ok (.pointer (some ⟨g, 0, none⟩)) w.drew :=
    Lib.run_unsafeSliceData_row _ _ _ _ _ _ (by omega)
  have hUS : (Builtin.unsafeString_ #[(ρ.t 127), (ρ.t 3)] (ρ.t 9) #[.pointer (some ⟨g, 0, none⟩), .int .i64 l.length]).run P w.drew = .ok (.string ⟨l.toArray⟩) (w.drew.freeze ⟨g, 0, none⟩ l.length) := by
    refine Lib.run_unsafeString_row w.drew (ρ.t 127) (ρ.t 3) (ρ.t 9) (ρ.t 5) L.t127 X.cellsByte g cur.size (by have hg' : w.drew.heap[g]? = some (.cells cur (ρ.t 5) (0, 0)) := hg; simp [World.shape?, hg']) l h0 (by omega) (by unfold maxLen at hcm; omega) ?_
    intro j x hx
    have := hown.cells (g := g) rfl j (.int .u8 x.toNat) (by simp [Lib.byteCells, hx])
    exact this
  have mixed := L.mixed
  have t72 := L.t72; have a72 := L.a72; have z72 := L.z72; have v72 := L.v72; have u72 := run_underlying L.t72
  have t70 := L.t70; have a70 := L.a70; have z70 := L.z70; have v70 := L.v70; have u70 := run_underlying L.t70
  have t37 := L.t37; have a37 := L.a37; have z37 := L.z37; have v37 := L.v37; have u37 := run_underlying L.t37
  have t127 := L.t127; have a127 := L.a127; have z127 := L.z127; have v127 := L.v127; have u127 := run_underlying L.t127
  have t3 := L.t3; have a3 := L.a3; have z3 := L.z3; have v3 := L.v3; have u3 := run_underlying L.t3
  have t9 := L.t9; have a9 := L.a9; have z9 := L.z9; have v9 := L.v9; have u9 := run_underlying L.t9
  have t5 := X.t5; have a5 := X.a5; have z5 := X.z5; have v5 := X.v5; have u5 := run_underlying X.t5
  go_enter L.f169, Body.n169_ntmps ρ
  go_wp2
  go_region_o
  all_goals (go_wp2; go_ret; exact ⟨rfl, chg_freeze ((Chg.refl _ _).drewN 1) (p := ⟨g, 0, none⟩) (by simp) _⟩)

set_option maxHeartbeats 2000000 in
set_option maxRecDepth 100000 in
theorem builder_String_nil (L : Lays.n169 P ρ) (X : Builder.Extra P ρ) (b : Nat) (p : Value) (w : World) (hbk : w.heap[b]? = some (.cells #[p, .slice none 0 0] (ρ.t 72) (0, 0))) :
    Calls P (ρ.f 169) #[.pointer (some ⟨b, 0, none⟩)] w fun e w' => e = .returned (.string ⟨#[]⟩) ∧ Chg [] w w' := by
  have hUS := Any.unsafeString_none L X
  have c1 : w.drew.cell? ⟨b, 1, none⟩ = some (.slice none 0 0) := by
    have : w.drew.heap[b]? = some (.cells #[p, .slice none 0 0] (ρ.t 72) (0, 0)) := hbk
    rw [Lib.cell_of_heap this]; rfl
  have hSD : (Builtin.unsafeSliceData_ #[(ρ.t 37)] (ρ.t 127) #[.slice none 0 0]).run P w.drew = .ok (.pointer none) w.drew := rfl
  have mixed := L.mixed
  have t72 := L.t72; have a72 := L.a72; have z72 := L.z72; have v72 := L.v72; have u72 := run_underlying L.t72
  have t70 := L.t70; have a70 := L.a70; have z70 := L.z70; have v70 := L.v70; have u70 := run_underlying L.t70
  have t37 := L.t37; have a37 := L.a37; have z37 := L.z37; have v37 := L.v37; have u37 := run_underlying L.t37
  have t127 := L.t127; have a127 := L.a127; have z127 := L.z127; have v127 := L.v127; have u127 := run_underlying L.t127
  have t3 := L.t3; have a3 := L.a3; have z3 := L.z3; have v3 := L.v3; have u3 := run_underlying L.t3
  have t9 := L.t9; have a9 := L.a9; have z9 := L.z9; have v9 := L.v9; have u9 := run_underlying L.t9
  have t5 := X.t5; have a5 := X.a5; have z5 := X.z5; have v5 := X.v5; have u5 := run_underlying X.t5
  go_enter L.f169, Body.n169_ntmps ρ
  go_wp2
  go_region_o
  all_goals (go_wp2; go_ret; exact ⟨rfl, (Chg.refl _ _).drewN 1⟩)

set_option maxHeartbeats 2000000 in
set_option maxRecDepth 100000 in
theorem builder_String_noroom (L : Lays.n169 P ρ) (X : Builder.Extra P ρ) (b g : Nat) (p : Value) (cur : Array Value) (w : World) (hbk : w.heap[b]? = some (.cells #[p, .slice (some ⟨g, 0, none⟩) 0 0] (ρ.t 72) (0, 0))) (hg : w.heap[g]? = some (.cells cur (ρ.t 5) (0, 0))) :
    Calls P (ρ.f 169) #[.pointer (some ⟨b, 0, none⟩)] w fun e w' => e = .returned (.string ⟨#[]⟩) ∧ Chg [] w w' := by
  have hUS := Any.unsafeString_none L X
  have hlt : b < w.heap.size := by
    rcases Nat.lt_or_ge b w.heap.size with h' | h'
    · exact h'
    · simp [Array.getElem?_eq_none h'] at hbk
  have c1 : w.drew.cell? ⟨b, 1, none⟩ = some (.slice (some ⟨g, 0, none⟩) 0 0) := by
    have : w.drew.heap[b]? = some (.cells #[p, .slice (some ⟨g, 0, none⟩) 0 0] (ρ.t 72) (0, 0)) := hbk
    rw [Lib.cell_of_heap this]; rfl
  have hSD : (Builtin.unsafeSliceData_ #[(ρ.t 37)] (ρ.t 127) #[.slice (some ⟨g, 0, none⟩) 0 0]).run P w.drew = .ok (.pointer (some ⟨w.drew.heap.size, 0, none⟩)) (w.drew.alloc (.view ⟨g, 0, none⟩ (ρ.t 5))) :=
    Lib.run_unsafeSliceData_zero w.drew _ _ (ρ.t 5) L.t127 ⟨g, 0, none⟩ 0 ((ρ.t 5), cur.size) (by have hg' : w.drew.heap[g]? = some (.cells cur (ρ.t 5) (0, 0)) := hg; simp [World.shape?, hg'])
  have c2 : (w.drew.alloc (.view ⟨g, 0, none⟩ (ρ.t 5))).cell? ⟨b, 1, none⟩ = some (.slice (some ⟨g, 0, none⟩) 0 0) := by
    have : (w.drew.alloc (.view ⟨g, 0, none⟩ (ρ.t 5))).heap[b]? = _ := (Lib.alloc_old w.drew _ b hlt).trans hbk
    rw [Lib.cell_of_heap this]; rfl
  have c3 : (w.alloc (.view ⟨g, 0, none⟩ (ρ.t 5))).drew.cell? ⟨b, 1, none⟩ = some (.slice (some ⟨g, 0, none⟩) 0 0) := c2
  have c0 : w.cell? ⟨b, 1, none⟩ = some (.slice (some ⟨g, 0, none⟩) 0 0) := c1
  have mixed := L.mixed
  have t72 := L.t72; have a72 := L.a72; have z72 := L.z72; have v72 := L.v72; have u72 := run_underlying L.t72
  have t70 := L.t70; have a70 := L.a70; have z70 := L.z70; have v70 := L.v70; have u70 := run_underlying L.t70
  have t37 := L.t37; have a37 := L.a37; have z37 := L.z37; have v37 := L.v37; have u37 := run_underlying L.t37
  have t127 := L.t127; have a127 := L.a127; have z127 := L.z127; have v127 := L.v127; have u127 := run_underlying L.t127
  have t3 := L.t3; have a3 := L.a3; have z3 := L.z3; have v3 := L.v3; have u3 := run_underlying L.t3
  have t9 := L.t9; have a9 := L.a9; have z9 := L.z9; have v9 := L.v9; have u9 := run_underlying L.t9
  have t5 := X.t5; have a5 := X.a5; have z5 := X.z5; have v5 := X.v5; have u5 := run_underlying X.t5
  go_enter L.f169, Body.n169_ntmps ρ
  go_wp2
  go_region_o
  all_goals (go_wp2; go_ret; exact ⟨rfl, ((Chg.refl _ _).drewN 1).alloc _⟩)

set_option maxHeartbeats 2000000 in
set_option maxRecDepth 100000 in
theorem builder_String_room (L : Lays.n169 P ρ) (X : Builder.Extra P ρ) (b g cap : Nat) (p : Value) (w : World) (hc0 : cap ≠ 0) (hbk : w.heap[b]? = some (.cells #[p, .slice (some ⟨g, 0, none⟩) 0 cap] (ρ.t 72) (0, 0))) :
    Calls P (ρ.f 169) #[.pointer (some ⟨b, 0, none⟩)] w fun e w' => e = .returned (.string ⟨#[]⟩) ∧ Chg [] w w' := by
  have hUS := Any.unsafeString_none L X
  have c1 : w.drew.cell? ⟨b, 1, none⟩ = some (.slice (some ⟨g, 0, none⟩) 0 cap) := by
    have : w.drew.heap[b]? = some (.cells #[p, .slice (some ⟨g, 0, none⟩) 0 cap] (ρ.t 72) (0, 0)) := hbk
    rw [Lib.cell_of_heap this]; rfl
  have hSD : (Builtin.unsafeSliceData_ #[(ρ.t 37)] (ρ.t 127) #[.slice (some ⟨g, 0, none⟩) 0 cap]).run P w.drew = .ok (.pointer (some ⟨g, 0, none⟩)) w.drew :=
    Lib.run_unsafeSliceData_row _ _ _ _ _ _ hc0
  clear hc0
  have mixed := L.mixed
  have t72 := L.t72; have a72 := L.a72; have z72 := L.z72; have v72 := L.v72; have u72 := run_underlying L.t72
  have t70 := L.t70; have a70 := L.a70; have z70 := L.z70; have v70 := L.v70; have u70 := run_underlying L.t70
  have t37 := L.t37; have a37 := L.a37; have z37 := L.z37; have v37 := L.v37; have u37 := run_underlying L.t37
  have t127 := L.t127; have a127 := L.a127; have z127 := L.z127; have v127 := L.v127; have u127 := run_underlying L.t127
  have t3 := L.t3; have a3 := L.a3; have z3 := L.z3; have v3 := L.v3; have u3 := run_underlying L.t3
  have t9 := L.t9; have a9 := L.a9; have z9 := L.z9; have v9 := L.v9; have u9 := run_underlying L.t9
  have t5 := X.t5; have a5 := X.a5; have z5 := X.z5; have v5 := X.v5; have u5 := run_underlying X.t5
  go_enter L.f169, Body.n169_ntmps ρ
  go_wp2
  go_region_o
  all_goals (go_wp2; go_ret; exact ⟨rfl, (Chg.refl _ _).drewN 1⟩)

/-- (*strings.Builder).String: the builder is given up -/
theorem Bd.string {W w : World} {S R : List Own} {Φ : PW} [Stable Φ] {b : Nat} {l : List UInt8} (L : Lays.n169 P ρ) (X : Builder.Extra P ρ) (h : Bd (ρ.t 72) (ρ.t 5) b l R) (c : Ctx W w (R ++ S) Φ) {K : Ending → World → Prop}
    (hk : ∀ w', Ctx W w' S Φ → K (.returned (.string ⟨l.toArray⟩)) w') : Calls P (ρ.f 169) #[.pointer (some ⟨b, 0, none⟩)] w K := by
  obtain ⟨pa, p, cap, hpa, rfl⟩ := h
  have hbk : w.heap[b]? = some (.cells #[pa, .slice p l.length cap] (ρ.t 72) (0, 0)) := c.blk 0 rfl
  have hown : w.ownsRow 0 (ρ.t 5) 1 (.slice p l.length cap) l.length (Lib.byteCells l) := c.own _ (List.mem_cons_of_mem _ List.mem_cons_self)
  by_cases h0 : l = []
  · subst h0
    rcases hown.2 with ⟨e, _⟩ | ⟨g, cap', cur, e, _, hg, _⟩
    · cases e
      exact (builder_String_nil L X b pa w hbk).mono fun e w' ⟨he, hc⟩ => by subst he; exact hk w' (c.lose (hc.mono (by simp)))
    · cases e
      by_cases hc0 : cap = 0
      · subst hc0
        exact (builder_String_noroom L X b g pa cur w hbk hg).mono fun e w' ⟨he, hc⟩ => by subst he; exact hk w' (c.lose (hc.mono (by simp)))
      · exact (builder_String_room L X b g cap pa w hc0 hbk).mono fun e w' ⟨he, hc⟩ => by subst he; exact hk w' (c.lose (hc.mono (by simp)))
  · have hl0 : l.length ≠ 0 := by simpa using h0
    obtain ⟨g, rfl⟩ : ∃ g, p = some ⟨g, 0, none⟩ := by
      rcases hown.2 with ⟨_, hz⟩ | ⟨g, cap', cur, hv, _⟩
      · exact absurd hz hl0
      · cases hv; exact ⟨g, rfl⟩
    exact (builder_String_some L X b g cap pa l w h0 hbk hown).mono fun e w' ⟨he, hc⟩ => by subst he; exact hk w' (c.lose (hc.mono (by simp [dom, Own.dom])))

end

/-! ### tables -/
/-- a table of the library's, in a block that nobody writes -/
def Tab (P : Program) (name : String) (k : IntKind) (zs : List Int) : PW := fun M w => Lib.TabIs P w name k zs ∧ ∀ g, P.globalNamed name = some g → g ∉ M

instance instStableTab (P : Program) (name : String) (k : IntKind) (zs : List Int) : Stable (Tab P name k zs) := ⟨fun {M M' w w'} hs h => by
  obtain ⟨h1, h2⟩ := h
  unfold Lib.TabIs World.var? at h1
  cases hg : P.globalNamed name with
  | none => simp [hg] at h1
  | some g =>
    simp only [hg, Option.bind_some] at h1
    have hlt : g < w.heap.size := by
      rcases Nat.lt_or_ge g w.heap.size with h' | h'
      · exact h'
      · rw [Array.getElem?_eq_none h'] at h1; simp at h1
    refine ⟨?_, fun g' hg' hm => ?_⟩
    · unfold Lib.TabIs World.var?
      simp only [hg, Option.bind_some]
      rw [hs.chg.block g hlt (h2 g hg)]
      exact h1
    · rw [hg] at hg'
      cases hg'
      rcases hs.sub g hm with h | h
      · exact h2 g hg h
      · omega⟩

theorem Tab.start {P : Program} {name : String} {k : IntKind} {zs : List Int} {w : World} (h : Lib.TabIs P w name k zs) : Tab P name k zs [] w := ⟨h, fun _ _ => by simp⟩

/-! ### rows with laid tables -/
open Go.ChangeShapes Go.WideShapes Go.ChangeAt

/-- the row: true, and what came in reads as it did; tables are laid -/
theorem lawTrueLaid {H : Type} {enc : TypeId × Value → H} {C : Checked} {os : Os} {f : FuncId} {fn : Func} {s : ChangeSpec} {conds : List PathCond} {apart fresh handsOn : Bool} {tb : TypeId} {ld : List (String × DataW Unit)}
    (own : ownKnob C.prog.godebug = none) (started : os.Started) (noInit : C.prog.inits.idxOf? f = none) (hfn : C.prog.funcs[f]? = some fn)
    (laid : laidOutB C.prog = true) (hvars : s.vars = []) (hspec : ∀ ds : List (DataW H), ds.length = fn.params.toList.length → (s.fn H (ds ++ [])).results = [.lit (.bool true)] ∧ (s.fn H (ds ++ [])).args = ds ∧ (s.fn H (ds ++ [])).vars = [])
    (hres : fn.resultTypes = #[tb]) (htb : C.prog.underlying tb = some .bool)
    (types : (fn.params.toList.all fun t => C.prog.readableRec t && decide (t < C.prog.types.size)) = true)
    (witness : ∃ (w : World) (tape : Tape) (i : Input), w.os = os ∧ (w.forCall tape i).Shaped C.prog ∧ i.vars = [] ∧ Input.okWide C.prog (w.forCall tape i) .any w.heap.size f i ∧
      ((s.pre enc C.prog fn conds apart (w.forCall tape i).memory i.args ∧ laidMetH C.prog ld (w.forCall tape i).memory) ∧ sizedMet enc C.prog fn (OpenSpec.ofChange s) apart (w.forCall tape i).memory i.args) ∧ Assume.holds {} C.prog (lone (Frame.enter C.prog f i.args .normal) [] (w.forCall tape i)))
    (contract : ∀ (W : World) (base : Nat) (args : Array Value) (ds : List (DataW H)) (p : List MemPlace),
      (∀ (j : Nat) t v, fn.params[j]? = some t → args[j]? = some v → Value.okWide C.prog W .any base t v) →
      DataW.TrodAll enc C.prog W 0 (fun _ => true) true fn.params.toList args.toList ds p →
      conds.all (PathCond.test C.prog ⟨fn.params.toList, ds, s.plain.varTypes C.prog, []⟩) = true → laidMetH C.prog ld W →
      Calls C.prog f args W fun e W' => ∃ u, e = .returned u ∧ (u = .bool true ∧ Chg [] W W')) :
    ReturnsInHanded {} C os f .any (fun w args => (s.pre enc C.prog fn conds apart w args ∧ laidMetH C.prog ld w) ∧ sizedMet enc C.prog fn (OpenSpec.ofChange s) apart w args) (s.post enc C.prog fn apart fresh handsOn false) := by
  refine returnsInHanded_of_change_and (X := fun w _ => laidMetH C.prog ld w) (fun _ _ _ hh h => h.of_heap hh) own started noInit hfn witness ?_
  intro W base args ds gs before hval hW hcnd _ hL _
  have hW' := hW
  obtain ⟨p, q, hA, hV, rfl, _, _⟩ := hW
  rw [hvars] at hV
  obtain ⟨rfl, rfl⟩ := trodVars_none hV
  simp only [List.append_nil] at hW'
  refine (contract W base args ds p hval hA hcnd hL).mono fun e W' ⟨u, he, hu, hc⟩ => ?_
  subst he; subst hu
  have hb : Below W.heap.size W W' := hc.below (Nat.le_refl _) (by simp)
  obtain ⟨e1, e2, e3⟩ := hspec ds (trodAll_length hA).2
  refine ⟨_, rfl, ds, [], p, [], p, [], hW', ?_, ?_, ?_, hb.frame _, fun h => by cases h⟩
  · rw [e1, hres]
    exact trodAll_mk1 (t := tb) (v := .bool true) ⟨1, by simp [DataW.trod, Value.cells, htb]⟩
  · rw [e2]
    exact trodAll_below laid hb types hA (fun x hx => by simpa using hW'.lt x hx)
  · rw [e3, hvars]
    rfl

end Go.Vc
end

/-
  STEPS of a walk: a call whose contract is known, and what follows it.
-/
section
set_option linter.unusedVariables false
set_option linter.unusedSimpArgs false
namespace Go.Vc

section
variable {P : Program} {W w : World} {R G : List Own} {Φ Ψ : PW} {f : FuncId} {args : Array Value}

/-- what is known holds this, too -/
class Has (Φ Ψ : PW) : Prop where
  go : ∀ M w, Φ M w → Ψ M w
instance (priority := 2000) hasRefl (Φ : PW) : Has Φ Φ := ⟨fun _ _ h => h⟩
instance (priority := 900) hasL (A B Ψ : PW) [h : Has A Ψ] : Has (fun M w => A M w ∧ B M w) Ψ := ⟨fun M w x => h.go M w x.1⟩
instance (priority := 1000) hasR (A B Ψ : PW) [h : Has B Ψ] : Has (fun M w => A M w ∧ B M w) Ψ := ⟨fun M w x => h.go M w x.2⟩
instance hasTrue (Φ : PW) : Has Φ (fun _ _ => True) := ⟨fun _ _ _ => trivial⟩
instance (priority := 800) hasAnd (Φ A B : PW) [h : Has Φ A] [k : Has Φ B] : Has Φ (fun M w => A M w ∧ B M w) := ⟨fun M w x => ⟨h.go M w x, k.go M w x⟩⟩

theorem Ctx.has (c : Ctx W w R Φ) [h : Has Φ Ψ] : Ctx W w R Ψ := c.weak h.go

theorem GivesSl.to [Stable Φ] {α : Type} [Gv α] {l : List α} (h : GivesSl Φ P f args l id) (c : Ctx W w (R ++ G) Φ) {K : Option Addr → Nat → Nat → List Own → PW → Prop}
    (hk : ∀ p cap, l.length ≤ cap → cap ≤ maxLen → Stable (fun M w => Φ M w ∧ Sl M w p l) → K p l.length cap R (fun M w => Φ M w ∧ Sl M w p l)) :
    Calls P f args w fun e w' => ∃ p n c, e = .returned (.slice p n c) ∧ ∃ R' Φ', Stable Φ' ∧ Ctx W w' (R' ++ G) Φ' ∧ K p n c R' Φ' :=
  h.use c fun p cap w' h1 h2 c => ⟨p, _, cap, rfl, R, _, inferInstance, c, hk p cap h1 h2 inferInstance⟩

theorem GivesIn.toB [Stable Φ] {b : Bool} (h : GivesIn Φ P f args (.bool b)) (c : Ctx W w (R ++ G) Φ) {K : Bool → List Own → PW → Prop} (hk : K b R Φ) :
    Calls P f args w fun e w' => ∃ c, e = .returned (.bool c) ∧ ∃ R' Φ', Stable Φ' ∧ Ctx W w' (R' ++ G) Φ' ∧ K c R' Φ' :=
  h.use c fun w' c => ⟨b, rfl, R, Φ, inferInstance, c, hk⟩
theorem GivesIn.toI [Stable Φ] {n : Int} {k : IntKind} (h : GivesIn Φ P f args (.int k n)) (c : Ctx W w (R ++ G) Φ) {K : Int → List Own → PW → Prop} (hk : K n R Φ) :
    Calls P f args w fun e w' => ∃ c, e = .returned (.int k c) ∧ ∃ R' Φ', Stable Φ' ∧ Ctx W w' (R' ++ G) Φ' ∧ K c R' Φ' :=
  h.use c fun w' c => ⟨n, rfl, R, Φ, inferInstance, c, hk⟩
/-- .. with the place of the slice -/
theorem GivesSl.tot [Stable Φ] {α : Type} [Gv α] {l : List α} (h : GivesSl Φ P f args l id) (c : Ctx W w (R ++ G) Φ) {K : Option Addr → Nat → Nat → List Own → PW → Prop}
    (hk : ∀ p cap, l.length ≤ cap → cap ≤ maxLen → There p l.length → Stable (fun M w => Φ M w ∧ Sl M w p l) → K p l.length cap R (fun M w => Φ M w ∧ Sl M w p l)) :
    Calls P f args w fun e w' => ∃ p n c, e = .returned (.slice p n c) ∧ ∃ R' Φ', Stable Φ' ∧ Ctx W w' (R' ++ G) Φ' ∧ K p n c R' Φ' :=
  h.use c fun p cap w' h1 h2 c => ⟨p, _, cap, rfl, R, _, inferInstance, c, hk p cap h1 h2 c.phi.2.there inferInstance⟩
/-- the end -/
theorem fin [Stable Φ] [Stable Ψ] [hw : Has Ψ Φ] {v : Value} (c : Ctx W w (R ++ G) Ψ) : v = v ∧ Ctx W w R Φ := ⟨rfl, (Ctx.has c).left⟩

end
end Go.Vc
end

/-
  Ints: an owned slice of ints; Min, Clone. (Parts of the texts Pa and Pb of the seats of places.)
-/
section
set_option linter.unusedVariables false
set_option linter.unusedSimpArgs false
namespace Go.Proofs.YtjlfpkgjcffilaaGreatDoor
open Go.Vc


abbrev intv (x : Int) : Value := .int .i64 x
abbrev bufZ (p : Option Addr) (cap : Nat) (zs : List Int) : Own := .buf p zs.length cap (zs.map intv) 3 1

def minZ : List Int → Int
  | [] => 0
  | x :: r => r.foldl min x
theorem minZ_snoc {l : List Int} (h : l ≠ []) (x : Int) : minZ (l ++ [x]) = min (minZ l) x := by
  cases l with
  | nil => exact absurd rfl h
  | cons y l => simp [minZ]
section
variable {W w w' : World} {S : List Own} {Φ : PW} {p : Option Addr} {g cap : Nat} {zs : List Int} {i : Nat} {x : Int}
end

theorem int_one (M : List Nat) (w : World) (cs : List Value) (x : Int) (h : Gv.rep M w cs x) : (cs.all fun u => oneC u) = true := by
  obtain ⟨rfl, _⟩ := h
  rfl

section
variable {W w : World} {R G : List Own} {Φ PS : PW} {p q : Option Addr} {cap cap2 : Nat} {l a b : List Int}

/-- append one int -/
theorem pushZ [Stable PS] {op : Option Addr} {oc kb : Nat} {o : List Int} {x : Int} (ho : o.length < 10000000) (cx : Ctx W w (.blk kb [.int .i64 x] 3 :: bufZ op oc o :: R ++ G) PS) :
    ∃ p c w', Sem.run Tryz.prog (builtin Builtin.append #[50, 50] 50 #[false, false] #[.slice op o.length oc, .slice (some ⟨kb, 0, none⟩) 1 1]) w = .ok (.value (.slice p (o ++ [x]).length c)) w' ∧ Ctx W w' (bufZ p c (o ++ [x]) :: R ++ G) PS := by
  obtain ⟨p', cap', w', hrun, _, cx'⟩ := Ctx.app1 (P := Tryz.prog) (ts := 50) (ty := 50) (kb := #[false, false]) (size := 1) (bytes := 8) cx (by kernel_rfl) (by omega) rfl rfl (by omega) (by omega)
  have e : o.length + 1 = (o ++ [x]).length := by simp
  have em : o.map intv ++ [.int .i64 x] = (o ++ [x]).map intv := by rw [List.map_append]; rfl
  rw [e] at hrun cx'
  rw [em] at cx'
  exact ⟨p', cap', w', hrun, cx'⟩

theorem CloneZ_in [Stable Φ] (hΦ : ∀ M w, Φ M w → Sl M w p l) (hlen : l.length < 100000000) : GivesNew Φ Tryz.prog F.slices_Clone_int_int #[.slice p l.length cap] l 3 := by
  refine .there (fun M w h => (hΦ M w h).there) fun hth => ?_
  refine gives_new (Bslices_Clone_int_int_run p l.length cap) fun W R => ?_
  refine Br.intro (fun hn => fun w F c => ?_) (fun hn => ?_)
  · have hl : l = [] := by
      cases l with
      | nil => rfl
      | cons => obtain ⟨b, o, e⟩ := hth (by simp); rw [e] at hn; cases hn
    subst hl
    exact ⟨none, 0, [], rfl, (c.left.buf0 3 1).add Elems.nil⟩
  · intro k w F c
    obtain ⟨p', cap', w', cs, hrun, c'⟩ := Ctx.cloned (P := Tryz.prog) (ts := 50) (ty := 50) (kb := #[false, false]) (bytes := 8) (c2 := cap) c (by kernel_rfl) int_one hΦ hlen (by omega)
    exact ⟨_, _, _, _, hrun, _, _, inferInstance, c', fun w F c => ⟨p', cap', cs, rfl, c.left⟩⟩

theorem Min_in [Stable Φ] [hΦ : Has Φ (fun M w => Sl M w p l)] (h0 : 0 < l.length) (hlen : l.length ≤ 10000000) : GivesIn Φ Tryz.prog F.slices_Min_int_int #[.slice p l.length cap] (.int .i64 (minZ l)) := by
  refine .there (fun M w h => (hΦ.go M w h).there) fun hth => ?_
  obtain ⟨g, o, rfl⟩ := hth h0
  refine gives_in (Bslices_Min_int_int_run _ l.length cap) fun W R => Br.intro (fun h => by have := of_decide_eq_true h; omega) (fun _ => ⟨by omega, ptrK_intro g o rfl fun w G cx => ⟨l[0], sl_int (hΦ.go _ _ cx.phi) h0, ?_⟩⟩)
  clear cx
  refine exI_mk (fun n iI R' Φ' k => ∃ i : Nat, iI = i ∧ 1 ≤ i ∧ i ≤ l.length ∧ n = minZ (l.take i) ∧ R' = R ∧ Φ' = Φ ∧ k = l.length - i) ⟨⟨R, Φ, _, inferInstance, fun w G cx => cx, 1, rfl, by omega, by omega, ?_, rfl, rfl, rfl⟩, ?_⟩
  · cases l with
    | nil => simp at h0
    | cons x l => simp [minZ]
  rintro n iI R1 Φ1 k _ ⟨i, rfl, h1, hi, rfl, rfl, rfl, rfl⟩
  refine Br.intro (fun hlt => ?_) (fun hge => fun w G cx => ⟨?_, cx.left⟩)
  · have hlt : i < l.length := by have := of_decide_eq_true hlt; omega
    refine ⟨by omega, ptrK_intro g o rfl fun w G cx => ⟨l[i], by rw [Int.toNat_natCast]; exact sl_int (hΦ.go _ _ cx.phi) hlt, by unfold I64; omega, R1, Φ1, l.length - (i + 1), inferInstance, fun w G cx => cx, ⟨i + 1, by omega, by omega, hlt, ?_, rfl, rfl, rfl⟩, by omega⟩⟩
    rw [List.take_succ_eq_append_getElem hlt, minZ_snoc (by intro e; have := congrArg List.length e; rw [List.length_take, List.length_nil] at this; omega)]
  · have hge : i = l.length := by have := of_decide_eq_false hge; omega
    rw [hge, List.take_length]
end
end Go.Proofs.YtjlfpkgjcffilaaGreatDoor
end

/-
  The walks of Clone; what right rows are.
-/
section
set_option linter.unusedVariables false
set_option linter.unusedSimpArgs false
namespace Go.Proofs.YtjlfpkgjcffilaaGreatDoor
open Go.Vc


theorem pin_delta {M : List Nat} {w : World} {b o : Nat} {cs : List (List Value)} {l : List DeltaD} (h : Pin b o cs l M w) {j : Nat} (hj : j < l.length) : ∃ p c, cs.getD j [] = l[j].cells p c ∧ l[j].row.length ≤ c ∧ c ≤ maxLen ∧ I64 l[j].time ∧ I64 l[j].n ∧ RowAt w b (o + j * 3) (l[j].cells p c) := by
  obtain ⟨_, h1, h2⟩ := h j hj
  obtain ⟨p, c, e, g1, g2, g3, g4, _⟩ := delta_cells h2
  exact ⟨p, c, e, g1, g2, g3, g4, by rw [e] at h1; exact h1⟩

theorem val_one (M : List Nat) (w : World) (cs : List Value) (x : ValD) (h : Gv.rep M w cs x) : (cs.all fun u => oneC u) = true := by
  obtain ⟨_, _, rfl, ⟨rfl, _⟩, _, _, rfl, ⟨rfl, _⟩, rfl, _⟩ := h
  rfl

theorem CloneV_in {Φ : PW} [Stable Φ] (p : Option Addr) (cap : Nat) (l : List ValD) (hΦ : ∀ M w, Φ M w → Sl M w p l) (hlen : l.length < 100000000) :
    GivesNew Φ Tryz.prog F.slices_Clone_api_Value_api_Value #[.slice p l.length cap] l 94 := by
  refine .there (fun M w h => (hΦ M w h).there) fun hth => ?_
  refine gives_new (Bslices_Clone_api_Value_api_Value_run p l.length cap) fun W R => ?_
  refine Br.intro (fun hn => fun w F c => ?_) (fun hn => ?_)
  · have hl : l = [] := by
      cases l with
      | nil => rfl
      | cons => obtain ⟨b, o, e⟩ := hth (by simp); rw [e] at hn; cases hn
    subst hl
    exact ⟨none, 0, [], rfl, (c.left.buf0 94 3).add Elems.nil⟩
  · intro k w F c
    obtain ⟨p', cap', w', cs, hrun, c'⟩ := Ctx.cloned (P := Tryz.prog) (ts := 44) (ty := 44) (kb := #[false, false]) (bytes := 32) (c2 := cap) c (by kernel_rfl) val_one hΦ hlen (by omega)
    exact ⟨_, _, _, _, hrun, _, _, inferInstance, c', fun w F c => ⟨p', cap', cs, rfl, c.left⟩⟩

/-! ### right rows -/
def rightV3 (x : ValD) : Bool := if x.kind = 0 then decide (x.text = ByteArray.mk #[]) else if x.kind = 1 then decide (x.num = 0) && decide ((x.text.size : Int) ≤ 200) else decide (x.kind = 2) && (decide (x.num = 0) || decide (x.num = 1)) && decide (x.text = ByteArray.mk #[])

def rightR (l : List ValD) : Bool := decide ((l.length : Int) ≤ 12) && l.all rightV3

end Go.Proofs.YtjlfpkgjcffilaaGreatDoor
end

/-
  Lines, as plain data; writing into lines. (Parts of the texts Dn and Dr of the seats of DifferenceLines.)
-/
section
set_option linter.unusedVariables false
set_option linter.unusedSimpArgs false
namespace Go.Proofs.YtjlfpkgjcffilaaGreatDoor
open Go.Vc


structure LineD where
  no : Int
  batch : Int
  time : Int
  row : List ValD
  n : Int
  cause : Int
  why : Int
instance : Gv LineD := Gv.via (β := Int × Int × Int × List ValD × Int × Int × Int) (fun x => (x.no, x.batch, x.time, x.row, x.n, x.cause, x.why)) (fun y => ⟨y.1, y.2.1, y.2.2.1, y.2.2.2.1, y.2.2.2.2.1, y.2.2.2.2.2.1, y.2.2.2.2.2.2⟩) (fun _ => rfl)

abbrev LineD.cells (x : LineD) (p : Option Addr) (c : Nat) : List Value := [.int .i64 x.no, .int .i64 x.batch, .int .i64 x.time, .slice p x.row.length c, .int .i64 x.n, .int .i64 x.cause, .int .i64 x.why]
abbrev LineD.v (x : LineD) (p : Option Addr) (c : Nat) : Value := .agg #[.int .i64 x.no, .int .i64 x.batch, .int .i64 x.time, .slice p x.row.length c, .int .i64 x.n, .int .i64 x.cause, .int .i64 x.why]

structure LineD.In (x : LineD) : Prop where
  no : I64 x.no
  batch : I64 x.batch
  time : I64 x.time
  n : I64 x.n
  cause : I64 x.cause
  why : I64 x.why

theorem line_cells {M : List Nat} {w : World} {cs : List Value} {x : LineD} (h : Gv.rep M w cs x) : ∃ p c, cs = x.cells p c ∧ x.row.length ≤ c ∧ c ≤ maxLen ∧ x.In ∧ Sl M w p x.row := by
  obtain ⟨_, _, rfl, ⟨rfl, h1⟩, _, _, rfl, ⟨rfl, h2⟩, _, _, rfl, ⟨rfl, h3⟩, _, _, rfl, ⟨p, c, rfl, g1, g2, g3⟩, _, _, rfl, ⟨rfl, h4⟩, _, _, rfl, ⟨rfl, h5⟩, rfl, h6⟩ := h
  exact ⟨p, c, rfl, g1, g2, ⟨h1, h2, h3, h4, h5, h6⟩, g3⟩

theorem rep_line {M : List Nat} {w : World} {x : LineD} {p : Option Addr} {c : Nat} (h1 : x.row.length ≤ c) (h2 : c ≤ maxLen) (h : x.In) (h5 : Sl M w p x.row) : Gv.rep M w (x.cells p c) x :=
  ⟨[_], [_, _, _, _, _, _], rfl, ⟨rfl, h.no⟩, [_], [_, _, _, _, _], rfl, ⟨rfl, h.batch⟩, [_], [_, _, _, _], rfl, ⟨rfl, h.time⟩, [_], [_, _, _], rfl, ⟨p, c, rfl, h1, h2, h5⟩, [_], [_, _], rfl, ⟨rfl, h.n⟩, [_], [_], rfl, ⟨rfl, h.cause⟩, rfl, h.why⟩

theorem line_row {M : List Nat} {w : World} {x : LineD} {p : Option Addr} {c : Nat} (h : Gv.rep M w (x.cells p c) x) : Sl M w p x.row := by
  obtain ⟨p', c', e, _, _, _, h1⟩ := line_cells h
  simp only [LineD.cells, List.cons.injEq, Value.slice.injEq] at e
  rw [e.2.2.2.1.1]
  exact h1

theorem line_one (M : List Nat) (w : World) (cs : List Value) (x : LineD) (h : Gv.rep M w cs x) : (cs.all fun u => oneC u) = true := by
  obtain ⟨p, c, rfl, _⟩ := line_cells h
  rfl

def LineD.d (x : LineD) : DeltaD := ⟨x.time, x.row, x.n⟩
abbrev bufL (p : Option Addr) (n cap : Nat) (cs : List Value) : Own := .buf p n cap cs 46 7

theorem lrow {M : List Nat} {w : World} {cs : List Value} {l : List LineD} (h : Elems M w cs l) {i : Nat} (hi : i < l.length) : ∃ p c, (cs.drop (i * 7)).take 7 = l[i].cells p c ∧ l[i].row.length ≤ c ∧ c ≤ maxLen ∧ l[i].In ∧ Sl M w p l[i].row :=
  line_cells (h.2 i hi)

theorem lcells_len {M : List Nat} {w : World} {cs : List Value} {l : List LineD} (h : Elems M w cs l) : cs.length = l.length * 7 := h.1

theorem l_ptr {W w : World} {S : List Own} {Φ : PW} {p : Option Addr} {n cap : Nat} {cs : List Value} (cx : Ctx W w (bufL p n cap cs :: S) Φ) (h : 0 < cs.length) : ∃ g, p = some ⟨g, 0, none⟩ := by
  obtain ⟨g, hg, _⟩ := cx.bufCell 0 rfl h
  exact ⟨g, hg⟩

theorem l_at {W w : World} {S : List Own} {Φ : PW} {g n cap : Nat} {cs : List Value} (cx : Ctx W w (bufL (some ⟨g, 0, none⟩) n cap cs :: S) Φ) {i : Nat} {x : LineD} {p : Option Addr} {c : Nat} (h : (cs.drop (i * 7)).take 7 = x.cells p c) : RowAt w g (i * 7) (x.cells p c) :=
  cx.bufRow 0 rfl rfl (rows_of h)

theorem l_can {W w : World} {S : List Own} {Φ : PW} {g n cap : Nat} {cs : List Value} (cx : Ctx W w (bufL (some ⟨g, 0, none⟩) n cap cs :: S) Φ) {o m : Nat} (h : o + m ≤ cs.length) : CanWrite w g o m :=
  cx.bufCan 0 rfl rfl h

theorem setL_cell : ∀ (vs : List Value) (k : Nat) (cs : List Value) (o : Nat) (v : Value), k < vs.length → (∀ j, (hj : j < vs.length) → cs[o + j]? = some vs[j]) → setL cs (o + k) [v] = setL cs o (vs.set k v) := by
  intro vs k cs o v hk h
  have hlast : o + (vs.length - 1) < cs.length := (List.getElem?_eq_some_iff.1 (h (vs.length - 1) (by omega))).1
  apply List.ext_getElem?
  intro j
  by_cases h1 : j < o
  · rw [setL_get _ _ _ _ (.inl (by omega)), setL_get _ _ _ _ (.inl h1)]
  · by_cases h2 : o + vs.length ≤ j
    · rw [setL_get _ _ _ _ (.inr (by simp; omega)), setL_get _ _ _ _ (.inr (by rw [List.length_set]; exact h2))]
    · obtain ⟨m, rfl⟩ : ∃ m, j = o + m := ⟨j - o, by omega⟩
      rw [setL_in (vs.set k v) cs o m (by rw [List.length_set]; omega) (by rw [List.length_set]; omega)]
      by_cases h3 : m = k
      · subst h3
        have := setL_in [v] cs (o + m) 0 (by simp) (by simp; omega)
        rw [Nat.add_zero] at this
        rw [this, List.getElem?_set_self hk]
        rfl
      · rw [setL_get _ _ _ _ (by simp; omega), List.getElem?_set_ne (by omega), h m (by omega), List.getElem?_eq_getElem (by omega)]

end Go.Proofs.YtjlfpkgjcffilaaGreatDoor
end

/-
  MAPS whose keys are an int and a text, and whose values are ints: what is done to them.
-/
section
set_option linter.unusedVariables false
set_option linter.unusedSimpArgs false
namespace Go.Vc

structure MEnt where
  key : Int × ByteArray
  val : Int
  born : Nat
abbrev keyV (k : Int × ByteArray) : Value := .agg #[.int .i64 k.1, .string k.2]
def MEnt.m (e : MEnt) : MapEntry := ⟨keyV e.key, .int .i64 e.val, e.born⟩
def getM : List MEnt → Int × ByteArray → Int
  | [], _ => 0
  | e :: es, k => if k = e.key then e.val else getM es k
structure MapOk (es : List MEnt) (clock : Nat) : Prop where
  keys : es.Pairwise fun a b => a.key ≠ b.key
  borns : es.Pairwise fun a b => a.born ≠ b.born
  lt : ∀ e ∈ es, e.born < clock

structure KeyTy (P : Program) (t k e : TypeId) : Prop where
  map : P.underlying t = some (.map k e)
  str : ∃ fs, P.underlying k = some (.struct fs)
  chk : ∀ b x w, (Instr.checkKey b 10000 k (keyV x)).run P w = .ok () w
  eq : ∀ x y w, (Op.equal k (keyV x) (keyV y)).run P w = .ok (decide (x = y)) w
  zero : ∀ w, (zeroValue e).run P w = .ok (.int .i64 0) w

section
variable {P : Program} {t k e : TypeId} (T : KeyTy P t k e)
include T

end

/-! ### what is owned is read by the call, and stays -/
section
variable {P : Program} {W w : World} {Q R G : List Own} {Φ Ψ : PW} {f : FuncId} {args : Array Value}

structure GivesQ (Q : List Own) (Φ : PW) (P : Program) (f : FuncId) (args : Array Value) (v : Value) : Prop where
  go : ∀ (W w : World) (S : List Own), Ctx W w (Q ++ S) Φ → Calls P f args w fun e w' => e = .returned v ∧ Ctx W w' (Q ++ S) Φ
structure GivesQSl (Q : List Own) (Φ : PW) (P : Program) (f : FuncId) (args : Array Value) {α : Type} [Gv α] (l : List α) : Prop where
  go : ∀ (W w : World) (S : List Own), Ctx W w (Q ++ S) Φ → Calls P f args w fun e w' => ∃ p cap, e = .returned (.slice p l.length cap) ∧ l.length ≤ cap ∧ cap ≤ maxLen ∧ Ctx W w' (Q ++ S) (fun M w => Φ M w ∧ Sl M w p l)

theorem gives_q [Stable Φ] {v : Value} {B : World → List Own → PW → (Value → World → Prop) → Prop}
    (run : ∀ {W w : World} {R : List Own} {Φ : PW} [Stable Φ] {J : Value → World → Prop}, Ctx W w R Φ → B W R Φ J → Calls P f args w fun e w' => ∃ v, e = .returned v ∧ J v w')
    (h : ∀ (W : World) (R : List Own), B W (Q ++ R) Φ fun u w' => u = v ∧ Ctx W w' (Q ++ R) Φ) : GivesQ Q Φ P f args v :=
  ⟨fun W w S c => calls_of (run c (h W S)) fun u w' ⟨h1, h2⟩ => ⟨by rw [h1], h2⟩⟩
theorem gives_qsl [Stable Φ] {α : Type} [Gv α] {l : List α} {B : World → List Own → PW → (Value → World → Prop) → Prop}
    (run : ∀ {W w : World} {R : List Own} {Φ : PW} [Stable Φ] {J : Value → World → Prop}, Ctx W w R Φ → B W R Φ J → Calls P f args w fun e w' => ∃ v, e = .returned v ∧ J v w')
    (h : ∀ (W : World) (R : List Own), B W (Q ++ R) Φ fun u w' => ∃ p cap, u = .slice p l.length cap ∧ l.length ≤ cap ∧ cap ≤ maxLen ∧ Ctx W w' (Q ++ R) (fun M w => Φ M w ∧ Sl M w p l)) : GivesQSl Q Φ P f args l :=
  ⟨fun W w S c => calls_of (run c (h W S)) fun u w' ⟨p, cap, h1, h2⟩ => ⟨p, cap, by rw [h1], h2⟩⟩

theorem Ctx.inl (c : Ctx W w ((Q ++ R) ++ G) Φ) : Ctx W w (Q ++ (R ++ G)) Φ := c.re (List.append_assoc _ _ _)
theorem Ctx.outl (c : Ctx W w (Q ++ (R ++ G)) Φ) : Ctx W w ((Q ++ R) ++ G) Φ := c.re (List.append_assoc _ _ _).symm

theorem GivesQ.toB [Stable Φ] {b : Bool} (h : GivesQ Q Φ P f args (.bool b)) (c : Ctx W w ((Q ++ R) ++ G) Φ) {K : Bool → List Own → PW → Prop} (hk : K b (Q ++ R) Φ) :
    Calls P f args w fun e w' => ∃ c, e = .returned (.bool c) ∧ ∃ R' Φ', Stable Φ' ∧ Ctx W w' (R' ++ G) Φ' ∧ K c R' Φ' :=
  (h.go W w (R ++ G) c.inl).mono fun e w' ⟨he, c'⟩ => ⟨b, he, Q ++ R, Φ, inferInstance, c'.outl, hk⟩
theorem GivesQ.toI [Stable Φ] {n : Int} {k : IntKind} (h : GivesQ Q Φ P f args (.int k n)) (c : Ctx W w ((Q ++ R) ++ G) Φ) {K : Int → List Own → PW → Prop} (hk : K n (Q ++ R) Φ) :
    Calls P f args w fun e w' => ∃ n, e = .returned (.int k n) ∧ ∃ R' Φ', Stable Φ' ∧ Ctx W w' (R' ++ G) Φ' ∧ K n R' Φ' :=
  (h.go W w (R ++ G) c.inl).mono fun e w' ⟨he, c'⟩ => ⟨n, he, Q ++ R, Φ, inferInstance, c'.outl, hk⟩
theorem GivesQSl.tot [Stable Φ] {α : Type} [Gv α] {l : List α} (h : GivesQSl Q Φ P f args l) (c : Ctx W w ((Q ++ R) ++ G) Φ) {K : Option Addr → Nat → Nat → List Own → PW → Prop}
    (hk : ∀ p cap, l.length ≤ cap → cap ≤ maxLen → There p l.length → Stable (fun M w => Φ M w ∧ Sl M w p l) → K p l.length cap (Q ++ R) (fun M w => Φ M w ∧ Sl M w p l)) :
    Calls P f args w fun e w' => ∃ p n c, e = .returned (.slice p n c) ∧ ∃ R' Φ', Stable Φ' ∧ Ctx W w' (R' ++ G) Φ' ∧ K p n c R' Φ' :=
  (h.go W w (R ++ G) c.inl).mono fun e w' ⟨p, cap, he, h1, h2, c'⟩ => ⟨p, _, cap, he, Q ++ R, _, inferInstance, c'.outl, hk p cap h1 h2 c'.phi.2.there inferInstance⟩
end
end Go.Vc
end

/-
  A sink: plain data, what is owned of it, and its short functions.
-/
section
set_option linter.unusedVariables false
set_option linter.unusedSimpArgs false
namespace Go.Proofs.YtjlfpkgjcffilaaGreatDoor
open Go.Vc


/-! ### plain data -/
structure SkD where
  kind : Int
  key : List Int
  bats : List Int
  lines : List LineD
  prep : Int
  aside : List LineD

def lastK (s : SkD) : Int := s.bats.getLast?.getD 0
def hasK (s : SkD) (b : Int) : Bool := decide (b ∈ s.bats)
def shortK (key : List Int) (r : List ValD) : Bool := key.any fun k => decide ((r.length : Int) ≤ k)
def badK (key : List Int) (b : Int) (x : LineD) : Bool := decide (x.batch ≠ b) || decide (x.n = 0) || !rightR x.row || shortK key x.row
def numK : Int → List LineD → Bool
  | _, [] => true
  | n, x :: l => decide (x.no = n) && numK (n + 1) l
def lookK (s : SkD) (b : Int) (L : List LineD) : Int :=
  if b < 1 then 25 else if b ≤ lastK s then 25 else if L.any (badK s.key b) = true then 1 else if numK ((s.lines.length : Int) + 1) L = false then 25 else 0
def takeK (s : SkD) (b : Int) (L : List LineD) : SkD := { s with bats := s.bats ++ [b], lines := s.lines ++ L }
def prepK (s : SkD) (b : Int) (L : List LineD) : Int × SkD :=
  if s.kind ≠ 0 then (7, s) else if hasK s b = true then (0, s) else if lookK s b L ≠ 0 then (lookK s b L, s) else (0, { s with prep := b, aside := L })
def commK (s : SkD) (b : Int) : Int × SkD :=
  if s.kind ≠ 0 then (7, s) else if hasK s b = true then (0, s) else if (decide (b < 1) || decide (b ≠ s.prep)) = true then (4, s) else (0, { takeK s b s.aside with prep := 0, aside := [] })
def abortK (s : SkD) (b : Int) : Int × SkD :=
  if s.kind ≠ 0 then (7, s) else if hasK s b = true then (7, s) else if (decide (b < 1) || decide (b ≠ s.prep)) = true then (4, s) else (0, { s with prep := 0, aside := [] })
def delivK (s : SkD) (b : Int) (L : List LineD) : Int × SkD :=
  if s.kind = 0 then (7, s) else if hasK s b = true then (0, s) else if lookK s b L ≠ 0 then (lookK s b L, s) else (0, takeK s b L)
def opK (k : Int) (s : SkD) (b : Int) (L : List LineD) : Int × SkD :=
  if k = 0 then prepK s b L else if k = 1 then prepK s b L else if k = 2 then commK s b else if k = 3 then abortK s b else if k = 6 then (0, s) else if k = 7 then (0, s) else delivK s b L

/-- what holds of every sink -/
structure SkI (s : SkD) : Prop where
  asc : s.bats.Pairwise (· < ·)
  pos : ∀ b ∈ s.bats, 1 ≤ b ∧ I64 b
  row : ∀ x ∈ s.lines, rightR x.row = true
  arow : ∀ x ∈ s.aside, rightR x.row = true
/-- how large it is -/
structure SkS (s : SkD) (n : Nat) : Prop where
  bats : s.bats.length ≤ 20 * n
  lines : s.lines.length ≤ n
  aside : s.aside.length ≤ n
  key : s.key.length ≤ 20 * n

/-- where a sink lies -/
structure KP where
  sb : Nat
  kp : Option Addr
  kc : Nat
  bp : Option Addr
  bc : Nat
  lp : Option Addr
  lc : Nat
  cs : List Value
  ap : Option Addr
  ac : Nat

abbrev SkB (q : KP) (st : SkD) : List Value := [.int .i64 st.kind, .slice q.kp st.key.length q.kc, .slice q.bp st.bats.length q.bc, .slice q.lp st.lines.length q.lc, .int .i64 st.prep, .slice q.ap st.aside.length q.ac]
abbrev SkO (q : KP) (st : SkD) : List Own := [.blk q.sb (SkB q st) 69, bufZ q.bp q.bc st.bats, bufL q.lp st.lines.length q.lc q.cs]
abbrev SkF (q : KP) (st : SkD) : PW := fun M w => Elems M w q.cs st.lines ∧ (Sl M w q.kp st.key ∧ Sl M w q.ap st.aside)

structure SkQ (q : KP) (st : SkD) : Prop where
  lpt : 0 < st.lines.length → ∃ g, q.lp = some ⟨g, 0, none⟩
  bpt : 0 < st.bats.length → ∃ g, q.bp = some ⟨g, 0, none⟩
  lcap : st.lines.length ≤ q.lc ∧ q.lc ≤ maxLen
  bcap : st.bats.length ≤ q.bc ∧ q.bc ≤ maxLen
  kcap : st.key.length ≤ q.kc ∧ q.kc ≤ maxLen
  acap : st.aside.length ≤ q.ac ∧ q.ac ≤ maxLen
  len : q.cs.length = st.lines.length * 7

abbrev snk (q : KP) : Value := .pointer (some ⟨q.sb, 0, none⟩)

def andZ (a m : Int) : Int := IntKind.i64.wrap (BitVec.ofInt 64 a &&& BitVec.ofInt 64 m).toNat
theorem and_run (a m : Int) (w : World) : Sem.run Tryz.prog (binOp BinOp.and 3 (.int .i64 a) (.int .i64 m)) w = .ok (.int .i64 (andZ a m)) w := rfl

/-! ### plain facts -/
theorem right_len {r : List ValD} (h : rightR r = true) : r.length ≤ 12 := by
  unfold rightR at h
  rw [Bool.and_eq_true] at h
  have := of_decide_eq_true h.1
  omega
theorem lastK_at {s : SkD} (h : s.bats.length ≠ 0) : lastK s = s.bats[s.bats.length - 1]'(by omega) := by
  unfold lastK
  rw [List.getLast?_eq_getElem?, List.getElem?_eq_getElem (by omega)]; rfl
theorem last_ge {s : SkD} (hI : SkI s) {b : Int} (h : b ∈ s.bats) : b ≤ lastK s := by
  obtain ⟨i, hi, rfl⟩ := List.getElem_of_mem h
  rw [lastK_at (by omega)]
  rcases Nat.lt_or_ge i (s.bats.length - 1) with h | h
  · exact Int.le_of_lt (List.pairwise_iff_getElem.1 hI.asc i (s.bats.length - 1) hi (by omega) h)
  · have : i = s.bats.length - 1 := by omega
    subst this; exact Int.le_refl _
theorem look_ok {s : SkD} {b : Int} {L : List LineD} (h : ¬ lookK s b L ≠ 0) : 1 ≤ b ∧ lastK s < b ∧ (∀ x ∈ L, badK s.key b x = false) ∧ numK ((s.lines.length : Int) + 1) L = true := by
  have h : lookK s b L = 0 := Decidable.not_not.1 h
  unfold lookK at h
  split at h
  · exact absurd h (by decide)
  split at h
  · exact absurd h (by decide)
  split at h
  · exact absurd h (by decide)
  split at h
  · exact absurd h (by decide)
  rename_i h1 h2 h3 h4
  exact ⟨by omega, by omega, fun x hx => by simpa using List.any_eq_false.1 (by simpa using h3) x hx, by simpa using h4⟩
theorem bad_right {key : List Int} {b : Int} {x : LineD} (h : badK key b x = false) : x.batch = b ∧ x.n ≠ 0 ∧ rightR x.row = true ∧ shortK key x.row = false := by
  unfold badK at h
  rw [Bool.or_eq_false_iff, Bool.or_eq_false_iff, Bool.or_eq_false_iff] at h
  exact ⟨Decidable.not_not.1 (of_decide_eq_false h.1.1.1), of_decide_eq_false h.1.1.2, by simpa using h.1.2, h.2⟩
theorem take_i {s : SkD} (hI : SkI s) {b : Int} {L : List LineD} (h1 : lastK s < b) (h2 : 1 ≤ b) (h3 : I64 b) (h4 : ∀ x ∈ L, rightR x.row = true) : SkI (takeK s b L) where
  asc := List.pairwise_append.2 ⟨hI.asc, List.pairwise_singleton _ _, fun a ha c hc => by
    rw [List.mem_singleton.1 hc]
    have := last_ge hI ha
    omega⟩
  pos := fun a ha => (List.mem_append.1 ha).elim (hI.pos a) fun h => by rw [List.mem_singleton.1 h]; exact ⟨h2, h3⟩
  row := fun x hx => (List.mem_append.1 hx).elim (hI.row x) (h4 x)
  arow := hI.arow
theorem deliv_i {s : SkD} (hI : SkI s) {b : Int} {L : List LineD} (h : I64 b) : SkI (delivK s b L).2 := by
  unfold delivK
  split
  · exact hI
  split
  · exact hI
  split
  · exact hI
  rename_i h1
  obtain ⟨g1, g2, g3, _⟩ := look_ok h1
  exact take_i hI g2 g1 h fun x hx => (bad_right (g3 x hx)).2.2.1
theorem prep_i {s : SkD} (hI : SkI s) {b : Int} {L : List LineD} : SkI (prepK s b L).2 := by
  unfold prepK
  split
  · exact hI
  split
  · exact hI
  split
  · exact hI
  rename_i h1
  obtain ⟨g1, g2, g3, _⟩ := look_ok h1
  exact ⟨hI.asc, hI.pos, hI.row, fun x hx => (bad_right (g3 x hx)).2.2.1⟩
theorem abort_i {s : SkD} (hI : SkI s) {b : Int} : SkI (abortK s b).2 := by
  unfold abortK
  split
  · exact hI
  split
  · exact hI
  split
  · exact hI
  exact ⟨hI.asc, hI.pos, hI.row, fun x hx => absurd hx (by simp)⟩
/-- a prepared batch comes after the others -/
def PrepOk (s : SkD) : Prop := s.prep ≠ 0 → lastK s < s.prep
theorem comm_i {s : SkD} (hI : SkI s) (hp : PrepOk s) {b : Int} (h : I64 b) : SkI (commK s b).2 := by
  unfold commK
  split
  · exact hI
  split
  · exact hI
  split
  · exact hI
  rename_i h1 h2 h3
  simp only [Bool.or_eq_true, decide_eq_true_eq, not_or, Int.not_lt, ne_eq, Decidable.not_not] at h3
  obtain ⟨h3, h4⟩ := h3
  have h5 := hp (by omega)
  have := take_i hI (b := b) (L := s.aside) (by omega) h3 h hI.arow
  exact ⟨this.asc, this.pos, this.row, fun x hx => absurd hx (by simp)⟩
section
variable {Φ : PW} {q : KP} {st : SkD} {W w : World} {R S G : List Own} {p : Option Addr} {cap : Nat}

theorem sk_cell (cx : Ctx W w ((SkO q st ++ R) ++ G) Φ) {i : Nat} {v : Value} (h : (SkB q st)[i]? = some v) : w.cell? ⟨q.sb, i, none⟩ = some v := cx.get 0 rfl h

/-- ints that can be read -/
structure SrcZ (S : List Own) (Φ : PW) (p : Option Addr) (l : List Int) : Prop where
  ptr : 0 < l.length → ∃ b o, p = some ⟨b, o, none⟩
  rd : ∀ {W w : World} {G : List Own} {b o : Nat}, p = some ⟨b, o, none⟩ → Ctx W w (S ++ G) Φ → ∀ i (h : i < l.length), w.cell? ⟨b, o + i, none⟩ = some (.int .i64 l[i])
theorem SrcZ.app {l : List Int} (h : SrcZ S Φ p l) : SrcZ (S ++ R) Φ p l := ⟨h.ptr, fun e c => h.rd e (c.re (List.append_assoc _ _ _))⟩
theorem srcz_bats (hq : SkQ q st) : SrcZ (SkO q st) Φ q.bp st.bats where
  ptr := fun h => by obtain ⟨g, hg⟩ := hq.bpt h; exact ⟨g, 0, hg⟩
  rd := fun {W w G b o} e c i h => by
    obtain ⟨g, hg⟩ := hq.bpt (by omega)
    rw [hg] at e
    cases e
    rw [Nat.zero_add]
    exact c.bufGet 1 rfl hg (by rw [List.getElem?_map, List.getElem?_eq_getElem h]; rfl)
theorem Last_q [Stable Φ] (hq : SkQ q st) : GivesQ (SkO q st) Φ Tryz.prog F.sink_Sink_Last #[snk q] (.int .i64 (lastK st)) := by
  refine gives_q (Bsink_Sink_Last_run q.sb 0) fun W R => fun w G cx => ⟨_, _, _, sk_cell (i := 2) cx rfl, Br.intro (fun h => fun w G cx => ⟨?_, cx.left⟩) (fun h => fun w G cx => ⟨_, _, _, sk_cell (i := 2) cx rfl, _, _, _, sk_cell (i := 2) cx rfl, ?_⟩)⟩
  · have h := of_decide_eq_true h
    have : st.bats = [] := List.eq_nil_of_length_eq_zero (by omega)
    unfold lastK
    rw [this]; rfl
  · have h := of_decide_eq_false h
    have h0 : st.bats.length ≠ 0 := by omega
    have hb := hq.bcap
    unfold maxLen at hb
    obtain ⟨g, hg⟩ := hq.bpt (by omega)
    refine ⟨by unfold I64; omega, by omega, ptrK_intro g 0 hg ⟨lastK st, ?_, fun w G cx => ⟨rfl, cx.left⟩⟩⟩
    have := (srcz_bats (Φ := Φ) hq).rd hg (G := R ++ G) (cx.re (List.append_assoc _ _ _)) (st.bats.length - 1) (by omega)
    rw [lastK_at h0, show ((st.bats.length : Int) - 1).toNat = st.bats.length - 1 by omega]
    exact this
theorem Prepared_q [Stable Φ] : GivesQ (SkO q st) Φ Tryz.prog F.sink_Sink_Prepared #[snk q] (.int .i64 st.prep) :=
  gives_q (Bsink_Sink_Prepared_run q.sb 0) fun W R => fun w G cx => ⟨_, sk_cell (i := 4) cx rfl, fun w G cx => ⟨rfl, cx.left⟩⟩
theorem LinesN_q [Stable Φ] : GivesQ (SkO q st) Φ Tryz.prog F.sink_Sink_Lines #[snk q] (.int .i64 st.lines.length) :=
  gives_q (Bsink_Sink_Lines_run q.sb 0) fun W R => fun w G cx => ⟨_, _, _, sk_cell (i := 3) cx rfl, fun w G cx => ⟨rfl, cx.left⟩⟩

/-! ### BinarySearch -/
theorem ptrK_of {g : Bool} {p : Option Addr} {K : Nat → Nat → Prop} (h : g = true → ∃ b o, p = some ⟨b, o, none⟩) (hk : ∀ b o, (g = true → p = some ⟨b, o, none⟩) → K b o) : ptrK (some g) p K := by
  cases hg : g with
  | false => exact ptrK_off rfl fun b o => hk b o fun e => by rw [hg] at e; cases e
  | true =>
    obtain ⟨b, o, hp⟩ := h hg
    exact ptrK_intro b o hp (hk b o fun _ => hp)
theorem sNaN_q (x : Int) : Quiet Tryz.prog F.slices_isNaN_int #[.int .i64 x] (.bool false) := quiet_of (fun w J h => Qslices_isNaN_int_run x w J h) fun w => ⟨by simp, rfl⟩
theorem cNaN_q (x : Int) : Quiet Tryz.prog F.cmp_isNaN_int #[.int .i64 x] (.bool false) := quiet_of (fun w J h => Qcmp_isNaN_int_run x w J h) fun w => ⟨by simp, rfl⟩
theorem less_g (x y : Int) : Gives Tryz.prog F.cmp_Less_int #[.int .i64 x, .int .i64 y] (.bool (decide (x < y))) :=
  gives_of (Bcmp_Less_int_run x y) fun W R Φ _ => fun w G c => ⟨false, fun w3 e => (cNaN_q x).at e, false, fun h => (by cases h), fun w G c => ⟨by simp, c.left⟩⟩
theorem shr_runT (t : TypeId) (k : Nat) (h : k < 9223372036854775808) (w : World) : Sem.run Tryz.prog (binOp BinOp.shr t (.int .u64 (IntKind.u64.wrap (k : Int))) (.int .u64 1)) w = .ok (.int .u64 ((k / 2 : Nat) : Int)) w := by
  have e : IntKind.u64.wrap (k : Int) = k := by simp [IntKind.wrap, IntKind.signed, IntKind.bits]; omega
  rw [e]
  show Sem.run Tryz.prog (Op.shift .shr .u64 (k : Int) .u64 1) w = _
  unfold Op.shift
  simp [Sem.run_pure]
  show (k : Int).fdiv 2 = _
  rw [Int.fdiv_eq_ediv_of_nonneg _ (by decide)]
theorem wrap_n {k : Nat} (h : k ≤ 1000000000) : IntKind.i64.wrap (k : Int) = k := i64_wrap (by unfold I64; omega)

theorem BinS_src [Stable Φ] {l : List Int} (src : SrcZ S Φ p l) (asc : l.Pairwise (· < ·)) (hlen : l.length ≤ 10000000) (t : Int) (c : Ctx W w S Φ) :
    Calls Tryz.prog F.slices_BinarySearch_int_int #[.slice p l.length cap, .int .i64 t] w fun e w' => ∃ n, e = .returned (.tuple #[.int .i64 n, .bool (decide (t ∈ l))]) ∧ Ctx W w' S Φ := by
  refine (Bslices_BinarySearch_int_int_run p l.length cap t (J := fun v w' => ∃ n, v = .tuple #[.int .i64 n, .bool (decide (t ∈ l))] ∧ Ctx W w' S Φ) c ?_).mono fun e w' ⟨v, he, n, hv, cx⟩ => ⟨n, by rw [he, hv], cx⟩
  clear c
  have hs := List.pairwise_iff_getElem.1 asc
  refine exI_mk (fun iI jI R' Φ' k => ∃ i j : Nat, iI = i ∧ jI = j ∧ i ≤ j ∧ j ≤ l.length ∧ (∀ a (h : a < l.length), a < i → l[a] < t) ∧ (∀ a (h : a < l.length), j ≤ a → t ≤ l[a]) ∧ R' = S ∧ Φ' = Φ ∧ k = j - i)
    ⟨⟨S, Φ, _, inferInstance, fun w G c => c, 0, l.length, rfl, rfl, Nat.zero_le _, Nat.le_refl _, fun a h h0 => by omega, fun a h h0 => by omega, rfl, rfl, rfl⟩, ?_⟩
  rintro iI jI R1 Φ1 k _ ⟨i, j, rfl, rfl, hij, hj, hlo, hhi, rfl, rfl, rfl⟩
  refine Br.intro (fun hlt => ?_) (fun hge => fun w G cx => ?_)
  · have hlt : i < j := by have := of_decide_eq_true hlt; omega
    obtain ⟨h, hh⟩ : ∃ h, (i + j) / 2 = h := ⟨_, rfl⟩
    obtain ⟨b, o, hp⟩ := src.ptr (by omega)
    have hhl : h < l.length := by omega
    refine ⟨by unfold I64; omega, ((h : Nat) : Int), fun w => by rw [show ((i : Int) + (j : Int)) = ((i + j : Nat) : Int) by omega, ← hh]; exact shr_runT _ _ (by omega) w, ?_⟩
    rw [wrap_n (by omega)]
    refine ⟨by omega, ptrK_intro b o hp fun w G cx => ⟨l[h], by rw [Int.toNat_natCast]; exact src.rd hp cx h hhl, fun w G cx => (less_g _ _).use cx fun w cx => ⟨_, rfl, R1, Φ1, inferInstance, cx, Br.intro (fun hc => ?_) (fun hc => ?_)⟩⟩⟩
    · have hc := of_decide_eq_true hc
      refine ⟨by unfold I64; omega, R1, Φ1, j - (h + 1), inferInstance, fun w G c => c, ⟨h + 1, j, by omega, rfl, by omega, hj, fun a ha h1 => ?_, hhi, rfl, rfl, rfl⟩, by omega⟩
      rcases Nat.lt_or_ge a h with h2 | h2
      · have := hs a h ha hhl h2
        omega
      · have : a = h := by omega
        subst this; exact hc
    · have hc := of_decide_eq_false hc
      refine ⟨R1, Φ1, h - i, inferInstance, fun w G c => c, ⟨i, h, rfl, rfl, by omega, by omega, hlo, fun a ha h1 => ?_, rfl, rfl, rfl⟩, by omega⟩
      rcases Nat.lt_or_ge h a with h2 | h2
      · have := hs h a hhl ha h2
        omega
      · have : a = h := by omega
        subst this; omega
  · have hge : i = j := by have := of_decide_eq_false hge; omega
    subst hge
    have hmem : (t ∈ l) ↔ ∃ h : i < l.length, l[i] = t := by
      refine ⟨fun hm => ?_, fun ⟨h, e⟩ => e ▸ List.getElem_mem h⟩
      obtain ⟨a, ha, rfl⟩ := List.getElem_of_mem hm
      rcases Nat.lt_trichotomy a i with h1 | h1 | h1
      · exact absurd (hlo a ha h1) (Int.lt_irrefl _)
      · subst h1; exact ⟨ha, rfl⟩
      · have := hs i a (by omega) ha h1
        have := hhi i (by omega) (Nat.le_refl _)
        omega
    have hcell : ∀ {b o : Nat} {c : Bool}, (decide ((i : Int) < (l.length : Int)) && c) = true → ((decide ((i : Int) < (l.length : Int)) && c) = true → p = some ⟨b, o, none⟩) → w.cell? ⟨b, o + ((i : Nat) : Int).toNat, none⟩ = some (.int .i64 ((l[i]?).getD 0)) := fun {b o c} h hb => by
      have hl : i < l.length := by have := of_decide_eq_true (Bool.and_eq_true_iff.1 h).1; omega
      rw [Int.toNat_natCast, List.getElem?_eq_getElem hl]
      exact src.rd (hb h) cx i hl
    have hcell0 : ∀ {b o : Nat}, decide ((i : Int) < (l.length : Int)) = true → (decide ((i : Int) < (l.length : Int)) = true → p = some ⟨b, o, none⟩) → w.cell? ⟨b, o + ((i : Nat) : Int).toNat, none⟩ = some (.int .i64 ((l[i]?).getD 0)) := fun {b o} h hb => hcell (c := true) (by rw [h]; rfl) (fun _ => hb h)
    refine ⟨fun h => by have := of_decide_eq_true h; omega, ptrK_of (fun h => src.ptr (by have := of_decide_eq_true h; omega)) fun b o hb => ⟨(l[i]?).getD 0, fun h => hcell0 h hb, fun h => by have := of_decide_eq_true (Bool.and_eq_true_iff.1 h).1; omega, ptrK_of (fun h => src.ptr (by have := of_decide_eq_true (Bool.and_eq_true_iff.1 h).1; omega)) fun b2 o2 hb2 => ⟨(l[i]?).getD 0, fun h => hcell h hb2, false, fun _ w e => (sNaN_q _).at e, false, fun h => absurd h (by simp), fun w G cx => ⟨((i : Nat) : Int), ?_, cx.left⟩⟩⟩⟩
    have : (decide ((i : Int) < (l.length : Int)) && (decide ((l[i]?).getD 0 = t) || false && false)) = decide (t ∈ l) := by
      rcases Nat.lt_or_ge i l.length with hl | hl
      · rw [List.getElem?_eq_getElem hl, decide_eq_true (p := (i : Int) < (l.length : Int)) (by omega), Bool.and_false, Bool.or_false, Bool.true_and]
        exact decide_eq_decide.2 ⟨fun h => hmem.2 ⟨hl, h⟩, fun h => (hmem.1 h).2⟩
      · rw [decide_eq_false (p := (i : Int) < (l.length : Int)) (by omega), Bool.false_and]
        exact (decide_eq_false fun h => by have := (hmem.1 h).1; omega).symm
    rw [this]
theorem Has_q [Stable Φ] (hq : SkQ q st) (hI : SkI st) {n : Nat} (hs : SkS st n) (hn : n ≤ 400000) {b : Int} : GivesQ (SkO q st) Φ Tryz.prog F.sink_Sink_Has #[snk q, .int .i64 b] (.bool (hasK st b)) :=
  gives_q (Bsink_Sink_Has_run q.sb 0 b) fun W R => fun w G cx => ⟨_, _, _, sk_cell (i := 2) cx rfl, fun w G cx =>
    (BinS_src (S := (SkO q st ++ R) ++ G) (srcz_bats (Φ := Φ) hq).app.app hI.asc (by have := hs.bats; omega) b cx).mono fun e w' ⟨n, he, cx⟩ => ⟨n, _, he, _, _, inferInstance, cx, fun w G cx => ⟨rfl, cx.left⟩⟩⟩
end
end Go.Proofs.YtjlfpkgjcffilaaGreatDoor
end

/-
  Layings of the kit's shelf at this seat's numbers (printed by the kit's own tools).
-/
section
set_option linter.unusedVariables false
namespace Go.Proofs
open Go.Shelf

end Go.Proofs
end

/-
  The walks of strings.Builder, of the decimal form of ints, and of the encodings of ints and texts.
-/
section
set_option linter.unusedVariables false
set_option linter.unusedSimpArgs false
namespace Go.Proofs.YtjlfpkgjcffilaaGreatDoor
open Go.Vc


end Go.Proofs.YtjlfpkgjcffilaaGreatDoor
end

/-
  The encodings of ints, texts, values and rows: in plain Lean, and walked.
-/
section
set_option linter.unusedVariables false
set_option linter.unusedSimpArgs false
namespace Go.Vc
end Go.Vc
namespace Go.Proofs.YtjlfpkgjcffilaaGreatDoor
open Go.Vc

/-! ### in plain Lean -/
def numB (n : Int) : ByteArray := ⟨(Lib.itoa n).toArray⟩
def intB (n : Int) : ByteArray := numB n ++ ByteArray.mk #[59]
def natB (n : Int) : ByteArray := if n < 0 then ByteArray.mk #[] else intB n
def textB (s : ByteArray) : ByteArray := numB s.size ++ ByteArray.mk #[58] ++ s ++ ByteArray.mk #[44]
def valB (v : ValD) : ByteArray := intB v.kind ++ intB v.num ++ textB v.text
def valsL (r : List ValD) : List UInt8 := r.flatMap fun v => (valB v).data.toList
def rowL (r : List ValD) : List UInt8 := (natB r.length).data.toList ++ valsL r
def rowB (r : List ValD) : ByteArray := ⟨(rowL r).toArray⟩

/-! ### walked -/
abbrev tabN : String := ((Rows.sinkHidesRow.laid.map Prod.fst).drop 2).headD default
/-- the table of the powers of ten lies there -/
abbrev TabI : PW := Tab Tryz.prog tabN .u64 Lib.pow10Tab

/-- ints that the library writes: at these places, or small ones -/
def Dec (Φ : PW) (n : Int) : Prop := (∀ M w, Φ M w → TabI M w) ∧ I64 n ∨ ∃ i : Nat, i < 100 ∧ n = i

theorem Dec.i64 {Φ : PW} {n : Int} (h : Dec Φ n) : I64 n := by
  rcases h with ⟨_, h2⟩ | ⟨i, hi, rfl⟩
  · exact h2
  · unfold I64; omega

end Go.Proofs.YtjlfpkgjcffilaaGreatDoor
end

/-
  The bucket of a row, walked.
-/
section
set_option linter.unusedVariables false
set_option linter.unusedSimpArgs false
namespace Go.Vc
/-- bytes that nobody writes -/
def BytesAt (b : Nat) (l : List UInt8) : PW := fun M w => ∀ j, (hj : j < l.length) → b ∉ M ∧ w.cell? ⟨b, j, none⟩ = some (.int .u8 (l[j].toNat : Int))
instance instStableBytesAt (b : Nat) (l : List UInt8) : Stable (BytesAt b l) := ⟨fun {M M' w w'} hs h j hj => by
  obtain ⟨h1, h2⟩ := h j hj
  have hlt : b < w.heap.size := by
    rcases Nat.lt_or_ge b w.heap.size with h' | h'
    · exact h'
    · simp [World.cell?, Array.getElem?_eq_none h'] at h2
  refine ⟨fun hm => ?_, hs.chg.cell h2 h1⟩
  rcases hs.sub b hm with h | h
  · exact h1 h
  · omega⟩
theorem chg_bytes {w : World} {e : TypeId} {s : ByteArray} : Chg [] w (Lib.bytesWorld w e s) :=
  have h := Lib.bytesWorld_below w e s
  ⟨h.os, h.tape, h.output, h.size, fun k hk _ => h.block k hk⟩
theorem Ctx.bytes {W w : World} {S : List Own} {Φ : PW} [Stable Φ] (c : Ctx W w S Φ) (e : TypeId) (s : ByteArray) : Ctx W (Lib.bytesWorld w e s) S (fun M w' => Φ M w' ∧ BytesAt w.heap.size s.data.toList M w') := by
  refine (c.call chg_bytes).add fun j hj => ⟨fun hm => absurd (c.lt hm) (Nat.lt_irrefl _), ?_⟩
  have hj2 : j < s.size := by
    rw [Array.length_toList] at hj
    exact hj
  rw [Lib.bytesWorld_cell w e s j hj2, show s.data.toList.getD j 0 = s.data.toList[j] by rw [List.getD, List.getElem?_eq_getElem hj]; rfl]
end Go.Vc
namespace Go.Proofs.YtjlfpkgjcffilaaGreatDoor
open Go.Vc


/-! ### in plain Lean -/
section
variable {Φ : PW} {p : Option Addr} {cap : Nat} {r : List ValD} {l : List DeltaD}

end
end Go.Proofs.YtjlfpkgjcffilaaGreatDoor
end

/-
  A ledger: plain data, what is owned of it, and its short functions.
-/
section
set_option linter.unusedVariables false
set_option linter.unusedSimpArgs false
namespace Go.Proofs.YtjlfpkgjcffilaaGreatDoor
open Go.Vc


/-! ### plain data -/
structure BatD where
  no : Int
  mark : Int
  stop : Nat
abbrev BatD.cells (x : BatD) : List Value := [.int .i64 x.no, .int .i64 x.mark, .int .i64 x.stop]
structure LedD where
  lines : List LineD
  bats : List BatD

abbrev LKey : Type := Int × ByteArray
def LineD.at (x : LineD) : LKey := (x.time, rowB x.row)
def cntL : List LineD → LKey → Int
  | [], _ => 0
  | x :: l, k => (if x.at = k then x.n else 0) + cntL l k
/-- where a ledger lies -/
structure LP where
  lb : Nat
  lp : Option Addr
  lc : Nat
  cs : List Value
  bp : Option Addr
  bc : Nat
  mb : Nat
  es : List MEnt
  clk : Nat

structure LedQ (q : LP) (st : LedD) : Prop where
  map : MapOk q.es q.clk
  cnt : ∀ k, getM q.es k = cntL st.lines k
  lpt : 0 < st.lines.length → ∃ g, q.lp = some ⟨g, 0, none⟩
  bpt : 0 < st.bats.length → ∃ g, q.bp = some ⟨g, 0, none⟩
  lcap : st.lines.length ≤ q.lc ∧ q.lc ≤ maxLen
  cells : ∀ i (h : i < st.lines.length), ∃ p c, (q.cs.drop (i * 7)).take 7 = st.lines[i].cells p c ∧ st.lines[i].row.length ≤ c ∧ c ≤ maxLen ∧ st.lines[i].In
  len : q.cs.length = st.lines.length * 7
/-- what bounds a ledger -/
structure LedS (st : LedD) : Prop where
  lines : st.lines.length ≤ 150000
  bats : st.bats.length ≤ 600000
  row : ∀ x ∈ st.lines, x.row.length ≤ 13
  text : ∀ x ∈ st.lines, ∀ v ∈ x.row, v.text.size ≤ 300
  stop : ∀ b ∈ st.bats, b.stop ≤ st.lines.length

theorem LedS.rows {st : LedD} (h : LedS st) : ∀ x ∈ st.lines, x.row.length ≤ 1000000 := fun x hx => by have := h.row x hx; omega

/-! ### the map's keys -/
section
variable {Φ : PW} {q : LP} {st : LedD} {W w : World} {R S G : List Own}

end
end Go.Proofs.YtjlfpkgjcffilaaGreatDoor
end

/-
  Copies of lines, out of a slice that is told or owned; Lines, Line, Batch.
-/
section
set_option linter.unusedVariables false
set_option linter.unusedSimpArgs false
namespace Go.Proofs.YtjlfpkgjcffilaaGreatDoor
open Go.Vc


theorem elems_len7 {M : List Nat} {w : World} {cs : List Value} {l : List LineD} (h : Elems M w cs l) : cs.length = l.length * 7 := h.1
theorem elems_one7 {M : List Nat} {w : World} {cs : List Value} {l : List LineD} (h : Elems M w cs l) : (cs.all fun u => oneC u) = true := by
  have h1 := elems_len7 h
  refine List.all_eq_true.2 fun u hu => ?_
  obtain ⟨j, hj, rfl⟩ := List.getElem_of_mem hu
  have hi : j / 7 < l.length := by omega
  obtain ⟨p, c, e, _⟩ := lrow h hi
  have ha : (((cs.drop (j / 7 * 7)).take 7).all fun u => oneC u) = true := by rw [e]; rfl
  have hm : cs[j] ∈ (cs.drop (j / 7 * 7)).take 7 := by
    refine List.mem_iff_getElem?.2 ⟨j % 7, ?_⟩
    rw [List.getElem?_take_of_lt (by omega), List.getElem?_drop, show j / 7 * 7 + j % 7 = j by omega, List.getElem?_eq_getElem hj]
  exact List.all_eq_true.1 ha _ hm
/-- lines that can be read -/
structure Src (S : List Own) (Φ : PW) (p : Option Addr) (l : List LineD) (cs : List Value) : Prop where
  ptr : 0 < l.length → ∃ b o, p = some ⟨b, o, none⟩
  rd : ∀ {W w : World} {G : List Own} {b o : Nat}, p = some ⟨b, o, none⟩ → Ctx W w (S ++ G) Φ → ∀ j v, cs[j]? = some v → w.cell? ⟨b, o + j, none⟩ = some v
  el : ∀ M w, Φ M w → Elems M w cs l

section
variable {Φ : PW} {q : LP} {st : LedD} {W w : World} {R S G : List Own} {p : Option Addr} {cap : Nat} {l : List LineD} {cs : List Value}

theorem Src.more {Ψ : PW} (h : Src S Φ p l cs) (hi : ∀ M w, Ψ M w → Φ M w) : Src S Ψ p l cs := ⟨h.ptr, fun e c => h.rd e (c.weak hi), fun M w x => h.el M w (hi M w x)⟩
theorem Src.app (h : Src S Φ p l cs) : Src (S ++ R) Φ p l cs := ⟨h.ptr, fun e c => h.rd e (c.re (List.append_assoc _ _ _)), h.el⟩

/-- lines that facts tell of -/
def SrcF (p : Option Addr) (l : List LineD) (cs : List Value) : PW := fun M w => (∀ b o, p = some ⟨b, o, none⟩ → 0 < l.length → RowIn b o cs M w) ∧ Elems M w cs l
instance instStableSrcF (p : Option Addr) (l : List LineD) (cs : List Value) : Stable (SrcF p l cs) := ⟨fun hs h => ⟨fun b o e h0 => Stable.step (Φ := fun M w => RowIn b o cs M w) hs (h.1 b o e h0), Stable.step (Φ := fun M w => Elems M w cs l) hs h.2⟩⟩
theorem srcOf (c : Ctx W w S Φ) (h : Sl (dom S) w p l) : ∃ cs, Ctx W w S (fun M w => Φ M w ∧ SrcF p l cs M w) := by
  rcases Nat.eq_zero_or_pos l.length with h0 | h0
  · have hl : l = [] := List.eq_nil_of_length_eq_zero h0
    subst hl
    exact ⟨[], c.add ⟨fun _ _ _ h => by simp at h, Elems.nil⟩⟩
  · obtain ⟨b, o, news, hp, g1, g2, g3, g4⟩ := h.cells line_one h0
    obtain ⟨b', o', _, e', hb, hr, _⟩ := h 0 h0
    rw [hp] at e'
    cases e'
    refine ⟨news, c.add ⟨fun b' o' e _ => ?_, g3⟩⟩
    rw [hp] at e
    cases e
    refine ⟨hb, fun j hj => g2 j _ (List.getElem?_eq_getElem hj), ?_⟩
    have hsz : (Gv.ty LineD).size = 7 := rfl
    rw [hsz] at g1
    have := g2 0 _ (List.getElem?_eq_getElem (by omega))
    rcases Nat.lt_or_ge b w.heap.size with h' | h'
    · exact h'
    · simp [World.cell?, Array.getElem?_eq_none h'] at this
theorem src_fact (hth : There p l.length) (hf : ∀ M w, Φ M w → SrcF p l cs M w) : Src [] Φ p l cs where
  ptr := hth
  rd := fun {W w G b o} e c j v hj => by
    have hl := elems_len7 (hf _ _ c.phi).2
    have hjl : j < cs.length := (List.getElem?_eq_some_iff.1 hj).1
    have := ((hf _ _ c.phi).1 b o e (by omega)).2.1 j hjl
    rw [this, ← hj, List.getElem?_eq_getElem hjl]
  el := fun M w h => (hf M w h).2

theorem CloneL_new [Stable Φ] (src : Src S Φ p l cs) (hlen : l.length ≤ 1000000) (c : Ctx W w S Φ) :
    Calls Tryz.prog F.slices_Clone_api_Line_api_Line #[.slice p l.length cap] w fun e w' => ∃ p' c' cs', e = .returned (.slice p' l.length c') ∧ Ctx W w' (bufL p' l.length c' cs' :: S) (fun M w => Φ M w ∧ Elems M w cs' l) := by
  refine (Bslices_Clone_api_Line_api_Line_run p l.length cap (J := fun v w' => ∃ p' c' cs', v = .slice p' l.length c' ∧ Ctx W w' (bufL p' l.length c' cs' :: S) (fun M w => Φ M w ∧ Elems M w cs' l)) c ?_).mono fun e w' ⟨v, he, p', c', cs', hv, rest⟩ => ⟨p', c', cs', by rw [he, hv], rest⟩
  clear c
  refine Br.intro (fun hn => fun w F c => ?_) (fun hn => fun k w F c => ?_)
  · have hl : l = [] := by
      rcases Nat.eq_zero_or_pos l.length with h0 | h0
      · exact List.eq_nil_of_length_eq_zero h0
      · obtain ⟨b, o, e⟩ := src.ptr h0
        rw [e] at hn; cases hn
    subst hl
    exact ⟨none, 0, [], rfl, (c.left.buf0 46 7).add Elems.nil⟩
  · have c' : Ctx W w (bufL (some ⟨k, 0, none⟩) 0 0 [] :: (S ++ F)) Φ := c.toBuf 0 0 7 rfl (by simp) (by simp [maxLen])
    obtain ⟨i, z, e1, e2, e3, e4, e5, e6⟩ := appB_out (P := Tryz.prog) (ts := 33) (t := 46) (size := 7) (bytes := 72) (by kernel_rfl)
    rcases Nat.eq_zero_or_pos l.length with h0 | h0
    · have hl : l = [] := List.eq_nil_of_length_eq_zero h0
      subst hl
      exact ⟨_, _, _, w, run_app (c'.append0 0 rfl e1 e2 p cap), bufL (some ⟨k, 0, none⟩) 0 0 [] :: S, _, instStableAnd Φ (fun M w => Elems M w [] ([] : List LineD)), c'.add Elems.nil, fun w G c => ⟨some ⟨k, 0, none⟩, 0, [], rfl, c.left⟩⟩
    · obtain ⟨b, o, hp⟩ := src.ptr h0
      have hel := src.el _ _ c'.phi
      have hcl := elems_len7 hel
      obtain ⟨p', cap', w', hrun, cx⟩ := c'.append 0 rfl (ty := 33) e1 e2 e3 e4 e5 (a := ⟨b, o, none⟩) (m := l.length) (c2 := cap) (news := cs) h0 hcl (fun j u hj => by rw [addr_add]; exact src.rd hp c'.drop1 j u hj) (fun u hu => List.all_eq_true.1 (elems_one7 hel) u hu) (by rw [e6]; omega) (by omega)
      rw [← hp, Nat.zero_add] at hrun
      rw [Nat.zero_add] at cx
      exact ⟨_, _, _, w', run_app hrun, bufL p' l.length cap' cs :: S, _, instStableAnd Φ (fun M w => Elems M w cs l), cx.weak fun M w h => ⟨h, src.el M w h⟩, fun w G c => ⟨p', cap', cs, rfl, c.left⟩⟩

theorem CloneV_sl [Stable Φ] {r : List ValD} [hΦ : Has Φ (fun M w => Sl M w p r)] (hlen : r.length ≤ 1000000) : GivesSl Φ Tryz.prog F.slices_Clone_api_Value_api_Value #[.slice p r.length cap] r id :=
  ⟨fun W w S c => (CloneV_in (Φ := Φ) p cap r (fun M w h => hΦ.go M w h) (by omega)).use c fun p1 cap1 ds w cx => by
    obtain ⟨c2, hs, _, h2, h3⟩ := Ctx.freeze (α := ValD) cx cx.phi.2
    exact ⟨p1, cap1, rfl, h2, h3, (c2.add hs).weak fun M w h => ⟨h.1.1, h.2⟩⟩⟩

/-- the row of a line is replaced by an equal one -/
theorem l_row {W w w' : World} {S : List Own} {Φ : PW} [Stable Φ] {g n cap : Nat} {cs : List Value} {l : List LineD} (cx : Ctx W w (bufL (some ⟨g, 0, none⟩) n cap cs :: S) (fun M w => Φ M w ∧ Elems M w cs l)) {i : Nat} (hi : i < l.length) {p : Option Addr} {c : Nat}
    (h1 : l[i].row.length ≤ c) (h2 : c ≤ maxLen) (hs : ∀ M w, Φ M w → Sl M w p l[i].row) (e : w' = w.setCell ⟨g, i * 7 + 3, none⟩ (.slice p l[i].row.length c)) :
    ∃ cs', Ctx W w' (bufL (some ⟨g, 0, none⟩) n cap cs' :: S) (fun M w => Φ M w ∧ Elems M w cs' l) := by
  have hl := lcells_len cx.phi.2
  obtain ⟨p0, c0, hp, _, _, h3, _⟩ := lrow cx.phi.2 hi
  have h := cx.bufPuts 0 rfl rfl (vs := [.slice p l[i].row.length c]) (o := i * 7 + 3) (by omega) (by simp only [List.length_cons, List.length_nil]; omega) e
  have hrows := rows_of (vs := l[i].cells p0 c0) hp
  rw [setL_cell (l[i].cells p0 c0) 3 cs (i * 7) _ (by show 3 < 7; decide) hrows, show (l[i].cells p0 c0).set 3 (.slice p l[i].row.length c) = l[i].cells p c from rfl] at h
  refine ⟨_, h.weak fun M w h => ⟨h.1, ?_⟩⟩
  have := h.2.setAt i hi (rep_line h1 h2 h3 (hs M w h.1))
  rw [List.set_getElem_self] at this
  exact this

end
end Go.Proofs.YtjlfpkgjcffilaaGreatDoor
end

/-
  Consolidate, walked.
-/
section
set_option linter.unusedVariables false
set_option linter.unusedSimpArgs false
namespace Go.Proofs.YtjlfpkgjcffilaaGreatDoor
open Go.Vc


/-! ### one group, in plain Lean -/
theorem seg_sum {seg : List DeltaD} {k0 : Key} (h : ∀ x ∈ seg, x.key = k0) (k : Key) (hk : k ≠ k0) : sumK seg k = 0 := sumK_none fun x hx e => hk (by rw [← e, h x hx])

theorem Norm.snoc {c : List DeltaD} {x : DeltaD} (h : Norm c) (h1 : ∀ y ∈ c, cmpK y.key x.key < 0) (h2 : x.n ≠ 0) (h3 : I64 x.n) : Norm (c ++ [x]) := by
  refine ⟨List.pairwise_append.2 ⟨h.asc, List.pairwise_singleton _ _, fun y hy z hz => ?_⟩, fun y hy => ?_, fun y hy => ?_⟩
  · rw [List.mem_singleton.1 hz, cmpD_key]; exact h1 y hy
  · rcases List.mem_append.1 hy with hy | hy
    · exact h.nz y hy
    · rw [List.mem_singleton.1 hy]; exact h2
  · rcases List.mem_append.1 hy with hy | hy
    · exact h.i64 y hy
    · rw [List.mem_singleton.1 hy]; exact h3

/-- a group is put as one element, or left out -/
theorem find_group {A seg C : List DeltaD} {k0 : Key} {N : Int} (h : ∀ x ∈ seg, x.key = k0) (hN : N = findP seg k0) (k : Key) :
    (findP (A ++ (⟨k0.1, k0.2, N⟩ :: C)) k = findP (A ++ (seg ++ C)) k) ∧ (N = 0 → findP (A ++ C) k = findP (A ++ (seg ++ C)) k) := by
  have key : (((if k0 = k then N else 0) : Int) - sumK seg k) % 18446744073709551616 = 0 := by
    by_cases hk : k0 = k
    · subst hk
      rw [if_pos rfl, hN]
      exact w64_mod _
    · rw [if_neg hk, seg_sum h k (fun e => hk e.symm)]
      rfl
  have e1 : sumK (A ++ (⟨k0.1, k0.2, N⟩ :: C)) k = sumK A k + ((if k0 = k then N else 0) + sumK C k) := by rw [sumK_app]; rfl
  have e2 : sumK (A ++ (seg ++ C)) k = sumK A k + (sumK seg k + sumK C k) := by rw [sumK_app, sumK_app]
  refine ⟨?_, fun h0 => ?_⟩
  · unfold findP
    rw [e1, e2]
    exact w64_cong (by omega)
  · unfold findP
    rw [sumK_app, e2]
    refine w64_cong ?_
    rw [h0] at key
    have : ((if k0 = k then (0 : Int) else 0)) = 0 := by split <;> rfl
    omega

/-- what the outer loop knows -/
structure COuter (l : List DeltaD) (es outs : List DE) (i : Nat) : Prop where
  le : i ≤ es.length
  norm : Norm (outs.map DE.d)
  lt : ∀ x ∈ outs, ∀ y ∈ es.drop i, cmpK x.d.key y.d.key < 0
  find : ∀ k, findP (outs.map DE.d ++ (es.drop i).map DE.d) k = findP l k
  few : outs.length ≤ i

theorem COuter.step {l : List DeltaD} {es outs : List DE} {i : Nat} (h : COuter l es outs i) {X : DE} (hX : X ∈ es.drop i) {j : Nat} (hij : i + j ≤ es.length) (hj : 1 ≤ j) (hk : ∀ y ∈ (es.drop i).take j, y.d.key = X.d.key) {N : Int} (hN : N = findP (((es.drop i).take j).map DE.d) X.d.key)
    (hgt : ∀ y ∈ es.drop (i + j), cmpK X.d.key y.d.key < 0) : (N = 0 → COuter l es outs (i + j)) ∧ (N ≠ 0 → ∀ (p : Option Addr) (c : Nat), COuter l es (outs ++ [⟨⟨X.d.time, X.d.row, N⟩, p, c⟩]) (i + j)) := by
  have hdr : es.drop i = (es.drop i).take j ++ es.drop (i + j) := by rw [← List.drop_drop, List.take_append_drop]
  have hkm : ∀ x ∈ ((es.drop i).take j).map DE.d, x.key = X.d.key := fun x hx => by
    obtain ⟨y, hy, rfl⟩ := List.mem_map.1 hx
    exact hk y hy
  have hsub : ∀ y ∈ es.drop (i + j), y ∈ es.drop i := fun y hy => by rw [hdr]; exact List.mem_append_right _ hy
  have hf : ∀ k, findP (outs.map DE.d ++ (((es.drop i).take j).map DE.d ++ (es.drop (i + j)).map DE.d)) k = findP l k := fun k => by
    rw [← List.map_append, ← hdr]; exact h.find k
  refine ⟨fun h0 => ⟨hij, h.norm, fun x hx y hy => h.lt x hx y (hsub y hy), fun k => ?_, by have := h.few; omega⟩, fun h0 p c => ⟨hij, ?_, fun x hx y hy => ?_, fun k => ?_, by rw [List.length_append]; have := h.few; simp; omega⟩⟩
  · rw [← hf k]
    exact (find_group (A := outs.map DE.d) (C := (es.drop (i + j)).map DE.d) hkm hN k).2 h0
  · rw [List.map_append]
    refine Norm.snoc h.norm (fun y hy => ?_) h0 (by rw [hN]; exact w64_in _)
    obtain ⟨z, hz, rfl⟩ := List.mem_map.1 hy
    exact h.lt z hz X hX
  · rcases List.mem_append.1 hx with hx | hx
    · exact h.lt x hx y (hsub y hy)
    · rw [List.mem_singleton.1 hx]; exact hgt y hy
  · rw [← hf k, List.map_append, List.append_assoc]
    exact (find_group (A := outs.map DE.d) (C := (es.drop (i + j)).map DE.d) hkm hN k).1

end Go.Proofs.YtjlfpkgjcffilaaGreatDoor
end

/-
  Sub, Diff, Same, walked.
-/
section
set_option linter.unusedVariables false
set_option linter.unusedSimpArgs false
namespace Go.Proofs.YtjlfpkgjcffilaaGreatDoor
open Go.Vc


/-! ### Sub -/
/-! ### Same -/
theorem delta_iff {x y : DeltaD} : x = y ↔ (x.time = y.time ∧ (x.row = y.row ∧ x.n = y.n)) := by cases x; cases y; simp
instance : DecidableEq DeltaD := fun _ _ => decidable_of_iff _ delta_iff.symm
end Go.Proofs.YtjlfpkgjcffilaaGreatDoor
end

/-
  Concat, Add, Consolidated, walked.
-/
section
set_option linter.unusedVariables false
set_option linter.unusedSimpArgs false
namespace Go.Vc
section
variable {W w : World} {S : List Own} {Φ : PW}

/-- append a slice of plain data, perhaps empty -/
theorem Ctx.appAny [Stable Φ] {P : Program} {α : Type} [Gv α] {q : Option Addr} {l : List α} {c2 : Nat} {p : Option Addr} {n cap : Nat} {cs : List Value} {t : TypeId} {bytes : Nat} (c : Ctx W w (.buf p n cap cs t (Gv.ty α).size :: S) Φ)
    {ts ty : TypeId} {kb : Array Bool} (hb : appB P ts t (Gv.ty α).size bytes = true) (h1 : ∀ M w cs (x : α), Gv.rep M w cs x → (cs.all fun u => oneC u) = true) (hsl : ∀ M w, Φ M w → Sl M w q l) (hlen : n + l.length < 100000000) (hbytes : bytes ≤ 1000) :
    ∃ p' cap' w' news, Sem.run P (builtin Builtin.append #[ts, ts] ty kb #[.slice p n cap, .slice q l.length c2]) w = .ok (.value (.slice p' (n + l.length) cap')) w' ∧
      Ctx W w' (.buf p' (n + l.length) cap' (cs ++ news) t (Gv.ty α).size :: S) (fun M w => Φ M w ∧ Elems M w news l) := by
  rcases Nat.eq_zero_or_pos l.length with h0 | h0
  · obtain ⟨i, z, e1, e2, e3, e4, e5, e6⟩ := appB_out hb
    have hl : l = [] := List.eq_nil_of_length_eq_zero h0
    subst hl
    refine ⟨p, cap, w, [], run_app (c.append0 0 rfl e1 e2 q c2), ?_⟩
    rw [List.append_nil]
    exact c.add Elems.nil
  · obtain ⟨p', cap', w', news, h2, _, c3⟩ := c.appSl (ty := ty) (kb := kb) (c2 := c2) hb h1 hsl h0 hlen hbytes
    exact ⟨p', cap', w', news, h2, c3⟩

end
end Go.Vc

namespace Go.Proofs.YtjlfpkgjcffilaaGreatDoor
open Go.Vc


end Go.Proofs.YtjlfpkgjcffilaaGreatDoor
end

/-
  A sink: New, copies of lines, List, taking a batch: walked.
-/
section
set_option linter.unusedVariables false
set_option linter.unusedSimpArgs false
namespace Go.Proofs.YtjlfpkgjcffilaaGreatDoor
open Go.Vc


def newOk (kind : Int) (key : List Int) : Bool := !decide (kind < 0) && (!decide (3 ≤ kind) && (!decide ((0 : Int) < key.length) || (decide (kind = 1) && !decide (minZ key < 0))))
abbrev newK (kind : Int) (key : List Int) : SkD := ⟨kind, key, [], [], 0, []⟩

theorem skq_of {q : KP} {st : SkD} {W w : World} {S : List Own} {Φ : PW} (c : Ctx W w (SkO q st ++ S) Φ) (hk : st.key.length ≤ q.kc ∧ q.kc ≤ maxLen) (ha : st.aside.length ≤ q.ac ∧ q.ac ≤ maxLen) : SkQ q st where
  lpt := fun h => by
    obtain ⟨g, hg, _⟩ := c.bufCell 2 rfl (by rw [(c.bufLen 2 rfl).1]; omega)
    exact ⟨g, hg⟩
  bpt := fun h => by
    obtain ⟨g, hg, _⟩ := c.bufCell 1 rfl (by rw [(c.bufLen 1 rfl).1]; omega)
    exact ⟨g, hg⟩
  lcap := (c.bufLen 2 rfl).2
  bcap := (c.bufLen 1 rfl).2
  kcap := hk
  acap := ha
  len := (c.bufLen 2 rfl).1
/-- an owned slice of lines is let go -/
theorem Ctx.freezeAt {W w : World} {A B G : List Own} {Φ : PW} [Stable Φ] {p : Option Addr} {n cap : Nat} {cs : List Value} {l : List LineD} (c : Ctx W w ((A ++ (bufL p n cap cs :: B)) ++ G) Φ) (he : ∀ M w, Φ M w → Elems M w cs l) : Ctx W w ((A ++ B) ++ G) (fun M w => Φ M w ∧ Sl M w p l) := by
  have c1 : Ctx W w (bufL p n cap cs :: ((A ++ B) ++ G)) Φ := c.perm (by simp)
  obtain ⟨c2, hs, _⟩ := Ctx.freeze (α := LineD) c1 (he _ _ c1.phi)
  exact c2.add hs

section
variable {Φ : PW} {q : KP} {st : SkD} {W w : World} {R S G : List Own} {p : Option Addr} {cap : Nat} {l : List LineD} {cs : List Value}

set_option maxHeartbeats 1000000 in
theorem CloneK_new [Stable Φ] (src : Src S Φ p l cs) (hlen : l.length ≤ 1000000) (hrow : ∀ x ∈ l, x.row.length ≤ 1000000) (c : Ctx W w S Φ) :
    Calls Tryz.prog F.sink_clone #[.slice p l.length cap] w fun e w' => ∃ p' c' cs', e = .returned (.slice p' l.length c') ∧ Ctx W w' (bufL p' l.length c' cs' :: S) (fun M w => Φ M w ∧ Elems M w cs' l) := by
  refine (Bsink_clone_run p l.length cap (J := fun v w' => ∃ p' c' cs', v = .slice p' l.length c' ∧ Ctx W w' (bufL p' l.length c' cs' :: S) (fun M w => Φ M w ∧ Elems M w cs' l)) c ?_).mono fun e w' ⟨v, he, p', c', cs', hv, rest⟩ => ⟨p', c', cs', by rw [he, hv], rest⟩
  clear c
  refine fun w G c => (CloneL_new (S := S ++ G) src.app hlen c).mono fun e w' ⟨p1, c1, cs1, he, cx⟩ => ⟨p1, l.length, c1, he, bufL p1 l.length c1 cs1 :: S, (fun M w => Φ M w ∧ Elems M w cs1 l), inferInstance, cx, ?_⟩
  clear c
  have hel := cx.phi.2
  have hpt : 0 < l.length → ∃ g, p1 = some ⟨g, 0, none⟩ := fun h0 => l_ptr cx (by rw [elems_len7 hel]; omega)
  clear cx hel
  refine exI_mk (fun iI R' Φ' m => ∃ i cs2, iI = (i : Nat) ∧ i ≤ l.length ∧ R' = bufL p1 l.length c1 cs2 :: S ∧ Φ' = (fun M w => Φ M w ∧ Elems M w cs2 l) ∧ m = l.length - i) ⟨⟨_, _, _, instStableAnd Φ (fun M w => Elems M w cs1 l), fun w G cx => cx, 0, cs1, rfl, Nat.zero_le _, rfl, rfl, rfl⟩, ?_⟩
  rintro iI R1 Φ1 m _ ⟨i, cs2, rfl, hi, rfl, rfl, rfl⟩
  refine Br.intro (fun hlt => ?_) (fun hge => fun w G cx => ⟨p1, c1, cs2, rfl, cx.left⟩)
  have hlt : i < l.length := by have := of_decide_eq_true hlt; omega
  obtain ⟨g, rfl⟩ := hpt (by omega)
  have hst : Stable (fun M w => Φ M w ∧ Elems M w cs2 l) := instStableAnd Φ (fun M w => Elems M w cs2 l)
  refine ⟨by omega, ptrK_intro g 0 rfl fun w G cx => ?_⟩
  obtain ⟨p0, c0, hp, _, _, _, _⟩ := lrow cx.phi.2 hlt
  refine ⟨l[i].no, l[i].batch, l[i].time, p0, l[i].row.length, c0, l[i].n, l[i].cause, l[i].why, ?_, fun _ w G cx => ?_⟩
  · have := l_at (W := W) (w := w) (Φ := fun M w => Φ M w ∧ Elems M w cs2 l) (S := S ++ G) cx hp
    rw [show 0 + (i : Int).toNat * 7 = i * 7 by omega]
    exact this
  have hrd : ∀ M w, (Φ M w ∧ Elems M w cs2 l) → Sl M w p0 l[i].row := fun M w h => by
    have := h.2.2 i hlt
    rw [show (Gv.ty LineD).size = 7 from rfl, hp] at this
    exact line_row this
  have hh : Has (fun M w => Φ M w ∧ Elems M w cs2 l) (fun M w => Sl M w p0 l[i].row) := ⟨hrd⟩
  refine (CloneV_sl (r := l[i].row) (hrow _ (List.getElem_mem _))).to cx fun p3 c3 f1 f2 st3 => ?_
  clear cx
  refine ⟨by omega, ptrK_intro g 0 rfl fun w G cx => ⟨?_, fun w2 hw2 => ?_⟩⟩
  · have hl := elems_len7 cx.phi.1.2
    exact l_can (S := S ++ G) cx (by omega)
  · have cx2 : Ctx W w (bufL (some ⟨g, 0, none⟩) l.length c1 cs2 :: (S ++ G)) (fun M w => (Φ M w ∧ Sl M w p3 l[i].row) ∧ Elems M w cs2 l) := cx.weak fun M w h => ⟨⟨h.1.1, h.2⟩, h.1.2⟩
    have st5 : Stable (fun M w => Sl M w p3 l[i].row) := instStableSl p3 l[i].row
    have st4 : Stable (fun M w => Φ M w ∧ Sl M w p3 l[i].row) := @instStableAnd Φ (fun M w => Sl M w p3 l[i].row) _ st5
    obtain ⟨cs3, cx3⟩ := l_row (w' := w2) (Φ := fun M w => Φ M w ∧ Sl M w p3 l[i].row) cx2 hlt f1 f2 (fun M w h => h.2) (by rw [hw2]; congr 2; omega)
    exact ⟨bufL (some ⟨g, 0, none⟩) l.length c1 cs3 :: S, _, instStableAnd Φ (fun M w => Elems M w cs3 l), cx3.weak fun M w h => ⟨h.1.1, h.2⟩, by unfold I64; omega, _, _, l.length - (i + 1), instStableAnd Φ (fun M w => Elems M w cs3 l), fun w G cx => cx, ⟨i + 1, cs3, rfl, hlt, rfl, rfl, rfl⟩, by omega⟩

theorem CloneK_sl [Stable Φ] [hΦ : Has Φ (fun M w => Sl M w p l)] (hlen : l.length ≤ 1000000) (hrow : ∀ x ∈ l, x.row.length ≤ 1000000) : GivesSl Φ Tryz.prog F.sink_clone #[.slice p l.length cap] l id :=
  .there (fun M w h => (hΦ.go M w h).there) fun hth => ⟨fun W w S c => by
    obtain ⟨cs, c1⟩ := srcOf c (hΦ.go _ _ c.phi)
    refine (CloneK_new (S := S) (Φ := fun M w => Φ M w ∧ SrcF p l cs M w) (src_fact (Φ := fun M w => Φ M w ∧ SrcF p l cs M w) hth (fun M w h => h.2)).app hlen hrow c1).mono fun e w' ⟨p', c', cs', he, cx⟩ => ?_
    obtain ⟨c2, hs, _, h2, h3⟩ := Ctx.freeze (α := LineD) cx cx.phi.2
    exact ⟨p', c', he, h2, h3, (c2.add hs).weak fun M w h => ⟨h.1.1.1, h.2⟩⟩⟩

theorem CloneZ_sl [Stable Φ] {l : List Int} [hΦ : Has Φ (fun M w => Sl M w p l)] (hlen : l.length ≤ 10000000) : GivesSl Φ Tryz.prog F.slices_Clone_int_int #[.slice p l.length cap] l id :=
  ⟨fun W w S c => (CloneZ_in (Φ := Φ) (cap := cap) hΦ.go (by omega)).use c fun p1 cap1 ds w cx => by
    obtain ⟨c2, hs, _, h2, h3⟩ := Ctx.freeze (α := Int) cx cx.phi.2
    exact ⟨p1, cap1, rfl, h2, h3, (c2.add hs).weak fun M w h => ⟨h.1.1, h.2⟩⟩⟩

/-! ### New -/
theorem new_i (kind : Int) (key : List Int) : SkI (newK kind key) := ⟨List.Pairwise.nil, by simp, by simp, by simp⟩

theorem New_to [Stable Φ] {kind : Int} {key : List Int} [hΦ : Has Φ (fun M w => Sl M w p key)] (hlen : key.length ≤ 10000000) (c : Ctx W w (R ++ G) Φ) {K : Option Addr → List Own → PW → Prop}
    (h0 : newOk kind key = false → K none R Φ)
    (h1 : ∀ q : KP, newOk kind key = true → SkQ q (newK kind key) → Stable (fun M w => Φ M w ∧ SkF q (newK kind key) M w) → K (some ⟨q.sb, 0, none⟩) (SkO q (newK kind key) ++ R) (fun M w => Φ M w ∧ SkF q (newK kind key) M w)) :
    Calls Tryz.prog F.sink_New #[.int .i64 kind, .slice p key.length cap] w fun e w' => ∃ p, e = .returned (.pointer p) ∧ ∃ R' Φ', Stable Φ' ∧ Ctx W w' (R' ++ G) Φ' ∧ K p R' Φ' := by
  refine (Bsink_New_run kind p key.length cap (R := R ++ G) (J := fun v w' => ∃ p, v = .pointer p ∧ ∃ R' Φ', Stable Φ' ∧ Ctx W w' (R' ++ G) Φ' ∧ K p R' Φ') c ?_).mono fun e w' ⟨v, he, p, hv, rest⟩ => ⟨p, by rw [he, hv], rest⟩
  clear c
  have bad : newOk kind key = false → ∀ {w : World} {G2 : List Own}, Ctx W w ((R ++ G) ++ G2) Φ → ∃ p, Value.pointer none = .pointer p ∧ ∃ R' Φ', Stable Φ' ∧ Ctx W w (R' ++ G) Φ' ∧ K p R' Φ' := fun h {w G2} cx => ⟨none, rfl, R, Φ, inferInstance, cx.left, h0 h⟩
  have good : newOk kind key = true → ∀ {w : World} {G2 : List Own}, Ctx W w ((R ++ G) ++ G2) Φ → Calls Tryz.prog F.slices_Clone_int_int #[.slice p key.length cap] w fun e17 w18 => ∃ (p19 : Option Addr), ∃ (k20 : Nat), ∃ (k21 : Nat), e17 = .returned (.slice p19 k20 k21) ∧ ∃ (R22 : List Own), ∃ (Φ23 : PW), Stable Φ23 ∧ Ctx W w18 (R22 ++ G2) Φ23 ∧ ∀ (k24 : Nat) (w25 : World) (R26 : List Own), Ctx W w25 (Own.blk k24 [.int .i64 kind, .slice p19 k20 k21, .slice none 0 0, .slice none 0 0, .int .i64 0, .slice none 0 0] 69 :: R22 ++ R26) Φ23 → ∃ p, Value.pointer (some (Addr.mk k24 0 none)) = .pointer p ∧ ∃ R' Φ', Stable Φ' ∧ Ctx W w25 (R' ++ G) Φ' ∧ K p R' Φ' := fun h {w G2} cx => by
    refine (CloneZ_sl (l := key) hlen).to cx fun p1 c1 g1 g2 st1 => ?_
    intro k w3 G3 cx
    have cx := Ctx.left (S := .blk k _ 69 :: (R ++ G)) (F := G3) cx
    have c2 := (cx.nobuf 46 7).nobuf 3 1
    obtain ⟨q, hqe⟩ : ∃ q : KP, q = ⟨k, p1, c1, none, 0, none, 0, [], none, 0⟩ := ⟨_, rfl⟩
    have c3 : Ctx W w3 ((SkO q (newK kind key) ++ R) ++ G) (fun M w => Φ M w ∧ SkF q (newK kind key) M w) := by
      rw [hqe]
      refine Ctx.weak (Φ := fun M w => Φ M w ∧ Sl M w p1 key) (c2.perm ?_) fun M w h => ⟨h.1, Elems.nil, h.2, fun i hi => absurd hi (by simp)⟩
      exact (List.Perm.trans (List.perm_middle (l₁ := [_, _]) (a := _)) (List.Perm.refl _))
    have hq : SkQ q (newK kind key) := skq_of (S := R ++ G) (c3.re (by simp)) (by rw [hqe]; exact ⟨g1, g2⟩) (by rw [hqe]; exact ⟨Nat.le_refl _, Nat.zero_le _⟩)
    have := h1 q h hq inferInstance
    refine ⟨some ⟨k, 0, none⟩, rfl, SkO q (newK kind key) ++ R, _, inferInstance, c3, ?_⟩
    rw [show k = q.sb by rw [hqe]]
    exact this
  unfold newOk at bad good
  refine Br.intro (fun h => fun w G2 cx => bad (by rw [h]; rfl) cx) (fun a1 => ?_)
  rw [a1] at bad good
  refine Br.intro (fun h => fun w G2 cx => bad (by rw [h]; rfl) cx) (fun a2 => ?_)
  rw [a2] at bad good
  refine Br.intro (fun h3 => ?_) (fun h3 => fun w G2 cx => good (by rw [h3]; rfl) cx)
  rw [h3] at bad good
  refine Br.intro (fun h => fun w G2 cx => bad (by rw [decide_eq_false (of_decide_eq_true h)]; rfl) cx) (fun a4 => fun w G2 cx => ?_)
  have h3 := of_decide_eq_true h3
  rw [decide_eq_true (Decidable.not_not.1 (of_decide_eq_false a4))] at bad good
  refine (Min_in (l := key) (by omega) hlen).toI cx ?_
  clear cx
  exact Br.intro (fun h => fun w G2 cx => bad (by rw [h]; rfl) cx) (fun a5 => fun w G2 cx => good (by rw [a5]; rfl) cx)

/-! ### List, take -/
theorem src_sk (hq : SkQ q st) (hF : ∀ M w, Φ M w → Elems M w q.cs st.lines) : Src (SkO q st) Φ q.lp st.lines q.cs where
  ptr := fun h => by obtain ⟨g, hg⟩ := hq.lpt h; exact ⟨g, 0, hg⟩
  rd := fun {W w G b o} e c j v hj => by
    have hjl : j < q.cs.length := (List.getElem?_eq_some_iff.1 hj).1
    have := hq.len
    obtain ⟨g, hg⟩ := hq.lpt (by omega)
    rw [hg] at e
    cases e
    rw [Nat.zero_add]
    exact c.bufGet 2 rfl hg hj
  el := fun M w h => hF M w h
theorem List_to [Stable Φ] [hF : Has Φ (SkF q st)] (hq : SkQ q st) (hI : SkI st) {n : Nat} (hs : SkS st n) (hn : n ≤ 400000) (c : Ctx W w ((SkO q st ++ R) ++ G) Φ) {K : Option Addr → Nat → Nat → List Own → PW → Prop}
    (hk : ∀ p c cs, (0 < st.lines.length → ∃ g, p = some ⟨g, 0, none⟩) → Stable (fun M w => Φ M w ∧ Elems M w cs st.lines) → K p st.lines.length c (SkO q st ++ (bufL p st.lines.length c cs :: R)) (fun M w => Φ M w ∧ Elems M w cs st.lines)) :
    Calls Tryz.prog F.sink_Sink_List #[snk q] w fun e w' => ∃ p n c, e = .returned (.slice p n c) ∧ ∃ R' Φ', Stable Φ' ∧ Ctx W w' (R' ++ G) Φ' ∧ K p n c R' Φ' := by
  have hl := hs.lines
  refine (Bsink_Sink_List_run q.sb 0 (R := (SkO q st ++ R) ++ G) (J := fun v w' => ∃ p n c, v = .slice p n c ∧ ∃ R' Φ', Stable Φ' ∧ Ctx W w' (R' ++ G) Φ' ∧ K p n c R' Φ') c ?_).mono fun e w' ⟨v, he, p, n, c, hv, rest⟩ => ⟨p, n, c, by rw [he, hv], rest⟩
  clear c
  refine fun w G2 cx => ⟨_, _, _, sk_cell (R := R ++ G) (G := G2) (i := 3) (cx.re (by simp)) rfl, fun w G2 cx => (CloneK_new (S := ((SkO q st ++ R) ++ G) ++ G2) (src_sk (Φ := Φ) hq fun M w h => (hF.go M w h).1).app.app.app (by omega) (fun x hx => by have := right_len (hI.row x hx); omega) cx).mono fun e w' ⟨p1, c1, cs1, he, cx⟩ => ⟨p1, st.lines.length, c1, he, bufL p1 st.lines.length c1 cs1 :: ((SkO q st ++ R) ++ G), _, inferInstance, cx, fun w G3 cx => ?_⟩⟩
  have hel := cx.phi.2
  have hpt : 0 < st.lines.length → ∃ g, p1 = some ⟨g, 0, none⟩ := fun h0 => l_ptr cx (by rw [elems_len7 hel]; omega)
  refine ⟨p1, st.lines.length, c1, rfl, SkO q st ++ (bufL p1 st.lines.length c1 cs1 :: R), _, inferInstance, ?_, hk p1 c1 cs1 hpt inferInstance⟩
  exact (Ctx.left (S := bufL p1 st.lines.length c1 cs1 :: ((SkO q st ++ R) ++ G)) cx).perm (by simpa using (List.perm_middle (l₁ := SkO q st) (a := bufL p1 st.lines.length c1 cs1) (l₂ := R ++ G)).symm)
/-- lines, of which nothing is written later -/
theorem List_sl [Stable Φ] [hF : Has Φ (SkF q st)] (hq : SkQ q st) (hI : SkI st) {n : Nat} (hs : SkS st n) (hn : n ≤ 400000) : GivesQSl (SkO q st) Φ Tryz.prog F.sink_Sink_List #[snk q] st.lines := by
  have hl := hs.lines
  exact gives_qsl (Bsink_Sink_List_run q.sb 0) fun W R => fun w G cx => ⟨_, _, _, sk_cell (i := 3) cx rfl, fun w G cx =>
    (CloneK_new (S := (SkO q st ++ R) ++ G) (src_sk (Φ := Φ) hq fun M w h => (hF.go M w h).1).app.app (by omega) (fun x hx => by have := right_len (hI.row x hx); omega) cx).mono fun e w' ⟨p', c', cs', he, cx⟩ => by
      obtain ⟨c2, hs, _, h2, h3⟩ := Ctx.freeze (α := LineD) cx cx.phi.2
      exact ⟨p', _, c', he, (SkO q st ++ R), _, inferInstance, (c2.add hs).weak fun M w h => ⟨h.1.1, h.2⟩, fun w G cx => ⟨p', c', rfl, h2, h3, cx.left⟩⟩⟩
end
end Go.Proofs.YtjlfpkgjcffilaaGreatDoor
end

/-
  The conditions of the walks of some functions, one formula each; 'B<f>_run' says that they suffice. The formulas are printed by a program; the kernel compares them with the functions' code.
-/
section
namespace Go.Proofs.YtjlfpkgjcffilaaGreatDoor
set_option linter.unusedVariables false
set_option linter.unusedSimpArgs false
set_option maxRecDepth 100000
open Go.Vc

end Go.Proofs.YtjlfpkgjcffilaaGreatDoor
end

/-
  The walks of the reference's comparisons; Equal.
-/
section
set_option linter.unusedVariables false
set_option linter.unusedSimpArgs false
namespace Go.Proofs.YtjlfpkgjcffilaaGreatDoor
open Go.Vc

theorem bytesLess_cmp : ∀ a b : List UInt8, Op.bytesLess a b = decide (Lib.compareBytes a b < 0)
  | [], [] => by simp [Op.bytesLess, Lib.compareBytes]
  | [], _ :: _ => by simp [Op.bytesLess, Lib.compareBytes]
  | _ :: _, [] => by simp [Op.bytesLess, Lib.compareBytes]
  | a :: ar, b :: br => by
    unfold Op.bytesLess Lib.compareBytes
    rw [bytesLess_cmp ar br]
    by_cases h1 : a < b
    · simp [h1]
    · by_cases h2 : b < a
      · rw [if_neg h1, if_pos h2]
        have : a ≠ b := fun e => by subst e; exact h1 h2
        simp [h1, this]
      · have : a = b := by
          have h1' : ¬ a.toNat < b.toNat := h1
          have h2' : ¬ b.toNat < a.toNat := h2
          exact UInt8.toNat_inj.1 (by omega)
        rw [if_neg h1, if_neg h2]
        simp [this]

theorem compareBytes_zero (a b : List UInt8) : Lib.compareBytes a b = 0 ↔ a = b := bytes_cmp.eq a b
theorem compareBytes_bd (a b : List UInt8) : -1 ≤ Lib.compareBytes a b ∧ Lib.compareBytes a b ≤ 1 := bytes_cmp.bd a b
theorem cmpT_less (a b : ByteArray) : Op.bytesLess a.toList b.toList = decide (cmpT a b < 0) := by rw [bytesLess_cmp, Lib.toList_data, Lib.toList_data]; rfl
theorem cmpT_gtr (a b : ByteArray) : (!(Op.bytesLess a.toList b.toList || a.toList == b.toList)) = decide (0 < cmpT a b) := by
  rw [cmpT_less]
  have h2 : (a.toList == b.toList) = decide (cmpT a b = 0) := by
    rw [Bool.eq_iff_iff, beq_iff_eq, decide_eq_true_eq]
    unfold cmpT
    rw [compareBytes_zero, Lib.toList_data, Lib.toList_data]
  rw [h2]
  by_cases h : cmpT a b < 0
  · simp [h]; omega
  · by_cases h' : cmpT a b = 0
    · simp [h']
    · rw [decide_eq_false h, decide_eq_false h', decide_eq_true (show 0 < cmpT a b by omega)]; rfl

theorem orI_cons (x : Int) (r : List Int) : orI (x :: r) = if x ≠ 0 then x else orI r := rfl

theorem rcmpV_g (x y : ValD) : Gives Tryz.prog F.errataref03_Compare #[x.v, y.v] (.int .i64 (cmpV x y)) := by
  refine gives_of (Berrataref03_Compare_run x.kind x.num x.text y.kind y.num y.text) fun W R Φ _ => ?_
  have h3 := compareBytes_bd x.text.data.toList y.text.data.toList
  unfold cmpV cmpL
  rw [orI_cons, orI_cons, orI_cons]
  refine fun _ _ => Br.intro (fun h => fun w G c => ⟨?_, c.left⟩) (fun h => Br.intro (fun h2 => fun w G c => ⟨?_, c.left⟩) (fun h2 => Br.intro (fun h3 => fun w G c => ⟨?_, c.left⟩) (fun h3 => Br.intro (fun h4 => fun w G c => ⟨?_, c.left⟩) (fun h4 => Br.intro (fun h5 => fun w G c => ⟨?_, c.left⟩) (fun h5 => ⟨_, fun w => by rw [binOp_string_gtr]; rfl, Br.intro (fun h6 => fun w G c => ⟨?_, c.left⟩) (fun h6 => fun w G c => ⟨?_, c.left⟩)⟩)))))
  · have h := of_decide_eq_true h
    have : cmpI x.kind y.kind = -1 := by unfold cmpI; rw [if_pos h]
    rw [this]; rfl
  all_goals have h := of_decide_eq_false h
  · have h2 := of_decide_eq_true h2
    have : cmpI x.kind y.kind = 1 := by unfold cmpI; rw [if_neg h, if_pos h2]
    rw [this]; rfl
  all_goals have h2 := of_decide_eq_false h2
  all_goals have e1 : cmpI x.kind y.kind = 0 := by unfold cmpI; rw [if_neg h, if_neg h2]
  all_goals rw [e1]
  · have h3 := of_decide_eq_true h3
    have : cmpI x.num y.num = -1 := by unfold cmpI; rw [if_pos h3]
    rw [this]; rfl
  all_goals have h3 := of_decide_eq_false h3
  · have h4 := of_decide_eq_true h4
    have : cmpI x.num y.num = 1 := by unfold cmpI; rw [if_neg h3, if_pos h4]
    rw [this]; rfl
  all_goals have h4 := of_decide_eq_false h4
  all_goals have e2 : cmpI x.num y.num = 0 := by unfold cmpI; rw [if_neg h3, if_neg h4]
  all_goals rw [e2]
  · have h5 : Op.bytesLess x.text.toList y.text.toList = true := h5
    rw [cmpT_less] at h5
    have h5 := of_decide_eq_true h5
    have : cmpT x.text y.text = -1 := by have : -1 ≤ cmpT x.text y.text := (compareBytes_bd _ _).1; omega
    rw [this]; rfl
  all_goals have h5 : Op.bytesLess x.text.toList y.text.toList = false := h5
  all_goals rw [cmpT_less] at h5
  all_goals have h5 := of_decide_eq_false h5
  · rw [cmpT_gtr] at h6
    have h6 := of_decide_eq_true h6
    have : cmpT x.text y.text = 1 := by have : cmpT x.text y.text ≤ 1 := (compareBytes_bd _ _).2; omega
    rw [this]; rfl
  · rw [cmpT_gtr] at h6
    have h6 := of_decide_eq_false h6
    have : cmpT x.text y.text = 0 := by omega
    rw [this]; rfl

theorem cmpR_nil {l r : List ValD} {i : Nat} (h : l.length ≤ i) (hr : r.length ≤ i) : cmpR (l.drop i) (r.drop i) = 0 := by
  rw [List.drop_of_length_le h, List.drop_of_length_le hr]; rfl
theorem cmpR_right {l r : List ValD} {i : Nat} (hi : l.length ≤ i) (hr : i < r.length) : cmpR (l.drop i) (r.drop i) = -1 := by
  rw [List.drop_eq_getElem_cons hr, List.drop_of_length_le hi]; rfl

theorem rCompareRows_in {Φ : PW} [Stable Φ] (p q : Option Addr) (cap cap2 : Nat) (l r : List ValD) (hΦ : ∀ M w, Φ M w → Sl M w p l) (hΨ : ∀ M w, Φ M w → Sl M w q r) (hlen : l.length ≤ 9223372036854775807) :
    GivesIn Φ Tryz.prog F.errataref03_CompareRows #[.slice p l.length cap, .slice q r.length cap2] (.int .i64 (cmpR l r)) := by
  refine .there (fun M w h => (hΦ M w h).there) fun hth => .there (fun M w h => (hΨ M w h).there) fun hth2 => ?_
  refine gives_in (Berrataref03_CompareRows_run p l.length cap q r.length cap2) fun W R => ?_
  refine exI_mk (fun n R' Φ' k => ∃ i : Nat, n = i ∧ i ≤ l.length ∧ i ≤ r.length ∧ R' = R ∧ Φ' = Φ ∧ k = l.length - i ∧ cmpR l r = cmpR (l.drop i) (r.drop i)) ⟨⟨R, Φ, _, inferInstance, fun w F c => c, 0, rfl, Nat.zero_le _, Nat.zero_le _, rfl, rfl, rfl, rfl⟩, ?_⟩
  rintro n R1 Φ1 k _ ⟨i, rfl, hi, hr, rfl, rfl, rfl, hcm⟩
  refine fun w G cx => Br.intro (fun hlt => ?_) (fun hge => ?_)
  · rw [Bool.and_eq_true] at hlt
    have hl : i < l.length := by have := of_decide_eq_true hlt.1; omega
    have hr2 : i < r.length := by have := of_decide_eq_true hlt.2; omega
    obtain ⟨b, o, rfl⟩ := hth (by omega)
    obtain ⟨b2, o2, rfl⟩ := hth2 (by omega)
    rw [cmpR_both hl hr2] at hcm
    refine ⟨R1, Φ1, inferInstance, fun _ _ c => c, by omega, ptrK_intro b o rfl ⟨by omega, ptrK_intro b2 o2 rfl ⟨l[i].kind, l[i].num, l[i].text, fun w G cx => ⟨_, _, _, sl_val (hΦ _ _ cx.phi) hl, rfl⟩, r[i].kind, r[i].num, r[i].text, fun w G cx => ⟨_, _, _, sl_val (hΨ _ _ cx.phi) hr2, rfl⟩, fun w G cx => (rcmpV_g l[i] r[i]).use cx fun w cx => ⟨_, rfl, R1, Φ1, inferInstance, cx,
      Br.intro (fun hn => fun w F cx => ⟨?_, cx.left⟩) (fun hn => ⟨by unfold I64; omega, R1, Φ1, l.length - (i + 1), inferInstance, fun w F c => c, ⟨i + 1, rfl, hl, hr2, rfl, rfl, rfl, ?_⟩, by omega⟩)⟩⟩⟩⟩
    · have hn : cmpV l[i] r[i] ≠ 0 := by simpa using hn
      rw [hcm, if_pos hn]
    · have hn : ¬ cmpV l[i] r[i] ≠ 0 := by simpa using hn
      rw [hcm, if_neg hn]
  · have hge : l.length ≤ i ∨ r.length ≤ i := by
      rw [Bool.and_eq_false_iff] at hge
      rcases hge with h | h
      · left; have := of_decide_eq_false h; omega
      · right; have := of_decide_eq_false h; omega
    refine Br.intro (fun h => fun w G cx => ⟨?_, cx.left⟩) (fun h => Br.intro (fun h2 => fun w G cx => ⟨?_, cx.left⟩) (fun h2 => fun w G cx => ⟨?_, cx.left⟩))
    · have h := of_decide_eq_true h
      rw [hcm, cmpR_right (by omega) (by omega)]
    · have h2 := of_decide_eq_true h2
      rw [hcm, cmpR_left (by omega) (by omega)]
    · have h := of_decide_eq_false h
      have h2 := of_decide_eq_false h2
      rw [hcm, cmpR_nil (by omega) (by omega)]

/-! ### Equal -/
end Go.Proofs.YtjlfpkgjcffilaaGreatDoor
end

/-
  Find, IndexFunc, walked.
-/
section
set_option linter.unusedVariables false
set_option linter.unusedSimpArgs false
namespace Go.Proofs.YtjlfpkgjcffilaaGreatDoor
open Go.Vc


/-! ### Find, Count -/
def findI {α : Type} (p : α → Bool) : Nat → List α → Int
  | _, [] => -1
  | i, x :: r => if p x = true then (i : Int) else findI p (i + 1) r

theorem findI_drop {α : Type} (p : α → Bool) (l : List α) (i : Nat) (hi : i < l.length) : findI p i (l.drop i) = if p l[i] = true then (i : Int) else findI p (i + 1) (l.drop (i + 1)) := by
  rw [List.drop_eq_getElem_cons hi]; rfl
theorem findI_any {α : Type} (p : α → Bool) : ∀ (l : List α) (i : Nat), decide (0 ≤ findI p i l) = l.any p
  | [], _ => rfl
  | x :: r, i => by
    unfold findI
    rw [List.any_cons]
    cases h : p x with
    | true => simp
    | false => simp only [Bool.false_or]; rw [if_neg (by simp)]; exact findI_any p r (i + 1)

end Go.Proofs.YtjlfpkgjcffilaaGreatDoor
end

/-
  DeleteFunc, Upto, After, walked.
-/
section
set_option linter.unusedVariables false
set_option linter.unusedSimpArgs false
namespace Go.Vc
section
variable {P : Program} {W w w' : World} {S F : List Own} {Φ Ψ : PW}

end
end Go.Vc

namespace Go.Proofs.YtjlfpkgjcffilaaGreatDoor
open Go.Vc


/-! ### Upto, After -/
end Go.Proofs.YtjlfpkgjcffilaaGreatDoor
end

/-
  Consolidated, walked; DifferenceLeast in plain Lean, and walked.
-/
section
set_option linter.unusedVariables false
set_option linter.unusedSimpArgs false
namespace Go.Proofs.YtjlfpkgjcffilaaGreatDoor
open Go.Vc


def consAt (l : List DeltaD) (j : Nat) : Bool := match l[j]? with
  | none => false
  | some y => decide (y.n ≠ 0) && match j with
    | 0 => true
    | i + 1 => match l[i]? with
      | none => false
      | some x => decide (cmpD x y < 0)
def consolidated (l : List DeltaD) : Bool := (List.range l.length).all fun j => consAt l j

end Go.Proofs.YtjlfpkgjcffilaaGreatDoor
end

/-
  The reference's sorting: in plain Lean, and walked.
-/
section
set_option linter.unusedVariables false
set_option linter.unusedSimpArgs false
namespace Go.Proofs.YtjlfpkgjcffilaaGreatDoor
open Go.Vc


/-! ### in plain Lean -/
/-! ### walked -/
/-- the cells of a pinned list -/
theorem Ctx.cells {W w : World} {S : List Own} {Φ : PW} {g o : Nat} {cs : List (List Value)} {l : List DeltaD} (c : Ctx W w S Φ) (h : ∀ M w, Φ M w → Pin g o cs l M w) :
    ∀ j, (hj : j < l.length) → ∃ p c, cs.getD j [] = l[j].cells p c ∧ l[j].row.length ≤ c ∧ c ≤ maxLen ∧ I64 l[j].time ∧ I64 l[j].n := fun j hj => by
  obtain ⟨p, q, h1, h2, h3, h4, h5, _⟩ := pin_delta (h _ _ c.phi) hj
  exact ⟨p, q, h1, h2, h3, h4, h5⟩

end Go.Proofs.YtjlfpkgjcffilaaGreatDoor
end

/-
  The reference's consolidation, and what is built upon it, walked.
-/
section
set_option linter.unusedVariables false
set_option linter.unusedSimpArgs false
namespace Go.Proofs.YtjlfpkgjcffilaaGreatDoor
open Go.Vc


/-! ### in plain Lean -/
def dz (x : DeltaD) : DE := ⟨x, none, 0⟩
theorem dz_d (s : List DeltaD) : (s.map dz).map DE.d = s := by
  rw [List.map_map]
  exact List.map_id s
abbrev CO (l s outs : List DeltaD) (i : Nat) : Prop := COuter l (s.map dz) (outs.map dz) i
theorem CO.start {l s : List DeltaD} (h : s.Perm l) : CO l s [] 0 :=
  ⟨Nat.zero_le _, Norm.nil, by simp, fun k => by rw [List.drop_zero, dz_d, dz_d]; exact findP_perm h k, Nat.le_refl _⟩
theorem CO.step {l s outs : List DeltaD} {i : Nat} (h : CO l s outs i) {X : DeltaD} (hX : X ∈ s.drop i) {j : Nat} (hij : i + j ≤ s.length) (hj : 1 ≤ j) (hk : ∀ y ∈ (s.drop i).take j, y.key = X.key) {N : Int} (hN : N = findP ((s.drop i).take j) X.key)
    (hgt : ∀ y ∈ s.drop (i + j), cmpK X.key y.key < 0) : (N = 0 → CO l s outs (i + j)) ∧ (N ≠ 0 → CO l s (outs ++ [⟨X.time, X.row, N⟩]) (i + j)) := by
  have h1 := COuter.step h (X := dz X) (by rw [← List.map_drop]; exact List.mem_map_of_mem hX) (j := j) (by rw [List.length_map]; exact hij) hj
    (fun y hy => by rw [← List.map_drop, ← List.map_take] at hy; obtain ⟨z, hz, rfl⟩ := List.mem_map.1 hy; exact hk z hz) (N := N) (by rw [← List.map_drop, ← List.map_take, dz_d]; exact hN)
    (fun y hy => by rw [← List.map_drop] at hy; obtain ⟨z, hz, rfl⟩ := List.mem_map.1 hy; exact hgt z hz)
  refine ⟨h1.1, fun h0 => ?_⟩
  have := h1.2 h0 none 0
  unfold CO
  rw [List.map_append]
  exact this
theorem CO.end {l s outs : List DeltaD} (h : CO l s outs s.length) : consP l = outs := by
  have h1 := h.norm
  have h2 := h.find
  rw [dz_d] at h1 h2
  refine consP_is h1 fun k => ?_
  have := h2 k
  rwa [← List.map_drop, List.drop_length, List.map_nil, List.map_nil, List.append_nil] at this
theorem CO.few {l s outs : List DeltaD} {i : Nat} (h : CO l s outs i) : outs.length ≤ i := by
  have := COuter.few h
  rwa [List.length_map] at this

end Go.Proofs.YtjlfpkgjcffilaaGreatDoor
end

/-
  Nets of lines, out of a slice that is told or owned; Net, Upto, At; Lines; the reference's net.
-/
section
set_option linter.unusedVariables false
set_option linter.unusedSimpArgs false
namespace Go.Proofs.YtjlfpkgjcffilaaGreatDoor
open Go.Vc


section
variable {Φ : PW} {q : LP} {st : LedD} {W w : World} {R S G : List Own} {p : Option Addr} {cap : Nat} {l : List LineD} {cs : List Value}

theorem src_sl (src : Src S Φ p l cs) {i : Nat} (hi : i < l.length) {r : Option Addr} {rc : Nat} (he : (cs.drop (i * 7)).take 7 = l[i].cells r rc) {M : List Nat} (h : Φ M w) : Sl M w r l[i].row := by
  have := (src.el M w h).2 i hi
  rw [show (Gv.ty LineD).size = 7 from rfl, he] at this
  exact line_row this

end
end Go.Proofs.YtjlfpkgjcffilaaGreatDoor
end

/-
  Right rows; what a ledger checks: walked.
-/
section
set_option linter.unusedVariables false
set_option linter.unusedSimpArgs false
namespace Go.Proofs.YtjlfpkgjcffilaaGreatDoor
open Go.Vc


/-! ### right rows -/
theorem vInt_g (n : Int) : Gives Tryz.prog F.value_Int #[.int .i64 n] (.agg #[.int .i64 0, .int .i64 n, .string (ByteArray.mk #[])]) :=
  gives_of (Bvalue_Int_run n) fun W R Φ _ => fun _ w G c => ⟨rfl, c.left⟩
theorem vText_g (s : ByteArray) : Gives Tryz.prog F.value_Text #[.string s] (.agg #[.int .i64 1, .int .i64 0, .string s]) :=
  gives_of (Bvalue_Text_run s) fun W R Φ _ => fun _ w G c => ⟨rfl, c.left⟩
theorem vBool_g (b : Bool) : Gives Tryz.prog F.value_Bool #[.bool b] (.agg #[.int .i64 2, .int .i64 (if b = true then 1 else 0), .string (ByteArray.mk #[])]) :=
  gives_of (Bvalue_Bool_run b) fun W R Φ _ => fun _ => Br.intro (fun h => fun w G c => ⟨by rw [if_pos h], c.left⟩) (fun h => fun w G c => ⟨by rw [if_neg (by rw [h]; simp)], c.left⟩)

theorem vRight_g (x : ValD) : Gives Tryz.prog F.value_Right #[x.v] (.bool (rightV3 x)) := by
  refine gives_of (Bvalue_Right_run x.kind x.num x.text) fun W R Φ _ => fun _ => Br.intro (fun h => ?_) (fun h => Br.intro (fun h2 => ?_) (fun h2 => ?_))
  · refine ⟨R, Φ, inferInstance, fun w G c => c, fun w G cx => (vInt_g x.num).use cx fun w c => ⟨0, x.num, ByteArray.mk #[], rfl, R, Φ, inferInstance, c, fun w G c => c, by kernel_rfl, fun w G c => ⟨?_, c.left⟩⟩⟩
    have h := of_decide_eq_true h
    unfold rightV3
    rw [if_pos h, decide_eq_true h, decide_eq_true rfl, Bool.true_and, Bool.true_and, Bool.and_true]
  · refine ⟨R, Φ, inferInstance, fun w G c => c, fun w G cx => (vText_g x.text).use cx fun w c => ⟨1, 0, x.text, rfl, R, Φ, inferInstance, c, fun w G c => c, by kernel_rfl, ?_⟩⟩
    have h := of_decide_eq_false h
    have h2 := of_decide_eq_true h2
    refine Br.intro (fun h3 => fun w G c => ⟨?_, c.left⟩) (fun h3 => fun w G c => ⟨?_, c.left⟩)
    · unfold rightV3
      rw [if_neg h, if_pos h2]
      have : x.num = 0 := by simp at h3; exact h3.2
      rw [decide_eq_true this, Bool.true_and]
    · unfold rightV3
      rw [if_neg h, if_pos h2]
      have : x.num ≠ 0 := by
        intro e
        rw [decide_eq_true h2, decide_eq_true e, decide_eq_true rfl] at h3
        cases h3
      rw [decide_eq_false this, Bool.false_and]
  · have h := of_decide_eq_false h
    have h2 := of_decide_eq_false h2
    have hr : rightV3 x = (decide (x.kind = 2) && (decide (x.num = 0) || decide (x.num = 1)) && decide (x.text = ByteArray.mk #[])) := by unfold rightV3; rw [if_neg h, if_neg h2]
    refine ⟨R, Φ, inferInstance, fun w G c => c, fun w G cx => (vBool_g false).use cx fun w c => ⟨2, 0, ByteArray.mk #[], rfl, R, Φ, inferInstance, c, fun w G c => c, R, Φ, inferInstance, fun w G c => c, by kernel_rfl, ?_⟩⟩
    refine Br.intro (fun h3 => fun w G c => ⟨?_, c.left⟩) (fun h3 => fun w G cx => (vBool_g true).use cx fun w c => ⟨2, 1, ByteArray.mk #[], rfl, R, Φ, inferInstance, c, fun w G c => c, by kernel_rfl, fun w G c => ⟨?_, c.left⟩⟩)
    · rw [hr]
      simp at h3
      simp [h3]
    · rw [hr]
      congr 1
      by_cases k1 : x.kind = 2
      · by_cases k2 : x.text = ByteArray.mk #[]
        · by_cases k3 : x.num = 0
          · rw [k1, k2, k3] at h3
            simp at h3
          · simp [k1, k2, k3]
        · simp [k2]
      · simp [k1]

section
variable {Φ : PW} {q : LP} {st : LedD} {W w : World} {R S G : List Own} {p : Option Addr} {cap : Nat} {r : List ValD}

theorem all1_g (x : ValD) : Gives Tryz.prog F.value_all_1 #[x.v] (.bool (!rightV3 x)) :=
  gives_of (Bvalue_all_1_run x.kind x.num x.text) fun W R Φ _ => fun _ w G cx => (vRight_g x).use cx fun w c => ⟨_, rfl, R, Φ, inferInstance, c, fun w G c => ⟨rfl, c.left⟩⟩

theorem IndexV_in [Stable Φ] (f : FuncId) (g : ValD → Bool) [hΦ : Has Φ (fun M w => Sl M w p r)] (hlen : r.length ≤ maxLen) (hf : okFun Tryz.prog f = true) (cp : Array Value) (hg : ∀ x : ValD, Gives Tryz.prog f (Array.mk (x.v :: cp.toList)) (.bool (g x))) :
    GivesIn Φ Tryz.prog F.slices_IndexFunc_api_Value_api_Value #[.slice p r.length cap, .func (.func f) #[] cp] (.int .i64 (findI g 0 r)) := by
  refine .there (fun M w h => (hΦ.go M w h).there) fun hth => ?_
  refine gives_in (Bslices_IndexFunc_api_Value_api_Value_run p r.length cap f cp) fun W R => ?_
  refine exI_mk (fun n R' Φ' k => ∃ i : Nat, n = i ∧ i ≤ r.length ∧ R' = R ∧ Φ' = Φ ∧ k = r.length - i ∧ findI g 0 r = findI g i (r.drop i)) ⟨⟨R, Φ, _, inferInstance, fun w F c => c, 0, rfl, Nat.zero_le _, rfl, rfl, rfl, rfl⟩, ?_⟩
  rintro n R1 Φ1 k _ ⟨i, rfl, hi, rfl, rfl, rfl, hor⟩
  refine Br.intro (fun hlt => ?_) (fun hge => fun w F cx => ⟨?_, cx.left⟩)
  · have hlt : i < r.length := by simpa using hlt
    rw [findI_drop g r i hlt] at hor
    obtain ⟨b, o, rfl⟩ := hth (by omega)
    refine ⟨by omega, ptrK_intro b o rfl fun w F cx => ⟨r[i].kind, r[i].num, r[i].text, by rw [Int.toNat_natCast]; exact sl_val (hΦ.go _ _ cx.phi) hlt, fun w F cx => ⟨hf, (hg r[i]).use cx fun w cx => ⟨g r[i], rfl, R1, Φ1, inferInstance, cx, Br.intro (fun h => fun w F cx => ⟨?_, cx.left⟩) (fun h => ⟨by unfold I64; unfold maxLen at hlen; omega, R1, Φ1, r.length - (i + 1), inferInstance, fun w F c => c, ⟨i + 1, rfl, hlt, rfl, rfl, rfl, ?_⟩, by omega⟩)⟩⟩⟩⟩
    · rw [hor, if_pos h]
    · rw [hor, if_neg (by rw [h]; simp)]
  · have hge : i = r.length := Nat.le_antisymm hi (by simpa using hge)
    rw [hor, hge, List.drop_length]
    rfl

theorem RightRow_in [Stable Φ] [hΦ : Has Φ (fun M w => Sl M w p r)] : GivesIn Φ Tryz.prog F.value_RightRow #[.slice p r.length cap] (.bool (rightR r)) := by
  refine gives_in (Bvalue_RightRow_run p r.length cap) fun W R => Br.intro (fun h => ?_) (fun h => fun w G cx => ⟨?_, cx.left⟩)
  · have h1 := of_decide_eq_true h
    have hml : r.length ≤ maxLen := by have h2 : (12 : Nat) ≤ maxLen := (by decide); omega
    have hcon : GivesIn Φ Tryz.prog F.slices_ContainsFunc_api_Value_api_Value #[.slice p r.length cap, .func (.func F.value_all_1) #[] #[]] (.bool (r.any fun x => !rightV3 x)) := by
      refine gives_in (Bslices_ContainsFunc_api_Value_api_Value_run p r.length cap F.value_all_1 #[]) fun W R => ?_
      exact fun w G cx => (IndexV_in (r := r) F.value_all_1 (fun x => !rightV3 x) hml (by kernel_rfl) #[] all1_g).toI cx fun w G cx => ⟨by rw [findI_any], cx.left⟩
    have hall : GivesIn Φ Tryz.prog F.value_all #[.slice p r.length cap] (.bool (r.all rightV3)) := by
      refine gives_in (Bvalue_all_run p r.length cap) fun W R => ?_
      refine fun w G cx => hcon.toB cx fun w G cx => ⟨?_, cx.left⟩
      rw [List.all_eq_not_any_not]
    refine fun w G cx => hall.toB cx fun w G cx => ⟨?_, cx.left⟩
    unfold rightR
    rw [decide_eq_true h1, Bool.true_and]
  · unfold rightR
    rw [decide_eq_false (of_decide_eq_false h), Bool.false_and]

/-! ### one line -/
end
end Go.Proofs.YtjlfpkgjcffilaaGreatDoor
end

/-
  What a ledger checks ahead of appending: walked.
-/
section
set_option linter.unusedVariables false
set_option linter.unusedSimpArgs false
namespace Go.Proofs.YtjlfpkgjcffilaaGreatDoor
open Go.Vc


/-! ### plain -/
section
variable {Φ : PW} {q : LP} {st : LedD} {W w : World} {R S G : List Own} {p : Option Addr} {cap : Nat} {L : List LineD} {cs : List Value}

abbrev Rows7 (cs : List Value) (l : List LineD) : Prop := ∀ i (h : i < l.length), ∃ r rc, (cs.drop (i * 7)).take 7 = l[i].cells r rc ∧ l[i].row.length ≤ rc ∧ rc ≤ maxLen ∧ l[i].In
theorem rows7 {M : List Nat} (h : Elems M w cs L) : Rows7 cs L := fun i hi => by
  obtain ⟨r, rc, he, h1, h2, h3, _⟩ := lrow h hi
  exact ⟨r, rc, he, h1, h2, h3⟩
theorem src_at (src : Src S Φ p L cs) {b o i : Nat} (hp : p = some ⟨b, o, none⟩) (c : Ctx W w (S ++ G) Φ) {x : LineD} {r : Option Addr} {rc : Nat} (he : (cs.drop (i * 7)).take 7 = x.cells r rc) : RowAt w b (o + i * 7) (x.cells r rc) := fun j hj => by
  have := src.rd hp c (i * 7 + j) _ (rows_of (vs := x.cells r rc) he j hj)
  rw [← Nat.add_assoc] at this
  exact this

end
end Go.Proofs.YtjlfpkgjcffilaaGreatDoor
end

