/-
  Values, rows and deltas in order (in plain Lean).
-/
import Derived.Test.YtemhapmbcbbljaaDoorSC5
import Derived.Lib.Bytealg
import Derived.Test.YtemhapmbcbbljaaDoorSC4
import Derived.Lib.Strings
import Derived.Lib.Walk
import Derived.Shelf.Strings.Builder1
import Derived.Shelf.Small.Strs
import Derived.Shelf.Small.Wraps
import Derived.Shelf.Strings.BuilderF
import Derived.Shelf.Strings.BuilderK
import Derived.Shelf.Strconv.Itoa0
import Derived.Shelf.Strconv.Itoa1
import Derived.Shelf.LaysM
import Derived.Shelf.Strconv.Itoa2
import Derived.Shelf.Strconv.Itoa3
import Derived.Shelf.Strings.BuilderCap
import Derived.Shelf.Slices.Turned
import Derived.Shelf.Slices.Clone
import Derived.Shelf.Slices.SearchI
import Derived.Shelf.Slices.Empties
import Derived.Shelf.SlicesE.Clone
import Derived.Test.YtemhapmbcbbljaaDoorRows

set_option linter.unusedVariables false
set_option linter.unusedSimpArgs false
section
namespace Go.Proofs.YtemhapmbcbbljaaDoor
open Go.Vc
structure ValD where
  kind : Int
  num : Int
  text : ByteArray
instance : Gv ValD := Gv.via (β := Int × Int × ByteArray) (fun x => (x.kind, x.num, x.text)) (fun y => ⟨y.1, y.2.1, y.2.2⟩) (fun _ => rfl)
structure DeltaD where
  time : Int
  row : List ValD
  n : Int
instance : Gv DeltaD := Gv.via (β := Int × List ValD × Int) (fun x => (x.time, x.row, x.n)) (fun y => ⟨y.1, y.2.1, y.2.2⟩) (fun _ => rfl)
abbrev ValD.v (x : ValD) : Value := .agg #[.int .i64 x.kind, .int .i64 x.num, .string x.text]
theorem val_ext {x y : ValD} : x = y ↔ (x.kind = y.kind ∧ (x.num = y.num ∧ x.text = y.text)) := by
  cases x; cases y; simp
instance : DecidableEq ValD := fun _ _ => decidable_of_iff _ val_ext.symm
structure Cmp {α : Type} (c : α → α → Int) : Prop where
  eq : ∀ x y, c x y = 0 ↔ x = y
  anti : ∀ x y, 0 < c x y ↔ c y x < 0
  trans : ∀ x y z, c x y < 0 → c y z < 0 → c x z < 0
  bd : ∀ x y, -1 ≤ c x y ∧ c x y ≤ 1
theorem Cmp.refl {α : Type} {c : α → α → Int} (h : Cmp c) (x : α) : c x x = 0 := (h.eq x x).2 rfl
theorem Cmp.tri {α : Type} {c : α → α → Int} (h : Cmp c) (x y : α) : c x y < 0 ∨ x = y ∨ c y x < 0 := by
  rcases Int.lt_trichotomy (c x y) 0 with h1 | h1 | h1
  · exact .inl h1
  · exact .inr (.inl ((h.eq x y).1 h1))
  · exact .inr (.inr ((h.anti x y).1 h1))
theorem Cmp.irr {α : Type} {c : α → α → Int} (h : Cmp c) {x y : α} (h1 : c x y < 0) (h2 : c y x < 0) : False := by
  have := (h.anti x y).2 h2
  omega
def cmpI (x y : Int) : Int := if x < y then -1 else if y < x then 1 else 0
theorem cmpI_cmp : Cmp cmpI := by
  refine ⟨fun x y => ?_, fun x y => ?_, fun x y z => ?_, fun x y => ?_⟩
  · unfold cmpI; split
    · constructor <;> intro h <;> omega
    · split
      · constructor <;> intro h <;> omega
      · constructor <;> intro h <;> omega
  · unfold cmpI; split <;> split <;> try split
    all_goals first | omega | (split <;> omega)
  · unfold cmpI; split
    · intro _
      split
      · intro _; rw [if_pos (by omega)]; omega
      · split <;> (intro h; omega)
    · split <;> (intro h; omega)
  · unfold cmpI; split; omega; split <;> omega
theorem bytes_cmp : Cmp Lib.compareBytes := by
  have heq : ∀ a b : List UInt8, Lib.compareBytes a b = 0 ↔ a = b := by
    intro a
    induction a with
    | nil => intro b; cases b <;> simp [Lib.compareBytes]
    | cons x a ih =>
      intro b
      cases b with
      | nil => simp [Lib.compareBytes]
      | cons y b =>
        unfold Lib.compareBytes
        split
        · rename_i h; constructor
          · intro h'; omega
          · intro h'; simp only [List.cons.injEq] at h'; rw [h'.1] at h; exact absurd h (by exact UInt8.lt_irrefl y)
        · split
          · rename_i h; constructor
            · intro h'; omega
            · intro h'; simp only [List.cons.injEq] at h'; rw [h'.1] at h; exact absurd h (by exact UInt8.lt_irrefl y)
          · rename_i h1 h2
            have : x = y := UInt8.le_antisymm (UInt8.not_lt.1 h2) (UInt8.not_lt.1 h1)
            subst this
            rw [ih b]
            simp
  have hanti : ∀ a b : List UInt8, 0 < Lib.compareBytes a b ↔ Lib.compareBytes b a < 0 := by
    intro a
    induction a with
    | nil => intro b; cases b <;> simp [Lib.compareBytes]
    | cons x a ih =>
      intro b
      cases b with
      | nil => simp [Lib.compareBytes]
      | cons y b =>
        unfold Lib.compareBytes
        by_cases h1 : x < y
        · rw [if_pos h1, if_neg (UInt8.lt_asymm h1), if_pos h1]; omega
        · rw [if_neg h1]
          by_cases h2 : y < x
          · rw [if_pos h2, if_pos h2]; omega
          · rw [if_neg h2, if_neg h2, if_neg h1]; exact ih b
  have htrans : ∀ a b c : List UInt8, Lib.compareBytes a b < 0 → Lib.compareBytes b c < 0 → Lib.compareBytes a c < 0 := by
    intro a
    induction a with
    | nil =>
      intro b c h1 h2
      cases c with
      | nil => cases b <;> simp [Lib.compareBytes] at h2
      | cons => simp [Lib.compareBytes]
    | cons x a ih =>
      intro b c h1 h2
      cases b with
      | nil => simp [Lib.compareBytes] at h1
      | cons y b =>
        cases c with
        | nil => simp [Lib.compareBytes] at h2
        | cons z c =>
          unfold Lib.compareBytes at h1 h2 ⊢
          by_cases hxy : x < y
          · by_cases hyz : y < z
            · rw [if_pos (UInt8.lt_trans hxy hyz)]; omega
            · rw [if_neg hyz] at h2
              by_cases hzy : z < y
              · rw [if_pos hzy] at h2; omega
              · have : y = z := UInt8.le_antisymm (UInt8.not_lt.1 hzy) (UInt8.not_lt.1 hyz)
                subst this
                rw [if_pos hxy]; omega
          · rw [if_neg hxy] at h1
            by_cases hyx : y < x
            · rw [if_pos hyx] at h1; omega
            · have : x = y := UInt8.le_antisymm (UInt8.not_lt.1 hyx) (UInt8.not_lt.1 hxy)
              subst this
              rw [if_neg hyx] at h1
              by_cases hyz : x < z
              · rw [if_pos hyz]; omega
              · rw [if_neg hyz] at h2 ⊢
                by_cases hzy : z < x
                · rw [if_pos hzy] at h2; omega
                · rw [if_neg hzy] at h2 ⊢
                  exact ih b c h1 h2
  have hbd : ∀ a b : List UInt8, -1 ≤ Lib.compareBytes a b ∧ Lib.compareBytes a b ≤ 1 := by
    intro a
    induction a with
    | nil => intro b; cases b <;> simp [Lib.compareBytes]
    | cons x a ih =>
      intro b
      cases b with
      | nil => simp [Lib.compareBytes]
      | cons y b =>
        unfold Lib.compareBytes
        split
        · omega
        · split
          · omega
          · exact ih b
  exact ⟨heq, hanti, htrans, hbd⟩
def cmpT (a b : ByteArray) : Int := Lib.compareBytes a.data.toList b.data.toList
theorem cmpT_cmp : Cmp cmpT :=
  ⟨fun x y => (bytes_cmp.eq _ _).trans ⟨fun h => ByteArray.ext (Array.toList_inj.1 h), fun h => by rw [h]⟩, fun x y => bytes_cmp.anti _ _, fun x y z => bytes_cmp.trans _ _ _, fun x y => bytes_cmp.bd _ _⟩
def orI : List Int → Int
  | [] => 0
  | x :: r => if x ≠ 0 then x else orI r
theorem orI_two (a b : Int) : orI [a, b] = if a ≠ 0 then a else b := by
  unfold orI orI orI
  split
  · rfl
  · split
    · rfl
    · omega
def lex {α β : Type} (c : α → α → Int) (d : β → β → Int) (x y : α × β) : Int := if c x.1 y.1 ≠ 0 then c x.1 y.1 else d x.2 y.2
theorem lex_cmp {α β : Type} {c : α → α → Int} {d : β → β → Int} (hc : Cmp c) (hd : Cmp d) : Cmp (lex c d) := by
  refine ⟨fun x y => ?_, fun x y => ?_, fun x y z h1 h2 => ?_, fun x y => ?_⟩
  · unfold lex
    by_cases h : c x.1 y.1 = 0
    · rw [if_neg (by simp [h]), hd.eq]
      have := (hc.eq _ _).1 h
      constructor
      · intro h'; exact Prod.ext this h'
      · intro h'; rw [h']
    · rw [if_pos h]
      constructor
      · intro h'; exact absurd h' h
      · intro h'; rw [h'] at h; exact absurd (hc.refl _) h
  · unfold lex
    by_cases h : c x.1 y.1 = 0
    · have := (hc.eq _ _).1 h
      rw [if_neg (by simp [h]), if_neg (by rw [this]; simp [hc.refl])]
      exact hd.anti _ _
    · have h2 : c y.1 x.1 ≠ 0 := fun e => h ((hc.eq _ _).2 ((hc.eq _ _).1 e).symm)
      rw [if_pos h, if_pos h2]
      exact hc.anti _ _
  · unfold lex at h1 h2 ⊢
    by_cases e1 : c x.1 y.1 = 0
    · rw [if_neg (by simp [e1])] at h1
      have q := (hc.eq _ _).1 e1
      rw [q]
      by_cases e2 : c y.1 z.1 = 0
      · rw [if_neg (by simp [e2])] at h2 ⊢
        exact hd.trans _ _ _ h1 h2
      · rw [if_pos e2] at h2 ⊢
        exact h2
    · rw [if_pos e1] at h1
      by_cases e2 : c y.1 z.1 = 0
      · have q := (hc.eq _ _).1 e2
        rw [← q, if_pos e1]
        exact h1
      · rw [if_pos e2] at h2
        have := hc.trans _ _ _ h1 h2
        rw [if_pos (by omega)]
        exact this
  · unfold lex
    split
    · exact hc.bd _ _
    · exact hd.bd _ _
theorem Cmp.on {α β : Type} {c : β → β → Int} (h : Cmp c) (f : α → β) (hf : ∀ x y, f x = f y → x = y) : Cmp (fun x y => c (f x) (f y)) :=
  ⟨fun x y => ⟨fun e => hf _ _ ((h.eq _ _).1 e), fun e => by rw [e]; exact h.refl _⟩, fun x y => h.anti _ _, fun x y z => h.trans _ _ _, fun x y => h.bd _ _⟩
abbrev cmpL (x y : ValD) : List Int := [cmpI x.kind y.kind, cmpI x.num y.num, cmpT x.text y.text]
def cmpV (x y : ValD) : Int := orI (cmpL x y)
theorem cmpV_lex (x y : ValD) : cmpV x y = lex cmpI (lex cmpI cmpT) (x.kind, x.num, x.text) (y.kind, y.num, y.text) := by
  unfold cmpV cmpL lex
  rw [orI]
  split
  · rfl
  · rw [orI_two]
theorem cmpV_cmp : Cmp cmpV := by
  have h := (lex_cmp cmpI_cmp (lex_cmp cmpI_cmp cmpT_cmp)).on (fun x : ValD => (x.kind, x.num, x.text)) (fun x y e => by cases x; cases y; simpa using e)
  have e : cmpV = fun x y => lex cmpI (lex cmpI cmpT) (x.kind, x.num, x.text) (y.kind, y.num, y.text) := by funext x y; exact cmpV_lex x y
  rw [e]; exact h
def cmpR : List ValD → List ValD → Int
  | [], [] => 0
  | [], _ :: _ => -1
  | _ :: _, [] => 1
  | a :: ar, b :: br => if cmpV a b ≠ 0 then cmpV a b else cmpR ar br
theorem cmpR_cmp : Cmp cmpR := by
  refine ⟨?_, ?_, ?_, ?_⟩
  · intro x
    induction x with
    | nil => intro y; cases y <;> simp [cmpR]
    | cons a x ih =>
      intro y
      cases y with
      | nil => simp [cmpR]
      | cons b y =>
        unfold cmpR
        by_cases h : cmpV a b = 0
        · rw [if_neg (by simp [h]), ih y, (cmpV_cmp.eq _ _).1 h]; simp
        · rw [if_pos h]
          constructor
          · intro h'; exact absurd h' h
          · intro h'; simp only [List.cons.injEq] at h'; rw [h'.1] at h; exact absurd (cmpV_cmp.refl _) h
  · intro x
    induction x with
    | nil => intro y; cases y <;> simp [cmpR]
    | cons a x ih =>
      intro y
      cases y with
      | nil => simp [cmpR]
      | cons b y =>
        unfold cmpR
        by_cases h : cmpV a b = 0
        · have := (cmpV_cmp.eq _ _).1 h
          rw [if_neg (by simp [h]), if_neg (by rw [this]; simp [cmpV_cmp.refl])]
          exact ih y
        · have h2 : cmpV b a ≠ 0 := fun e => h ((cmpV_cmp.eq _ _).2 ((cmpV_cmp.eq _ _).1 e).symm)
          rw [if_pos h, if_pos h2]
          exact cmpV_cmp.anti _ _
  · intro x
    induction x with
    | nil =>
      intro y z h1 h2
      cases z with
      | nil => cases y <;> simp [cmpR] at h2
      | cons => simp [cmpR]
    | cons a x ih =>
      intro y z h1 h2
      cases y with
      | nil => simp [cmpR] at h1
      | cons b y =>
        cases z with
        | nil => simp [cmpR] at h2
        | cons c z =>
          unfold cmpR at h1 h2 ⊢
          by_cases e1 : cmpV a b = 0
          · rw [if_neg (by simp [e1])] at h1
            have q := (cmpV_cmp.eq _ _).1 e1
            rw [q]
            by_cases e2 : cmpV b c = 0
            · rw [if_neg (by simp [e2])] at h2 ⊢
              exact ih y z h1 h2
            · rw [if_pos e2] at h2 ⊢
              exact h2
          · rw [if_pos e1] at h1
            by_cases e2 : cmpV b c = 0
            · have q := (cmpV_cmp.eq _ _).1 e2
              rw [← q, if_pos e1]
              exact h1
            · rw [if_pos e2] at h2
              have := cmpV_cmp.trans _ _ _ h1 h2
              rw [if_pos (by omega)]
              exact this
  · intro x
    induction x with
    | nil => intro y; cases y <;> simp [cmpR]
    | cons a x ih =>
      intro y
      cases y with
      | nil => simp [cmpR]
      | cons b y =>
        unfold cmpR
        split
        · exact cmpV_cmp.bd _ _
        · exact ih y
theorem cmpR_left {l r : List ValD} {i : Nat} (hi : i < l.length) (hr : r.length ≤ i) : cmpR (l.drop i) (r.drop i) = 1 := by
  rw [List.drop_eq_getElem_cons hi, List.drop_of_length_le hr]; rfl
theorem cmpR_both {l r : List ValD} {i : Nat} (hi : i < l.length) (hr : i < r.length) : cmpR (l.drop i) (r.drop i) = if cmpV l[i] r[i] ≠ 0 then cmpV l[i] r[i] else cmpR (l.drop (i + 1)) (r.drop (i + 1)) := by
  rw [List.drop_eq_getElem_cons hi, List.drop_eq_getElem_cons hr]; rfl
abbrev Key : Type := Int × List ValD
abbrev DeltaD.key (x : DeltaD) : Key := (x.time, x.row)
def cmpK (x y : Key) : Int := lex cmpI cmpR x y
theorem cmpK_cmp : Cmp cmpK := lex_cmp cmpI_cmp cmpR_cmp
abbrev cmpDL (x y : DeltaD) : List Int := [cmpI x.time y.time, cmpR x.row y.row]
def cmpD (x y : DeltaD) : Int := orI (cmpDL x y)
theorem cmpD_key (x y : DeltaD) : cmpD x y = cmpK x.key y.key := by
  unfold cmpD cmpDL cmpK lex
  rw [orI_two]
theorem delta_ext {x y : DeltaD} (h1 : x.key = y.key) (h2 : x.n = y.n) : x = y := by
  cases x; cases y
  simp only [DeltaD.key, Prod.mk.injEq] at h1
  simp only at h2
  obtain ⟨rfl, rfl⟩ := h1
  subst h2
  rfl
end Go.Proofs.YtemhapmbcbbljaaDoor
end

section
namespace Go.Proofs.YtemhapmbcbbljaaDoor
open Go.Vc
abbrev w64 (x : Int) : Int := IntKind.i64.wrap x
theorem w64_eq (x : Int) : w64 x = if 9223372036854775808 ≤ x % 18446744073709551616 then x % 18446744073709551616 - 18446744073709551616 else x % 18446744073709551616 := by
  simp [w64, IntKind.wrap, IntKind.signed, IntKind.bits]
theorem w64_in (x : Int) : I64 (w64 x) := by rw [w64_eq]; unfold I64; split <;> omega
theorem w64_id {x : Int} (h : I64 x) : w64 x = x := by rw [w64_eq]; unfold I64 at h; split <;> omega
theorem w64_mod (x : Int) : (w64 x - x) % 18446744073709551616 = 0 := by rw [w64_eq]; split <;> omega
theorem w64_cong {x y : Int} (h : (x - y) % 18446744073709551616 = 0) : w64 x = w64 y := by
  rw [w64_eq, w64_eq]
  have : x % 18446744073709551616 = y % 18446744073709551616 := by omega
  rw [this]
theorem w64_l (x y : Int) : w64 (w64 x + y) = w64 (x + y) := w64_cong (by have := w64_mod x; omega)
theorem w64_r (x y : Int) : w64 (x + w64 y) = w64 (x + y) := w64_cong (by have := w64_mod y; omega)
theorem w64_w (x : Int) : w64 (w64 x) = w64 x := w64_id (w64_in x)
def sumK : List DeltaD → Key → Int
  | [], _ => 0
  | x :: l, k => (if x.key = k then x.n else 0) + sumK l k
def findP (l : List DeltaD) (k : Key) : Int := w64 (sumK l k)
theorem sumK_app : ∀ (a b : List DeltaD) (k : Key), sumK (a ++ b) k = sumK a k + sumK b k
  | [], b, k => by simp [sumK]
  | x :: a, b, k => by simp only [List.cons_append, sumK, sumK_app a b k]; omega
theorem sumK_perm {a b : List DeltaD} (h : a.Perm b) (k : Key) : sumK a k = sumK b k := by
  induction h with
  | nil => rfl
  | cons x _ ih => simp only [sumK, ih]
  | swap x y l => simp only [sumK]; omega
  | trans _ _ h1 h2 => exact h1.trans h2
theorem findP_perm {a b : List DeltaD} (h : a.Perm b) (k : Key) : findP a k = findP b k := by unfold findP; rw [sumK_perm h]
theorem sumK_none {l : List DeltaD} {k : Key} (h : ∀ x ∈ l, x.key ≠ k) : sumK l k = 0 := by
  induction l with
  | nil => rfl
  | cons x l ih =>
    simp only [sumK]
    rw [if_neg (h x (by simp)), ih fun y hy => h y (by simp [hy])]
    rfl
structure Norm (c : List DeltaD) : Prop where
  asc : c.Pairwise fun x y => cmpD x y < 0
  nz : ∀ x ∈ c, x.n ≠ 0
  i64 : ∀ x ∈ c, I64 x.n
theorem Norm.nil : Norm [] := ⟨List.Pairwise.nil, by simp, by simp⟩
theorem Norm.tail {x : DeltaD} {c : List DeltaD} (h : Norm (x :: c)) : Norm c := ⟨(List.pairwise_cons.1 h.asc).2, fun y hy => h.nz y (by simp [hy]), fun y hy => h.i64 y (by simp [hy])⟩
theorem Norm.head {x : DeltaD} {c : List DeltaD} (h : Norm (x :: c)) : ∀ y ∈ c, cmpK x.key y.key < 0 := fun y hy => by
  rw [← cmpD_key]; exact (List.pairwise_cons.1 h.asc).1 y hy
theorem Norm.cons {x : DeltaD} {c : List DeltaD} (h : Norm c) (h1 : ∀ y ∈ c, cmpK x.key y.key < 0) (h2 : x.n ≠ 0) (h3 : I64 x.n) : Norm (x :: c) :=
  ⟨List.pairwise_cons.2 ⟨fun y hy => by rw [cmpD_key]; exact h1 y hy, h.asc⟩, fun y hy => by rcases List.mem_cons.1 hy with rfl | hy; exact h2; exact h.nz y hy, fun y hy => by rcases List.mem_cons.1 hy with rfl | hy; exact h3; exact h.i64 y hy⟩
theorem Norm.head_ne {x : DeltaD} {c : List DeltaD} (h : Norm (x :: c)) : ∀ y ∈ c, y.key ≠ x.key := fun y hy e => by
  have := h.head y hy
  rw [e, cmpK_cmp.refl] at this
  omega
theorem Norm.find_head {x : DeltaD} {c : List DeltaD} (h : Norm (x :: c)) : findP (x :: c) x.key = x.n := by
  unfold findP
  rw [show sumK (x :: c) x.key = (if x.key = x.key then x.n else 0) + sumK c x.key from rfl, if_pos rfl, sumK_none h.head_ne, Int.add_zero]
  exact w64_id (h.i64 x (by simp))
theorem Norm.find_mem {c : List DeltaD} (h : Norm c) : ∀ x ∈ c, findP c x.key = x.n := by
  induction c with
  | nil => intro x hx; cases hx
  | cons y c ih =>
    intro x hx
    rcases List.mem_cons.1 hx with rfl | hx
    · exact h.find_head
    · have hne := h.head_ne x hx
      have : findP (y :: c) x.key = findP c x.key := by
        unfold findP
        simp only [sumK]
        rw [if_neg (fun e => hne e.symm), Int.zero_add]
      rw [this]
      exact ih h.tail x hx
theorem norm_unique : ∀ {c d : List DeltaD}, Norm c → Norm d → (∀ k, findP c k = findP d k) → c = d := by
  have none : ∀ {c : List DeltaD} {x : DeltaD} {l : List DeltaD}, Norm (x :: l) → (∀ y ∈ c, y.key ≠ x.key) → findP (x :: l) x.key = findP c x.key → False := fun {c x l} h hc e => by
    rw [h.find_head] at e
    unfold findP at e
    rw [sumK_none hc] at e
    exact h.nz x (by simp) e
  intro c
  induction c with
  | nil =>
    intro d _ hd h
    cases d with
    | nil => rfl
    | cons y d => exact (none (c := []) hd (by simp) (h _).symm).elim
  | cons x c ih =>
    intro d hc hd h
    cases d with
    | nil => exact (none (c := []) hc (by simp) (h _)).elim
    | cons y d =>
      rcases cmpK_cmp.tri x.key y.key with hlt | he | hgt
      · refine (none (c := y :: d) hc (fun z hz e => ?_) (h _)).elim
        rcases List.mem_cons.1 hz with rfl | hz
        · rw [e, cmpK_cmp.refl] at hlt; omega
        · have := cmpK_cmp.trans _ _ _ hlt (hd.head z hz)
          rw [e, cmpK_cmp.refl] at this; omega
      · have hn : x.n = y.n := by rw [← hc.find_head, ← hd.find_head, ← he, h]
        have hxy : x = y := delta_ext he hn
        subst hxy
        congr 1
        refine ih hc.tail hd.tail fun k => ?_
        by_cases hk : x.key = k
        · subst hk
          unfold findP
          rw [sumK_none hc.head_ne, sumK_none hd.head_ne]
        · have := h k
          unfold findP at this ⊢
          simp only [sumK] at this
          rwa [if_neg hk, Int.zero_add, Int.zero_add] at this
      · refine (none (c := x :: c) hd (fun z hz e => ?_) (h _).symm).elim
        rcases List.mem_cons.1 hz with rfl | hz
        · rw [e, cmpK_cmp.refl] at hgt; omega
        · have := cmpK_cmp.trans _ _ _ hgt (hc.head z hz)
          rw [e, cmpK_cmp.refl] at this; omega
def insD (x : DeltaD) : List DeltaD → List DeltaD
  | [] => if w64 x.n = 0 then [] else [⟨x.time, x.row, w64 x.n⟩]
  | y :: t => if cmpD x y < 0 then (if w64 x.n = 0 then y :: t else ⟨x.time, x.row, w64 x.n⟩ :: y :: t)
      else if cmpD x y = 0 then (if w64 (x.n + y.n) = 0 then t else ⟨y.time, y.row, w64 (x.n + y.n)⟩ :: t)
      else y :: insD x t
theorem insD_key (x : DeltaD) : ∀ (c : List DeltaD), ∀ z ∈ insD x c, z.key = x.key ∨ ∃ y ∈ c, y.key = z.key := by
  intro c
  induction c with
  | nil =>
    intro z hz
    unfold insD at hz
    split at hz
    · cases hz
    · rcases List.mem_singleton.1 hz with rfl; exact .inl rfl
  | cons y t ih =>
    intro z hz
    unfold insD at hz
    split at hz
    · split at hz
      · exact .inr ⟨z, hz, rfl⟩
      · rcases List.mem_cons.1 hz with rfl | hz
        · exact .inl rfl
        · exact .inr ⟨z, hz, rfl⟩
    · split at hz
      · split at hz
        · exact .inr ⟨z, by simp [hz], rfl⟩
        · rcases List.mem_cons.1 hz with rfl | hz
          · exact .inr ⟨y, by simp, rfl⟩
          · exact .inr ⟨z, by simp [hz], rfl⟩
      · rcases List.mem_cons.1 hz with rfl | hz
        · exact .inr ⟨z, by simp, rfl⟩
        · rcases ih z hz with h | ⟨y', hy, h⟩
          · exact .inl h
          · exact .inr ⟨y', by simp [hy], h⟩
theorem insD_norm (x : DeltaD) : ∀ {c : List DeltaD}, Norm c → Norm (insD x c) ∧ ∀ k, findP (insD x c) k = findP (x :: c) k := by
  intro c
  induction c with
  | nil =>
    intro _
    unfold insD
    split
    · rename_i h
      refine ⟨Norm.nil, fun k => ?_⟩
      unfold findP
      simp only [sumK]
      split
      · rw [Int.add_zero, h]; rfl
      · rfl
    · rename_i h
      refine ⟨Norm.nil.cons (by simp) h (w64_in _), fun k => ?_⟩
      unfold findP
      simp only [sumK]
      by_cases hk : x.key = k
      · rw [if_pos hk, if_pos (show (⟨x.time, x.row, w64 x.n⟩ : DeltaD).key = k from hk), Int.add_zero, Int.add_zero, w64_w]
      · rw [if_neg hk, if_neg (show ¬ (⟨x.time, x.row, w64 x.n⟩ : DeltaD).key = k from hk)]
  | cons y t ih =>
    intro h
    unfold insD
    by_cases h1 : cmpD x y < 0
    · rw [if_pos h1]
      have hlt : ∀ z ∈ y :: t, cmpK x.key z.key < 0 := fun z hz => by
        rw [cmpD_key] at h1
        rcases List.mem_cons.1 hz with rfl | hz
        · exact h1
        · exact cmpK_cmp.trans _ _ _ h1 (h.head z hz)
      split
      · rename_i hz
        refine ⟨h, fun k => ?_⟩
        unfold findP
        rw [show sumK (x :: y :: t) k = (if x.key = k then x.n else 0) + sumK (y :: t) k from rfl]
        split
        · rw [← w64_l, hz, Int.zero_add]
        · rw [Int.zero_add]
      · rename_i hz
        refine ⟨h.cons hlt hz (w64_in _), fun k => ?_⟩
        unfold findP
        rw [show sumK (x :: y :: t) k = (if x.key = k then x.n else 0) + sumK (y :: t) k from rfl,
          show sumK (⟨x.time, x.row, w64 x.n⟩ :: y :: t) k = (if x.key = k then w64 x.n else 0) + sumK (y :: t) k from rfl]
        split
        · rw [w64_l]
        · rfl
    · rw [if_neg h1]
      by_cases h2 : cmpD x y = 0
      · rw [if_pos h2]
        have hk : x.key = y.key := by rw [cmpD_key] at h2; exact (cmpK_cmp.eq _ _).1 h2
        split
        · rename_i hz
          refine ⟨h.tail, fun k => ?_⟩
          unfold findP
          rw [show sumK (x :: y :: t) k = (if x.key = k then x.n else 0) + ((if y.key = k then y.n else 0) + sumK t k) from rfl, hk]
          split
          · rw [← Int.add_assoc, ← w64_l, hz, Int.zero_add]
          · rw [Int.zero_add, Int.zero_add]
        · rename_i hz
          refine ⟨h.tail.cons (fun z hz' => h.head z hz') hz (w64_in _), fun k => ?_⟩
          unfold findP
          rw [show sumK (x :: y :: t) k = (if x.key = k then x.n else 0) + ((if y.key = k then y.n else 0) + sumK t k) from rfl, hk,
            show sumK (⟨y.time, y.row, w64 (x.n + y.n)⟩ :: t) k = (if y.key = k then w64 (x.n + y.n) else 0) + sumK t k from rfl]
          split
          · rw [w64_l, Int.add_assoc]
          · simp only [Int.zero_add]
      · rw [if_neg h2]
        obtain ⟨ih1, ih2⟩ := ih h.tail
        have hgt : cmpK y.key x.key < 0 := by
          rw [cmpD_key] at h1 h2
          exact (cmpK_cmp.anti _ _).1 (by omega)
        refine ⟨ih1.cons (fun z hz => ?_) (h.nz y (by simp)) (h.i64 y (by simp)), fun k => ?_⟩
        · rcases insD_key x t z hz with e | ⟨y', hy', e⟩
          · rw [e]; exact hgt
          · rw [← e]; exact h.head y' hy'
        · have := ih2 k
          unfold findP at this ⊢
          rw [show sumK (y :: insD x t) k = (if y.key = k then y.n else 0) + sumK (insD x t) k from rfl, show sumK (x :: y :: t) k = (if x.key = k then x.n else 0) + ((if y.key = k then y.n else 0) + sumK t k) from rfl, ← w64_r, this, w64_r]
          rw [show sumK (x :: t) k = (if x.key = k then x.n else 0) + sumK t k from rfl]
          congr 1
          omega
def consP (l : List DeltaD) : List DeltaD := l.foldr insD []
theorem consP_norm (l : List DeltaD) : Norm (consP l) ∧ ∀ k, findP (consP l) k = findP l k := by
  induction l with
  | nil => exact ⟨Norm.nil, fun k => rfl⟩
  | cons x l ih =>
    obtain ⟨h1, h2⟩ := insD_norm x ih.1
    refine ⟨h1, fun k => ?_⟩
    show findP (insD x (consP l)) k = _
    rw [h2]
    have := ih.2 k
    unfold findP at this ⊢
    rw [show sumK (x :: consP l) k = (if x.key = k then x.n else 0) + sumK (consP l) k from rfl, show sumK (x :: l) k = (if x.key = k then x.n else 0) + sumK l k from rfl, ← w64_r, this, w64_r]
theorem consP_is {l c : List DeltaD} (h : Norm c) (hf : ∀ k, findP c k = findP l k) : consP l = c :=
  norm_unique (consP_norm l).1 h fun k => by rw [(consP_norm l).2, hf]
theorem consP_self {l : List DeltaD} (h : Norm l) : consP l = l := consP_is h fun _ => rfl
theorem consP_cons (l : List DeltaD) : consP (consP l) = consP l := consP_self (consP_norm l).1
theorem insD_len (x : DeltaD) : ∀ c : List DeltaD, (insD x c).length ≤ c.length + 1
  | [] => by unfold insD; split <;> simp
  | y :: t => by
    unfold insD
    split
    · split <;> simp
    · split
      · split <;> simp <;> omega
      · have := insD_len x t
        simp only [List.length_cons]; omega
theorem consP_len : ∀ l : List DeltaD, (consP l).length ≤ l.length
  | [] => Nat.le_refl _
  | x :: l => by
    have h1 := insD_len x (consP l)
    have h2 := consP_len l
    show (insD x (consP l)).length ≤ l.length + 1
    omega
end Go.Proofs.YtemhapmbcbbljaaDoor
end

section
namespace Go.Proofs.YtemhapmbcbbljaaDoor
open Go.Vc
abbrev DeltaD.v (x : DeltaD) (p : Option Addr) (c : Nat) : Value := .agg #[.int .i64 x.time, .slice p x.row.length c, .int .i64 x.n]
abbrev DeltaD.cells (x : DeltaD) (p : Option Addr) (c : Nat) : List Value := [.int .i64 x.time, .slice p x.row.length c, .int .i64 x.n]
theorem delta_cells {M : List Nat} {w : World} {cs : List Value} {x : DeltaD} (h : Gv.rep M w cs x) : ∃ p c, cs = x.cells p c ∧ x.row.length ≤ c ∧ c ≤ maxLen ∧ I64 x.time ∧ I64 x.n ∧ Sl M w p x.row := by
  obtain ⟨_, _, rfl, ⟨rfl, ht⟩, _, _, rfl, ⟨p, c, rfl, h1, h2, h3⟩, rfl, hn⟩ := h
  exact ⟨p, c, rfl, h1, h2, ht, hn, h3⟩
theorem rep_delta {M : List Nat} {w : World} {x : DeltaD} {p : Option Addr} {c : Nat} (h1 : x.row.length ≤ c) (h2 : c ≤ maxLen) (h3 : I64 x.time) (h4 : I64 x.n) (h5 : Sl M w p x.row) : Gv.rep M w (x.cells p c) x :=
  ⟨[.int .i64 x.time], [.slice p x.row.length c, .int .i64 x.n], rfl, ⟨rfl, h3⟩, [.slice p x.row.length c], [.int .i64 x.n], rfl, ⟨p, c, rfl, h1, h2, h5⟩, rfl, h4⟩
theorem delta_row {M : List Nat} {w : World} {x : DeltaD} {p : Option Addr} {c : Nat} (h : Gv.rep M w (x.cells p c) x) : Sl M w p x.row := by
  obtain ⟨p', c', e, _, _, _, _, h1⟩ := delta_cells h
  simp only [DeltaD.cells, List.cons.injEq, Value.slice.injEq] at e
  rw [e.2.1.1]
  exact h1
theorem delta_one (M : List Nat) (w : World) (cs : List Value) (x : DeltaD) (h : Gv.rep M w cs x) : (cs.all fun u => oneC u) = true := by
  obtain ⟨p, c, rfl, _⟩ := delta_cells h
  rfl
structure DE where
  d : DeltaD
  p : Option Addr
  c : Nat
abbrev DE.cells (x : DE) : List Value := x.d.cells x.p x.c
abbrev DE.v (x : DE) : Value := x.d.v x.p x.c
def cellsE : List DE → List Value
  | [] => []
  | x :: l => .int .i64 x.d.time :: .slice x.p x.d.row.length x.c :: .int .i64 x.d.n :: cellsE l
theorem cellsE_len : ∀ l : List DE, (cellsE l).length = l.length * 3
  | [] => rfl
  | x :: l => by simp only [cellsE, List.length_cons, cellsE_len l]; omega
theorem cellsE_app : ∀ a b : List DE, cellsE (a ++ b) = cellsE a ++ cellsE b
  | [], b => rfl
  | x :: a, b => by simp only [List.cons_append, cellsE, cellsE_app a b]
theorem cellsE_drop : ∀ (l : List DE) (k : Nat), (cellsE l).drop (k * 3) = cellsE (l.drop k)
  | l, 0 => by simp
  | [], k + 1 => by simp [cellsE]
  | x :: l, k + 1 => by
    rw [show (k + 1) * 3 = k * 3 + 1 + 1 + 1 by omega]
    simp only [cellsE, List.drop_succ_cons]
    exact cellsE_drop l k
theorem cellsE_at {l : List DE} {i : Nat} (h : i < l.length) : ((cellsE l).drop (i * 3)).take 3 = l[i].cells := by
  rw [cellsE_drop, List.drop_eq_getElem_cons h]
  rfl
theorem cellsE_set {l : List DE} {i : Nat} (h : i < l.length) (x : DE) : setL (cellsE l) (i * 3) x.cells = cellsE (l.set i x) := by
  induction l generalizing i with
  | nil => simp at h
  | cons y l ih =>
    cases i with
    | zero => rfl
    | succ i =>
      have := ih (i := i) (by simpa using h)
      rw [List.set_cons_succ]
      simp only [cellsE]
      rw [← this]
      apply List.ext_getElem?
      intro k
      have hlen : (cellsE l).length = l.length * 3 := cellsE_len l
      have hi : i < l.length := by simpa using h
      by_cases hk : k < 3
      · rw [setL_get _ _ _ _ (by omega)]
        match k, hk with
        | 0, _ => rfl
        | 1, _ => rfl
        | 2, _ => rfl
      · obtain ⟨m, rfl⟩ : ∃ m, k = m + 3 := ⟨k - 3, by omega⟩
        simp only [List.getElem?_cons_succ]
        by_cases h1 : m < i * 3 ∨ i * 3 + 3 ≤ m
        · rw [setL_get _ _ _ _ (by simp; omega), setL_get _ _ _ _ (by simp; omega)]
          simp only [List.getElem?_cons_succ]
        · obtain ⟨q, rfl⟩ : ∃ q, m = i * 3 + q := ⟨m - i * 3, by omega⟩
          rw [setL_in _ _ _ _ (by simp; omega) (by simp; omega), show i * 3 + q + 3 = (i + 1) * 3 + q by omega, setL_in _ _ _ _ (by simp; omega) (by simp; omega)]
def EPhi (es : List DE) : PW := fun M w => ∀ x ∈ es, Gv.rep M w x.cells x.d
instance instStableEPhi (es : List DE) : Stable (EPhi es) := ⟨fun hs h x hx => Gv.stable hs (h x hx)⟩
theorem elems_ex {M : List Nat} {w : World} : ∀ {l : List DeltaD} {cs : List Value}, Elems M w cs l → ∃ es : List DE, cs = cellsE es ∧ es.map DE.d = l := by
  intro l
  induction l with
  | nil =>
    intro cs h
    have := h.1
    simp at this
    exact ⟨[], by rw [this]; rfl, rfl⟩
  | cons x l ih =>
    intro cs h
    have hl := h.1
    rw [show (Gv.ty DeltaD).size = 3 from rfl] at hl
    have h0 := h.2 0 (by simp)
    rw [show (Gv.ty DeltaD).size = 3 from rfl, Nat.zero_mul, List.drop_zero] at h0
    obtain ⟨p, c, e, _⟩ := delta_cells h0
    have hr : Elems M w (cs.drop 3) l := by
      refine ⟨by rw [List.length_drop, hl, show (Gv.ty DeltaD).size = 3 from rfl]; simp; omega, fun j hj => ?_⟩
      have := h.2 (j + 1) (by simp; omega)
      rw [show (Gv.ty DeltaD).size = 3 from rfl] at this ⊢
      rw [List.drop_drop, show 3 + j * 3 = (j + 1) * 3 by omega]
      exact this
    obtain ⟨es, h1, h2⟩ := ih hr
    refine ⟨⟨x, p, c⟩ :: es, ?_, by simp [h2]⟩
    rw [← List.take_append_drop 3 cs]
    have e' : cs.take 3 = x.cells p c := e
    rw [e', h1]
    rfl
theorem elems_e {M : List Nat} {w : World} {es : List DE} (h : Elems M w (cellsE es) (es.map DE.d)) : EPhi es M w := by
  intro x hx
  obtain ⟨i, hi, rfl⟩ := List.getElem_of_mem hx
  have := h.2 i (by simpa using hi)
  rw [show (Gv.ty DeltaD).size = 3 from rfl, cellsE_at hi] at this
  simpa using this
theorem e_elems {M : List Nat} {w : World} {es : List DE} (h : EPhi es M w) : Elems M w (cellsE es) (es.map DE.d) := by
  refine ⟨by rw [cellsE_len]; simp [show (Gv.ty DeltaD).size = 3 from rfl], fun j hj => ?_⟩
  have hj : j < es.length := by simpa using hj
  rw [show (Gv.ty DeltaD).size = 3 from rfl, cellsE_at hj]
  have := h _ (List.getElem_mem hj)
  simpa using this
end Go.Proofs.YtemhapmbcbbljaaDoor
end

section
namespace Go.Proofs.YtemhapmbcbbljaaDoor
open Go.Vc
abbrev bufE (p : Option Addr) (cap : Nat) (es : List DE) : Own := .buf p es.length cap (cellsE es) 39 3
theorem e_ptr {W w : World} {S : List Own} {Φ : PW} {p : Option Addr} {cap : Nat} {es : List DE} (cx : Ctx W w (bufE p cap es :: S) Φ) (h : 0 < es.length) : ∃ g, p = some ⟨g, 0, none⟩ := by
  obtain ⟨g, hg, _⟩ := cx.bufCell 0 rfl (by rw [cellsE_len]; omega)
  exact ⟨g, hg⟩
theorem e_row {W w : World} {S : List Own} {Φ : PW} {g cap : Nat} {es : List DE} (cx : Ctx W w (bufE (some ⟨g, 0, none⟩) cap es :: S) Φ) {i : Nat} {X : DE} (hX : es[i]? = some X) : RowAt w g (i * 3) X.cells := by
  obtain ⟨hi, rfl⟩ := List.getElem?_eq_some_iff.1 hX
  exact cx.bufRow 0 rfl rfl (rows_of (cellsE_at hi))
theorem e_can {W w : World} {S : List Own} {Φ : PW} {g cap : Nat} {es : List DE} (cx : Ctx W w (bufE (some ⟨g, 0, none⟩) cap es :: S) Φ) {i : Nat} (hi : i < es.length) : CanWrite w g (i * 3) 3 :=
  cx.bufCan 0 rfl rfl (by rw [cellsE_len]; omega)
theorem e_put {W w w' : World} {S : List Own} {Φ : PW} [Stable Φ] {g cap : Nat} {es : List DE} (cx : Ctx W w (bufE (some ⟨g, 0, none⟩) cap es :: S) Φ) {i : Nat} (hi : i < es.length) (x : DE) (e : w' = w.setCells g (i * 3) x.cells) :
    Ctx W w' (bufE (some ⟨g, 0, none⟩) cap (es.set i x) :: S) Φ := by
  have h := cx.bufPuts 0 rfl rfl (by rw [cellsE_len]; omega) (by rw [cellsE_len]; simp only [List.length_cons, List.length_nil]; omega) e
  rw [cellsE_set hi] at h
  have hl : (es.set i x).length = es.length := by simp
  unfold bufE
  rw [hl]
  exact h
theorem swap_mid (u x v y z : List DE) (i : Nat) (hx : i < x.length) (hy : i < y.length) (hxy : x.length = y.length) :
    swp (u ++ (y.take i ++ x.drop i) ++ v ++ (x.take i ++ y.drop i) ++ z) (u.length + i) (u.length + x.length + v.length + i) = u ++ (y.take (i + 1) ++ x.drop (i + 1)) ++ v ++ (x.take (i + 1) ++ y.drop (i + 1)) ++ z := by
  have h := swp_far (u ++ y.take i) x[i] (x.drop (i + 1) ++ v ++ x.take i) y[i] (y.drop (i + 1) ++ z)
  have e1 : u ++ (y.take i ++ x.drop i) ++ v ++ (x.take i ++ y.drop i) ++ z = (u ++ y.take i) ++ x[i] :: ((x.drop (i + 1) ++ v ++ x.take i) ++ y[i] :: (y.drop (i + 1) ++ z)) := by
    rw [List.drop_eq_getElem_cons hx, List.drop_eq_getElem_cons hy]
    simp only [List.append_assoc, List.cons_append]
  have e2 : u ++ (y.take (i + 1) ++ x.drop (i + 1)) ++ v ++ (x.take (i + 1) ++ y.drop (i + 1)) ++ z = (u ++ y.take i) ++ y[i] :: ((x.drop (i + 1) ++ v ++ x.take i) ++ x[i] :: (y.drop (i + 1) ++ z)) := by
    rw [List.take_succ_eq_append_getElem hx, List.take_succ_eq_append_getElem hy]
    simp only [List.append_assoc, List.cons_append, List.nil_append]
  have e3 : (u ++ y.take i).length = u.length + i := by simp; omega
  have e4 : (u ++ y.take i).length + 1 + (x.drop (i + 1) ++ v ++ x.take i).length = u.length + x.length + v.length + i := by simp; omega
  rw [e4, e3] at h
  rw [e1, e2]
  exact h
theorem e_swap {W w : World} {S : List Own} {Φ : PW} [Stable Φ] {g cap : Nat} {es : List DE} {i j : Nat} {X Y : DE} (hX : es[i]? = some X) (hY : es[j]? = some Y) {w1 : World} (cx : Ctx W w (bufE (some ⟨g, 0, none⟩) cap es :: S) Φ) (e : w1 = w.setCells g (i * 3) Y.cells) :
    Ctx W w1 (bufE (some ⟨g, 0, none⟩) cap (es.set i Y) :: S) Φ := by
  obtain ⟨hi, rfl⟩ := List.getElem?_eq_some_iff.1 hX
  exact e_put cx hi _ e
theorem e_swap2 {W w2 w3 : World} {S : List Own} {Φ : PW} [Stable Φ] {g cap : Nat} {es : List DE} {i j : Nat} {X Y : DE} (hX : es[i]? = some X) (hY : es[j]? = some Y) (cx : Ctx W w2 (bufE (some ⟨g, 0, none⟩) cap (es.set i Y) :: S) Φ) (e : w3 = w2.setCells g (j * 3) X.cells) :
    Ctx W w3 (bufE (some ⟨g, 0, none⟩) cap (swp es i j) :: S) Φ := by
  obtain ⟨hi, rfl⟩ := List.getElem?_eq_some_iff.1 hX
  obtain ⟨hj, rfl⟩ := List.getElem?_eq_some_iff.1 hY
  rw [swp_eq hi hj]
  exact e_put cx (by simpa using hj) _ e
set_option maxHeartbeats 1000000 in
theorem swapRange_use {W w : World} {S : List Own} {Φ : PW} [Stable Φ] {p : Option Addr} {cap N : Nat} {f : FuncId} {cp : Array Value} (u x v y z : List DE) (hxy : x.length = y.length) (cx : Ctx W w (bufE p cap (u ++ x ++ v ++ y ++ z) :: S) Φ) (hN : N = (u ++ x ++ v ++ y ++ z).length)
    (hlen : (u ++ x ++ v ++ y ++ z).length ≤ 100000000) {a b n : Int} (ha : a = u.length) (hb : b = u.length + x.length + v.length) (hn : n = x.length) {K : Ending → World → Prop}
    (hK : ∀ w', Ctx W w' (bufE p cap (u ++ y ++ v ++ x ++ z) :: S) Φ → K (.returned (.tuple #[])) w') : Calls Tryd.prog F.slices_swapRangeCmpFunc_api_Delta #[.slice p N cap, .int .i64 a, .int .i64 b, .int .i64 n, .func (.func f) #[] cp] w K := by
  subst hN ha hb hn
  have hl : (u ++ x ++ v ++ y ++ z).length = u.length + x.length + v.length + x.length + z.length := by simp; omega
  refine (Bslices_swapRangeCmpFunc_api_Delta_run p (u ++ x ++ v ++ y ++ z).length cap u.length ((u.length : Int) + x.length + v.length) x.length f cp (J := fun u w' => K (.returned u) w') cx ?_).mono fun e w' ⟨v, he, hj⟩ => by rw [he]; exact hj
  obtain ⟨E, hE⟩ : ∃ E : Nat → List DE, ∀ i, E i = u ++ (y.take i ++ x.drop i) ++ v ++ (x.take i ++ y.drop i) ++ z := ⟨_, fun _ => rfl⟩
  have hEl : ∀ i, i ≤ x.length → (E i).length = u.length + x.length + v.length + x.length + z.length := fun i hi => by rw [hE]; simp; omega
  have h0 : E 0 = u ++ x ++ v ++ y ++ z := by rw [hE]; simp
  have hfin : E x.length = u ++ y ++ v ++ x ++ z := by rw [hE]; simp [hxy, List.take_of_length_le, List.drop_of_length_le]
  refine exI_mk (fun iI R' Φ' k => ∃ i : Nat, iI = i ∧ i ≤ x.length ∧ R' = bufE p cap (E i) :: S ∧ Φ' = Φ ∧ k = x.length - i) ⟨⟨_, Φ, _, inferInstance, fun w G cx => by rw [h0]; exact cx, 0, rfl, Nat.zero_le _, rfl, rfl, rfl⟩, ?_⟩
  have hp : 0 < x.length → ∃ g, p = some ⟨g, 0, none⟩ := fun h => e_ptr cx (by omega)
  clear cx
  rintro iI R1 Φ1 k _ ⟨i, rfl, hi, rfl, rfl, rfl⟩
  refine Br.intro (fun hlt => ?_) (fun hge => fun w G cx => ?_)
  · have hlt : i < x.length := by have := of_decide_eq_true hlt; omega
    have hEi := hEl i (by omega)
    have hE1 : swp (E i) (u.length + i) (u.length + x.length + v.length + i) = E (i + 1) := by rw [hE, hE]; exact swap_mid u x v y z i hlt (by omega) hxy
    generalize E i = es at hEi hE1
    obtain ⟨X, hX⟩ : ∃ X, es[u.length + i]? = some X := ⟨_, List.getElem?_eq_getElem (by omega)⟩
    obtain ⟨Y, hY⟩ : ∃ Y, es[u.length + x.length + v.length + i]? = some Y := ⟨_, List.getElem?_eq_getElem (by omega)⟩
    have na : ((u.length : Int) + i).toNat = u.length + i := by omega
    have nb : ((u.length : Int) + x.length + v.length + i).toNat = u.length + x.length + v.length + i := by omega
    obtain ⟨g, rfl⟩ := hp (by omega)
    refine ⟨[], fun _ _ => True, inferInstance, fun w G cx => (cx.weak fun _ _ _ => trivial).right, by unfold I64; omega, by unfold I64; omega, by unfold I64; omega, by unfold I64; omega, by omega, ptrK_intro g 0 rfl ⟨by omega, ptrK_intro g 0 rfl fun w G cx => ⟨Y.d.time, Y.p, Y.d.row.length, Y.c, Y.d.n, by rw [Nat.zero_add, nb]; exact e_row cx hY, fun w G cx => ⟨X.d.time, X.p, X.d.row.length, X.c, X.d.n, by rw [Nat.zero_add, na]; exact e_row cx hX, by omega, ptrK_intro g 0 rfl fun w G cx => ⟨by rw [Nat.zero_add, na]; exact e_can cx (by omega), fun w' hw' => ?_⟩⟩⟩⟩⟩
    rw [Nat.zero_add, na] at hw'
    refine ⟨bufE (some ⟨g, 0, none⟩) cap (es.set (u.length + i) Y) :: S, Φ1, inferInstance, e_swap hX hY cx hw', fun w G cx => (cx.weak fun _ _ _ => trivial).right, by omega, ptrK_intro g 0 rfl fun w G cx => ⟨by rw [Nat.zero_add, nb]; exact e_can cx (by rw [List.length_set]; omega), fun w' hw' => ?_⟩⟩
    rw [Nat.zero_add, nb] at hw'
    have cx2 := e_swap2 hX hY cx hw'
    rw [hE1] at cx2
    exact ⟨bufE (some ⟨g, 0, none⟩) cap (E (i + 1)) :: S, Φ1, inferInstance, cx2, fun w G cx => (cx.weak fun _ _ _ => trivial).right, by unfold I64; omega, _, Φ1, x.length - (i + 1), inferInstance, fun w G cx => cx, ⟨i + 1, by omega, by omega, rfl, rfl, rfl⟩, by omega⟩
  · have hge : i = x.length := by have := of_decide_eq_false hge; omega
    subst hge
    rw [hfin] at cx
    exact hK w cx.left
end Go.Proofs.YtemhapmbcbbljaaDoor
end

section
namespace Go.Proofs.YtemhapmbcbbljaaDoor
open Go.Vc
set_option maxHeartbeats 1000000 in
theorem rotate_use {W w : World} {S : List Own} {Φ : PW} [Stable Φ] {p : Option Addr} {cap N : Nat} {f : FuncId} {cp : Array Value} (u x y z : List DE) (hx : 0 < x.length) (hy : 0 < y.length) (cx : Ctx W w (bufE p cap (u ++ x ++ y ++ z) :: S) Φ) (hN : N = (u ++ x ++ y ++ z).length)
    (hlen : (u ++ x ++ y ++ z).length ≤ 100000000) {a m b : Int} (ha : a = u.length) (hm : m = u.length + x.length) (hb : b = u.length + x.length + y.length) {K : Ending → World → Prop}
    (hK : ∀ w', Ctx W w' (bufE p cap (u ++ y ++ x ++ z) :: S) Φ → K (.returned (.tuple #[])) w') : Calls Tryd.prog F.slices_rotateCmpFunc_api_Delta #[.slice p N cap, .int .i64 a, .int .i64 m, .int .i64 b, .func (.func f) #[] cp] w K := by
  subst hN ha hm hb
  have hl : (u ++ x ++ y ++ z).length = u.length + x.length + y.length + z.length := by simp; omega
  refine (Bslices_rotateCmpFunc_api_Delta_run p (u ++ x ++ y ++ z).length cap u.length ((u.length : Int) + x.length) ((u.length : Int) + x.length + y.length) f cp (J := fun u w' => K (.returned u) w') cx ?_).mono fun e w' ⟨v, he, hj⟩ => by rw [he]; exact hj
  refine ⟨by unfold I64; omega, by unfold I64; omega, ?_⟩
  refine exI_mk (fun i j R' Φ' k => ∃ u' X Y z' : List DE, i = X.length ∧ j = Y.length ∧ 0 < X.length ∧ 0 < Y.length ∧ u'.length + X.length = u.length + x.length ∧ u' ++ Y ++ X ++ z' = u ++ y ++ x ++ z ∧ R' = bufE p cap (u' ++ X ++ Y ++ z') :: S ∧ Φ' = Φ ∧ k = X.length + Y.length)
    ⟨⟨_, Φ, _, inferInstance, fun w G cx => cx, u, x, y, z, by omega, by omega, hx, hy, rfl, rfl, rfl, rfl, rfl⟩, ?_⟩
  clear cx
  rintro _ _ R1 Φ1 k _ ⟨u', X, Y, z', rfl, rfl, h1, h2, h3, h4, rfl, rfl, rfl⟩
  have hl2 : u'.length + Y.length + X.length + z'.length = u.length + x.length + y.length + z.length := by
    have := congrArg List.length h4
    simp only [List.length_append] at this
    omega
  have hN : (u ++ x ++ y ++ z).length = (u' ++ X ++ Y ++ z').length := by simp only [List.length_append]; omega
  have hlen' : (u' ++ X ++ Y ++ z').length ≤ 100000000 := by rw [← hN]; exact hlen
  refine Br.intro (fun hne => Br.intro (fun hgt => ?_) (fun hle => ?_)) (fun heq => ?_)
  · have hgt := of_decide_eq_true hgt
    have hgt : Y.length < X.length := by omega
    have e1 : X = X.take Y.length ++ X.drop Y.length := (List.take_append_drop _ _).symm
    obtain ⟨A, hA⟩ : ∃ A, X.take Y.length = A := ⟨_, rfl⟩
    obtain ⟨B, hB⟩ : ∃ B, X.drop Y.length = B := ⟨_, rfl⟩
    have hAl : A.length = Y.length := by rw [← hA, List.length_take]; omega
    have hBl : B.length = X.length - Y.length := by rw [← hB, List.length_drop]
    rw [hA, hB] at e1
    refine ⟨by unfold I64; omega, fun w G cx => ?_⟩
    refine swapRange_use (S := S ++ G) u' A B Y z' hAl (by rw [e1] at cx; exact cx.re (by simp)) (by rw [hN, e1]; simp) (by rw [e1] at hlen'; simpa using hlen') (by omega) (by omega) (by omega) fun w cx => ⟨rfl, bufE p cap ((u' ++ Y) ++ B ++ A ++ z') :: S, Φ1, inferInstance, cx.re (by simp), by unfold I64; omega, _, Φ1, B.length + A.length, inferInstance, fun w G cx => cx, ⟨u' ++ Y, B, A, z', by omega, by omega, by omega, by omega, by simp only [List.length_append]; omega, by rw [← h4, e1]; simp, rfl, rfl, rfl⟩, by omega⟩
  · have hle := of_decide_eq_false hle
    have hne := of_decide_eq_true hne
    have hgt : X.length < Y.length := by omega
    have e1 : Y = Y.take (Y.length - X.length) ++ Y.drop (Y.length - X.length) := (List.take_append_drop _ _).symm
    obtain ⟨A, hA⟩ : ∃ A, Y.take (Y.length - X.length) = A := ⟨_, rfl⟩
    obtain ⟨B, hB⟩ : ∃ B, Y.drop (Y.length - X.length) = B := ⟨_, rfl⟩
    have hAl : A.length = Y.length - X.length := by rw [← hA, List.length_take]; omega
    have hBl : B.length = X.length := by rw [← hB, List.length_drop]; omega
    rw [hA, hB] at e1
    refine ⟨by unfold I64; omega, by unfold I64; omega, by unfold I64; omega, fun w G cx => ?_⟩
    refine swapRange_use (S := S ++ G) u' X A B z' hBl.symm (by rw [e1] at cx; exact cx.re (by simp)) (by rw [hN, e1]; simp) (by rw [e1] at hlen'; simpa using hlen') (by omega) (by omega) (by omega) fun w cx => ⟨rfl, bufE p cap (u' ++ B ++ A ++ (X ++ z')) :: S, Φ1, inferInstance, cx.re (by simp), by unfold I64; omega, _, Φ1, B.length + A.length, inferInstance, fun w G cx => cx, ⟨u', B, A, X ++ z', by omega, by omega, by omega, by omega, by omega, by rw [← h4, e1]; simp, rfl, rfl, rfl⟩, by omega⟩
  · have heq := of_decide_eq_false heq
    refine ⟨by unfold I64; omega, fun w G cx => ?_⟩
    refine swapRange_use (S := S ++ G) u' X [] Y z' (by omega) (cx.re (by simp)) (by rw [hN]; simp) (by simpa using hlen') (by omega) (by simp only [List.length_nil]; omega) (by omega) fun w cx => ⟨rfl, bufE p cap (u' ++ Y ++ X ++ z') :: S, Φ1, inferInstance, cx.re (by simp), fun w G cx => hK w ?_⟩
    rw [h4] at cx
    exact cx.left
abbrev cmpE (x y : DE) : Int := cmpD x.d y.d
abbrev leE (x y : DE) : Prop := cmpD x.d y.d ≤ 0
theorem ordE : Ord leE := by
  refine ⟨fun x y => ?_, fun x y z h1 h2 => ?_⟩
  · unfold leE
    rw [cmpD_key, cmpD_key]
    rcases cmpK_cmp.tri x.d.key y.d.key with h | h | h
    · exact .inl (by omega)
    · exact .inl (by rw [h, cmpK_cmp.refl]; omega)
    · exact .inr (by omega)
  · unfold leE at *
    rw [cmpD_key] at *
    rcases Int.lt_or_eq_of_le h1 with a | a
    · rcases Int.lt_or_eq_of_le h2 with b | b
      · have := cmpK_cmp.trans _ _ _ a b; omega
      · rw [← (cmpK_cmp.eq _ _).1 b]; omega
    · rw [(cmpK_cmp.eq _ _).1 a]; exact h2
theorem leE_of_lt {x y : DE} (h : cmpD x.d y.d < 0) : leE x y := by unfold leE; omega
theorem leE_not {x y : DE} (h : ¬ cmpD x.d y.d < 0) : leE y x := by
  unfold leE
  rw [cmpD_key] at *
  rcases cmpK_cmp.tri x.d.key y.d.key with h1 | h1 | h1
  · omega
  · rw [h1, cmpK_cmp.refl]; omega
  · omega
def CmpFn (Φ : PW) (f : FuncId) (cp : Array Value) (G : DE → Prop) : Prop := okFun Tryd.prog f = true ∧ ∀ x y : DE, G x → G y → GivesIn Φ Tryd.prog f (Array.mk (x.v :: y.v :: cp.toList)) (.int .i64 (cmpE x y))
set_option maxHeartbeats 2000000 in
theorem insertionSort_use {W w : World} {S : List Own} {Φ : PW} [Stable Φ] {p : Option Addr} {cap N : Nat} {f : FuncId} {cp : Array Value} {P : DE → Prop} (hf : CmpFn Φ f cp P) (u x z : List DE) (hP : ∀ e ∈ x, P e) (cx : Ctx W w (bufE p cap (u ++ x ++ z) :: S) Φ) (hN : N = (u ++ x ++ z).length)
    (hlen : (u ++ x ++ z).length ≤ 100000000) {a b : Int} (ha : a = u.length) (hb : b = u.length + x.length) {K : Ending → World → Prop}
    (hK : ∀ x' w', x'.Perm x → Asc leE x' → Ctx W w' (bufE p cap (u ++ x' ++ z) :: S) Φ → K (.returned (.tuple #[])) w') : Calls Tryd.prog F.slices_insertionSortCmpFunc_api_Delta #[.slice p N cap, .int .i64 a, .int .i64 b, .func (.func f) #[] cp] w K := by
  subst hN ha hb
  have hl : (u ++ x ++ z).length = u.length + x.length + z.length := by simp; omega
  refine (Bslices_insertionSortCmpFunc_api_Delta_run p (u ++ x ++ z).length cap u.length ((u.length : Int) + x.length) f cp (J := fun u w' => K (.returned u) w') cx ?_).mono fun e w' ⟨v, he, hj⟩ => by rw [he]; exact hj
  have hp : 0 < x.length → ∃ g, p = some ⟨g, 0, none⟩ := fun h => e_ptr cx (by omega)
  refine ⟨by unfold I64; omega, ?_⟩
  refine exI_mk (fun i R' Φ' k => ∃ (s r : List DE), i = (u.length : Int) + max s.length 1 ∧ (s ++ r).Perm x ∧ Asc leE s ∧ (s.length = 0 → r = []) ∧ R' = bufE p cap (u ++ s ++ r ++ z) :: S ∧ Φ' = Φ ∧ k = r.length)
    ⟨⟨bufE p cap (u ++ x.take 1 ++ x.drop 1 ++ z) :: S, Φ, (x.drop 1).length, inferInstance, fun w G cx => cx.re (by rw [List.append_assoc u (x.take 1), List.take_append_drop]), x.take 1, x.drop 1, by rw [List.length_take]; omega, by rw [List.take_append_drop], ?_, fun h => ?_, rfl, rfl, rfl⟩, ?_⟩
  · cases x with
    | nil => simp
    | cons e x => simp
  · have : x = [] := by
      cases x with
      | nil => rfl
      | cons e x => simp at h
    rw [this]; rfl
  clear cx
  rintro _ R1 Φ1 k _ ⟨s, r, rfl, hperm, hasc, hnil, rfl, rfl, rfl⟩
  have hlp := hperm.length_eq
  rw [List.length_append] at hlp
  refine Br.intro (fun hlt => ?_) (fun hge => fun w G cx => ?_)
  · have hlt := of_decide_eq_true hlt
    have hs0 : 0 < s.length := by
      rcases Nat.eq_zero_or_pos s.length with h | h
      · have := hnil h; rw [this] at hlp; simp at hlp; omega
      · exact h
    obtain ⟨e, r, rfl⟩ : ∃ e r', r = e :: r' := by
      cases r with
      | nil => simp at hlp; omega
      | cons e r' => exact ⟨e, r', rfl⟩
    simp only [List.length_cons] at hlp
    obtain ⟨g, rfl⟩ := hp (by omega)
    have hPe : P e := hP e (hperm.mem_iff.1 (by simp))
    have hPs : ∀ y ∈ s, P y := fun y hy => hP y (hperm.mem_iff.1 (by simp [hy]))
    -- the element goes down
    refine exI_mk (fun j R' Φ' k => ∃ s1 s2 : List DE, j = (u.length : Int) + s1.length ∧ s = s1 ++ s2 ∧ (∀ y ∈ s2, leE e y) ∧ R' = bufE (some ⟨g, 0, none⟩) cap (u ++ s1 ++ e :: s2 ++ r ++ z) :: S ∧ Φ' = Φ1 ∧ k = s1.length)
      ⟨⟨_, Φ1, _, inferInstance, fun w G cx => cx.re (by simp), s, [], by omega, by simp, by simp, rfl, rfl, rfl⟩, ?_⟩
    rintro _ R2 Φ2 k _ ⟨s1, s2, rfl, rfl, hle, rfl, rfl, rfl⟩
    simp only [List.length_append] at hlp hlt hs0
    have hEl : (u ++ s1 ++ e :: s2 ++ r ++ z).length = u.length + s1.length + 1 + s2.length + r.length + z.length := by simp; omega
    have next : Asc leE (s1 ++ e :: s2) → ((u.length : Int) + max (s1 ++ s2).length 1 + 1 = (u.length : Int) + max (s1 ++ e :: s2).length 1) ∧ ((s1 ++ e :: s2) ++ r).Perm x := fun _ => by
      refine ⟨by simp only [List.length_append, List.length_cons]; omega, ?_⟩
      refine List.Perm.trans ?_ hperm
      simp only [List.append_assoc, List.cons_append]
      refine List.Perm.append_left _ ?_
      exact (List.perm_middle (l₁ := s2)).symm
    refine ⟨bufE (some ⟨g, 0, none⟩) cap (u ++ s1 ++ e :: s2 ++ r ++ z) :: S, Φ2, inferInstance, fun w G cx => cx, Br.intro (fun hj => ?_) (fun hj => ?_)⟩
    · have hj := of_decide_eq_true hj
      have hs1 : s1 ≠ [] := fun h => by rw [h] at hj; simp at hj
      obtain ⟨t, y, rfl⟩ : ∃ t y, s1 = t ++ [y] := ⟨s1.dropLast, s1.getLast hs1, (List.dropLast_concat_getLast hs1).symm⟩
      simp only [List.length_append, List.length_cons, List.length_nil] at hlp hlt
      clear hEl
      obtain ⟨E, hE⟩ : ∃ E, u ++ (t ++ [y]) ++ e :: s2 ++ r ++ z = E := ⟨_, rfl⟩
      have hE' : E = (u ++ t) ++ y :: e :: (s2 ++ r ++ z) := by rw [← hE]; simp
      have hX : E[u.length + t.length + 1]? = some e := by
        rw [hE', List.getElem?_append_right (by simp)]
        simp
      have hY : E[u.length + t.length]? = some y := by
        rw [hE', List.getElem?_append_right (by simp)]
        simp
      have hsw : swp E (u.length + t.length + 1) (u.length + t.length) = (u ++ t) ++ e :: y :: (s2 ++ r ++ z) := by
        have h1 := swp_next (u ++ t) y e (s2 ++ r ++ z)
        rw [← h1, hE', List.length_append]
        have hi : u.length + t.length < ((u ++ t) ++ y :: e :: (s2 ++ r ++ z)).length := by simp
        have hj' : u.length + t.length + 1 < ((u ++ t) ++ y :: e :: (s2 ++ r ++ z)).length := by simp; omega
        rw [swp_eq hj' hi, swp_eq hi hj', List.set_comm _ _ (by omega)]
      have hEl : E.length = u.length + t.length + 2 + s2.length + r.length + z.length := by rw [hE']; simp; omega
      rw [hE]
      have n1 : ((u.length : Int) + ((t ++ [y]).length : Nat)).toNat = u.length + t.length + 1 := by simp; omega
      have n2 : ((u.length : Int) + ((t ++ [y]).length : Nat) - 1).toNat = u.length + t.length := by simp; omega
      have nl : ((t ++ [y]).length : Int) = t.length + 1 := by simp
      have hcall := hf.2 e y hPe (hPs y (by simp))
      refine ⟨by omega, ptrK_intro g 0 rfl ⟨by unfold I64; omega, e.d.time, e.p, e.d.row.length, e.c, e.d.n, fun w G cx => ⟨_, e.p, _, e.c, _, by rw [Nat.zero_add, n1]; exact e_row cx hX, rfl⟩, by omega, ptrK_intro g 0 rfl ⟨y.d.time, y.p, y.d.row.length, y.c, y.d.n, fun w G cx => ⟨_, y.p, _, y.c, _, by rw [Nat.zero_add, n2]; exact e_row cx hY, rfl⟩, fun w G cx => ⟨hf.1, hcall.use cx fun w cx => ⟨_, rfl, bufE (some ⟨g, 0, none⟩) cap E :: S, Φ2, inferInstance, cx, Br.intro (fun hc => ?_) (fun hc => ?_)⟩⟩⟩⟩⟩
      · have hc := of_decide_eq_true hc
        refine ⟨[], fun _ _ => True, inferInstance, fun w G cx => (cx.weak fun _ _ _ => trivial).right, by unfold I64; omega, by unfold I64; omega, by omega, ptrK_intro g 0 rfl ⟨by omega, ptrK_intro g 0 rfl fun w G cx => ⟨e.d.time, e.p, e.d.row.length, e.c, e.d.n, by rw [Nat.zero_add, n1]; exact e_row cx hX, fun w G cx => ⟨y.d.time, y.p, y.d.row.length, y.c, y.d.n, by rw [Nat.zero_add, n2]; exact e_row cx hY, by omega, ptrK_intro g 0 rfl fun w G cx => ⟨by rw [Nat.zero_add, n1]; exact e_can cx (by omega), fun w' hw' => ?_⟩⟩⟩⟩⟩
        rw [Nat.zero_add, n1] at hw'
        refine ⟨bufE (some ⟨g, 0, none⟩) cap (E.set (u.length + t.length + 1) y) :: S, Φ2, inferInstance, e_swap hX hY cx hw', fun w G cx => (cx.weak fun _ _ _ => trivial).right, by omega, ptrK_intro g 0 rfl fun w G cx => ⟨by rw [Nat.zero_add, n2]; exact e_can cx (by rw [List.length_set]; omega), fun w' hw' => ?_⟩⟩
        rw [Nat.zero_add, n2] at hw'
        have cx2 := e_swap2 hX hY cx hw'
        rw [hsw] at cx2
        refine ⟨bufE (some ⟨g, 0, none⟩) cap ((u ++ t) ++ e :: y :: (s2 ++ r ++ z)) :: S, Φ2, inferInstance, cx2, fun w G cx => (cx.weak fun _ _ _ => trivial).right, by unfold I64; omega, bufE (some ⟨g, 0, none⟩) cap (u ++ t ++ e :: (y :: s2) ++ r ++ z) :: S, Φ2, t.length, inferInstance, fun w G cx => cx.re (by simp), ⟨t, y :: s2, by omega, by simp, fun q hq => ?_, rfl, rfl, rfl⟩, by omega⟩
        rcases List.mem_cons.1 hq with rfl | hq
        · exact leE_of_lt hc
        · exact hle q hq
      · have hc := of_decide_eq_false hc
        have hye := leE_not hc
        have has : Asc leE ((t ++ [y]) ++ e :: s2) := by
          refine asc_put hasc (fun q hq => ?_) hle
          have h1 := (List.pairwise_append.1 hasc).1
          rcases List.mem_append.1 hq with hq | hq
          · exact ordE.trans _ _ _ ((List.pairwise_append.1 h1).2.2 q hq y (by simp)) hye
          · rw [List.mem_singleton.1 hq]; exact hye
        obtain ⟨q1, q2⟩ := next has
        refine ⟨by unfold I64; simp only [List.length_append, List.length_cons, List.length_nil]; omega, bufE (some ⟨g, 0, none⟩) cap (u ++ (t ++ [y] ++ e :: s2) ++ r ++ z) :: S, Φ2, r.length, inferInstance, fun w G cx => cx.re (by rw [← hE]; simp), ⟨t ++ [y] ++ e :: s2, r, q1, q2, has, fun h => by simp at h, rfl, rfl, rfl⟩, by simp⟩
    · have hj := of_decide_eq_false hj
      have hs1 : s1 = [] := List.eq_nil_of_length_eq_zero (by omega)
      subst hs1
      have has : Asc leE ([] ++ e :: s2) := asc_put hasc (by simp) hle
      obtain ⟨q1, q2⟩ := next has
      exact ⟨by unfold I64; simp only [List.length_append]; omega, bufE (some ⟨g, 0, none⟩) cap (u ++ ([] ++ e :: s2) ++ r ++ z) :: S, Φ2, r.length, inferInstance, fun w G cx => cx.re (by simp), ⟨[] ++ e :: s2, r, q1, q2, has, fun h => by simp at h, rfl, rfl, rfl⟩, by simp⟩
  · have hge := of_decide_eq_false hge
    have hr : r = [] := by
      rcases Nat.eq_zero_or_pos s.length with h | h
      · exact hnil h
      · exact List.eq_nil_of_length_eq_zero (by omega)
    subst hr
    rw [List.append_nil] at hperm
    exact hK s w hperm hasc (cx.left.re (by simp))
end Go.Proofs.YtemhapmbcbbljaaDoor
end

section
namespace Go.Proofs.YtemhapmbcbbljaaDoor
open Go.Vc
theorem shr_run (k : Nat) (h : k < 9223372036854775808) (w : World) : Sem.run Tryd.prog (binOp BinOp.shr 65 (.int .u64 (IntKind.u64.wrap (k : Int))) (.int .u64 1)) w = .ok (.int .u64 ((k / 2 : Nat) : Int)) w := by
  have e : IntKind.u64.wrap (k : Int) = k := by simp [IntKind.wrap, IntKind.signed, IntKind.bits]; omega
  rw [e]
  show Sem.run Tryd.prog (Op.shift .shr .u64 (k : Int) .u64 1) w = _
  unfold Op.shift
  simp [Sem.run_pure]
  show (k : Int).fdiv 2 = _
  rw [Int.fdiv_eq_ediv_of_nonneg _ (by decide)]
theorem wrap_nat {k : Nat} (h : k ≤ 1000000000) : IntKind.i64.wrap (k : Int) = k := i64_wrap (by unfold I64; omega)
theorem get_at (a : List DE) (e : DE) (b : List DE) : (a ++ e :: b)[a.length]? = some e := by
  rw [List.getElem?_append_right (Nat.le_refl _)]; simp
theorem get_at2 (a : List DE) (e q : DE) (b : List DE) : (a ++ e :: q :: b)[a.length + 1]? = some q := by
  rw [List.getElem?_append_right (by omega)]; simp
theorem get_mid {u x y z : List DE} {i : Nat} (h : i < y.length) : (u ++ x ++ y ++ z)[u.length + x.length + i]? = some y[i] := by
  rw [List.getElem?_append_left (by simp; omega), List.getElem?_append_right (by simp), List.length_append, show u.length + x.length + i - (u.length + x.length) = i by omega, List.getElem?_eq_getElem h]
theorem get_fst {u x y z : List DE} {i : Nat} (h : i < x.length) : (u ++ x ++ y ++ z)[u.length + i]? = some x[i] := by
  rw [List.getElem?_append_left (by simp; omega), List.getElem?_append_left (by simp; omega), List.getElem?_append_right (by simp), show u.length + i - u.length = i by omega, List.getElem?_eq_getElem h]
theorem nb_swap (a : List DE) (x y : DE) (b : List DE) {i j : Nat} (hi : i = a.length) (hj : j = a.length + 1) : swp (a ++ x :: y :: b) i j = a ++ y :: x :: b ∧ swp (a ++ x :: y :: b) j i = a ++ y :: x :: b := by
  subst hi hj
  refine ⟨swp_next a x y b, ?_⟩
  have hi : a.length < (a ++ x :: y :: b).length := by simp
  have hj : a.length + 1 < (a ++ x :: y :: b).length := by simp
  rw [← swp_next a x y b, swp_eq hj hi, swp_eq hi hj, List.set_comm _ _ (by omega)]
set_option maxHeartbeats 2000000 in
theorem sym_one {W : World} {S : List Own} {Φ : PW} [Stable Φ] {p : Option Addr} {cap N : Nat} {f : FuncId} {cp : Array Value} {P : DE → Prop} (hf : CmpFn Φ f cp P) (u : List DE) (e : DE) (y z : List DE) (hy : 0 < y.length) (hPe : P e) (hPy : ∀ q ∈ y, P q) (hay : Asc leE y)
    (hN : N = (u ++ [e] ++ y ++ z).length) (hlen : (u ++ [e] ++ y ++ z).length ≤ 100000000) {a m b : Int} (ha : a = u.length) (hm : m = (u.length : Int) + 1) (hb : b = (u.length : Int) + 1 + y.length) {K : Ending → World → Prop}
    (hK : ∀ r w', r.Perm (e :: y) → Asc leE r → Ctx W w' (bufE p cap (u ++ r ++ z) :: S) Φ → K (.returned (.tuple #[])) w') {w : World} (cx : Ctx W w (bufE p cap (u ++ [e] ++ y ++ z) :: S) Φ) :
    Calls Tryd.prog F.slices_symMergeCmpFunc_api_Delta #[.slice p N cap, .int .i64 a, .int .i64 m, .int .i64 b, .func (.func f) #[] cp] w K := by
  subst hN ha hm hb
  have hl : (u ++ [e] ++ y ++ z).length = u.length + 1 + y.length + z.length := by simp; omega
  refine (Bslices_symMergeCmpFunc_api_Delta_run p (u ++ [e] ++ y ++ z).length cap u.length ((u.length : Int) + 1) ((u.length : Int) + 1 + y.length) f cp (J := fun u w' => K (.returned u) w') cx ?_).mono fun e w' ⟨v, he, hj⟩ => by rw [he]; exact hj
  obtain ⟨g, rfl⟩ := e_ptr cx (by omega)
  refine ⟨by unfold I64; omega, Br.intro (fun _ => ?_) (fun h => by have := of_decide_eq_false h; omega)⟩
  refine exI_mk (fun i j R' Φ' k => ∃ α β : Nat, i = (u.length : Int) + 1 + α ∧ j = (u.length : Int) + 1 + β ∧ α ≤ β ∧ β ≤ y.length ∧ (∀ q ∈ y.take α, leE q e) ∧ (∀ q ∈ y.drop β, leE e q) ∧ R' = bufE (some ⟨g, 0, none⟩) cap (u ++ [e] ++ y ++ z) :: S ∧ Φ' = Φ ∧ k = β - α)
    ⟨⟨_, Φ, _, inferInstance, fun w G cx => cx, 0, y.length, by omega, by omega, by omega, by omega, by simp, by simp, rfl, rfl, rfl⟩, ?_⟩
  clear cx
  rintro _ _ R1 Φ1 k _ ⟨α, β, rfl, rfl, h1, h2, h3, h4, rfl, rfl, rfl⟩
  refine Br.intro (fun hlt => ?_) (fun hge => ?_)
  · have hlt := of_decide_eq_true hlt
    have hαβ : α < β := by omega
    obtain ⟨γ, hγ⟩ : ∃ γ, (α + β) / 2 = γ := ⟨_, rfl⟩
    have hγ1 : α ≤ γ := by omega
    have hγ2 : γ < β := by omega
    have hsum : ((u.length : Int) + 1 + α + ((u.length : Int) + 1 + β)) = ((2 * (u.length + 1) + (α + β) : Nat) : Int) := by omega
    have hhalf : (2 * (u.length + 1) + (α + β)) / 2 = u.length + 1 + γ := by omega
    have hX : (u ++ [e] ++ y ++ z)[u.length + 1 + γ]? = some y[γ] := get_mid (x := [e]) (by omega)
    have hE : (u ++ [e] ++ y ++ z)[u.length]? = some e := by simp
    refine ⟨by unfold I64; omega, ((u.length + 1 + γ : Nat) : Int), fun w => by rw [hsum, ← hhalf]; exact shr_run _ (by omega) w, ?_⟩
    rw [wrap_nat (by omega)]
    refine ⟨bufE (some ⟨g, 0, none⟩) cap (u ++ [e] ++ y ++ z) :: S, Φ1, inferInstance, fun w G cx => cx, by omega, ptrK_intro g 0 rfl ⟨by omega, ptrK_intro g 0 rfl ⟨y[γ].d.time, y[γ].p, y[γ].d.row.length, y[γ].c, y[γ].d.n, fun w G cx => ⟨_, y[γ].p, _, y[γ].c, _, by rw [Nat.zero_add, Int.toNat_natCast]; exact e_row cx hX, rfl⟩, e.d.time, e.p, e.d.row.length, e.c, e.d.n, fun w G cx => ⟨_, e.p, _, e.c, _, by rw [Nat.zero_add, Int.toNat_natCast]; exact e_row cx hE, rfl⟩, fun w G cx => ⟨hf.1, (hf.2 y[γ] e (hPy _ (List.getElem_mem _)) hPe).use cx fun w cx => ⟨_, rfl, bufE (some ⟨g, 0, none⟩) cap (u ++ [e] ++ y ++ z) :: S, Φ1, inferInstance, cx, Br.intro (fun hc => ?_) (fun hc => ?_)⟩⟩⟩⟩⟩
    · have hc := leE_of_lt (of_decide_eq_true hc)
      refine ⟨by unfold I64; omega, _, Φ1, β - (γ + 1), inferInstance, fun w G cx => cx, ⟨γ + 1, β, by omega, by omega, by omega, h2, fun q hq => ?_, h4, rfl, rfl, rfl⟩, by omega⟩
      obtain ⟨i, hi, rfl⟩ := List.getElem_of_mem hq
      rw [List.length_take] at hi
      rw [List.getElem_take]
      exact ordE.trans _ _ _ (asc_le ordE hay (i := i) (j := γ) (by omega) (by omega)) hc
    · have hc := leE_not (of_decide_eq_false hc)
      refine ⟨_, Φ1, γ - α, inferInstance, fun w G cx => cx, ⟨α, γ, by omega, by omega, by omega, by omega, h3, fun q hq => ?_, rfl, rfl, rfl⟩, by omega⟩
      obtain ⟨i, hi, rfl⟩ := List.getElem_of_mem hq
      rw [List.length_drop] at hi
      rw [List.getElem_drop]
      exact ordE.trans _ _ _ hc (asc_le ordE hay (i := γ) (j := γ + i) (by omega) (by omega))
  · have hge := of_decide_eq_false hge
    have hαβ : α = β := by omega
    subst hαβ
    refine exI_mk (fun k R' Φ' kk => ∃ κ : Nat, k = (u.length : Int) + κ ∧ κ ≤ α ∧ R' = bufE (some ⟨g, 0, none⟩) cap (u ++ y.take κ ++ e :: y.drop κ ++ z) :: S ∧ Φ' = Φ1 ∧ kk = α - κ) ⟨⟨_, Φ1, _, inferInstance, fun w G cx => cx, 0, by omega, by omega, by simp, rfl, rfl⟩, ?_⟩
    rintro _ R2 Φ2 kk _ ⟨κ, rfl, hκ, rfl, rfl, rfl⟩
    refine ⟨by unfold I64; omega, Br.intro (fun hlt => ?_) (fun hge => fun w G cx => ?_)⟩
    · have hlt := of_decide_eq_true hlt
      have hκ2 : κ < α := by omega
      have hκy : κ < y.length := by omega
      obtain ⟨E, hE⟩ : ∃ E, u ++ y.take κ ++ e :: y.drop κ ++ z = E := ⟨_, rfl⟩
      have hE' : E = (u ++ y.take κ) ++ e :: y[κ] :: (y.drop (κ + 1) ++ z) := by rw [← hE, List.drop_eq_getElem_cons hκy]; simp only [List.append_assoc, List.cons_append]
      have hEn : u ++ y.take (κ + 1) ++ e :: y.drop (κ + 1) ++ z = (u ++ y.take κ) ++ y[κ] :: e :: (y.drop (κ + 1) ++ z) := by rw [List.take_succ_eq_append_getElem hκy]; simp only [List.append_assoc, List.cons_append, List.nil_append]
      have hal : (u ++ y.take κ).length = u.length + κ := by simp; omega
      have hEl : E.length = u.length + 1 + y.length + z.length := by rw [hE']; simp; omega
      have hX : E[u.length + κ]? = some e := by rw [hE', ← hal]; exact get_at _ _ _
      have hY : E[u.length + κ + 1]? = some y[κ] := by
        have := get_at2 (u ++ y.take κ) e y[κ] (y.drop (κ + 1) ++ z)
        rw [hal] at this
        rw [hE']
        exact this
      have hsw := (nb_swap (u ++ y.take κ) e y[κ] (y.drop (κ + 1) ++ z) (i := u.length + κ) (j := u.length + κ + 1) hal.symm (by omega)).1
      rw [← hE', ← hEn] at hsw
      rw [hE]
      have n1 : ((u.length : Int) + κ).toNat = u.length + κ := by omega
      have n2 : ((u.length : Int) + κ + 1).toNat = u.length + κ + 1 := by omega
      generalize y[κ] = q at hX hY hE' hEn
      refine ⟨[], fun _ _ => True, inferInstance, fun w G cx => (cx.weak fun _ _ _ => trivial).right, by unfold I64; omega, by unfold I64; omega, by omega, ptrK_intro g 0 rfl ⟨by omega, ptrK_intro g 0 rfl fun w G cx => ⟨e.d.time, e.p, e.d.row.length, e.c, e.d.n, by rw [Nat.zero_add, n1]; exact e_row cx hX, fun w G cx => ⟨q.d.time, q.p, q.d.row.length, q.c, q.d.n, by rw [Nat.zero_add, n2]; exact e_row cx hY, by omega, ptrK_intro g 0 rfl fun w G cx => ⟨by rw [Nat.zero_add, n1]; exact e_can cx (by omega), fun w' hw' => ?_⟩⟩⟩⟩⟩
      rw [Nat.zero_add, n1] at hw'
      refine ⟨bufE (some ⟨g, 0, none⟩) cap (E.set (u.length + κ) q) :: S, Φ2, inferInstance, e_swap hX hY cx hw', fun w G cx => (cx.weak fun _ _ _ => trivial).right, by omega, ptrK_intro g 0 rfl fun w G cx => ⟨by rw [Nat.zero_add, n2]; exact e_can cx (by rw [List.length_set]; omega), fun w' hw' => ?_⟩⟩
      rw [Nat.zero_add, n2] at hw'
      have cx2 := e_swap2 hX hY cx hw'
      rw [hsw] at cx2
      exact ⟨bufE (some ⟨g, 0, none⟩) cap (u ++ y.take (κ + 1) ++ e :: y.drop (κ + 1) ++ z) :: S, Φ2, inferInstance, cx2, fun w G cx => (cx.weak fun _ _ _ => trivial).right, by unfold I64; omega, _, Φ2, α - (κ + 1), inferInstance, fun w G cx => cx, ⟨κ + 1, by omega, by omega, rfl, rfl, rfl⟩, by omega⟩
    · have hge := of_decide_eq_false hge
      have hκα : κ = α := by omega
      subst hκα
      refine hK (y.take κ ++ e :: y.drop κ) w ?_ (asc_put (by rw [List.take_append_drop]; exact hay) h3 h4) (cx.left.re (by simp))
      have h := List.perm_middle (a := e) (l₁ := y.take κ) (l₂ := y.drop κ)
      rw [List.take_append_drop] at h
      exact h
set_option maxHeartbeats 2000000 in
theorem sym_last {W : World} {S : List Own} {Φ : PW} [Stable Φ] {p : Option Addr} {cap N : Nat} {f : FuncId} {cp : Array Value} {P : DE → Prop} (hf : CmpFn Φ f cp P) (u x : List DE) (e : DE) (z : List DE) (hx : 2 ≤ x.length) (hPe : P e) (hPx : ∀ q ∈ x, P q) (hax : Asc leE x)
    (hN : N = (u ++ x ++ [e] ++ z).length) (hlen : (u ++ x ++ [e] ++ z).length ≤ 100000000) {a m b : Int} (ha : a = u.length) (hm : m = (u.length : Int) + x.length) (hb : b = (u.length : Int) + x.length + 1) {K : Ending → World → Prop}
    (hK : ∀ r w', r.Perm (x ++ [e]) → Asc leE r → Ctx W w' (bufE p cap (u ++ r ++ z) :: S) Φ → K (.returned (.tuple #[])) w') {w : World} (cx : Ctx W w (bufE p cap (u ++ x ++ [e] ++ z) :: S) Φ) :
    Calls Tryd.prog F.slices_symMergeCmpFunc_api_Delta #[.slice p N cap, .int .i64 a, .int .i64 m, .int .i64 b, .func (.func f) #[] cp] w K := by
  subst hN ha hm hb
  have hl : (u ++ x ++ [e] ++ z).length = u.length + x.length + 1 + z.length := by simp; omega
  refine (Bslices_symMergeCmpFunc_api_Delta_run p (u ++ x ++ [e] ++ z).length cap u.length ((u.length : Int) + x.length) ((u.length : Int) + x.length + 1) f cp (J := fun u w' => K (.returned u) w') cx ?_).mono fun e w' ⟨v, he, hj⟩ => by rw [he]; exact hj
  obtain ⟨g, rfl⟩ := e_ptr cx (by omega)
  refine ⟨by unfold I64; omega, Br.intro (fun h => by have := of_decide_eq_true h; omega) (fun _ => ⟨by unfold I64; omega, Br.intro (fun _ => ?_) (fun h => by have := of_decide_eq_false h; omega)⟩)⟩
  refine exI_mk (fun i j R' Φ' k => ∃ α β : Nat, i = (u.length : Int) + α ∧ j = (u.length : Int) + β ∧ α ≤ β ∧ β ≤ x.length ∧ (∀ q ∈ x.take α, leE q e) ∧ (∀ q ∈ x.drop β, leE e q) ∧ R' = bufE (some ⟨g, 0, none⟩) cap (u ++ x ++ [e] ++ z) :: S ∧ Φ' = Φ ∧ k = β - α)
    ⟨⟨_, Φ, _, inferInstance, fun w G cx => cx, 0, x.length, by omega, by omega, by omega, by omega, by simp, by simp, rfl, rfl, rfl⟩, ?_⟩
  clear cx
  rintro _ _ R1 Φ1 k _ ⟨α, β, rfl, rfl, h1, h2, h3, h4, rfl, rfl, rfl⟩
  refine Br.intro (fun hlt => ?_) (fun hge => ?_)
  · have hlt := of_decide_eq_true hlt
    have hαβ : α < β := by omega
    obtain ⟨γ, hγ⟩ : ∃ γ, (α + β) / 2 = γ := ⟨_, rfl⟩
    have hγ1 : α ≤ γ := by omega
    have hγ2 : γ < β := by omega
    have hsum : ((u.length : Int) + α + ((u.length : Int) + β)) = ((2 * u.length + (α + β) : Nat) : Int) := by omega
    have hhalf : (2 * u.length + (α + β)) / 2 = u.length + γ := by omega
    have hX : (u ++ x ++ [e] ++ z)[u.length + γ]? = some x[γ] := get_fst (by omega)
    have hE : (u ++ x ++ [e] ++ z)[u.length + x.length]? = some e := by simp
    have nm : ((u.length : Int) + x.length).toNat = u.length + x.length := by omega
    refine ⟨by unfold I64; omega, ((u.length + γ : Nat) : Int), fun w => by rw [hsum, ← hhalf]; exact shr_run _ (by omega) w, ?_⟩
    rw [wrap_nat (by omega)]
    refine ⟨bufE (some ⟨g, 0, none⟩) cap (u ++ x ++ [e] ++ z) :: S, Φ1, inferInstance, fun w G cx => cx, by omega, ptrK_intro g 0 rfl ⟨by omega, ptrK_intro g 0 rfl ⟨e.d.time, e.p, e.d.row.length, e.c, e.d.n, fun w G cx => ⟨_, e.p, _, e.c, _, by rw [Nat.zero_add, nm]; exact e_row cx hE, rfl⟩, x[γ].d.time, x[γ].p, x[γ].d.row.length, x[γ].c, x[γ].d.n, fun w G cx => ⟨_, x[γ].p, _, x[γ].c, _, by rw [Nat.zero_add, Int.toNat_natCast]; exact e_row cx hX, rfl⟩, fun w G cx => ⟨hf.1, (hf.2 e x[γ] hPe (hPx _ (List.getElem_mem _))).use cx fun w cx => ⟨_, rfl, bufE (some ⟨g, 0, none⟩) cap (u ++ x ++ [e] ++ z) :: S, Φ1, inferInstance, cx, Br.intro (fun hc => ?_) (fun hc => ?_)⟩⟩⟩⟩⟩
    · have hc := leE_not (x := e) (y := x[γ]) (fun h => by rw [decide_eq_true h] at hc; cases hc)
      refine ⟨by unfold I64; omega, _, Φ1, β - (γ + 1), inferInstance, fun w G cx => cx, ⟨γ + 1, β, by omega, by omega, by omega, h2, fun q hq => ?_, h4, rfl, rfl, rfl⟩, by omega⟩
      obtain ⟨i, hi, rfl⟩ := List.getElem_of_mem hq
      rw [List.length_take] at hi
      rw [List.getElem_take]
      exact ordE.trans _ _ _ (asc_le ordE hax (i := i) (j := γ) (by omega) (by omega)) hc
    · have hc := leE_of_lt (show cmpD e.d x[γ].d < 0 by simpa using hc)
      refine ⟨_, Φ1, γ - α, inferInstance, fun w G cx => cx, ⟨α, γ, by omega, by omega, by omega, by omega, h3, fun q hq => ?_, rfl, rfl, rfl⟩, by omega⟩
      obtain ⟨i, hi, rfl⟩ := List.getElem_of_mem hq
      rw [List.length_drop] at hi
      rw [List.getElem_drop]
      exact ordE.trans _ _ _ hc (asc_le ordE hax (i := γ) (j := γ + i) (by omega) (by omega))
  · have hge := of_decide_eq_false hge
    have hαβ : α = β := by omega
    subst hαβ
    refine exI_mk (fun k R' Φ' kk => ∃ κ : Nat, k = (u.length : Int) + κ ∧ α ≤ κ ∧ κ ≤ x.length ∧ R' = bufE (some ⟨g, 0, none⟩) cap (u ++ x.take κ ++ e :: x.drop κ ++ z) :: S ∧ Φ' = Φ1 ∧ κ = kk) ⟨⟨bufE (some ⟨g, 0, none⟩) cap (u ++ x.take x.length ++ e :: x.drop x.length ++ z) :: S, Φ1, _, inferInstance, fun w G cx => cx.re (by simp), x.length, by omega, by omega, by omega, rfl, rfl, rfl⟩, ?_⟩
    rintro _ R2 Φ2 kk _ ⟨κ, rfl, hκ, hκx, rfl, rfl, rfl⟩
    refine Br.intro (fun hlt => ?_) (fun hge => fun w G cx => ?_)
    · have hlt := of_decide_eq_true hlt
      obtain ⟨κ, rfl⟩ : ∃ j, κ = j + 1 := ⟨κ - 1, by omega⟩
      have hκy : κ < x.length := by omega
      obtain ⟨E, hE⟩ : ∃ E, u ++ x.take (κ + 1) ++ e :: x.drop (κ + 1) ++ z = E := ⟨_, rfl⟩
      have hE' : E = (u ++ x.take κ) ++ x[κ] :: e :: (x.drop (κ + 1) ++ z) := by rw [← hE, List.take_succ_eq_append_getElem hκy]; simp only [List.append_assoc, List.cons_append, List.nil_append]
      have hEn : u ++ x.take κ ++ e :: x.drop κ ++ z = (u ++ x.take κ) ++ e :: x[κ] :: (x.drop (κ + 1) ++ z) := by rw [List.drop_eq_getElem_cons hκy]; simp only [List.append_assoc, List.cons_append]
      have hal : (u ++ x.take κ).length = u.length + κ := by simp; omega
      have hEl : E.length = u.length + 1 + x.length + z.length := by rw [hE']; simp; omega
      have hX : E[u.length + κ]? = some x[κ] := by rw [hE', ← hal]; exact get_at _ _ _
      have hY : E[u.length + κ + 1]? = some e := by
        have := get_at2 (u ++ x.take κ) x[κ] e (x.drop (κ + 1) ++ z)
        rw [hal] at this
        rw [hE']
        exact this
      have hsw := (nb_swap (u ++ x.take κ) x[κ] e (x.drop (κ + 1) ++ z) (i := u.length + κ) (j := u.length + κ + 1) hal.symm (by omega)).2
      rw [← hE', ← hEn] at hsw
      rw [hE]
      have n1 : ((u.length : Int) + ((κ + 1 : Nat) : Int)).toNat = u.length + κ + 1 := by omega
      have n2 : ((u.length : Int) + ((κ + 1 : Nat) : Int) - 1).toNat = u.length + κ := by omega
      generalize x[κ] = q at hX hY hE' hEn
      refine ⟨[], fun _ _ => True, inferInstance, fun w G cx => (cx.weak fun _ _ _ => trivial).right, by unfold I64; omega, by unfold I64; omega, by omega, ptrK_intro g 0 rfl ⟨by omega, ptrK_intro g 0 rfl fun w G cx => ⟨e.d.time, e.p, e.d.row.length, e.c, e.d.n, by rw [Nat.zero_add, n1]; exact e_row cx hY, fun w G cx => ⟨q.d.time, q.p, q.d.row.length, q.c, q.d.n, by rw [Nat.zero_add, n2]; exact e_row cx hX, by omega, ptrK_intro g 0 rfl fun w G cx => ⟨by rw [Nat.zero_add, n1]; exact e_can cx (by omega), fun w' hw' => ?_⟩⟩⟩⟩⟩
      rw [Nat.zero_add, n1] at hw'
      refine ⟨bufE (some ⟨g, 0, none⟩) cap (E.set (u.length + κ + 1) q) :: S, Φ2, inferInstance, e_swap hY hX cx hw', fun w G cx => (cx.weak fun _ _ _ => trivial).right, by omega, ptrK_intro g 0 rfl fun w G cx => ⟨by rw [Nat.zero_add, n2]; exact e_can cx (by rw [List.length_set]; omega), fun w' hw' => ?_⟩⟩
      rw [Nat.zero_add, n2] at hw'
      have cx2 := e_swap2 hY hX cx hw'
      rw [hsw] at cx2
      exact ⟨bufE (some ⟨g, 0, none⟩) cap (u ++ x.take κ ++ e :: x.drop κ ++ z) :: S, Φ2, inferInstance, cx2, fun w G cx => (cx.weak fun _ _ _ => trivial).right, by unfold I64; omega, _, Φ2, κ, inferInstance, fun w G cx => cx, ⟨κ, by omega, by omega, by omega, rfl, rfl, rfl⟩, by omega⟩
    · have hge := of_decide_eq_false hge
      have hκα : κ = α := by omega
      subst hκα
      refine hK (x.take κ ++ e :: x.drop κ) w ?_ (asc_put (by rw [List.take_append_drop]; exact hax) h3 h4) (cx.left.re (by simp))
      have h := List.perm_middle (a := e) (l₁ := x.take κ) (l₂ := x.drop κ)
      rw [List.take_append_drop] at h
      exact h.trans (List.perm_append_comm (l₁ := [e]))
end Go.Proofs.YtemhapmbcbbljaaDoor
end

section
namespace Go.Proofs.YtemhapmbcbbljaaDoor
open Go.Vc
theorem one_of {x : List DE} (h : x.length = 1) : ∃ e, x = [e] := by
  match x, h with
  | [e], _ => exact ⟨e, rfl⟩
set_option maxHeartbeats 8000000 in
theorem symMerge_use {W : World} {Φ : PW} [Stable Φ] {p : Option Addr} {cap N : Nat} {f : FuncId} {cp : Array Value} {P : DE → Prop} (hf : CmpFn Φ f cp P) : ∀ (k : Nat) {S : List Own} (u x y z : List DE), x.length + y.length ≤ k → 0 < x.length → 0 < y.length → Asc leE x → Asc leE y → (∀ q ∈ x, P q) → (∀ q ∈ y, P q) →
    N = (u ++ x ++ y ++ z).length → (u ++ x ++ y ++ z).length ≤ 100000000 → ∀ {a m b : Int}, a = u.length → m = (u.length : Int) + x.length → b = (u.length : Int) + x.length + y.length → ∀ {K : Ending → World → Prop},
    (∀ r w', r.Perm (x ++ y) → Asc leE r → Ctx W w' (bufE p cap (u ++ r ++ z) :: S) Φ → K (.returned (.tuple #[])) w') → ∀ {w : World}, Ctx W w (bufE p cap (u ++ x ++ y ++ z) :: S) Φ →
    Calls Tryd.prog F.slices_symMergeCmpFunc_api_Delta #[.slice p N cap, .int .i64 a, .int .i64 m, .int .i64 b, .func (.func f) #[] cp] w K := by
  intro k
  induction k with
  | zero => intro S u x y z h hx; omega
  | succ k ih =>
  intro S u x y z hk hx0 hy0 hxa hya hPx hPy hN hlen a m b ha hm hb K hK w cx
  by_cases hx1 : x.length = 1
  · obtain ⟨e, rfl⟩ := one_of hx1
    exact sym_one hf u e y z hy0 (hPx e (by simp)) hPy hya hN hlen ha (by simpa using hm) (by simpa using hb) hK cx
  by_cases hy1 : y.length = 1
  · obtain ⟨e, rfl⟩ := one_of hy1
    exact sym_last hf u x e z (by omega) (hPy e (by simp)) hPx hxa hN hlen ha hm (by simpa using hb) hK cx
  subst ha hm hb
  have hl : (u ++ x ++ y ++ z).length = u.length + x.length + y.length + z.length := by simp; omega
  obtain ⟨H, hH⟩ : ∃ H, (x.length + y.length) / 2 = H := ⟨_, rfl⟩
  have hH1 : 2 * H ≤ x.length + y.length := by omega
  have hH2 : x.length + y.length ≤ 2 * H + 1 := by omega
  have hsum : ((u.length : Int) + ((u.length : Int) + x.length + y.length)) = ((2 * u.length + (x.length + y.length) : Nat) : Int) := by omega
  have hhalf : (2 * u.length + (x.length + y.length)) / 2 = u.length + H := by omega
  refine (Bslices_symMergeCmpFunc_api_Delta_run p N cap u.length ((u.length : Int) + x.length) ((u.length : Int) + x.length + y.length) f cp (J := fun u w' => K (.returned u) w') cx ?_).mono fun e w' ⟨v, he, hj⟩ => by rw [he]; exact hj
  have hNl : N = u.length + x.length + y.length + z.length := by rw [hN, hl]
  obtain ⟨g, hg⟩ := e_ptr cx (by omega)
  refine ⟨by unfold I64; omega, Br.intro (fun h => by have := of_decide_eq_true h; omega) (fun _ => ⟨by unfold I64; omega, Br.intro (fun h => by have := of_decide_eq_true h; omega) (fun _ => ⟨by unfold I64; omega, ((u.length + H : Nat) : Int), fun w => by rw [hsum, ← hhalf]; exact shr_run _ (by omega) w, ?_⟩)⟩)⟩
  rw [wrap_nat (by omega)]
  refine ⟨by unfold I64; omega, Br.intro (fun hgt => ?_) (fun hle => ?_)⟩
  case' refine_1 =>
    have hgt := of_decide_eq_true hgt
    obtain ⟨σ0, ρ0, hso⟩ : ∃ σ0 ρ0 : Nat, (σ0 = H - y.length ∧ ρ0 = H ∧ y.length ≤ H ∧ H < x.length) ∨ (σ0 = 0 ∧ ρ0 = x.length ∧ x.length ≤ H ∧ H ≤ y.length) := ⟨H - y.length, H, .inl ⟨rfl, rfl, by omega, by omega⟩⟩
    have hst : σ0 = H - y.length ∧ ρ0 = H := by omega
    refine ⟨by unfold I64; omega, by unfold I64; omega, ?_⟩
  case' refine_2 =>
    have hle := of_decide_eq_false hle
    obtain ⟨σ0, ρ0, hst, hso⟩ : ∃ σ0 ρ0 : Nat, (σ0 = 0 ∧ ρ0 = x.length) ∧ ((σ0 = H - y.length ∧ ρ0 = H ∧ y.length ≤ H ∧ H < x.length) ∨ (σ0 = 0 ∧ ρ0 = x.length ∧ x.length ≤ H ∧ H ≤ y.length)) := ⟨0, x.length, ⟨rfl, rfl⟩, .inr ⟨rfl, rfl, by omega, by omega⟩⟩
    refine ⟨by unfold I64; omega, ?_⟩
  all_goals
    have hρ : ρ0 ≤ H ∧ ρ0 ≤ x.length ∧ σ0 ≤ ρ0 := by omega
    refine exI_mk (fun i j R' Φ' k => ∃ s r : Nat, i = (u.length : Int) + s ∧ j = (u.length : Int) + r ∧ σ0 ≤ s ∧ s ≤ r ∧ r ≤ ρ0 ∧ (∀ c, σ0 ≤ c → c < s → ∀ (hc : c < x.length) (hd : H - 1 - c < y.length), leE x[c] y[H - 1 - c]) ∧ (∀ c, r ≤ c → c < ρ0 → ∀ (hc : c < x.length) (hd : H - 1 - c < y.length), leE y[H - 1 - c] x[c]) ∧ R' = bufE p cap (u ++ x ++ y ++ z) :: S ∧ Φ' = Φ ∧ k = r - s)
      ⟨⟨_, Φ, _, inferInstance, fun w G cx => cx, σ0, ρ0, by omega, by omega, by omega, by omega, by omega, fun c h1 h2 => by omega, fun c h1 h2 => by omega, rfl, rfl, rfl⟩, ?_⟩
    clear cx
    rintro _ _ R1' Φ1 kk _ ⟨s, r, rfl, rfl, h1, h2, h3, h4, h5, rfl, rfl, rfl⟩
    refine Br.intro (fun hlt => ?_) (fun hge => ?_)
    · have hlt := of_decide_eq_true hlt
      have hsr : s < r := by omega
      obtain ⟨γ, hγ⟩ : ∃ γ, (s + r) / 2 = γ := ⟨_, rfl⟩
      have hγ1 : s ≤ γ := by omega
      have hγ2 : γ < r := by omega
      have hγx : γ < x.length := by omega
      have hγy : H - 1 - γ < y.length := by omega
      have hsum2 : ((u.length : Int) + s + ((u.length : Int) + r)) = ((2 * u.length + (s + r) : Nat) : Int) := by omega
      have hhalf2 : (2 * u.length + (s + r)) / 2 = u.length + γ := by omega
      have hX : (u ++ x ++ y ++ z)[u.length + γ]? = some x[γ] := get_fst hγx
      have hY : (u ++ x ++ y ++ z)[u.length + x.length + (H - 1 - γ)]? = some y[H - 1 - γ] := get_mid hγy
      have hxx : ∀ (c d : Nat) (h : c ≤ d) (hd : d < x.length), leE (x[c]'(Nat.lt_of_le_of_lt h hd)) x[d] := fun c d hcd hd => asc_le ordE hxa hcd hd
      have hyy : ∀ (c d : Nat) (h : c ≤ d) (hd : d < y.length), leE (y[c]'(Nat.lt_of_le_of_lt h hd)) y[d] := fun c d hcd hd => asc_le ordE hya hcd hd
      have hPX := hPx x[γ] (List.getElem_mem _)
      have hPY := hPy y[H - 1 - γ] (List.getElem_mem _)
      have upX : ∀ c, c < γ + 1 → ∀ (hc : c < x.length), leE x[c] x[γ] := fun c hc hc' => hxx c γ (by omega) hγx
      have upY : ∀ c, c < γ + 1 → ∀ (hd : H - 1 - c < y.length), leE y[H - 1 - γ] y[H - 1 - c] := fun c hc hd => hyy (H - 1 - γ) (H - 1 - c) (by omega) hd
      have dnX : ∀ c, γ ≤ c → ∀ (hc : c < x.length), leE x[γ] x[c] := fun c hc hc' => hxx γ c hc hc'
      have dnY : ∀ c, γ ≤ c → ∀ (hd : H - 1 - c < y.length), leE y[H - 1 - c] y[H - 1 - γ] := fun c hc hd => hyy (H - 1 - c) (H - 1 - γ) (by omega) hγy
      generalize hxe : x[γ] = X at hX hPX upX dnX
      generalize hye : y[H - 1 - γ] = Y at hY hPY upY dnY
      refine ⟨by unfold I64; omega, ((u.length + γ : Nat) : Int), fun w => by rw [hsum2, ← hhalf2]; exact shr_run _ (by omega) w, ?_⟩
      rw [wrap_nat (by omega : u.length + γ ≤ 1000000000)]
      have n2 : (((u.length + H : Nat) : Int) + ((u.length : Int) + x.length) - 1 - ((u.length + γ : Nat) : Int)).toNat = u.length + x.length + (H - 1 - γ) := by omega
      subst hg
      refine ⟨_, Φ1, inferInstance, fun w G cx => cx, by unfold I64; omega, by omega, ptrK_intro g 0 rfl ⟨by omega, ptrK_intro g 0 rfl ⟨X.d.time, X.p, X.d.row.length, X.c, X.d.n, fun w G cx => ⟨_, X.p, _, X.c, _, by rw [Nat.zero_add, Int.toNat_natCast]; exact e_row cx hX, rfl⟩, Y.d.time, Y.p, Y.d.row.length, Y.c, Y.d.n, fun w G cx => ⟨_, Y.p, _, Y.c, _, by rw [Nat.zero_add, n2]; exact e_row cx hY, rfl⟩, fun w G cx => ⟨hf.1, (hf.2 Y X hPY hPX).use cx fun w cx => ⟨_, rfl, bufE (some ⟨g, 0, none⟩) cap (u ++ x ++ y ++ z) :: S, Φ1, inferInstance, cx, Br.intro (fun hc => ?_) (fun hc => ?_)⟩⟩⟩⟩⟩
      · have hc := leE_not (x := Y) (y := X) (fun h => by rw [decide_eq_true h] at hc; cases hc)
        exact ⟨by unfold I64; omega, _, Φ1, r - (γ + 1), inferInstance, fun w G cx => cx, ⟨γ + 1, r, by omega, by omega, by omega, by omega, h3, fun c hc1 hc2 hcx hcy => ordE.trans _ _ _ (upX c hc2 hcx) (ordE.trans _ _ _ hc (upY c hc2 hcy)), h5, rfl, rfl, rfl⟩, by omega⟩
      · have hc : cmpD Y.d X.d < 0 := by simpa using hc
        have hc := leE_of_lt hc
        exact ⟨_, Φ1, γ - s, inferInstance, fun w G cx => cx, ⟨s, γ, by omega, by omega, by omega, by omega, by omega, h4, fun c hc1 hc2 hcx hcy => ordE.trans _ _ _ (dnY c hc1 hcy) (ordE.trans _ _ _ hc (dnX c hc1 hcx)), rfl, rfl, rfl⟩, by omega⟩
    · have hge := of_decide_eq_false hge
      have hsr : s = r := by omega
      subst hsr
      obtain ⟨t, ht⟩ : ∃ t, H - s = t := ⟨_, rfl⟩
      have hst2 : s + t = H := by omega
      have htY : t ≤ y.length := by omega
      have hsX : s ≤ x.length := by omega
      have hend2 : (((u.length + H : Nat) : Int) + ((u.length : Int) + x.length) - ((u.length : Int) + s)) = (u.length : Int) + x.length + t := by omega
      have hsplit := sym_split ordE hxa hya s t hsX htY
        (fun h0 ht' => by have := h4 (s - 1) (by omega) (by omega) (by omega) (by omega); simpa [show H - 1 - (s - 1) = t by omega] using this)
        (fun h0 hs' => by have := h5 s (by omega) (by omega) (by omega) (by omega); simpa [show H - 1 - s = t - 1 by omega] using this)
      obtain ⟨L0, hL0⟩ : ∃ L0, x.take s = L0 := ⟨_, rfl⟩
      obtain ⟨R0, hR0⟩ : ∃ R0, x.drop s = R0 := ⟨_, rfl⟩
      obtain ⟨L1, hL1⟩ : ∃ L1, y.take t = L1 := ⟨_, rfl⟩
      obtain ⟨R1, hR1⟩ : ∃ R1, y.drop t = R1 := ⟨_, rfl⟩
      have hx2 : x = L0 ++ R0 := by rw [← hL0, ← hR0, List.take_append_drop]
      have hy2 : y = L1 ++ R1 := by rw [← hL1, ← hR1, List.take_append_drop]
      have hL0l : L0.length = s := by rw [← hL0, List.length_take]; omega
      have hL1l : L1.length = t := by rw [← hL1, List.length_take]; omega
      have hR0l : R0.length = x.length - s := by rw [← hR0, List.length_drop]
      have hR1l : R1.length = y.length - t := by rw [← hR1, List.length_drop]
      have hL0a : Asc leE L0 := by rw [← hL0]; exact asc_take hxa s
      have hL1a : Asc leE L1 := by rw [← hL1]; exact asc_take hya t
      have hR0a : Asc leE R0 := by rw [← hR0]; exact asc_drop hxa s
      have hR1a : Asc leE R1 := by rw [← hR1]; exact asc_drop hya t
      rw [hL0, hR0, hL1, hR1] at hsplit
      have hPL : ∀ q ∈ L0 ++ L1, P q := fun q hq => by
        rcases List.mem_append.1 hq with h | h
        · exact hPx q (by rw [hx2]; simp [h])
        · exact hPy q (by rw [hy2]; simp [h])
      have hPR : ∀ q ∈ R0 ++ R1, P q := fun q hq => by
        rcases List.mem_append.1 hq with h | h
        · exact hPx q (by rw [hx2]; simp [h])
        · exact hPy q (by rw [hy2]; simp [h])
      have hend : ∀ L r : List DE, L.Perm (L0 ++ L1) → Asc leE L → r.Perm (R0 ++ R1) → Asc leE r → ∀ (w : World) (G : List Own), Ctx W w (bufE p cap (u ++ L ++ r ++ z) :: S ++ G) Φ1 → K (.returned (.tuple #[])) w := fun L r hLp hLa hrp hra w G cx => by
        refine hK (L ++ r) w ?_ (asc_app hLa hra fun q hq q' hq' => hsplit q (hLp.mem_iff.1 hq) q' (hrp.mem_iff.1 hq')) (cx.left.re (by simp))
        rw [hx2, hy2]
        refine (List.Perm.append hLp hrp).trans ?_
        simp only [List.append_assoc]
        exact List.Perm.append_left _ (List.perm_append_comm_assoc _ _ _)
      have hLs : ¬ (0 < s ∧ 0 < t) → Asc leE (L0 ++ L1) := fun h => by
        rcases Nat.eq_zero_or_pos s with hz | hz
        · rw [List.eq_nil_of_length_eq_zero (l := L0) (by omega)]; exact hL1a
        · rw [List.eq_nil_of_length_eq_zero (l := L1) (by omega), List.append_nil]; exact hL0a
      have hRs : ¬ (s < x.length ∧ t < y.length) → Asc leE (R0 ++ R1) := fun h => by
        by_cases hz : s < x.length
        · rw [List.eq_nil_of_length_eq_zero (l := R1) (by omega), List.append_nil]; exact hR0a
        · rw [List.eq_nil_of_length_eq_zero (l := R0) (by omega)]; exact hR1a
      rw [hend2]
      have hcL : ((decide ((u.length : Int) < (u.length : Int) + s) && decide ((u.length : Int) + s < ((u.length + H : Nat) : Int))) = true ↔ (0 < s ∧ 0 < t)) := by
        simp only [Bool.and_eq_true, decide_eq_true_eq]; omega
      have hcR : ((decide (((u.length + H : Nat) : Int) < (u.length : Int) + x.length + t) && decide ((u.length : Int) + x.length + t < (u.length : Int) + x.length + y.length)) = true ↔ (s < x.length ∧ t < y.length)) := by
        simp only [Bool.and_eq_true, decide_eq_true_eq]; omega
      have hxl : x.length = L0.length + R0.length := by omega
      have hyl : y.length = L1.length + R1.length := by omega
      refine ⟨by unfold I64; omega, fun w G cx => Br.intro (fun hro => fun w G cx => ?_) (fun hro => fun w G cx => ?_)⟩
      · simp only [Bool.and_eq_true, decide_eq_true_eq] at hro
        refine rotate_use (S := S ++ G) (u ++ L0) R0 L1 (R1 ++ z) (by omega) (by omega) (cx.re (by rw [hx2, hy2]; simp)) (hN.trans (by simp only [List.length_append]; omega)) (by simp only [List.length_append]; omega) (by simp only [List.length_append]; omega) (by simp only [List.length_append]; omega) (by simp only [List.length_append]; omega) fun w cx => ⟨rfl, bufE p cap (u ++ (L0 ++ L1) ++ (R0 ++ R1) ++ z) :: S, Φ1, inferInstance, cx.re (by simp), fun w G cx => ?_⟩
        exact Br.intro (fun h => fun w G cx => ih (S := S ++ G) u L0 L1 (R0 ++ R1 ++ z) (by omega) (by have := hcL.1 h; omega) (by have := hcL.1 h; omega) hL0a hL1a (fun q hq => hPL q (by simp [hq])) (fun q hq => hPL q (by simp [hq])) (hN.trans (by simp only [List.length_append]; omega)) (by simp only [List.length_append]; omega) (by omega) (by omega) (by omega) (fun L w hLp hLa cx => by have hLl : L.length = L0.length + L1.length := (by have := hLp.length_eq; rw [List.length_append] at this; exact this); exact ⟨rfl, bufE p cap (u ++ L ++ (R0 ++ R1) ++ z) :: S, Φ1, inferInstance, cx.re (by simp), fun w G cx => (Br.intro (fun h => fun w G cx => ih (S := S ++ G) (u ++ L) R0 R1 z (by omega) (by have := hcR.1 h; omega) (by have := hcR.1 h; omega) hR0a hR1a (fun q hq => hPR q (by simp [hq])) (fun q hq => hPR q (by simp [hq])) (hN.trans (by simp only [List.length_append]; omega)) (by simp only [List.length_append]; omega) (by simp only [List.length_append]; omega) (by simp only [List.length_append]; omega) (by simp only [List.length_append]; omega) (fun r w hp ha cx => ⟨rfl, bufE p cap (u ++ L ++ r ++ z) :: S, Φ1, inferInstance, cx, fun w G cx => hend L r hLp hLa hp ha w G cx⟩) (cx.re (by simp))) (fun h => fun w G cx => hend L (R0 ++ R1) hLp hLa (List.Perm.refl _) (hRs (fun hh => by have := hcR.2 hh; rw [this] at h; cases h)) w G cx))⟩) (cx.re (by simp))) (fun h => fun w G cx => by have hLa : Asc leE (L0 ++ L1) := hLs (fun hh => by have := hcL.2 hh; rw [this] at h; cases h); generalize hLe : L0 ++ L1 = L at hLa cx ⊢; have hLl : L.length = L0.length + L1.length := (by rw [← hLe]; exact List.length_append); have hLp : L.Perm (L0 ++ L1) := (by rw [hLe]); exact (Br.intro (fun h => fun w G cx => ih (S := S ++ G) (u ++ L) R0 R1 z (by omega) (by have := hcR.1 h; omega) (by have := hcR.1 h; omega) hR0a hR1a (fun q hq => hPR q (by simp [hq])) (fun q hq => hPR q (by simp [hq])) (hN.trans (by simp only [List.length_append]; omega)) (by simp only [List.length_append]; omega) (by simp only [List.length_append]; omega) (by simp only [List.length_append]; omega) (by simp only [List.length_append]; omega) (fun r w hp ha cx => ⟨rfl, bufE p cap (u ++ L ++ r ++ z) :: S, Φ1, inferInstance, cx, fun w G cx => hend L r hLp hLa hp ha w G cx⟩) (cx.re (by simp))) (fun h => fun w G cx => hend L (R0 ++ R1) hLp hLa (List.Perm.refl _) (hRs (fun hh => by have := hcR.2 hh; rw [this] at h; cases h)) w G cx)))
      · have hro' : ¬ (s < x.length ∧ 0 < t) := fun h => by
          have : (decide ((u.length : Int) + s < (u.length : Int) + x.length) && decide ((u.length : Int) + x.length < (u.length : Int) + x.length + t)) = true := by simp only [Bool.and_eq_true, decide_eq_true_eq]; omega
          rw [this] at hro; cases hro
        have hsame : R0 ++ L1 = L1 ++ R0 := by
          by_cases hz : s < x.length
          · rw [List.eq_nil_of_length_eq_zero (l := L1) (by omega)]; simp
          · rw [List.eq_nil_of_length_eq_zero (l := R0) (by omega)]; simp
        have heq : u ++ x ++ y ++ z = u ++ (L0 ++ L1) ++ (R0 ++ R1) ++ z := by
          rw [hx2, hy2]
          simp only [List.append_assoc]
          rw [← List.append_assoc R0 L1, hsame]
          simp only [List.append_assoc]
        rw [heq] at cx ⊢
        exact Br.intro (fun h => fun w G cx => ih (S := S ++ G) u L0 L1 (R0 ++ R1 ++ z) (by omega) (by have := hcL.1 h; omega) (by have := hcL.1 h; omega) hL0a hL1a (fun q hq => hPL q (by simp [hq])) (fun q hq => hPL q (by simp [hq])) (hN.trans (by simp only [List.length_append]; omega)) (by simp only [List.length_append]; omega) (by omega) (by omega) (by omega) (fun L w hLp hLa cx => by have hLl : L.length = L0.length + L1.length := (by have := hLp.length_eq; rw [List.length_append] at this; exact this); exact ⟨rfl, bufE p cap (u ++ L ++ (R0 ++ R1) ++ z) :: S, Φ1, inferInstance, cx.re (by simp), fun w G cx => (Br.intro (fun h => fun w G cx => ih (S := S ++ G) (u ++ L) R0 R1 z (by omega) (by have := hcR.1 h; omega) (by have := hcR.1 h; omega) hR0a hR1a (fun q hq => hPR q (by simp [hq])) (fun q hq => hPR q (by simp [hq])) (hN.trans (by simp only [List.length_append]; omega)) (by simp only [List.length_append]; omega) (by simp only [List.length_append]; omega) (by simp only [List.length_append]; omega) (by simp only [List.length_append]; omega) (fun r w hp ha cx => ⟨rfl, bufE p cap (u ++ L ++ r ++ z) :: S, Φ1, inferInstance, cx, fun w G cx => hend L r hLp hLa hp ha w G cx⟩) (cx.re (by simp))) (fun h => fun w G cx => hend L (R0 ++ R1) hLp hLa (List.Perm.refl _) (hRs (fun hh => by have := hcR.2 hh; rw [this] at h; cases h)) w G cx))⟩) (cx.re (by simp))) (fun h => fun w G cx => by have hLa : Asc leE (L0 ++ L1) := hLs (fun hh => by have := hcL.2 hh; rw [this] at h; cases h); generalize hLe : L0 ++ L1 = L at hLa cx ⊢; have hLl : L.length = L0.length + L1.length := (by rw [← hLe]; exact List.length_append); have hLp : L.Perm (L0 ++ L1) := (by rw [hLe]); exact (Br.intro (fun h => fun w G cx => ih (S := S ++ G) (u ++ L) R0 R1 z (by omega) (by have := hcR.1 h; omega) (by have := hcR.1 h; omega) hR0a hR1a (fun q hq => hPR q (by simp [hq])) (fun q hq => hPR q (by simp [hq])) (hN.trans (by simp only [List.length_append]; omega)) (by simp only [List.length_append]; omega) (by simp only [List.length_append]; omega) (by simp only [List.length_append]; omega) (by simp only [List.length_append]; omega) (fun r w hp ha cx => ⟨rfl, bufE p cap (u ++ L ++ r ++ z) :: S, Φ1, inferInstance, cx, fun w G cx => hend L r hLp hLa hp ha w G cx⟩) (cx.re (by simp))) (fun h => fun w G cx => hend L (R0 ++ R1) hLp hLa (List.Perm.refl _) (hRs (fun hh => by have := hcR.2 hh; rw [this] at h; cases h)) w G cx)))
end Go.Proofs.YtemhapmbcbbljaaDoor
end

section
namespace Go.Proofs.YtemhapmbcbbljaaDoor
open Go.Vc
theorem cat_all {cs : List (List DE)} {bs : Nat} {c : List DE} (h : ∀ d ∈ cs, d.length = bs ∧ Asc leE d) (h1 : c.length = bs) (h2 : Asc leE c) : ∀ d ∈ cs ++ [c], d.length = bs ∧ Asc leE d := fun d hd => by
  rcases List.mem_append.1 hd with hd | hd
  · exact h d hd
  · rw [List.mem_singleton.1 hd]; exact ⟨h1, h2⟩
theorem flat_snoc (cs : List (List DE)) (c : List DE) : (cs ++ [c]).flatten = cs.flatten ++ c := by simp
theorem flat_one {cs : List (List DE)} {bs : Nat} (h0 : 0 < bs) (h : ∀ d ∈ cs, d.length = bs ∧ Asc leE d) (hl : cs.flatten.length = 0) : cs = [] := by
  cases cs with
  | nil => rfl
  | cons c cs =>
    have := (h c (by simp)).1
    rw [List.flatten_cons, List.length_append] at hl
    omega
set_option maxHeartbeats 4000000 in
theorem stable_use {W w : World} {S : List Own} {Φ : PW} [Stable Φ] {p : Option Addr} {cap : Nat} {f : FuncId} {cp : Array Value} {P : DE → Prop} (hf : CmpFn Φ f cp P) (es : List DE) (hP : ∀ e ∈ es, P e) (cx : Ctx W w (bufE p cap es :: S) Φ)
    (hlen : es.length ≤ 100000000) {K : Ending → World → Prop} (hK : ∀ es' w', es'.Perm es → Asc leE es' → Ctx W w' (bufE p cap es' :: S) Φ → K (.returned (.tuple #[])) w') :
    Calls Tryd.prog F.slices_stableCmpFunc_api_Delta #[.slice p es.length cap, .int .i64 es.length, .func (.func f) #[] cp] w K := by
  refine (Bslices_stableCmpFunc_api_Delta_run p es.length cap es.length f cp (J := fun u w' => K (.returned u) w') cx ?_).mono fun e w' ⟨v, he, hj⟩ => by rw [he]; exact hj
  refine exI_mk (fun a b R' Φ' k => ∃ (cs : List (List DE)) (rest : List DE), a = cs.flatten.length ∧ b = (cs.flatten.length : Int) + 20 ∧ (∀ c ∈ cs, c.length = 20 ∧ Asc leE c) ∧ (cs.flatten ++ rest).Perm es ∧ R' = bufE p cap (cs.flatten ++ rest) :: S ∧ Φ' = Φ ∧ k = rest.length)
    ⟨⟨_, Φ, _, inferInstance, fun w G cx => cx, [], es, rfl, rfl, by simp, List.Perm.refl _, rfl, rfl, rfl⟩, ?_⟩
  clear cx
  rintro _ _ R1 Φ1 k _ ⟨cs, rest, rfl, rfl, hcs, hperm, rfl, rfl, rfl⟩
  have hlp := hperm.length_eq
  rw [List.length_append] at hlp
  have hPr : ∀ q ∈ rest, P q := fun q hq => hP q (hperm.mem_iff.1 (by simp [hq]))
  refine Br.intro (fun hle => fun w G cx => ?_) (fun hgt => fun w G cx => ?_)
  · have hle := of_decide_eq_true hle
    have hl1 : (rest.take 20).length = 20 := by rw [List.length_take]; omega
    have hl2 : (rest.drop 20).length = rest.length - 20 := by rw [List.length_drop]
    refine insertionSort_use (S := S ++ G) hf cs.flatten (rest.take 20) (rest.drop 20) (fun q hq => hPr q (List.mem_of_mem_take hq)) (cx.re (by simp)) (by simp only [List.length_append]; omega) (by simp only [List.length_append]; omega) rfl (by omega) fun x' w hp ha cx => ?_
    have hx' : x'.length = 20 := by rw [hp.length_eq, hl1]
    refine ⟨rfl, bufE p cap ((cs ++ [x']).flatten ++ rest.drop 20) :: S, Φ1, inferInstance, cx.re (by rw [flat_snoc]; rfl), by unfold I64; omega, _, Φ1, (rest.drop 20).length, inferInstance, fun w G cx => cx, ⟨cs ++ [x'], rest.drop 20, by rw [flat_snoc, List.length_append]; omega, by rw [flat_snoc, List.length_append]; omega, cat_all hcs hx' ha, ?_, rfl, rfl, rfl⟩, by omega⟩
    refine List.Perm.trans ?_ hperm
    rw [flat_snoc, List.append_assoc]
    refine List.Perm.append_left _ ((List.Perm.append_right _ hp).trans ?_)
    rw [List.take_append_drop]
  have hgt := of_decide_eq_false hgt
  refine insertionSort_use (S := S ++ G) hf cs.flatten rest [] hPr (cx.re (by simp)) (by simp only [List.length_append, List.length_nil]; omega) (by simp only [List.length_append, List.length_nil]; omega) rfl (by omega) fun x' w hp ha cx => ?_
  have hx' := hp.length_eq
  refine ⟨rfl, bufE p cap (cs.flatten ++ x') :: S, Φ1, inferInstance, cx.re (by simp), ?_⟩
  refine exI_mk (fun bs R' Φ' k => ∃ (b : Nat) (cs : List (List DE)) (rest : List DE), bs = b ∧ 20 ≤ b ∧ b ≤ 200000000 ∧ (∀ c ∈ cs, c.length = b ∧ Asc leE c) ∧ Asc leE rest ∧ rest.length < b ∧ (cs.flatten ++ rest).Perm es ∧ R' = bufE p cap (cs.flatten ++ rest) :: S ∧ Φ' = Φ1 ∧ k = es.length - b)
    ⟨⟨_, Φ1, _, inferInstance, fun w G cx => cx, 20, cs, x', rfl, by omega, by omega, hcs, ha, by omega, (List.Perm.append_left _ hp).trans hperm, rfl, rfl, rfl⟩, ?_⟩
  clear cx hx' ha hp hcs hperm hPr hlp hgt
  rintro _ R2 Φ2 k _ ⟨b, cs, rest, rfl, hb20, hbm, hcs, hra, hrl, hperm, rfl, rfl, rfl⟩
  have hlp := hperm.length_eq
  rw [List.length_append] at hlp
  refine Br.intro (fun hlt => ?_) (fun hge => fun w G cx => ?_)
  · have hlt := of_decide_eq_true hlt
    refine ⟨by unfold I64; omega, ?_⟩
    refine exI_mk (fun a e R' Φ' k => ∃ (ds cs : List (List DE)), a = ds.flatten.length ∧ e = (ds.flatten.length : Int) + 2 * b ∧ (∀ d ∈ ds, d.length = 2 * b ∧ Asc leE d) ∧ (∀ c ∈ cs, c.length = b ∧ Asc leE c) ∧ (ds.flatten ++ (cs.flatten ++ rest)).Perm es ∧ R' = bufE p cap (ds.flatten ++ (cs.flatten ++ rest)) :: S ∧ Φ' = Φ2 ∧ k = cs.length)
      ⟨⟨_, Φ2, _, inferInstance, fun w G cx => cx, [], cs, rfl, by simp, by simp, hcs, hperm, rfl, rfl, rfl⟩, ?_⟩
    clear hcs hperm hlp
    rintro _ _ R3 Φ3 k _ ⟨ds, cs, rfl, rfl, hds, hcs, hperm, rfl, rfl, rfl⟩
    have hlp := hperm.length_eq
    rw [List.length_append, List.length_append] at hlp
    have hPc : ∀ c ∈ cs, ∀ q ∈ c, P q := fun c hc q hq => hP q (hperm.mem_iff.1 (by
      simp only [List.mem_append, List.mem_flatten]
      exact .inr (.inl ⟨c, hc, hq⟩)))
    have hPr : ∀ q ∈ rest, P q := fun q hq => hP q (hperm.mem_iff.1 (by simp [hq]))
    refine Br.intro (fun hle => ?_) (fun hgt => ?_)
    · have hle := of_decide_eq_true hle
      obtain ⟨c1, c2, cs, rfl⟩ : ∃ c1 c2 cs', cs = c1 :: c2 :: cs' := by
        match cs, hcs, hlp with
        | [], _, hlp => simp only [List.flatten_nil, List.flatten_cons, List.length_nil, List.length_append] at hlp; omega
        | [c], hcs, hlp => have := (hcs c (by simp)).1; simp only [List.flatten_nil, List.flatten_cons, List.length_nil, List.length_append] at hlp; omega
        | c1 :: c2 :: cs', _, _ => exact ⟨c1, c2, cs', rfl⟩
      obtain ⟨hc1, ha1⟩ := hcs c1 (by simp)
      obtain ⟨hc2, ha2⟩ := hcs c2 (by simp)
      simp only [List.flatten_cons, List.length_append] at hlp
      refine ⟨by unfold I64; omega, fun w G cx => ?_⟩
      refine symMerge_use (S := S ++ G) hf _ ds.flatten c1 c2 (cs.flatten ++ rest) (Nat.le_refl _) (by omega) (by omega) ha1 ha2 (hPc c1 (by simp)) (hPc c2 (by simp)) (by simp only [List.length_append]; omega) (by simp only [List.length_append]; omega) rfl (by omega) (by omega) (fun r w hp ha cx => ?_) (cx.re (by simp))
      have hrl2 : r.length = 2 * b := by rw [hp.length_eq, List.length_append]; omega
      refine ⟨rfl, bufE p cap ((ds ++ [r]).flatten ++ (cs.flatten ++ rest)) :: S, Φ3, inferInstance, cx.re (by rw [flat_snoc]; rfl), by unfold I64; omega, by unfold I64; omega, _, Φ3, cs.length, inferInstance, fun w G cx => cx, ⟨ds ++ [r], cs, by rw [flat_snoc, List.length_append]; omega, by rw [flat_snoc, List.length_append]; omega, cat_all hds hrl2 ha, fun c hc => hcs c (by simp [hc]), ?_, rfl, rfl, rfl⟩, by simp; omega⟩
      refine List.Perm.trans ?_ hperm
      rw [flat_snoc, List.append_assoc]
      refine List.Perm.append_left _ ((List.Perm.append_right _ hp).trans (List.Perm.of_eq ?_))
      simp
    · have hgt := of_decide_eq_false hgt
      have hshape : (cs = [] ∧ rest.length = rest.length) ∨ ∃ c, cs = [c] := by
        match cs, hcs, hlp with
        | [], _, _ => exact .inl ⟨rfl, rfl⟩
        | [c], _, _ => exact .inr ⟨c, rfl⟩
        | c1 :: c2 :: cs', hcs, hlp =>
          have h1 := (hcs c1 (by simp)).1
          have h2 := (hcs c2 (by simp)).1
          simp only [List.flatten_cons, List.length_append] at hlp
          omega
      refine ⟨by unfold I64; omega, Br.intro (fun hm => fun w G cx => ?_) (fun hm => ⟨by unfold I64; omega, ?_⟩)⟩
      · have hm := of_decide_eq_true hm
        obtain ⟨c, rfl⟩ : ∃ c, cs = [c] := by
          rcases hshape with ⟨rfl, _⟩ | h
          · simp only [List.flatten_nil, List.flatten_cons, List.length_nil, List.length_append] at hlp; omega
          · exact h
        obtain ⟨hc1, ha1⟩ := hcs c (by simp)
        simp only [List.flatten_cons, List.flatten_nil, List.append_nil] at hlp
        refine symMerge_use (S := S ++ G) hf _ ds.flatten c rest [] (Nat.le_refl _) (by omega) (by omega) ha1 hra (hPc c (by simp)) hPr (by simp only [List.length_append, List.length_nil]; omega) (by simp only [List.length_append, List.length_nil]; omega) rfl (by omega) (by omega) (fun r w hp ha cx => ?_) (cx.re (by simp))
        have hrl2 : r.length = b + rest.length := by rw [hp.length_eq, List.length_append]; omega
        refine ⟨rfl, bufE p cap (ds.flatten ++ r) :: S, Φ3, inferInstance, cx.re (by simp), by unfold I64; omega, _, Φ3, es.length - 2 * b, inferInstance, fun w G cx => cx, ⟨2 * b, ds, r, by omega, by omega, by omega, hds, ha, by omega, ?_, rfl, rfl, rfl⟩, by omega⟩
        refine List.Perm.trans (List.Perm.append_left _ hp) (List.Perm.trans (List.Perm.of_eq ?_) hperm)
        simp
      · have hm := of_decide_eq_false hm
        rcases hshape with ⟨rfl, _⟩ | ⟨c, rfl⟩
        · exact ⟨bufE p cap (ds.flatten ++ rest) :: S, Φ3, es.length - 2 * b, inferInstance, fun w G cx => cx, ⟨2 * b, ds, rest, by omega, by omega, by omega, hds, hra, by omega, hperm, rfl, rfl, rfl⟩, by omega⟩
        · obtain ⟨hc1, ha1⟩ := hcs c (by simp)
          simp only [List.flatten_cons, List.flatten_nil, List.append_nil] at hlp hperm
          have hr : rest = [] := List.eq_nil_of_length_eq_zero (by omega)
          subst hr
          rw [List.append_nil] at hperm
          exact ⟨bufE p cap (ds.flatten ++ c) :: S, Φ3, es.length - 2 * b, inferInstance, fun w G cx => cx.re (by simp), ⟨2 * b, ds, c, by omega, by omega, by omega, hds, ha1, by omega, hperm, rfl, rfl, rfl⟩, by omega⟩
  · have hge := of_decide_eq_false hge
    refine hK (cs.flatten ++ rest) w hperm ?_ cx.left
    cases cs with
    | nil => exact hra
    | cons c cs =>
      have h1 := (hcs c (by simp)).1
      rw [List.flatten_cons, List.length_append] at hlp
      have h2 : cs = [] := flat_one (by omega) (fun d hd => hcs d (by simp [hd])) (by omega)
      have h3 : rest = [] := List.eq_nil_of_length_eq_zero (by omega)
      subst h2 h3
      simpa using (hcs c (by simp)).2
theorem SortStable_use {W w : World} {S : List Own} {Φ : PW} [Stable Φ] {p : Option Addr} {cap : Nat} {f : FuncId} {cp : Array Value} {P : DE → Prop} (hf : CmpFn Φ f cp P) (es : List DE) (hP : ∀ e ∈ es, P e) (cx : Ctx W w (bufE p cap es :: S) Φ)
    (hlen : es.length ≤ 100000000) {K : Ending → World → Prop} (hK : ∀ es' w', es'.Perm es → Asc leE es' → Ctx W w' (bufE p cap es' :: S) Φ → K (.returned (.tuple #[])) w') :
    Calls Tryd.prog F.slices_SortStableFunc_api_Delta_api_Delta #[.slice p es.length cap, .func (.func f) #[] cp] w K := by
  refine (Bslices_SortStableFunc_api_Delta_api_Delta_run p es.length cap f cp (J := fun u w' => K (.returned u) w') cx ?_).mono fun e w' ⟨v, he, hj⟩ => by rw [he]; exact hj
  exact fun w G cx => stable_use (S := S ++ G) hf es hP cx hlen fun es' w hp ha cx => ⟨rfl, bufE p cap es' :: S, Φ, inferInstance, cx, fun w G cx => hK es' w hp ha cx.left⟩
end Go.Proofs.YtemhapmbcbbljaaDoor
end

section
namespace Go.Proofs.YtemhapmbcbbljaaDoor
open Go.Vc
set_option maxHeartbeats 1000000 in
set_option maxRecDepth 100000 in
theorem bytealg_CompareString (a b : ByteArray) (w : World) :
    Calls Tryd.prog 62 #[.string a, .string b] w fun e w' => e = .returned (.int .i64 (Lib.compareBytes a.data.toList b.data.toList)) ∧ w' = w := by
  go_enter Tryd.func62, Tryd.ntmps62
  go_wp2
  rw [run_callFunc_extern Tryd.func70 (by kernel_rfl) (by kernel_rfl) (by kernel_rfl) (e := Extern.BytealgCompare.compare) (by kernel_rfl), Lib.run_compareString]
  simp only [Result.andThen]
  rw [Oper.upon_value]
  go_wp2
  go_ret
  exact ⟨rfl, rfl⟩
set_option maxHeartbeats 1000000 in
theorem strings_Compare (a b : ByteArray) (w : World) :
    Calls Tryd.prog 53 #[.string a, .string b] w fun e w' => e = .returned (.int .i64 (Lib.compareBytes a.data.toList b.data.toList)) ∧ w' = w := by
  go_enter Tryd.func53, Tryd.ntmps53
  go_wp2_with (go_at_call 62; refine (bytealg_CompareString _ _ _).mono ?_; rintro e w' ⟨rfl, rfl⟩)
  go_ret
  exact ⟨rfl, rfl⟩
theorem sl_val {M : List Nat} {w : World} {b o : Nat} {l : List ValD} (h : Sl M w (some ⟨b, o, none⟩) l) {i : Nat} (hi : i < l.length) : RowAt w b (o + i * 3) [.int .i64 l[i].kind, .int .i64 l[i].num, .string l[i].text] := by
  obtain ⟨b', o', cs, e, _, h3, _, _, rfl, ⟨rfl, _⟩, _, _, rfl, ⟨rfl, _⟩, rfl, _⟩ := h i hi
  cases e
  exact h3
theorem sl_int {M : List Nat} {w : World} {b o : Nat} {l : List Int} (h : Sl M w (some ⟨b, o, none⟩) l) {i : Nat} (hi : i < l.length) : w.cell? ⟨b, o + i, none⟩ = some (.int .i64 l[i]) := by
  obtain ⟨b', o', cs, e, _, h3, rfl, _⟩ := h i hi
  cases e
  have := h3 0 (by simp)
  simpa [show (Gv.ty Int).size = 1 from rfl] using this
theorem isNaN_g (x : Int) : Gives Tryd.prog F.cmp_isNaN_int #[.int .i64 x] (.bool false) :=
  gives_of (Bcmp_isNaN_int_run x) fun W R Φ _ => fun w F c => ⟨by simp, c.left⟩
theorem cmp_g (x y : Int) : Gives Tryd.prog F.cmp_Compare_int #[.int .i64 x, .int .i64 y] (.int .i64 (cmpI x y)) := by
  refine gives_of (Bcmp_Compare_int_run x y) fun W R Φ _ => ?_
  refine fun w F c => (isNaN_g _).use c fun w c => ⟨_, rfl, _, _, inferInstance, c, fun w F c => (isNaN_g _).use c fun w c => ⟨_, rfl, _, _, inferInstance, c, Br.intro (fun h => by cases h) (fun _ => Br.intro (fun h => by cases h) (fun _ => Br.intro (fun h => fun w F c => ⟨?_, c.left⟩) (fun h => Br.intro (fun h2 => fun w F c => ⟨?_, c.left⟩) (fun h2 => fun w F c => ⟨?_, c.left⟩))))⟩⟩
  · unfold cmpI; rw [if_pos (by simpa using h)]
  · have h : ¬ x < y := by simpa using h
    unfold cmpI; rw [if_neg h, if_pos (by simpa using h2)]
  · have h : ¬ x < y := by simpa using h
    have h2 : ¬ y < x := by simpa using h2
    unfold cmpI; rw [if_neg h, if_neg h2]
theorem orI_drop (l : List Int) (i : Nat) (hi : i < l.length) : orI (l.drop i) = if l[i] ≠ 0 then l[i] else orI (l.drop (i + 1)) := by
  rw [List.drop_eq_getElem_cons hi]; rfl
theorem or_in {Φ : PW} [Stable Φ] (p : Option Addr) (cap : Nat) (l : List Int) (hΦ : ∀ M w, Φ M w → Sl M w p l) (hlen : l.length ≤ 1000000) :
    GivesIn Φ Tryd.prog F.cmp_Or_int #[.slice p l.length cap] (.int .i64 (orI l)) := by
  refine .there (fun M w h => (hΦ M w h).there) fun hth => ?_
  refine gives_in (Bcmp_Or_int_run p l.length cap) fun W R => ?_
  refine exI_mk (fun n R' Φ' k => ∃ i : Nat, n = i ∧ i ≤ l.length ∧ R' = R ∧ Φ' = Φ ∧ k = l.length - i ∧ orI l = orI (l.drop i)) ⟨⟨R, Φ, _, inferInstance, fun w F c => c, 0, rfl, Nat.zero_le _, rfl, rfl, rfl, rfl⟩, ?_⟩
  rintro n R1 Φ1 k _ ⟨i, rfl, hi, rfl, rfl, rfl, hor⟩
  refine Br.intro (fun hlt => ?_) (fun hge => fun w F cx => ⟨?_, cx.left⟩)
  · have hlt : i < l.length := by simpa using hlt
    obtain ⟨b, o, rfl⟩ := hth (by omega)
    rw [orI_drop l i hlt] at hor
    refine ⟨by omega, ptrK_intro b o rfl fun w F cx => ⟨_, sl_int (hΦ _ _ cx.phi) hlt, Br.intro (fun h => fun w F cx => ⟨?_, cx.left⟩) (fun h => ⟨by unfold I64; omega, R1, Φ1, l.length - (i + 1), inferInstance, fun w F c => c, ⟨i + 1, rfl, hlt, rfl, rfl, rfl, ?_⟩, by omega⟩)⟩⟩
    · have h : l[i] ≠ 0 := by simpa using h
      rw [hor, if_pos h]
    · have h : ¬ l[i] ≠ 0 := by simpa using h
      rw [hor, if_neg h]
  · have hge : i = l.length := Nat.le_antisymm hi (by simpa using hge)
    rw [hor, hge, List.drop_length]
    rfl
theorem I64_bd {x : Int} (h : -1 ≤ x ∧ x ≤ 1) : I64 x := by unfold I64; omega
theorem ints_elems {M : List Nat} {w : World} : ∀ (l : List Int), (∀ x ∈ l, I64 x) → Elems M w (l.map fun x => .int .i64 x) l := by
  intro l h
  refine ⟨by simp [show (Gv.ty Int).size = 1 from rfl], fun j hj => ?_⟩
  rw [show (Gv.ty Int).size = 1 from rfl, Nat.mul_one, rep_int]
  refine ⟨?_, h _ (List.getElem_mem _)⟩
  apply List.ext_getElem?
  intro i
  rcases i with _ | i
  · rw [List.getElem?_take_of_lt (by omega), List.getElem?_drop]; simp [hj]
  · simp; omega
theorem tcmp_g (x y : ByteArray) : Gives Tryd.prog F.strings_Compare #[.string x, .string y] (.int .i64 (cmpT x y)) :=
  Quiet.gives ⟨fun w => strings_Compare x y w⟩
theorem or_blk {W w : World} {S : List Own} {Φ : PW} [Stable Φ] {k : Nat} {t : TypeId} (l : List Int) (cap : Nat) (hl : ∀ x ∈ l, I64 x) (hlen : l.length ≤ 1000000) (c : Ctx W w (.blk k (l.map fun x => .int .i64 x) t :: S) Φ)
    {K : Ending → World → Prop} (hk : ∀ w', Ctx W w' S Φ → K (.returned (.int .i64 (orI l))) w') : Calls Tryd.prog F.cmp_Or_int #[.slice (some ⟨k, 0, none⟩) l.length cap] w K := by
  obtain ⟨c', hs⟩ := c.freezeBlk (ints_elems l hl)
  exact (or_in (Φ := fun M w => Φ M w ∧ Sl M w (some ⟨k, 0, none⟩) l) (some ⟨k, 0, none⟩) cap l (fun _ _ h => h.2) hlen).use (c'.add hs) fun w' c => hk w' c.fst
theorem cmpV_g (x y : ValD) : Gives Tryd.prog F.value_Compare #[x.v, y.v] (.int .i64 (cmpV x y)) := by
  refine gives_of (Bvalue_Compare_run x.kind x.num x.text y.kind y.num y.text) fun W R Φ _ => ?_
  refine fun _ _ => ⟨R, Φ, inferInstance, fun _ _ c => c, fun w F c => (cmp_g _ _).use c fun w c => ⟨_, rfl, R, Φ, inferInstance, c, fun _ _ c => c, fun w F c => (cmp_g _ _).use c fun w c => ⟨_, rfl, R, Φ, inferInstance, c, fun _ _ c => c, fun w F c => (tcmp_g _ _).use c fun w c => ⟨_, rfl, R, Φ, inferInstance, c, fun k w F c => ?_⟩⟩⟩⟩
  refine or_blk (cmpL x y) 3 (fun u hu => ?_) (by simp) c fun w c => ⟨_, rfl, R, Φ, inferInstance, c, fun w F c => ⟨rfl, c.left⟩⟩
  simp only [cmpL, List.mem_cons, List.not_mem_nil, or_false] at hu
  rcases hu with rfl | rfl | rfl
  · exact I64_bd (cmpI_cmp.bd _ _)
  · exact I64_bd (cmpI_cmp.bd _ _)
  · exact I64_bd (cmpT_cmp.bd _ _)
theorem CompareRows_in {Φ : PW} [Stable Φ] (p q : Option Addr) (cap cap2 : Nat) (l r : List ValD) (hΦ : ∀ M w, Φ M w → Sl M w p l) (hΨ : ∀ M w, Φ M w → Sl M w q r) (hlen : l.length ≤ 9223372036854775807) :
    GivesIn Φ Tryd.prog F.value_CompareRows #[.slice p l.length cap, .slice q r.length cap2] (.int .i64 (cmpR l r)) := by
  refine .there (fun M w h => (hΦ M w h).there) fun hth => .there (fun M w h => (hΨ M w h).there) fun hth2 => ?_
  refine gives_in (Bvalue_CompareRows_run p l.length cap q r.length cap2) fun W R => fun w0 F0 c0 => ?_
  refine GivesIn.use ?_ c0 fun w c => ⟨_, rfl, R, Φ, inferInstance, c, fun w F c => ⟨rfl, c.left⟩⟩
  refine gives_in (Bslices_CompareFunc_api_Value__api_Value_api_Value_api_Value_run p l.length cap q r.length cap2 35 #[]) fun W R => ?_
  refine exI_mk (fun n R' Φ' k => ∃ i : Nat, n = i ∧ i ≤ l.length ∧ i ≤ r.length ∧ R' = R ∧ Φ' = Φ ∧ k = l.length - i ∧ cmpR l r = cmpR (l.drop i) (r.drop i)) ⟨⟨R, Φ, _, inferInstance, fun w F c => c, 0, rfl, Nat.zero_le _, Nat.zero_le _, rfl, rfl, rfl, rfl⟩, ?_⟩
  rintro n R1 Φ1 k _ ⟨i, rfl, hi, hr, rfl, rfl, rfl, hcm⟩
  refine Br.intro (fun hlt => ?_) (fun hge => ?_)
  · have hlt : i < l.length := by simpa using hlt
    obtain ⟨b, o, rfl⟩ := hth (by omega)
    refine ⟨by omega, ptrK_intro b o rfl fun w F cx => ⟨_, _, _, sl_val (hΦ _ _ cx.phi) hlt, fun _ => Br.intro (fun h => fun w F cx => ⟨?_, cx.left⟩) (fun h => ?_)⟩⟩
    · have h : r.length ≤ i := by simpa using h
      rw [hcm, cmpR_left hlt h]
    · have h : i < r.length := by simpa using h
      obtain ⟨b2, o2, rfl⟩ := hth2 (by omega)
      rw [cmpR_both hlt h] at hcm
      refine ⟨by omega, ptrK_intro b2 o2 rfl fun w F cx => ⟨_, _, _, sl_val (hΨ _ _ cx.phi) h, fun _ w F cx => ⟨by kernel_rfl, (cmpV_g l[i] r[i]).use cx fun w cx => ⟨_, rfl, R1, Φ1, inferInstance, cx, Br.intro (fun hn => fun w F cx => ⟨?_, cx.left⟩) (fun hn => ⟨by unfold I64; omega, R1, Φ1, l.length - (i + 1), inferInstance, fun w F c => c, ⟨i + 1, rfl, hlt, h, rfl, rfl, rfl, ?_⟩, by omega⟩)⟩⟩⟩⟩
      · have hn : cmpV l[i] r[i] ≠ 0 := by simpa using hn
        rw [hcm, if_pos hn]
      · have hn : ¬ cmpV l[i] r[i] ≠ 0 := by simpa using hn
        rw [hcm, if_neg hn]
  · have hge : i = l.length := Nat.le_antisymm hi (by simpa using hge)
    subst hge
    refine Br.intro (fun h => fun w F cx => ⟨?_, cx.left⟩) (fun h => fun w F cx => ⟨?_, cx.left⟩)
    · have h : l.length < r.length := by simpa using h
      rw [hcm, List.drop_length, List.drop_eq_getElem_cons h]; rfl
    · have h : ¬ l.length < r.length := by simpa using h
      rw [hcm, List.drop_length, List.drop_of_length_le (by omega)]; rfl
theorem compareD_in {Φ : PW} [Stable Φ] (x y : DeltaD) (p q : Option Addr) (cap cap2 : Nat) (hΦ : ∀ M w, Φ M w → Sl M w p x.row) (hΨ : ∀ M w, Φ M w → Sl M w q y.row) (hlen : x.row.length ≤ 9223372036854775807) :
    GivesIn Φ Tryd.prog F.delta_compare #[x.v p cap, y.v q cap2] (.int .i64 (cmpD x y)) := by
  refine gives_in (Bdelta_compare_run x.time p x.row.length cap x.n y.time q y.row.length cap2 y.n) fun W R => ?_
  refine fun _ _ => ⟨R, Φ, inferInstance, fun _ _ c => c, fun w F c => (cmp_g _ _).use c fun w c => ⟨_, rfl, R, Φ, inferInstance, c, fun _ _ c => c, fun w F c => (CompareRows_in p q cap cap2 x.row y.row hΦ hΨ hlen).use c fun w c => ⟨_, rfl, R, Φ, inferInstance, c, fun k w F c => ?_⟩⟩⟩
  refine or_blk (cmpDL x y) 2 (fun u hu => ?_) (by simp) c fun w c => ⟨_, rfl, R, Φ, inferInstance, c, fun w F c => ⟨rfl, c.left⟩⟩
  simp only [cmpDL, List.mem_cons, List.not_mem_nil, or_false] at hu
  rcases hu with rfl | rfl
  · exact I64_bd (cmpI_cmp.bd _ _)
  · exact I64_bd (cmpR_cmp.bd _ _)
end Go.Proofs.YtemhapmbcbbljaaDoor
end

section
namespace Go.Proofs.YtemhapmbcbbljaaDoor
open Go.Vc
abbrev intv (x : Int) : Value := .int .i64 x
abbrev bufZ (p : Option Addr) (cap : Nat) (zs : List Int) : Own := .buf p zs.length cap (zs.map intv) 3 1
def minZ : List Int → Int
  | [] => 0
  | x :: r => r.foldl min x
theorem minZ_snoc {l : List Int} (h : l ≠ []) (x : Int) : minZ (l ++ [x]) = min (minZ l) x := by
  cases l with
  | nil => exact absurd rfl h
  | cons y l => simp [minZ]
theorem foldl_min (w : Int) : ∀ (l : List Int) (a : Int), w ≤ l.foldl min a ↔ w ≤ a ∧ ∀ x ∈ l, w ≤ x
  | [], a => by simp
  | x :: l, a => by
    rw [List.foldl_cons, foldl_min w l]
    simp only [List.mem_cons, forall_eq_or_imp]
    constructor
    · rintro ⟨h1, h2⟩; exact ⟨by omega, by omega, h2⟩
    · rintro ⟨h1, h2, h3⟩; exact ⟨by omega, h3⟩
theorem minZ_le {l : List Int} (h : l ≠ []) (w : Int) : w ≤ minZ l ↔ ∀ x ∈ l, w ≤ x := by
  cases l with
  | nil => exact absurd rfl h
  | cons y l =>
    show w ≤ l.foldl min y ↔ _
    rw [foldl_min]
    simp
section
variable {W w w' : World} {S : List Own} {Φ : PW} {p : Option Addr} {g cap : Nat} {zs : List Int} {i : Nat} {x : Int}
end
theorem int_one (M : List Nat) (w : World) (cs : List Value) (x : Int) (h : Gv.rep M w cs x) : (cs.all fun u => oneC u) = true := by
  obtain ⟨rfl, _⟩ := h
  rfl
section
variable {W w : World} {R G : List Own} {Φ PS : PW} {p q : Option Addr} {cap cap2 : Nat} {l a b : List Int}
theorem pushZ [Stable PS] {op : Option Addr} {oc kb : Nat} {o : List Int} {x : Int} (ho : o.length < 10000000) (cx : Ctx W w (.blk kb [.int .i64 x] 3 :: bufZ op oc o :: R ++ G) PS) :
    ∃ p c w', Sem.run Tryd.prog (builtin Builtin.append #[22, 22] 22 #[false, false] #[.slice op o.length oc, .slice (some ⟨kb, 0, none⟩) 1 1]) w = .ok (.value (.slice p (o ++ [x]).length c)) w' ∧ Ctx W w' (bufZ p c (o ++ [x]) :: R ++ G) PS := by
  obtain ⟨p', cap', w', hrun, _, cx'⟩ := Ctx.app1 (P := Tryd.prog) (ts := 22) (ty := 22) (kb := #[false, false]) (size := 1) (bytes := 8) cx (by kernel_rfl) (by omega) rfl rfl (by omega) (by omega)
  have e : o.length + 1 = (o ++ [x]).length := by simp
  have em : o.map intv ++ [.int .i64 x] = (o ++ [x]).map intv := by rw [List.map_append]; rfl
  rw [e] at hrun cx'
  rw [em] at cx'
  exact ⟨p', cap', w', hrun, cx'⟩
theorem CloneZ_in [Stable Φ] (hΦ : ∀ M w, Φ M w → Sl M w p l) (hlen : l.length ≤ 17592186044416) : GivesNew Φ Tryd.prog F.slices_Clone_int_int #[.slice p l.length cap] l 3 := by
  refine .there (fun M w h => (hΦ M w h).there) fun hth => ?_
  refine gives_new (Bslices_Clone_int_int_run p l.length cap) fun W R => ?_
  refine Br.intro (fun hn => fun w F c => ?_) (fun hn => ?_)
  · have hl : l = [] := by
      cases l with
      | nil => rfl
      | cons => obtain ⟨b, o, e⟩ := hth (by simp); rw [e] at hn; cases hn
    subst hl
    exact ⟨none, 0, [], rfl, (c.left.buf0 3 1).add Elems.nil⟩
  · intro k w F c
    obtain ⟨p', cap', w', cs, hrun, c'⟩ := Ctx.clonedW (P := Tryd.prog) (ts := 22) (ty := 22) (kb := #[false, false]) (bytes := 8) (c2 := cap) c (by kernel_rfl) int_one hΦ (by omega) (by omega)
    exact ⟨_, _, _, _, hrun, _, _, inferInstance, c', fun w F c => ⟨p', cap', cs, rfl, c.left⟩⟩
theorem Min_in [Stable Φ] [hΦ : Has Φ (fun M w => Sl M w p l)] (h0 : 0 < l.length) (hlen : l.length ≤ 17592186044416) : GivesIn Φ Tryd.prog F.slices_Min_int_int #[.slice p l.length cap] (.int .i64 (minZ l)) := by
  refine .there (fun M w h => (hΦ.go M w h).there) fun hth => ?_
  obtain ⟨g, o, rfl⟩ := hth h0
  refine gives_in (Bslices_Min_int_int_run _ l.length cap) fun W R => Br.intro (fun h => by have := of_decide_eq_true h; omega) (fun _ => ⟨by omega, ptrK_intro g o rfl fun w G cx => ⟨l[0], sl_int (hΦ.go _ _ cx.phi) h0, ?_⟩⟩)
  clear cx
  refine exI_mk (fun n iI R' Φ' k => ∃ i : Nat, iI = i ∧ 1 ≤ i ∧ i ≤ l.length ∧ n = minZ (l.take i) ∧ R' = R ∧ Φ' = Φ ∧ k = l.length - i) ⟨⟨R, Φ, _, inferInstance, fun w G cx => cx, 1, rfl, by omega, by omega, ?_, rfl, rfl, rfl⟩, ?_⟩
  · cases l with
    | nil => simp at h0
    | cons x l => simp [minZ]
  rintro n iI R1 Φ1 k _ ⟨i, rfl, h1, hi, rfl, rfl, rfl, rfl⟩
  refine Br.intro (fun hlt => ?_) (fun hge => fun w G cx => ⟨?_, cx.left⟩)
  · have hlt : i < l.length := by have := of_decide_eq_true hlt; omega
    refine ⟨by omega, ptrK_intro g o rfl fun w G cx => ⟨l[i], by rw [Int.toNat_natCast]; exact sl_int (hΦ.go _ _ cx.phi) hlt, by unfold I64; omega, R1, Φ1, l.length - (i + 1), inferInstance, fun w G cx => cx, ⟨i + 1, by omega, by omega, hlt, ?_, rfl, rfl, rfl⟩, by omega⟩⟩
    rw [List.take_succ_eq_append_getElem hlt, minZ_snoc (by intro e; have := congrArg List.length e; rw [List.length_take, List.length_nil] at this; omega)]
  · have hge : i = l.length := by have := of_decide_eq_false hge; omega
    rw [hge, List.take_length]
end
end Go.Proofs.YtemhapmbcbbljaaDoor
end

section
namespace Go.Proofs.YtemhapmbcbbljaaDoor
open Go.Vc
theorem pin_delta {M : List Nat} {w : World} {b o : Nat} {cs : List (List Value)} {l : List DeltaD} (h : Pin b o cs l M w) {j : Nat} (hj : j < l.length) : ∃ p c, cs.getD j [] = l[j].cells p c ∧ l[j].row.length ≤ c ∧ c ≤ maxLen ∧ I64 l[j].time ∧ I64 l[j].n ∧ RowAt w b (o + j * 3) (l[j].cells p c) := by
  obtain ⟨_, h1, h2⟩ := h j hj
  obtain ⟨p, c, e, g1, g2, g3, g4, _⟩ := delta_cells h2
  exact ⟨p, c, e, g1, g2, g3, g4, by rw [e] at h1; exact h1⟩
theorem pin_row {M : List Nat} {w : World} {b o : Nat} {cs : List (List Value)} {l : List DeltaD} (h : Pin b o cs l M w) {j : Nat} (hj : j < l.length) {p : Option Addr} {c : Nat} (e : cs.getD j [] = l[j].cells p c) : Sl M w p l[j].row := by
  have := (h j hj).2.2
  rw [e] at this
  exact delta_row this
theorem pin_rowAt {M : List Nat} {w : World} {b o : Nat} {cs : List (List Value)} {l : List DeltaD} (h : Pin b o cs l M w) {j : Nat} (hj : j < l.length) {p : Option Addr} {c : Nat} (e : cs.getD j [] = l[j].cells p c) : RowAt w b (o + j * 3) (l[j].cells p c) := by
  have := (h j hj).2.1
  rw [e] at this
  exact this
theorem in_cells {Φ : PW} {f : FuncId} {args : Array Value} {v : Value} {b o : Nat} {cs : List (List Value)} {l : List DeltaD} (hΦ : ∀ M w, Φ M w → Pin b o cs l M w)
    (h : (∀ j, (hj : j < l.length) → ∃ p c, cs.getD j [] = l[j].cells p c ∧ l[j].row.length ≤ c ∧ c ≤ maxLen ∧ I64 l[j].time ∧ I64 l[j].n) → GivesIn Φ Tryd.prog f args v) : GivesIn Φ Tryd.prog f args v :=
  ⟨fun W w S c => (h fun j hj => by obtain ⟨p, c, h1, h2, h3, h4, h5, _⟩ := pin_delta (hΦ _ _ c.phi) hj; exact ⟨p, c, h1, h2, h3, h4, h5⟩).go W w S c⟩
theorem len_max {n c : Nat} (h1 : n ≤ c) (h2 : c ≤ maxLen) : n ≤ 9223372036854775807 := Nat.le_trans h1 (Nat.le_trans h2 (by decide))
theorem val_one (M : List Nat) (w : World) (cs : List Value) (x : ValD) (h : Gv.rep M w cs x) : (cs.all fun u => oneC u) = true := by
  obtain ⟨_, _, rfl, ⟨rfl, _⟩, _, _, rfl, ⟨rfl, _⟩, rfl, _⟩ := h
  rfl
theorem CloneV_in {Φ : PW} [Stable Φ] (p : Option Addr) (cap : Nat) (l : List ValD) (hΦ : ∀ M w, Φ M w → Sl M w p l) (hlen : l.length < 100000000) :
    GivesNew Φ Tryd.prog F.slices_Clone_api_Value_api_Value #[.slice p l.length cap] l 44 := by
  refine .there (fun M w h => (hΦ M w h).there) fun hth => ?_
  refine gives_new (Bslices_Clone_api_Value_api_Value_run p l.length cap) fun W R => ?_
  refine Br.intro (fun hn => fun w F c => ?_) (fun hn => ?_)
  · have hl : l = [] := by
      cases l with
      | nil => rfl
      | cons => obtain ⟨b, o, e⟩ := hth (by simp); rw [e] at hn; cases hn
    subst hl
    exact ⟨none, 0, [], rfl, (c.left.buf0 44 3).add Elems.nil⟩
  · intro k w F c
    obtain ⟨p', cap', w', cs, hrun, c'⟩ := Ctx.cloned (P := Tryd.prog) (ts := 35) (ty := 35) (kb := #[false, false]) (bytes := 32) (c2 := cap) c (by kernel_rfl) val_one hΦ hlen (by omega)
    exact ⟨_, _, _, _, hrun, _, _, inferInstance, c', fun w F c => ⟨p', cap', cs, rfl, c.left⟩⟩
theorem CloneD_in {Φ : PW} [Stable Φ] (p : Option Addr) (cap : Nat) (l : List DeltaD) (hΦ : ∀ M w, Φ M w → Sl M w p l) (hlen : l.length < 100000000) :
    GivesNew Φ Tryd.prog F.slices_Clone_api_Delta_api_Delta #[.slice p l.length cap] l 39 := by
  refine .there (fun M w h => (hΦ M w h).there) fun hth => ?_
  refine gives_new (Bslices_Clone_api_Delta_api_Delta_run p l.length cap) fun W R => ?_
  refine Br.intro (fun hn => fun w F c => ?_) (fun hn => ?_)
  · have hl : l = [] := by
      cases l with
      | nil => rfl
      | cons => obtain ⟨b, o, e⟩ := hth (by simp); rw [e] at hn; cases hn
    subst hl
    exact ⟨none, 0, [], rfl, (c.left.buf0 39 3).add Elems.nil⟩
  · intro k w F c
    obtain ⟨p', cap', w', cs, hrun, c'⟩ := Ctx.cloned (P := Tryd.prog) (ts := 28) (ty := 28) (kb := #[false, false]) (bytes := 40) (c2 := cap) c (by kernel_rfl) delta_one hΦ hlen (by omega)
    exact ⟨_, _, _, _, hrun, _, _, inferInstance, c', fun w F c => ⟨p', cap', cs, rfl, c.left⟩⟩
def rightV3 (x : ValD) : Bool := if x.kind = 0 then decide (x.text = ByteArray.mk #[]) else if x.kind = 1 then decide (x.num = 0) && decide ((x.text.size : Int) ≤ 200) else decide (x.kind = 2) && (decide (x.num = 0) || decide (x.num = 1)) && decide (x.text = ByteArray.mk #[])
def rightR (l : List ValD) : Bool := decide ((l.length : Int) ≤ 12) && l.all rightV3
end Go.Proofs.YtemhapmbcbbljaaDoor
end

section
namespace Go.Proofs.YtemhapmbcbbljaaDoor
open Go.Vc
structure LineD where
  no : Int
  batch : Int
  time : Int
  row : List ValD
  n : Int
  cause : Int
  why : Int
instance : Gv LineD := Gv.via (β := Int × Int × Int × List ValD × Int × Int × Int) (fun x => (x.no, x.batch, x.time, x.row, x.n, x.cause, x.why)) (fun y => ⟨y.1, y.2.1, y.2.2.1, y.2.2.2.1, y.2.2.2.2.1, y.2.2.2.2.2.1, y.2.2.2.2.2.2⟩) (fun _ => rfl)
abbrev LineD.cells (x : LineD) (p : Option Addr) (c : Nat) : List Value := [.int .i64 x.no, .int .i64 x.batch, .int .i64 x.time, .slice p x.row.length c, .int .i64 x.n, .int .i64 x.cause, .int .i64 x.why]
abbrev LineD.v (x : LineD) (p : Option Addr) (c : Nat) : Value := .agg #[.int .i64 x.no, .int .i64 x.batch, .int .i64 x.time, .slice p x.row.length c, .int .i64 x.n, .int .i64 x.cause, .int .i64 x.why]
structure LineD.In (x : LineD) : Prop where
  no : I64 x.no
  batch : I64 x.batch
  time : I64 x.time
  n : I64 x.n
  cause : I64 x.cause
  why : I64 x.why
theorem line_cells {M : List Nat} {w : World} {cs : List Value} {x : LineD} (h : Gv.rep M w cs x) : ∃ p c, cs = x.cells p c ∧ x.row.length ≤ c ∧ c ≤ maxLen ∧ x.In ∧ Sl M w p x.row := by
  obtain ⟨_, _, rfl, ⟨rfl, h1⟩, _, _, rfl, ⟨rfl, h2⟩, _, _, rfl, ⟨rfl, h3⟩, _, _, rfl, ⟨p, c, rfl, g1, g2, g3⟩, _, _, rfl, ⟨rfl, h4⟩, _, _, rfl, ⟨rfl, h5⟩, rfl, h6⟩ := h
  exact ⟨p, c, rfl, g1, g2, ⟨h1, h2, h3, h4, h5, h6⟩, g3⟩
theorem rep_line {M : List Nat} {w : World} {x : LineD} {p : Option Addr} {c : Nat} (h1 : x.row.length ≤ c) (h2 : c ≤ maxLen) (h : x.In) (h5 : Sl M w p x.row) : Gv.rep M w (x.cells p c) x :=
  ⟨[_], [_, _, _, _, _, _], rfl, ⟨rfl, h.no⟩, [_], [_, _, _, _, _], rfl, ⟨rfl, h.batch⟩, [_], [_, _, _, _], rfl, ⟨rfl, h.time⟩, [_], [_, _, _], rfl, ⟨p, c, rfl, h1, h2, h5⟩, [_], [_, _], rfl, ⟨rfl, h.n⟩, [_], [_], rfl, ⟨rfl, h.cause⟩, rfl, h.why⟩
theorem line_row {M : List Nat} {w : World} {x : LineD} {p : Option Addr} {c : Nat} (h : Gv.rep M w (x.cells p c) x) : Sl M w p x.row := by
  obtain ⟨p', c', e, _, _, _, h1⟩ := line_cells h
  simp only [LineD.cells, List.cons.injEq, Value.slice.injEq] at e
  rw [e.2.2.2.1.1]
  exact h1
theorem line_one (M : List Nat) (w : World) (cs : List Value) (x : LineD) (h : Gv.rep M w cs x) : (cs.all fun u => oneC u) = true := by
  obtain ⟨p, c, rfl, _⟩ := line_cells h
  rfl
def LineD.d (x : LineD) : DeltaD := ⟨x.time, x.row, x.n⟩
def netP (l : List LineD) : List DeltaD := consP (l.map LineD.d)
abbrev bufL (p : Option Addr) (n cap : Nat) (cs : List Value) : Own := .buf p n cap cs 37 7
theorem lrow {M : List Nat} {w : World} {cs : List Value} {l : List LineD} (h : Elems M w cs l) {i : Nat} (hi : i < l.length) : ∃ p c, (cs.drop (i * 7)).take 7 = l[i].cells p c ∧ l[i].row.length ≤ c ∧ c ≤ maxLen ∧ l[i].In ∧ Sl M w p l[i].row :=
  line_cells (h.2 i hi)
theorem lcells_len {M : List Nat} {w : World} {cs : List Value} {l : List LineD} (h : Elems M w cs l) : cs.length = l.length * 7 := h.1
theorem l_ptr {W w : World} {S : List Own} {Φ : PW} {p : Option Addr} {n cap : Nat} {cs : List Value} (cx : Ctx W w (bufL p n cap cs :: S) Φ) (h : 0 < cs.length) : ∃ g, p = some ⟨g, 0, none⟩ := by
  obtain ⟨g, hg, _⟩ := cx.bufCell 0 rfl h
  exact ⟨g, hg⟩
theorem l_at {W w : World} {S : List Own} {Φ : PW} {g n cap : Nat} {cs : List Value} (cx : Ctx W w (bufL (some ⟨g, 0, none⟩) n cap cs :: S) Φ) {i : Nat} {x : LineD} {p : Option Addr} {c : Nat} (h : (cs.drop (i * 7)).take 7 = x.cells p c) : RowAt w g (i * 7) (x.cells p c) :=
  cx.bufRow 0 rfl rfl (rows_of h)
theorem l_can {W w : World} {S : List Own} {Φ : PW} {g n cap : Nat} {cs : List Value} (cx : Ctx W w (bufL (some ⟨g, 0, none⟩) n cap cs :: S) Φ) {o m : Nat} (h : o + m ≤ cs.length) : CanWrite w g o m :=
  cx.bufCan 0 rfl rfl h
theorem setL_cell : ∀ (vs : List Value) (k : Nat) (cs : List Value) (o : Nat) (v : Value), k < vs.length → (∀ j, (hj : j < vs.length) → cs[o + j]? = some vs[j]) → setL cs (o + k) [v] = setL cs o (vs.set k v) := by
  intro vs k cs o v hk h
  have hlast : o + (vs.length - 1) < cs.length := (List.getElem?_eq_some_iff.1 (h (vs.length - 1) (by omega))).1
  apply List.ext_getElem?
  intro j
  by_cases h1 : j < o
  · rw [setL_get _ _ _ _ (.inl (by omega)), setL_get _ _ _ _ (.inl h1)]
  · by_cases h2 : o + vs.length ≤ j
    · rw [setL_get _ _ _ _ (.inr (by simp; omega)), setL_get _ _ _ _ (.inr (by rw [List.length_set]; exact h2))]
    · obtain ⟨m, rfl⟩ : ∃ m, j = o + m := ⟨j - o, by omega⟩
      rw [setL_in (vs.set k v) cs o m (by rw [List.length_set]; omega) (by rw [List.length_set]; omega)]
      by_cases h3 : m = k
      · subst h3
        have := setL_in [v] cs (o + m) 0 (by simp) (by simp; omega)
        rw [Nat.add_zero] at this
        rw [this, List.getElem?_set_self hk]
        rfl
      · rw [setL_get _ _ _ _ (by simp; omega), List.getElem?_set_ne (by omega), h m (by omega), List.getElem?_eq_getElem (by omega)]
end Go.Proofs.YtemhapmbcbbljaaDoor
end

section
namespace Go.Proofs.YtemhapmbcbbljaaDoor
open Go.Vc
structure SkD where
  kind : Int
  key : List Int
  bats : List Int
  lines : List LineD
  prep : Int
  aside : List LineD
def lastK (s : SkD) : Int := s.bats.getLast?.getD 0
def hasK (s : SkD) (b : Int) : Bool := decide (b ∈ s.bats)
def shortK (key : List Int) (r : List ValD) : Bool := key.any fun k => decide ((r.length : Int) ≤ k)
def badK (key : List Int) (b : Int) (x : LineD) : Bool := decide (x.batch ≠ b) || decide (x.n = 0) || !rightR x.row || shortK key x.row
def numK : Int → List LineD → Bool
  | _, [] => true
  | n, x :: l => decide (x.no = n) && numK (n + 1) l
def lookK (s : SkD) (b : Int) (L : List LineD) : Int :=
  if b < 1 then 25 else if b ≤ lastK s then 25 else if L.any (badK s.key b) = true then 1 else if numK ((s.lines.length : Int) + 1) L = false then 25 else 0
def takeK (s : SkD) (b : Int) (L : List LineD) : SkD := { s with bats := s.bats ++ [b], lines := s.lines ++ L }
def prepK (s : SkD) (b : Int) (L : List LineD) : Int × SkD :=
  if s.kind ≠ 0 then (7, s) else if hasK s b = true then (0, s) else if lookK s b L ≠ 0 then (lookK s b L, s) else (0, { s with prep := b, aside := L })
def commK (s : SkD) (b : Int) : Int × SkD :=
  if s.kind ≠ 0 then (7, s) else if hasK s b = true then (0, s) else if (decide (b < 1) || decide (b ≠ s.prep)) = true then (4, s) else (0, { takeK s b s.aside with prep := 0, aside := [] })
def abortK (s : SkD) (b : Int) : Int × SkD :=
  if s.kind ≠ 0 then (7, s) else if hasK s b = true then (7, s) else if (decide (b < 1) || decide (b ≠ s.prep)) = true then (4, s) else (0, { s with prep := 0, aside := [] })
def delivK (s : SkD) (b : Int) (L : List LineD) : Int × SkD :=
  if s.kind = 0 then (7, s) else if hasK s b = true then (0, s) else if lookK s b L ≠ 0 then (lookK s b L, s) else (0, takeK s b L)
def opK (k : Int) (s : SkD) (b : Int) (L : List LineD) : Int × SkD :=
  if k = 0 then prepK s b L else if k = 1 then prepK s b L else if k = 2 then commK s b else if k = 3 then abortK s b else if k = 6 then (0, s) else if k = 7 then (0, s) else delivK s b L
structure SkI (s : SkD) : Prop where
  asc : s.bats.Pairwise (· < ·)
  pos : ∀ b ∈ s.bats, 1 ≤ b ∧ I64 b
  row : ∀ x ∈ s.lines, rightR x.row = true
  arow : ∀ x ∈ s.aside, rightR x.row = true
structure SkS (s : SkD) (n : Nat) : Prop where
  bats : s.bats.length ≤ 20 * n
  lines : s.lines.length ≤ n
  aside : s.aside.length ≤ n
  key : s.key.length ≤ 20 * n
structure KP where
  sb : Nat
  kp : Option Addr
  kc : Nat
  bp : Option Addr
  bc : Nat
  lp : Option Addr
  lc : Nat
  cs : List Value
  ap : Option Addr
  ac : Nat
abbrev SkB (q : KP) (st : SkD) : List Value := [.int .i64 st.kind, .slice q.kp st.key.length q.kc, .slice q.bp st.bats.length q.bc, .slice q.lp st.lines.length q.lc, .int .i64 st.prep, .slice q.ap st.aside.length q.ac]
abbrev SkO (q : KP) (st : SkD) : List Own := [.blk q.sb (SkB q st) 53, bufZ q.bp q.bc st.bats, bufL q.lp st.lines.length q.lc q.cs]
abbrev SkF (q : KP) (st : SkD) : PW := fun M w => Elems M w q.cs st.lines ∧ (Sl M w q.kp st.key ∧ Sl M w q.ap st.aside)
structure SkQ (q : KP) (st : SkD) : Prop where
  lpt : 0 < st.lines.length → ∃ g, q.lp = some ⟨g, 0, none⟩
  bpt : 0 < st.bats.length → ∃ g, q.bp = some ⟨g, 0, none⟩
  lcap : st.lines.length ≤ q.lc ∧ q.lc ≤ maxLen
  bcap : st.bats.length ≤ q.bc ∧ q.bc ≤ maxLen
  kcap : st.key.length ≤ q.kc ∧ q.kc ≤ maxLen
  acap : st.aside.length ≤ q.ac ∧ q.ac ≤ maxLen
  len : q.cs.length = st.lines.length * 7
abbrev snk (q : KP) : Value := .pointer (some ⟨q.sb, 0, none⟩)
theorem right_len {r : List ValD} (h : rightR r = true) : r.length ≤ 12 := by
  unfold rightR at h
  rw [Bool.and_eq_true] at h
  have := of_decide_eq_true h.1
  omega
theorem lastK_at {s : SkD} (h : s.bats.length ≠ 0) : lastK s = s.bats[s.bats.length - 1]'(by omega) := by
  unfold lastK
  rw [List.getLast?_eq_getElem?, List.getElem?_eq_getElem (by omega)]; rfl
theorem last_ge {s : SkD} (hI : SkI s) {b : Int} (h : b ∈ s.bats) : b ≤ lastK s := by
  obtain ⟨i, hi, rfl⟩ := List.getElem_of_mem h
  rw [lastK_at (by omega)]
  rcases Nat.lt_or_ge i (s.bats.length - 1) with h | h
  · exact Int.le_of_lt (List.pairwise_iff_getElem.1 hI.asc i (s.bats.length - 1) hi (by omega) h)
  · have : i = s.bats.length - 1 := by omega
    subst this; exact Int.le_refl _
theorem look_ok {s : SkD} {b : Int} {L : List LineD} (h : ¬ lookK s b L ≠ 0) : 1 ≤ b ∧ lastK s < b ∧ (∀ x ∈ L, badK s.key b x = false) ∧ numK ((s.lines.length : Int) + 1) L = true := by
  have h : lookK s b L = 0 := Decidable.not_not.1 h
  unfold lookK at h
  split at h
  · exact absurd h (by decide)
  split at h
  · exact absurd h (by decide)
  split at h
  · exact absurd h (by decide)
  split at h
  · exact absurd h (by decide)
  rename_i h1 h2 h3 h4
  exact ⟨by omega, by omega, fun x hx => by simpa using List.any_eq_false.1 (by simpa using h3) x hx, by simpa using h4⟩
theorem bad_right {key : List Int} {b : Int} {x : LineD} (h : badK key b x = false) : x.batch = b ∧ x.n ≠ 0 ∧ rightR x.row = true ∧ shortK key x.row = false := by
  unfold badK at h
  rw [Bool.or_eq_false_iff, Bool.or_eq_false_iff, Bool.or_eq_false_iff] at h
  exact ⟨Decidable.not_not.1 (of_decide_eq_false h.1.1.1), of_decide_eq_false h.1.1.2, by simpa using h.1.2, h.2⟩
theorem take_i {s : SkD} (hI : SkI s) {b : Int} {L : List LineD} (h1 : lastK s < b) (h2 : 1 ≤ b) (h3 : I64 b) (h4 : ∀ x ∈ L, rightR x.row = true) : SkI (takeK s b L) where
  asc := List.pairwise_append.2 ⟨hI.asc, List.pairwise_singleton _ _, fun a ha c hc => by
    rw [List.mem_singleton.1 hc]
    have := last_ge hI ha
    omega⟩
  pos := fun a ha => (List.mem_append.1 ha).elim (hI.pos a) fun h => by rw [List.mem_singleton.1 h]; exact ⟨h2, h3⟩
  row := fun x hx => (List.mem_append.1 hx).elim (hI.row x) (h4 x)
  arow := hI.arow
theorem deliv_i {s : SkD} (hI : SkI s) {b : Int} {L : List LineD} (h : I64 b) : SkI (delivK s b L).2 := by
  unfold delivK
  split
  · exact hI
  split
  · exact hI
  split
  · exact hI
  rename_i h1
  obtain ⟨g1, g2, g3, _⟩ := look_ok h1
  exact take_i hI g2 g1 h fun x hx => (bad_right (g3 x hx)).2.2.1
theorem prep_i {s : SkD} (hI : SkI s) {b : Int} {L : List LineD} : SkI (prepK s b L).2 := by
  unfold prepK
  split
  · exact hI
  split
  · exact hI
  split
  · exact hI
  rename_i h1
  obtain ⟨g1, g2, g3, _⟩ := look_ok h1
  exact ⟨hI.asc, hI.pos, hI.row, fun x hx => (bad_right (g3 x hx)).2.2.1⟩
theorem abort_i {s : SkD} (hI : SkI s) {b : Int} : SkI (abortK s b).2 := by
  unfold abortK
  split
  · exact hI
  split
  · exact hI
  split
  · exact hI
  exact ⟨hI.asc, hI.pos, hI.row, fun x hx => absurd hx (by simp)⟩
def PrepOk (s : SkD) : Prop := s.prep ≠ 0 → lastK s < s.prep
theorem comm_i {s : SkD} (hI : SkI s) (hp : PrepOk s) {b : Int} (h : I64 b) : SkI (commK s b).2 := by
  unfold commK
  split
  · exact hI
  split
  · exact hI
  split
  · exact hI
  rename_i h1 h2 h3
  simp only [Bool.or_eq_true, decide_eq_true_eq, not_or, Int.not_lt, ne_eq, Decidable.not_not] at h3
  obtain ⟨h3, h4⟩ := h3
  have h5 := hp (by omega)
  have := take_i hI (b := b) (L := s.aside) (by omega) h3 h hI.arow
  exact ⟨this.asc, this.pos, this.row, fun x hx => absurd hx (by simp)⟩
section
variable {Φ : PW} {q : KP} {st : SkD} {W w : World} {R S G : List Own} {p : Option Addr} {cap : Nat}
theorem sk_cell (cx : Ctx W w ((SkO q st ++ R) ++ G) Φ) {i : Nat} {v : Value} (h : (SkB q st)[i]? = some v) : w.cell? ⟨q.sb, i, none⟩ = some v := cx.get 0 rfl h
structure SrcZ (S : List Own) (Φ : PW) (p : Option Addr) (l : List Int) : Prop where
  ptr : 0 < l.length → ∃ b o, p = some ⟨b, o, none⟩
  rd : ∀ {W w : World} {G : List Own} {b o : Nat}, p = some ⟨b, o, none⟩ → Ctx W w (S ++ G) Φ → ∀ i (h : i < l.length), w.cell? ⟨b, o + i, none⟩ = some (.int .i64 l[i])
theorem SrcZ.app {l : List Int} (h : SrcZ S Φ p l) : SrcZ (S ++ R) Φ p l := ⟨h.ptr, fun e c => h.rd e (c.re (List.append_assoc _ _ _))⟩
theorem srcz_bats (hq : SkQ q st) : SrcZ (SkO q st) Φ q.bp st.bats where
  ptr := fun h => by obtain ⟨g, hg⟩ := hq.bpt h; exact ⟨g, 0, hg⟩
  rd := fun {W w G b o} e c i h => by
    obtain ⟨g, hg⟩ := hq.bpt (by omega)
    rw [hg] at e
    cases e
    rw [Nat.zero_add]
    exact c.bufGet 1 rfl hg (by rw [List.getElem?_map, List.getElem?_eq_getElem h]; rfl)
theorem Last_q [Stable Φ] (hq : SkQ q st) : GivesQ (SkO q st) Φ Tryd.prog F.sink_Sink_Last #[snk q] (.int .i64 (lastK st)) := by
  refine gives_q (Bsink_Sink_Last_run q.sb 0) fun W R => fun w G cx => ⟨_, _, _, sk_cell (i := 2) cx rfl, Br.intro (fun h => fun w G cx => ⟨?_, cx.left⟩) (fun h => fun w G cx => ⟨_, _, _, sk_cell (i := 2) cx rfl, _, _, _, sk_cell (i := 2) cx rfl, ?_⟩)⟩
  · have h := of_decide_eq_true h
    have : st.bats = [] := List.eq_nil_of_length_eq_zero (by omega)
    unfold lastK
    rw [this]; rfl
  · have h := of_decide_eq_false h
    have h0 : st.bats.length ≠ 0 := by omega
    have hb := hq.bcap
    unfold maxLen at hb
    obtain ⟨g, hg⟩ := hq.bpt (by omega)
    refine ⟨by unfold I64; omega, by omega, ptrK_intro g 0 hg ⟨lastK st, ?_, fun w G cx => ⟨rfl, cx.left⟩⟩⟩
    have := (srcz_bats (Φ := Φ) hq).rd hg (G := R ++ G) (cx.re (List.append_assoc _ _ _)) (st.bats.length - 1) (by omega)
    rw [lastK_at h0, show ((st.bats.length : Int) - 1).toNat = st.bats.length - 1 by omega]
    exact this
theorem LinesN_q [Stable Φ] : GivesQ (SkO q st) Φ Tryd.prog F.sink_Sink_Lines #[snk q] (.int .i64 st.lines.length) :=
  gives_q (Bsink_Sink_Lines_run q.sb 0) fun W R => fun w G cx => ⟨_, _, _, sk_cell (i := 3) cx rfl, fun w G cx => ⟨rfl, cx.left⟩⟩
theorem ptrK_of {g : Bool} {p : Option Addr} {K : Nat → Nat → Prop} (h : g = true → ∃ b o, p = some ⟨b, o, none⟩) (hk : ∀ b o, (g = true → p = some ⟨b, o, none⟩) → K b o) : ptrK (some g) p K := by
  cases hg : g with
  | false => exact ptrK_off rfl fun b o => hk b o fun e => by rw [hg] at e; cases e
  | true =>
    obtain ⟨b, o, hp⟩ := h hg
    exact ptrK_intro b o hp (hk b o fun _ => hp)
theorem sNaN_q (x : Int) : Quiet Tryd.prog F.slices_isNaN_int #[.int .i64 x] (.bool false) := quiet_of (fun w J h => Qslices_isNaN_int_run x w J h) fun w => ⟨by simp, rfl⟩
theorem cNaN_q (x : Int) : Quiet Tryd.prog F.cmp_isNaN_int #[.int .i64 x] (.bool false) := quiet_of (fun w J h => Qcmp_isNaN_int_run x w J h) fun w => ⟨by simp, rfl⟩
theorem less_g (x y : Int) : Gives Tryd.prog F.cmp_Less_int #[.int .i64 x, .int .i64 y] (.bool (decide (x < y))) :=
  gives_of (Bcmp_Less_int_run x y) fun W R Φ _ => fun w G c => ⟨false, fun w3 e => (cNaN_q x).at e, false, fun h => (by cases h), fun w G c => ⟨by simp, c.left⟩⟩
theorem shr_runT (t : TypeId) (k : Nat) (h : k < 9223372036854775808) (w : World) : Sem.run Tryd.prog (binOp BinOp.shr t (.int .u64 (IntKind.u64.wrap (k : Int))) (.int .u64 1)) w = .ok (.int .u64 ((k / 2 : Nat) : Int)) w := by
  have e : IntKind.u64.wrap (k : Int) = k := by simp [IntKind.wrap, IntKind.signed, IntKind.bits]; omega
  rw [e]
  show Sem.run Tryd.prog (Op.shift .shr .u64 (k : Int) .u64 1) w = _
  unfold Op.shift
  simp [Sem.run_pure]
  show (k : Int).fdiv 2 = _
  rw [Int.fdiv_eq_ediv_of_nonneg _ (by decide)]
theorem wrap_n {k : Nat} (h : k ≤ 1000000000) : IntKind.i64.wrap (k : Int) = k := i64_wrap (by unfold I64; omega)
theorem BinS_src [Stable Φ] {l : List Int} (src : SrcZ S Φ p l) (asc : l.Pairwise (· < ·)) (hlen : l.length ≤ 10000000) (t : Int) (c : Ctx W w S Φ) :
    Calls Tryd.prog F.slices_BinarySearch_int_int #[.slice p l.length cap, .int .i64 t] w fun e w' => ∃ n, e = .returned (.tuple #[.int .i64 n, .bool (decide (t ∈ l))]) ∧ Ctx W w' S Φ := by
  refine (Bslices_BinarySearch_int_int_run p l.length cap t (J := fun v w' => ∃ n, v = .tuple #[.int .i64 n, .bool (decide (t ∈ l))] ∧ Ctx W w' S Φ) c ?_).mono fun e w' ⟨v, he, n, hv, cx⟩ => ⟨n, by rw [he, hv], cx⟩
  clear c
  have hs := List.pairwise_iff_getElem.1 asc
  refine exI_mk (fun iI jI R' Φ' k => ∃ i j : Nat, iI = i ∧ jI = j ∧ i ≤ j ∧ j ≤ l.length ∧ (∀ a (h : a < l.length), a < i → l[a] < t) ∧ (∀ a (h : a < l.length), j ≤ a → t ≤ l[a]) ∧ R' = S ∧ Φ' = Φ ∧ k = j - i)
    ⟨⟨S, Φ, _, inferInstance, fun w G c => c, 0, l.length, rfl, rfl, Nat.zero_le _, Nat.le_refl _, fun a h h0 => by omega, fun a h h0 => by omega, rfl, rfl, rfl⟩, ?_⟩
  rintro iI jI R1 Φ1 k _ ⟨i, j, rfl, rfl, hij, hj, hlo, hhi, rfl, rfl, rfl⟩
  refine Br.intro (fun hlt => ?_) (fun hge => fun w G cx => ?_)
  · have hlt : i < j := by have := of_decide_eq_true hlt; omega
    obtain ⟨h, hh⟩ : ∃ h, (i + j) / 2 = h := ⟨_, rfl⟩
    obtain ⟨b, o, hp⟩ := src.ptr (by omega)
    have hhl : h < l.length := by omega
    refine ⟨by unfold I64; omega, ((h : Nat) : Int), fun w => by rw [show ((i : Int) + (j : Int)) = ((i + j : Nat) : Int) by omega, ← hh]; exact shr_runT _ _ (by omega) w, ?_⟩
    rw [wrap_n (by omega)]
    refine ⟨by omega, ptrK_intro b o hp fun w G cx => ⟨l[h], by rw [Int.toNat_natCast]; exact src.rd hp cx h hhl, fun w G cx => (less_g _ _).use cx fun w cx => ⟨_, rfl, R1, Φ1, inferInstance, cx, Br.intro (fun hc => ?_) (fun hc => ?_)⟩⟩⟩
    · have hc := of_decide_eq_true hc
      refine ⟨by unfold I64; omega, R1, Φ1, j - (h + 1), inferInstance, fun w G c => c, ⟨h + 1, j, by omega, rfl, by omega, hj, fun a ha h1 => ?_, hhi, rfl, rfl, rfl⟩, by omega⟩
      rcases Nat.lt_or_ge a h with h2 | h2
      · have := hs a h ha hhl h2
        omega
      · have : a = h := by omega
        subst this; exact hc
    · have hc := of_decide_eq_false hc
      refine ⟨R1, Φ1, h - i, inferInstance, fun w G c => c, ⟨i, h, rfl, rfl, by omega, by omega, hlo, fun a ha h1 => ?_, rfl, rfl, rfl⟩, by omega⟩
      rcases Nat.lt_or_ge h a with h2 | h2
      · have := hs h a hhl ha h2
        omega
      · have : a = h := by omega
        subst this; omega
  · have hge : i = j := by have := of_decide_eq_false hge; omega
    subst hge
    have hmem : (t ∈ l) ↔ ∃ h : i < l.length, l[i] = t := by
      refine ⟨fun hm => ?_, fun ⟨h, e⟩ => e ▸ List.getElem_mem h⟩
      obtain ⟨a, ha, rfl⟩ := List.getElem_of_mem hm
      rcases Nat.lt_trichotomy a i with h1 | h1 | h1
      · exact absurd (hlo a ha h1) (Int.lt_irrefl _)
      · subst h1; exact ⟨ha, rfl⟩
      · have := hs i a (by omega) ha h1
        have := hhi i (by omega) (Nat.le_refl _)
        omega
    have hcell : ∀ {b o : Nat} {c : Bool}, (decide ((i : Int) < (l.length : Int)) && c) = true → ((decide ((i : Int) < (l.length : Int)) && c) = true → p = some ⟨b, o, none⟩) → w.cell? ⟨b, o + ((i : Nat) : Int).toNat, none⟩ = some (.int .i64 ((l[i]?).getD 0)) := fun {b o c} h hb => by
      have hl : i < l.length := by have := of_decide_eq_true (Bool.and_eq_true_iff.1 h).1; omega
      rw [Int.toNat_natCast, List.getElem?_eq_getElem hl]
      exact src.rd (hb h) cx i hl
    have hcell0 : ∀ {b o : Nat}, decide ((i : Int) < (l.length : Int)) = true → (decide ((i : Int) < (l.length : Int)) = true → p = some ⟨b, o, none⟩) → w.cell? ⟨b, o + ((i : Nat) : Int).toNat, none⟩ = some (.int .i64 ((l[i]?).getD 0)) := fun {b o} h hb => hcell (c := true) (by rw [h]; rfl) (fun _ => hb h)
    refine ⟨fun h => by have := of_decide_eq_true h; omega, ptrK_of (fun h => src.ptr (by have := of_decide_eq_true h; omega)) fun b o hb => ⟨(l[i]?).getD 0, fun h => hcell0 h hb, fun h => by have := of_decide_eq_true (Bool.and_eq_true_iff.1 h).1; omega, ptrK_of (fun h => src.ptr (by have := of_decide_eq_true (Bool.and_eq_true_iff.1 h).1; omega)) fun b2 o2 hb2 => ⟨(l[i]?).getD 0, fun h => hcell h hb2, false, fun _ w e => (sNaN_q _).at e, false, fun h => absurd h (by simp), fun w G cx => ⟨((i : Nat) : Int), ?_, cx.left⟩⟩⟩⟩
    have : (decide ((i : Int) < (l.length : Int)) && (decide ((l[i]?).getD 0 = t) || false && false)) = decide (t ∈ l) := by
      rcases Nat.lt_or_ge i l.length with hl | hl
      · rw [List.getElem?_eq_getElem hl, decide_eq_true (p := (i : Int) < (l.length : Int)) (by omega), Bool.and_false, Bool.or_false, Bool.true_and]
        exact decide_eq_decide.2 ⟨fun h => hmem.2 ⟨hl, h⟩, fun h => (hmem.1 h).2⟩
      · rw [decide_eq_false (p := (i : Int) < (l.length : Int)) (by omega), Bool.false_and]
        exact (decide_eq_false fun h => by have := (hmem.1 h).1; omega).symm
    rw [this]
theorem Has_q [Stable Φ] (hq : SkQ q st) (hI : SkI st) {n : Nat} (hs : SkS st n) (hn : n ≤ 400000) {b : Int} : GivesQ (SkO q st) Φ Tryd.prog F.sink_Sink_Has #[snk q, .int .i64 b] (.bool (hasK st b)) :=
  gives_q (Bsink_Sink_Has_run q.sb 0 b) fun W R => fun w G cx => ⟨_, _, _, sk_cell (i := 2) cx rfl, fun w G cx =>
    (BinS_src (S := (SkO q st ++ R) ++ G) (srcz_bats (Φ := Φ) hq).app.app hI.asc (by have := hs.bats; omega) b cx).mono fun e w' ⟨n, he, cx⟩ => ⟨n, _, he, _, _, inferInstance, cx, fun w G cx => ⟨rfl, cx.left⟩⟩⟩
end
end Go.Proofs.YtemhapmbcbbljaaDoor
end

section
namespace Go.Proofs
open Go.Shelf
def Tryd.lays169_ren : Go.Shelf.Ren := ⟨fun | 169 => 52 | n => n, fun | 70 => 80 | 9 => 9 | 0 => 0 | 72 => 83 | 37 => 81 | 127 => 95 | 3 => 3 | 5 => 5 | n => n, fun | n => n⟩
theorem Tryd.lays169 : Go.Proofs.Lays.n169 Tryd.prog Tryd.lays169_ren := {
  mixed := by kernel_rfl
  f169 := Tryd.func52.trans (congrArg some (by kernel_rfl))
  t0 := Tryd.underlying0
  a0 := Tryd.isAgg0
  z0 := Tryd.sizeOf0
  v0 := Tryd.zeroValue0
  t3 := Tryd.underlying3
  a3 := Tryd.isAgg3
  z3 := Tryd.sizeOf3
  v3 := Tryd.zeroValue3
  t9 := Tryd.underlying9
  a9 := Tryd.isAgg9
  z9 := Tryd.sizeOf9
  v9 := Tryd.zeroValue9
  t37 := Tryd.underlying81
  a37 := Tryd.isAgg81
  z37 := Tryd.sizeOf81
  v37 := Tryd.zeroValue81
  t70 := Tryd.underlying80
  a70 := Tryd.isAgg80
  z70 := Tryd.sizeOf80
  v70 := Tryd.zeroValue80
  t72 := Tryd.underlying83
  a72 := Tryd.isAgg83
  z72 := Tryd.sizeOf83
  v72 := Tryd.zeroValue83
  t127 := Tryd.underlying95
  a127 := Tryd.isAgg95
  z127 := Tryd.sizeOf95
  v127 := Tryd.zeroValue95 }
theorem Tryd.Builder_Extra_169 : Builder.Extra Tryd.prog Tryd.lays169_ren := {
  sizeBuilder := by kernel_rfl
  liesBuilder := by kernel_rfl
  t5 := Tryd.underlying5
  a5 := Tryd.isAgg5
  z5 := Tryd.sizeOf5
  v5 := Tryd.zeroValue5
  infoByte := by kernel_rfl
  cellsByte := by kernel_rfl
  sizeByte := by kernel_rfl
  neB5 := by decide }
def Tryd.laysM171_ren : Go.Shelf.Ren := ⟨fun | 171 => 69 | 243 => 76 | 246 => 78 | 283 => 79 | 284 => 80 | 285 => 81 | 286 => 82 | 129 => 84 | 317 => 83 | 318 => 85 | 319 => 86 | 320 => 87 | 337 => 88 | 338 => 89 | n => n, fun | 3 => 3 | 9 => 9 | 2 => 2 | 4 => 4 | 171 => 107 | 0 => 0 | 53 => 108 | 37 => 81 | 5 => 5 | 173 => 111 | 212 => 115 | 51 => 116 | 20 => 20 | 213 => 117 | 46 => 71 | 232 => 120 | 233 => 121 | n => n, fun | 17 => 1 | 18 => 2 | 19 => 3 | n => n⟩
theorem Tryd.laysM171 : Go.Proofs.LaysM.n171 Tryd.prog Tryd.laysM171_ren := {
  mixed := by kernel_rfl
  f129 := Tryd.func84.trans (congrArg some (by kernel_rfl))
  f171 := Tryd.func69.trans (congrArg some (by kernel_rfl))
  f243 := Tryd.func76.trans (congrArg some (by kernel_rfl))
  f246 := Tryd.func78.trans (congrArg some (by kernel_rfl))
  f283 := Tryd.func79.trans (congrArg some (by kernel_rfl))
  f284 := Tryd.func80.trans (congrArg some (by kernel_rfl))
  f285 := Tryd.func81.trans (congrArg some (by kernel_rfl))
  f286 := Tryd.func82.trans (congrArg some (by kernel_rfl))
  f317 := Tryd.func83.trans (congrArg some (by kernel_rfl))
  f318 := Tryd.func85.trans (congrArg some (by kernel_rfl))
  f319 := Tryd.func86.trans (congrArg some (by kernel_rfl))
  f320 := Tryd.func87.trans (congrArg some (by kernel_rfl))
  f337 := Tryd.func88.trans (congrArg some (by kernel_rfl))
  f338 := Tryd.func89.trans (congrArg some (by kernel_rfl))
  t0 := Tryd.underlying0
  a0 := Tryd.isAgg0
  z0 := Tryd.sizeOf0
  v0 := Tryd.zeroValue0
  t2 := Tryd.underlying2
  a2 := Tryd.isAgg2
  z2 := Tryd.sizeOf2
  v2 := Tryd.zeroValue2
  t3 := Tryd.underlying3
  a3 := Tryd.isAgg3
  z3 := Tryd.sizeOf3
  v3 := Tryd.zeroValue3
  t4 := Tryd.underlying4
  a4 := Tryd.isAgg4
  z4 := Tryd.sizeOf4
  v4 := Tryd.zeroValue4
  t5 := Tryd.underlying5
  a5 := Tryd.isAgg5
  z5 := Tryd.sizeOf5
  v5 := Tryd.zeroValue5
  t9 := Tryd.underlying9
  a9 := Tryd.isAgg9
  z9 := Tryd.sizeOf9
  v9 := Tryd.zeroValue9
  t20 := Tryd.underlying20
  a20 := Tryd.isAgg20
  z20 := Tryd.sizeOf20
  v20 := Tryd.zeroValue20
  t37 := Tryd.underlying81
  a37 := Tryd.isAgg81
  z37 := Tryd.sizeOf81
  v37 := Tryd.zeroValue81
  t46 := Tryd.underlying71
  a46 := Tryd.isAgg71
  z46 := Tryd.sizeOf71
  v46 := Tryd.zeroValue71
  t51 := Tryd.underlying116
  a51 := Tryd.isAgg116
  z51 := Tryd.sizeOf116
  v51 := Tryd.zeroValue116
  t53 := Tryd.underlying108
  a53 := Tryd.isAgg108
  z53 := Tryd.sizeOf108
  v53 := Tryd.zeroValue108
  t171 := Tryd.underlying107
  a171 := Tryd.isAgg107
  z171 := Tryd.sizeOf107
  v171 := Tryd.zeroValue107
  t173 := Tryd.underlying111
  a173 := Tryd.isAgg111
  z173 := Tryd.sizeOf111
  v173 := Tryd.zeroValue111
  t212 := Tryd.underlying115
  a212 := Tryd.isAgg115
  z212 := Tryd.sizeOf115
  v212 := Tryd.zeroValue115
  t213 := Tryd.underlying117
  a213 := Tryd.isAgg117
  z213 := Tryd.sizeOf117
  t232 := Tryd.underlying120
  a232 := Tryd.isAgg120
  z232 := Tryd.sizeOf120
  v232 := Tryd.zeroValue120
  t233 := Tryd.underlying121
  a233 := Tryd.isAgg121
  z233 := Tryd.sizeOf121
  v233 := Tryd.zeroValue121
  g17 := by kernel_rfl
  g18 := by kernel_rfl
  g19 := by kernel_rfl
  i0 := by kernel_rfl
  i2 := by kernel_rfl
  i3 := by kernel_rfl
  i4 := by kernel_rfl
  i5 := by kernel_rfl
  i9 := by kernel_rfl
  i20 := by kernel_rfl
  i37 := by kernel_rfl
  i46 := by kernel_rfl
  i51 := by kernel_rfl
  i53 := by kernel_rfl
  i171 := by kernel_rfl
  i173 := by kernel_rfl
  i212 := by kernel_rfl
  i232 := by kernel_rfl
  i233 := by kernel_rfl
  m17 := by kernel_rfl
  m18 := by kernel_rfl
  m19 := by kernel_rfl }
def Tryd.lays171_ren : Go.Shelf.Ren := ⟨fun | 171 => 69 | 243 => 76 | 246 => 78 | 283 => 79 | 284 => 80 | 285 => 81 | 286 => 82 | 129 => 84 | 317 => 83 | 318 => 85 | 319 => 86 | 320 => 87 | 337 => 88 | 338 => 89 | n => n, fun | 3 => 3 | 9 => 9 | 2 => 2 | 4 => 4 | 171 => 107 | 0 => 0 | 53 => 108 | 37 => 81 | 5 => 5 | 173 => 111 | 212 => 115 | 51 => 116 | 20 => 20 | 213 => 117 | 46 => 71 | 232 => 120 | 233 => 121 | n => n, fun | 17 => 1 | 18 => 2 | 19 => 3 | n => n⟩
theorem Tryd.lays171 : Go.Proofs.Lays.n171 Tryd.prog Tryd.lays171_ren := {
  mixed := by kernel_rfl
  f129 := Tryd.func84.trans (congrArg some (by kernel_rfl))
  f171 := Tryd.func69.trans (congrArg some (by kernel_rfl))
  f243 := Tryd.func76.trans (congrArg some (by kernel_rfl))
  f246 := Tryd.func78.trans (congrArg some (by kernel_rfl))
  f283 := Tryd.func79.trans (congrArg some (by kernel_rfl))
  f284 := Tryd.func80.trans (congrArg some (by kernel_rfl))
  f285 := Tryd.func81.trans (congrArg some (by kernel_rfl))
  f286 := Tryd.func82.trans (congrArg some (by kernel_rfl))
  f317 := Tryd.func83.trans (congrArg some (by kernel_rfl))
  f318 := Tryd.func85.trans (congrArg some (by kernel_rfl))
  f319 := Tryd.func86.trans (congrArg some (by kernel_rfl))
  f320 := Tryd.func87.trans (congrArg some (by kernel_rfl))
  f337 := Tryd.func88.trans (congrArg some (by kernel_rfl))
  f338 := Tryd.func89.trans (congrArg some (by kernel_rfl))
  t0 := Tryd.underlying0
  a0 := Tryd.isAgg0
  z0 := Tryd.sizeOf0
  v0 := Tryd.zeroValue0
  t2 := Tryd.underlying2
  a2 := Tryd.isAgg2
  z2 := Tryd.sizeOf2
  v2 := Tryd.zeroValue2
  t3 := Tryd.underlying3
  a3 := Tryd.isAgg3
  z3 := Tryd.sizeOf3
  v3 := Tryd.zeroValue3
  t4 := Tryd.underlying4
  a4 := Tryd.isAgg4
  z4 := Tryd.sizeOf4
  v4 := Tryd.zeroValue4
  t5 := Tryd.underlying5
  a5 := Tryd.isAgg5
  z5 := Tryd.sizeOf5
  v5 := Tryd.zeroValue5
  t9 := Tryd.underlying9
  a9 := Tryd.isAgg9
  z9 := Tryd.sizeOf9
  v9 := Tryd.zeroValue9
  t20 := Tryd.underlying20
  a20 := Tryd.isAgg20
  z20 := Tryd.sizeOf20
  v20 := Tryd.zeroValue20
  t37 := Tryd.underlying81
  a37 := Tryd.isAgg81
  z37 := Tryd.sizeOf81
  v37 := Tryd.zeroValue81
  t46 := Tryd.underlying71
  a46 := Tryd.isAgg71
  z46 := Tryd.sizeOf71
  v46 := Tryd.zeroValue71
  t51 := Tryd.underlying116
  a51 := Tryd.isAgg116
  z51 := Tryd.sizeOf116
  v51 := Tryd.zeroValue116
  t53 := Tryd.underlying108
  a53 := Tryd.isAgg108
  z53 := Tryd.sizeOf108
  v53 := Tryd.zeroValue108
  t171 := Tryd.underlying107
  a171 := Tryd.isAgg107
  z171 := Tryd.sizeOf107
  v171 := Tryd.zeroValue107
  t173 := Tryd.underlying111
  a173 := Tryd.isAgg111
  z173 := Tryd.sizeOf111
  v173 := Tryd.zeroValue111
  t212 := Tryd.underlying115
  a212 := Tryd.isAgg115
  z212 := Tryd.sizeOf115
  v212 := Tryd.zeroValue115
  t213 := Tryd.underlying117
  a213 := Tryd.isAgg117
  z213 := Tryd.sizeOf117
  t232 := Tryd.underlying120
  a232 := Tryd.isAgg120
  z232 := Tryd.sizeOf120
  v232 := Tryd.zeroValue120
  t233 := Tryd.underlying121
  a233 := Tryd.isAgg121
  z233 := Tryd.sizeOf121
  v233 := Tryd.zeroValue121
  g17 := by kernel_rfl
  g18 := by kernel_rfl
  g19 := by kernel_rfl }
end Go.Proofs
end

