/-
  A line of channels: the plain law of what moves along it.
-/
import Derived.Test.YticgmbmghnikeaaVg
set_option linter.unusedVariables false
set_option linter.unusedSimpArgs false
namespace Go.Proofs.Yticgmbmghnikeaa
open Go.Vc

structure ChSt where
  b : Nat
  cs : List Value
  q : List MsgD
  first : Nat
  sent : Nat

def ChSt.Ok (c : ChSt) : Prop := ChanC c.cs c.q c.first c.sent
def owns (l : List ChSt) : List Own := l.map fun c => .blk c.b c.cs 53
def ptrs (l : List ChSt) : List Value := l.map fun c => .pointer (some ⟨c.b, 0, none⟩)
def LineS (l : List ChSt) (M : List Nat) (w : World) : Prop := ∀ c ∈ l, ChanS c.cs c.q c.first M w
instance lineS_stable (l : List ChSt) : Stable (fun M w => LineS l M w) := ⟨fun hs h c hc => Stable.step (Φ := fun M w => ChanS c.cs c.q c.first M w) hs (h c hc)⟩

/-- the messages on the way, the one that arrives first ahead -/
def flat : List ChSt → List MsgD
  | [] => []
  | c :: r => flat r ++ c.q

theorem flat_app : ∀ A B : List ChSt, flat (A ++ B) = flat B ++ flat A
  | [], B => by simp [flat]
  | c :: r, B => by simp only [List.cons_append, flat, flat_app r B, List.append_assoc]

/-- how many moves are left for those on the way -/
def pot : List ChSt → Nat
  | [] => 0
  | c :: r => (r.length + 1) * c.q.length + pot r

theorem pot_mid (c c' : ChSt) (B : List ChSt) : ∀ A : List ChSt, pot (A ++ c :: B) + (B.length + 1) * c'.q.length = pot (A ++ c' :: B) + (B.length + 1) * c.q.length
  | [] => by simp only [List.nil_append, pot]; omega
  | a :: A => by
    simp only [List.cons_append, pot, List.length_append, List.length_cons]
    have := pot_mid c c' B A
    omega

theorem split_at {α : Type} (l : List α) (k : Nat) (h : k < l.length) : l = l.take k ++ l[k] :: l.drop (k + 1) := by
  rw [← List.drop_eq_getElem_cons h, List.take_append_drop]
theorem set_at {α : Type} (l : List α) (k : Nat) (x : α) (h : k < l.length) : l.set k x = l.take k ++ x :: l.drop (k + 1) := by
  rw [List.set_eq_take_append_cons_drop, if_pos h]

def qlen (chs : List ChSt) (k : Nat) : Nat := match chs[k]? with | some c => c.q.length | none => 0
theorem qlen_at {chs : List ChSt} {k : Nat} (h : k < chs.length) : qlen chs k = chs[k].q.length := by unfold qlen; rw [List.getElem?_eq_getElem h]

/-- can this step be done? -/
def fromB (chs : List ChSt) (nx L : Nat) : Nat → Bool
  | 0 => decide (nx < L)
  | j + 1 => decide (0 < qlen chs j)
def canB (chs : List ChSt) (nx L k : Nat) : Bool := fromB chs nx L k && (decide (k = chs.length) || decide (qlen chs k < 4))

structure Inv (l : List MsgD) (n : Nat) (pts : List Value) (chs : List ChSt) (got : List MsgD) (nx it : Nat) : Prop where
  len : chs.length = n
  ptr : ptrs chs = pts
  nxl : nx ≤ l.length
  ok : ∀ c ∈ chs, c.Ok ∧ c.sent ≤ it
  flow : got ++ flat chs ++ l.drop nx = l
  pot : it + (n + 1) * (l.length - nx) + pot chs = (n + 1) * l.length

/-- .. with a message in hand, that goes to place k -/
structure Hand (l : List MsgD) (n : Nat) (pts : List Value) (chs : List ChSt) (got : List MsgD) (nx it : Nat) (m : MsgD) (k : Nat) : Prop where
  len : chs.length = n
  ptr : ptrs chs = pts
  nxl : nx ≤ l.length
  ok : ∀ c ∈ chs, c.Ok ∧ c.sent ≤ it
  flow : got ++ flat (chs.drop k) ++ m :: (flat (chs.take k) ++ l.drop nx) = l
  pot : it + (n + 1) * (l.length - nx) + pot chs + (n + 1 - k) = (n + 1) * l.length
  room : (h : k < chs.length) → chs[k].q.length < 4
  kn : k ≤ n

theorem Inv.src {l : List MsgD} {n : Nat} {pts : List Value} {chs : List ChSt} {got : List MsgD} {nx it : Nat} (h : Inv l n pts chs got nx it) (hx : nx < l.length) (hroom : (h : 0 < chs.length) → chs[0].q.length < 4) : Hand l n pts chs got (nx + 1) it l[nx] 0 := by
  refine ⟨h.len, h.ptr, hx, h.ok, ?_, ?_, hroom, Nat.zero_le _⟩
  · simp only [List.drop_zero, List.take_zero, flat, List.nil_append]
    rw [← List.drop_eq_getElem_cons hx]
    exact h.flow
  · have := h.pot
    have e : (n + 1) * (l.length - nx) = (n + 1) * (l.length - (nx + 1)) + (n + 1) := by
      rw [show l.length - nx = l.length - (nx + 1) + 1 by omega, Nat.mul_add, Nat.mul_one]
    omega

theorem set_ptrs {chs : List ChSt} {k : Nat} {c : ChSt} (h : k < chs.length) (hb : c.b = chs[k].b) : ptrs (chs.set k c) = ptrs chs := by
  unfold ptrs
  rw [List.map_set]
  apply List.ext_getElem?
  intro i
  rw [List.getElem?_set]
  split
  · rename_i e; subst e
    rw [List.length_map, if_pos h, List.getElem?_map, List.getElem?_eq_getElem h, Option.map_some, hb]
  · rfl

theorem Inv.take {l : List MsgD} {n : Nat} {pts : List Value} {chs : List ChSt} {got : List MsgD} {nx it : Nat} (h : Inv l n pts chs got nx it) {j : Nat} (hj : j < chs.length) {m : MsgD} {q : List MsgD} (hq : chs[j].q = m :: q) {c : ChSt} (hb : c.b = chs[j].b) (hc : c.Ok) (hcq : c.q = q)
    (hs : c.sent = chs[j].sent) (hroom : (h : j + 1 < chs.length) → chs[j + 1].q.length < 4) : Hand l n pts (chs.set j c) got nx it m (j + 1) := by
  have hlen := h.len
  refine ⟨by rw [List.length_set, hlen], by rw [set_ptrs hj hb, h.ptr], h.nxl, fun x hx => ?_, ?_, ?_, fun hk => ?_, by omega⟩
  · rcases List.mem_or_eq_of_mem_set hx with hx | rfl
    · exact h.ok x hx
    · exact ⟨hc, by rw [hs]; exact (h.ok _ (List.getElem_mem hj)).2⟩
  · have hf := h.flow
    rw [split_at chs j hj, flat_app, flat, hq] at hf
    rw [set_at chs j c hj]
    have e1 : (chs.take j ++ c :: chs.drop (j + 1)).drop (j + 1) = chs.drop (j + 1) := by
      rw [List.drop_append, List.drop_of_length_le (by simp; omega)]
      simp [show j + 1 - min j chs.length = 1 by omega]
    have e2 : (chs.take j ++ c :: chs.drop (j + 1)).take (j + 1) = chs.take j ++ [c] := by
      rw [List.take_append, List.take_of_length_le (by simp; omega)]
      simp [show j + 1 - min j chs.length = 1 by omega]
    rw [e1, e2, flat_app]
    simp only [flat, List.nil_append, hcq]
    simpa using hf
  · have hp := h.pot
    have := pot_mid chs[j] c (chs.drop (j + 1)) (chs.take j)
    rw [← split_at chs j hj, ← set_at chs j c hj, hcq, hq, List.length_cons, Nat.mul_add, Nat.mul_one, List.length_drop] at this
    omega
  · rw [List.getElem_set_ne (by omega)]
    exact hroom (by simpa using hk)

theorem Hand.out {l : List MsgD} {n : Nat} {pts : List Value} {chs : List ChSt} {got : List MsgD} {nx it : Nat} {m : MsgD} (h : Hand l n pts chs got nx it m n) : Inv l n pts chs (got ++ [m]) nx (it + 1) := by
  refine ⟨h.len, h.ptr, h.nxl, fun c hc => ⟨(h.ok c hc).1, by have := (h.ok c hc).2; omega⟩, ?_, ?_⟩
  · have := h.flow
    rw [← h.len, List.drop_length, List.take_length] at this
    simpa [flat] using this
  · have := h.pot
    omega

theorem Hand.put {l : List MsgD} {n : Nat} {pts : List Value} {chs : List ChSt} {got : List MsgD} {nx it : Nat} {m : MsgD} {k : Nat} (h : Hand l n pts chs got nx it m k) (hk : k < chs.length) {c : ChSt} (hb : c.b = chs[k].b) (hc : c.Ok) (hcq : c.q = chs[k].q ++ [m]) (hs : c.sent = chs[k].sent + 1) :
    Inv l n pts (chs.set k c) got nx (it + 1) := by
  have hlen := h.len
  refine ⟨by rw [List.length_set, hlen], by rw [set_ptrs hk hb, h.ptr], h.nxl, fun x hx => ?_, ?_, ?_⟩
  · rcases List.mem_or_eq_of_mem_set hx with hx | rfl
    · exact ⟨(h.ok x hx).1, by have := (h.ok x hx).2; omega⟩
    · exact ⟨hc, by rw [hs]; have := (h.ok _ (List.getElem_mem hk)).2; omega⟩
  · have hf := h.flow
    rw [List.drop_eq_getElem_cons hk, flat] at hf
    rw [set_at chs k c hk, flat_app, flat, hcq]
    simpa using hf
  · have hp := h.pot
    have := pot_mid chs[k] c (chs.drop (k + 1)) (chs.take k)
    rw [← split_at chs k hk, ← set_at chs k c hk, hcq, List.length_append, List.length_singleton, Nat.mul_add, Nat.mul_one, List.length_drop] at this
    omega

theorem flat_mem {m : MsgD} : ∀ {chs : List ChSt}, (∃ c ∈ chs, m ∈ c.q) → m ∈ flat chs
  | [], ⟨c, hc, _⟩ => by simp at hc
  | a :: r, ⟨c, hc, hm⟩ => by
    unfold flat
    rcases List.mem_cons.1 hc with rfl | hc
    · exact List.mem_append_right _ hm
    · exact List.mem_append_left _ (flat_mem ⟨c, hc, hm⟩)

theorem Hand.mem {l : List MsgD} {n : Nat} {pts : List Value} {chs : List ChSt} {got : List MsgD} {nx it : Nat} {m : MsgD} {k : Nat} (h : Hand l n pts chs got nx it m k) : m ∈ l := by
  rw [← h.flow]; simp

/-- the last channel with a message -/
theorem last_full : ∀ chs : List ChSt, flat chs ≠ [] → ∃ j, j < chs.length ∧ 0 < qlen chs j ∧ (j + 1 < chs.length → qlen chs (j + 1) = 0)
  | [], h => absurd rfl h
  | c :: r, h => by
    by_cases hr : flat r = []
    · have hc : c.q ≠ [] := fun e => h (by unfold flat; rw [hr, e]; rfl)
      refine ⟨0, by simp, List.length_pos_iff.2 hc, fun hlt => ?_⟩
      have hr0 : 0 < r.length := by simpa using hlt
      rw [qlen_at hlt]
      simp only [Nat.zero_add, List.getElem_cons_succ]
      rcases Nat.eq_zero_or_pos r[0].q.length with h0 | h0
      · exact h0
      · exfalso
        obtain ⟨m, hm⟩ := List.exists_mem_of_length_pos h0
        have := flat_mem (chs := r) ⟨r[0], List.getElem_mem _, hm⟩
        rw [hr] at this
        cases this
    · obtain ⟨j, h1, h2, h3⟩ := last_full r hr
      exact ⟨j + 1, by simpa using h1, h2, fun hlt => h3 (by simpa using hlt)⟩

/-- some step can always be done -/
theorem Inv.some {l : List MsgD} {n : Nat} {pts : List Value} {chs : List ChSt} {got : List MsgD} {nx it : Nat} (h : Inv l n pts chs got nx it) (hn : 0 < n) (hg : got.length < l.length) : ∃ k, k ≤ n ∧ canB chs nx l.length k = true := by
  have hlen := h.len
  by_cases hf : flat chs = []
  · refine ⟨0, Nat.zero_le _, ?_⟩
    have hfl := congrArg List.length h.flow
    rw [hf] at hfl
    simp only [List.length_append, List.length_nil, List.length_drop] at hfl
    have hnx : nx < l.length := by omega
    have h0 : qlen chs 0 = 0 := by
      rw [qlen_at (by omega)]
      rcases Nat.eq_zero_or_pos chs[0].q.length with h0 | h0
      · exact h0
      · exfalso
        obtain ⟨m, hm⟩ := List.exists_mem_of_length_pos h0
        have := flat_mem (chs := chs) ⟨chs[0], List.getElem_mem _, hm⟩
        rw [hf] at this
        cases this
    unfold canB fromB
    simp [hnx, h0]
  · obtain ⟨j, h1, h2, h3⟩ := last_full chs hf
    refine ⟨j + 1, by omega, ?_⟩
    unfold canB fromB
    by_cases he : j + 1 = chs.length
    · simp [h2, he]
    · have := h3 (by omega)
      simp [h2, this]

theorem Inv.steps {l : List MsgD} {n : Nat} {pts : List Value} {chs : List ChSt} {got : List MsgD} {nx it : Nat} (h : Inv l n pts chs got nx it) (hn : n ≤ 6) (hl : l.length ≤ 40) : it ≤ 280 := by
  have := h.pot
  have : (n + 1) * l.length ≤ 7 * 40 := Nat.mul_le_mul (by omega) hl
  omega

theorem Inv.done {l : List MsgD} {n : Nat} {pts : List Value} {chs : List ChSt} {got : List MsgD} {nx it : Nat} (h : Inv l n pts chs got nx it) (hg : l.length ≤ got.length) : got = l := by
  have h1 := h.flow
  have h2 := congrArg List.length h1
  simp only [List.length_append] at h2
  have h3 : flat chs = [] := List.eq_nil_of_length_eq_zero (by omega)
  have h4 : l.drop nx = [] := List.eq_nil_of_length_eq_zero (by omega)
  rw [h3, h4] at h1
  simpa using h1

/-! ### what is owned -/
abbrev LR (lp : Option Addr) (lc : Nat) (pts : List Value) (gp : Option Addr) (gn gc : Nat) (gs : List Value) (chs : List ChSt) (R : List Own) : List Own := .buf lp chs.length lc pts 26 1 :: .buf gp gn gc gs 31 6 :: (owns chs ++ R)
abbrev LT (lp : Option Addr) (lc : Nat) (pts : List Value) (gp : Option Addr) (gn gc : Nat) (gs : List Value) (chs : List ChSt) (k : Nat) (R : List Own) : List Own := .buf lp chs.length lc pts 26 1 :: .buf gp gn gc gs 31 6 :: (owns (chs.take k) ++ (owns (chs.drop (k + 1)) ++ R))

theorem LR_perm (lp : Option Addr) (lc : Nat) (pts : List Value) (gp : Option Addr) (gn gc : Nat) (gs : List Value) (chs : List ChSt) (R : List Own) {k : Nat} (hk : k < chs.length) :
    (LR lp lc pts gp gn gc gs chs R).Perm (.blk chs[k].b chs[k].cs 53 :: LT lp lc pts gp gn gc gs chs k R) := by
  have e : owns chs ++ R = owns (chs.take k) ++ (.blk chs[k].b chs[k].cs 53 :: (owns (chs.drop (k + 1)) ++ R)) := by
    have e := congrArg (fun l => owns l ++ R) (split_at chs k hk)
    simp only [owns, List.map_append, List.map_cons, List.append_assoc, List.cons_append] at e ⊢
    exact e
  unfold LR LT
  rw [e]
  exact List.perm_middle (l₁ := .buf lp chs.length lc pts 26 1 :: .buf gp gn gc gs 31 6 :: owns (chs.take k))

theorem LT_set (lp : Option Addr) (lc : Nat) (pts : List Value) (gp : Option Addr) (gn gc : Nat) (gs : List Value) (chs : List ChSt) (R : List Own) {k : Nat} (c : ChSt) :
    LT lp lc pts gp gn gc gs (chs.set k c) k R = LT lp lc pts gp gn gc gs chs k R := by
  unfold LT
  rw [List.length_set, List.take_set_of_le (Nat.le_refl _), List.drop_set_of_lt (by omega)]

theorem LR_at (lp : Option Addr) (lc : Nat) (pts : List Value) (gp : Option Addr) (gn gc : Nat) (gs : List Value) (chs : List ChSt) (R G : List Own) {k : Nat} (hk : k < chs.length) :
    (LR lp lc pts gp gn gc gs chs R ++ G)[k + 2]? = some (.blk chs[k].b chs[k].cs 53) := by
  show (owns chs ++ R ++ G)[k]? = _
  have hlen : (owns chs).length = chs.length := by simp [owns]
  rw [List.append_assoc, List.getElem?_append_left (by omega)]
  simp [owns, hk]

theorem ptrs_at {chs : List ChSt} {k : Nat} (hk : k < chs.length) : (ptrs chs)[k]? = some (.pointer (some ⟨chs[k].b, 0, none⟩)) := by simp [ptrs, hk]

theorem LineS.set {chs : List ChSt} {k : Nat} {c : ChSt} {M : List Nat} {w : World} (h : LineS chs M w) (hc : ChanS c.cs c.q c.first M w) : LineS (chs.set k c) M w := fun x hx => by
  rcases List.mem_or_eq_of_mem_set hx with hx | rfl
  · exact h x hx
  · exact hc

end Go.Proofs.Yticgmbmghnikeaa
