/-
  Logs, plain: prefixes of what leaders had.
-/
import Derived.Test.YtifgijoeckoojaaRv
set_option linter.unusedVariables false
set_option linter.unusedSimpArgs false
namespace Go.Proofs.Ytifgijoeckoojaa
open Go.Vc

/-- up to each entry, the list is the list of that entry's term -/
def Pre (LL : Int → List RecD) (l : List RecD) : Prop := ∀ p x, l[p]? = some x → l.take (p + 1) = (LL x.term).take (p + 1)

def Ext (LL LL' : Int → List RecD) : Prop := ∀ t, ∃ s, LL' t = LL t ++ s
theorem Ext.refl (LL : Int → List RecD) : Ext LL LL := fun t => ⟨[], (List.append_nil _).symm⟩

theorem pre_nil (LL : Int → List RecD) : Pre LL [] := fun p x h => by simp at h

theorem pre_take {LL : Int → List RecD} {l : List RecD} (h : Pre LL l) (n : Nat) : Pre LL (l.take n) := fun p x hx => by
  rw [List.getElem?_take] at hx
  split at hx
  · rename_i hp
    rw [List.take_take, Nat.min_eq_left (by omega)]
    exact h p x hx
  · cases hx

theorem take_len {LL : Int → List RecD} {l : List RecD} {p : Nat} {t : Int} (hp : p < l.length) (h : l.take (p + 1) = (LL t).take (p + 1)) : p < (LL t).length := by
  have := congrArg List.length h
  rw [List.length_take, List.length_take] at this
  omega

theorem pre_ext {LL LL' : Int → List RecD} (he : Ext LL LL') {l : List RecD} (h : Pre LL l) : Pre LL' l := fun p x hx => by
  have h1 := h p x hx
  have hp := (List.getElem?_eq_some_iff.1 hx).1
  have h2 := take_len hp h1
  obtain ⟨s, hs⟩ := he x.term
  rw [hs, List.take_append_of_le_length (by omega)]
  exact h1

theorem pre_match {LL : Int → List RecD} {a b : List RecD} (ha : Pre LL a) (hb : Pre LL b) {p : Nat} {x y : RecD} (hx : a[p]? = some x) (hy : b[p]? = some y) (e : x.term = y.term) : a.take (p + 1) = b.take (p + 1) := by
  rw [ha p x hx, hb p y hy, e]

theorem term_some {l : List RecD} {p : Nat} {x : RecD} (h : l[p]? = some x) : termAt l (p + 1) = x.term := by
  show (match l[p]? with
    | some x => x.term
    | none => 0) = x.term
  rw [h]

theorem term_ext {l s : List RecD} {p : Nat} (h : p ≤ l.length) : termAt (l ++ s) p = termAt l p := by
  cases p with
  | zero => rfl
  | succ p =>
    have hp : p < l.length := h
    obtain ⟨x, hx⟩ : ∃ x, l[p]? = some x := ⟨_, List.getElem?_eq_getElem hp⟩
    rw [term_some hx, term_some (x := x) (by rw [List.getElem?_append_left hp]; exact hx)]

theorem match_at {LL : Int → List RecD} {a b : List RecD} (ha : Pre LL a) (hb : Pre LL b) {ix : Nat} (h1 : ix ≤ a.length) (h2 : ix ≤ b.length) (e : termAt a ix = termAt b ix) : a.take ix = b.take ix := by
  cases ix with
  | zero => simp
  | succ p =>
    obtain ⟨x, hx⟩ : ∃ x, a[p]? = some x := ⟨_, List.getElem?_eq_getElem h1⟩
    obtain ⟨y, hy⟩ : ∃ y, b[p]? = some y := ⟨_, List.getElem?_eq_getElem h2⟩
    rw [term_some hx, term_some hy] at e
    exact pre_match ha hb hx hy e

/-- a slice of M that fits behind l: l agrees with M as far as the terms do -/
theorem match_agree {LL : Int → List RecD} {l M recs : List RecD} {ix : Nat} (hl : Pre LL l) (hM : Pre LL M) (h1 : ix ≤ l.length) (h2 : ix + recs.length ≤ M.length) (hr : recs = (M.drop ix).take recs.length) (e : termAt l ix = termAt M ix) :
    l.take (ix + agree (l.drop ix) recs) = M.take (ix + agree (l.drop ix) recs) := by
  rcases Nat.eq_zero_or_pos (agree (l.drop ix) recs) with h0 | h0
  · rw [h0]
    exact match_at hl hM h1 (by omega) e
  · obtain ⟨k, hk⟩ : ∃ k, agree (l.drop ix) recs = k + 1 := ⟨agree (l.drop ix) recs - 1, by omega⟩
    rw [hk]
    obtain ⟨ha, hb, ht⟩ := agree_terms (l.drop ix) recs k (by omega)
    have hx : l[ix + k]? = some (l.drop ix)[k] := by
      rw [List.getElem_drop]
      exact List.getElem?_eq_getElem _
    have hy : M[ix + k]? = some recs[k] := by
      have h3 : recs[k]? = some recs[k] := List.getElem?_eq_getElem hb
      have h4 : ((M.drop ix).take recs.length)[k]? = some recs[k] := by rw [← hr]; exact h3
      rw [List.getElem?_take_of_lt hb, List.getElem?_drop] at h4
      exact h4
    exact pre_match hl hM hx hy ht

theorem slice_drop {M recs : List RecD} {ix k : Nat} (hr : recs = (M.drop ix).take recs.length) : recs.drop k = (M.drop (ix + k)).take (recs.length - k) := by
  have h : ((M.drop ix).take recs.length).drop k = (M.drop (ix + k)).take (recs.length - k) := by rw [List.drop_take, List.drop_drop]
  rw [← h, ← hr]

/-- the new list is a prefix of M -/
theorem match_new {LL : Int → List RecD} {l M recs : List RecD} {ix : Nat} (hl : Pre LL l) (hM : Pre LL M) (h1 : ix ≤ l.length) (h2 : ix + recs.length ≤ M.length) (hr : recs = (M.drop ix).take recs.length) (e : termAt l ix = termAt M ix) (hk : agree (l.drop ix) recs ≤ recs.length) :
    l.take (ix + agree (l.drop ix) recs) ++ recs.drop (agree (l.drop ix) recs) = M.take (ix + recs.length) := by
  rw [match_agree hl hM h1 h2 hr e, slice_drop hr, ← List.take_add]
  congr 1
  omega

end Go.Proofs.Ytifgijoeckoojaa
