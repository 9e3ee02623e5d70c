/-
  BoundsRefuse: the plain law.
-/
import Derived.Test.YtflanndhfdfemaaWn
set_option linter.unusedVariables false
set_option linter.unusedSimpArgs false
namespace Go.Proofs.Ytflanndhfdfemaa
open Go.Vc

def neg (x : NodeD) : NodeD := { x with size := -1, step := -1, before := -1, after := -1, keep := -1 }
def negC (x : NodeC) : NodeC := { x with n6 := -1, n7 := -1, n10 := -1, n11 := -1, n12 := -1 }

theorem im1 : I64 (-1) := by unfold I64; omega

theorem node_neg {M : List Nat} {w : World} {cs : List Value} {d : NodeD} (h : Gv.rep M w cs d) : ∃ c : NodeC, cs = c.cells ∧ Gv.rep M w (negC c).cells (neg d) := by
  obtain ⟨_, _, rfl, ⟨rfl, g0⟩, _, _, rfl, ⟨p1, c1, rfl, a1, b1, s1⟩, _, _, rfl, ⟨rfl, g2⟩, _, _, rfl, ⟨rfl, g3⟩, _, _, rfl, ⟨p4, c4, rfl, g4⟩, _, _, rfl, ⟨rfl, g5⟩, _, _, rfl, ⟨rfl, g6⟩, _, _, rfl, ⟨rfl, g7⟩, _, _, rfl, ⟨p8, c8, rfl, g8⟩, _, _, rfl, ⟨p9, c9, rfl, g9⟩,
    _, _, rfl, ⟨rfl, g10⟩, _, _, rfl, ⟨rfl, g11⟩, _, _, rfl, ⟨rfl, g12⟩, _, _, rfl, ⟨p13, c13, rfl, g13⟩, _, _, rfl, ⟨p14, c14, rfl, g14⟩, p15, c15, rfl, a15, b15, s15⟩ := h
  exact ⟨⟨d.op, p1, _, c1, d.src, d.schema, p4, _, c4, d.kind, d.size, d.step, p8, _, c8, p9, _, c9, d.before, d.after, d.keep, p13, _, c13, p14, _, c14, p15, _, c15⟩, rfl,
    [_], _, rfl, ⟨rfl, g0⟩, [_], _, rfl, ⟨p1, c1, rfl, a1, b1, s1⟩, [_], _, rfl, ⟨rfl, g2⟩, [_], _, rfl, ⟨rfl, g3⟩, [_], _, rfl, ⟨p4, c4, rfl, g4⟩, [_], _, rfl, ⟨rfl, g5⟩, [_], _, rfl, ⟨rfl, im1⟩, [_], _, rfl, ⟨rfl, im1⟩, [_], _, rfl, ⟨p8, c8, rfl, g8⟩, [_], _, rfl, ⟨p9, c9, rfl, g9⟩,
    [_], _, rfl, ⟨rfl, im1⟩, [_], _, rfl, ⟨rfl, im1⟩, [_], _, rfl, ⟨rfl, im1⟩, [_], _, rfl, ⟨p13, c13, rfl, g13⟩, [_], _, rfl, ⟨p14, c14, rfl, g14⟩, p15, c15, rfl, a15, b15, s15⟩

theorem cells_inj {x y : NodeC} (h : x.cells = y.cells) : x = y := by
  cases x; cases y
  simp only [NodeC.cells, List.cons.injEq, Value.slice.injEq, Value.int.injEq, Value.string.injEq, and_true, true_and] at h
  simp_all

theorem node_negC {M : List Nat} {w : World} {x : NodeC} {d : NodeD} (h : Gv.rep M w x.cells d) : Gv.rep M w (negC x).cells (neg d) := by
  obtain ⟨c, e, h1⟩ := node_neg h
  rwa [← cells_inj e] at h1

theorem node_one (M : List Nat) (w : World) (cs : List Value) (x : NodeD) (h : Gv.rep M w cs x) : (cs.all fun u => oneC u) = true := by
  obtain ⟨c, rfl, _⟩ := node_cells h
  rfl

theorem neg_lo {x : NodeD} (h : x.op ≤ 3) : boundedD (neg x) = boundedD x ∧ ∀ acc c, boundD (neg x) acc c = boundD x acc c := by
  have hb : boundedD (neg x) = boundedD x := by
    unfold boundedD boundedB
    have e : (toC (neg x)).n0 = x.op := rfl
    have e' : (toC x).n0 = x.op := rfl
    rw [e, e', if_neg (by omega), if_neg (by omega), if_neg (by omega), if_neg (by omega), if_neg (by omega), if_neg (by omega), if_neg (by omega), if_neg (by omega), if_neg (by omega), if_neg (by omega)]
  refine ⟨hb, fun acc c => ?_⟩
  have e : (toC (neg x)).n0 = x.op := rfl
  have e' : (toC x).n0 = x.op := rfl
  have ho : ∀ y : NodeC, y.n0 ≤ 3 → ownI y = (0, 0) := fun y hy => by
    unfold ownI
    split
    · rw [if_neg (by omega), if_neg (by omega), if_neg (by omega), if_neg (by omega)]
    · rfl
  have hr : ∀ ys, rateI (toC (neg x)) ys c = rateI (toC x) ys c := fun ys => by
    unfold rateI
    rw [e, e', if_neg (c := x.op = 4 ∨ x.op = 5) (by omega), if_neg (c := x.op = 6) (by omega), if_neg (c := x.op = 4 ∨ x.op = 5) (by omega), if_neg (c := x.op = 6) (by omega)]
  unfold boundD boundI foldI
  rw [ho _ (by rw [e]; exact h), ho _ (by rw [e']; exact h), hr, e, e']
  rfl

theorem neg_hi {x : NodeD} (h : 3 < x.op) (h' : x.op ≤ 8) : boundedD (neg x) = false := by
  unfold boundedD boundedB
  have e : (toC (neg x)).n0 = x.op := rfl
  have hs : sizedB (toC (neg x)) = false := rfl
  rw [e]
  split
  · unfold windowB
    rw [hs]
    split
    · rfl
    split
    · rfl
    split
    · rfl
    · rfl
  split
  · rw [hs]; rfl
  split
  · rfl
  split
  · rfl
  split
  · rw [hs]; rfl
  omega

theorem anFrom_lo (c : CfgC) : ∀ (r : List NodeD) (i : Nat) (acc : List BndD) (k : Nat) (hk : k < r.length), r[k].op ≤ 3 → anFrom c i (r.set k (neg r[k])) acc = anFrom c i r acc
  | [], _, _, _, hk, _ => by simp at hk
  | x :: r, i, acc, 0, _, h => by
    obtain ⟨h1, h2⟩ := neg_lo h
    simp only [List.set_cons_zero, List.getElem_cons_zero] at h1 h2 ⊢
    unfold anFrom
    rw [h1, h2]
  | x :: r, i, acc, k + 1, hk, h => by
    simp only [List.set_cons_succ, List.getElem_cons_succ] at h ⊢
    unfold anFrom
    rw [anFrom_lo c r (i + 1) _ k (by simpa using hk) h]

theorem anFrom_hi (c : CfgC) : ∀ (r : List NodeD) (i : Nat) (acc : List BndD) (k : Nat) (hk : k < r.length), (anFrom c i r acc).2.2 = 0 → boundedD (neg r[k]) = false → anFrom c i (r.set k (neg r[k])) acc = ([], (i : Int) + k, 14)
  | [], _, _, _, hk, _, _ => by simp at hk
  | x :: r, i, acc, 0, _, _, h => by
    simp only [List.set_cons_zero, List.getElem_cons_zero] at h ⊢
    unfold anFrom
    rw [if_pos h]
    simp
  | x :: r, i, acc, k + 1, hk, h0, h => by
    simp only [List.set_cons_succ, List.getElem_cons_succ] at h ⊢
    unfold anFrom at h0 ⊢
    split at h0
    · simp at h0
    rename_i h1
    rw [if_neg h1]
    split at h0
    · simp at h0
    rename_i h2
    rw [if_neg h2, anFrom_hi c r (i + 1) _ k (by simpa using hk) h0 h]
    congr 2
    push_cast
    omega

theorem well_set {l : List NodeD} {k : Nat} (hk : k < l.length) (h : wellB l = true) : wellB (l.set k (neg l[k])) = true := by
  unfold wellB at h ⊢
  rw [Bool.and_eq_true] at h ⊢
  refine ⟨(wellFrom_iff _ 0).2 fun j hj => ?_, by rw [List.length_set]; exact h.2⟩
  have hj' : j < l.length := by simpa using hj
  have := (wellFrom_iff l 0).1 h.1 j hj'
  by_cases e : k = j
  · subst e; rw [List.getElem_set_self]; exact this
  · rw [List.getElem_set_ne e]; exact this

theorem analyze_parts {l : List NodeD} {c : CfgC} (h : (analyzeD l c).2.2 = 0) : cfgB c = true ∧ wellB l = true ∧ analyzeD l c = anFrom c 0 l [] := by
  unfold analyzeD at h ⊢
  split at h
  · rename_i hc; rw [if_pos hc]; exact ⟨hc.1, hc.2, rfl⟩
  · simp at h

theorem refuse_law {l : List NodeD} {c : CfgC} {k : Nat} (hk : k < l.length) (h : (analyzeD l c).2 = (-1, 0)) (hop : l[k].op ≤ 8) :
    (l[k].op ≤ 3 → (analyzeD (l.set k (neg l[k])) c).2 = (-1, 0)) ∧ (3 < l[k].op → analyzeD (l.set k (neg l[k])) c = ([], (k : Int), 14)) := by
  obtain ⟨h1, h2, h3⟩ := analyze_parts (l := l) (c := c) (by rw [h])
  have e : analyzeD (l.set k (neg l[k])) c = anFrom c 0 (l.set k (neg l[k])) [] := by
    unfold analyzeD; rw [if_pos ⟨h1, well_set hk h2⟩]
  rw [e]
  rw [h3] at h
  refine ⟨fun hl => by rw [anFrom_lo c l 0 [] k hk hl]; exact h, fun hh => ?_⟩
  rw [anFrom_hi c l 0 [] k hk (by rw [h]) (neg_hi hh hop)]
  simp

theorem wit_law {l : List NodeD} {c : CfgC} {k : Nat} (hk : k < l.length) (han : AnOk l c (analyzeD l c).1) (hw : wellB l = true) (hop : 3 < l[k].op) (hop' : l[k].op ≤ 8) (h0 : 0 < l[k].inp.length) {m : Nat} (hm : 1 ≤ m ∧ m ≤ 1000)
    (hi : l[k].inp[0].toNat < (l.set k (neg l[k])).length) : witD (l.set k (neg l[k])) k m = if ((l.set k (neg l[k]))[l[k].inp[0].toNat]).cols.all colB = true then (List.range m).map (deltaOf ((l.set k (neg l[k]))[l[k].inp[0].toNat]).cols) else [] := by
  unfold witD
  rw [if_pos ⟨well_set hk hw, by simp [win]; omega, by simp [win]; omega⟩, Int.toNat_natCast, Int.toNat_natCast, List.getElem?_eq_getElem (by simpa using hk)]
  simp only
  rw [List.getElem_set_self, if_neg (by rw [neg_hi hop hop']; simp), show (neg l[k]).inp = l[k].inp from rfl, List.getElem?_eq_getElem h0]
  simp only
  rw [List.getElem?_eq_getElem hi]

end Go.Proofs.Ytflanndhfdfemaa
