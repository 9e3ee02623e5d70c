/-
  The walks of errataref20.Same, few, path.
-/
import Derived.Test.YtflanndhfdfemaaWf
set_option linter.unusedVariables false
set_option linter.unusedSimpArgs false
namespace Go.Proofs.Ytflanndhfdfemaa
open Go.Vc

theorem bnd_ext {x y : BndD} : x = y ↔ (x.back = y.back ∧ (x.fore = y.fore ∧ (x.rate = y.rate ∧ x.state = y.state))) := by
  cases x; cases y; simp
instance : DecidableEq BndD := fun _ _ => decidable_of_iff _ bnd_ext.symm

def sameB (a b : List BndD) : Bool := decide (a = b)

theorem Same_in {Φ : PW} [Stable Φ] (aP : Option Addr) (aC : Nat) (bP : Option Addr) (bC : Nat) (a b : List BndD) (ha : ∀ M w, Φ M w → Sl M w aP a) (hb : ∀ M w, Φ M w → Sl M w bP b) (hlen : a.length ≤ 1000000) :
    GivesIn Φ Try.prog F.errataref20_Same #[.slice aP a.length aC, .slice bP b.length bC] (.bool (sameB a b)) := by
  refine .there (fun M w h => (ha M w h).there) fun hta => .there (fun M w h => (hb M w h).there) fun htb => ?_
  refine gives_in (Berrataref20_Same_run aP a.length aC bP b.length bC) fun W R => ?_
  refine Br.intro (fun h => fun w F cx => ⟨?_, cx.left⟩) (fun h => ?_)
  · have h : ¬ (a.length : Int) = b.length := by simpa using h
    have h : ¬ a.length = b.length := by omega
    rw [show sameB a b = false from decide_eq_false fun e => h (by rw [e])]
  · have h : (a.length : Int) = b.length := by simpa using h
    have h : a.length = b.length := by omega
    refine exI_mk (fun n R' Φ' k => ∃ j : Nat, n = j ∧ j ≤ a.length ∧ R' = R ∧ Φ' = Φ ∧ k = a.length - j ∧ ∀ i, (hi : i < a.length) → (hi' : i < b.length) → i < j → a[i] = b[i]) ⟨⟨R, Φ, _, inferInstance, fun w F c => c, 0, rfl, Nat.zero_le _, rfl, rfl, rfl, fun i _ _ h => by omega⟩, ?_⟩
    rintro n R1 Φ1 k _ ⟨j, rfl, hj, rfl, rfl, rfl, hok⟩
    refine Br.intro (fun hlt => fun w F cx => ?_) (fun hge => fun w F cx => ⟨?_, cx.left⟩)
    · have hlt : j < a.length := by simpa using hlt
      obtain ⟨b1, o1, rfl⟩ := hta (by omega)
      obtain ⟨b2, o2, rfl⟩ := htb (by omega)
      refine ⟨by omega, ptrK_intro b1 o1 rfl ⟨_, _, _, _, sl_bnd (ha _ _ cx.phi) hlt, by omega, ptrK_intro b2 o2 rfl ⟨_, _, _, _, sl_bnd (hb _ _ cx.phi) (by omega), by kernel_rfl, Br.intro (fun hne => fun w F cx => ⟨?_, cx.left⟩) (fun heq => ?_)⟩⟩⟩
      · rw [show sameB a b = false from decide_eq_false fun e => by subst e; simp at hne]
      · refine ⟨by unfold I64; omega, R1, Φ1, _, inferInstance, fun w F c => c, ⟨j + 1, rfl, by omega, rfl, rfl, rfl, fun i h1 h2 h3 => ?_⟩, by omega⟩
        by_cases hh : i = j
        · subst hh
          exact bnd_ext.2 (by simpa using heq)
        · exact hok i h1 h2 (by omega)
    · have hge : ¬ j < a.length := by simpa using hge
      rw [show sameB a b = true from decide_eq_true (List.ext_getElem h fun i h1 h2 => hok i h1 h2 (by omega))]

theorem node_at {Φ : PW} {b o : Nat} {cs : List (List Value)} {l : List NodeD} (hΦ : ∀ M w, Φ M w → Pin b o cs l M w) {W w : World} {S : List Own} (cx : Ctx W w S Φ) (j : Nat) (hj : j < l.length) :
    ∃ x : NodeC, (∀ M w, Φ M w → RowAt w b (o + j * 16) x.cells) ∧ Like x l[j] ∧ x.n1N = l[j].inp.length ∧ x.n15N = l[j].cols.length ∧ (∀ M w, Φ M w → Sl M w x.n1P l[j].inp) ∧ (∀ M w, Φ M w → Sl M w x.n15P l[j].cols) := by
  obtain ⟨_, hrow, hrep⟩ := hΦ _ _ cx.phi j hj
  obtain ⟨x, hx, _, h0, h1, _, _, _, _, _, _, _, _, h15, _⟩ := node_cells hrep
  have all : ∀ M w, Φ M w → RowAt w b (o + j * 16) x.cells ∧ Gv.rep M w x.cells l[j] := fun M w h => by
    have := hΦ M w h j hj
    rw [hx] at this
    exact this.2
  refine ⟨x, fun M w h => (all M w h).1, node_like (all _ _ cx.phi).2, h1, h15, fun M w h => node_in (all M w h).2, fun M w h => ?_⟩
  obtain ⟨c, e, _, _, _, _, _, _, _, _, _, _, _, _, hs⟩ := node_cells (all M w h).2
  simp only [NodeC.cells, List.cons.injEq, Value.slice.injEq] at e
  rw [e.2.2.2.2.2.2.2.2.2.2.2.2.2.2.2.1.1]
  exact hs

theorem there_of {p : Option Addr} {n b o : Nat} (h : 0 < n → p = some ⟨b, o, none⟩) : There p n := fun h0 => ⟨b, o, h h0⟩

def fewN (x : NodeD) : Bool := !(decide (5 < x.inp.length) || decide (20 < x.cols.length) || decide (20 < x.seq.len))
def fewB (l : List NodeD) : Bool := l.all fewN && decide (l.length ≤ 50)

set_option maxRecDepth 100000 in
theorem few_pin {Φ : PW} [Stable Φ] (p0P : Option Addr) (p0N p0C : Nat) (p : Option Addr) (cap : Nat) (l : List NodeD) (b o : Nat) (cs : List (List Value)) (hp : 0 < l.length → p = some ⟨b, o, none⟩) (hΦ : ∀ M w, Φ M w → Pin b o cs l M w) (hlen : l.length ≤ 9223372036854775807) :
    GivesIn Φ Try.prog F.erratalaw20_few #[.agg #[.slice p0P p0N p0C, .slice p l.length cap]] (.bool (fewB l)) := by
  refine gives_in (Berratalaw20_few_run p0P p0N p0C p l.length cap) fun W R => ?_
  refine fun _ => exI_mk (fun n R' Φ' k => ∃ j : Nat, n = j ∧ j ≤ l.length ∧ R' = R ∧ Φ' = Φ ∧ k = l.length - j ∧ ∀ i, (hi : i < l.length) → i < j → fewN l[i] = true) ⟨⟨R, Φ, _, inferInstance, fun w F c => c, 0, rfl, Nat.zero_le _, rfl, rfl, rfl, fun i _ h => by omega⟩, ?_⟩
  rintro n R1 Φ1 k _ ⟨j, rfl, hj, rfl, rfl, rfl, hok⟩
  refine Br.intro (fun hlt => ?_) (fun hge => fun w F cx => ⟨?_, cx.left⟩)
  · have hlt : j < l.length := by simpa using hlt
    refine ⟨by omega, ptrK_intro b o (hp (by omega)) fun w F cx => ?_⟩
    obtain ⟨x, hrow, hlike, h1, h15, _⟩ := node_at hΦ cx j hlt
    refine ⟨_, _, _, _, _, _, _, _, _, _, _, _, _, _, _, _, _, _, _, _, _, _, _, _, _, _, _, _, _, _, hrow _ _ cx.phi, fun _ w F cx => ?_⟩
    rw [h1, h15, hlike.e14]
    have hf : fewN l[j] = !(decide (5 < (l[j].inp.length : Int)) || decide (20 < (l[j].cols.length : Int)) || decide (20 < (l[j].seq.len : Int))) := by
      unfold fewN
      congr 1
      congr 1
      · congr 1
        · exact decide_eq_decide.2 (by omega)
        · exact decide_eq_decide.2 (by omega)
      · exact decide_eq_decide.2 (by omega)
    refine Br.intro (fun hb => fun w F cx => ⟨?_, cx.left⟩) (fun hb => ?_)
    · rw [hb] at hf
      unfold fewB
      rw [show l.all fewN = false from Bool.eq_false_iff.2 fun hall => by
        rw [List.all_eq_true] at hall
        have := hall _ (List.getElem_mem hlt)
        rw [hf] at this; cases this]
      rfl
    · rw [hb] at hf
      refine ⟨by unfold I64; omega, R1, Φ1, _, inferInstance, fun w F c => c, ⟨j + 1, rfl, by omega, rfl, rfl, rfl, fun i h1 h2 => ?_⟩, by omega⟩
      by_cases hh : i = j
      · subst hh; exact hf
      · exact hok i h1 (by omega)
  · have hge : ¬ j < l.length := by simpa using hge
    unfold fewB
    rw [show l.all fewN = true from List.all_eq_true.2 fun x hx => by
      obtain ⟨i, hi, rfl⟩ := List.getElem_of_mem hx
      exact hok i hi (by omega)]
    rw [Bool.true_and]
    congr 1
    exact decide_eq_decide.2 (by omega)

theorem few_in {Φ : PW} [Stable Φ] (p0P : Option Addr) (p0N p0C : Nat) (p : Option Addr) (cap : Nat) (l : List NodeD) (hΦ : ∀ M w, Φ M w → Sl M w p l) (hlen : l.length ≤ 9223372036854775807) :
    GivesIn Φ Try.prog F.erratalaw20_few #[.agg #[.slice p0P p0N p0C, .slice p l.length cap]] (.bool (fewB l)) :=
  .pinned hΦ fun b o cs hp => few_pin _ _ _ _ _ _ b o cs hp (fun _ _ h => h.2) hlen

/-! ### path -/
def gv (n : Int) : Value := .int .i64 n
def arr (f : BndD → Int) (acc : List BndD) (i : Nat) (v : Int) (n : Nat) : List Value := (acc.take i).map (fun y => gv (f y)) ++ (gv v :: List.replicate (n - i - 1) (gv 0))

theorem arr_len {f : BndD → Int} {acc : List BndD} {i : Nat} {v : Int} {n : Nat} (hi : i < n) (ha : acc.length = n) : (arr f acc i v n).length = n := by
  simp [arr]; omega
theorem arr_lt {f : BndD → Int} {acc : List BndD} {i : Nat} {v : Int} {n q : Nat} (hq : q < i) (ha : i < acc.length) : (arr f acc i v n)[q]? = some (gv (f (acc.getD q default))) := by
  unfold arr
  rw [List.getElem?_append_left (by simp; omega), List.getElem?_map, List.getElem?_take_of_lt hq, List.getD_eq_getElem?_getD, List.getElem?_eq_getElem (by omega)]
  rfl
theorem arr_eq {f : BndD → Int} {acc : List BndD} {i : Nat} {v : Int} {n : Nat} (ha : i < acc.length) : (arr f acc i v n)[i]? = some (gv v) := by
  unfold arr
  rw [List.getElem?_append_right (by simp; omega)]
  simp [Nat.min_eq_left (Nat.le_of_lt ha)]
theorem arr_set {f : BndD → Int} {acc : List BndD} {i : Nat} {v u : Int} {n : Nat} (ha : i < acc.length) : (arr f acc i v n).set i (gv u) = arr f acc i u n := by
  unfold arr
  rw [List.set_append_right _ _ (by simp; omega)]
  simp [Nat.min_eq_left (Nat.le_of_lt ha)]
theorem arr_next {f : BndD → Int} {acc : List BndD} {i n : Nat} (ha : acc.length = n) (hi : i + 1 < n) : arr f acc i (f (acc.getD i default)) n = arr f acc (i + 1) 0 n := by
  unfold arr
  rw [List.take_succ_eq_append_getElem (by omega), List.map_append, List.append_assoc, show n - i - 1 = (n - (i + 1) - 1) + 1 by omega, List.replicate_succ, List.getD_eq_getElem?_getD, List.getElem?_eq_getElem (by omega)]
  rfl

theorem max_fold (f : BndD → Int) (o : Int) : ∀ (ys : List BndD) (a : Int), ys.foldl (fun v y => max v (f y + o)) (a + o) = ys.foldl (fun v y => max v (f y)) a + o
  | [], _ => rfl
  | y :: r, a => by
    rw [List.foldl_cons, List.foldl_cons, ← max_fold f o r, show max (a + o) (f y + o) = max a (f y) + o by omega]

theorem max_fold0 {f : BndD → Int} {o : Int} (ho : 0 ≤ o) : ∀ {ys : List BndD}, ys ≠ [] → (∀ y ∈ ys, 0 ≤ f y) → ys.foldl (fun v y => max v (f y + o)) 0 = ys.foldl (fun v y => max v (f y)) 0 + o
  | [], h, _ => absurd rfl h
  | y :: r, _, hy => by
    have := hy y (by simp)
    rw [List.foldl_cons, List.foldl_cons, ← max_fold f o r, show max 0 (f y + o) = max 0 (f y) + o by omega]

theorem fold_fst (keeps : Bool) (span back : Int) : ∀ (ys : List BndD) (a : Int × Int × Int), (ys.foldl (stepB keeps span back) a).1 = ys.foldl (fun v y => max v y.back) a.1 ∧ (ys.foldl (stepB keeps span back) a).2.1 = ys.foldl (fun v y => max v y.fore) a.2.1
  | [], _ => ⟨rfl, rfl⟩
  | y :: r, a => by
    rw [List.foldl_cons, List.foldl_cons, List.foldl_cons]
    exact fold_fst keeps span back r _

theorem arr_first {f : BndD → Int} {acc : List BndD} {n : Nat} (hn : 0 < n) : List.replicate n (gv 0) = arr f acc 0 0 n := by
  unfold arr
  rw [List.take_zero, List.map_nil, List.nil_append, show n - 0 - 1 = n - 1 by omega]
  rw [← List.replicate_succ]
  congr 1
  omega

theorem insD_take {inp : List Int} {acc : List BndD} {j : Nat} (h : ∀ i ∈ inp, 0 ≤ i ∧ i < (j : Int)) : insD inp (acc.take j) = insD inp acc := by
  unfold insD
  refine List.map_congr_left fun i hi => ?_
  have := h i hi
  rw [List.getD_eq_getElem?_getD, List.getElem?_take_of_lt (by omega), List.getD_eq_getElem?_getD]

theorem AnOk.ins {l : List NodeD} {c : CfgC} {acc : List BndD} (h : AnOk l c acc) {j : Nat} (hj : j < l.length) : ∀ i ∈ l[j].inp, 0 ≤ i ∧ i < (j : Int) := by
  intro i hi
  have := h.well j hj
  simp only [nodeOk, Bool.and_eq_true, List.all_eq_true] at this
  have := this.2 i hi
  simp [win] at this
  omega

theorem AnOk.num {l : List NodeD} {c : CfgC} {acc : List BndD} (h : AnOk l c acc) {j : Nat} (hj : j < l.length) : (l[j].inp.length : Int) = kIn l[j].op := by
  have := h.well j hj
  simp only [nodeOk, Bool.and_eq_true, decide_eq_true_eq] at this
  exact this.1.2

/-- the bound of a node, out of those of its inputs -/
theorem AnOk.at {l : List NodeD} {c : CfgC} {acc : List BndD} (h : AnOk l c acc) {j : Nat} (hj : j < l.length) : acc.getD j default = boundI (toC l[j]) (insD l[j].inp acc) c := by
  rw [h.eq j hj]
  unfold boundD
  rw [insD_take (h.ins hj)]

theorem AnOk.getOk {l : List NodeD} {c : CfgC} {acc : List BndD} (h : AnOk l c acc) (j : Nat) : (acc.getD j default).Ok := by
  refine getD_of (p := BndD.Ok) (fun y hy => ?_) ⟨by decide, by decide, by decide, by decide⟩ j
  obtain ⟨i, hi, rfl⟩ := List.getElem_of_mem hy
  have := h.len
  have := h.le
  exact (h.ok i hi).ok (by omega)

theorem AnOk.insOk {l : List NodeD} {c : CfgC} {acc : List BndD} (h : AnOk l c acc) (inp : List Int) : ∀ y ∈ insD inp acc, y.Ok := by
  intro y hy
  obtain ⟨i, _, rfl⟩ := List.mem_map.1 hy
  exact h.getOk _

theorem AnOk.back {l : List NodeD} {c : CfgC} {acc : List BndD} (h : AnOk l c acc) {j : Nat} (hj : j < l.length) :
    (acc.getD j default).back = if l[j].inp.length = 0 then (ownD l[j]).1 else (insD l[j].inp acc).foldl (fun v y => max v (y.back + (ownD l[j]).1)) 0 := by
  have ho := own_bd (toC l[j])
  rw [h.at hj]
  show (foldI (toC l[j]) (insD l[j].inp acc) c).1 + (ownI (toC l[j])).1 = _
  unfold foldI
  rw [(fold_fst _ _ _ _ _).1]
  split
  · rename_i h0
    rw [List.eq_nil_of_length_eq_zero h0]
    simp [insD, ownD]
  · rename_i h0
    exact (max_fold0 (f := BndD.back) ho.1 (fun e => h0 (by have := congrArg List.length e; simpa [insD] using this)) fun y hy => (h.insOk _ y hy).b.1).symm

theorem AnOk.fore {l : List NodeD} {c : CfgC} {acc : List BndD} (h : AnOk l c acc) {j : Nat} (hj : j < l.length) :
    (acc.getD j default).fore = if l[j].inp.length = 0 then (ownD l[j]).2 else (insD l[j].inp acc).foldl (fun v y => max v (y.fore + (ownD l[j]).2)) 0 := by
  have ho := own_bd (toC l[j])
  rw [h.at hj]
  show (foldI (toC l[j]) (insD l[j].inp acc) c).2.1 + (ownI (toC l[j])).2 = _
  unfold foldI
  rw [(fold_fst _ _ _ _ _).2]
  split
  · rename_i h0
    rw [List.eq_nil_of_length_eq_zero h0]
    simp [insD, ownD]
  · rename_i h0
    exact (max_fold0 (f := BndD.fore) ho.2.2.1 (fun e => h0 (by have := congrArg List.length e; simpa [insD] using this)) fun y hy => (h.insOk _ y hy).f.1).symm

theorem run_bd {f : BndD → Int} {o : Int} (hf : ∀ y : BndD, y.Ok → 0 ≤ f y ∧ f y ≤ 1000000) (ho : 0 ≤ o ∧ o ≤ 10000) : ∀ (ys : List BndD) (a : Int), 0 ≤ a → a ≤ 1010000 → (∀ y ∈ ys, y.Ok) → 0 ≤ ys.foldl (fun v y => max v (f y + o)) a ∧ ys.foldl (fun v y => max v (f y + o)) a ≤ 1010000
  | [], a, h1, h2, _ => ⟨h1, h2⟩
  | y :: r, a, h1, h2, hy => by
    have := hf y (hy y (by simp))
    rw [List.foldl_cons]
    exact run_bd hf ho r _ (by omega) (by omega) fun z hz => hy z (by simp [hz])

def pf (f : BndD → Int) (o : Int) (ys : List BndD) : Int := ys.foldl (fun v y => max v (f y + o)) 0

theorem arr_last {f : BndD → Int} {acc : List BndD} {i n : Nat} (ha : acc.length = n) (hi : i + 1 = n) : arr f acc i (f (acc.getD i default)) n = acc.map fun y => gv (f y) := by
  unfold arr
  rw [show n - i - 1 = 0 by omega, List.replicate_zero, List.getD_eq_getElem?_getD, List.getElem?_eq_getElem (by omega)]
  have : acc = acc.take i ++ [acc[i]'(by omega)] := by rw [← List.take_succ_eq_append_getElem, hi, ← ha, List.take_length]
  conv => rhs; rw [this]
  rw [List.map_append]
  rfl

set_option maxRecDepth 100000 in
theorem path_pin {Φ : PW} [Stable Φ] (p0P : Option Addr) (p0N p0C : Nat) (p : Option Addr) (cap : Nat) (l : List NodeD) (c : CfgC) (acc : List BndD) (han : AnOk l c acc) (node : Nat) (hnode : node < l.length)
    (b o : Nat) (cs : List (List Value)) (hp : 0 < l.length → p = some ⟨b, o, none⟩) (hΦ : ∀ M w, Φ M w → Pin b o cs l M w) :
    GivesIn Φ Try.prog F.erratalaw20_path #[.agg #[.slice p0P p0N p0C, .slice p l.length cap], .int .i64 node] (twoV ((acc.getD node default).back, (acc.getD node default).fore)) := by
  refine gives_in (Berratalaw20_path_run p0P p0N p0C p l.length cap node) fun W R => ?_
  have hle := han.le
  have hal := han.len
  refine fun _ => ⟨by omega, fun k0 => ⟨by omega, fun k1 => ?_⟩⟩
  refine exI_mk (fun n R' Φ' k => ∃ j : Nat, n = j ∧ j ≤ l.length ∧ Φ' = Φ ∧ k = l.length - j ∧ ((j < l.length ∧ R' = .blk k1 (arr BndD.fore acc j 0 l.length) 3 :: .blk k0 (arr BndD.back acc j 0 l.length) 3 :: R) ∨
    (j = l.length ∧ R' = .blk k1 (acc.map fun y => gv y.fore) 3 :: .blk k0 (acc.map fun y => gv y.back) 3 :: R)))
    ⟨⟨.blk k1 (arr BndD.fore acc 0 0 l.length) 3 :: .blk k0 (arr BndD.back acc 0 0 l.length) 3 :: R, Φ, _, inferInstance, fun w F c => ?_, 0, rfl, Nat.zero_le _, rfl, rfl, .inl ⟨by omega, rfl⟩⟩, ?_⟩
  · have c : Ctx W w (.blk k1 (List.replicate l.length (gv 0)) 3 :: .blk k0 (List.replicate l.length (gv 0)) 3 :: R ++ F) Φ := c
    have e1 := arr_first (f := BndD.fore) (acc := acc) (n := l.length) (by omega)
    have e2 := arr_first (f := BndD.back) (acc := acc) (n := l.length) (by omega)
    rw [← e1, ← e2]
    exact c
  rintro n R1 Φ1 k _ ⟨j, rfl, hj, rfl, rfl, hcase⟩
  refine Br.intro (fun hlt => ?_) (fun hge => ?_)
  · have hlt : j < l.length := by simpa using hlt
    obtain rfl : R1 = .blk k1 (arr BndD.fore acc j 0 l.length) 3 :: .blk k0 (arr BndD.back acc j 0 l.length) 3 :: R := by
      rcases hcase with ⟨_, h⟩ | ⟨h, _⟩
      · exact h
      · omega
    clear hcase
    have hpb := hp (by omega)
    refine ⟨by omega, ptrK_intro b o hpb fun w F cx => ?_⟩
    obtain ⟨x, hrow, hlike, h1, h15, hsub, _⟩ := node_at hΦ cx j hlt
    have hown := own_bd x
    have hob := hlike.own
    have hth := (hsub _ _ cx.phi).there
    have hins := han.ins hlt
    have hnum := han.num hlt
    have hkbd := kIn_bd l[j].op
    refine ⟨_, _, _, _, _, _, _, _, _, _, _, _, _, _, _, _, _, _, _, _, _, _, _, _, _, _, _, _, _, _, hrow _ _ cx.phi, fun w F cx => (Own_g x).in.use cx fun w cx => ⟨_, _, rfl, _, _, inferInstance, cx, by omega, ptrK_intro b o hpb fun w F cx => ⟨_, _, _, hrow _ _ cx.phi 1 (by simp), ?_⟩⟩⟩
    rw [h1]
    clear cx
    have hbk := han.back hlt
    have hfo := han.fore hlt
    rw [← hob] at hbk hfo
    have hyo := han.insOk l[j].inp
    have hyl : (insD l[j].inp acc).length = l[j].inp.length := by simp [insD]
    have hyq : ∀ q, (hq : q < l[j].inp.length) → (h : q < (insD l[j].inp acc).length) → (insD l[j].inp acc)[q] = acc.getD l[j].inp[q].toNat default := fun q hq h => by simp [insD]
    generalize insD l[j].inp acc = ys at *
    have bd1 : ∀ q, 0 ≤ pf BndD.back (ownI x).1 (ys.take q) ∧ pf BndD.back (ownI x).1 (ys.take q) ≤ 1010000 := fun q => run_bd (f := BndD.back) (fun y h => h.b) ⟨hown.1, hown.2.1⟩ _ _ (by omega) (by omega) fun y hy => hyo y (List.mem_of_mem_take hy)
    have bd2 : ∀ q, 0 ≤ pf BndD.fore (ownI x).2 (ys.take q) ∧ pf BndD.fore (ownI x).2 (ys.take q) ≤ 1010000 := fun q => run_bd (f := BndD.fore) (fun y h => h.f) ⟨hown.2.2.1, hown.2.2.2⟩ _ _ (by omega) (by omega) fun y hy => hyo y (List.mem_of_mem_take hy)
    obtain ⟨o1, ho1⟩ : ∃ z, z = (ownI x).1 := ⟨_, rfl⟩
    obtain ⟨o2, ho2⟩ : ∃ z, z = (ownI x).2 := ⟨_, rfl⟩
    rw [← ho1] at hown hbk bd1 ⊢
    rw [← ho2] at hown hfo bd2 ⊢
    have hnext : ∀ R0 : List Own, ∀ a b : Int, b = (acc.getD j default).back → a = (acc.getD j default).fore → ∃ (R1 : List Own) (Φ2 : PW) (k1' : Nat), Stable Φ2 ∧
        (∀ w F, Ctx W w ((.blk k1 (arr BndD.fore acc j a l.length) 3 :: .blk k0 (arr BndD.back acc j b l.length) 3 :: R) ++ F) Φ1 → Ctx W w (R1 ++ F) Φ2) ∧
        (∃ j' : Nat, (j : Int) + 1 = j' ∧ j' ≤ l.length ∧ Φ2 = Φ1 ∧ k1' = l.length - j' ∧ ((j' < l.length ∧ R1 = .blk k1 (arr BndD.fore acc j' 0 l.length) 3 :: .blk k0 (arr BndD.back acc j' 0 l.length) 3 :: R) ∨
          (j' = l.length ∧ R1 = .blk k1 (acc.map fun y => gv y.fore) 3 :: .blk k0 (acc.map fun y => gv y.back) 3 :: R))) ∧ k1' < l.length - j := by
      rintro _ a b rfl rfl
      by_cases h : j + 1 < l.length
      · rw [arr_next hal h, arr_next hal h]
        exact ⟨_, Φ1, _, inferInstance, fun w F c => c, ⟨j + 1, rfl, hlt, rfl, rfl, .inl ⟨h, rfl⟩⟩, by omega⟩
      · rw [arr_last hal (by omega), arr_last hal (by omega)]
        exact ⟨_, Φ1, _, inferInstance, fun w F c => c, ⟨j + 1, rfl, hlt, rfl, rfl, .inr ⟨by omega, rfl⟩⟩, by omega⟩
    refine exI_mk (fun m R' Φ' k => ∃ q : Nat, m = q ∧ q ≤ l[j].inp.length ∧ Φ' = Φ1 ∧ k = l[j].inp.length - q ∧ R' = .blk k1 (arr BndD.fore acc j (pf BndD.fore o2 (ys.take q)) l.length) 3 :: .blk k0 (arr BndD.back acc j (pf BndD.back o1 (ys.take q)) l.length) 3 :: R)
      ⟨⟨_, Φ1, _, inferInstance, fun w F c => c, 0, rfl, Nat.zero_le _, rfl, rfl, rfl⟩, ?_⟩
    rintro m R2 Φ2 k _ ⟨q, rfl, hq, rfl, rfl, rfl⟩
    refine Br.intro (fun hq' => ?_) (fun hq' => ?_)
    · have hq' : q < l[j].inp.length := by simpa using hq'
      obtain ⟨bb, oo, hbo⟩ := hth (by omega)
      have hi := hins l[j].inp[q] (List.getElem_mem hq')
      have hyq := hyq q hq' (by omega)
      have hjl : j < acc.length := by omega
      have hyo' := hyo ys[q] (List.getElem_mem (by omega))
      have b1 := bd1 q
      have b2 := bd2 q
      have e1 : max (pf BndD.back o1 (ys.take q)) ((acc.getD l[j].inp[q].toNat default).back + o1) = pf BndD.back o1 (ys.take (q + 1)) := by
        rw [List.take_succ_eq_append_getElem (by omega), ← hyq]; unfold pf; rw [List.foldl_append]; rfl
      have e2 : max (pf BndD.fore o2 (ys.take q)) ((acc.getD l[j].inp[q].toNat default).fore + o2) = pf BndD.fore o2 (ys.take (q + 1)) := by
        rw [List.take_succ_eq_append_getElem (by omega), ← hyq]; unfold pf; rw [List.foldl_append]; rfl
      rw [hyq] at hyo'
      have y1 := hyo'.b
      have y2 := hyo'.f
      refine ⟨by omega, by omega, ptrK_intro bb oo hbo fun w F cx => ⟨_, cx.get 1 rfl (by rw [Nat.zero_add]; exact arr_eq hjl), fun w F cx => ⟨l[j].inp[q], sl_int (hbo ▸ hsub _ _ cx.phi) hq', by omega, fun w F cx => ⟨_, cx.get 1 rfl (by rw [Nat.zero_add]; exact arr_lt (by omega) hjl), by unfold I64; omega, by omega,
        fun w F cx => ⟨cx.can 1 rfl (by rw [arr_len hlt hal]; omega), fun w' e => ?_⟩⟩⟩⟩⟩
      have cx : Ctx W w' (.blk k1 (arr BndD.fore acc j (pf BndD.fore o2 (ys.take q)) l.length) 3 :: .blk k0 ((arr BndD.back acc j (pf BndD.back o1 (ys.take q)) l.length).set j (gv (max (pf BndD.back o1 (ys.take q)) ((acc.getD l[j].inp[q].toNat default).back + o1)))) 3 :: R ++ F) Φ2 :=
        cx.put 1 (by rw [e, Nat.zero_add]; rfl) rfl
      rw [arr_set hjl, e1] at cx
      refine ⟨_, Φ2, inferInstance, cx, by omega, by omega, ptrK_intro bb oo hbo fun w F cx => ⟨_, cx.get 0 rfl (by rw [Nat.zero_add]; exact arr_eq hjl), fun w F cx => ⟨l[j].inp[q], sl_int (hbo ▸ hsub _ _ cx.phi) hq', by omega, fun w F cx => ⟨_, cx.get 0 rfl (by rw [Nat.zero_add]; exact arr_lt (by omega) hjl), by unfold I64; omega, by omega,
        fun w F cx => ⟨cx.can 0 rfl (by rw [arr_len hlt hal]; omega), fun w' e => ?_⟩⟩⟩⟩⟩
      have cx : Ctx W w' (.blk k1 ((arr BndD.fore acc j (pf BndD.fore o2 (ys.take q)) l.length).set j (gv (max (pf BndD.fore o2 (ys.take q)) ((acc.getD l[j].inp[q].toNat default).fore + o2)))) 3 :: .blk k0 (arr BndD.back acc j (pf BndD.back o1 (ys.take (q + 1))) l.length) 3 :: R ++ F) Φ2 :=
        cx.put 0 (by rw [e, Nat.zero_add]; rfl) rfl
      rw [arr_set hjl, e2] at cx
      exact ⟨_, Φ2, inferInstance, cx, by unfold I64; omega, _, Φ2, l[j].inp.length - (q + 1), inferInstance, fun w F c => c, ⟨q + 1, rfl, hq', rfl, rfl, rfl⟩, by omega⟩
    · have hq' : q = l[j].inp.length := by have : ¬ q < l[j].inp.length := by simpa using hq'
                                           omega
      subst hq'
      rw [← hyl, List.take_length]
      refine Br.intro (fun h0 => ?_) (fun h0 => ?_)
      · have h0 : l[j].inp.length = 0 := by have : (ys.length : Int) = 0 := by simpa using h0
                                            omega
        have hjl : j < acc.length := by omega
        refine ⟨by omega, fun w F cx => ⟨cx.can 1 rfl (by rw [arr_len hlt hal]; omega), fun w' e => ?_⟩⟩
        have cx : Ctx W w' (.blk k1 (arr BndD.fore acc j (pf BndD.fore o2 ys) l.length) 3 :: .blk k0 ((arr BndD.back acc j (pf BndD.back o1 ys) l.length).set j (gv o1)) 3 :: R ++ F) Φ2 :=
          cx.put 1 (by rw [e, Nat.zero_add]; rfl) rfl
        rw [arr_set hjl] at cx
        refine ⟨_, Φ2, inferInstance, cx, by omega, fun w F cx => ⟨cx.can 0 rfl (by rw [arr_len hlt hal]; omega), fun w' e => ?_⟩⟩
        have cx : Ctx W w' (.blk k1 ((arr BndD.fore acc j (pf BndD.fore o2 ys) l.length).set j (gv o2)) 3 :: .blk k0 (arr BndD.back acc j o1 l.length) 3 :: R ++ F) Φ2 :=
          cx.put 0 (by rw [e, Nat.zero_add]; rfl) rfl
        rw [arr_set hjl] at cx
        exact ⟨_, Φ2, inferInstance, cx, by unfold I64; omega, hnext R _ _ (by rw [hbk, if_pos h0]) (by rw [hfo, if_pos h0])⟩
      · have h0 : ¬ l[j].inp.length = 0 := by have : ¬ (ys.length : Int) = 0 := by simpa using h0
                                              omega
        exact ⟨by unfold I64; omega, hnext R _ _ (by rw [hbk, if_neg h0]; rfl) (by rw [hfo, if_neg h0]; rfl)⟩
  · have hge : ¬ j < l.length := by simpa using hge
    obtain rfl : R1 = .blk k1 (acc.map fun y => gv y.fore) 3 :: .blk k0 (acc.map fun y => gv y.back) 3 :: R := by
      rcases hcase with ⟨h, _⟩ | ⟨_, h⟩
      · omega
      · exact h
    have hg : ∀ f : BndD → Int, (acc.map fun y => gv (f y))[0 + node]? = some (gv (f (acc.getD node default))) := fun f => by
      rw [Nat.zero_add, List.getElem?_map, List.getD_eq_getElem?_getD, List.getElem?_eq_getElem (by omega)]; rfl
    exact fun w F cx => ⟨by simp; omega, _, cx.get 1 rfl (hg BndD.back), by simp; omega, _, cx.get 0 rfl (hg BndD.fore), fun w F cx => ⟨rfl, cx.left.drop1.drop1⟩⟩

end Go.Proofs.Ytflanndhfdfemaa
