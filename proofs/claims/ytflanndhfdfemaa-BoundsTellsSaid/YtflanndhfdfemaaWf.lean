/-
  The walk of bounds.Analyze.
-/
import Derived.Test.YtflanndhfdfemaaWe
set_option linter.unusedVariables false
set_option linter.unusedSimpArgs false
namespace Go.Proofs.Ytflanndhfdfemaa
open Go.Vc

/-- a node as its cells, without its slices -/
def toC (x : NodeD) : NodeC := ⟨x.op, none, x.inp.length, 0, x.src, x.schema, none, 0, 0, x.kind, x.size, x.step, none, 0, 0, none, 0, 0, x.before, x.after, x.keep, none, 0, 0, none, x.seq.len, 0, none, x.cols.length, 0⟩
def boundedD (x : NodeD) : Bool := boundedB (toC x)
def ownD (x : NodeD) : Int × Int := ownI (toC x)
def boundD (x : NodeD) (l : List BndD) (c : CfgC) : BndD := boundI (toC x) (insD x.inp l) c

structure Like (x : NodeC) (d : NodeD) : Prop where
  e0 : x.n0 = d.op
  e5 : x.n5 = d.kind
  e6 : x.n6 = d.size
  e7 : x.n7 = d.step
  e10 : x.n10 = d.before
  e11 : x.n11 = d.after
  e12 : x.n12 = d.keep
  e14 : x.n14N = d.seq.len

theorem Like.bounded {x : NodeC} {d : NodeD} (h : Like x d) : boundedB x = boundedD d := by
  unfold boundedD boundedB windowB sizedB
  rw [h.e0, h.e5, h.e6, h.e7, h.e10, h.e11, h.e12, h.e14]
  rfl
theorem Like.own {x : NodeC} {d : NodeD} (h : Like x d) : ownI x = ownD d := by
  have hb := h.bounded
  unfold boundedD at hb
  unfold ownD ownI blockI
  rw [hb, h.e0, h.e5, h.e6, h.e7, h.e10, h.e11, h.e12]
  rfl
theorem Like.bound {x : NodeC} {d : NodeD} (h : Like x d) (l : List BndD) (c : CfgC) : boundI x (insD d.inp l) c = boundD d l c := by
  have ho := h.own
  unfold ownD at ho
  unfold boundD boundI foldI rateI
  rw [ho, h.e0, h.e6, h.e10, h.e11]
  rfl

def badB (b : BndD) : Bool := decide (1099511627776 ≤ b.rate) || decide (1099511627776 ≤ b.state)

def anFrom (c : CfgC) : Nat → List NodeD → List BndD → List BndD × Int × Int
  | _, [], acc => (acc, -1, 0)
  | i, x :: r, acc => if boundedD x = false then ([], i, 14) else if badB (boundD x acc c) = true then ([], i, 14) else anFrom c (i + 1) r (acc ++ [boundD x acc c])

def analyzeD (l : List NodeD) (c : CfgC) : List BndD × Int × Int := if cfgB c = true ∧ wellB l = true then anFrom c 0 l [] else ([], -1, 2)

/-- bounds after j nodes -/
structure AccOk (j : Nat) (y : BndD) : Prop where
  b : 0 ≤ y.back ∧ y.back ≤ 10000 * j
  f : 0 ≤ y.fore ∧ y.fore ≤ 10000 * j
  r : 0 ≤ y.rate ∧ y.rate < 1099511627776
  s : 0 ≤ y.state ∧ y.state < 1099511627776

theorem AccOk.ok {j : Nat} (hj : j ≤ 100) {y : BndD} (h : AccOk j y) : y.Ok := by
  obtain ⟨h1, h2, h3, h4⟩ := h
  exact ⟨by omega, by omega, by omega, by omega⟩

theorem fold_bd {keeps : Bool} {span back B : Int} (hs : 0 ≤ span) (hb : 0 ≤ back) : ∀ (ys : List BndD) (a : Int × Int × Int), 0 ≤ a.1 → a.1 ≤ B → 0 ≤ a.2.1 → a.2.1 ≤ B → 0 ≤ a.2.2 → a.2.2 ≤ 1099511627776 →
    (∀ y ∈ ys, 0 ≤ y.back ∧ y.back ≤ B ∧ 0 ≤ y.fore ∧ y.fore ≤ B ∧ 0 ≤ y.rate) →
    0 ≤ (ys.foldl (stepB keeps span back) a).1 ∧ (ys.foldl (stepB keeps span back) a).1 ≤ B ∧ 0 ≤ (ys.foldl (stepB keeps span back) a).2.1 ∧ (ys.foldl (stepB keeps span back) a).2.1 ≤ B ∧
    0 ≤ (ys.foldl (stepB keeps span back) a).2.2 ∧ (ys.foldl (stepB keeps span back) a).2.2 ≤ 1099511627776
  | [], a, h1, h2, h3, h4, h5, h6, _ => ⟨h1, h2, h3, h4, h5, h6⟩
  | y :: r, a, h1, h2, h3, h4, h5, h6, hy => by
    obtain ⟨g1, g2, g3, g4, g5⟩ := hy y (by simp)
    rw [List.foldl_cons]
    refine fold_bd hs hb r _ ?_ ?_ ?_ ?_ ?_ ?_ fun z hz => hy z (by simp [hz])
    · show 0 ≤ max a.1 y.back; omega
    · show max a.1 y.back ≤ B; omega
    · show 0 ≤ max a.2.1 y.fore; omega
    · show max a.2.1 y.fore ≤ B; omega
    · unfold stepB; simp only; split
      · exact (plusI_bd h5 (timesI_bd g5 (by omega)).1).1
      · exact h5
    · unfold stepB; simp only; split
      · exact (plusI_bd h5 (timesI_bd g5 (by omega)).1).2
      · exact h6

theorem getD_of {ys : List BndD} {p : BndD → Prop} (h : ∀ y ∈ ys, p y) (h0 : p default) (i : Nat) : p (ys.getD i default) := by
  rw [List.getD_eq_getElem?_getD]
  cases hi : ys[i]? with
  | none => exact h0
  | some y => exact h y (List.mem_of_getElem? hi)

theorem ins_of {inp : List Int} {l : List BndD} {p : BndD → Prop} (h : ∀ y ∈ l, p y) (h0 : p default) : ∀ y ∈ insD inp l, p y := by
  intro y hy
  obtain ⟨i, _, rfl⟩ := List.mem_map.1 hy
  exact getD_of h h0 _

theorem rate_nonneg {x : NodeC} {ys : List BndD} {c : CfgC} (hc : cfgB c = true) (hb : boundedB x = true) (hy : ∀ y ∈ ys, 0 ≤ y.rate) : 0 ≤ rateI x ys c := by
  have h : ∀ i, 0 ≤ (ys.getD i default).rate := fun i => getD_of (p := fun y => 0 ≤ y.rate) hy (by decide) i
  obtain ⟨h1, h2, h3, h4⟩ := cfg_bd hc
  unfold rateI
  split
  · exact Int.mul_nonneg (by omega) (by omega)
  split
  · exact (plusI_bd (h 0) (h 1)).1
  split
  · rename_i ho; have := bounded_n6 hb ho; exact (timesI_bd (h 0) (by omega)).1
  split
  · rename_i ho; have := bounded_n10 hb ho; exact (timesI_bd (timesI_bd (h 0) (h 1)).1 (by omega)).1
  exact h 0

theorem AccOk.next {x : NodeC} {inp : List Int} {l : List BndD} {c : CfgC} {j : Nat} (hc : cfgB c = true) (hb : boundedB x = true) (h : ∀ y ∈ l, AccOk j y) (hbad : badB (boundI x (insD inp l) c) = false) : AccOk (j + 1) (boundI x (insD inp l) c) := by
  obtain ⟨h1, h2, h3, h4⟩ := cfg_bd hc
  obtain ⟨o1, o2, o3, o4⟩ := own_bd x
  have hd : AccOk j default := ⟨⟨by decide, by show (0 : Int) ≤ _; omega⟩, ⟨by decide, by show (0 : Int) ≤ _; omega⟩, ⟨by decide, by decide⟩, ⟨by decide, by decide⟩⟩
  have hi := ins_of (inp := inp) (p := AccOk j) h hd
  have hf := fold_bd (keeps := kKeeps x.n0) (span := c.span) (back := (ownI x).1) (B := 10000 * j) (by omega) o1 (insD inp l) (0, 0, 0) (by simp) (by simp; omega) (by simp) (by simp; omega) (by simp) (by simp)
    fun y hy => by obtain ⟨g1, g2, g3, g4⟩ := hi y hy; exact ⟨g1.1, g1.2, g2.1, g2.2, g3.1⟩
  have hr := rate_nonneg (ys := insD inp l) hc hb fun y hy => (hi y hy).r.1
  simp only [badB, Bool.or_eq_false_iff, decide_eq_false_iff_not] at hbad
  obtain ⟨b1, b2⟩ := hbad
  have e1 : (boundI x (insD inp l) c).back = (foldI x (insD inp l) c).1 + (ownI x).1 := rfl
  have e2 : (boundI x (insD inp l) c).fore = (foldI x (insD inp l) c).2.1 + (ownI x).2 := rfl
  have e3 : (boundI x (insD inp l) c).rate = rateI x (insD inp l) c := rfl
  have e4 : (boundI x (insD inp l) c).state = (foldI x (insD inp l) c).2.2 := rfl
  rw [e3] at b1
  rw [e4] at b2
  unfold foldI at e1 e2 e4 b2
  exact ⟨by omega, by omega, by omega, by omega⟩

theorem boundI_ok {x : NodeC} {inp : List Int} {l : List BndD} {c : CfgC} {j : Nat} (hj : j ≤ 90) (hc : cfgB c = true) (hb : boundedB x = true) (h : ∀ y ∈ l, AccOk j y) : 0 ≤ (boundI x (insD inp l) c).rate ∧ 0 ≤ (boundI x (insD inp l) c).state := by
  obtain ⟨h1, h2, h3, h4⟩ := cfg_bd hc
  obtain ⟨o1, o2, o3, o4⟩ := own_bd x
  have hd : AccOk j default := ⟨⟨by decide, by show (0 : Int) ≤ _; omega⟩, ⟨by decide, by show (0 : Int) ≤ _; omega⟩, ⟨by decide, by decide⟩, ⟨by decide, by decide⟩⟩
  have hi := ins_of (inp := inp) (p := AccOk j) h hd
  have hf := fold_bd (keeps := kKeeps x.n0) (span := c.span) (back := (ownI x).1) (B := 10000 * j) (by omega) o1 (insD inp l) (0, 0, 0) (by simp) (by simp; omega) (by simp) (by simp; omega) (by simp) (by simp)
    fun y hy => by obtain ⟨g1, g2, g3, g4⟩ := hi y hy; exact ⟨g1.1, g1.2, g2.1, g2.2, g3.1⟩
  have hr := rate_nonneg (ys := insD inp l) hc hb fun y hy => (hi y hy).r.1
  exact ⟨hr, hf.2.2.2.2.1⟩

def bndC (l : List BndD) : List Value := (l.map BndD.cells).flatten

theorem bnd_elems : ∀ {l : List BndD} (_ : ∀ y ∈ l, y.Ok) (M : List Nat) (w : World), Elems M w (bndC l) l := by
  intro l h M w
  induction l with
  | nil => exact Elems.nil
  | cons y r ih => exact Elems.append (Elems.snoc (l := []) (cs := []) Elems.nil ((h y (by simp)).rep M w)) (ih fun z hz => h z (by simp [hz]))

theorem bndC_snoc (l : List BndD) (y : BndD) : bndC l ++ y.cells = bndC (l ++ [y]) := by simp [bndC]

theorem node_like {M : List Nat} {w : World} {x : NodeC} {d : NodeD} (h : Gv.rep M w x.cells d) : Like x d := by
  obtain ⟨c, e, _, e0, _, _, e5, e6, e7, e10, e11, e12, e14, _⟩ := node_cells h
  simp only [NodeC.cells, List.cons.injEq, Value.slice.injEq, Value.int.injEq] at e
  obtain ⟨q0, _, _, _, _, q5, q6, q7, _, _, q10, q11, q12, _, q14, _⟩ := e
  exact ⟨q0.2.trans e0, q5.2.trans e5, q6.2.trans e6, q7.2.trans e7, q10.2.trans e10, q11.2.trans e11, q12.2.trans e12, q14.2.1.trans e14⟩

theorem k37 : appB Try.prog 30 37 4 32 = true := by kernel_rfl

set_option maxRecDepth 100000 in
theorem Analyze_pin {Φ : PW} [Stable Φ] (p0P : Option Addr) (p0N p0C : Nat) (p : Option Addr) (cap : Nat) (l : List NodeD) (c : CfgC) (b o : Nat) (cs : List (List Value)) (hp : 0 < l.length → p = some ⟨b, o, none⟩) (hΦ : ∀ M w, Φ M w → Pin b o cs l M w)
    (hsl : ∀ M w, Φ M w → Sl M w p l) (hlen : l.length ≤ 9223372036854775807) :
    GivesBuf Φ Try.prog F.bounds_Analyze #[.agg #[.slice p0P p0N p0C, .slice p l.length cap], c.v] (analyzeD l c).1.length (bndC (analyzeD l c).1) 37 4 fun u => .tuple #[u, .int .i64 (analyzeD l c).2.1, .int .i64 (analyzeD l c).2.2] := by
  refine gives_buf (Bbounds_Analyze_run p0P p0N p0C p l.length cap c.parts c.delay c.late c.ahead c.rate c.span) fun W R => ?_
  have hbad : ¬ (cfgB c = true ∧ wellB l = true) → analyzeD l c = ([], -1, 2) := fun h => by unfold analyzeD; rw [if_neg h]
  refine fun _ _ w F cx => (RightConfig_g c).in.use cx fun w cx => ⟨_, rfl, _, _, inferInstance, cx, Br.intro (fun h => ?_) (fun hc => ?_)⟩
  · have h : cfgB c = false := by simpa using h
    rw [hbad (by simp [h])]
    exact fun w F cx => ⟨none, 0, rfl, cx.left.buf0 37 4⟩
  have hc : cfgB c = true := by simpa using hc
  refine fun w F cx => (Well_in _ _ _ _ _ _ hsl hlen).use cx fun w cx => ⟨_, rfl, _, _, inferInstance, cx, Br.intro (fun h => ?_) (fun hw => ?_)⟩
  · have h : wellB l = false := by simpa using h
    rw [hbad (by simp [h])]
    exact fun w F cx => ⟨none, 0, rfl, cx.left.buf0 37 4⟩
  have hw : wellB l = true := by simpa using hw
  have han : analyzeD l c = anFrom c 0 l [] := by unfold analyzeD; rw [if_pos ⟨hc, hw⟩]
  rw [han]
  clear hbad han
  obtain ⟨res, hres⟩ : ∃ r, r = anFrom c 0 l [] := ⟨_, rfl⟩
  rw [← hres]
  have hwl : l.length ≤ 40 := by simp [wellB, win] at hw; omega
  have hwf : ∀ j, (hj : j < l.length) → nodeOk j l[j] = true := fun j hj => by
    have := (wellFrom_iff l 0).1 (by simp [wellB] at hw; exact hw.1) j hj
    rwa [Nat.zero_add] at this
  refine exI_mk (fun p24 k25 k26 n27 R' Φ' k => ∃ (j : Nat) (acc : List BndD), n27 = j ∧ j ≤ l.length ∧ res = anFrom c j (l.drop j) acc ∧ acc.length = j ∧ (∀ y ∈ acc, AccOk j y) ∧ k25 = acc.length ∧ There p24 acc.length ∧ R' = .buf p24 acc.length k26 (bndC acc) 37 4 :: R ∧ Φ' = Φ ∧ k = l.length - j)
    ⟨⟨.buf none 0 0 [] 37 4 :: R, Φ, _, inferInstance, fun w F c => c.buf0 37 4, 0, [], rfl, Nat.zero_le _, hres, rfl, by simp, rfl, fun h => absurd h (Nat.lt_irrefl 0), rfl, rfl, rfl⟩, ?_⟩
  rintro p24 k25 k26 n27 R1 Φ1 k _ ⟨j, acc, rfl, hj, hrun, hal, hao, rfl, hth, rfl, rfl, rfl⟩
  refine Br.intro (fun h => ?_) (fun h => ?_)
  · have hlt : j < l.length := by simpa using h
    obtain ⟨hbb, hbo⟩ : True ∧ True := ⟨trivial, trivial⟩
    refine ⟨by omega, ptrK_intro b o (hp (by omega)) fun w F cx => ?_⟩
    obtain ⟨_, hrow, hrep⟩ := hΦ _ _ cx.phi j hlt
    obtain ⟨x, hx, hxo, h0, h1, hin, _⟩ := node_cells hrep
    have hlike : Like x l[j] := node_like (by rwa [hx] at hrep)
    have hsub : ∀ M w, Φ1 M w → Sl M w x.n1P l[j].inp := fun M w h => node_in (by have := (hΦ M w h j hlt).2.2; rwa [hx] at this)
    rw [show (Gv.ty NodeD).size = 16 from rfl, hx] at hrow
    have hnode := hwf j hlt
    rw [List.drop_eq_getElem_cons hlt] at hrun
    unfold anFrom at hrun
    simp only [nodeOk, Bool.and_eq_true, decide_eq_true_eq, List.all_eq_true] at hnode
    refine ⟨_, _, _, _, _, _, _, _, _, _, _, _, _, _, _, _, _, _, _, _, _, _, _, _, _, _, _, _, _, _, hrow, fun _ w F cx => (Bounded_g x).in.use cx fun w cx => ⟨_, rfl, _, _, inferInstance, cx, Br.intro (fun hb => ?_) (fun hb => ?_)⟩⟩
    · have hb : boundedD l[j] = false := by rw [← hlike.bounded]; simpa using hb
      rw [if_pos hb] at hrun
      subst hrun
      exact fun w F cx => ⟨none, 0, rfl, cx.left.drop1.buf0 37 4⟩
    · have hb : boundedB x = true := by simpa using hb
      rw [if_neg (by rw [← hlike.bounded, hb]; simp)] at hrun
      have hao' : ∀ y ∈ acc, y.Ok := fun y hy => (hao y hy).ok (by omega)
      have hbi := bound_in (Φ := fun M w => Φ1 ((Own.buf p24 acc.length k26 (bndC acc) 37 4).dom ++ M) w ∧ Parked W (.buf p24 acc.length k26 (bndC acc) 37 4) M w) x l[j].inp acc p24 k26 c hc h1 (by rw [h1, h0]; exact hnode.1.2) hb
        (fun M w h => (hsub _ _ h.1).less) (fun M w h => h.2.sl (D := []) (bnd_elems hao' _ _)) (fun i hi => by have := hnode.2 i hi; simp [win] at this; omega) hao'
      have hbd := boundI_ok (j := j) (inp := l[j].inp) (by omega) hc hb hao
      have hnx := AccOk.next (inp := l[j].inp) (l := acc) hc hb hao
      rw [hlike.bound] at hbi hbd hnx
      generalize boundD l[j] acc c = y at *
      refine fun w F cx => hbi.use cx.park fun w cx => ⟨_, _, _, _, rfl, .buf p24 acc.length k26 (bndC acc) 37 4 :: R, Φ1, inferInstance, Ctx.unpark cx, fun _ w F cx => Br.intro (fun hbad => ?_) (fun hbad => ?_)⟩
      · rw [if_pos (show badB y = true from hbad)] at hrun
        subst hrun
        exact fun w F cx => ⟨none, 0, rfl, cx.left.drop1.buf0 37 4⟩
      · have hbad : badB y = false := hbad
        rw [if_neg (by rw [hbad]; simp)] at hrun
        refine fun k88 w F cx => ?_
        obtain ⟨p', cap', w', hr, hp', cx⟩ := Ctx.app1 cx k37 (by omega) rfl rfl (by omega) (by omega)
        refine ⟨p', _, cap', w', hr, .buf p' (acc.length + 1) cap' (bndC acc ++ y.cells) 37 4 :: R, Φ1, inferInstance, (by exact cx), by unfold I64; omega, .buf p' (acc.length + 1) cap' (bndC acc ++ y.cells) 37 4 :: R, Φ1, l.length - (j + 1), inferInstance, fun w F cx => cx,
          ⟨j + 1, acc ++ [y], rfl, by omega, hrun, by simp [hal], ?_, by simp, ?_, by rw [bndC_snoc]; simp, rfl, rfl⟩, by omega⟩
        · intro z hz
          rcases List.mem_append.1 hz with hz | hz
          · obtain ⟨g1, g2, g3, g4⟩ := hao z hz
            exact ⟨by omega, by omega, g3, g4⟩
          · rw [List.mem_singleton] at hz; subst hz; exact hnx hbad
        · obtain ⟨g, hg⟩ := hp'
          exact fun _ => ⟨g, 0, hg⟩
  · have hge : ¬ j < l.length := by simpa using h
    rw [List.drop_of_length_le (by omega)] at hrun
    unfold anFrom at hrun
    subst hrun
    exact fun w F cx => ⟨p24, k26, rfl, cx.left⟩

theorem Analyze_buf {Φ : PW} [Stable Φ] (p0P : Option Addr) (p0N p0C : Nat) (p : Option Addr) (cap : Nat) (l : List NodeD) (c : CfgC)
    (hsl : ∀ M w, Φ M w → Sl M w p l) (hlen : l.length ≤ 9223372036854775807) :
    GivesBuf Φ Try.prog F.bounds_Analyze #[.agg #[.slice p0P p0N p0C, .slice p l.length cap], c.v] (analyzeD l c).1.length (bndC (analyzeD l c).1) 37 4 fun u => .tuple #[u, .int .i64 (analyzeD l c).2.1, .int .i64 (analyzeD l c).2.2] :=
  .pinned hsl fun b o cs hp => Analyze_pin _ _ _ _ _ _ _ b o cs hp (fun _ _ h => h.2) (fun _ _ h => hsl _ _ h.1) hlen

/-- what a good plan has -/
structure AnOk (l : List NodeD) (c : CfgC) (acc : List BndD) : Prop where
  len : acc.length = l.length
  cfg : cfgB c = true
  well : ∀ j, (hj : j < l.length) → nodeOk j l[j] = true
  le : l.length ≤ 40
  pos : 1 ≤ l.length
  bounded : ∀ j, (hj : j < l.length) → boundedD l[j] = true
  eq : ∀ j, (hj : j < l.length) → acc.getD j default = boundD l[j] (acc.take j) c
  bad : ∀ j, (hj : j < l.length) → badB (acc.getD j default) = false
  ok : ∀ j, (hj : j < acc.length) → AccOk (j + 1) acc[j]

theorem anFrom_cases (c : CfgC) : ∀ (r : List NodeD) (i : Nat) (acc : List BndD) (res : List BndD × Int × Int), anFrom c i r acc = res →
    (res.1 = [] ∧ res.2.2 = 14 ∧ (i : Int) ≤ res.2.1 ∧ res.2.1 < i + r.length) ∨ (res.2 = (-1, 0) ∧ res.1.length = acc.length + r.length ∧ res.1.take acc.length = acc ∧
      ∀ j, (hj : j < r.length) → boundedD r[j] = true ∧ res.1.getD (acc.length + j) default = boundD r[j] (res.1.take (acc.length + j)) c ∧ badB (res.1.getD (acc.length + j) default) = false)
  | [], i, acc, res, h => by
    subst h
    exact .inr ⟨rfl, rfl, List.take_length, fun j hj => by simp at hj⟩
  | x :: r, i, acc, res, h => by
    unfold anFrom at h
    split at h
    · subst h; exact .inl ⟨rfl, rfl, Int.le_refl _, by simp; omega⟩
    rename_i hb
    split at h
    · subst h; exact .inl ⟨rfl, rfl, Int.le_refl _, by simp; omega⟩
    rename_i hbad
    rcases anFrom_cases c r (i + 1) _ res h with ⟨h1, h2, h3, h4⟩ | ⟨h1, h2, h3, h4⟩
    · exact .inl ⟨h1, h2, by push_cast at h3; omega, by push_cast at h4; simp; omega⟩
    · simp only [List.length_append, List.length_singleton] at h2 h3 h4
      have e1 : res.1.take acc.length = acc := by
        have := congrArg (List.take acc.length) h3
        rw [List.take_take, Nat.min_eq_left (by omega), List.take_left] at this
        exact this
      have e2 : res.1.getD acc.length default = boundD x acc c := by
        have : (res.1.take (acc.length + 1))[acc.length]? = some (boundD x acc c) := by rw [h3, List.getElem?_append_right (Nat.le_refl _)]; simp
        rw [List.getElem?_take_of_lt (by omega)] at this
        rw [List.getD_eq_getElem?_getD, this]
        rfl
      refine .inr ⟨h1, by simp; omega, e1, fun j hj => ?_⟩
      cases j with
      | zero => simp only [Nat.add_zero, List.getElem_cons_zero]; rw [e1, e2]; exact ⟨by simpa using hb, rfl, by simpa using hbad⟩
      | succ j =>
        have := h4 j (by simpa using hj)
        rw [show acc.length + 1 + j = acc.length + (j + 1) by omega] at this
        simpa using this

theorem analyze_cases (l : List NodeD) (c : CfgC) : ((analyzeD l c).1 = [] ∧ (analyzeD l c).2.2 ≠ 0) ∨ ((analyzeD l c).2 = (-1, 0) ∧ AnOk l c (analyzeD l c).1) := by
  unfold analyzeD
  split
  · rename_i h
    obtain ⟨hc, hw⟩ := h
    rcases anFrom_cases c l 0 [] _ rfl with ⟨h1, h2, _⟩ | ⟨h1, h2, _, h4⟩
    · exact .inl ⟨h1, by rw [h2]; decide⟩
    · refine .inr ⟨h1, ?_⟩
      simp only [List.length_nil, Nat.zero_add] at h2 h4
      generalize (anFrom c 0 l []).1 = acc at *
      have hwf : ∀ j, (hj : j < l.length) → nodeOk j l[j] = true := fun j hj => by
        have := (wellFrom_iff l 0).1 (by simp [wellB] at hw; exact hw.1) j hj
        rwa [Nat.zero_add] at this
      have hwl : 1 ≤ l.length ∧ l.length ≤ 40 := by simp [wellB, win] at hw; omega
      have hok : ∀ n, n ≤ acc.length → ∀ y ∈ acc.take n, AccOk n y := by
        intro n
        induction n with
        | zero => intro _ y hy; simp at hy
        | succ n ih =>
          intro hn y hy
          rw [List.take_succ_eq_append_getElem (by omega)] at hy
          rcases List.mem_append.1 hy with hy | hy
          · obtain ⟨g1, g2, g3, g4⟩ := ih (by omega) y hy
            exact ⟨by omega, by omega, g3, g4⟩
          · rw [List.mem_singleton] at hy
            subst hy
            obtain ⟨q1, q2, q3⟩ := h4 n (by omega)
            have : acc.getD n default = acc[n] := by rw [List.getD_eq_getElem?_getD, List.getElem?_eq_getElem (by omega)]; rfl
            rw [this] at q2 q3
            rw [q2] at q3 ⊢
            exact AccOk.next hc q1 (ih (by omega)) q3
      exact ⟨h2, hc, hwf, hwl.2, hwl.1, fun j hj => (h4 j hj).1, fun j hj => (h4 j hj).2.1, fun j hj => (h4 j hj).2.2, fun j hj => hok (j + 1) (by omega) _ (by rw [List.take_succ_eq_append_getElem (by omega)]; exact List.mem_append_right _ (List.mem_singleton.2 rfl))⟩
  · exact .inl ⟨rfl, by decide⟩

theorem analyze_ok (l : List NodeD) (c : CfgC) : ∀ y ∈ (analyzeD l c).1, y.Ok := by
  rcases analyze_cases l c with ⟨h, _⟩ | ⟨_, h⟩
  · rw [h]; simp
  · intro y hy
    obtain ⟨j, hj, rfl⟩ := List.getElem_of_mem hy
    have := h.le
    have := h.len
    exact (h.ok j hj).ok (by omega)

theorem Analyze_in {Φ : PW} [Stable Φ] (p0P : Option Addr) (p0N p0C : Nat) (p : Option Addr) (cap : Nat) (l : List NodeD) (c : CfgC)
    (hsl : ∀ M w, Φ M w → Sl M w p l) (hlen : l.length ≤ 9223372036854775807) :
    GivesSl Φ Try.prog F.bounds_Analyze #[.agg #[.slice p0P p0N p0C, .slice p l.length cap], c.v] (analyzeD l c).1 fun u => .tuple #[u, .int .i64 (analyzeD l c).2.1, .int .i64 (analyzeD l c).2.2] :=
  (Analyze_buf _ _ _ _ _ _ _ hsl hlen).sl (α := BndD) fun M w _ => bnd_elems (analyze_ok l c) M w

end Go.Proofs.Ytflanndhfdfemaa
