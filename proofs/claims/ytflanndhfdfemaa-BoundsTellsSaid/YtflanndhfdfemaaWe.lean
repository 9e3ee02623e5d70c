/-
  The walk of bounds.bound.
-/
import Derived.Test.YtflanndhfdfemaaWd
set_option linter.unusedVariables false
set_option linter.unusedSimpArgs false
namespace Go.Proofs.Ytflanndhfdfemaa
open Go.Vc

structure BndD where
  back : Int
  fore : Int
  rate : Int
  state : Int

instance : Gv BndD := Gv.via (β := Int × Int × Int × Int) (fun x => (x.back, x.fore, x.rate, x.state)) (fun y => ⟨y.1, y.2.1, y.2.2.1, y.2.2.2⟩) (fun _ => rfl)
instance : Inhabited BndD := ⟨⟨0, 0, 0, 0⟩⟩

abbrev BndD.cells (x : BndD) : List Value := [.int .i64 x.back, .int .i64 x.fore, .int .i64 x.rate, .int .i64 x.state]
abbrev BndD.v (x : BndD) : Value := .agg #[.int .i64 x.back, .int .i64 x.fore, .int .i64 x.rate, .int .i64 x.state]

theorem bnd_rep {M : List Nat} {w : World} {cs : List Value} {x : BndD} (h : Gv.rep M w cs x) : cs = x.cells := by
  obtain ⟨_, _, rfl, ⟨rfl, _⟩, _, _, rfl, ⟨rfl, _⟩, _, _, rfl, ⟨rfl, _⟩, rfl, _⟩ := h
  rfl

structure BndD.Ok (x : BndD) : Prop where
  b : 0 ≤ x.back ∧ x.back ≤ 1000000
  f : 0 ≤ x.fore ∧ x.fore ≤ 1000000
  r : 0 ≤ x.rate ∧ x.rate ≤ 1099511627776
  s : 0 ≤ x.state ∧ x.state ≤ 1099511627776

theorem BndD.Ok.rep {x : BndD} (h : x.Ok) (M : List Nat) (w : World) : Gv.rep M w x.cells x := by
  obtain ⟨h1, h2, h3, h4⟩ := h
  exact ⟨_, _, rfl, ⟨rfl, by show I64 x.back; unfold I64; omega⟩, _, _, rfl, ⟨rfl, by show I64 x.fore; unfold I64; omega⟩, _, _, rfl, ⟨rfl, by show I64 x.rate; unfold I64; omega⟩, rfl, by show I64 x.state; unfold I64; omega⟩

theorem sl_bnd {M : List Nat} {w : World} {b o : Nat} {l : List BndD} (h : Sl M w (some ⟨b, o, none⟩) l) {i : Nat} (hi : i < l.length) : RowAt w b (o + i * 4) l[i].cells := by
  obtain ⟨b', o', cs, e, _, h3, h4⟩ := h i hi
  cases e
  rw [bnd_rep h4] at h3
  exact h3

def stepB (keeps : Bool) (span back : Int) (a : Int × Int × Int) (y : BndD) : Int × Int × Int :=
  (max a.1 y.back, max a.2.1 y.fore, if keeps then plusI a.2.2 (timesI y.rate (span + y.fore + back)) else a.2.2)

def rateI (x : NodeC) (ys : List BndD) (c : CfgC) : Int :=
  if x.n0 = 0 then c.parts * c.rate
  else if x.n0 = 3 then plusI (ys.getD 0 default).rate (ys.getD 1 default).rate
  else if x.n0 = 4 ∨ x.n0 = 5 then timesI (ys.getD 0 default).rate x.n6
  else if x.n0 = 6 then timesI (timesI (ys.getD 0 default).rate (ys.getD 1 default).rate) (x.n10 + x.n11 + 2)
  else (ys.getD 0 default).rate

def foldI (x : NodeC) (ys : List BndD) (c : CfgC) : Int × Int × Int := ys.foldl (stepB (kKeeps x.n0) c.span (ownI x).1) (0, 0, 0)

def boundI (x : NodeC) (ys : List BndD) (c : CfgC) : BndD :=
  ⟨(foldI x ys c).1 + (ownI x).1, (foldI x ys c).2.1 + (ownI x).2, rateI x ys c, (foldI x ys c).2.2⟩

/-- the bounds of the inputs -/
def insD (inp : List Int) (l : List BndD) : List BndD := inp.map fun i => l.getD i.toNat default

theorem timesI_bd {a b : Int} (ha : 0 ≤ a) (hb : 0 ≤ b) : 0 ≤ timesI a b ∧ timesI a b ≤ 1099511627776 := by
  unfold timesI
  split
  · omega
  · rename_i h
    refine ⟨Int.mul_nonneg ha hb, ?_⟩
    by_cases h0 : a = 0
    · subst h0; simp
    · have h1 : b ≤ Int.tdiv 1099511627776 a := by omega
      have h2 := Int.mul_le_mul_of_nonneg_left h1 ha
      rw [Int.tdiv_eq_ediv_of_nonneg (by omega)] at h2
      have h3 := Int.mul_ediv_self_le (x := 1099511627776) (k := a) h0
      omega

theorem times_g (a b : Int) (ha : 0 ≤ a) (hb : 0 ≤ b) : Gives Try.prog F.bounds_times #[.int .i64 a, .int .i64 b] (.int .i64 (timesI a b)) :=
  (times_q a b fun h => by
    have := timesI_bd ha hb
    unfold timesI at this
    rw [if_neg h] at this
    unfold I64; omega).gives

theorem plus_g (a b : Int) (h : I64 (a + b)) : Gives Try.prog F.bounds_plus #[.int .i64 a, .int .i64 b] (.int .i64 (plusI a b)) := (plus_q a b h).gives

theorem plusI_bd {a b : Int} (ha : 0 ≤ a) (hb : 0 ≤ b) : 0 ≤ plusI a b ∧ plusI a b ≤ 1099511627776 := by unfold plusI; omega

theorem bounded_n6 {x : NodeC} (h : boundedB x = true) (ho : x.n0 = 4 ∨ x.n0 = 5) : 1 ≤ x.n6 ∧ x.n6 ≤ 10000 := by
  unfold boundedB at h
  split at h
  · unfold windowB at h
    split at h
    · exact sized_bd h
    split at h
    · simp only [Bool.and_eq_true] at h; exact sized_bd h.1
    split at h
    · simp only [Bool.and_eq_true] at h; exact sized_bd h.1
    · cases h
  split at h
  · simp only [Bool.and_eq_true] at h; exact sized_bd h.1
  omega

theorem bounded_n10 {x : NodeC} (h : boundedB x = true) (ho : x.n0 = 6) : 0 ≤ x.n10 ∧ x.n10 ≤ 10000 ∧ 0 ≤ x.n11 ∧ x.n11 ≤ 10000 := by
  unfold boundedB at h
  rw [if_neg (by omega), if_neg (by omega), if_pos ho] at h
  simp [win] at h
  omega

theorem own_bd (x : NodeC) : 0 ≤ (ownI x).1 ∧ (ownI x).1 ≤ 10000 ∧ 0 ≤ (ownI x).2 ∧ (ownI x).2 ≤ 10000 := by
  unfold ownI
  split
  · rename_i h
    unfold boundedB at h
    by_cases h4 : x.n0 = 4
    · rw [if_pos h4] at h
      rw [if_pos (.inl h4)]
      have hs : 1 ≤ x.n6 ∧ x.n6 ≤ 10000 ∧ (x.n5 = 2 → 1 ≤ x.n7 ∧ x.n7 ≤ x.n6) := by
        unfold windowB at h
        split at h
        · have := sized_bd h; omega
        split at h
        · simp only [Bool.and_eq_true] at h; have := sized_bd h.1; omega
        split at h
        · simp only [Bool.and_eq_true] at h; have := sized_bd h.1; have h2 := h.2; simp [win] at h2; omega
        · cases h
      unfold blockI
      split
      · rename_i hh; have := hs.2.2 hh.2; simp only; omega
      · simp only; omega
    rw [if_neg h4] at h
    by_cases h5 : x.n0 = 5
    · rw [if_pos h5] at h
      rw [if_pos (.inr h5)]
      simp only [Bool.and_eq_true] at h
      have := sized_bd h.1
      unfold blockI
      rw [if_neg (fun hh => h4 hh.1)]
      simp only; omega
    rw [if_neg h5] at h
    rw [if_neg (by omega)]
    by_cases h6 : x.n0 = 6
    · rw [if_pos h6] at h
      rw [if_pos h6]
      simp [win] at h
      simp only; omega
    rw [if_neg h6] at h
    rw [if_neg h6]
    by_cases h7 : x.n0 = 7
    · rw [if_pos h7] at h
      rw [if_pos h7]
      simp [win] at h
      simp only; omega
    rw [if_neg h7] at h
    rw [if_neg h7]
    by_cases h8 : x.n0 = 8
    · rw [if_pos h8] at h
      rw [if_pos h8]
      simp only [Bool.and_eq_true] at h
      have := sized_bd h.1
      simp only; omega
    rw [if_neg h8]
    simp
  · simp

/-- what the fold knows -/
structure FoldOk (a : Int × Int × Int) : Prop where
  b : 0 ≤ a.1 ∧ a.1 ≤ 1000000
  f : 0 ≤ a.2.1 ∧ a.2.1 ≤ 1000000
  s : 0 ≤ a.2.2 ∧ a.2.2 ≤ 1099511627776

theorem FoldOk.step {a : Int × Int × Int} (h : FoldOk a) {y : BndD} (hy : y.Ok) {keeps : Bool} {span back : Int} (hs : 0 ≤ span) (hb : 0 ≤ back) : FoldOk (stepB keeps span back a y) := by
  obtain ⟨h1, h2, h3⟩ := h
  obtain ⟨g1, g2, g3, g4⟩ := hy
  refine ⟨by unfold stepB; simp only; omega, by unfold stepB; simp only; omega, ?_⟩
  unfold stepB; simp only
  split
  · exact plusI_bd h3.1 (timesI_bd g3.1 (by omega)).1
  · exact h3

theorem foldOk {keeps : Bool} {span back : Int} (hs : 0 ≤ span) (hb : 0 ≤ back) : ∀ (ys : List BndD) (a : Int × Int × Int), FoldOk a → (∀ y ∈ ys, y.Ok) → FoldOk (ys.foldl (stepB keeps span back) a)
  | [], a, h, _ => h
  | y :: r, a, h, hy => foldOk hs hb r _ (h.step (hy y (by simp)) hs hb) fun z hz => hy z (by simp [hz])

/-- the cells of the rates -/
def rateC (ys : List BndD) : List Value := ys.map fun y => .int .i64 y.rate
def rateL (ys : List BndD) : List Int := ys.map fun y => y.rate

theorem rate_elems {ys : List BndD} (h : ∀ y ∈ ys, y.Ok) (M : List Nat) (w : World) : Elems M w (rateC ys) (rateL ys) := by
  refine ⟨by simp [rateC, rateL, show (Gv.ty Int).size = 1 from rfl], fun j hj => ?_⟩
  have hj : j < ys.length := by simpa [rateL] using hj
  have : ((rateC ys).drop (j * 1)).take 1 = [.int .i64 ys[j].rate] := by
    have hj' : j < (rateC ys).length := by simpa [rateC] using hj
    rw [Nat.mul_one, List.drop_eq_getElem_cons hj']
    simp [rateC]
  show Gv.rep M w (((rateC ys).drop (j * 1)).take 1) (rateL ys)[j]
  rw [this, rep_int]
  obtain ⟨_, _, h3, _⟩ := h ys[j] (List.getElem_mem hj)
  have e : (rateL ys)[j] = ys[j].rate := by simp [rateL]
  rw [e]
  exact ⟨rfl, by unfold I64; omega⟩

theorem k3 : appB Try.prog 38 3 1 8 = true := by kernel_rfl

theorem rate_at {M : List Nat} {w : World} {b o : Nat} {ys : List BndD} (h : Sl M w (some ⟨b, o, none⟩) (rateL ys)) {i : Nat} (hi : i < ys.length) : w.cell? ⟨b, o + i, none⟩ = some (.int .i64 (ys.getD i default).rate) := by
  have := sl_int h (i := i) (by simpa [rateL] using hi)
  rw [this, List.getD_eq_getElem?_getD, List.getElem?_eq_getElem hi]
  simp [rateL]

/-- the invariant of the loop over the inputs; what was appended is plain data at the end -/
def BInv (x : NodeC) (ys : List BndD) (c : CfgC) (R : List Own) (Φ : PW) (p25 : Option Addr) (k26 k27 : Nat) (n28 n29 n30 n31 n32 : Int) (R' : List Own) (Φ' : PW) (k : Nat) : Prop :=
  ∃ i : Nat, n28 = i ∧ i ≤ ys.length ∧ k26 = i ∧ n31 = 0 ∧ (n29, n30, n32) = (ys.take i).foldl (stepB (kKeeps x.n0) c.span (ownI x).1) (0, 0, 0) ∧ k = ys.length - i ∧ There p25 i ∧
    ((i < ys.length ∧ R' = .buf p25 i k27 (rateC (ys.take i)) 3 1 :: R ∧ Φ' = Φ) ∨ (i = ys.length ∧ R' = R ∧ Φ' = fun M w => Φ M w ∧ Sl M w p25 (rateL ys)))

theorem BInv.next {x : NodeC} {ys : List BndD} {c : CfgC} {W : World} {R : List Own} {Φ : PW} [Stable Φ] {i : Nat} (hlt : i < ys.length) (hyo : ∀ y ∈ ys, y.Ok) {p' : Option Addr} {cap' : Nat} (hp : ∃ g, p' = some ⟨g, 0, none⟩) {a b s r : Int}
    (hT : (a, b, s) = (ys.take (i + 1)).foldl (stepB (kKeeps x.n0) c.span (ownI x).1) (0, 0, 0)) (hr : r = ys[i].rate) : ∃ (R1 : List Own) (Φ1 : PW) (k1 : Nat), Stable Φ1 ∧
    (∀ w F, Ctx W w ((.buf p' (i + 1) cap' (rateC (ys.take i) ++ [.int .i64 r]) 3 1 :: R) ++ F) Φ → Ctx W w (R1 ++ F) Φ1) ∧ BInv x ys c R Φ p' (i + 1) cap' ((i : Int) + 1) a b 0 s R1 Φ1 k1 ∧ k1 < ys.length - i := by
  obtain ⟨g, hg⟩ := hp
  have e : rateC (ys.take i) ++ [.int .i64 r] = rateC (ys.take (i + 1)) := by
    rw [hr, List.take_succ_eq_append_getElem hlt]
    unfold rateC
    rw [List.map_append]
    rfl
  rw [e]
  by_cases h : i + 1 < ys.length
  · exact ⟨_, Φ, _, inferInstance, fun w F c => c, ⟨i + 1, rfl, hlt, rfl, rfl, hT, rfl, fun _ => ⟨g, 0, hg⟩, .inl ⟨h, rfl, rfl⟩⟩, by omega⟩
  · have h : i + 1 = ys.length := by omega
    refine ⟨R, _, _, ?_, fun w F c => ?_, ⟨i + 1, rfl, hlt, rfl, rfl, hT, rfl, fun _ => ⟨g, 0, hg⟩, .inr ⟨h, rfl, rfl⟩⟩, by omega⟩
    · infer_instance
    · rw [h, List.take_length] at c
      obtain ⟨c1, c2, _⟩ := Ctx.freeze (α := Int) (l := rateL ys) (S := R ++ F) c (rate_elems hyo _ _)
      exact c1.add c2

set_option maxRecDepth 100000 in
theorem bound_in {Φ : PW} [Stable Φ] (x : NodeC) (inp : List Int) (l : List BndD) (lp : Option Addr) (cap : Nat) (c : CfgC) (hc : cfgB c = true) (hn : x.n1N = inp.length) (hk : (x.n1N : Int) = kIn x.n0) (hb : boundedB x = true)
    (hin : ∀ M w, Φ M w → Sl M w x.n1P inp) (hl : ∀ M w, Φ M w → Sl M w lp l) (hr : ∀ i ∈ inp, 0 ≤ i ∧ i < l.length) (hok : ∀ y ∈ l, y.Ok) :
    GivesIn Φ Try.prog F.bounds_bound #[x.v, .slice lp l.length cap, c.v] (boundI x (insD inp l) c).v := by
  refine .there (fun M w h => (hin M w h).there) fun htin => .there (fun M w h => (hl M w h).there) fun htl => ?_
  refine gives_in (Bbounds_bound_run x.n0 x.n1P x.n1N x.n1C x.n2 x.n3 x.n4P x.n4N x.n4C x.n5 x.n6 x.n7 x.n8P x.n8N x.n8C x.n9P x.n9N x.n9C x.n10 x.n11 x.n12 x.n13P x.n13N x.n13C x.n14P x.n14N x.n14C x.n15P x.n15N x.n15C lp l.length cap c.parts c.delay c.late c.ahead c.rate c.span) fun W R => ?_
  have hw := bounded_op hb
  have hof := of_g x.n0
  rw [hw] at hof
  obtain ⟨hc1, hc2, hc3, hc4⟩ := cfg_bd hc
  obtain ⟨ho1, ho2, ho3, ho4⟩ := own_bd x
  refine fun _ _ _ w F cx => (Own_g x).in.use cx fun w cx => ⟨_, _, rfl, _, _, inferInstance, cx, fun _ w F cx => hof.in.use cx fun w cx => ⟨_, _, _, _, _, rfl, _, _, inferInstance, cx, fun _ => ⟨by simp [OneAll, oneC], ?_⟩⟩⟩
  clear cx
  generalize hys : insD inp l = ys
  have hyl : inp.length = ys.length := by rw [← hys]; simp [insD]
  have hyo : ∀ y ∈ ys, y.Ok := by
    rw [← hys]
    intro y hy
    obtain ⟨i, hi, rfl⟩ := List.mem_map.1 hy
    obtain ⟨h1, h2⟩ := hr i hi
    have h3 : i.toNat < l.length := by omega
    rw [List.getD_eq_getElem?_getD, List.getElem?_eq_getElem h3]
    exact hok _ (List.getElem_mem h3)
  have hto : ∀ n, ∀ y ∈ ys.take n, y.Ok := fun n y hy => hyo y (List.mem_of_mem_take hy)
  refine exI_mk (BInv x ys c R Φ) ⟨?_, ?_⟩
  · by_cases h0 : ys.length = 0
    · have : ys = [] := List.eq_nil_of_length_eq_zero h0
      subst this
      exact ⟨R, fun M w => Φ M w ∧ Sl M w none (rateL []), _, inferInstance, fun w F c => c.add Sl.nil, 0, rfl, Nat.zero_le _, rfl, rfl, rfl, rfl, fun h => absurd h (Nat.lt_irrefl 0), .inr ⟨h0.symm, rfl, rfl⟩⟩
    · exact ⟨.buf none 0 0 [] 3 1 :: R, Φ, _, inferInstance, fun w F c => c.buf0 3 1, 0, rfl, Nat.zero_le _, rfl, rfl, rfl, rfl, fun h => absurd h (Nat.lt_irrefl 0), .inl ⟨by omega, rfl, rfl⟩⟩
  rintro p25 k26 k27 n28 n29 n30 n31 n32 R1 Φ1 k hS ⟨i, rfl, hi, rfl, rfl, hT, rfl, hthere, hcase⟩
  have hF : FoldOk (n29, n30, n32) := by
    rw [hT]
    exact foldOk (by omega) ho1 _ _ ⟨by simp, by simp, by simp⟩ (hto _)
  obtain ⟨hF1, hF2, hF3⟩ := hF
  simp only at hF1 hF2 hF3
  rw [hn]
  refine Br.intro (fun h => ?_) (fun h => ?_)
  · have hlt : k26 < inp.length := by simpa using h
    obtain ⟨rfl, rfl⟩ : R1 = .buf p25 k26 k27 (rateC (ys.take k26)) 3 1 :: R ∧ Φ1 = Φ := by
      rcases hcase with ⟨_, h⟩ | ⟨h, _⟩
      · exact h
      · omega
    obtain ⟨b1, o1, hp1⟩ := htin (by omega)
    obtain ⟨hr1, hr2⟩ := hr inp[k26] (List.getElem_mem hlt)
    obtain ⟨b2, o2, hp2⟩ := htl (by omega)
    subst hp2
    have hj : inp[k26].toNat < l.length := by omega
    have hy : ys[k26]'(by omega) = l[inp[k26].toNat] := by
      subst hys
      simp only [insD, List.getElem_map]
      rw [List.getD_eq_getElem?_getD, List.getElem?_eq_getElem hj]
      rfl
    have hread : ∀ W w S, Ctx W w S Φ1 → RowAt w b2 (o2 + inp[k26].toNat * 4) l[inp[k26].toNat].cells := fun W w S c => sl_bnd (hl _ _ c.phi) hj
    obtain ⟨g1, g2, g3, g4⟩ := hok _ (List.getElem_mem hj)
    have hT' : stepB (kKeeps x.n0) c.span (ownI x).1 (n29, n30, n32) l[inp[k26].toNat] = (ys.take (k26 + 1)).foldl (stepB (kKeeps x.n0) c.span (ownI x).1) (0, 0, 0) := by
      rw [hT, List.take_succ_eq_append_getElem (by omega), List.foldl_append, ← hy]
      rfl
    generalize l[inp[k26].toNat] = y at *
    refine ⟨by omega, ptrK_intro b1 o1 hp1 fun w F cx => ⟨inp[k26], sl_int (hp1 ▸ hin _ _ cx.phi) hlt, by omega, ptrK_intro b2 o2 rfl ⟨by omega, ptrK_intro b2 o2 rfl fun w F cx => ⟨y.back, (hread _ _ _ cx) 0 (by simp), y.fore,
      fun w F cx => ⟨_, (hread _ _ _ cx) 1 (by simp), rfl⟩, by simp [OneAll, oneC], fun _ _ h => h, by simp [OneAll, oneC], fun _ _ h => h, by omega, ptrK_intro b2 o2 rfl fun w F cx => ⟨y.rate, (hread _ _ _ cx) 2 (by simp), fun k61 w F cx => ?_⟩⟩⟩⟩⟩
    have hlen : k26 < 100000000 := by have := kIn_bd x.n0; omega
    obtain ⟨p', cap', w', hrun, hp', cx⟩ := Ctx.app1 cx k3 (by omega) rfl rfl hlen (by omega)
    refine ⟨p', _, cap', w', hrun, .buf p' (k26 + 1) cap' (rateC (ys.take k26) ++ [Value.int .i64 y.rate]) 3 1 :: R, Φ1, inferInstance, (by exact cx), Br.intro (fun hkeep => ?_) (fun hkeep => ?_)⟩
    · refine ⟨by omega, ptrK_intro b2 o2 rfl ⟨by omega, ptrK_intro b2 o2 rfl ⟨y.rate, fun w F cx => ⟨_, (hread _ _ _ cx) 2 (by simp), rfl⟩, y.fore, fun w F cx => ⟨_, (hread _ _ _ cx) 1 (by simp), rfl⟩, by unfold I64; omega, by unfold I64; omega,
        fun w F cx => (times_g _ _ g3.1 (by omega)).in.use cx fun w cx => ⟨_, rfl, _, _, inferInstance, cx, fun _ _ h => h, fun w F cx => (plus_g _ _ ?_).in.use cx fun w cx => ⟨_, rfl, _, _, inferInstance, cx, fun _ _ h => h, by simp [OneAll, oneC], by unfold I64; omega, ?_⟩⟩⟩⟩⟩
      · have := timesI_bd g3.1 (show 0 ≤ c.span + y.fore + (ownI x).1 by omega)
        unfold I64; omega
      · refine BInv.next (by omega) hyo hp' ?_ (by rw [hy])
        rw [← hT']; unfold stepB; rw [hkeep]; rfl
    · refine ⟨by unfold I64; omega, ?_⟩
      refine BInv.next (by omega) hyo hp' ?_ (by rw [hy])
      rw [← hT']; unfold stepB; rw [hkeep]; rfl
  · have hge : k26 = ys.length := by have : ¬ k26 < inp.length := by simpa using h
                                     omega
    obtain ⟨rfl, rfl⟩ : R1 = R ∧ Φ1 = fun M w => Φ M w ∧ Sl M w p25 (rateL ys) := by
      rcases hcase with ⟨h, _⟩ | ⟨_, h⟩
      · omega
      · exact h
    subst hge
    rw [List.take_length] at hT
    have e1 : n29 = (foldI x ys c).1 := congrArg (·.1) hT
    have e2 : n30 = (foldI x ys c).2.1 := congrArg (·.2.1) hT
    have e3 : n32 = (foldI x ys c).2.2 := congrArg (·.2.2) hT
    have hin3 : (ys.length : Int) = kIn x.n0 := by omega
    have hgo : ∀ r, r = rateI x ys c → ∀ w F, Ctx W w (R1 ++ F) (fun M w => Φ M w ∧ Sl M w p25 (rateL ys)) → (Value.agg #[.int .i64 (n29 + (ownI x).1), .int .i64 (n30 + (ownI x).2), .int .i64 r, .int .i64 n32] = (boundI x ys c).v ∧ Ctx W w R1 Φ) :=
      fun r hr w F cx => ⟨by rw [e1, e2, e3, hr]; rfl, cx.left.fst⟩
    have ok0 : 0 < ys.length → 0 ≤ (ys.getD 0 default).rate ∧ (ys.getD 0 default).rate ≤ 1099511627776 := fun h => by
      rw [List.getD_eq_getElem?_getD, List.getElem?_eq_getElem h]; exact (hyo _ (List.getElem_mem h)).r
    have ok1 : 1 < ys.length → 0 ≤ (ys.getD 1 default).rate ∧ (ys.getD 1 default).rate ≤ 1099511627776 := fun h => by
      rw [List.getD_eq_getElem?_getD, List.getElem?_eq_getElem h]; exact (hyo _ (List.getElem_mem h)).r
    clear e1 e2 e3 hT hcase
    have hkin : kIn x.n0 = if x.n0 = 0 then 0 else if x.n0 = 3 ∨ x.n0 = 6 ∨ x.n0 = 7 then 2 else 1 := rfl
    have h26 : 0 < ys.length → ∃ b o, p25 = some ⟨b, o, none⟩ := hthere
    have hmul : 0 ≤ c.parts * c.rate ∧ c.parts * c.rate ≤ 8 * 20 := ⟨Int.mul_nonneg (by omega) (by omega), Int.mul_le_mul hc1.2 hc3.2 (by omega) (by omega)⟩
    have n0le : 0 ≤ x.n0 ∧ x.n0 ≤ 8 := by simpa [win] using hw
    have six : x.n0 = 6 → ∀ (b o : Nat), p25 = some ⟨b, o, none⟩ → True := fun _ _ _ _ => trivial
    refine ⟨by unfold I64; omega, by simp [OneAll, oneC], by unfold I64; omega, by simp [OneAll, oneC], Br.intro (fun h0 => ?_) (fun h0 => Br.intro (fun h3 => ?_) (fun h3 => Br.intro (fun h4 => Br.intro (fun h4' => ?_) (fun h4' => absurd h4 (by simp [h4']))) (fun h4 => Br.intro (fun h5 => ?_) (fun h5 => Br.intro (fun h6 => ?_) (fun h6 => ?_)))))⟩
    · have h0 : x.n0 = 0 := by simpa using h0
      exact ⟨by unfold I64; omega, by simp [OneAll, oneC], by simp [OneAll, oneC], hgo _ (by unfold rateI; rw [if_pos h0])⟩
    · have h0 : ¬ x.n0 = 0 := by simpa using h0
      have h3 : x.n0 = 3 := by simpa using h3
      have hl2 : ys.length = 2 := by rw [hkin, if_neg h0, if_pos (.inl h3)] at hin3; omega
      obtain ⟨b, o, rfl⟩ := h26 (by omega)
      have k0 := ok0 (by omega)
      have k1 := ok1 (by omega)
      refine ⟨by omega, ptrK_intro b o rfl ⟨by omega, ptrK_intro b o rfl fun w F cx => ⟨_, rate_at cx.phi.2 (i := 0) (by omega), fun w F cx => ⟨_, rate_at cx.phi.2 (i := 1) (by omega), fun w F cx => (plus_g _ _ ?_).in.use cx fun w cx => ⟨_, rfl, _, _, inferInstance, cx, fun _ _ h => h, by simp [OneAll, oneC], fun _ _ h => h,
        by simp [OneAll, oneC], hgo _ ?_⟩⟩⟩⟩⟩
      · unfold I64; omega
      · unfold rateI; rw [if_neg h0, if_pos h3]
    · have h4 : x.n0 = 4 := by simpa using h4
      have hl2 : ys.length = 1 := by rw [hkin, if_neg (by omega), if_neg (by omega)] at hin3; omega
      obtain ⟨b, o, rfl⟩ := h26 (by omega)
      have k0 := ok0 (by omega)
      have k6 := bounded_n6 hb (.inl h4)
      refine ⟨by omega, ptrK_intro b o rfl fun w F cx => ⟨_, rate_at cx.phi.2 (i := 0) (by omega), fun w F cx => (times_g _ _ (by omega) (by omega)).in.use cx fun w cx => ⟨_, rfl, _, _, inferInstance, cx, fun _ _ h => h, by simp [OneAll, oneC], fun _ _ h => h,
        by simp [OneAll, oneC], hgo _ ?_⟩⟩⟩
      unfold rateI; rw [if_neg (by omega), if_neg (by omega), if_pos (.inl h4)]
    · have h5 : x.n0 = 5 := by simpa using h5
      have hl2 : ys.length = 1 := by rw [hkin, if_neg (by omega), if_neg (by omega)] at hin3; omega
      obtain ⟨b, o, rfl⟩ := h26 (by omega)
      have k0 := ok0 (by omega)
      have k6 := bounded_n6 hb (.inr h5)
      refine ⟨by omega, ptrK_intro b o rfl fun w F cx => ⟨_, rate_at cx.phi.2 (i := 0) (by omega), fun w F cx => (times_g _ _ (by omega) (by omega)).in.use cx fun w cx => ⟨_, rfl, _, _, inferInstance, cx, fun _ _ h => h, by simp [OneAll, oneC], fun _ _ h => h,
        by simp [OneAll, oneC], hgo _ ?_⟩⟩⟩
      unfold rateI; rw [if_neg (by omega), if_neg (by omega), if_pos (.inr h5)]
    · have h6 : x.n0 = 6 := by simpa using h6
      have hl2 : ys.length = 2 := by rw [hkin, if_neg (by omega), if_pos (by omega)] at hin3; omega
      obtain ⟨b, o, rfl⟩ := h26 (by omega)
      have k0 := ok0 (by omega)
      have k1 := ok1 (by omega)
      have k6 := bounded_n10 hb h6
      have kt := timesI_bd k0.1 k1.1
      refine ⟨by omega, ptrK_intro b o rfl ⟨by omega, ptrK_intro b o rfl ⟨_, fun w F cx => ⟨_, rate_at cx.phi.2 (i := 0) (by omega), rfl⟩, _, fun w F cx => ⟨_, rate_at cx.phi.2 (i := 1) (by omega), rfl⟩, by unfold I64; omega, by unfold I64; omega,
        fun w F cx => (times_g _ _ k0.1 k1.1).in.use cx fun w cx => ⟨_, rfl, _, _, inferInstance, cx, fun _ _ h => h, fun w F cx => (times_g _ _ kt.1 (by omega)).in.use cx fun w cx => ⟨_, rfl, _, _, inferInstance, cx, fun _ _ h => h, by simp [OneAll, oneC],
        by simp [OneAll, oneC], hgo _ ?_⟩⟩⟩⟩⟩
      unfold rateI; rw [if_neg (by omega), if_neg (by omega), if_neg (by omega), if_pos h6]
    · have h0 : ¬ x.n0 = 0 := by simpa using h0
      have h3 : ¬ x.n0 = 3 := by simpa using h3
      have h4 : ¬ x.n0 = 4 := by simpa using h4
      have h5 : ¬ x.n0 = 5 := by simpa using h5
      have h6 : ¬ x.n0 = 6 := by simpa using h6
      have hl2 : 0 < ys.length := by rw [hkin, if_neg h0] at hin3; split at hin3 <;> omega
      obtain ⟨b, o, rfl⟩ := h26 (by omega)
      refine ⟨by omega, ptrK_intro b o rfl fun w F cx => ⟨_, rate_at cx.phi.2 (i := 0) (by omega), by simp [OneAll, oneC], by simp [OneAll, oneC], hgo _ ?_⟩⟩
      unfold rateI; rw [if_neg h0, if_neg h3, if_neg (by omega), if_neg h6]

end Go.Proofs.Ytflanndhfdfemaa
