/-
  The reference's sorting: in plain Lean, and walked.
-/
import Derived.Test.YtnapfhbibikbiaaDoorDt86
import Derived.Test.YtnapfhbibikbiaaDoorDt87
import Derived.Test.YtnapfhbibikbiaaDoorDt85
import Derived.Shelf.Strings.Builder1
import Derived.Shelf.Small.Strs
import Derived.Shelf.Strings.BuilderF
import Derived.Shelf.Strings.BuilderK
import Derived.Shelf.Strconv.Itoa0
import Derived.Shelf.Strconv.Itoa1
import Derived.Shelf.LaysM
import Derived.Shelf.Strconv.Itoa2
import Derived.Shelf.Strconv.Itoa3
import Derived.Shelf.Slices.CompactI
import Derived.Shelf.Slices.SearchI
import Derived.Shelf.Slices.Cells
import Derived.Test.YtnapfhbibikbiaaDoorRows
import Derived.Lib.ItoaNum
import Derived.Lib.SliceRun
import Derived.Laws.IdiomStrings

section
set_option linter.unusedVariables false
set_option linter.unusedSimpArgs false
namespace Go.Proofs.YtnapfhbibikbiaaDoor
open Go.Vc


/-! ### in plain Lean -/
def leD (x y : DeltaD) : Bool := decide (cmpD x y ≤ 0)
def srt : Nat → List DeltaD → List DeltaD
  | 0, l => l
  | f + 1, l => if l.length < 2 then l else List.merge (srt f (l.take (l.length / 2))) (srt f (l.drop (l.length / 2))) leD

theorem srt_perm : ∀ (f : Nat) (l : List DeltaD), (srt f l).Perm l
  | 0, l => .refl _
  | f + 1, l => by
    unfold srt
    split
    · exact .refl _
    · refine (List.merge_perm_append leD).trans (((srt_perm f _).append (srt_perm f _)).trans ?_)
      rw [List.take_append_drop]
theorem leD_trans (x y z : DeltaD) (h1 : leD x y = true) (h2 : leD y z = true) : leD x z = true := by
  unfold leD at *
  have h1 := of_decide_eq_true h1
  have h2 := of_decide_eq_true h2
  rw [cmpD_key] at h1 h2
  refine decide_eq_true ?_
  rw [cmpD_key]
  rcases Int.lt_or_eq_of_le h1 with h3 | h3
  · rcases Int.lt_or_eq_of_le h2 with h4 | h4
    · exact Int.le_of_lt (cmpK_cmp.trans _ _ _ h3 h4)
    · rw [← (cmpK_cmp.eq _ _).1 h4]; exact h1
  · rw [(cmpK_cmp.eq _ _).1 h3]; exact h2
theorem leD_total (x y : DeltaD) : (leD x y || leD y x) = true := by
  unfold leD
  rw [Bool.or_eq_true, decide_eq_true_eq, decide_eq_true_eq, cmpD_key, cmpD_key]
  rcases cmpK_cmp.tri x.key y.key with h | h | h
  · left; omega
  · left; rw [h, cmpK_cmp.refl]; omega
  · right; omega
theorem srt_asc : ∀ (f : Nat) (l : List DeltaD), l.length ≤ f → (srt f l).Pairwise (fun a b => leD a b = true)
  | 0, l, h => by
    rw [List.length_eq_zero_iff.1 (Nat.le_zero.1 h)]
    exact List.Pairwise.nil
  | f + 1, l, h => by
    unfold srt
    split
    · rename_i h2
      match l, h2 with
      | [], _ => exact List.Pairwise.nil
      | [x], _ => exact List.pairwise_singleton _ _
    · exact List.pairwise_merge leD_trans leD_total _ _ (srt_asc f _ (by rw [List.length_take]; omega)) (srt_asc f _ (by rw [List.length_drop]; omega))

theorem merge_l {A B : List DeltaD} {i k : Nat} (hi : i < A.length) (hk : k < B.length) (h : cmpD A[i] B[k] ≤ 0) : List.merge (A.drop i) (B.drop k) leD = A[i] :: List.merge (A.drop (i + 1)) (B.drop k) leD := by
  rw [List.drop_eq_getElem_cons hi]
  conv => lhs; rw [List.drop_eq_getElem_cons hk, List.cons_merge_cons_pos _ _ _ (show leD A[i] B[k] = true from decide_eq_true h), ← List.drop_eq_getElem_cons hk]
theorem merge_r {A B : List DeltaD} {i k : Nat} (hi : i < A.length) (hk : k < B.length) (h : ¬ cmpD A[i] B[k] ≤ 0) : List.merge (A.drop i) (B.drop k) leD = B[k] :: List.merge (A.drop i) (B.drop (k + 1)) leD := by
  have h2 : ¬ leD A[i] B[k] = true := by unfold leD; simpa using h
  conv => lhs; rw [List.drop_eq_getElem_cons hi, List.drop_eq_getElem_cons hk, List.cons_merge_cons_neg _ _ _ h2, ← List.drop_eq_getElem_cons hi]
theorem merge_l0 {A B : List DeltaD} {i k : Nat} (hi : i < A.length) (hk : B.length ≤ k) : List.merge (A.drop i) (B.drop k) leD = A[i] :: List.merge (A.drop (i + 1)) (B.drop k) leD := by
  rw [List.drop_eq_nil_of_le hk, List.merge_right, List.merge_right, List.drop_eq_getElem_cons hi]
theorem merge_r0 {A B : List DeltaD} {i k : Nat} (hi : A.length ≤ i) (hk : k < B.length) : List.merge (A.drop i) (B.drop k) leD = B[k] :: List.merge (A.drop i) (B.drop (k + 1)) leD := by
  rw [List.drop_eq_nil_of_le hi, List.nil_merge, List.nil_merge, List.drop_eq_getElem_cons hk]

/-! ### walked -/
theorem tdiv2 (n : Nat) : (n : Int).tdiv 2 = ((n / 2 : Nat) : Int) := rfl

/-- the cells of a pinned list -/
theorem Ctx.cells {W w : World} {S : List Own} {Φ : PW} {g o : Nat} {cs : List (List Value)} {l : List DeltaD} (c : Ctx W w S Φ) (h : ∀ M w, Φ M w → Pin g o cs l M w) :
    ∀ j, (hj : j < l.length) → ∃ p c, cs.getD j [] = l[j].cells p c ∧ l[j].row.length ≤ c ∧ c ≤ maxLen ∧ I64 l[j].time ∧ I64 l[j].n := fun j hj => by
  obtain ⟨p, q, h1, h2, h3, h4, h5, _⟩ := pin_delta (h _ _ c.phi) hj
  exact ⟨p, q, h1, h2, h3, h4, h5⟩

/-- append one delta that was read -/
theorem push1 {W w : World} {R G : List Own} {PS : PW} [Stable PS] {op : Option Addr} {oc : Nat} {ds : List Value} {o : List DeltaD} {x : DeltaD} {q : Option Addr} {qc kb : Nat} (hx : ∀ M w, PS M w → Gv.rep M w (x.cells q qc) x) (ho : o.length < 10000000)
    (cx : Ctx W w (.blk kb (x.cells q qc) 39 :: .buf op o.length oc ds 39 3 :: R ++ G) (fun M w => PS M w ∧ Elems M w ds o)) :
    ∃ p c w', Sem.run Tryd.prog (builtin Builtin.append #[22, 22] 22 #[false, false] #[.slice op o.length oc, .slice (some ⟨kb, 0, none⟩) 1 1]) w = .ok (.value (.slice p (o ++ [x]).length c)) w' ∧ Ctx W w' (.buf p (o ++ [x]).length c (ds ++ x.cells q qc) 39 3 :: R ++ G) (fun M w => PS M w ∧ Elems M w (ds ++ x.cells q qc) (o ++ [x])) := by
  obtain ⟨p', cap', w', hrun, _, cx'⟩ := Ctx.app1 (P := Tryd.prog) (ts := 22) (ty := 22) (kb := #[false, false]) (size := 3) (bytes := 40) cx (by kernel_rfl) (by omega) rfl rfl (by omega) (by omega)
  have e : o.length + 1 = (o ++ [x]).length := by simp
  rw [e] at hrun cx'
  exact ⟨p', cap', w', hrun, cx'.weak fun M w h => ⟨h.1, h.2.snoc (hx M w h.1)⟩⟩

set_option maxHeartbeats 4000000 in
theorem sorted_sl : ∀ (f : Nat) {Φ : PW} [Stable Φ] (p : Option Addr) (cap : Nat) (l : List DeltaD), (∀ M w, Φ M w → Sl M w p l) → l.length ≤ f → l.length ≤ cap → cap ≤ maxLen → l.length ≤ 1000000 → Rows1 l → GivesSl Φ Tryd.prog F.errataref28_sorted #[.slice p l.length cap] (srt f l) id := by
  intro f
  induction f with
  | zero =>
    intro Φ _ p cap l hΦ hf hc1 hc2 hl hr
    refine gives_sl (Berrataref28_sorted_run p l.length cap) fun W R => Br.intro (fun _ => fun w G cx => ⟨p, cap, rfl, hc1, hc2, cx.left.weak fun M w h => ⟨h, hΦ M w h⟩⟩) (fun h => ?_)
    have := of_decide_eq_false h
    omega
  | succ f ih =>
    intro Φ hΦs p cap l hΦ hf hc1 hc2 hl hr
    refine .there (fun M w h => (hΦ M w h).there) fun hth => ?_
    by_cases h2 : l.length < 2
    · have e : srt (f + 1) l = l := by unfold srt; rw [if_pos h2]
      rw [e]
      exact gives_sl (Berrataref28_sorted_run p l.length cap) fun W R => Br.intro (fun _ => fun w G cx => ⟨p, cap, rfl, hc1, hc2, cx.left.weak fun M w h => ⟨h, hΦ M w h⟩⟩) (fun h => by have := of_decide_eq_false h; omega)
    · have e : srt (f + 1) l = List.merge (srt f (l.take (l.length / 2))) (srt f (l.drop (l.length / 2))) leD := by conv => lhs; unfold srt; rw [if_neg h2]
      rw [e]
      refine gives_sl (Berrataref28_sorted_run p l.length cap) fun W R => Br.intro (fun h => by have := of_decide_eq_true h; omega) (fun _ => ?_)
      have t2 := tdiv2 l.length
      have lA : (l.take (l.length / 2)).length = ((l.length : Int).tdiv 2).toNat := by rw [List.length_take, t2, Int.toNat_natCast]; omega
      have lB : (l.drop (l.length / 2)).length = l.length - ((l.length : Int).tdiv 2).toNat := by rw [List.length_drop, t2, Int.toNat_natCast]
      have hA : ∀ M w, Φ M w → Sl M w (subPtr p 3 0 cap) (l.take (l.length / 2)) := fun M w h => by
        have h1 := addr_sub (hΦ M w h) 0 hc1
        rw [List.drop_zero] at h1
        exact fun j hj => by
          have hj2 : j < l.length := by rw [List.length_take] at hj; omega
          obtain ⟨b, o, cs, h1, h2, h3, h4⟩ := h1 j hj2
          exact ⟨b, o, cs, h1, h2, h3, by rw [List.getElem_take]; exact h4⟩
      have hB : ∀ M w, Φ M w → Sl M w (subPtr p 3 ((l.length : Int).tdiv 2).toNat cap) (l.drop (l.length / 2)) := fun M w h => by
        have h1 := addr_sub (hΦ M w h) (l.length / 2) hc1
        rw [t2, Int.toNat_natCast]
        exact h1
      have ihA := ih (Φ := Φ) (subPtr p 3 0 cap) cap (l.take (l.length / 2)) hA (by rw [List.length_take]; omega) (by rw [List.length_take]; omega) hc2 (by rw [List.length_take]; omega) (fun x hx => hr x (List.mem_of_mem_take hx))
      obtain ⟨A, eA⟩ : ∃ A, srt f (l.take (l.length / 2)) = A := ⟨_, rfl⟩
      obtain ⟨B, eB⟩ : ∃ B, srt f (l.drop (l.length / 2)) = B := ⟨_, rfl⟩
      have pA : A.Perm (l.take (l.length / 2)) := by rw [← eA]; exact srt_perm f _
      have pB : B.Perm (l.drop (l.length / 2)) := by rw [← eB]; exact srt_perm f _
      have nA := pA.length_eq
      have nB := pB.length_eq
      rw [List.length_take] at nA
      rw [List.length_drop] at nB
      rw [lA] at ihA
      refine ⟨by omega, by rw [t2]; unfold I64; omega, by rw [t2]; omega, fun w G cx => ihA.to cx fun p1 c1 g1 g2 st1 => ?_⟩
      clear cx
      refine ⟨by omega, by rw [t2]; unfold I64; omega, by rw [t2]; omega, ?_⟩
      rw [eA] at g1 st1 ⊢
      have ihB := ih (Φ := fun M w => Φ M w ∧ Sl M w p1 A) (subPtr p 3 ((l.length : Int).tdiv 2).toNat cap) (cap - ((l.length : Int).tdiv 2).toNat) (l.drop (l.length / 2)) (fun M w h => hB M w h.1) (by rw [List.length_drop]; omega) (by rw [List.length_drop, t2, Int.toNat_natCast]; omega) (by omega) (by rw [List.length_drop]; omega) (fun x hx => hr x (List.mem_of_mem_drop hx))
      rw [lB, eB] at ihB
      refine fun w G cx => ihB.use cx fun p2 c2 w g3 g4 cx => ?_
      rw [eB]
      obtain ⟨ga, oa, ca, hpa, cx⟩ := cx.pin cx.phi.1.2
      obtain ⟨gb, ob, cb, hpb, cx⟩ := cx.pin cx.phi.1.2
      obtain ⟨PS, hPS⟩ : ∃ PS : PW, PS = (fun M w => (((Φ M w ∧ Sl M w p1 A) ∧ Sl M w p2 B) ∧ Pin ga oa ca A M w) ∧ Pin gb ob cb B M w) := ⟨_, rfl⟩
      have stP : Stable PS := by rw [hPS]; infer_instance
      have iA : ∀ M w, PS M w → Pin ga oa ca A M w := fun M w h => by rw [hPS] at h; exact h.1.2
      have iB : ∀ M w, PS M w → Pin gb ob cb B M w := fun M w h => by rw [hPS] at h; exact h.2
      have i0 : ∀ M w, PS M w → Φ M w := fun M w h => by rw [hPS] at h; exact h.1.1.1.1
      rw [← hPS] at cx
      clear hPS
      have hcA := Ctx.cells cx iA
      have hcB := Ctx.cells cx iB
      have hrA : ∀ j, (hj : j < A.length) → A[j].row.length ≤ 1000000 := fun j hj => hr _ (List.mem_of_mem_take (pA.mem_iff.1 (List.getElem_mem hj)))
      refine ⟨p2, _, c2, rfl, R, PS, stP, cx, ?_⟩
      clear cx ihA ihB
      refine exI_mk (fun op on oc iI kI R' Φ' m => ∃ (i k : Nat) (o : List DeltaD) (ds : List Value), iI = i ∧ kI = k ∧ i ≤ A.length ∧ k ≤ B.length ∧ on = o.length ∧ o.length = i + k ∧ o ++ List.merge (A.drop i) (B.drop k) leD = List.merge A B leD ∧ R' = .buf op on oc ds 39 3 :: R ∧ Φ' = (fun M w => PS M w ∧ Elems M w ds o) ∧ m = (A.length - i) + (B.length - k))
        ⟨⟨.buf none 0 0 [] 39 3 :: R, fun M w => PS M w ∧ Elems M w [] ([] : List DeltaD), _, inferInstance, fun w G cx => (cx.nobuf 39 3).weak fun M w h => ⟨h, Elems.nil⟩, 0, 0, [], [], rfl, rfl, Nat.zero_le _, Nat.zero_le _, rfl, rfl, rfl, rfl, rfl, rfl⟩, ?_⟩
      rintro op on oc iI kI R1 Φ1 m _ ⟨i, k, o, ds, rfl, rfl, hi, hk, rfl, hol, hme, rfl, rfl, rfl⟩
      have st2 : Stable (fun M w => PS M w ∧ Elems M w ds o) := inferInstance
      have rowA : ∀ {w : World} {S : List Own} {Ψ : PW}, (hj : i < A.length) → ∀ {q qc}, ca.getD i [] = A[i].cells q qc → Ctx W w S (fun M w => PS M w ∧ Ψ M w) → RowAt w ga (oa + (i : Int).toNat * 3) [.int .i64 A[i].time, .slice q A[i].row.length qc, .int .i64 A[i].n] := fun hj q qc he cx => by rw [Int.toNat_natCast]; exact pin_rowAt (iA _ _ cx.phi.1) hj he
      have rowB : ∀ {w : World} {S : List Own} {Ψ : PW}, (hj : k < B.length) → ∀ {q qc}, cb.getD k [] = B[k].cells q qc → Ctx W w S (fun M w => PS M w ∧ Ψ M w) → RowAt w gb (ob + (k : Int).toNat * 3) [.int .i64 B[k].time, .slice q B[k].row.length qc, .int .i64 B[k].n] := fun hj q qc he cx => by rw [Int.toNat_natCast]; exact pin_rowAt (iB _ _ cx.phi.1) hj he
      refine fun w G cx => ?_
      clear cx
      refine Br.intro (fun hor => fun w G cx => ?_) (fun hnor => fun w G cx => ?_)
      · clear cx
        rw [Bool.or_eq_true] at hor
        refine Br.intro (fun hand => ?_) (fun hnand => ?_)
        · rw [Bool.and_eq_true] at hand
          have hiA : i < A.length := by have := of_decide_eq_true hand.1; omega
          have hkB : k < B.length := by have := of_decide_eq_true hand.2; omega
          obtain ⟨qa, qca, ea, ha1, ha2, ha3, ha4⟩ := hcA i hiA
          obtain ⟨qb, qcb, eb, hb1, hb2, hb3, hb4⟩ := hcB k hkB
          have hsa : ∀ M w, (PS M w ∧ Elems M w ds o) → Sl M w qa A[i].row := fun M w h => pin_row (iA M w h.1) hiA ea
          have hsb : ∀ M w, (PS M w ∧ Elems M w ds o) → Sl M w qb B[k].row := fun M w h => pin_row (iB M w h.1) hkB eb
          refine ⟨_, _, st2, fun w G cx => cx, by omega, ptrK_intro ga oa (hpa (by omega)) ⟨by omega, ptrK_intro gb ob (hpb (by omega)) ⟨_, _, _, _, _, fun w G cx => ⟨_, _, _, _, _, rowA hiA ea cx, rfl⟩, _, _, _, _, _, fun w G cx => ⟨_, _, _, _, _, rowB hkB eb cx, rfl⟩, fun w G cx => (rCompareD_in A[i] B[k] qa qb qca qcb hsa hsb (by have := hrA i hiA; omega)).toI cx ?_⟩⟩⟩
          refine Br.intro (fun hle => ⟨by omega, ptrK_intro ga oa (hpa (by omega)) fun w G cx => ⟨_, _, _, _, _, rowA hiA ea cx, fun kb w G cx => ?_⟩⟩) (fun hgt => ⟨by omega, ptrK_intro gb ob (hpb (by omega)) fun w G cx => ⟨_, _, _, _, _, rowB hkB eb cx, fun kb w G cx => ?_⟩⟩)
          · obtain ⟨p', c', w', hrun, cx'⟩ := push1 (x := A[i]) (fun M w h => rep_delta ha1 ha2 ha3 ha4 (pin_row (iA M w h) hiA ea)) (by omega) cx
            exact ⟨p', _, c', w', hrun, _, _, inferInstance, cx', by unfold I64; omega, _, _, (A.length - (i + 1)) + (B.length - k), inferInstance, fun w G cx => cx, ⟨i + 1, k, o ++ [A[i]], _, by omega, rfl, hiA, hk, rfl, by rw [List.length_append, List.length_singleton]; omega, by rw [← hme, merge_l hiA hkB (of_decide_eq_true hle)]; simp, rfl, rfl, rfl⟩, by omega⟩
          · obtain ⟨p', c', w', hrun, cx'⟩ := push1 (x := B[k]) (fun M w h => rep_delta hb1 hb2 hb3 hb4 (pin_row (iB M w h) hkB eb)) (by omega) cx
            exact ⟨p', _, c', w', hrun, _, _, inferInstance, cx', by unfold I64; omega, _, _, (A.length - i) + (B.length - (k + 1)), inferInstance, fun w G cx => cx, ⟨i, k + 1, o ++ [B[k]], _, rfl, by omega, hi, hkB, rfl, by rw [List.length_append, List.length_singleton]; omega, by rw [← hme, merge_r hiA hkB (of_decide_eq_false hgt)]; simp, rfl, rfl, rfl⟩, by omega⟩
        · rw [Bool.and_eq_false_iff] at hnand
          refine Br.intro (fun hge => ?_) (fun hlt => ?_)
          · have hkB : B.length ≤ k := by have := of_decide_eq_true hge; omega
            have hiA : i < A.length := by rcases hor with h | h <;> have := of_decide_eq_true h <;> omega
            obtain ⟨qa, qca, ea, ha1, ha2, ha3, ha4⟩ := hcA i hiA
            refine ⟨by omega, ptrK_intro ga oa (hpa (by omega)) fun w G cx => ⟨_, _, _, _, _, rowA hiA ea cx, fun kb w G cx => ?_⟩⟩
            obtain ⟨p', c', w', hrun, cx'⟩ := push1 (x := A[i]) (fun M w h => rep_delta ha1 ha2 ha3 ha4 (pin_row (iA M w h) hiA ea)) (by omega) cx
            exact ⟨p', _, c', w', hrun, _, _, inferInstance, cx', by unfold I64; omega, _, _, (A.length - (i + 1)) + (B.length - k), inferInstance, fun w G cx => cx, ⟨i + 1, k, o ++ [A[i]], _, by omega, rfl, hiA, hk, rfl, by rw [List.length_append, List.length_singleton]; omega, by rw [← hme, merge_l0 hiA hkB]; simp, rfl, rfl, rfl⟩, by omega⟩
          · have hkB : k < B.length := by have := of_decide_eq_false hlt; omega
            have hiA : A.length ≤ i := by rcases hnand with h | h <;> have := of_decide_eq_false h <;> omega
            obtain ⟨qb, qcb, eb, hb1, hb2, hb3, hb4⟩ := hcB k hkB
            refine ⟨by omega, ptrK_intro gb ob (hpb (by omega)) fun w G cx => ⟨_, _, _, _, _, rowB hkB eb cx, fun kb w G cx => ?_⟩⟩
            obtain ⟨p', c', w', hrun, cx'⟩ := push1 (x := B[k]) (fun M w h => rep_delta hb1 hb2 hb3 hb4 (pin_row (iB M w h) hkB eb)) (by omega) cx
            exact ⟨p', _, c', w', hrun, _, _, inferInstance, cx', by unfold I64; omega, _, _, (A.length - i) + (B.length - (k + 1)), inferInstance, fun w G cx => cx, ⟨i, k + 1, o ++ [B[k]], _, rfl, by omega, hi, hkB, rfl, by rw [List.length_append, List.length_singleton]; omega, by rw [← hme, merge_r0 hiA hkB]; simp, rfl, rfl, rfl⟩, by omega⟩
      · rw [Bool.or_eq_false_iff] at hnor
        have hiA : i = A.length := by have := of_decide_eq_false hnor.1; omega
        have hkB : k = B.length := by have := of_decide_eq_false hnor.2; omega
        subst hiA; subst hkB
        rw [List.drop_length, List.drop_length, List.nil_merge, List.append_nil] at hme
        have cx := cx.left
        obtain ⟨cx3, hs, _, g5, g6⟩ := Ctx.freeze (α := DeltaD) cx.fst cx.phi.2
        rw [← hme]
        exact ⟨op, oc, rfl, g5, g6, (cx3.add hs).weak fun M w h => ⟨i0 M w h.1, h.2⟩⟩

end Go.Proofs.YtnapfhbibikbiaaDoor
end

/-
  The reference's consolidation, and what is built upon it, walked.
-/
section
set_option linter.unusedVariables false
set_option linter.unusedSimpArgs false
namespace Go.Proofs.YtnapfhbibikbiaaDoor
open Go.Vc


theorem Clone28_sl {Φ : PW} [Stable Φ] (x : DeltaD) (p : Option Addr) (cap : Nat) (n : Int) (hΦ : ∀ M w, Φ M w → Sl M w p x.row) (hlen : x.row.length ≤ 1000000) : GivesSl Φ Tryd.prog F.errataref28_clone #[x.v p cap, .int .i64 n] x.row (fun v => .agg #[.int .i64 x.time, v, .int .i64 n]) := by
  refine gives_sl (Berrataref28_clone_run x.time p x.row.length cap x.n n) fun W R => ?_
  intro _ _
  refine ⟨R, Φ, inferInstance, fun w G cx => cx, fun k => ⟨fun w G cx => cx.drop1, fun w G cx => ?_⟩⟩
  obtain ⟨p', cap', w', cs, hrun, c'⟩ := Ctx.cloned (P := Tryd.prog) (ts := 37) (ty := 37) (kb := #[false, false]) (bytes := 32) (c2 := cap) cx (by kernel_rfl) val_one hΦ (by omega) (by omega)
  refine ⟨_, _, _, _, hrun, .buf p' x.row.length cap' cs 65 3 :: R, _, inferInstance, c', fun w G cx => cx.drop1.fst, fun w G cx => ?_⟩
  obtain ⟨_, g1, g2⟩ := cx.bufLen 0 rfl
  obtain ⟨cx3, hs, _⟩ := Ctx.freeze (α := ValD) cx.fst cx.phi.2
  exact ⟨p', cap', rfl, g1, g2, (cx3.add hs).left⟩

/-- append one delta whose row is new -/
theorem push2 {W w : World} {R G : List Own} {PS Ψ : PW} [Stable PS] [Stable Ψ] {op : Option Addr} {oc : Nat} {ds : List Value} {o : List DeltaD} {x : DeltaD} {q : Option Addr} {qc kb : Nat} (hx : ∀ M w, PS M w → Ψ M w → Gv.rep M w (x.cells q qc) x) (ho : o.length < 10000000)
    (cx : Ctx W w (.blk kb (x.cells q qc) 39 :: .buf op o.length oc ds 39 3 :: R ++ G) (fun M w => (PS M w ∧ Elems M w ds o) ∧ Ψ M w)) :
    ∃ p c w', Sem.run Tryd.prog (builtin Builtin.append #[22, 22] 22 #[false, false] #[.slice op o.length oc, .slice (some ⟨kb, 0, none⟩) 1 1]) w = .ok (.value (.slice p (o ++ [x]).length c)) w' ∧ Ctx W w' (.buf p (o ++ [x]).length c (ds ++ x.cells q qc) 39 3 :: R ++ G) (fun M w => PS M w ∧ Elems M w (ds ++ x.cells q qc) (o ++ [x])) := by
  obtain ⟨p', c', w', h1, h2⟩ := push1 (PS := fun M w => PS M w ∧ Ψ M w) (x := x) (q := q) (qc := qc) (fun M w h => hx M w h.1 h.2) ho (cx.weak fun M w h => ⟨⟨h.1.1, h.2⟩, h.1.2⟩)
  exact ⟨p', c', w', h1, h2.weak fun M w h => ⟨h.1.1, h.2⟩⟩

/-! ### in plain Lean -/
def dz (x : DeltaD) : DE := ⟨x, none, 0⟩
theorem dz_d (s : List DeltaD) : (s.map dz).map DE.d = s := by
  rw [List.map_map]
  exact List.map_id s
abbrev CO (l s outs : List DeltaD) (i : Nat) : Prop := COuter l (s.map dz) (outs.map dz) i
theorem CO.start {l s : List DeltaD} (h : s.Perm l) : CO l s [] 0 :=
  ⟨Nat.zero_le _, Norm.nil, by simp, fun k => by rw [List.drop_zero, dz_d, dz_d]; exact findP_perm h k, Nat.le_refl _⟩
theorem CO.step {l s outs : List DeltaD} {i : Nat} (h : CO l s outs i) {X : DeltaD} (hX : X ∈ s.drop i) {j : Nat} (hij : i + j ≤ s.length) (hj : 1 ≤ j) (hk : ∀ y ∈ (s.drop i).take j, y.key = X.key) {N : Int} (hN : N = findP ((s.drop i).take j) X.key)
    (hgt : ∀ y ∈ s.drop (i + j), cmpK X.key y.key < 0) : (N = 0 → CO l s outs (i + j)) ∧ (N ≠ 0 → CO l s (outs ++ [⟨X.time, X.row, N⟩]) (i + j)) := by
  have h1 := COuter.step h (X := dz X) (by rw [← List.map_drop]; exact List.mem_map_of_mem hX) (j := j) (by rw [List.length_map]; exact hij) hj
    (fun y hy => by rw [← List.map_drop, ← List.map_take] at hy; obtain ⟨z, hz, rfl⟩ := List.mem_map.1 hy; exact hk z hz) (N := N) (by rw [← List.map_drop, ← List.map_take, dz_d]; exact hN)
    (fun y hy => by rw [← List.map_drop] at hy; obtain ⟨z, hz, rfl⟩ := List.mem_map.1 hy; exact hgt z hz)
  refine ⟨h1.1, fun h0 => ?_⟩
  have := h1.2 h0 none 0
  unfold CO
  rw [List.map_append]
  exact this
theorem CO.end {l s outs : List DeltaD} (h : CO l s outs s.length) : consP l = outs := by
  have h1 := h.norm
  have h2 := h.find
  rw [dz_d] at h1 h2
  refine consP_is h1 fun k => ?_
  have := h2 k
  rwa [← List.map_drop, List.drop_length, List.map_nil, List.map_nil, List.append_nil] at this
theorem CO.few {l s outs : List DeltaD} {i : Nat} (h : CO l s outs i) : outs.length ≤ i := by
  have := COuter.few h
  rwa [List.length_map] at this

set_option maxHeartbeats 4000000 in
theorem Cons28_sl {Φ : PW} [Stable Φ] (p : Option Addr) (cap : Nat) (l : List DeltaD) (hΦ : ∀ M w, Φ M w → Sl M w p l) (hc1 : l.length ≤ cap) (hc2 : cap ≤ maxLen) (hlen : l.length ≤ 1000000) (hrow : Rows1 l) : GivesSl Φ Tryd.prog F.errataref28_Consolidate #[.slice p l.length cap] (consP l) id := by
  refine gives_sl (Berrataref28_Consolidate_run p l.length cap) fun W R => ?_
  refine fun w G cx => (sorted_sl l.length p cap l hΦ (Nat.le_refl _) hc1 hc2 hlen hrow).use cx fun p1 c1 w g1 g2 cx => ?_
  have hperm := srt_perm l.length l
  have hasc := srt_asc l.length l (Nat.le_refl _)
  obtain ⟨s, hs⟩ : ∃ s, srt l.length l = s := ⟨_, rfl⟩
  rw [hs] at cx g1 hperm hasc ⊢
  have hsl := hperm.length_eq
  obtain ⟨g, o, cs, hp, cx⟩ := cx.pin cx.phi.2
  obtain ⟨PS, hPS⟩ : ∃ PS : PW, PS = (fun M w => (Φ M w ∧ Sl M w p1 s) ∧ Pin g o cs s M w) := ⟨_, rfl⟩
  have stP : Stable PS := by rw [hPS]; infer_instance
  have iP : ∀ M w, PS M w → Pin g o cs s M w := fun M w h => by rw [hPS] at h; exact h.2
  have i0 : ∀ M w, PS M w → Φ M w := fun M w h => by rw [hPS] at h; exact h.1.1
  rw [← hPS] at cx
  clear hPS hs
  have hcs := Ctx.cells cx iP
  have hrw : ∀ j, (hj : j < s.length) → s[j].row.length ≤ 1000000 := fun j hj => hrow _ (hperm.mem_iff.1 (List.getElem_mem hj))
  refine ⟨p1, _, c1, rfl, R, PS, stP, cx, ?_⟩
  clear cx
  refine exI_mk (fun op on oc iI R' Φ' m => ∃ (i : Nat) (outs : List DeltaD) (ds : List Value), CO l s outs i ∧ iI = i ∧ i ≤ s.length ∧ on = outs.length ∧ R' = .buf op on oc ds 39 3 :: R ∧ Φ' = (fun M w => PS M w ∧ Elems M w ds outs) ∧ m = s.length - i)
    ⟨⟨.buf none 0 0 [] 39 3 :: R, fun M w => PS M w ∧ Elems M w [] ([] : List DeltaD), _, inferInstance, fun w G cx => (cx.nobuf 39 3).weak fun M w h => ⟨h, Elems.nil⟩, 0, [], [], CO.start hperm, rfl, Nat.zero_le _, rfl, rfl, rfl, rfl⟩, ?_⟩
  rintro op on oc iI R1 Φ1 m _ ⟨i, outs, ds, hco, rfl, hi, rfl, rfl, rfl, rfl⟩
  have st2 : Stable (fun M w => PS M w ∧ Elems M w ds outs) := inferInstance
  refine Br.intro (fun hlt => ?_) (fun hge => fun w G cx => ?_)
  · have hlt : i < s.length := by have := of_decide_eq_true hlt; omega
    obtain ⟨q, qc, he, f1, f2, f3, f4⟩ := hcs i hlt
    obtain ⟨X, hX⟩ : ∃ X, s[i] = X := ⟨_, rfl⟩
    have hXr := hrw i hlt
    have hXd : X ∈ s.drop i := by rw [List.drop_eq_getElem_cons hlt, hX]; simp
    have rowX : ∀ {w : World} {S : List Own}, Ctx W w S (fun M w => PS M w ∧ Elems M w ds outs) → RowAt w g (o + (i : Int).toNat * 3) (X.cells q qc) := fun cx => by rw [Int.toNat_natCast, ← hX]; exact pin_rowAt (iP _ _ cx.phi.1) hlt he
    have slX : ∀ M w, PS M w → Sl M w q X.row := fun M w h => by rw [← hX]; exact pin_row (iP M w h) hlt he
    rw [hX] at f1 f3 f4 hXr
    refine exI_mk (fun n kI R' Φ' m => ∃ j : Nat, kI = ((i + j : Nat) : Int) ∧ i + j ≤ s.length ∧ n = findP ((s.drop i).take j) X.key ∧ (∀ y ∈ (s.drop i).take j, y.key = X.key) ∧ R' = .buf op outs.length oc ds 39 3 :: R ∧ Φ' = (fun M w => PS M w ∧ Elems M w ds outs) ∧ m = s.length - (i + j))
      ⟨⟨_, _, _, st2, fun w G cx => cx, 0, rfl, hi, rfl, (fun y hy => by rw [List.take_zero] at hy; cases hy), rfl, rfl, rfl⟩, ?_⟩
    rintro n kI R2 Φ2 m _ ⟨j, rfl, hj, hn, hkeys, rfl, rfl, rfl⟩
    refine ⟨_, _, st2, fun w G cx => cx, Br.intro (fun hlt2 => ?_) (fun hge2 => ?_)⟩
    case' refine_2 =>
      have hge2 := of_decide_eq_false hge2
      have hj1 : 1 ≤ j := by omega
      have hgt : ∀ y ∈ s.drop (i + j), cmpK X.key y.key < 0 := by
        rw [List.drop_eq_nil_of_le (by omega)]
        intro y hy; cases hy
    case' refine_1 =>
      have hij : i + j < s.length := by have := of_decide_eq_true hlt2; omega
      obtain ⟨q2, qc2, he2, e1, e2, _, _⟩ := hcs (i + j) hij
      have hmin : (min ((i + j : Nat) : Int) ((s.length : Int) - 1)).toNat = i + j := by omega
      have rowY : ∀ {w : World} {S : List Own}, Ctx W w S (fun M w => PS M w ∧ Elems M w ds outs) → RowAt w g (o + (i + j) * 3) (s[i + j].cells q2 qc2) := fun cx => pin_rowAt (iP _ _ cx.phi.1) hij he2
      refine ⟨by omega, ptrK_intro g o (hp (by omega)) ⟨X.time, q, X.row.length, qc, X.n, fun w G cx => ⟨_, _, _, _, _, rowX cx, rfl⟩, by unfold I64; omega, by omega, ptrK_intro g o (hp (by omega)) ⟨s[i + j].time, q2, s[i + j].row.length, qc2, s[i + j].n, fun w G cx => ⟨_, _, _, _, _, by rw [hmin]; exact rowY cx, rfl⟩, fun w G cx => (rCompareD_in X s[i + j] q q2 qc qc2 (fun M w h => slX M w h.1) (fun M w h => pin_row (iP M w h.1) hij he2) (by omega)).toI cx ?_⟩⟩⟩
      refine Br.intro (fun hc => ?_) (fun hc => ?_)
    case' refine_1.refine_1.refine_1 =>
      have hk : s[i + j].key = X.key := by
        have hc := of_decide_eq_true hc
        rw [cmpD_key] at hc
        exact ((cmpK_cmp.eq _ _).1 hc).symm
      have htk : (s.drop i).take (j + 1) = (s.drop i).take j ++ [s[i + j]] := by
        have hlt3 : j < (s.drop i).length := by rw [List.length_drop]; omega
        rw [List.take_succ_eq_append_getElem hlt3, List.getElem_drop]
      refine ⟨by omega, ptrK_intro g o (hp (by omega)) fun w G cx => ⟨s[i + j].n, ?_, by unfold I64; omega, _, _, s.length - (i + (j + 1)), st2, fun w G cx => cx, ⟨j + 1, by omega, by omega, ?_, ?_, rfl, rfl, rfl⟩, by omega⟩⟩
      · have := rowY cx 2 (by simp)
        rw [Int.toNat_natCast]; simpa using this
      · rw [htk, hn]
        exact (find_snoc hk).symm
      · rw [htk]
        intro y hy
        rcases List.mem_append.1 hy with hy | hy
        · exact hkeys y hy
        · rw [List.mem_singleton.1 hy]; exact hk
    case' refine_1.refine_1.refine_2 =>
      have hc := of_decide_eq_false hc
      rw [cmpD_key] at hc
      have hj1 : 1 ≤ j := by
        rcases Nat.eq_zero_or_pos j with h0 | h0
        · exfalso
          subst h0
          apply hc
          have : s[i + 0] = X := by rw [← hX]; rfl
          rw [this, cmpK_cmp.refl]
        · exact h0
      have hgt : ∀ y ∈ s.drop (i + j), cmpK X.key y.key < 0 := by
        have h1 : leD s[i] s[i + j] = true := List.pairwise_iff_getElem.1 hasc i (i + j) hlt hij (by omega)
        rw [hX] at h1
        have h1 : cmpK X.key s[i + j].key < 0 := by
          have h2 : cmpK X.key s[i + j].key ≤ 0 := by rw [← cmpD_key]; exact of_decide_eq_true h1
          omega
        intro y hy
        obtain ⟨r, hr, rfl⟩ := List.getElem_of_mem hy
        rw [List.length_drop] at hr
        rw [List.getElem_drop]
        rcases Nat.eq_zero_or_pos r with h0 | h0
        · subst h0
          exact h1
        · have h2 : leD s[i + j] s[i + j + r] = true := List.pairwise_iff_getElem.1 hasc (i + j) (i + j + r) hij (by omega) (by omega)
          have h2 : cmpK s[i + j].key s[i + j + r].key ≤ 0 := by rw [← cmpD_key]; exact of_decide_eq_true h2
          rcases Int.lt_or_eq_of_le h2 with h3 | h3
          · exact cmpK_cmp.trans _ _ _ h1 h3
          · rw [← (cmpK_cmp.eq _ _).1 h3]; exact h1
      clear hc
    all_goals
      obtain ⟨hz, hnz⟩ := hco.step hXd (by omega) hj1 hkeys hn hgt
      have hfew := hco.few
      refine Br.intro (fun h0 => ⟨by omega, ptrK_intro g o (hp (by omega)) fun w G cx => ⟨X.time, q, X.row.length, qc, X.n, rowX cx, fun w G cx => ?_⟩⟩) (fun h0 => ⟨_, _, s.length - (i + j), st2, fun w G cx => cx, ⟨i + j, outs, ds, hz (by have := of_decide_eq_false h0; omega), rfl, by omega, rfl, rfl, rfl, rfl⟩, by omega⟩)
      have hco2 := hnz (of_decide_eq_true h0)
      refine (Clone28_sl (Φ := fun M w => PS M w ∧ Elems M w ds outs) X q qc n (fun M w h => slX M w h.1) (by omega)).use cx fun p2 c2 w g3 g4 cx => ⟨X.time, p2, X.row.length, c2, n, rfl, .buf op outs.length oc ds 39 3 :: R, _, inferInstance, cx, fun kb w G cx => ?_⟩
      obtain ⟨p', c', w', hrun, cx'⟩ := push2 (x := ⟨X.time, X.row, n⟩) (q := p2) (qc := c2) (Ψ := fun M w => Sl M w p2 X.row) (fun M w _ h => rep_delta g3 g4 f3 (by rw [hn]; exact w64_in _) h) (by omega) cx
      exact ⟨p', _, c', w', hrun, _, _, inferInstance, cx', _, _, s.length - (i + j), inferInstance, fun w G cx => cx, ⟨i + j, _, _, hco2, rfl, by omega, rfl, rfl, rfl, rfl⟩, by omega⟩
  · have hge : i = s.length := by have := of_decide_eq_false hge; omega
    subst hge
    rw [hco.end]
    have cx := cx.left
    obtain ⟨cx3, hs, _, g5, g6⟩ := Ctx.freeze (α := DeltaD) cx.fst cx.phi.2
    exact ⟨op, oc, rfl, g5, g6, (cx3.add hs).weak fun M w h => ⟨i0 M w h.1, h.2⟩⟩

end Go.Proofs.YtnapfhbibikbiaaDoor
end

/-
  Layings of the kit's shelf at this seat's numbers (printed by the kit's own tools).
-/
section
set_option linter.unusedVariables false
namespace Go.Proofs
open Go.Shelf

def Tryd.lays169_ren : Go.Shelf.Ren := ⟨fun | 169 => 79 | n => n, fun | 70 => 77 | 9 => 9 | 0 => 0 | 72 => 79 | 37 => 71 | 127 => 93 | 3 => 3 | 5 => 5 | n => n, fun | n => n⟩
theorem Tryd.lays169 : Go.Proofs.Lays.n169 Tryd.prog Tryd.lays169_ren := {
  mixed := by kernel_rfl
  f169 := Tryd.func79.trans (congrArg some (by kernel_rfl))
  t0 := Tryd.underlying0
  a0 := Tryd.isAgg0
  z0 := Tryd.sizeOf0
  v0 := Tryd.zeroValue0
  t3 := Tryd.underlying3
  a3 := Tryd.isAgg3
  z3 := Tryd.sizeOf3
  v3 := Tryd.zeroValue3
  t9 := Tryd.underlying9
  a9 := Tryd.isAgg9
  z9 := Tryd.sizeOf9
  v9 := Tryd.zeroValue9
  t37 := Tryd.underlying71
  a37 := Tryd.isAgg71
  z37 := Tryd.sizeOf71
  v37 := Tryd.zeroValue71
  t70 := Tryd.underlying77
  a70 := Tryd.isAgg77
  z70 := Tryd.sizeOf77
  v70 := Tryd.zeroValue77
  t72 := Tryd.underlying79
  a72 := Tryd.isAgg79
  z72 := Tryd.sizeOf79
  v72 := Tryd.zeroValue79
  t127 := Tryd.underlying93
  a127 := Tryd.isAgg93
  z127 := Tryd.sizeOf93
  v127 := Tryd.zeroValue93 }
theorem Tryd.Builder_Extra_169 : Builder.Extra Tryd.prog Tryd.lays169_ren := {
  sizeBuilder := by kernel_rfl
  liesBuilder := by kernel_rfl
  t5 := Tryd.underlying5
  a5 := Tryd.isAgg5
  z5 := Tryd.sizeOf5
  v5 := Tryd.zeroValue5
  infoByte := by kernel_rfl
  cellsByte := by kernel_rfl
  sizeByte := by kernel_rfl
  neB5 := by decide }
def Tryd.laysM171_ren : Go.Shelf.Ren := ⟨fun | 171 => 94 | 243 => 104 | 246 => 107 | 283 => 110 | 284 => 111 | 285 => 112 | 286 => 113 | 129 => 116 | 317 => 115 | 318 => 117 | 319 => 118 | 320 => 119 | 337 => 120 | 338 => 121 | n => n, fun | 3 => 3 | 9 => 9 | 2 => 2 | 4 => 4 | 171 => 104 | 0 => 0 | 53 => 105 | 37 => 71 | 5 => 5 | 173 => 108 | 212 => 112 | 51 => 113 | 20 => 20 | 213 => 114 | 46 => 102 | 232 => 117 | 233 => 118 | n => n, fun | 17 => 1 | 18 => 2 | 19 => 3 | n => n⟩
theorem Tryd.laysM171 : Go.Proofs.LaysM.n171 Tryd.prog Tryd.laysM171_ren := {
  mixed := by kernel_rfl
  f129 := Tryd.func116.trans (congrArg some (by kernel_rfl))
  f171 := Tryd.func94.trans (congrArg some (by kernel_rfl))
  f243 := Tryd.func104.trans (congrArg some (by kernel_rfl))
  f246 := Tryd.func107.trans (congrArg some (by kernel_rfl))
  f283 := Tryd.func110.trans (congrArg some (by kernel_rfl))
  f284 := Tryd.func111.trans (congrArg some (by kernel_rfl))
  f285 := Tryd.func112.trans (congrArg some (by kernel_rfl))
  f286 := Tryd.func113.trans (congrArg some (by kernel_rfl))
  f317 := Tryd.func115.trans (congrArg some (by kernel_rfl))
  f318 := Tryd.func117.trans (congrArg some (by kernel_rfl))
  f319 := Tryd.func118.trans (congrArg some (by kernel_rfl))
  f320 := Tryd.func119.trans (congrArg some (by kernel_rfl))
  f337 := Tryd.func120.trans (congrArg some (by kernel_rfl))
  f338 := Tryd.func121.trans (congrArg some (by kernel_rfl))
  t0 := Tryd.underlying0
  a0 := Tryd.isAgg0
  z0 := Tryd.sizeOf0
  v0 := Tryd.zeroValue0
  t2 := Tryd.underlying2
  a2 := Tryd.isAgg2
  z2 := Tryd.sizeOf2
  v2 := Tryd.zeroValue2
  t3 := Tryd.underlying3
  a3 := Tryd.isAgg3
  z3 := Tryd.sizeOf3
  v3 := Tryd.zeroValue3
  t4 := Tryd.underlying4
  a4 := Tryd.isAgg4
  z4 := Tryd.sizeOf4
  v4 := Tryd.zeroValue4
  t5 := Tryd.underlying5
  a5 := Tryd.isAgg5
  z5 := Tryd.sizeOf5
  v5 := Tryd.zeroValue5
  t9 := Tryd.underlying9
  a9 := Tryd.isAgg9
  z9 := Tryd.sizeOf9
  v9 := Tryd.zeroValue9
  t20 := Tryd.underlying20
  a20 := Tryd.isAgg20
  z20 := Tryd.sizeOf20
  v20 := Tryd.zeroValue20
  t37 := Tryd.underlying71
  a37 := Tryd.isAgg71
  z37 := Tryd.sizeOf71
  v37 := Tryd.zeroValue71
  t46 := Tryd.underlying102
  a46 := Tryd.isAgg102
  z46 := Tryd.sizeOf102
  v46 := Tryd.zeroValue102
  t51 := Tryd.underlying113
  a51 := Tryd.isAgg113
  z51 := Tryd.sizeOf113
  v51 := Tryd.zeroValue113
  t53 := Tryd.underlying105
  a53 := Tryd.isAgg105
  z53 := Tryd.sizeOf105
  v53 := Tryd.zeroValue105
  t171 := Tryd.underlying104
  a171 := Tryd.isAgg104
  z171 := Tryd.sizeOf104
  v171 := Tryd.zeroValue104
  t173 := Tryd.underlying108
  a173 := Tryd.isAgg108
  z173 := Tryd.sizeOf108
  v173 := Tryd.zeroValue108
  t212 := Tryd.underlying112
  a212 := Tryd.isAgg112
  z212 := Tryd.sizeOf112
  v212 := Tryd.zeroValue112
  t213 := Tryd.underlying114
  a213 := Tryd.isAgg114
  z213 := Tryd.sizeOf114
  t232 := Tryd.underlying117
  a232 := Tryd.isAgg117
  z232 := Tryd.sizeOf117
  v232 := Tryd.zeroValue117
  t233 := Tryd.underlying118
  a233 := Tryd.isAgg118
  z233 := Tryd.sizeOf118
  v233 := Tryd.zeroValue118
  g17 := by kernel_rfl
  g18 := by kernel_rfl
  g19 := by kernel_rfl
  i0 := by kernel_rfl
  i2 := by kernel_rfl
  i3 := by kernel_rfl
  i4 := by kernel_rfl
  i5 := by kernel_rfl
  i9 := by kernel_rfl
  i20 := by kernel_rfl
  i37 := by kernel_rfl
  i46 := by kernel_rfl
  i51 := by kernel_rfl
  i53 := by kernel_rfl
  i171 := by kernel_rfl
  i173 := by kernel_rfl
  i212 := by kernel_rfl
  i232 := by kernel_rfl
  i233 := by kernel_rfl
  m17 := by kernel_rfl
  m18 := by kernel_rfl
  m19 := by kernel_rfl }
def Tryd.lays171_ren : Go.Shelf.Ren := ⟨fun | 171 => 94 | 243 => 104 | 246 => 107 | 283 => 110 | 284 => 111 | 285 => 112 | 286 => 113 | 129 => 116 | 317 => 115 | 318 => 117 | 319 => 118 | 320 => 119 | 337 => 120 | 338 => 121 | n => n, fun | 3 => 3 | 9 => 9 | 2 => 2 | 4 => 4 | 171 => 104 | 0 => 0 | 53 => 105 | 37 => 71 | 5 => 5 | 173 => 108 | 212 => 112 | 51 => 113 | 20 => 20 | 213 => 114 | 46 => 102 | 232 => 117 | 233 => 118 | n => n, fun | 17 => 1 | 18 => 2 | 19 => 3 | n => n⟩
theorem Tryd.lays171 : Go.Proofs.Lays.n171 Tryd.prog Tryd.lays171_ren := {
  mixed := by kernel_rfl
  f129 := Tryd.func116.trans (congrArg some (by kernel_rfl))
  f171 := Tryd.func94.trans (congrArg some (by kernel_rfl))
  f243 := Tryd.func104.trans (congrArg some (by kernel_rfl))
  f246 := Tryd.func107.trans (congrArg some (by kernel_rfl))
  f283 := Tryd.func110.trans (congrArg some (by kernel_rfl))
  f284 := Tryd.func111.trans (congrArg some (by kernel_rfl))
  f285 := Tryd.func112.trans (congrArg some (by kernel_rfl))
  f286 := Tryd.func113.trans (congrArg some (by kernel_rfl))
  f317 := Tryd.func115.trans (congrArg some (by kernel_rfl))
  f318 := Tryd.func117.trans (congrArg some (by kernel_rfl))
  f319 := Tryd.func118.trans (congrArg some (by kernel_rfl))
  f320 := Tryd.func119.trans (congrArg some (by kernel_rfl))
  f337 := Tryd.func120.trans (congrArg some (by kernel_rfl))
  f338 := Tryd.func121.trans (congrArg some (by kernel_rfl))
  t0 := Tryd.underlying0
  a0 := Tryd.isAgg0
  z0 := Tryd.sizeOf0
  v0 := Tryd.zeroValue0
  t2 := Tryd.underlying2
  a2 := Tryd.isAgg2
  z2 := Tryd.sizeOf2
  v2 := Tryd.zeroValue2
  t3 := Tryd.underlying3
  a3 := Tryd.isAgg3
  z3 := Tryd.sizeOf3
  v3 := Tryd.zeroValue3
  t4 := Tryd.underlying4
  a4 := Tryd.isAgg4
  z4 := Tryd.sizeOf4
  v4 := Tryd.zeroValue4
  t5 := Tryd.underlying5
  a5 := Tryd.isAgg5
  z5 := Tryd.sizeOf5
  v5 := Tryd.zeroValue5
  t9 := Tryd.underlying9
  a9 := Tryd.isAgg9
  z9 := Tryd.sizeOf9
  v9 := Tryd.zeroValue9
  t20 := Tryd.underlying20
  a20 := Tryd.isAgg20
  z20 := Tryd.sizeOf20
  v20 := Tryd.zeroValue20
  t37 := Tryd.underlying71
  a37 := Tryd.isAgg71
  z37 := Tryd.sizeOf71
  v37 := Tryd.zeroValue71
  t46 := Tryd.underlying102
  a46 := Tryd.isAgg102
  z46 := Tryd.sizeOf102
  v46 := Tryd.zeroValue102
  t51 := Tryd.underlying113
  a51 := Tryd.isAgg113
  z51 := Tryd.sizeOf113
  v51 := Tryd.zeroValue113
  t53 := Tryd.underlying105
  a53 := Tryd.isAgg105
  z53 := Tryd.sizeOf105
  v53 := Tryd.zeroValue105
  t171 := Tryd.underlying104
  a171 := Tryd.isAgg104
  z171 := Tryd.sizeOf104
  v171 := Tryd.zeroValue104
  t173 := Tryd.underlying108
  a173 := Tryd.isAgg108
  z173 := Tryd.sizeOf108
  v173 := Tryd.zeroValue108
  t212 := Tryd.underlying112
  a212 := Tryd.isAgg112
  z212 := Tryd.sizeOf112
  v212 := Tryd.zeroValue112
  t213 := Tryd.underlying114
  a213 := Tryd.isAgg114
  z213 := Tryd.sizeOf114
  t232 := Tryd.underlying117
  a232 := Tryd.isAgg117
  z232 := Tryd.sizeOf117
  v232 := Tryd.zeroValue117
  t233 := Tryd.underlying118
  a233 := Tryd.isAgg118
  z233 := Tryd.sizeOf118
  v233 := Tryd.zeroValue118
  g17 := by kernel_rfl
  g18 := by kernel_rfl
  g19 := by kernel_rfl }
def Tryd.laysNm220_ren : Go.Shelf.Ren := ⟨fun | 20 => 71 | n => n, fun | 22 => 43 | 3 => 3 | 4 => 4 | 0 => 0 | n => n, fun | n => n⟩
theorem Tryd.laysNm220 : Go.Proofs.Lays2.n20 Tryd.prog Tryd.laysNm220_ren := {
  mixed := by kernel_rfl
  f20 := Tryd.func71.trans (congrArg some (by kernel_rfl))
  t0 := Tryd.underlying0
  a0 := Tryd.isAgg0
  z0 := Tryd.sizeOf0
  v0 := Tryd.zeroValue0
  t3 := Tryd.underlying3
  a3 := Tryd.isAgg3
  z3 := Tryd.sizeOf3
  v3 := Tryd.zeroValue3
  t4 := Tryd.underlying4
  a4 := Tryd.isAgg4
  z4 := Tryd.sizeOf4
  v4 := Tryd.zeroValue4
  t22 := Tryd.underlying43
  a22 := Tryd.isAgg43
  z22 := Tryd.sizeOf43
  v22 := Tryd.zeroValue43
  i3 := by kernel_rfl }

end Go.Proofs
end

/-
  The walks of strings.Builder, of the decimal form of ints, and of the encodings of ints and texts.
-/
section
set_option linter.unusedVariables false
set_option linter.unusedSimpArgs false
namespace Go.Proofs.YtnapfhbibikbiaaDoor
open Go.Vc


abbrev BdT (b : Nat) (l : List UInt8) (R : List Own) : Prop := Bd 79 5 b l R

theorem bd_info : ∃ j, Tryd.prog.info? 79 = some j ∧ j.size = 2 := by
  have h : (Tryd.prog.info? 79).map (·.size) = some 2 := by kernel_rfl
  exact Option.map_eq_some_iff.1 h

set_option maxHeartbeats 1000000 in
set_option maxRecDepth 100000 in
theorem copyCheck_used (b : Nat) (w : World) (h0 : w.cell? ⟨b, 0, none⟩ = some (.pointer (some ⟨b, 0, none⟩))) :
    Calls Tryd.prog 93 #[.pointer (some ⟨b, 0, none⟩)] w fun e w' => e = .returned (.tuple #[]) ∧ w' = w := by
  obtain ⟨j, hj, _⟩ := bd_info
  go_enter Tryd.func93, Tryd.ntmps93
  go_wp2
  rw [Lib.run_neq_ptr_same w _ Tryd.underlying77 hj]
  go_wp2
  go_end0
  exact ⟨rfl, rfl⟩

set_option maxHeartbeats 1000000 in
set_option maxRecDepth 100000 in
theorem copyCheck_fresh (b : Nat) (w : World) (h0 : w.cell? ⟨b, 0, none⟩ = some (.pointer none)) (hsh : w.shape? b = some (79, 2)) (hfz : w.frozen? ⟨b, 0, none⟩ = false) :
    Calls Tryd.prog 93 #[.pointer (some ⟨b, 0, none⟩)] w fun e w' => e = .returned (.tuple #[]) ∧ w' = w.setCell ⟨b, 0, none⟩ (.pointer (some ⟨b, 0, none⟩)) := by
  obtain ⟨j, hj, hjs⟩ := bd_info
  go_enter Tryd.func93, Tryd.ntmps93
  go_wp2
  rw [Lib.run_to_unsafe w ⟨b, 0, none⟩ Tryd.underlying77 Tryd.underlying99 hj (by rw [hjs]; decide) hsh (Nat.zero_lt_succ 1)]
  simp only [Result.andThen]
  rw [Oper.upon_value]
  go_wp2
  rw [run_callFunc_extern Tryd.func103 (by kernel_rfl) (by kernel_rfl) (by kernel_rfl) (e := Extern.AbiNoEscape.same) (by kernel_rfl)]
  rw [Lib.run_noEscape]
  simp only [Result.andThen]
  rw [Oper.upon_value]
  go_wp2
  rw [Lib.run_from_unsafe w ⟨b, 0, none⟩ Tryd.underlying99 Tryd.underlying77 hj hsh (by kernel_rfl)]
  simp only [Result.andThen]
  rw [Oper.upon_value]
  go_wp2
  go_end0
  exact ⟨rfl, rfl⟩

theorem copyCheck_use {W w : World} {S : List Own} {Φ : PW} [Stable Φ] {b : Nat} {pa v : Value} (hp : pa = .pointer none ∨ pa = .pointer (some ⟨b, 0, none⟩)) (c : Ctx W w (.blk b [pa, v] 79 :: S) Φ) {K : Ending → World → Prop}
    (hk : ∀ w', Ctx W w' (.blk b [.pointer (some ⟨b, 0, none⟩), v] 79 :: S) Φ → K (.returned (.tuple #[])) w') : Calls Tryd.prog F.strings_Builder_copyCheck #[.pointer (some ⟨b, 0, none⟩)] w K := by
  have hb : w.heap[b]? = some (.cells #[pa, v] 79 (0, 0)) := c.blk 0 rfl
  rcases hp with rfl | rfl
  · exact (copyCheck_fresh b w (c.get 0 rfl rfl) (by simp [World.shape?, hb]) (by simp [World.frozen?, hb])).mono fun e w' ⟨he, hw⟩ => by
      subst he
      exact hk w' (c.put 0 hw rfl)
  · exact (copyCheck_used b w (c.get 0 rfl rfl)).mono fun e w' ⟨he, hw⟩ => by
      subst he; subst hw
      exact hk w' c

theorem byte_info : ∃ i, Tryd.prog.info? 5 = some i ∧ i.zero = some (.int .u8 0) ∧ i.size = 1 ∧ i.bytes = 1 := by
  have h : (Tryd.prog.info? 5).map (fun i => (i.zero, i.size, i.bytes)) = some (some (.int .u8 0), 1, 1) := by kernel_rfl
  obtain ⟨i, hi, he⟩ := Option.map_eq_some_iff.1 h
  simp only [Prod.mk.injEq] at he
  exact ⟨i, hi, he⟩

theorem strCells_bytes (s : ByteArray) : Lib.strCells s = Lib.byteCells s.data.toList := rfl

theorem WriteString_use {W w : World} {S R : List Own} {Φ : PW} [Stable Φ] {b : Nat} {l : List UInt8} (s : ByteArray) (h : BdT b l R) (c : Ctx W w (R ++ S) Φ) (hlen : l.length + s.size ≤ 100000000000) {K : Ending → World → Prop}
    (hk : ∀ R' w', BdT b (l ++ s.data.toList) R' → Ctx W w' (R' ++ S) Φ → K (.returned (.tuple #[.int .i64 s.size, .nilIface])) w') : Calls Tryd.prog F.strings_Builder_WriteString #[.pointer (some ⟨b, 0, none⟩), .string s] w K := by
  obtain ⟨pa, p, cap, hpa, rfl⟩ := h
  obtain ⟨i, hi, hz, hsz, hby⟩ := byte_info
  refine (Bstrings_Builder_WriteString_run b 0 s (J := fun u w' => K (.returned u) w') c ?_).mono fun e w' ⟨v, he, hj⟩ => by rw [he]; exact hj
  refine fun w G c => copyCheck_use hpa c fun w c => ⟨rfl, [.blk b [.pointer (some ⟨b, 0, none⟩), .slice p l.length cap] 79, .buf p l.length cap (Lib.byteCells l) 5 1] ++ S, Φ, inferInstance, c, fun w G c => ⟨p, l.length, cap, c.get 0 rfl rfl, fun w G c => ?_⟩⟩
  obtain ⟨p', cap', w', hrun, c'⟩ := Ctx.appStr (P := Tryd.prog) (t := 71) (u := 9) (ty := 71) (kb := #[false, false]) (c.swap) Tryd.underlying71 Tryd.underlying9 hi hz hsz hby s (by omega) (by unfold maxLen; omega)
  refine ⟨p', _, cap', w', hrun, [.blk b [.pointer (some ⟨b, 0, none⟩), .slice p l.length cap] 79, .buf p' (l.length + s.size) cap' (Lib.byteCells l ++ Lib.strCells s) 5 1] ++ S, Φ, inferInstance, c'.swap, fun w G c => ⟨c.can 0 rfl (by simp), fun w' hw' => ?_⟩⟩
  refine ⟨[.blk b [.pointer (some ⟨b, 0, none⟩), .slice p' (l.length + s.size) cap'] 79, .buf p' (l.length + s.size) cap' (Lib.byteCells l ++ Lib.strCells s) 5 1] ++ S, Φ, inferInstance, c.put 0 hw' rfl, fun w G c => hk [.blk b [.pointer (some ⟨b, 0, none⟩), .slice p' (l.length + s.size) cap'] 79, .buf p' (l.length + s.size) cap' (Lib.byteCells l ++ Lib.strCells s) 5 1] w ⟨_, p', cap', .inr rfl, ?_⟩ c.left⟩
  have hl : (l ++ s.data.toList).length = l.length + s.size := by rw [List.length_append, Array.length_toList]; rfl
  rw [hl, strCells_bytes, Lib.byteCells_append]

theorem String_use {W w : World} {S R : List Own} {Φ : PW} [Stable Φ] {b : Nat} {l : List UInt8} (h : BdT b l R) (c : Ctx W w (R ++ S) Φ) {K : Ending → World → Prop}
    (hk : ∀ w', Ctx W w' S Φ → K (.returned (.string ⟨l.toArray⟩)) w') : Calls Tryd.prog F.strings_Builder_String #[.pointer (some ⟨b, 0, none⟩)] w K :=
  Bd.string Tryd.lays169 Tryd.Builder_Extra_169 h c hk

end Go.Proofs.YtnapfhbibikbiaaDoor
end

/-
  The encodings of ints, texts, values and rows: in plain Lean, and walked.
-/
section
set_option linter.unusedVariables false
set_option linter.unusedSimpArgs false
namespace Go.Vc
theorem GivesIn.know {Φ : PW} {P : Program} {f : FuncId} {args : Array Value} {v : Value} {p : Prop} (hΦ : ∀ M w, Φ M w → p) (h : p → GivesIn Φ P f args v) : GivesIn Φ P f args v :=
  ⟨fun W w S c => (h (hΦ _ _ c.phi)).go W w S c⟩
theorem GivesSl.know {Φ : PW} {P : Program} {f : FuncId} {args : Array Value} {α : Type} [Gv α] {l : List α} {mk : Value → Value} {p : Prop} (hΦ : ∀ M w, Φ M w → p) (h : p → GivesSl Φ P f args l mk) : GivesSl Φ P f args l mk :=
  ⟨fun W w S c => (h (hΦ _ _ c.phi)).go W w S c⟩
theorem GivesNew.know {Φ : PW} {P : Program} {f : FuncId} {args : Array Value} {α : Type} [Gv α] {l : List α} {t : TypeId} {p : Prop} (hΦ : ∀ M w, Φ M w → p) (h : p → GivesNew Φ P f args l t) : GivesNew Φ P f args l t :=
  ⟨fun W w S c => (h (hΦ _ _ c.phi)).go W w S c⟩
end Go.Vc
namespace Go.Proofs.YtnapfhbibikbiaaDoor
open Go.Vc

/-! ### in plain Lean -/
def numB (n : Int) : ByteArray := ⟨(Lib.itoa n).toArray⟩
def intB (n : Int) : ByteArray := numB n ++ ByteArray.mk #[59]
def natB (n : Int) : ByteArray := if n < 0 then ByteArray.mk #[] else intB n
def textB (s : ByteArray) : ByteArray := numB s.size ++ ByteArray.mk #[58] ++ s ++ ByteArray.mk #[44]
def valB (v : ValD) : ByteArray := intB v.kind ++ intB v.num ++ textB v.text
def valsL (r : List ValD) : List UInt8 := r.flatMap fun v => (valB v).data.toList
def rowL (r : List ValD) : List UInt8 := (natB r.length).data.toList ++ valsL r
def rowB (r : List ValD) : ByteArray := ⟨(rowL r).toArray⟩

theorem size_app (a b : ByteArray) : (a ++ b).size = a.size + b.size := ByteArray.size_append
theorem size_list (l : List UInt8) : (ByteArray.mk l.toArray).size = l.length := by simp [ByteArray.size]
theorem list_size (a : ByteArray) : a.data.toList.length = a.size := by rw [Array.length_toList]; rfl

theorem nDigits_le : ∀ (k u : Nat), u < 10 ^ k → 0 < k → Lib.nDigits u ≤ k
  | 0, u, _, h => by omega
  | k + 1, u, h, _ => by
    by_cases h1 : u < 10
    · rw [Lib.nDigits_small h1]; omega
    · rw [Lib.nDigits_big h1]
      have hk : 0 < k := by
        rcases Nat.eq_zero_or_pos k with rfl | h2
        · simp at h; omega
        · exact h2
      have := nDigits_le k (u / 10) (by rw [Nat.pow_succ] at h; omega) hk
      omega

theorem itoa_len {n : Int} (h : I64 n) : 1 ≤ (Lib.itoa n).length ∧ (Lib.itoa n).length ≤ 20 := by
  unfold I64 at h
  unfold Lib.itoa
  split
  · have h1 := nDigits_le 19 n.natAbs (by omega) (by decide)
    have h2 := Lib.nDigits_pos n.natAbs
    rw [List.length_cons, Lib.decDigits_length]; omega
  · have h1 := nDigits_le 19 n.toNat (by omega) (by decide)
    have h2 := Lib.nDigits_pos n.toNat
    rw [Lib.decDigits_length]; omega

theorem numB_size {n : Int} (h : I64 n) : 1 ≤ (numB n).size ∧ (numB n).size ≤ 20 := by
  unfold numB; rw [size_list]; exact itoa_len h
theorem intB_size {n : Int} (h : I64 n) : 2 ≤ (intB n).size ∧ (intB n).size ≤ 21 := by
  have := numB_size h
  have e : (ByteArray.mk #[59]).size = 1 := rfl
  unfold intB; rw [size_app, e]; omega
theorem natB_size {n : Int} (h : I64 n) : (natB n).size ≤ 21 := by
  unfold natB
  split
  · exact Nat.zero_le _
  · exact (intB_size h).2
theorem textB_size {s : ByteArray} (h : s.size ≤ 9223372036854775807) : (textB s).size ≤ s.size + 22 ∧ s.size + 3 ≤ (textB s).size := by
  have := numB_size (n := s.size) (by unfold I64; omega)
  have e : (ByteArray.mk #[58]).size = 1 := rfl
  have e2 : (ByteArray.mk #[44]).size = 1 := rfl
  unfold textB; rw [size_app, size_app, size_app, e, e2]; omega
theorem valB_size {v : ValD} (h1 : I64 v.kind) (h2 : I64 v.num) (h : v.text.size ≤ 9223372036854775807) : (valB v).size ≤ v.text.size + 64 := by
  have a := intB_size h1
  have b := intB_size h2
  have c := textB_size h
  unfold valB; rw [size_app, size_app]; omega

theorem valsL_app (a b : List ValD) : valsL (a ++ b) = valsL a ++ valsL b := by simp [valsL]
theorem valsL_one (v : ValD) : valsL [v] = (valB v).data.toList := by simp [valsL]
theorem valsL_len {m : Nat} : ∀ {r : List ValD}, (∀ v ∈ r, (I64 v.kind ∧ I64 v.num) ∧ v.text.size ≤ m) → m ≤ 9223372036854775807 → (valsL r).length ≤ r.length * (m + 64)
  | [], _, _ => by simp [valsL]
  | v :: r, h, hm => by
    have h1 := valsL_len (r := r) (fun u hu => h u (List.mem_cons_of_mem _ hu)) hm
    obtain ⟨⟨a, b⟩, c⟩ := h v List.mem_cons_self
    have h2 := valB_size a b (by omega)
    have e : valsL (v :: r) = (valB v).data.toList ++ valsL r := by simp [valsL]
    rw [e, List.length_append, list_size, List.length_cons, Nat.add_mul]
    omega
theorem rowL_len {m : Nat} {r : List ValD} (h : ∀ v ∈ r, (I64 v.kind ∧ I64 v.num) ∧ v.text.size ≤ m) (hm : m ≤ 9223372036854775807) (hr : r.length ≤ 1000000) : (rowL r).length ≤ 21 + r.length * (m + 64) := by
  have h1 := valsL_len h hm
  have h2 := natB_size (n := (r.length : Int)) (by unfold I64; omega)
  unfold rowL; rw [List.length_append, list_size]; omega

/-! ### walked -/
theorem rep_val {M : List Nat} {w : World} {cs : List Value} {v : ValD} (h : Gv.rep M w cs v) : cs = [.int .i64 v.kind, .int .i64 v.num, .string v.text] ∧ I64 v.kind ∧ I64 v.num ∧ v.text.size ≤ maxLen := by
  obtain ⟨_, _, rfl, ⟨rfl, h1⟩, _, _, rfl, ⟨rfl, h2⟩, rfl, h3⟩ := h
  exact ⟨rfl, h1, h2, h3⟩

theorem sl_i64 {M : List Nat} {w : World} {p : Option Addr} {l : List ValD} (h : Sl M w p l) : ∀ v ∈ l, (I64 v.kind ∧ I64 v.num) ∧ v.text.size ≤ maxLen := by
  intro v hv
  obtain ⟨i, hi, rfl⟩ := List.getElem_of_mem hv
  obtain ⟨_, _, _, _, _, _, hr⟩ := h i hi
  obtain ⟨_, h1, h2, h3⟩ := rep_val hr
  exact ⟨⟨h1, h2⟩, h3⟩

abbrev tabN : String := ((Rows.deltaGroupRow.laid.map Prod.fst).drop 2).headD default
/-- the table of the powers of ten lies there -/
abbrev TabI : PW := Tab Tryd.prog tabN .u64 Lib.pow10Tab

theorem Itoa_in {Φ : PW} [Stable Φ] (hΦ : ∀ M w, Φ M w → TabI M w) (n : Int) (h : I64 n) : GivesIn Φ Tryd.prog F.strconv_Itoa #[.int .i64 n] (.string (numB n)) :=
  itoa_in (name := tabN) (fun n h0 h1 w ht => Any.strconv_Itoa Tryd.laysM171 n h0 h1 w ht) hΦ n h

theorem Itoa_small (i : Nat) (hi : i < 100) : Gives Tryd.prog F.strconv_Itoa #[.int .i64 i] (.string (numB i)) :=
  Quiet.gives ⟨fun w => by
    have h := Any.strconv_Itoa_small { Tryd.lays171 with } i hi w
    rw [← Lib.itoa_nonneg] at h
    exact h⟩

/-- ints that the library writes: at these places, or small ones -/
def Dec (Φ : PW) (n : Int) : Prop := (∀ M w, Φ M w → TabI M w) ∧ I64 n ∨ ∃ i : Nat, i < 100 ∧ n = i

theorem Itoa_dec {Φ : PW} [Stable Φ] {n : Int} (h : Dec Φ n) : GivesIn Φ Tryd.prog F.strconv_Itoa #[.int .i64 n] (.string (numB n)) := by
  rcases h with ⟨h1, h2⟩ | ⟨i, hi, rfl⟩
  · exact Itoa_in h1 n h2
  · exact (Itoa_small i hi).in
theorem Dec.i64 {Φ : PW} {n : Int} (h : Dec Φ n) : I64 n := by
  rcases h with ⟨_, h2⟩ | ⟨i, hi, rfl⟩
  · exact h2
  · unfold I64; omega

theorem Int_in {Φ : PW} [Stable Φ] {n : Int} (h : Dec Φ n) : GivesIn Φ Tryd.prog F.wire_Int #[.int .i64 n] (.string (intB n)) := by
  refine gives_in (Bwire_Int_run n) fun W R => ?_
  have := numB_size h.i64
  exact fun w G cx => (Itoa_dec h).use cx fun w cx => ⟨_, rfl, R, Φ, inferInstance, cx, by show (numB n).size + 1 ≤ _; omega, fun w G cx => ⟨rfl, cx.left⟩⟩

theorem Num_in {Φ : PW} [Stable Φ] {n : Int} (h : Dec Φ n) : GivesIn Φ Tryd.prog F.wire_Num #[.int .i64 n] (.string (natB n)) := by
  refine gives_in (Bwire_Num_run n) fun W R => Br.intro (fun hn => fun w G cx => ⟨?_, cx.left⟩) (fun hn => fun w G cx => (Int_in h).use cx fun w cx => ⟨_, rfl, R, Φ, inferInstance, cx, fun w G cx => ⟨?_, cx.left⟩⟩)
  · unfold natB; rw [if_pos (of_decide_eq_true hn)]
  · unfold natB; rw [if_neg (of_decide_eq_false hn)]

theorem Text_in {Φ : PW} [Stable Φ] {s : ByteArray} (h : Dec Φ s.size) (hs : s.size ≤ 1000000000000) : GivesIn Φ Tryd.prog F.wire_Text #[.string s] (.string (textB s)) := by
  refine gives_in (Bwire_Text_run s) fun W R => ?_
  have h1 := numB_size h.i64
  have e : (ByteArray.mk #[58]).size = 1 := rfl
  have e2 : (ByteArray.mk #[44]).size = 1 := rfl
  exact fun w G cx => (Itoa_dec h).use cx fun w cx => ⟨_, rfl, R, Φ, inferInstance, cx, by show (numB s.size).size + 1 ≤ _; omega, by show (numB s.size ++ ByteArray.mk #[58]).size + s.size ≤ _; rw [size_app, e]; omega, by show (numB s.size ++ ByteArray.mk #[58] ++ s).size + 1 ≤ _; rw [size_app, size_app, e]; omega, fun w G cx => ⟨rfl, cx.left⟩⟩

theorem Bytes_in {Φ : PW} [Stable Φ] (v : ValD) (hΦ : ∀ M w, Φ M w → TabI M w) (h1 : I64 v.kind) (h2 : I64 v.num) (hs : v.text.size ≤ 1000000000000) : GivesIn Φ Tryd.prog F.value_Bytes #[v.v] (.string (valB v)) := by
  refine gives_in (Bvalue_Bytes_run v.kind v.num v.text) fun W R => ?_
  have a := intB_size h1
  have b := intB_size h2
  have c := textB_size (s := v.text) (by omega)
  exact fun _ => ⟨R, Φ, inferInstance, fun w G cx => cx, fun w G cx => (Int_in (.inl ⟨hΦ, h1⟩)).use cx fun w cx => ⟨_, rfl, R, Φ, inferInstance, cx, fun w G cx => cx, fun w G cx => (Int_in (.inl ⟨hΦ, h2⟩)).use cx fun w cx => ⟨_, rfl, R, Φ, inferInstance, cx, fun w G cx => cx, by show (intB v.kind).size + (intB v.num).size ≤ _; omega,
    fun w G cx => (Text_in (.inl ⟨hΦ, by unfold I64; omega⟩) hs).use cx fun w cx => ⟨_, rfl, R, Φ, inferInstance, cx, fun w G cx => cx, by show (intB v.kind ++ intB v.num).size + (textB v.text).size ≤ _; rw [size_app]; omega, fun w G cx => ⟨rfl, cx.left⟩⟩⟩⟩⟩

theorem RowBytes_in {Φ : PW} [Stable Φ] (p : Option Addr) (cap : Nat) (r : List ValD) (hT : ∀ M w, Φ M w → TabI M w) (hΦ : ∀ M w, Φ M w → Sl M w p r) (hr : r.length ≤ 1000000) (ht : ∀ v ∈ r, v.text.size ≤ 10000) :
    GivesIn Φ Tryd.prog F.value_RowBytes #[.slice p r.length cap] (.string (rowB r)) := by
  refine .there (fun M w h => (hΦ M w h).there) fun hth => .know (fun M w h => sl_i64 (hΦ M w h)) fun hi => ?_
  have hv : ∀ v ∈ r, (I64 v.kind ∧ I64 v.num) ∧ v.text.size ≤ 10000 := fun v h => ⟨(hi v h).1, ht v h⟩
  have hL := rowL_len hv (by decide) hr
  have hL : (rowL r).length ≤ 20000000000 := by
    have : r.length * (10000 + 64) ≤ 1000000 * 10064 := Nat.mul_le_mul hr (Nat.le_refl _)
    omega
  have hnat : (natB r.length).data.toList.length ≤ 20000000000 := by unfold rowL at hL; rw [List.length_append] at hL; omega
  refine gives_in (Bvalue_RowBytes_run p r.length cap) fun W R => ?_
  refine fun b w G cx => (Num_in (Φ := Φ) (.inl ⟨hT, by unfold I64; omega⟩)).use cx fun w cx => ⟨_, rfl, .blk b [.pointer none, .slice none 0 0] 79 :: R, Φ, inferInstance, cx, fun w G cx => ?_⟩
  refine WriteString_use (natB r.length) Bd.nil (Bd.fresh cx) (by rw [← list_size]; simp only [List.length_nil]; omega) fun R1 w hB cx => ⟨_, _, rfl, R1 ++ R, Φ, inferInstance, by rw [List.append_assoc]; exact cx, ?_⟩
  rw [List.nil_append] at hB
  clear cx
  refine exI_mk (fun iI R' Φ' k => ∃ (i : Nat) (Q : List Own), iI = i ∧ i ≤ r.length ∧ BdT b ((natB r.length).data.toList ++ valsL (r.take i)) Q ∧ R' = Q ++ R ∧ Φ' = Φ ∧ k = r.length - i) ⟨⟨_, Φ, _, inferInstance, fun w G cx => cx, 0, R1, rfl, Nat.zero_le _, by rw [List.take_zero, show valsL [] = [] from rfl, List.append_nil]; exact hB, rfl, rfl, rfl⟩, ?_⟩
  rintro iI R2 Φ2 k _ ⟨i, Q, rfl, hi, hQ, rfl, rfl, rfl⟩
  refine Br.intro (fun hlt => ?_) (fun hge => fun w G cx => ?_)
  · have hlt : i < r.length := by have := of_decide_eq_true hlt; omega
    obtain ⟨g, o, rfl⟩ := hth (by omega)
    obtain ⟨⟨h1, h2⟩, h3⟩ := hv r[i] (List.getElem_mem hlt)
    have hsz := valB_size h1 h2 (by omega)
    have hlen : ((natB r.length).data.toList ++ valsL (r.take (i + 1))).length ≤ 20000000000 := by
      have e : valsL r = valsL (r.take (i + 1)) ++ valsL (r.drop (i + 1)) := by rw [← valsL_app, List.take_append_drop]
      unfold rowL at hL
      rw [e, List.length_append, List.length_append] at hL
      rw [List.length_append]; omega
    have hstep : valsL (r.take (i + 1)) = valsL (r.take i) ++ (valB r[i]).data.toList := by rw [List.take_succ_eq_append_getElem hlt, valsL_app, valsL_one]
    refine ⟨by omega, ptrK_intro g o rfl fun w G cx => ⟨r[i].kind, r[i].num, r[i].text, by rw [Int.toNat_natCast]; exact sl_val (hΦ _ _ cx.phi) hlt, fun _ w G cx => (Bytes_in (Φ := Φ2) r[i] hT h1 h2 (by omega)).use cx fun w cx => ⟨_, rfl, Q ++ R, Φ2, inferInstance, cx, fun w G cx => ?_⟩⟩⟩
    refine WriteString_use (valB r[i]) hQ (cx.re (List.append_assoc _ _ _)) (by rw [hstep, ← List.append_assoc, List.length_append, list_size] at hlen; omega) fun Q' w hQ' cx => ⟨_, _, rfl, Q' ++ R, Φ2, inferInstance, by rw [List.append_assoc]; exact cx, by unfold I64; omega, _, Φ2, r.length - (i + 1), inferInstance, fun w G cx => cx, ⟨i + 1, Q', by omega, hlt, ?_, rfl, rfl, rfl⟩, by omega⟩
    rw [hstep, ← List.append_assoc]; exact hQ'
  · have hge : i = r.length := by have := of_decide_eq_false hge; omega
    subst hge
    rw [List.take_length] at hQ
    exact String_use hQ (cx.re (List.append_assoc _ _ _)) fun w cx => ⟨_, rfl, R, Φ2, inferInstance, cx, fun w G cx => ⟨rfl, cx.left⟩⟩

end Go.Proofs.YtnapfhbibikbiaaDoor
end

/-
  Find, IndexFunc, walked.
-/
section
set_option linter.unusedVariables false
set_option linter.unusedSimpArgs false
namespace Go.Proofs.YtnapfhbibikbiaaDoor
open Go.Vc


/-! ### Find, Count -/
theorem sumK_step {l : List DeltaD} {i : Nat} (h : i < l.length) (k : Key) : sumK (l.take (i + 1)) k = sumK (l.take i) k + (if l[i].key = k then l[i].n else 0) := by
  rw [List.take_succ_eq_append_getElem h, sumK_app]
  simp only [sumK, Int.add_zero]

theorem Find_pin {Φ : PW} [Stable Φ] (p : Option Addr) (cap : Nat) (l : List DeltaD) (time : Int) (q : Option Addr) (cap2 : Nat) (row : List ValD) (g o : Nat) (cs : List (List Value)) (hp : 0 < l.length → p = some ⟨g, o, none⟩) (hΦ : ∀ M w, Φ M w → Pin g o cs l M w) (hΨ : ∀ M w, Φ M w → Sl M w q row)
    (hlen : l.length ≤ 9223372036854775807) : GivesIn Φ Tryd.prog F.delta_Find #[.slice p l.length cap, .int .i64 time, .slice q row.length cap2] (.int .i64 (findP l (time, row))) := by
  refine in_cells hΦ fun hcs => ?_
  refine gives_in (Bdelta_Find_run p l.length cap time q row.length cap2) fun W R => ?_
  refine exI_mk (fun n iI R' Φ' k => ∃ i : Nat, iI = i ∧ i ≤ l.length ∧ n = findP (l.take i) (time, row) ∧ R' = R ∧ Φ' = Φ ∧ k = l.length - i) ⟨⟨R, Φ, _, inferInstance, fun w F c => c, 0, rfl, Nat.zero_le _, rfl, rfl, rfl, rfl⟩, ?_⟩
  rintro n iI R1 Φ1 k _ ⟨i, rfl, hi, rfl, rfl, rfl, rfl⟩
  refine Br.intro (fun hlt => ?_) (fun hge => fun w F cx => ⟨?_, cx.left⟩)
  · have hlt : i < l.length := by have := of_decide_eq_true hlt; omega
    obtain ⟨r, rc, he, f1, f2, _, _⟩ := hcs i hlt
    have hcall := compareD_in (Φ := Φ1) l[i] ⟨time, row, 0⟩ r q rc cap2 (fun M w h => pin_row (hΦ M w h) hlt he) (fun M w h => hΨ M w h) (len_max f1 f2)
    refine ⟨by omega, ptrK_intro g o (hp (by omega)) fun w G cx => ⟨l[i].time, r, l[i].row.length, rc, l[i].n, by rw [Int.toNat_natCast]; exact pin_rowAt (hΦ _ _ cx.phi) hlt he, fun _ w G cx => hcall.use cx fun w cx => ⟨_, rfl, R1, Φ1, inferInstance, cx,
      Br.intro (fun h => ⟨by unfold I64; omega, R1, Φ1, l.length - (i + 1), inferInstance, fun w F c => c, ⟨i + 1, rfl, hlt, ?_, rfl, rfl, rfl⟩, by omega⟩) (fun h => ⟨by unfold I64; omega, R1, Φ1, l.length - (i + 1), inferInstance, fun w F c => c, ⟨i + 1, rfl, hlt, ?_, rfl, rfl, rfl⟩, by omega⟩)⟩⟩⟩
    · have h := of_decide_eq_true h
      rw [cmpD_key] at h
      have hk : l[i].key = (time, row) := (cmpK_cmp.eq _ _).1 h
      unfold findP
      rw [sumK_step hlt, if_pos hk]
      exact w64_l _ _
    · have h := of_decide_eq_false h
      rw [cmpD_key] at h
      have hk : ¬ l[i].key = (time, row) := fun e => h ((cmpK_cmp.eq _ _).2 e)
      unfold findP
      rw [sumK_step hlt, if_neg hk, Int.add_zero]
  · have hge : i = l.length := by have := of_decide_eq_false hge; omega
    rw [hge, List.take_length]

theorem Find_in {Φ : PW} [Stable Φ] (p : Option Addr) (cap : Nat) (l : List DeltaD) (time : Int) (q : Option Addr) (cap2 : Nat) (row : List ValD) (hΦ : ∀ M w, Φ M w → Sl M w p l) (hΨ : ∀ M w, Φ M w → Sl M w q row)
    (hlen : l.length ≤ 9223372036854775807) : GivesIn Φ Tryd.prog F.delta_Find #[.slice p l.length cap, .int .i64 time, .slice q row.length cap2] (.int .i64 (findP l (time, row))) :=
  .pinned hΦ fun g o cs hp => Find_pin (Φ := fun M w => Φ M w ∧ Pin g o cs l M w) p cap l time q cap2 row g o cs hp (fun M w h => h.2) (fun M w h => hΨ M w h.1) hlen

def findI {α : Type} (p : α → Bool) : Nat → List α → Int
  | _, [] => -1
  | i, x :: r => if p x = true then (i : Int) else findI p (i + 1) r

theorem findI_drop {α : Type} (p : α → Bool) (l : List α) (i : Nat) (hi : i < l.length) : findI p i (l.drop i) = if p l[i] = true then (i : Int) else findI p (i + 1) (l.drop (i + 1)) := by
  rw [List.drop_eq_getElem_cons hi]; rfl
theorem findI_any {α : Type} (p : α → Bool) : ∀ (l : List α) (i : Nat), decide (0 ≤ findI p i l) = l.any p
  | [], _ => rfl
  | x :: r, i => by
    unfold findI
    rw [List.any_cons]
    cases h : p x with
    | true => simp
    | false => simp only [Bool.false_or]; rw [if_neg (by simp)]; exact findI_any p r (i + 1)

theorem IndexD_in {Φ : PW} [Stable Φ] (p : Option Addr) (cap : Nat) (l : List DeltaD) (b o : Nat) (cs : List (List Value)) (f : FuncId) (cp : Array Value) (q : DeltaD → Bool) (hp : 0 < l.length → p = some ⟨b, o, none⟩) (hΦ : ∀ M w, Φ M w → Pin b o cs l M w) (hlen : l.length ≤ 9223372036854775807) (hf : okFun Tryd.prog f = true)
    (hq : ∀ j, (hj : j < l.length) → ∀ r c, cs.getD j [] = l[j].cells r c → l[j].row.length ≤ c → c ≤ maxLen → GivesIn Φ Tryd.prog f (Array.mk (l[j].v r c :: cp.toList)) (.bool (q l[j]))) :
    GivesIn Φ Tryd.prog F.slices_IndexFunc_api_Delta_api_Delta #[.slice p l.length cap, .func (.func f) #[] cp] (.int .i64 (findI q 0 l)) := by
  refine in_cells hΦ fun hcs => ?_
  refine gives_in (Bslices_IndexFunc_api_Delta_api_Delta_run p l.length cap f cp) fun W R => ?_
  refine exI_mk (fun n R' Φ' k => ∃ i : Nat, n = i ∧ i ≤ l.length ∧ R' = R ∧ Φ' = Φ ∧ k = l.length - i ∧ findI q 0 l = findI q i (l.drop i)) ⟨⟨R, Φ, _, inferInstance, fun w F c => c, 0, rfl, Nat.zero_le _, rfl, rfl, rfl, rfl⟩, ?_⟩
  rintro n R1 Φ1 k _ ⟨i, rfl, hi, rfl, rfl, rfl, hor⟩
  refine Br.intro (fun hlt => ?_) (fun hge => fun w F cx => ⟨?_, cx.left⟩)
  · have hlt : i < l.length := by simpa using hlt
    rw [findI_drop q l i hlt] at hor
    obtain ⟨r, rc, he, hq1, hq2, _, _⟩ := hcs i hlt
    refine ⟨by omega, ptrK_intro b o (hp (by omega)) fun w F cx => ⟨_, r, _, rc, _, by rw [Int.toNat_natCast]; exact pin_rowAt (hΦ _ _ cx.phi) hlt he, fun w F cx => ⟨hf, (hq i hlt r rc he hq1 hq2).use cx fun w cx => ⟨_, rfl, R1, Φ1, inferInstance, cx, Br.intro (fun h => fun w F cx => ⟨?_, cx.left⟩) (fun h => ⟨by unfold I64; omega, R1, Φ1, l.length - (i + 1), inferInstance, fun w F c => c, ⟨i + 1, rfl, hlt, rfl, rfl, rfl, ?_⟩, by omega⟩)⟩⟩⟩⟩
    · rw [hor, if_pos h]
    · rw [hor, if_neg (by rw [h]; simp)]
  · have hge : i = l.length := Nat.le_antisymm hi (by simpa using hge)
    rw [hor, hge, List.drop_length]
    rfl

end Go.Proofs.YtnapfhbibikbiaaDoor
end

/-
  DeleteFunc, Upto, After, walked.
-/
section
set_option linter.unusedVariables false
set_option linter.unusedSimpArgs false
namespace Go.Vc
section
variable {P : Program} {W w w' : World} {S F : List Own} {Φ Ψ : PW}

/-- only the first elements -/
theorem Ctx.bufShrink [Stable Φ] {p : Option Addr} {n cap : Nat} {cs : List Value} {t : TypeId} {size : Nat} (c : Ctx W w (.buf p n cap cs t size :: S) Φ) {i : Nat} (hi : i ≤ n) : Ctx W w (.buf p i cap (cs.take (i * size)) t size :: S) Φ := by
  obtain ⟨hl, hn, hm⟩ := c.bufLen 0 rfl
  have hle : i * size ≤ n * size := Nat.mul_le_mul_right _ hi
  have hown := c.own _ List.mem_cons_self
  refine c.upd (k := 0) (o' := .buf p i cap (cs.take (i * size)) t size) rfl (Chg.refl _ _) (fun b hb => .inl ?_) (by cases p <;> simp [Own.dom]) ⟨by rw [List.length_take]; omega, ?_⟩
  · cases p <;> exact hb
  · rcases hown.2 with ⟨e, rfl⟩ | ⟨g, cap', cur, e, h1, h2, h3, h4, h5, h6⟩
    · cases e
      have : i = 0 := by omega
      subst this
      exact .inl ⟨rfl, rfl⟩
    · cases e
      refine .inr ⟨g, cap, cur, rfl, h1, h2, by omega, h4, h5, ?_⟩
      rw [← h6, List.take_take, Nat.min_eq_left hle]

theorem run_clr {ats : Array TypeId} {ty : TypeId} {cs : Array Bool} {args : Array Value} {v : Value} {w w' : World} (h : (Builtin.clear_ ats ty args).run P w = .ok v w') : Sem.run P (builtin Builtin.clear ats ty cs args) w = .ok (.value v) w' := by
  unfold builtin
  simp only [Sem.run_bind, h, Result.andThen, Sem.run_pure]

/-- clear of a slice of elements of several cells -/
theorem run_clear_cells (w : World) (t e ty : TypeId) (z : Value) (ht : P.underlying t = some (.slice e)) (hv : ∀ w, (zeroValue e).run P w = .ok z w) (h1 : ∀ v ∈ z.cells, v.oneCell' = true) (hp : 0 < z.cells.size) (b o n c : Nat) (hn : 0 < n)
    (hc : ∀ j, j < n * z.cells.size → (w.cell? ⟨b, o + j, none⟩).isSome = true) (hf : ∀ j, j < n * z.cells.size → w.frozen? ⟨b, o + j, none⟩ = false) :
    (Builtin.clear_ #[t] ty #[.slice (some ⟨b, o, none⟩) n c]).run P w = .ok (.tuple #[]) (w.setCells b o (Builtin.zeroCells z.cells n).toList) := by
  have hl : (Builtin.zeroCells z.cells n).toList.length = n * z.cells.size := by simp [Builtin.zeroCells]
  have hst := run_storeCells_cells (P := P) b o (Builtin.zeroCells z.cells n).toList 0 w (by rw [hl]; simpa using hc) (by rw [hl]; simpa using hf) (fun v hv' => by
    simp only [Builtin.zeroCells, Array.toList_map, List.mem_map] at hv'
    obtain ⟨i, _, rfl⟩ := hv'
    have hlt : i % z.cells.size < z.cells.size := Nat.mod_lt _ hp
    rw [getElem!_pos z.cells _ hlt]
    exact h1 _ (Array.getElem_mem hlt))
  simp only [Nat.add_zero] at hst
  obtain ⟨m, rfl⟩ : ∃ m, n = m + 1 := ⟨n - 1, by omega⟩
  simp [Builtin.clear_, run_underlying ht, hv, hst]

theorem setL_low (cs vs : List Value) (n : Nat) : (setL cs n vs).take n = cs.take n := by
  apply List.ext_getElem?
  intro i
  by_cases hi : i < n
  · rw [List.getElem?_take_of_lt hi, List.getElem?_take_of_lt hi, setL_get _ _ _ _ (.inl hi)]
  · rw [List.getElem?_eq_none (by rw [List.length_take]; omega), List.getElem?_eq_none (by rw [List.length_take]; omega)]
end
end Go.Vc

namespace Go.Proofs.YtnapfhbibikbiaaDoor
open Go.Vc


theorem IndexE_use {W w : World} {S : List Own} {Φ : PW} [Stable Φ] {p : Option Addr} {cap : Nat} {es : List DE} (c : Ctx W w (bufE p cap es :: S) Φ) (f : FuncId) (cp : Array Value) (q : DE → Bool) (hlen : es.length ≤ 1000000) (hf : okFun Tryd.prog f = true)
    (hq : ∀ x ∈ es, GivesIn Φ Tryd.prog f (Array.mk (x.v :: cp.toList)) (.bool (q x))) {K : Ending → World → Prop} (hk : ∀ w', Ctx W w' (bufE p cap es :: S) Φ → K (.returned (.int .i64 (findI q 0 es))) w') :
    Calls Tryd.prog F.slices_IndexFunc_api_Delta_api_Delta #[.slice p es.length cap, .func (.func f) #[] cp] w K := by
  refine (Bslices_IndexFunc_api_Delta_api_Delta_run p es.length cap f cp (J := fun u w' => K (.returned u) w') c ?_).mono fun e w' ⟨v, he, hj⟩ => by rw [he]; exact hj
  refine exI_mk (fun n R' Φ' m => ∃ i : Nat, n = i ∧ i ≤ es.length ∧ R' = bufE p cap es :: S ∧ Φ' = Φ ∧ m = es.length - i ∧ findI q 0 es = findI q i (es.drop i)) ⟨⟨_, Φ, _, inferInstance, fun w F c => c, 0, rfl, Nat.zero_le _, rfl, rfl, rfl, rfl⟩, ?_⟩
  rintro n R1 Φ1 m _ ⟨i, rfl, hi, rfl, rfl, rfl, hor⟩
  refine Br.intro (fun hlt => ?_) (fun hge => fun w G cx => ?_)
  · have hlt : i < es.length := by simpa using hlt
    rw [findI_drop q es i hlt] at hor
    have hpg : ∃ g, p = some ⟨g, 0, none⟩ := e_ptr c (by omega)
    obtain ⟨g, rfl⟩ := hpg
    obtain ⟨X, hX⟩ : ∃ X, es[i]? = some X := ⟨_, List.getElem?_eq_getElem hlt⟩
    have hXe : es[i] = X := by rw [List.getElem?_eq_getElem hlt] at hX; exact Option.some.inj hX
    rw [hXe] at hor
    refine ⟨by omega, ptrK_intro g 0 rfl fun w G cx => ⟨X.d.time, X.p, X.d.row.length, X.c, X.d.n, by rw [Int.toNat_natCast, Nat.zero_add]; exact e_row cx hX, fun w G cx => ⟨hf, (hq X (List.mem_of_getElem? hX)).use cx fun w cx => ⟨_, rfl, _, Φ1, inferInstance, cx, Br.intro (fun h => fun w G cx => ?_) (fun h => ⟨by unfold I64; omega, _, Φ1, es.length - (i + 1), inferInstance, fun w F c => c, ⟨i + 1, rfl, hlt, rfl, rfl, rfl, ?_⟩, by omega⟩)⟩⟩⟩⟩
    · have := hk w cx.left
      rw [hor, if_pos h] at this
      exact this
    · rw [hor, if_neg (by rw [h]; simp)]
  · have hge : i = es.length := Nat.le_antisymm hi (by simpa using hge)
    have := hk w cx.left
    rw [hor, hge, List.drop_length] at this
    exact this

theorem findI_none {α : Type} (q : α → Bool) : ∀ (l : List α) (i : Nat), l.any q = false → findI q i l = -1
  | [], _, _ => rfl
  | x :: r, i, h => by
    rw [List.any_cons, Bool.or_eq_false_iff] at h
    unfold findI
    rw [if_neg (by rw [h.1]; simp)]
    exact findI_none q r (i + 1) h.2
theorem findI_some {α : Type} (q : α → Bool) : ∀ (l : List α) (i : Nat), l.any q = true → ∃ j : Nat, findI q i l = ((i + j : Nat) : Int) ∧ ∃ h : j < l.length, q l[j] = true ∧ ∀ x ∈ l.take j, q x = false
  | [], i, h => by simp at h
  | x :: r, i, h => by
    cases hx : q x with
    | true => exact ⟨0, by unfold findI; rw [if_pos hx]; rfl, by simp, by simpa using hx, by simp⟩
    | false =>
      rw [List.any_cons, hx, Bool.false_or] at h
      obtain ⟨j, h1, h2, h3, h4⟩ := findI_some q r (i + 1) h
      refine ⟨j + 1, ?_, by simp; omega, by simpa using h3, fun y hy => ?_⟩
      · unfold findI; rw [if_neg (by rw [hx]; simp), h1]; congr 1; omega
      · rw [List.take_succ_cons] at hy
        rcases List.mem_cons.1 hy with rfl | hy
        · exact hx
        · exact h4 y hy

theorem zeroD : ∀ w : World, (zeroValue 39).run Tryd.prog w = .ok (.agg #[.int .i64 0, .slice none 0 0, .int .i64 0]) w := fun w => by kernel_rfl

set_option maxHeartbeats 2000000 in
/-- what is left after DeleteFunc -/
theorem DeleteE_use {W w : World} {S : List Own} {Φ : PW} [Stable Φ] {p : Option Addr} {cap : Nat} {es : List DE} (c : Ctx W w (bufE p cap es :: S) Φ) (f : FuncId) (cp : Array Value) (q : DE → Bool) (hlen : es.length ≤ 1000000) (hf : okFun Tryd.prog f = true)
    (hq : ∀ x ∈ es, GivesIn Φ Tryd.prog f (Array.mk (x.v :: cp.toList)) (.bool (q x))) {K : Ending → World → Prop}
    (hk : ∀ w', Ctx W w' (bufE p cap (es.filter fun x => !q x) :: S) Φ → K (.returned (.slice p (es.filter fun x => !q x).length cap)) w') :
    Calls Tryd.prog F.slices_DeleteFunc_api_Delta_api_Delta #[.slice p es.length cap, .func (.func f) #[] cp] w K := by
  have hcap : es.length ≤ cap := (c.bufLen 0 rfl).2.1
  have hp : 0 < es.length → ∃ g, p = some ⟨g, 0, none⟩ := fun h => e_ptr c h
  refine (Bslices_DeleteFunc_api_Delta_api_Delta_run p es.length cap f cp (J := fun u w' => K (.returned u) w') c ?_).mono fun e w' ⟨v, he, hj⟩ => by rw [he]; exact hj
  refine fun w G cx => IndexE_use (S := S ++ G) cx f cp q hlen hf hq fun w cx => ⟨_, rfl, bufE p cap es :: S, Φ, inferInstance, cx, ?_⟩
  cases hsome : es.any q with
  | false =>
    rw [findI_none q es 0 hsome]
    have hfil : (es.filter fun x => !q x) = es := List.filter_eq_self.2 fun x hx => by
      have := List.any_eq_false.1 hsome x hx
      simpa using this
    rw [hfil] at hk
    exact Br.intro (fun _ => fun w G cx => hk w cx.left) (fun h => by exfalso; revert h; decide)
  | true =>
  obtain ⟨j0, hj0, hj1, hj2, hj3⟩ := findI_some q es 0 hsome
  rw [Nat.zero_add] at hj0
  obtain ⟨g, rfl⟩ := hp (by omega)
  rw [hj0]
  refine Br.intro (fun h => by have := of_decide_eq_true h; omega) (fun _ => ⟨by unfold I64; omega, ?_⟩)
  have hfil : (es.take j0).filter (fun x => !q x) = es.take j0 := List.filter_eq_self.2 fun x hx => by rw [hj3 x hx]; rfl
  have hstart : (es.take (j0 + 1)).filter (fun x => !q x) = es.take j0 := by
    rw [List.take_succ_eq_append_getElem hj1, List.filter_append, hfil]
    simp [hj2]
  clear cx
  refine exI_mk (fun a n R' Φ' m => ∃ (i j : Nat) (ds : List DE), a = i ∧ n = j ∧ j ≤ es.length ∧ i < j ∧ R' = bufE (some ⟨g, 0, none⟩) cap ds :: S ∧ Φ' = Φ ∧ m = es.length - j ∧ ds.length = es.length ∧ i = ((es.take j).filter fun x => !q x).length ∧ ds.take i = ((es.take j).filter fun x => !q x) ∧ ds.drop j = es.drop j)
    ⟨⟨_, Φ, _, inferInstance, fun w G cx => cx, j0, j0 + 1, es, rfl, by omega, by omega, by omega, rfl, rfl, rfl, rfl, by rw [hstart]; simp; omega, by rw [hstart], rfl⟩, ?_⟩
  rintro _ _ R1 Φ1 m _ ⟨i, j, ds, rfl, rfl, hjl, hij, rfl, rfl, rfl, hcl, hi, hct, hcd⟩
  refine Br.intro (fun hlt => ?_) (fun hge => ?_)
  · have hlt : j < es.length := by simpa using hlt
    have hcj : ds[j]? = some es[j] := by
      have : (ds.drop j)[0]? = (es.drop j)[0]? := by rw [hcd]
      rw [List.getElem?_drop, List.getElem?_drop, Nat.add_zero, List.getElem?_eq_getElem hlt] at this
      exact this
    have hts : (es.take (j + 1)).filter (fun x => !q x) = (es.take j).filter (fun x => !q x) ++ (if q es[j] = true then [] else [es[j]]) := by
      rw [List.take_succ_eq_append_getElem hlt, List.filter_append]
      refine congrArg (fun z => (es.take j).filter (fun x => !q x) ++ z) ?_
      cases h : q es[j] <;> simp [h]
    have hnext : ∀ ds' : List DE, ds'.drop j = es.drop j → ds'.drop (j + 1) = es.drop (j + 1) := fun ds' h => by
      have := congrArg (List.drop 1) h
      rwa [List.drop_drop, List.drop_drop] at this
    obtain ⟨X, hX⟩ : ∃ X, es[j] = X := ⟨_, rfl⟩
    have hXm : X ∈ es := by rw [← hX]; exact List.getElem_mem hlt
    rw [hX] at hcj hts
    refine ⟨by omega, ptrK_intro g 0 rfl fun w G cx => ⟨X.d.time, X.p, X.d.row.length, X.c, X.d.n, by rw [Int.toNat_natCast, Nat.zero_add]; exact e_row cx hcj, fun _ w G cx => ⟨hf, (hq X hXm).use cx fun w cx => ⟨_, rfl, _, Φ1, inferInstance, cx, Br.intro (fun h => ⟨by omega, ptrK_intro g 0 rfl fun w G cx => ⟨by rw [Int.toNat_natCast, Nat.zero_add]; exact e_can cx (by omega), fun w' hw' => ?_⟩⟩) (fun h => ?_)⟩⟩⟩⟩
    · rw [Int.toNat_natCast, Nat.zero_add] at hw'
      have cx1 := e_put cx (i := i) (by omega) X hw'
      have h : q X = false := by simpa using h
      rw [if_neg (by rw [h]; simp)] at hts
      refine ⟨bufE (some ⟨g, 0, none⟩) cap (ds.set i X) :: S, Φ1, inferInstance, cx1, by unfold I64; omega, by unfold I64; omega, _, Φ1, es.length - (j + 1), inferInstance, fun w G cx => cx, ⟨i + 1, j + 1, ds.set i X, by omega, by omega, hlt, by omega, rfl, rfl, rfl, by simp [hcl], by rw [hts, List.length_append, ← hi]; rfl, ?_, hnext _ ?_⟩, by omega⟩
      · rw [hts, ← hct, List.take_succ_eq_append_getElem (by simp [hcl]; omega), List.take_set_of_le (Nat.le_refl _), List.getElem_set_self]
      · rw [List.drop_set_of_lt (by omega)]; exact hcd
    · have h : q X = true := by simpa using h
      rw [if_pos h, List.append_nil] at hts
      exact ⟨by unfold I64; omega, _, Φ1, es.length - (j + 1), inferInstance, fun w G cx => cx, ⟨i, j + 1, ds, rfl, by omega, hlt, by omega, rfl, rfl, rfl, hcl, by rw [hts]; exact hi, by rw [hts]; exact hct, hnext _ hcd⟩, by omega⟩
  · have hge : j = es.length := Nat.le_antisymm hjl (by simpa using hge)
    subst hge
    rw [List.take_length] at hi hct
    refine ⟨by omega, fun w G cx => ?_⟩
    have hne : ¬ cap = i := by omega
    have hsub : subPtr (some ⟨g, 0, none⟩) 3 (i : Int).toNat cap = some ⟨g, i * 3, none⟩ := by
      unfold subPtr
      rw [Int.toNat_natCast, if_neg hne, Option.map_some]
      refine congrArg some ?_
      unfold Addr.add
      split
      · rename_i h; rw [h]
      · show Addr.mk g (0 + i * 3) none = _
        rw [Nat.zero_add]
    rw [hsub, Int.toNat_natCast]
    have hcan : CanWrite w g (i * 3) ((es.length - i) * 3) := cx.bufCan 0 rfl rfl (by rw [cellsE_len, hcl]; omega)
    have hrun := run_clear_cells (P := Tryd.prog) w 22 39 0 (.agg #[.int .i64 0, .slice none 0 0, .int .i64 0]) Tryd.underlying22 zeroD (by decide) (by decide) g (i * 3) (es.length - i) (cap - i) (by omega) (fun t ht => (hcan t ht).1) (fun t ht => (hcan t ht).2)
    have hzl : (Builtin.zeroCells (Value.agg #[.int .i64 0, .slice none 0 0, .int .i64 0]).cells (es.length - i)).toList.length = (es.length - i) * 3 := by
      simp only [Builtin.zeroCells, Array.toList_map, List.length_map]
      rw [Array.length_toList, Array.size_range]; rfl
    have cx1 := cx.bufPuts 0 rfl rfl (by rw [cellsE_len, hcl]; omega) (by rw [cellsE_len, hcl, hzl]; omega) (w' := w.setCells g (i * 3) (Builtin.zeroCells (Value.agg #[.int .i64 0, .slice none 0 0, .int .i64 0]).cells (es.length - i)).toList) rfl
    have cx2 := Ctx.bufShrink (i := i) cx1 (by omega)
    rw [setL_low, cellsE_take, hct] at cx2
    have hlf : (es.filter fun x => !q x).length = i := hi.symm
    have e2 : subPtr (some ⟨g, 0, none⟩) 3 0 cap = some ⟨g, 0, none⟩ := by
      unfold subPtr
      split
      · rfl
      · simp [Addr.add]
    refine ⟨_, run_clr hrun, bufE (some ⟨g, 0, none⟩) cap (es.filter fun x => !q x) :: S, Φ1, inferInstance, by unfold bufE; rw [hlf]; exact cx2, by omega, fun w G cx => ?_⟩
    rw [e2, ← hlf]
    exact hk w cx.left

/-! ### Upto, After -/
/-- a captured int -/
theorem late1_in {Φ : PW} [Stable Φ] (x : DeltaD) (p : Option Addr) (cap : Nat) (k : Nat) (t : Int) (hΦ : ∀ M w, Φ M w → w.cell? ⟨k, 0, none⟩ = some (.int .i64 t)) : GivesIn Φ Tryd.prog F.delta_Upto_1 #[x.v p cap, .pointer (some ⟨k, 0, none⟩)] (.bool (decide (t < x.time))) := by
  refine gives_in (Bdelta_Upto_1_run x.time p x.row.length cap x.n k 0) fun W R => ?_
  exact fun _ w G cx => ⟨t, hΦ _ _ cx.phi, fun w G cx => ⟨rfl, cx.left⟩⟩
theorem early1_in {Φ : PW} [Stable Φ] (x : DeltaD) (p : Option Addr) (cap : Nat) (k : Nat) (t : Int) (hΦ : ∀ M w, Φ M w → w.cell? ⟨k, 0, none⟩ = some (.int .i64 t)) : GivesIn Φ Tryd.prog F.delta_After_1 #[x.v p cap, .pointer (some ⟨k, 0, none⟩)] (.bool (decide (x.time ≤ t))) := by
  refine gives_in (Bdelta_After_1_run x.time p x.row.length cap x.n k 0) fun W R => ?_
  exact fun _ w G cx => ⟨t, hΦ _ _ cx.phi, fun w G cx => ⟨rfl, cx.left⟩⟩

abbrev lowP (l : List DeltaD) (t : Int) : List DeltaD := l.filter fun x : DeltaD => decide (x.time ≤ t)
abbrev highP (l : List DeltaD) (t : Int) : List DeltaD := l.filter fun x : DeltaD => decide (t < x.time)
def uptoP (l : List DeltaD) (t : Int) : List DeltaD := consP (lowP l t)
def afterP (l : List DeltaD) (t : Int) : List DeltaD := consP (highP l t)

theorem map_filterE (es : List DE) (q : DeltaD → Bool) : (es.filter fun x => q x.d).map DE.d = (es.map DE.d).filter q := by
  rw [List.filter_map]; rfl

theorem Upto_sl {Φ : PW} [Stable Φ] (p : Option Addr) (cap : Nat) (l : List DeltaD) (t : Int) (hΦ : ∀ M w, Φ M w → Sl M w p l) (hlen : l.length ≤ 1000000) (hrow : ∀ x ∈ l, x.row.length ≤ 1000000) :
    GivesSl Φ Tryd.prog F.delta_Upto #[.slice p l.length cap, .int .i64 t] (uptoP l t) id := by
  refine gives_sl (Bdelta_Upto_run p l.length cap t) fun W R => ?_
  intro k w G cx
  refine (CloneD_in p cap l hΦ (by omega)).use cx fun p1 c1 cs w cx => ?_
  obtain ⟨es, rfl, hes⟩ := elems_ex cx.phi.2
  have hl : l.length = es.length := by rw [← hes, List.length_map]
  have cx1 : Ctx W w (.blk k [.int .i64 t] 3 :: bufE p1 c1 es :: (R ++ G)) (fun M w => Φ M w ∧ EPhi es M w) := by
    have h1 := (cx.weak (Ψ := fun M w => Φ M w ∧ EPhi es M w) fun M w h => ⟨h.1, elems_e (by rw [hes]; exact h.2)⟩).swap
    rw [hl] at h1
    exact h1
  refine ⟨p1, l.length, c1, rfl, .blk k [.int .i64 t] 3 :: bufE p1 c1 es :: R, _, inferInstance, cx1, fun w G cx => ?_⟩
  rw [hl]
  have cx2 : Ctx W w (bufE p1 c1 es :: (R ++ G)) (Go.Vc.Aside W [.blk k [.int .i64 t] 3] fun M w => Φ M w ∧ EPhi es M w) := cx.aside (Q := [.blk k [.int .i64 t] 3])
  have hcell : ∀ M w, Go.Vc.Aside W [.blk k [.int .i64 t] 3] (fun M w => Φ M w ∧ EPhi es M w) M w → w.cell? ⟨k, 0, none⟩ = some (.int .i64 t) := fun M w h => by
    have := (h.parked (o := .blk k [.int .i64 t] 3) (by simp)).1
    exact (show Blk w k [.int .i64 t] 3 from this).cell_eq rfl
  refine DeleteE_use (S := R ++ G) cx2 F.delta_Upto_1 #[.pointer (some ⟨k, 0, none⟩)] (fun x => decide (t < x.d.time)) (by omega) (by kernel_rfl) (fun x _ => late1_in x.d x.p x.c k t hcell) fun w cx => ?_
  have hfil : (es.filter fun x : DE => !decide (t < x.d.time)) = es.filter fun x : DE => decide (x.d.time ≤ t) := List.filter_congr fun x _ => by
    by_cases h : t < x.d.time
    · rw [decide_eq_true h, decide_eq_false (by omega)]; rfl
    · rw [decide_eq_false h, decide_eq_true (by omega)]; rfl
  rw [hfil] at cx ⊢
  have hmap : (es.filter fun x : DE => decide (x.d.time ≤ t)).map DE.d = lowP l t := by rw [← hes]; exact map_filterE es (fun x : DeltaD => decide (x.time ≤ t))
  obtain ⟨fs, hfs⟩ : ∃ fs, (es.filter fun x : DE => decide (x.d.time ≤ t)) = fs := ⟨_, rfl⟩
  have hsub : ∀ x ∈ fs, x ∈ es := fun x hx => by rw [← hfs] at hx; exact (List.mem_filter.1 hx).1
  rw [hfs] at cx hmap ⊢
  have cx3 : Ctx W w (bufE p1 c1 fs :: (R ++ G)) (fun M w => Φ M w ∧ EPhi fs M w) := (cx.unaside.sub (List.sublist_cons_self _ _)).weak fun M w h => ⟨h.1, fun x hx => h.2 x (hsub x hx)⟩
  obtain ⟨ho, hle⟩ : (lowP l t).length = fs.length ∧ fs.length ≤ es.length := ⟨by rw [← hmap, List.length_map], by rw [← hfs]; exact List.length_filter_le _ _⟩
  have cx4 : Ctx W w (.buf p1 (fs.map DE.d).length c1 (cellsE fs) 39 3 :: (R ++ G)) (fun M w => Φ M w ∧ EPhi fs M w) := by rw [List.length_map]; exact cx3
  obtain ⟨cx5, hs, _⟩ := Ctx.freeze (α := DeltaD) (l := fs.map DE.d) cx4.fst (e_elems cx4.phi.2)
  rw [hmap] at hs
  refine ⟨p1, fs.length, c1, rfl, R, fun M w => Φ M w ∧ Sl M w p1 (lowP l t), inferInstance, cx5.add hs, fun w G cx => ?_⟩
  rw [← ho]
  refine (Consolidate_sl (Φ := fun M w => Φ M w ∧ Sl M w p1 (lowP l t)) p1 c1 (lowP l t) (fun M w h => h.2) (by omega) (fun x hx => hrow x (List.mem_filter.1 hx).1)).use cx fun p3 c3 w h1 h2 cx => ⟨p3, _, c3, rfl, R, fun M w => Φ M w ∧ Sl M w p3 (uptoP l t), inferInstance, cx.weak fun M w h => ⟨h.1.1, h.2⟩, fun w G cx => ⟨p3, c3, rfl, h1, h2, cx.left⟩⟩

theorem After_sl {Φ : PW} [Stable Φ] (p : Option Addr) (cap : Nat) (l : List DeltaD) (t : Int) (hΦ : ∀ M w, Φ M w → Sl M w p l) (hlen : l.length ≤ 1000000) (hrow : ∀ x ∈ l, x.row.length ≤ 1000000) :
    GivesSl Φ Tryd.prog F.delta_After #[.slice p l.length cap, .int .i64 t] (afterP l t) id := by
  refine gives_sl (Bdelta_After_run p l.length cap t) fun W R => ?_
  intro k w G cx
  refine (CloneD_in p cap l hΦ (by omega)).use cx fun p1 c1 cs w cx => ?_
  obtain ⟨es, rfl, hes⟩ := elems_ex cx.phi.2
  have hl : l.length = es.length := by rw [← hes, List.length_map]
  have cx1 : Ctx W w (.blk k [.int .i64 t] 3 :: bufE p1 c1 es :: (R ++ G)) (fun M w => Φ M w ∧ EPhi es M w) := by
    have h1 := (cx.weak (Ψ := fun M w => Φ M w ∧ EPhi es M w) fun M w h => ⟨h.1, elems_e (by rw [hes]; exact h.2)⟩).swap
    rw [hl] at h1
    exact h1
  refine ⟨p1, l.length, c1, rfl, .blk k [.int .i64 t] 3 :: bufE p1 c1 es :: R, _, inferInstance, cx1, fun w G cx => ?_⟩
  rw [hl]
  have cx2 : Ctx W w (bufE p1 c1 es :: (R ++ G)) (Go.Vc.Aside W [.blk k [.int .i64 t] 3] fun M w => Φ M w ∧ EPhi es M w) := cx.aside (Q := [.blk k [.int .i64 t] 3])
  have hcell : ∀ M w, Go.Vc.Aside W [.blk k [.int .i64 t] 3] (fun M w => Φ M w ∧ EPhi es M w) M w → w.cell? ⟨k, 0, none⟩ = some (.int .i64 t) := fun M w h => by
    have := (h.parked (o := .blk k [.int .i64 t] 3) (by simp)).1
    exact (show Blk w k [.int .i64 t] 3 from this).cell_eq rfl
  refine DeleteE_use (S := R ++ G) cx2 F.delta_After_1 #[.pointer (some ⟨k, 0, none⟩)] (fun x => decide (x.d.time ≤ t)) (by omega) (by kernel_rfl) (fun x _ => early1_in x.d x.p x.c k t hcell) fun w cx => ?_
  have hfil : (es.filter fun x : DE => !decide (x.d.time ≤ t)) = es.filter fun x : DE => decide (t < x.d.time) := List.filter_congr fun x _ => by
    by_cases h : x.d.time ≤ t
    · rw [decide_eq_true h, decide_eq_false (by omega)]; rfl
    · rw [decide_eq_false h, decide_eq_true (by omega)]; rfl
  rw [hfil] at cx ⊢
  have hmap : (es.filter fun x : DE => decide (t < x.d.time)).map DE.d = highP l t := by rw [← hes]; exact map_filterE es (fun x : DeltaD => decide (t < x.time))
  obtain ⟨fs, hfs⟩ : ∃ fs, (es.filter fun x : DE => decide (t < x.d.time)) = fs := ⟨_, rfl⟩
  have hsub : ∀ x ∈ fs, x ∈ es := fun x hx => by rw [← hfs] at hx; exact (List.mem_filter.1 hx).1
  rw [hfs] at cx hmap ⊢
  have cx3 : Ctx W w (bufE p1 c1 fs :: (R ++ G)) (fun M w => Φ M w ∧ EPhi fs M w) := (cx.unaside.sub (List.sublist_cons_self _ _)).weak fun M w h => ⟨h.1, fun x hx => h.2 x (hsub x hx)⟩
  obtain ⟨ho, hle⟩ : (highP l t).length = fs.length ∧ fs.length ≤ es.length := ⟨by rw [← hmap, List.length_map], by rw [← hfs]; exact List.length_filter_le _ _⟩
  have cx4 : Ctx W w (.buf p1 (fs.map DE.d).length c1 (cellsE fs) 39 3 :: (R ++ G)) (fun M w => Φ M w ∧ EPhi fs M w) := by rw [List.length_map]; exact cx3
  obtain ⟨cx5, hs, _⟩ := Ctx.freeze (α := DeltaD) (l := fs.map DE.d) cx4.fst (e_elems cx4.phi.2)
  rw [hmap] at hs
  refine ⟨p1, fs.length, c1, rfl, R, fun M w => Φ M w ∧ Sl M w p1 (highP l t), inferInstance, cx5.add hs, fun w G cx => ?_⟩
  rw [← ho]
  refine (Consolidate_sl (Φ := fun M w => Φ M w ∧ Sl M w p1 (highP l t)) p1 c1 (highP l t) (fun M w h => h.2) (by omega) (fun x hx => hrow x (List.mem_filter.1 hx).1)).use cx fun p3 c3 w h1 h2 cx => ⟨p3, _, c3, rfl, R, fun M w => Φ M w ∧ Sl M w p3 (afterP l t), inferInstance, cx.weak fun M w h => ⟨h.1.1, h.2⟩, fun w G cx => ⟨p3, c3, rfl, h1, h2, cx.left⟩⟩

end Go.Proofs.YtnapfhbibikbiaaDoor
end

/-
  few, Bytes, small, walked.
-/
section
set_option linter.unusedVariables false
set_option linter.unusedSimpArgs false
namespace Go.Proofs.YtnapfhbibikbiaaDoor
open Go.Vc


/-! ### few -/
def shortR (r : List ValD) : Bool := r.all fun v => decide (v.text.size ≤ 200)
def okRow28 (r : List ValD) : Bool := (shortR r && decide ((r.length : Int) ≤ 10)) && rightR r
def fewP (l : List DeltaD) (n : Int) : Bool := decide ((l.length : Int) ≤ n) && l.all fun x => okRow28 x.row

theorem shortR_step {r : List ValD} {k : Nat} (h : k < r.length) : shortR (r.take (k + 1)) = (shortR (r.take k) && decide (r[k].text.size ≤ 200)) := by
  unfold shortR
  rw [List.take_succ_eq_append_getElem h, List.all_append]
  simp
theorem shortR_less {r : List ValD} {k : Nat} (h : k < r.length) (hb : ¬ r[k].text.size ≤ 200) : shortR r = false := by
  unfold shortR
  rw [List.all_eq_false]
  exact ⟨r[k], List.getElem_mem h, by simpa using hb⟩

theorem Few_pin {Φ : PW} [Stable Φ] (p : Option Addr) (cap : Nat) (l : List DeltaD) (n : Int) (g o : Nat) (cs : List (List Value)) (hp : 0 < l.length → p = some ⟨g, o, none⟩) (hΦ : ∀ M w, Φ M w → Pin g o cs l M w)
    (hlen : l.length ≤ 9223372036854775807) : GivesIn Φ Tryd.prog F.erratalaw28_few #[.slice p l.length cap, .int .i64 n] (.bool (fewP l n)) := by
  refine in_cells hΦ fun hcs => ?_
  refine gives_in (Berratalaw28_few_run p l.length cap n) fun W R => ?_
  refine exI_mk (fun iI R' Φ' k => ∃ i : Nat, iI = i ∧ i ≤ l.length ∧ R' = R ∧ Φ' = Φ ∧ k = l.length - i ∧ (l.all fun x => okRow28 x.row) = (l.drop i).all fun x => okRow28 x.row) ⟨⟨R, Φ, _, inferInstance, fun w F c => c, 0, rfl, Nat.zero_le _, rfl, rfl, rfl, rfl⟩, ?_⟩
  rintro iI R1 Φ1 k _ ⟨i, rfl, hi, rfl, rfl, rfl, hs⟩
  refine fun w G cx => Br.intro (fun hlt => ?_) (fun hge => fun w G cx => ⟨?_, cx.left⟩)
  · simp only [Bool.and_eq_true, decide_eq_true_eq] at hlt
    have hlt : i < l.length := by omega
    obtain ⟨r, rc, he, f1, f2, _, _⟩ := hcs i hlt
    have hrl : l[i].row.length ≤ 9223372036854775807 := len_max f1 f2
    rw [List.drop_eq_getElem_cons hlt, List.all_cons] at hs
    have hcell : ∀ {w : World} {G : List Own}, Ctx W w (R1 ++ G) Φ1 → w.cell? ⟨g, o + (i : Int).toNat * 3 + 1, none⟩ = some (.slice r l[i].row.length rc) := fun cx => by
      have := pin_rowAt (hΦ _ _ cx.phi) hlt he 1 (by simp)
      rw [Int.toNat_natCast]; simpa using this
    have hpp := hp (by omega)
    clear cx
    refine exI_mk (fun kI R' Φ' m => ∃ k : Nat, kI = k ∧ k ≤ l[i].row.length ∧ R' = R1 ∧ Φ' = Φ1 ∧ m = l[i].row.length - k ∧ shortR (l[i].row.take k) = true) ⟨⟨R1, Φ1, _, inferInstance, fun w F c => c, 0, rfl, Nat.zero_le _, rfl, rfl, rfl, rfl⟩, ?_⟩
    rintro kI R2 Φ2 m _ ⟨k, rfl, hk, rfl, rfl, rfl, hok⟩
    refine ⟨by omega, ptrK_intro g o hpp fun w G cx => ⟨r, l[i].row.length, rc, hcell cx, Br.intro (fun hlt2 => ?_) (fun hge2 => ?_)⟩⟩
    · have hlt2 : k < l[i].row.length := by have := of_decide_eq_true hlt2; omega
      refine ⟨by omega, ptrK_intro g o hpp fun w G cx => ⟨r, l[i].row.length, rc, hcell cx, by omega, ?_⟩⟩
      obtain ⟨b, o2, rfl⟩ := (pin_row (hΦ _ _ cx.phi) hlt he).there (by omega)
      refine ptrK_intro b o2 rfl fun w G cx => ⟨l[i].row[k].text, ?_, Br.intro (fun hb => fun w G cx => ⟨?_, cx.left⟩) (fun hb => ⟨by unfold I64; omega, R2, Φ2, l[i].row.length - (k + 1), inferInstance, fun w F c => c, ⟨k + 1, rfl, hlt2, rfl, rfl, rfl, ?_⟩, by omega⟩)⟩
      · have := sl_val (pin_row (hΦ _ _ cx.phi) hlt he) hlt2 2 (by simp)
        rw [Int.toNat_natCast]; simpa using this
      · have hb := of_decide_eq_true hb
        have h1 : okRow28 l[i].row = false := by unfold okRow28; rw [shortR_less hlt2 (by omega)]; rfl
        unfold fewP
        rw [hs, h1, Bool.false_and, Bool.and_false]
      · have hb := of_decide_eq_false hb
        rw [shortR_step hlt2, hok, Bool.true_and, decide_eq_true (by omega)]
    · have hge2 : k = l[i].row.length := by have := of_decide_eq_false hge2; omega
      subst hge2
      rw [List.take_length] at hok
      refine ⟨by omega, ptrK_intro g o hpp fun w G cx => ⟨r, l[i].row.length, rc, hcell cx, Br.intro (fun hb => fun w G cx => ⟨?_, cx.left⟩) (fun hb => ?_)⟩⟩
      · have hb := of_decide_eq_true hb
        have h1 : okRow28 l[i].row = false := by unfold okRow28; rw [decide_eq_false (by omega), Bool.and_false]; rfl
        unfold fewP
        rw [hs, h1, Bool.false_and, Bool.and_false]
      have hb := of_decide_eq_false hb
      refine ⟨by omega, ptrK_intro g o hpp fun w G cx => ⟨r, l[i].row.length, rc, hcell cx, fun w G cx => (RightRow3_in (Φ := Φ2) r rc l[i].row (fun M w h => pin_row (hΦ M w h) hlt he) hrl).use cx fun w cx => ⟨_, rfl, R2, Φ2, inferInstance, cx, Br.intro (fun h => fun w G cx => ⟨?_, cx.left⟩) (fun h => ⟨by unfold I64; omega, R2, Φ2, l.length - (i + 1), inferInstance, fun w F c => c, ⟨i + 1, rfl, hlt, rfl, rfl, rfl, ?_⟩, by omega⟩)⟩⟩⟩
      · have h1 : okRow28 l[i].row = false := by unfold okRow28; rw [show rightR l[i].row = false by simpa using h, Bool.and_false]
        unfold fewP
        rw [hs, h1, Bool.false_and, Bool.and_false]
      · have h1 : okRow28 l[i].row = true := by unfold okRow28; rw [hok, decide_eq_true (by omega), show rightR l[i].row = true by simpa using h]; rfl
        rw [hs, h1, Bool.true_and]
  · simp only [Bool.and_eq_false_iff, decide_eq_false_iff_not] at hge
    unfold fewP
    by_cases hl : (l.length : Int) ≤ n
    · have hi : i = l.length := by omega
      rw [hs, hi, List.drop_length, decide_eq_true hl]
      rfl
    · rw [decide_eq_false hl, Bool.false_and]

theorem Few_in {Φ : PW} [Stable Φ] (p : Option Addr) (cap : Nat) (l : List DeltaD) (n : Int) (hΦ : ∀ M w, Φ M w → Sl M w p l) (hlen : l.length ≤ 9223372036854775807) : GivesIn Φ Tryd.prog F.erratalaw28_few #[.slice p l.length cap, .int .i64 n] (.bool (fewP l n)) :=
  .pinned hΦ fun g o cs hp => Few_pin (Φ := fun M w => Φ M w ∧ Pin g o cs l M w) p cap l n g o cs hp (fun M w h => h.2) hlen

/-- what few says -/
theorem few_rows {l : List DeltaD} {n : Int} (h : fewP l n = true) : (l.length : Int) ≤ n ∧ (∀ x ∈ l, x.row.length ≤ 1000000) ∧ ∀ x ∈ l, x.row.length ≤ 10 ∧ ∀ v ∈ x.row, v.text.size ≤ 200 := by
  unfold fewP at h
  rw [Bool.and_eq_true, decide_eq_true_eq, List.all_eq_true] at h
  have h2 : ∀ x ∈ l, x.row.length ≤ 10 ∧ ∀ v ∈ x.row, v.text.size ≤ 200 := fun x hx => by
    have := h.2 x hx
    unfold okRow28 shortR at this
    rw [Bool.and_eq_true, Bool.and_eq_true, decide_eq_true_eq, List.all_eq_true] at this
    exact ⟨by omega, fun v hv => of_decide_eq_true (this.1.1 v hv)⟩
  exact ⟨h.1, fun x hx => Nat.le_trans (h2 x hx).1 (by decide), h2⟩

/-! ### Bytes -/
def deltaB (x : DeltaD) : ByteArray := intB x.time ++ textB (rowB x.row) ++ intB x.n
def deltasL (l : List DeltaD) : List UInt8 := l.flatMap fun x => (deltaB x).data.toList
def bytesL (l : List DeltaD) : List UInt8 := (natB (consP l).length).data.toList ++ deltasL (consP l)

theorem deltasL_app (a b : List DeltaD) : deltasL (a ++ b) = deltasL a ++ deltasL b := by simp [deltasL]
theorem deltasL_one (x : DeltaD) : deltasL [x] = (deltaB x).data.toList := by simp [deltasL]

/-- what Bytes can write -/
def Fit (x : DeltaD) : Prop := x.row.length ≤ 10000 ∧ ∀ v ∈ x.row, v.text.size ≤ 10000

theorem rowB_size {r : List ValD} (hi : ∀ v ∈ r, (I64 v.kind ∧ I64 v.num) ∧ v.text.size ≤ maxLen) (h1 : r.length ≤ 10000) (h2 : ∀ v ∈ r, v.text.size ≤ 10000) : (rowB r).size ≤ 200000000 := by
  have hv : ∀ v ∈ r, (I64 v.kind ∧ I64 v.num) ∧ v.text.size ≤ 10000 := fun v h => ⟨(hi v h).1, h2 v h⟩
  have hL := rowL_len hv (by decide) (by omega)
  have : r.length * (10000 + 64) ≤ 10000 * 10064 := Nat.mul_le_mul h1 (Nat.le_refl _)
  unfold rowB
  rw [size_list]; omega
theorem deltaB_size {x : DeltaD} (ht : I64 x.time) (hn : I64 x.n) (hi : ∀ v ∈ x.row, (I64 v.kind ∧ I64 v.num) ∧ v.text.size ≤ maxLen) (h : Fit x) : (deltaB x).size ≤ 200000100 := by
  have h1 := intB_size ht
  have h2 := intB_size hn
  have h3 := rowB_size hi h.1 h.2
  have h4 := textB_size (s := rowB x.row) (by omega)
  unfold deltaB
  rw [size_app, size_app]; omega

theorem Bytes28_in {Φ : PW} [Stable Φ] (p : Option Addr) (cap : Nat) (l : List DeltaD) (hT : l ≠ [] → ∀ M w, Φ M w → TabI M w) (hΦ : ∀ M w, Φ M w → Sl M w p l) (hlen : l.length ≤ 400) (hfit : ∀ x ∈ l, Fit x) :
    GivesIn Φ Tryd.prog F.delta_Bytes #[.slice p l.length cap] (.string ⟨(bytesL l).toArray⟩) := by
  have hrow : ∀ x ∈ l, x.row.length ≤ 1000000 := fun x hx => Nat.le_trans (hfit x hx).1 (by decide)
  refine gives_in (Bdelta_Bytes_run p l.length cap) fun W R => ?_
  refine fun w G cx => (Consolidate_sl p cap l hΦ (by omega) hrow).use cx fun p1 c1 w h1 h2 cx => ?_
  have hcfit : ∀ x ∈ consP l, x.row.length ≤ 10000 ∧ ∀ v ∈ x.row, v.text.size ≤ 10000 := consP_row (P := fun r => r.length ≤ 10000 ∧ ∀ v ∈ r, v.text.size ≤ 10000) hfit
  have hcl := consP_len l
  have hcT : consP l ≠ [] → ∀ M w, Φ M w → TabI M w := fun h => hT fun e => h (by rw [e]; rfl)
  unfold bytesL
  obtain ⟨c, hc⟩ : ∃ c, consP l = c := ⟨_, rfl⟩
  rw [hc] at cx h1 hcl hcfit hcT ⊢
  have hTn : Dec (fun M w => (Φ M w ∧ Sl M w p1 c)) (c.length : Int) := by
    cases c with
    | nil => exact .inr ⟨0, by decide, rfl⟩
    | cons x r => exact .inl ⟨fun M w h => hcT (by simp) M w h.1, by unfold I64; omega⟩
  obtain ⟨g, o, cs, hp, cx⟩ := cx.pin cx.phi.2
  have hcs : ∀ j, (hj : j < c.length) → ∃ p q, cs.getD j [] = c[j].cells p q ∧ c[j].row.length ≤ q ∧ q ≤ maxLen ∧ I64 c[j].time ∧ I64 c[j].n := fun j hj => by
    obtain ⟨p, c, h1, h2, h3, h4, h5, _⟩ := pin_delta cx.phi.2 hj
    exact ⟨p, c, h1, h2, h3, h4, h5⟩
  have hI : ∀ j, (hj : j < c.length) → ∀ v ∈ c[j].row, (I64 v.kind ∧ I64 v.num) ∧ v.text.size ≤ maxLen := fun j hj => by
    obtain ⟨q, qc, he, _⟩ := hcs j hj
    exact sl_i64 (pin_row cx.phi.2 hj he)
  have hlenL : ∀ i, i ≤ c.length → (deltasL (c.take i)).length ≤ i * 200000100 := by
    intro i
    induction i with
    | zero => intro _; simp [deltasL]
    | succ i ih =>
      intro hi
      have ih := ih (by omega)
      obtain ⟨_, _, _, _, _, ht, hn⟩ := hcs i (by omega)
      have := deltaB_size ht hn (hI i (by omega)) (hcfit c[i] (List.getElem_mem _))
      rw [List.take_succ_eq_append_getElem (by omega), deltasL_app, deltasL_one, List.length_append, list_size, Nat.add_mul]
      omega
  refine ⟨p1, _, c1, rfl, R, fun M w => (Φ M w ∧ Sl M w p1 c) ∧ Pin g o cs c M w, inferInstance, cx, ?_⟩
  clear cx
  have hst : Stable (fun M w => (Φ M w ∧ Sl M w p1 c) ∧ Pin g o cs c M w) := inferInstance
  intro b w G cx
  have hnum : GivesIn (fun M w => (Φ M w ∧ Sl M w p1 c) ∧ Pin g o cs c M w) Tryd.prog F.wire_Num #[.int .i64 (c.length : Int)] (.string (natB c.length)) := Num_in (by
    rcases hTn with ⟨h1, h2⟩ | h
    · exact .inl ⟨fun M w h => h1 M w h.1, h2⟩
    · exact .inr h)
  have hnat := natB_size (n := (c.length : Int)) (by unfold I64; omega)
  refine hnum.use cx fun w cx => ⟨_, rfl, .blk b [.pointer none, .slice none 0 0] 79 :: R, _, hst, cx, fun w G cx => ?_⟩
  refine WriteString_use (natB c.length) Bd.nil (Bd.fresh cx) (by simp only [List.length_nil]; omega) fun R1 w hB cx => ⟨_, _, rfl, R1 ++ R, _, hst, by rw [List.append_assoc]; exact cx, ?_⟩
  rw [List.nil_append] at hB
  clear cx
  refine exI_mk (fun iI R' Φ' k => ∃ (i : Nat) (Q : List Own), iI = i ∧ i ≤ c.length ∧ BdT b ((natB c.length).data.toList ++ deltasL (c.take i)) Q ∧ R' = Q ++ R ∧ Φ' = (fun M w => (Φ M w ∧ Sl M w p1 c) ∧ Pin g o cs c M w) ∧ k = c.length - i) ⟨⟨_, _, _, hst, fun w G cx => cx, 0, R1, rfl, Nat.zero_le _, by rw [List.take_zero, show deltasL [] = [] from rfl, List.append_nil]; exact hB, rfl, rfl, rfl⟩, ?_⟩
  rintro iI R2 Φ2 k _ ⟨i, Q, rfl, hi, hQ, rfl, rfl, rfl⟩
  refine Br.intro (fun hlt => ?_) (fun hge => fun w G cx => ?_)
  · have hlt : i < c.length := by have := of_decide_eq_true hlt; omega
    obtain ⟨q, qc, he, g1, g2, ht, hn⟩ := hcs i hlt
    have hT2 : ∀ M w, ((Φ M w ∧ Sl M w p1 c) ∧ Pin g o cs c M w) → TabI M w := fun M w h => hcT (fun e => by rw [e] at hlt; exact absurd hlt (by simp)) M w h.1.1
    have hf := hcfit c[i] (List.getElem_mem hlt)
    have hrs := rowB_size (hI i hlt) hf.1 hf.2
    have s1 := intB_size ht
    have s2 := intB_size hn
    have s3 := textB_size (s := rowB c[i].row) (by omega)
    have hsz := deltaB_size ht hn (hI i hlt) hf
    have hLi := hlenL i hi
    have hstep : deltasL (c.take (i + 1)) = deltasL (c.take i) ++ (deltaB c[i]).data.toList := by rw [List.take_succ_eq_append_getElem hlt, deltasL_app, deltasL_one]
    refine ⟨by omega, ptrK_intro g o (hp (by omega)) fun w G cx => ⟨c[i].time, q, c[i].row.length, qc, c[i].n, by rw [Int.toNat_natCast]; exact pin_rowAt cx.phi.2 hlt he, fun _ => ⟨Q ++ R, _, hst, fun w G cx => cx, fun w G cx => (Int_in (.inl ⟨hT2, ht⟩)).toS cx ⟨fun w G cx => cx, fun w G cx => (RowBytes_in q qc c[i].row hT2 (fun M w h => pin_row h.2 hlt he) (by omega) hf.2).toS cx ⟨fun w G cx => cx, fun w G cx => (Text_in (.inl ⟨hT2, by unfold I64; omega⟩) (by omega)).toS cx
      ⟨fun w G cx => cx, by show (intB c[i].time).size + (textB (rowB c[i].row)).size ≤ _; omega, fun w G cx => (Int_in (.inl ⟨hT2, hn⟩)).toS cx ⟨fun w G cx => cx, by show (intB c[i].time ++ textB (rowB c[i].row)).size + (intB c[i].n).size ≤ _; rw [size_app]; omega, fun w G cx => ?_⟩⟩⟩⟩⟩⟩⟩
    have hQl : ((natB c.length).data.toList ++ deltasL (c.take i)).length + (deltaB c[i]).size ≤ 100000000000 := by
      rw [List.length_append, list_size]
      have : i * 200000100 ≤ 400 * 200000100 := Nat.mul_le_mul_right _ (by omega)
      omega
    refine WriteString_use (deltaB c[i]) hQ (cx.re (List.append_assoc _ _ _)) hQl fun Q' w hQ' cx => ⟨_, _, rfl, Q' ++ R, _, hst, by rw [List.append_assoc]; exact cx, by unfold I64; omega, _, _, c.length - (i + 1), hst, fun w G cx => cx, ⟨i + 1, Q', by omega, hlt, ?_, rfl, rfl, rfl⟩, by omega⟩
    rw [hstep, ← List.append_assoc]; exact hQ'
  · have hge : i = c.length := by have := of_decide_eq_false hge; omega
    subst hge
    rw [List.take_length] at hQ
    exact String_use hQ (cx.re (List.append_assoc _ _ _)) fun w cx => ⟨_, rfl, R, _, hst, cx, fun w G cx => ⟨rfl, cx.left.weak fun M w h => h.1.1⟩⟩

/-! ### with answers that are known -/
theorem EqualV_in {Φ : PW} [Stable Φ] {p : Option Addr} {cap : Nat} {a : List DeltaD} {q : Option Addr} {cap2 : Nat} {b : List DeltaD} (v : a = b) [hΦ : Has Φ (fun M w => Sl M w p a)] [hΨ : Has Φ (fun M w => Sl M w q b)] (hlen : a.length ≤ 1000000) :
    GivesIn Φ Tryd.prog F.errataref28_Equal #[.slice p a.length cap, .slice q b.length cap2] (.bool true) := by
  have h := Equal_in p cap a q cap2 b hΦ.go hΨ.go (by omega)
  rwa [decide_eq_true v] at h
theorem AddH {Φ : PW} [Stable Φ] {p : Option Addr} {cap : Nat} {a : List DeltaD} {q : Option Addr} {cap2 : Nat} {b : List DeltaD} [hΦ : Has Φ (fun M w => Sl M w p a)] [hΨ : Has Φ (fun M w => Sl M w q b)] (h1 : a.length ≤ cap) (h2 : cap ≤ maxLen) (h3 : b.length ≤ cap2) (h4 : cap2 ≤ maxLen)
    (ha : a.length ≤ 400000) (hb : b.length ≤ 400000) (hra : Rows1 a) (hrb : Rows1 b) : GivesSl Φ Tryd.prog F.delta_Add #[.slice p a.length cap, .slice q b.length cap2] (addP a b) id := Add_sl p cap a q cap2 b hΦ.go hΨ.go h1 h2 h3 h4 ha hb hra hrb
theorem ConH {Φ : PW} [Stable Φ] {p : Option Addr} {cap : Nat} {a : List DeltaD} [hΦ : Has Φ (fun M w => Sl M w p a)] (ha : a.length ≤ 1000000) (hra : Rows1 a) : GivesSl Φ Tryd.prog F.delta_Consolidate #[.slice p a.length cap] (consP a) id := Consolidate_sl p cap a hΦ.go ha hra
theorem UptoH {Φ : PW} [Stable Φ] {p : Option Addr} {cap : Nat} {a : List DeltaD} {t : Int} [hΦ : Has Φ (fun M w => Sl M w p a)] (ha : a.length ≤ 1000000) (hra : Rows1 a) : GivesSl Φ Tryd.prog F.delta_Upto #[.slice p a.length cap, .int .i64 t] (uptoP a t) id := Upto_sl p cap a t hΦ.go ha hra
theorem AfterH {Φ : PW} [Stable Φ] {p : Option Addr} {cap : Nat} {a : List DeltaD} {t : Int} [hΦ : Has Φ (fun M w => Sl M w p a)] (ha : a.length ≤ 1000000) (hra : Rows1 a) : GivesSl Φ Tryd.prog F.delta_After #[.slice p a.length cap, .int .i64 t] (afterP a t) id := After_sl p cap a t hΦ.go ha hra
theorem FindH {Φ : PW} [Stable Φ] {p : Option Addr} {cap : Nat} {a : List DeltaD} {t : Int} {q : Option Addr} {cap2 : Nat} {r : List ValD} [hΦ : Has Φ (fun M w => Sl M w p a)] [hΨ : Has Φ (fun M w => Sl M w q r)] (ha : a.length ≤ 1000000) :
    GivesIn Φ Tryd.prog F.delta_Find #[.slice p a.length cap, .int .i64 t, .slice q r.length cap2] (.int .i64 (findP a (t, r))) := Find_in p cap a t q cap2 r hΦ.go hΨ.go (by omega)

/-! ### small -/
abbrev v7 : List ValD := [⟨0, 7, ByteArray.mk #[]⟩]
abbrev sA : List DeltaD := [⟨3, v7, 1⟩]
abbrev sB : List DeltaD := [⟨3, v7, -1⟩]
theorem sAA : addP sA sA = [⟨3, v7, 2⟩] := by decide
theorem sAB : addP sA sB = [] := by decide
theorem sU : uptoP sA 2 = [] := by decide
theorem sF : afterP sA 2 = sA := by decide
theorem sFind : findP [⟨3, v7, 2⟩] (3, v7) = 2 := by decide
theorem sRow : Rows1 sA := by decide
theorem sRowB : Rows1 sB := by decide

theorem v7_rep {M : List Nat} {w : World} : Gv.rep M w [.int .i64 0, .int .i64 7, .string (ByteArray.mk #[])] (⟨0, 7, ByteArray.mk #[]⟩ : ValD) :=
  ⟨[.int .i64 0], [.int .i64 7, .string (ByteArray.mk #[])], rfl, ⟨rfl, by show I64 0; unfold I64; omega⟩, [.int .i64 7], [.string (ByteArray.mk #[])], rfl, ⟨rfl, by show I64 7; unfold I64; omega⟩, rfl, by decide⟩

theorem s_rep {M : List Nat} {w : World} {k : Nat} {n : Int} (hn : I64 n) (h : Sl M w (some ⟨k, 0, none⟩) v7) : Gv.rep M w [.int .i64 3, .slice (some ⟨k, 0, none⟩) 1 1, .int .i64 n] (⟨3, v7, n⟩ : DeltaD) :=
  rep_delta (x := ⟨3, v7, n⟩) (Nat.le_refl 1) (by decide) (by unfold I64; dsimp only; omega) hn h

theorem bytes_nil : (0 : Int) < ((ByteArray.mk (bytesL []).toArray).size : Int) := by
  have h := intB_size (n := 0) (by unfold I64; omega)
  have e : bytesL [] = (intB 0).data.toList := by
    show (natB 0).data.toList ++ [] = _
    rw [List.append_nil]; rfl
  rw [size_list, e, list_size]; omega

set_option maxHeartbeats 1000000 in
theorem small28_g : Gives Tryd.prog F.erratalaw28_small #[] (.bool true) := by
  refine gives_of (Berratalaw28_small_run) fun W R Φ hs => ?_
  intro k0 k1 k2 k3 w G cx
  have c1 : Ctx W w (.blk k0 [.int .i64 0, .int .i64 7, .string (ByteArray.mk #[])] 65 :: .blk k2 [.int .i64 0, .int .i64 7, .string (ByteArray.mk #[])] 65 :: .blk k1 [.int .i64 3, .slice (some ⟨k0, 0, none⟩) 1 1, .int .i64 1] 39 :: .blk k3 [.int .i64 3, .slice (some ⟨k2, 0, none⟩) 1 1, .int .i64 (-1)] 39 :: (R ++ G)) Φ := cx.perm (by
    refine (List.perm_middle (l₁ := [_, _, _])).symm.symm.trans ?_
    refine List.Perm.cons _ ?_
    refine (List.perm_middle (l₁ := [_])).trans ?_
    refine List.Perm.cons _ ?_
    exact List.Perm.swap _ _ _)
  obtain ⟨c2, h0⟩ := c1.freezeBlk (α := ValD) (l := v7) (Elems.one v7_rep)
  have c2 : Ctx W w _ (fun M w => Φ M w ∧ Sl M w (some ⟨k0, 0, none⟩) v7) := c2.add h0
  obtain ⟨c3, h2⟩ := c2.freezeBlk (α := ValD) (l := v7) (Elems.one v7_rep)
  have c4 : Ctx W w _ (fun M w => (Φ M w ∧ Sl M w (some ⟨k0, 0, none⟩) v7) ∧ Sl M w (some ⟨k2, 0, none⟩) v7) := c3.add h2
  obtain ⟨c5, h1⟩ := c4.freezeBlk (α := DeltaD) (l := sA) (Elems.one (s_rep (by unfold I64; omega) c4.phi.1.2))
  have c6 : Ctx W w _ (fun M w => ((Φ M w ∧ Sl M w (some ⟨k0, 0, none⟩) v7) ∧ Sl M w (some ⟨k2, 0, none⟩) v7) ∧ Sl M w (some ⟨k1, 0, none⟩) sA) := c5.add h1
  obtain ⟨c7, h3⟩ := c6.freezeBlk (α := DeltaD) (l := sB) (Elems.one (s_rep (by unfold I64; omega) c6.phi.1.2))
  have c7 : Ctx W w _ (fun M w => (((Φ M w ∧ Sl M w (some ⟨k0, 0, none⟩) v7) ∧ Sl M w (some ⟨k2, 0, none⟩) v7) ∧ Sl M w (some ⟨k1, 0, none⟩) sA) ∧ Sl M w (some ⟨k3, 0, none⟩) sB) := c7.add h3
  have c8 : Ctx W w (R ++ G) (fun M w => (Φ M w ∧ Sl M w (some ⟨k1, 0, none⟩) sA) ∧ Sl M w (some ⟨k3, 0, none⟩) sB) := c7.weak fun M w h => ⟨⟨h.1.1.1.1, h.1.2⟩, h.2⟩
  clear cx c1 c2 c3 c4 c5 c6 c7 h0 h1 h2 h3
  have hst : Stable (fun M w => (Φ M w ∧ Sl M w (some ⟨k1, 0, none⟩) sA) ∧ Sl M w (some ⟨k3, 0, none⟩) sB) := inferInstance
  have a1 := AddH (Φ := fun M w => (Φ M w ∧ Sl M w (some ⟨k1, 0, none⟩) sA) ∧ Sl M w (some ⟨k3, 0, none⟩) sB) (p := some ⟨k1, 0, none⟩) (cap := 1) (a := sA) (q := some ⟨k1, 0, none⟩) (cap2 := 1) (b := sA) (by decide) (by decide) (by decide) (by decide) (by decide) (by decide) sRow sRow
  rw [sAA] at a1
  refine a1.to c8 fun p c g1 g2 hst2 => Br.intro (fun _ => ?_) (fun h => by exfalso; revert h; decide)
  clear c8
  intro k w G cx
  obtain ⟨cx, h0⟩ := cx.freezeBlk (α := ValD) (l := v7) (Elems.one v7_rep)
  have hst3 := hst2
  have hf := FindH (Φ := fun M w => (((Φ M w ∧ Sl M w (some ⟨k1, 0, none⟩) sA) ∧ Sl M w (some ⟨k3, 0, none⟩) sB) ∧ Sl M w p [(⟨3, v7, 2⟩ : DeltaD)]) ∧ Sl M w (some ⟨k, 0, none⟩) v7) (p := p) (cap := c) (a := [⟨3, v7, 2⟩]) (t := 3) (q := some ⟨k, 0, none⟩) (cap2 := 1) (r := v7) (by decide)
  rw [sFind] at hf
  have cx : Ctx W w (R ++ G) (fun M w => (((Φ M w ∧ Sl M w (some ⟨k1, 0, none⟩) sA) ∧ Sl M w (some ⟨k3, 0, none⟩) sB) ∧ Sl M w p [(⟨3, v7, 2⟩ : DeltaD)]) ∧ Sl M w (some ⟨k, 0, none⟩) v7) := cx.add h0
  refine hf.toI cx (Br.intro (fun _ => ?_) (fun h => by exfalso; revert h; decide))
  clear cx h0 a1
  have a2 := AddH (Φ := fun M w => (((Φ M w ∧ Sl M w (some ⟨k1, 0, none⟩) sA) ∧ Sl M w (some ⟨k3, 0, none⟩) sB) ∧ Sl M w p [(⟨3, v7, 2⟩ : DeltaD)]) ∧ Sl M w (some ⟨k, 0, none⟩) v7) (p := some ⟨k1, 0, none⟩) (cap := 1) (a := sA) (q := some ⟨k3, 0, none⟩) (cap2 := 1) (b := sB) (by decide) (by decide) (by decide) (by decide) (by decide) (by decide) sRow sRowB
  rw [sAB] at a2
  refine fun w G cx => a2.toW (Ψ := fun M w => Φ M w ∧ Sl M w (some ⟨k1, 0, none⟩) sA) cx fun p2 c2 _ _ _ => Br.intro (fun _ => ?_) (fun h => by exfalso; revert h; decide)
  have a3 := UptoH (Φ := fun M w => (Φ M w ∧ Sl M w (some ⟨k1, 0, none⟩) sA) ∧ Sl M w p2 ([] : List DeltaD)) (p := some ⟨k1, 0, none⟩) (cap := 1) (a := sA) (t := 2) (by decide) sRow
  rw [sU] at a3
  refine fun w G cx => a3.toW (Ψ := fun M w => Φ M w ∧ Sl M w (some ⟨k1, 0, none⟩) sA) cx fun p3 c3 _ _ _ => Br.intro (fun _ => ?_) (fun h => by exfalso; revert h; decide)
  have a4 := AfterH (Φ := fun M w => (Φ M w ∧ Sl M w (some ⟨k1, 0, none⟩) sA) ∧ Sl M w p3 ([] : List DeltaD)) (p := some ⟨k1, 0, none⟩) (cap := 1) (a := sA) (t := 2) (by decide) sRow
  rw [sF] at a4
  refine fun w G cx => a4.toW (Ψ := fun M w => Φ M w ∧ Sl M w (some ⟨k1, 0, none⟩) sA) cx fun p4 c4 _ _ _ => ?_
  have e1 := EqualV_in (Φ := fun M w => (Φ M w ∧ Sl M w (some ⟨k1, 0, none⟩) sA) ∧ Sl M w p4 sA) (p := p4) (cap := c4) (a := sA) (q := some ⟨k1, 0, none⟩) (cap2 := 1) (b := sA) rfl (by decide)
  refine fun w G cx => e1.toBW (Ψ := Φ) cx (Br.intro (fun _ => ?_) (fun h => by cases h))
  have hb := Bytes28_in (Φ := Φ) none 0 [] (fun h => absurd rfl h) (fun _ _ _ => Sl.nil) (by decide) (by simp)
  refine fun w G cx => hb.toS cx fun w G cx => ⟨?_, cx.left⟩
  rw [decide_eq_true (show (0 : Int) < ((ByteArray.mk (bytesL []).toArray).size : Int) from bytes_nil)]

end Go.Proofs.YtnapfhbibikbiaaDoor
end

/-
  Count, Multiset, Compact, Times, walked.
-/
section
set_option linter.unusedVariables false
set_option linter.unusedSimpArgs false
namespace Go.Proofs.YtnapfhbibikbiaaDoor
open Go.Vc


def sumN : List DeltaD → Int
  | [] => 0
  | x :: l => x.n + sumN l
theorem sumN_app : ∀ (a b : List DeltaD), sumN (a ++ b) = sumN a + sumN b
  | [], b => by simp [sumN]
  | x :: a, b => by simp only [List.cons_append, sumN, sumN_app a b]; omega
def countP (l : List DeltaD) : Int := w64 (sumN l)

theorem Count_pin {Φ : PW} [Stable Φ] (p : Option Addr) (cap : Nat) (l : List DeltaD) (g o : Nat) (cs : List (List Value)) (hp : 0 < l.length → p = some ⟨g, o, none⟩) (hΦ : ∀ M w, Φ M w → Pin g o cs l M w)
    (hlen : l.length ≤ 9223372036854775807) : GivesIn Φ Tryd.prog F.delta_Count #[.slice p l.length cap] (.int .i64 (countP l)) := by
  refine in_cells hΦ fun hcs => ?_
  refine gives_in (Bdelta_Count_run p l.length cap) fun W R => ?_
  refine exI_mk (fun n iI R' Φ' k => ∃ i : Nat, iI = i ∧ i ≤ l.length ∧ n = countP (l.take i) ∧ R' = R ∧ Φ' = Φ ∧ k = l.length - i) ⟨⟨R, Φ, _, inferInstance, fun w F c => c, 0, rfl, Nat.zero_le _, rfl, rfl, rfl, rfl⟩, ?_⟩
  rintro n iI R1 Φ1 k _ ⟨i, rfl, hi, rfl, rfl, rfl, rfl⟩
  refine Br.intro (fun hlt => ?_) (fun hge => fun w F cx => ⟨?_, cx.left⟩)
  · have hlt : i < l.length := by have := of_decide_eq_true hlt; omega
    obtain ⟨r, rc, he, f1, f2, _, _⟩ := hcs i hlt
    refine ⟨by omega, ptrK_intro g o (hp (by omega)) fun w G cx => ⟨l[i].time, r, l[i].row.length, rc, l[i].n, by rw [Int.toNat_natCast]; exact pin_rowAt (hΦ _ _ cx.phi) hlt he, fun _ => ⟨by unfold I64; omega, R1, Φ1, l.length - (i + 1), inferInstance, fun w F c => c, ⟨i + 1, rfl, hlt, ?_, rfl, rfl, rfl⟩, by omega⟩⟩⟩
    unfold countP
    rw [List.take_succ_eq_append_getElem hlt, sumN_app]
    simp only [sumN, Int.add_zero]
    exact w64_l _ _
  · have hge : i = l.length := by have := of_decide_eq_false hge; omega
    rw [hge, List.take_length]

theorem Count_in {Φ : PW} [Stable Φ] (p : Option Addr) (cap : Nat) (l : List DeltaD) (hΦ : ∀ M w, Φ M w → Sl M w p l) (hlen : l.length ≤ 9223372036854775807) : GivesIn Φ Tryd.prog F.delta_Count #[.slice p l.length cap] (.int .i64 (countP l)) :=
  .pinned hΦ fun g o cs hp => Count_pin (Φ := fun M w => Φ M w ∧ Pin g o cs l M w) p cap l g o cs hp (fun M w h => h.2) hlen

/-! ### Multiset -/
theorem neg1_in {Φ : PW} [Stable Φ] (x : DeltaD) (p : Option Addr) (cap : Nat) : GivesIn Φ Tryd.prog F.delta_Multiset_1 #[x.v p cap] (.bool (decide (x.n < 0))) :=
  gives_in (Bdelta_Multiset_1_run x.time p x.row.length cap x.n) fun W R => fun _ w G cx => ⟨rfl, cx.left⟩

def multiP (l : List DeltaD) : Bool := !(consP l).any fun x => decide (x.n < 0)

theorem Multiset_in {Φ : PW} [Stable Φ] (p : Option Addr) (cap : Nat) (l : List DeltaD) (hΦ : ∀ M w, Φ M w → Sl M w p l) (hlen : l.length ≤ 1000000) (hrow : ∀ x ∈ l, x.row.length ≤ 1000000) :
    GivesIn Φ Tryd.prog F.delta_Multiset #[.slice p l.length cap] (.bool (multiP l)) := by
  refine gives_in (Bdelta_Multiset_run p l.length cap) fun W R => ?_
  refine fun w G cx => (Consolidate_sl p cap l hΦ hlen hrow).use cx fun p1 c1 w h1 h2 cx => ⟨p1, _, c1, rfl, R, _, inferInstance, cx, fun w G cx => ?_⟩
  have hcon : GivesIn (fun M w => Φ M w ∧ Sl M w p1 (consP l)) Tryd.prog F.slices_ContainsFunc_api_Delta_api_Delta #[.slice p1 (consP l).length c1, .func (.func F.delta_Multiset_1) #[] #[]] (.bool ((consP l).any fun x => decide (x.n < 0))) :=
    .pinned (fun M w h => h.2) fun b o cs hp => by
      refine gives_in (Bslices_ContainsFunc_api_Delta_api_Delta_run p1 (consP l).length c1 F.delta_Multiset_1 #[]) fun W R => ?_
      exact fun w G cx => (IndexD_in (Φ := fun M w => (Φ M w ∧ Sl M w p1 (consP l)) ∧ Pin b o cs (consP l) M w) p1 c1 (consP l) b o cs F.delta_Multiset_1 #[] (fun x => decide (x.n < 0)) hp (fun M w h => h.2) (len_max h1 h2) (by kernel_rfl) (fun j hj r c _ _ _ => neg1_in _ r c)).use cx fun w cx => ⟨_, rfl, R, _, inferInstance, cx, fun w G cx => ⟨by rw [findI_any], cx.left⟩⟩
  exact hcon.use cx fun w cx => ⟨_, rfl, R, Φ, inferInstance, cx.fst, fun w G cx => ⟨rfl, cx.left⟩⟩

/-! ### Compact -/
abbrev intv (x : Int) : Value := .int .i64 x
abbrev bufZ (p : Option Addr) (cap : Nat) (zs : List Int) : Own := .buf p zs.length cap (zs.map intv) 3 1

theorem compact_len (zs : List Int) : (Lib.compact zs).length ≤ zs.length := by
  unfold Lib.compact Lib.compactUpTo
  rw [List.length_map]
  exact Nat.le_trans (List.length_filter_le _ _) (by simp)

theorem Compact_use {W w : World} {S : List Own} {Φ : PW} [Stable Φ] {p : Option Addr} {cap : Nat} (zs : List Int) (c : Ctx W w (bufZ p cap zs :: S) Φ) {K : Ending → World → Prop}
    (hk : ∀ w', Ctx W w' (bufZ p cap (Lib.compact zs) :: S) Φ → K (.returned (.slice p (Lib.compact zs).length cap)) w') : Calls Tryd.prog F.slices_Compact_int_int #[.slice p zs.length cap] w K := by
  obtain ⟨_, hn, hm⟩ := c.bufLen 0 rfl
  have hown := c.own _ List.mem_cons_self
  by_cases h0 : zs.length = 0
  · have hz : zs = [] := List.eq_nil_of_length_eq_zero h0
    subst hz
    exact (Any.slices_Compact_int_empty Tryd.laysNm220 p cap w).mono fun e w' ⟨he, hw⟩ => by subst he; subst hw; exact hk w' c
  rcases hown.2 with ⟨e, h⟩ | ⟨g, cap', cur, e, _, hg, hnc, hcm, hcs, htake⟩
  · exact absurd h h0
  cases e
  have htake : cur.toList.take zs.length = zs.map intv := by simpa using htake
  have hsz : cur.size = cap := by simpa using hcs
  have hget : ∀ j, (hj : j < zs.length) → cur[j]? = some (.int .i64 zs[j]) := fun j hj => by
    have : (cur.toList.take zs.length)[j]? = (zs.map intv)[j]? := by rw [htake]
    rw [List.getElem?_take_of_lt hj, List.getElem?_map, List.getElem?_eq_getElem hj] at this
    simpa using this
  have hH : Go.Sort.Holds (Value.int .i64) w g 0 zs.toArray := fun j hj => by
    have hj : j < zs.length := by simpa using hj
    have h1 := hget j hj
    refine ⟨?_, by simp [World.frozen?, hg]⟩
    rw [show (zs.toArray)[j]! = zs[j] by simp [getElem!_pos, hj], Nat.zero_add]
    simp [World.cell?, hg, h1]
  refine (Any.slices_Compact_int Tryd.laysNm220 g 0 cap zs w hH (by unfold maxLen at hm; omega) hn).mono fun e w' ⟨he, q, hw⟩ => ?_
  subst he
  refine hk w' ?_
  have hcl := compact_len zs
  have hb : w'.heap[g]? = some (.cells (Go.Sort.putCells (Value.int .i64) 0 (Lib.compact zs ++ List.replicate (zs.length - (Lib.compact zs).length) 0).toArray cur) 3 (0, 0)) := by
    rw [hw]
    show (Array.modify w.heap g _)[g]? = _
    rw [Array.getElem?_modify, if_pos rfl, hg]
    rfl
  refine c.upd (k := 0) (o' := bufZ (some ⟨g, 0, none⟩) cap (Lib.compact zs)) rfl ?_ (fun b hb => .inl hb) (by simp [Own.dom]) ⟨by simp, .inr ⟨g, cap, _, rfl, Nat.zero_le _, hb, by omega, hcm, by simpa [Go.Sort.putCells] using hsz, ?_⟩⟩
  · rw [hw]
    refine ⟨rfl, rfl, rfl, by show w.heap.size ≤ (Array.modify w.heap g _).size; simp, fun k _ hk => ?_⟩
    show (Array.modify w.heap g _)[k]? = _
    rw [Array.getElem?_modify, if_neg (fun e => hk (by simp [Own.dom, e]))]
  · apply List.ext_getElem?
    intro j
    rw [Nat.mul_one]
    by_cases hj : j < (Lib.compact zs).length
    · rw [List.getElem?_take_of_lt hj, List.getElem?_map, List.getElem?_eq_getElem hj]
      have hlt : j < cur.size := by omega
      simp only [Go.Sort.putCells, Array.getElem?_toList, Array.getElem?_mapIdx]
      rw [Array.getElem?_eq_getElem hlt]
      have hap : (Lib.compact zs ++ List.replicate (zs.length - (Lib.compact zs).length) 0).toArray[j]! = (Lib.compact zs)[j] := by
        rw [getElem!_pos _ j (by simp; omega)]
        simp [List.getElem_append, hj]
      simp only [Option.map_some, Nat.sub_zero, hap, Nat.zero_le, true_and, Nat.zero_add]
      rw [if_pos (by simp; omega)]
    · rw [List.getElem?_eq_none (by rw [List.length_take]; omega), List.getElem?_eq_none (by simp; omega)]

/-! ### Times -/
abbrev tmv (x : DeltaD) : Value := intv x.time
def timesP (l : List DeltaD) : List Int := Lib.compact ((consP l).map DeltaD.time)

theorem intv_elems {M : List Nat} {w : World} (l : List Int) (h : ∀ x ∈ l, I64 x) : Elems M w (l.map intv) l := ints_elems l h

theorem compact_mem {zs : List Int} {x : Int} (h : x ∈ Lib.compact zs) : x ∈ zs := by
  unfold Lib.compact Lib.compactUpTo at h
  obtain ⟨i, hi, rfl⟩ := List.mem_map.1 h
  have hi' : i < zs.length := List.mem_range.1 (List.mem_filter.1 hi).1
  simp [getElem!_pos, hi']

theorem Times_sl {Φ : PW} [Stable Φ] (p : Option Addr) (cap : Nat) (l : List DeltaD) (hΦ : ∀ M w, Φ M w → Sl M w p l) (hlen : l.length ≤ 1000000) (hrow : ∀ x ∈ l, x.row.length ≤ 1000000) :
    GivesSl Φ Tryd.prog F.delta_Times #[.slice p l.length cap] (timesP l) id := by
  refine gives_sl (Bdelta_Times_run p l.length cap) fun W R => ?_
  refine fun w G cx => (Consolidate_sl p cap l hΦ hlen hrow).use cx fun p1 c1 w h1 h2 cx => ?_
  have hlc := consP_len l
  obtain ⟨c, hc⟩ : ∃ c, consP l = c := ⟨_, rfl⟩
  unfold timesP
  rw [hc] at cx h1 hlc ⊢
  obtain ⟨g, o, cs, hp, cx⟩ := cx.pin cx.phi.2
  have hcs : ∀ j, (hj : j < c.length) → ∃ p q, cs.getD j [] = c[j].cells p q ∧ c[j].row.length ≤ q ∧ q ≤ maxLen ∧ I64 c[j].time ∧ I64 c[j].n := fun j hj => by
    obtain ⟨p, c, h1, h2, h3, h4, h5, _⟩ := pin_delta cx.phi.2 hj
    exact ⟨p, c, h1, h2, h3, h4, h5⟩
  have hI : ∀ x ∈ c.map DeltaD.time, I64 x := fun x hx => by
    obtain ⟨y, hy, rfl⟩ := List.mem_map.1 hx
    obtain ⟨j, hj, rfl⟩ := List.getElem_of_mem hy
    obtain ⟨_, _, _, _, _, h, _⟩ := hcs j hj
    exact h
  refine ⟨p1, _, c1, rfl, R, fun M w => (Φ M w ∧ Sl M w p1 c) ∧ Pin g o cs c M w, inferInstance, cx, ?_⟩
  clear cx
  refine exI_mk (fun sp sn sc iI R' Φ' k => ∃ (i : Nat), iI = i ∧ i ≤ c.length ∧ sn = (c.take i).length ∧ R' = .buf sp (c.take i).length sc ((c.take i).map tmv) 3 1 :: R ∧ Φ' = (fun M w => (Φ M w ∧ Sl M w p1 c) ∧ Pin g o cs c M w) ∧ k = c.length - i)
    ⟨⟨.buf none (c.take 0).length 0 ((c.take 0).map tmv) 3 1 :: R, _, _, inferInstance, fun w G cx => cx.nobuf 3 1, 0, rfl, Nat.zero_le _, rfl, rfl, rfl, rfl⟩, ?_⟩
  rintro sp _ sc iI R1 Φ1 k hst ⟨i, rfl, hi, rfl, rfl, rfl, rfl⟩
  have hln : (c.take i).length = i := by rw [List.length_take]; omega
  refine Br.intro (fun hlt => ?_) (fun hge => fun w G cx => ?_)
  · have hlt : i < c.length := by have := of_decide_eq_true hlt; omega
    obtain ⟨r, rc, he, f1, f2, _, _⟩ := hcs i hlt
    refine ⟨by omega, ptrK_intro g o (hp (by omega)) fun w G cx => ⟨c[i].time, r, c[i].row.length, rc, c[i].n, by rw [Int.toNat_natCast]; exact pin_rowAt cx.phi.2 hlt he, fun _ k w G cx => ?_⟩⟩
    obtain ⟨p', cap', w', hrun, _, cx'⟩ := Ctx.app1 (P := Tryd.prog) (ts := 43) (ty := 43) (kb := #[false, false]) (size := 1) (bytes := 8) cx (by kernel_rfl) (by omega) rfl rfl (by omega) (by omega)
    have htk : (c.take (i + 1)).map tmv = ((c.take i).map tmv) ++ [intv c[i].time] := by rw [List.take_succ_eq_append_getElem hlt, List.map_append]; rfl
    have hl1 : (c.take i).length + 1 = (c.take (i + 1)).length := by rw [List.length_take, List.length_take]; omega
    rw [hl1] at cx' hrun
    rw [← htk] at cx'
    exact ⟨p', _, cap', w', hrun, .buf p' (c.take (i + 1)).length cap' ((c.take (i + 1)).map tmv) 3 1 :: R, _, hst, cx', by unfold I64; omega, _, _, c.length - (i + 1), hst, fun w G cx => cx, ⟨i + 1, by omega, hlt, rfl, rfl, rfl, rfl⟩, by omega⟩
  · have hge : i = c.length := by have := of_decide_eq_false hge; omega
    subst hge
    rw [List.take_length] at cx ⊢
    have e1 : c.map tmv = (c.map DeltaD.time).map intv := by rw [List.map_map]; rfl
    have e2 : c.length = (c.map DeltaD.time).length := by rw [List.length_map]
    rw [e1, e2] at cx
    rw [e2]
    refine Compact_use (S := R ++ G) (c.map DeltaD.time) cx fun w cx => ?_
    obtain ⟨_, k1, k2⟩ := cx.bufLen 0 rfl
    obtain ⟨cx3, hs, _⟩ := Ctx.freeze (α := Int) (l := Lib.compact (c.map DeltaD.time)) cx (intv_elems _ fun x hx => hI x (compact_mem hx))
    exact ⟨sp, _, sc, rfl, R, fun M w => Φ M w ∧ Sl M w sp (Lib.compact (c.map DeltaD.time)), inferInstance, (cx3.add hs).weak fun M w h => ⟨h.1.1.1, h.2⟩, fun w G cx => ⟨sp, sc, rfl, k1, k2, cx.left⟩⟩

end Go.Proofs.YtnapfhbibikbiaaDoor
end

/-
  The reference's writer of encodings, walked.
-/
section
set_option linter.unusedVariables false
set_option linter.unusedSimpArgs false
namespace Go.Proofs.YtnapfhbibikbiaaDoor
open Go.Vc


theorem neg_tmod10 (n : Nat) : (-(n : Int)).tmod 10 = -((n % 10 : Nat) : Int) := by
  rw [Int.neg_tmod]; rfl
theorem neg_tdiv10 (n : Nat) : (-(n : Int)).tdiv 10 = -((n / 10 : Nat) : Int) := by
  rw [Int.neg_tdiv]; rfl
theorem wrap_dig (d : Nat) (h : d < 10) : IntKind.u8.wrap (48 - -(d : Int)) = ((UInt8.ofNat (48 + d)).toNat : Int) := by
  have : ∀ d : Fin 10, IntKind.u8.wrap (48 - -((d.val : Nat) : Int)) = ((UInt8.ofNat (48 + d.val)).toNat : Int) := by decide
  exact this ⟨d, h⟩
theorem app_list (l : List UInt8) (b : ByteArray) : (⟨l.toArray⟩ : ByteArray) ++ b = ⟨(l ++ b.data.toList).toArray⟩ := by
  apply ByteArray.ext
  rw [ByteArray.data_append]
  apply Array.toList_inj.1
  simp

theorem digits_g : ∀ (n : Nat), n ≤ 9223372036854775808 → Gives Tryd.prog F.errataref01_digits #[.int .i64 (-(n : Int))] (.string ⟨(Lib.decDigits n).toArray⟩) := by
  intro n
  induction n using Nat.strongRecOn with
  | _ n ih =>
    intro hn
    refine gives_of (Berrataref01_digits_run (-(n : Int))) fun W R Φ hs => ?_
    have e0 : (48 : Int) - (-(n : Int)).tmod 10 = 48 - -((n % 10 : Nat) : Int) := by rw [neg_tmod10]
    refine ⟨by omega, by rw [e0]; unfold I64; omega, fun k w G cx => ?_⟩
    rw [e0, wrap_dig _ (by omega)] at cx
    have hcell : ∀ j, (hj : j < [UInt8.ofNat (48 + n % 10)].length) → w.cell? ((⟨k, 0, none⟩ : Addr).add j) = some (.int .u8 ([UInt8.ofNat (48 + n % 10)][j].toNat : Int)) := fun j hj => by
      obtain rfl : j = 0 := by simpa using hj
      exact cx.get 0 rfl rfl
    refine ⟨_, _, run_convert_bytes_back w 71 9 5 ⟨k, 0, none⟩ 1 [UInt8.ofNat (48 + n % 10)] (by kernel_rfl) (by kernel_rfl) (by kernel_rfl) hcell, R, Φ, hs, cx.drop1, ?_⟩
    clear cx
    refine Br.intro (fun h => fun w G cx => ⟨?_, cx.left⟩) (fun h => ?_)
    · have h := of_decide_eq_true h
      rw [Lib.decDigits, dif_pos (by omega), show n % 10 = n by omega]
    · have h := of_decide_eq_false h
      have e1 := neg_tdiv10 n
      refine ⟨by omega, by rw [e1]; unfold I64; omega, fun w G cx => ?_⟩
      rw [e1]
      have hl := nDigits_le 19 (n / 10) (by omega) (by decide)
      have hd := Lib.decDigits_length (n / 10)
      refine ((ih (n / 10) (by omega) (by omega)).in).toS cx ⟨?_, fun w G cx => ⟨?_, cx.left⟩⟩
      · show (ByteArray.mk (Lib.decDigits (n / 10)).toArray).size + 1 ≤ _
        rw [size_list, hd]; omega
      · conv => rhs; rw [Lib.decDigits, dif_neg (by omega)]
        rw [app_list]

theorem Int01_g (n : Int) (h : I64 n) : Gives Tryd.prog F.errataref01_Int #[.int .i64 n] (.string (intB n)) := by
  have hs := intB_size h
  unfold intB numB at hs
  rw [size_app, size_list, show (ByteArray.mk #[59]).size = 1 from rfl] at hs
  unfold I64 at h
  refine gives_of (Berrataref01_Int_run n) fun W R Φ _ => Br.intro (fun hn => ?_) (fun hn => ?_)
  · have hn := of_decide_eq_true hn
    have e : n = -((n.natAbs : Nat) : Int) := by omega
    have hi : Lib.itoa n = 45 :: Lib.decDigits n.natAbs := by unfold Lib.itoa; rw [if_pos hn]
    have hg := digits_g n.natAbs (by omega)
    rw [← e] at hg
    rw [hi, List.length_cons] at hs
    have e45 : (ByteArray.mk #[45]) ++ ByteArray.mk (Lib.decDigits n.natAbs).toArray = numB n := by
      unfold numB
      rw [show (ByteArray.mk #[45]) = ⟨[(45 : UInt8)].toArray⟩ from rfl, app_list, hi]
      rfl
    refine fun w G cx => (hg.in).toS cx ⟨?_, ?_, fun w G cx => ⟨?_, cx.left⟩⟩
    · show 1 + (ByteArray.mk (Lib.decDigits n.natAbs).toArray).size ≤ _
      rw [size_list]; omega
    · show ((ByteArray.mk #[45]) ++ ByteArray.mk (Lib.decDigits n.natAbs).toArray).size + 1 ≤ _
      have e1 : (ByteArray.mk #[45]).size = 1 := rfl
      rw [size_app, size_list (Lib.decDigits n.natAbs), e1]
      omega
    · unfold intB
      rw [← e45]
  · have hn := of_decide_eq_false hn
    have e : 0 - n = -((n.toNat : Nat) : Int) := by omega
    have hi : Lib.itoa n = Lib.decDigits n.toNat := by unfold Lib.itoa; rw [if_neg hn]
    have hg := digits_g n.toNat (by omega)
    rw [← e, ← hi] at hg
    refine ⟨by unfold I64; omega, fun w G cx => (hg.in).toS cx ⟨?_, fun w G cx => ⟨rfl, cx.left⟩⟩⟩
    show (ByteArray.mk (Lib.itoa n).toArray).size + 1 ≤ _
    rw [size_list]; omega

theorem Num01_g (n : Int) (h : I64 n) : Gives Tryd.prog F.errataref01_Num #[.int .i64 n] (.string (natB n)) := by
  refine gives_of (Berrataref01_Num_run n) fun W R Φ _ => Br.intro (fun hn => fun w G cx => ⟨?_, cx.left⟩) (fun hn => fun w G cx => ((Int01_g n h).in).toS cx fun w G cx => ⟨?_, cx.left⟩)
  · unfold natB; rw [if_pos (of_decide_eq_true hn)]
  · unfold natB; rw [if_neg (of_decide_eq_false hn)]

theorem Text01_g (s : ByteArray) (hs : s.size ≤ 1000000000000) : Gives Tryd.prog F.errataref01_Text #[.string s] (.string (textB s)) := by
  have h1 := numB_size (n := (s.size : Int)) (by unfold I64; omega)
  have e : (0 : Int) - s.size = -((s.size : Nat) : Int) := by omega
  have hg := digits_g s.size (by omega)
  have hi : Lib.itoa (s.size : Int) = Lib.decDigits s.size := by unfold Lib.itoa; rw [if_neg (by omega)]; rfl
  rw [← e, ← hi] at hg
  have e1 : (ByteArray.mk #[58]).size = 1 := rfl
  refine gives_of (Berrataref01_Text_run s) fun W R Φ _ => ⟨by unfold I64; omega, fun w G cx => (hg.in).toS cx ⟨?_, ?_, ?_, fun w G cx => ⟨rfl, cx.left⟩⟩⟩
  · show (numB s.size).size + 1 ≤ _; omega
  · show (numB s.size ++ ByteArray.mk #[58]).size + s.size ≤ _; rw [size_app, e1]; omega
  · show (numB s.size ++ ByteArray.mk #[58] ++ s).size + 1 ≤ _; rw [size_app, size_app, e1]; omega

theorem Bytes03_g (v : ValD) (h1 : I64 v.kind) (h2 : I64 v.num) (hs : v.text.size ≤ 1000000000000) : Gives Tryd.prog F.errataref03_Bytes #[v.v] (.string (valB v)) := by
  have a := intB_size h1
  have b := intB_size h2
  have c := textB_size (s := v.text) (by omega)
  refine gives_of (Berrataref03_Bytes_run v.kind v.num v.text) fun W R Φ _ => ?_
  exact fun _ => ⟨R, Φ, inferInstance, fun w G cx => cx, fun w G cx => ((Int01_g v.kind h1).in).toS cx ⟨fun w G cx => cx, fun w G cx => ((Int01_g v.num h2).in).toS cx ⟨fun w G cx => cx, by show (intB v.kind).size + (intB v.num).size ≤ _; omega,
    fun w G cx => ((Text01_g v.text hs).in).toS cx ⟨fun w G cx => cx, by show (intB v.kind ++ intB v.num).size + (textB v.text).size ≤ _; rw [size_app]; omega, fun w G cx => ⟨rfl, cx.left⟩⟩⟩⟩⟩

theorem RowBytes03_in {Φ : PW} [Stable Φ] (p : Option Addr) (cap : Nat) (r : List ValD) (hΦ : ∀ M w, Φ M w → Sl M w p r) (hr : r.length ≤ 1000000) (ht : ∀ v ∈ r, v.text.size ≤ 10000) :
    GivesIn Φ Tryd.prog F.errataref03_RowBytes #[.slice p r.length cap] (.string (rowB r)) := by
  refine .there (fun M w h => (hΦ M w h).there) fun hth => .know (fun M w h => sl_i64 (hΦ M w h)) fun hi => ?_
  have hv : ∀ v ∈ r, (I64 v.kind ∧ I64 v.num) ∧ v.text.size ≤ 10000 := fun v h => ⟨(hi v h).1, ht v h⟩
  have hL := rowL_len hv (by decide) hr
  have hL : (rowL r).length ≤ 20000000000 := by
    have : r.length * (10000 + 64) ≤ 1000000 * 10064 := Nat.mul_le_mul hr (Nat.le_refl _)
    omega
  refine gives_in (Berrataref03_RowBytes_run p r.length cap) fun W R => ?_
  refine fun w G cx => ((Num01_g (r.length : Int) (by unfold I64; omega)).in).toS cx ?_
  clear cx
  refine exI_mk (fun s iI R' Φ' k => ∃ i : Nat, iI = i ∧ i ≤ r.length ∧ s = ⟨((natB r.length).data.toList ++ valsL (r.take i)).toArray⟩ ∧ R' = R ∧ Φ' = Φ ∧ k = r.length - i) ⟨⟨R, Φ, _, inferInstance, fun w G cx => cx, 0, rfl, Nat.zero_le _, by rw [List.take_zero, show valsL [] = [] from rfl, List.append_nil], rfl, rfl, rfl⟩, ?_⟩
  rintro s iI R2 Φ2 k _ ⟨i, rfl, hi, rfl, rfl, rfl, rfl⟩
  refine Br.intro (fun hlt => ?_) (fun hge => fun w G cx => ⟨?_, cx.left⟩)
  · have hlt : i < r.length := by have := of_decide_eq_true hlt; omega
    obtain ⟨g, o, rfl⟩ := hth (by omega)
    obtain ⟨⟨h1, h2⟩, h3⟩ := hv r[i] (List.getElem_mem hlt)
    have hsz := valB_size h1 h2 (by omega)
    have hlen : ((natB r.length).data.toList ++ valsL (r.take (i + 1))).length ≤ 20000000000 := by
      have e : valsL r = valsL (r.take (i + 1)) ++ valsL (r.drop (i + 1)) := by rw [← valsL_app, List.take_append_drop]
      unfold rowL at hL
      rw [e, List.length_append, List.length_append] at hL
      rw [List.length_append]; omega
    have hstep : valsL (r.take (i + 1)) = valsL (r.take i) ++ (valB r[i]).data.toList := by rw [List.take_succ_eq_append_getElem hlt, valsL_app, valsL_one]
    refine ⟨by omega, ptrK_intro g o rfl fun w G cx => ⟨r[i].kind, r[i].num, r[i].text, by rw [Int.toNat_natCast]; exact sl_val (hΦ _ _ cx.phi) hlt, fun w G cx => ((Bytes03_g r[i] h1 h2 (by omega)).in).toS cx ⟨?_, by unfold I64; omega, R2, Φ2, r.length - (i + 1), inferInstance, fun w G cx => cx, ⟨i + 1, by omega, hlt, ?_, rfl, rfl, rfl⟩, by omega⟩⟩⟩
    · show (ByteArray.mk ((natB r.length).data.toList ++ valsL (r.take i)).toArray).size + (valB r[i]).size ≤ _
      rw [hstep, ← List.append_assoc, List.length_append, list_size] at hlen
      rw [size_list]; omega
    · rw [app_list, List.append_assoc, hstep]
  · have hge : i = r.length := by have := of_decide_eq_false hge; omega
    subst hge
    rw [List.take_length]
    rfl
end Go.Proofs.YtnapfhbibikbiaaDoor
end

