/-
  STEPS of a walk: a call whose contract is known, and what follows it.
-/
import Derived.Test.YtnapfhbibikbiaaDoorDd87
import Derived.Test.YtnapfhbibikbiaaDoorDd86
import Derived.Test.YtnapfhbibikbiaaDoorDd85
import Derived.Shelf.Strings.Builder1
import Derived.Shelf.Small.Strs
import Derived.Shelf.Strings.BuilderF
import Derived.Shelf.Strings.BuilderK
import Derived.Shelf.Strconv.Itoa0
import Derived.Shelf.Strconv.Itoa1
import Derived.Shelf.LaysM
import Derived.Shelf.Strconv.Itoa2
import Derived.Shelf.Strconv.Itoa3
import Derived.Shelf.Slices.CompactI
import Derived.Shelf.Slices.SearchI
import Derived.Shelf.Slices.Cells
import Derived.Test.YtnapfhbibikbiaaDoorRows
import Derived.Lib.ItoaNum
import Derived.Lib.SliceRun
import Derived.Laws.IdiomStrings
import Derived.Lib.ConvBytes
import Derived.Lib.AtoiErrMem

section
set_option linter.unusedVariables false
set_option linter.unusedSimpArgs false
namespace Go.Vc

section
variable {P : Program} {W w : World} {R G : List Own} {Φ Ψ : PW} {f : FuncId} {args : Array Value}

/-- what is known holds this, too -/
class Has (Φ Ψ : PW) : Prop where
  go : ∀ M w, Φ M w → Ψ M w
instance (priority := 2000) hasRefl (Φ : PW) : Has Φ Φ := ⟨fun _ _ h => h⟩
instance (priority := 900) hasL (A B Ψ : PW) [h : Has A Ψ] : Has (fun M w => A M w ∧ B M w) Ψ := ⟨fun M w x => h.go M w x.1⟩
instance (priority := 1000) hasR (A B Ψ : PW) [h : Has B Ψ] : Has (fun M w => A M w ∧ B M w) Ψ := ⟨fun M w x => h.go M w x.2⟩
instance hasTrue (Φ : PW) : Has Φ (fun _ _ => True) := ⟨fun _ _ _ => trivial⟩
instance (priority := 800) hasAnd (Φ A B : PW) [h : Has Φ A] [k : Has Φ B] : Has Φ (fun M w => A M w ∧ B M w) := ⟨fun M w x => ⟨h.go M w x, k.go M w x⟩⟩

theorem Ctx.has (c : Ctx W w R Φ) [h : Has Φ Ψ] : Ctx W w R Ψ := c.weak h.go

theorem GivesSl.to [Stable Φ] {α : Type} [Gv α] {l : List α} (h : GivesSl Φ P f args l id) (c : Ctx W w (R ++ G) Φ) {K : Option Addr → Nat → Nat → List Own → PW → Prop}
    (hk : ∀ p cap, l.length ≤ cap → cap ≤ maxLen → Stable (fun M w => Φ M w ∧ Sl M w p l) → K p l.length cap R (fun M w => Φ M w ∧ Sl M w p l)) :
    Calls P f args w fun e w' => ∃ p n c, e = .returned (.slice p n c) ∧ ∃ R' Φ', Stable Φ' ∧ Ctx W w' (R' ++ G) Φ' ∧ K p n c R' Φ' :=
  h.use c fun p cap w' h1 h2 c => ⟨p, _, cap, rfl, R, _, inferInstance, c, hk p cap h1 h2 inferInstance⟩

theorem GivesIn.toB [Stable Φ] {b : Bool} (h : GivesIn Φ P f args (.bool b)) (c : Ctx W w (R ++ G) Φ) {K : Bool → List Own → PW → Prop} (hk : K b R Φ) :
    Calls P f args w fun e w' => ∃ c, e = .returned (.bool c) ∧ ∃ R' Φ', Stable Φ' ∧ Ctx W w' (R' ++ G) Φ' ∧ K c R' Φ' :=
  h.use c fun w' c => ⟨b, rfl, R, Φ, inferInstance, c, hk⟩
theorem GivesIn.toI [Stable Φ] {n : Int} {k : IntKind} (h : GivesIn Φ P f args (.int k n)) (c : Ctx W w (R ++ G) Φ) {K : Int → List Own → PW → Prop} (hk : K n R Φ) :
    Calls P f args w fun e w' => ∃ c, e = .returned (.int k c) ∧ ∃ R' Φ', Stable Φ' ∧ Ctx W w' (R' ++ G) Φ' ∧ K c R' Φ' :=
  h.use c fun w' c => ⟨n, rfl, R, Φ, inferInstance, c, hk⟩
theorem GivesIn.toS [Stable Φ] {s : ByteArray} (h : GivesIn Φ P f args (.string s)) (c : Ctx W w (R ++ G) Φ) {K : ByteArray → List Own → PW → Prop} (hk : K s R Φ) :
    Calls P f args w fun e w' => ∃ c, e = .returned (.string c) ∧ ∃ R' Φ', Stable Φ' ∧ Ctx W w' (R' ++ G) Φ' ∧ K c R' Φ' :=
  h.use c fun w' c => ⟨s, rfl, R, Φ, inferInstance, c, hk⟩

theorem GivesIn.toBW [hs : Stable Ψ] {b : Bool} (h : GivesIn Φ P f args (.bool b)) (c : Ctx W w (R ++ G) Φ) [hw : Has Φ Ψ] {K : Bool → List Own → PW → Prop} (hk : K b R Ψ) :
    Calls P f args w fun e w' => ∃ c, e = .returned (.bool c) ∧ ∃ R' Φ', Stable Φ' ∧ Ctx W w' (R' ++ G) Φ' ∧ K c R' Φ' :=
  h.use c fun w' c => ⟨b, rfl, R, Ψ, inferInstance, c.has, hk⟩

/-- .. with the place of the slice -/
theorem GivesSl.tot [Stable Φ] {α : Type} [Gv α] {l : List α} (h : GivesSl Φ P f args l id) (c : Ctx W w (R ++ G) Φ) {K : Option Addr → Nat → Nat → List Own → PW → Prop}
    (hk : ∀ p cap, l.length ≤ cap → cap ≤ maxLen → There p l.length → Stable (fun M w => Φ M w ∧ Sl M w p l) → K p l.length cap R (fun M w => Φ M w ∧ Sl M w p l)) :
    Calls P f args w fun e w' => ∃ p n c, e = .returned (.slice p n c) ∧ ∃ R' Φ', Stable Φ' ∧ Ctx W w' (R' ++ G) Φ' ∧ K p n c R' Φ' :=
  h.use c fun p cap w' h1 h2 c => ⟨p, _, cap, rfl, R, _, inferInstance, c, hk p cap h1 h2 c.phi.2.there inferInstance⟩
/-- the end -/
theorem fin [Stable Φ] [Stable Ψ] [hw : Has Ψ Φ] {v : Value} (c : Ctx W w (R ++ G) Ψ) : v = v ∧ Ctx W w R Φ := ⟨rfl, (Ctx.has c).left⟩

end
end Go.Vc
end

/-
  The reference's sorting: in plain Lean, and walked.
-/
section
set_option linter.unusedVariables false
set_option linter.unusedSimpArgs false
namespace Go.Proofs.YtnapfhbibikbiaaDoor
open Go.Vc


/-! ### in plain Lean -/
def leD (x y : DeltaD) : Bool := decide (cmpD x y ≤ 0)
def srt : Nat → List DeltaD → List DeltaD
  | 0, l => l
  | f + 1, l => if l.length < 2 then l else List.merge (srt f (l.take (l.length / 2))) (srt f (l.drop (l.length / 2))) leD

theorem srt_perm : ∀ (f : Nat) (l : List DeltaD), (srt f l).Perm l
  | 0, l => .refl _
  | f + 1, l => by
    unfold srt
    split
    · exact .refl _
    · refine (List.merge_perm_append leD).trans (((srt_perm f _).append (srt_perm f _)).trans ?_)
      rw [List.take_append_drop]
theorem leD_trans (x y z : DeltaD) (h1 : leD x y = true) (h2 : leD y z = true) : leD x z = true := by
  unfold leD at *
  have h1 := of_decide_eq_true h1
  have h2 := of_decide_eq_true h2
  rw [cmpD_key] at h1 h2
  refine decide_eq_true ?_
  rw [cmpD_key]
  rcases Int.lt_or_eq_of_le h1 with h3 | h3
  · rcases Int.lt_or_eq_of_le h2 with h4 | h4
    · exact Int.le_of_lt (cmpK_cmp.trans _ _ _ h3 h4)
    · rw [← (cmpK_cmp.eq _ _).1 h4]; exact h1
  · rw [(cmpK_cmp.eq _ _).1 h3]; exact h2
theorem leD_total (x y : DeltaD) : (leD x y || leD y x) = true := by
  unfold leD
  rw [Bool.or_eq_true, decide_eq_true_eq, decide_eq_true_eq, cmpD_key, cmpD_key]
  rcases cmpK_cmp.tri x.key y.key with h | h | h
  · left; omega
  · left; rw [h, cmpK_cmp.refl]; omega
  · right; omega
theorem srt_asc : ∀ (f : Nat) (l : List DeltaD), l.length ≤ f → (srt f l).Pairwise (fun a b => leD a b = true)
  | 0, l, h => by
    rw [List.length_eq_zero_iff.1 (Nat.le_zero.1 h)]
    exact List.Pairwise.nil
  | f + 1, l, h => by
    unfold srt
    split
    · rename_i h2
      match l, h2 with
      | [], _ => exact List.Pairwise.nil
      | [x], _ => exact List.pairwise_singleton _ _
    · exact List.pairwise_merge leD_trans leD_total _ _ (srt_asc f _ (by rw [List.length_take]; omega)) (srt_asc f _ (by rw [List.length_drop]; omega))

theorem merge_l {A B : List DeltaD} {i k : Nat} (hi : i < A.length) (hk : k < B.length) (h : cmpD A[i] B[k] ≤ 0) : List.merge (A.drop i) (B.drop k) leD = A[i] :: List.merge (A.drop (i + 1)) (B.drop k) leD := by
  rw [List.drop_eq_getElem_cons hi]
  conv => lhs; rw [List.drop_eq_getElem_cons hk, List.cons_merge_cons_pos _ _ _ (show leD A[i] B[k] = true from decide_eq_true h), ← List.drop_eq_getElem_cons hk]
theorem merge_r {A B : List DeltaD} {i k : Nat} (hi : i < A.length) (hk : k < B.length) (h : ¬ cmpD A[i] B[k] ≤ 0) : List.merge (A.drop i) (B.drop k) leD = B[k] :: List.merge (A.drop i) (B.drop (k + 1)) leD := by
  have h2 : ¬ leD A[i] B[k] = true := by unfold leD; simpa using h
  conv => lhs; rw [List.drop_eq_getElem_cons hi, List.drop_eq_getElem_cons hk, List.cons_merge_cons_neg _ _ _ h2, ← List.drop_eq_getElem_cons hi]
theorem merge_l0 {A B : List DeltaD} {i k : Nat} (hi : i < A.length) (hk : B.length ≤ k) : List.merge (A.drop i) (B.drop k) leD = A[i] :: List.merge (A.drop (i + 1)) (B.drop k) leD := by
  rw [List.drop_eq_nil_of_le hk, List.merge_right, List.merge_right, List.drop_eq_getElem_cons hi]
theorem merge_r0 {A B : List DeltaD} {i k : Nat} (hi : A.length ≤ i) (hk : k < B.length) : List.merge (A.drop i) (B.drop k) leD = B[k] :: List.merge (A.drop i) (B.drop (k + 1)) leD := by
  rw [List.drop_eq_nil_of_le hi, List.nil_merge, List.nil_merge, List.drop_eq_getElem_cons hk]

/-! ### walked -/
theorem tdiv2 (n : Nat) : (n : Int).tdiv 2 = ((n / 2 : Nat) : Int) := rfl

/-- the cells of a pinned list -/
theorem Ctx.cells {W w : World} {S : List Own} {Φ : PW} {g o : Nat} {cs : List (List Value)} {l : List DeltaD} (c : Ctx W w S Φ) (h : ∀ M w, Φ M w → Pin g o cs l M w) :
    ∀ j, (hj : j < l.length) → ∃ p c, cs.getD j [] = l[j].cells p c ∧ l[j].row.length ≤ c ∧ c ≤ maxLen ∧ I64 l[j].time ∧ I64 l[j].n := fun j hj => by
  obtain ⟨p, q, h1, h2, h3, h4, h5, _⟩ := pin_delta (h _ _ c.phi) hj
  exact ⟨p, q, h1, h2, h3, h4, h5⟩

/-- append one delta that was read -/
theorem push1 {W w : World} {R G : List Own} {PS : PW} [Stable PS] {op : Option Addr} {oc : Nat} {ds : List Value} {o : List DeltaD} {x : DeltaD} {q : Option Addr} {qc kb : Nat} (hx : ∀ M w, PS M w → Gv.rep M w (x.cells q qc) x) (ho : o.length < 10000000)
    (cx : Ctx W w (.blk kb (x.cells q qc) 39 :: .buf op o.length oc ds 39 3 :: R ++ G) (fun M w => PS M w ∧ Elems M w ds o)) :
    ∃ p c w', Sem.run Tryd.prog (builtin Builtin.append #[22, 22] 22 #[false, false] #[.slice op o.length oc, .slice (some ⟨kb, 0, none⟩) 1 1]) w = .ok (.value (.slice p (o ++ [x]).length c)) w' ∧ Ctx W w' (.buf p (o ++ [x]).length c (ds ++ x.cells q qc) 39 3 :: R ++ G) (fun M w => PS M w ∧ Elems M w (ds ++ x.cells q qc) (o ++ [x])) := by
  obtain ⟨p', cap', w', hrun, _, cx'⟩ := Ctx.app1 (P := Tryd.prog) (ts := 22) (ty := 22) (kb := #[false, false]) (size := 3) (bytes := 40) cx (by kernel_rfl) (by omega) rfl rfl (by omega) (by omega)
  have e : o.length + 1 = (o ++ [x]).length := by simp
  rw [e] at hrun cx'
  exact ⟨p', cap', w', hrun, cx'.weak fun M w h => ⟨h.1, h.2.snoc (hx M w h.1)⟩⟩

set_option maxHeartbeats 4000000 in
theorem sorted_sl : ∀ (f : Nat) {Φ : PW} [Stable Φ] (p : Option Addr) (cap : Nat) (l : List DeltaD), (∀ M w, Φ M w → Sl M w p l) → l.length ≤ f → l.length ≤ cap → cap ≤ maxLen → l.length ≤ 1000000 → Rows1 l → GivesSl Φ Tryd.prog F.errataref28_sorted #[.slice p l.length cap] (srt f l) id := by
  intro f
  induction f with
  | zero =>
    intro Φ _ p cap l hΦ hf hc1 hc2 hl hr
    refine gives_sl (Berrataref28_sorted_run p l.length cap) fun W R => Br.intro (fun _ => fun w G cx => ⟨p, cap, rfl, hc1, hc2, cx.left.weak fun M w h => ⟨h, hΦ M w h⟩⟩) (fun h => ?_)
    have := of_decide_eq_false h
    omega
  | succ f ih =>
    intro Φ hΦs p cap l hΦ hf hc1 hc2 hl hr
    refine .there (fun M w h => (hΦ M w h).there) fun hth => ?_
    by_cases h2 : l.length < 2
    · have e : srt (f + 1) l = l := by unfold srt; rw [if_pos h2]
      rw [e]
      exact gives_sl (Berrataref28_sorted_run p l.length cap) fun W R => Br.intro (fun _ => fun w G cx => ⟨p, cap, rfl, hc1, hc2, cx.left.weak fun M w h => ⟨h, hΦ M w h⟩⟩) (fun h => by have := of_decide_eq_false h; omega)
    · have e : srt (f + 1) l = List.merge (srt f (l.take (l.length / 2))) (srt f (l.drop (l.length / 2))) leD := by conv => lhs; unfold srt; rw [if_neg h2]
      rw [e]
      refine gives_sl (Berrataref28_sorted_run p l.length cap) fun W R => Br.intro (fun h => by have := of_decide_eq_true h; omega) (fun _ => ?_)
      have t2 := tdiv2 l.length
      have lA : (l.take (l.length / 2)).length = ((l.length : Int).tdiv 2).toNat := by rw [List.length_take, t2, Int.toNat_natCast]; omega
      have lB : (l.drop (l.length / 2)).length = l.length - ((l.length : Int).tdiv 2).toNat := by rw [List.length_drop, t2, Int.toNat_natCast]
      have hA : ∀ M w, Φ M w → Sl M w (subPtr p 3 0 cap) (l.take (l.length / 2)) := fun M w h => by
        have h1 := addr_sub (hΦ M w h) 0 hc1
        rw [List.drop_zero] at h1
        exact fun j hj => by
          have hj2 : j < l.length := by rw [List.length_take] at hj; omega
          obtain ⟨b, o, cs, h1, h2, h3, h4⟩ := h1 j hj2
          exact ⟨b, o, cs, h1, h2, h3, by rw [List.getElem_take]; exact h4⟩
      have hB : ∀ M w, Φ M w → Sl M w (subPtr p 3 ((l.length : Int).tdiv 2).toNat cap) (l.drop (l.length / 2)) := fun M w h => by
        have h1 := addr_sub (hΦ M w h) (l.length / 2) hc1
        rw [t2, Int.toNat_natCast]
        exact h1
      have ihA := ih (Φ := Φ) (subPtr p 3 0 cap) cap (l.take (l.length / 2)) hA (by rw [List.length_take]; omega) (by rw [List.length_take]; omega) hc2 (by rw [List.length_take]; omega) (fun x hx => hr x (List.mem_of_mem_take hx))
      obtain ⟨A, eA⟩ : ∃ A, srt f (l.take (l.length / 2)) = A := ⟨_, rfl⟩
      obtain ⟨B, eB⟩ : ∃ B, srt f (l.drop (l.length / 2)) = B := ⟨_, rfl⟩
      have pA : A.Perm (l.take (l.length / 2)) := by rw [← eA]; exact srt_perm f _
      have pB : B.Perm (l.drop (l.length / 2)) := by rw [← eB]; exact srt_perm f _
      have nA := pA.length_eq
      have nB := pB.length_eq
      rw [List.length_take] at nA
      rw [List.length_drop] at nB
      rw [lA] at ihA
      refine ⟨by omega, by rw [t2]; unfold I64; omega, by rw [t2]; omega, fun w G cx => ihA.to cx fun p1 c1 g1 g2 st1 => ?_⟩
      clear cx
      refine ⟨by omega, by rw [t2]; unfold I64; omega, by rw [t2]; omega, ?_⟩
      rw [eA] at g1 st1 ⊢
      have ihB := ih (Φ := fun M w => Φ M w ∧ Sl M w p1 A) (subPtr p 3 ((l.length : Int).tdiv 2).toNat cap) (cap - ((l.length : Int).tdiv 2).toNat) (l.drop (l.length / 2)) (fun M w h => hB M w h.1) (by rw [List.length_drop]; omega) (by rw [List.length_drop, t2, Int.toNat_natCast]; omega) (by omega) (by rw [List.length_drop]; omega) (fun x hx => hr x (List.mem_of_mem_drop hx))
      rw [lB, eB] at ihB
      refine fun w G cx => ihB.use cx fun p2 c2 w g3 g4 cx => ?_
      rw [eB]
      obtain ⟨ga, oa, ca, hpa, cx⟩ := cx.pin cx.phi.1.2
      obtain ⟨gb, ob, cb, hpb, cx⟩ := cx.pin cx.phi.1.2
      obtain ⟨PS, hPS⟩ : ∃ PS : PW, PS = (fun M w => (((Φ M w ∧ Sl M w p1 A) ∧ Sl M w p2 B) ∧ Pin ga oa ca A M w) ∧ Pin gb ob cb B M w) := ⟨_, rfl⟩
      have stP : Stable PS := by rw [hPS]; infer_instance
      have iA : ∀ M w, PS M w → Pin ga oa ca A M w := fun M w h => by rw [hPS] at h; exact h.1.2
      have iB : ∀ M w, PS M w → Pin gb ob cb B M w := fun M w h => by rw [hPS] at h; exact h.2
      have i0 : ∀ M w, PS M w → Φ M w := fun M w h => by rw [hPS] at h; exact h.1.1.1.1
      rw [← hPS] at cx
      clear hPS
      have hcA := Ctx.cells cx iA
      have hcB := Ctx.cells cx iB
      have hrA : ∀ j, (hj : j < A.length) → A[j].row.length ≤ 1000000 := fun j hj => hr _ (List.mem_of_mem_take (pA.mem_iff.1 (List.getElem_mem hj)))
      refine ⟨p2, _, c2, rfl, R, PS, stP, cx, ?_⟩
      clear cx ihA ihB
      refine exI_mk (fun op on oc iI kI R' Φ' m => ∃ (i k : Nat) (o : List DeltaD) (ds : List Value), iI = i ∧ kI = k ∧ i ≤ A.length ∧ k ≤ B.length ∧ on = o.length ∧ o.length = i + k ∧ o ++ List.merge (A.drop i) (B.drop k) leD = List.merge A B leD ∧ R' = .buf op on oc ds 39 3 :: R ∧ Φ' = (fun M w => PS M w ∧ Elems M w ds o) ∧ m = (A.length - i) + (B.length - k))
        ⟨⟨.buf none 0 0 [] 39 3 :: R, fun M w => PS M w ∧ Elems M w [] ([] : List DeltaD), _, inferInstance, fun w G cx => (cx.nobuf 39 3).weak fun M w h => ⟨h, Elems.nil⟩, 0, 0, [], [], rfl, rfl, Nat.zero_le _, Nat.zero_le _, rfl, rfl, rfl, rfl, rfl, rfl⟩, ?_⟩
      rintro op on oc iI kI R1 Φ1 m _ ⟨i, k, o, ds, rfl, rfl, hi, hk, rfl, hol, hme, rfl, rfl, rfl⟩
      have st2 : Stable (fun M w => PS M w ∧ Elems M w ds o) := inferInstance
      have rowA : ∀ {w : World} {S : List Own} {Ψ : PW}, (hj : i < A.length) → ∀ {q qc}, ca.getD i [] = A[i].cells q qc → Ctx W w S (fun M w => PS M w ∧ Ψ M w) → RowAt w ga (oa + (i : Int).toNat * 3) [.int .i64 A[i].time, .slice q A[i].row.length qc, .int .i64 A[i].n] := fun hj q qc he cx => by rw [Int.toNat_natCast]; exact pin_rowAt (iA _ _ cx.phi.1) hj he
      have rowB : ∀ {w : World} {S : List Own} {Ψ : PW}, (hj : k < B.length) → ∀ {q qc}, cb.getD k [] = B[k].cells q qc → Ctx W w S (fun M w => PS M w ∧ Ψ M w) → RowAt w gb (ob + (k : Int).toNat * 3) [.int .i64 B[k].time, .slice q B[k].row.length qc, .int .i64 B[k].n] := fun hj q qc he cx => by rw [Int.toNat_natCast]; exact pin_rowAt (iB _ _ cx.phi.1) hj he
      refine fun w G cx => ?_
      clear cx
      refine Br.intro (fun hor => fun w G cx => ?_) (fun hnor => fun w G cx => ?_)
      · clear cx
        rw [Bool.or_eq_true] at hor
        refine Br.intro (fun hand => ?_) (fun hnand => ?_)
        · rw [Bool.and_eq_true] at hand
          have hiA : i < A.length := by have := of_decide_eq_true hand.1; omega
          have hkB : k < B.length := by have := of_decide_eq_true hand.2; omega
          obtain ⟨qa, qca, ea, ha1, ha2, ha3, ha4⟩ := hcA i hiA
          obtain ⟨qb, qcb, eb, hb1, hb2, hb3, hb4⟩ := hcB k hkB
          have hsa : ∀ M w, (PS M w ∧ Elems M w ds o) → Sl M w qa A[i].row := fun M w h => pin_row (iA M w h.1) hiA ea
          have hsb : ∀ M w, (PS M w ∧ Elems M w ds o) → Sl M w qb B[k].row := fun M w h => pin_row (iB M w h.1) hkB eb
          refine ⟨_, _, st2, fun w G cx => cx, by omega, ptrK_intro ga oa (hpa (by omega)) ⟨by omega, ptrK_intro gb ob (hpb (by omega)) ⟨_, _, _, _, _, fun w G cx => ⟨_, _, _, _, _, rowA hiA ea cx, rfl⟩, _, _, _, _, _, fun w G cx => ⟨_, _, _, _, _, rowB hkB eb cx, rfl⟩, fun w G cx => (rCompareD_in A[i] B[k] qa qb qca qcb hsa hsb (by have := hrA i hiA; omega)).toI cx ?_⟩⟩⟩
          refine Br.intro (fun hle => ⟨by omega, ptrK_intro ga oa (hpa (by omega)) fun w G cx => ⟨_, _, _, _, _, rowA hiA ea cx, fun kb w G cx => ?_⟩⟩) (fun hgt => ⟨by omega, ptrK_intro gb ob (hpb (by omega)) fun w G cx => ⟨_, _, _, _, _, rowB hkB eb cx, fun kb w G cx => ?_⟩⟩)
          · obtain ⟨p', c', w', hrun, cx'⟩ := push1 (x := A[i]) (fun M w h => rep_delta ha1 ha2 ha3 ha4 (pin_row (iA M w h) hiA ea)) (by omega) cx
            exact ⟨p', _, c', w', hrun, _, _, inferInstance, cx', by unfold I64; omega, _, _, (A.length - (i + 1)) + (B.length - k), inferInstance, fun w G cx => cx, ⟨i + 1, k, o ++ [A[i]], _, by omega, rfl, hiA, hk, rfl, by rw [List.length_append, List.length_singleton]; omega, by rw [← hme, merge_l hiA hkB (of_decide_eq_true hle)]; simp, rfl, rfl, rfl⟩, by omega⟩
          · obtain ⟨p', c', w', hrun, cx'⟩ := push1 (x := B[k]) (fun M w h => rep_delta hb1 hb2 hb3 hb4 (pin_row (iB M w h) hkB eb)) (by omega) cx
            exact ⟨p', _, c', w', hrun, _, _, inferInstance, cx', by unfold I64; omega, _, _, (A.length - i) + (B.length - (k + 1)), inferInstance, fun w G cx => cx, ⟨i, k + 1, o ++ [B[k]], _, rfl, by omega, hi, hkB, rfl, by rw [List.length_append, List.length_singleton]; omega, by rw [← hme, merge_r hiA hkB (of_decide_eq_false hgt)]; simp, rfl, rfl, rfl⟩, by omega⟩
        · rw [Bool.and_eq_false_iff] at hnand
          refine Br.intro (fun hge => ?_) (fun hlt => ?_)
          · have hkB : B.length ≤ k := by have := of_decide_eq_true hge; omega
            have hiA : i < A.length := by rcases hor with h | h <;> have := of_decide_eq_true h <;> omega
            obtain ⟨qa, qca, ea, ha1, ha2, ha3, ha4⟩ := hcA i hiA
            refine ⟨by omega, ptrK_intro ga oa (hpa (by omega)) fun w G cx => ⟨_, _, _, _, _, rowA hiA ea cx, fun kb w G cx => ?_⟩⟩
            obtain ⟨p', c', w', hrun, cx'⟩ := push1 (x := A[i]) (fun M w h => rep_delta ha1 ha2 ha3 ha4 (pin_row (iA M w h) hiA ea)) (by omega) cx
            exact ⟨p', _, c', w', hrun, _, _, inferInstance, cx', by unfold I64; omega, _, _, (A.length - (i + 1)) + (B.length - k), inferInstance, fun w G cx => cx, ⟨i + 1, k, o ++ [A[i]], _, by omega, rfl, hiA, hk, rfl, by rw [List.length_append, List.length_singleton]; omega, by rw [← hme, merge_l0 hiA hkB]; simp, rfl, rfl, rfl⟩, by omega⟩
          · have hkB : k < B.length := by have := of_decide_eq_false hlt; omega
            have hiA : A.length ≤ i := by rcases hnand with h | h <;> have := of_decide_eq_false h <;> omega
            obtain ⟨qb, qcb, eb, hb1, hb2, hb3, hb4⟩ := hcB k hkB
            refine ⟨by omega, ptrK_intro gb ob (hpb (by omega)) fun w G cx => ⟨_, _, _, _, _, rowB hkB eb cx, fun kb w G cx => ?_⟩⟩
            obtain ⟨p', c', w', hrun, cx'⟩ := push1 (x := B[k]) (fun M w h => rep_delta hb1 hb2 hb3 hb4 (pin_row (iB M w h) hkB eb)) (by omega) cx
            exact ⟨p', _, c', w', hrun, _, _, inferInstance, cx', by unfold I64; omega, _, _, (A.length - i) + (B.length - (k + 1)), inferInstance, fun w G cx => cx, ⟨i, k + 1, o ++ [B[k]], _, rfl, by omega, hi, hkB, rfl, by rw [List.length_append, List.length_singleton]; omega, by rw [← hme, merge_r0 hiA hkB]; simp, rfl, rfl, rfl⟩, by omega⟩
      · rw [Bool.or_eq_false_iff] at hnor
        have hiA : i = A.length := by have := of_decide_eq_false hnor.1; omega
        have hkB : k = B.length := by have := of_decide_eq_false hnor.2; omega
        subst hiA; subst hkB
        rw [List.drop_length, List.drop_length, List.nil_merge, List.append_nil] at hme
        have cx := cx.left
        obtain ⟨cx3, hs, _, g5, g6⟩ := Ctx.freeze (α := DeltaD) cx.fst cx.phi.2
        rw [← hme]
        exact ⟨op, oc, rfl, g5, g6, (cx3.add hs).weak fun M w h => ⟨i0 M w h.1, h.2⟩⟩

end Go.Proofs.YtnapfhbibikbiaaDoor
end

/-
  The reference's consolidation, and what is built upon it, walked.
-/
section
set_option linter.unusedVariables false
set_option linter.unusedSimpArgs false
namespace Go.Proofs.YtnapfhbibikbiaaDoor
open Go.Vc


theorem Clone28_sl {Φ : PW} [Stable Φ] (x : DeltaD) (p : Option Addr) (cap : Nat) (n : Int) (hΦ : ∀ M w, Φ M w → Sl M w p x.row) (hlen : x.row.length ≤ 1000000) : GivesSl Φ Tryd.prog F.errataref28_clone #[x.v p cap, .int .i64 n] x.row (fun v => .agg #[.int .i64 x.time, v, .int .i64 n]) := by
  refine gives_sl (Berrataref28_clone_run x.time p x.row.length cap x.n n) fun W R => ?_
  intro _ _
  refine ⟨R, Φ, inferInstance, fun w G cx => cx, fun k => ⟨fun w G cx => cx.drop1, fun w G cx => ?_⟩⟩
  obtain ⟨p', cap', w', cs, hrun, c'⟩ := Ctx.cloned (P := Tryd.prog) (ts := 37) (ty := 37) (kb := #[false, false]) (bytes := 32) (c2 := cap) cx (by kernel_rfl) val_one hΦ (by omega) (by omega)
  refine ⟨_, _, _, _, hrun, .buf p' x.row.length cap' cs 65 3 :: R, _, inferInstance, c', fun w G cx => cx.drop1.fst, fun w G cx => ?_⟩
  obtain ⟨_, g1, g2⟩ := cx.bufLen 0 rfl
  obtain ⟨cx3, hs, _⟩ := Ctx.freeze (α := ValD) cx.fst cx.phi.2
  exact ⟨p', cap', rfl, g1, g2, (cx3.add hs).left⟩

/-- append one delta whose row is new -/
theorem push2 {W w : World} {R G : List Own} {PS Ψ : PW} [Stable PS] [Stable Ψ] {op : Option Addr} {oc : Nat} {ds : List Value} {o : List DeltaD} {x : DeltaD} {q : Option Addr} {qc kb : Nat} (hx : ∀ M w, PS M w → Ψ M w → Gv.rep M w (x.cells q qc) x) (ho : o.length < 10000000)
    (cx : Ctx W w (.blk kb (x.cells q qc) 39 :: .buf op o.length oc ds 39 3 :: R ++ G) (fun M w => (PS M w ∧ Elems M w ds o) ∧ Ψ M w)) :
    ∃ p c w', Sem.run Tryd.prog (builtin Builtin.append #[22, 22] 22 #[false, false] #[.slice op o.length oc, .slice (some ⟨kb, 0, none⟩) 1 1]) w = .ok (.value (.slice p (o ++ [x]).length c)) w' ∧ Ctx W w' (.buf p (o ++ [x]).length c (ds ++ x.cells q qc) 39 3 :: R ++ G) (fun M w => PS M w ∧ Elems M w (ds ++ x.cells q qc) (o ++ [x])) := by
  obtain ⟨p', c', w', h1, h2⟩ := push1 (PS := fun M w => PS M w ∧ Ψ M w) (x := x) (q := q) (qc := qc) (fun M w h => hx M w h.1 h.2) ho (cx.weak fun M w h => ⟨⟨h.1.1, h.2⟩, h.1.2⟩)
  exact ⟨p', c', w', h1, h2.weak fun M w h => ⟨h.1.1, h.2⟩⟩

/-! ### in plain Lean -/
def dz (x : DeltaD) : DE := ⟨x, none, 0⟩
theorem dz_d (s : List DeltaD) : (s.map dz).map DE.d = s := by
  rw [List.map_map]
  exact List.map_id s
abbrev CO (l s outs : List DeltaD) (i : Nat) : Prop := COuter l (s.map dz) (outs.map dz) i
theorem CO.start {l s : List DeltaD} (h : s.Perm l) : CO l s [] 0 :=
  ⟨Nat.zero_le _, Norm.nil, by simp, fun k => by rw [List.drop_zero, dz_d, dz_d]; exact findP_perm h k, Nat.le_refl _⟩
theorem CO.step {l s outs : List DeltaD} {i : Nat} (h : CO l s outs i) {X : DeltaD} (hX : X ∈ s.drop i) {j : Nat} (hij : i + j ≤ s.length) (hj : 1 ≤ j) (hk : ∀ y ∈ (s.drop i).take j, y.key = X.key) {N : Int} (hN : N = findP ((s.drop i).take j) X.key)
    (hgt : ∀ y ∈ s.drop (i + j), cmpK X.key y.key < 0) : (N = 0 → CO l s outs (i + j)) ∧ (N ≠ 0 → CO l s (outs ++ [⟨X.time, X.row, N⟩]) (i + j)) := by
  have h1 := COuter.step h (X := dz X) (by rw [← List.map_drop]; exact List.mem_map_of_mem hX) (j := j) (by rw [List.length_map]; exact hij) hj
    (fun y hy => by rw [← List.map_drop, ← List.map_take] at hy; obtain ⟨z, hz, rfl⟩ := List.mem_map.1 hy; exact hk z hz) (N := N) (by rw [← List.map_drop, ← List.map_take, dz_d]; exact hN)
    (fun y hy => by rw [← List.map_drop] at hy; obtain ⟨z, hz, rfl⟩ := List.mem_map.1 hy; exact hgt z hz)
  refine ⟨h1.1, fun h0 => ?_⟩
  have := h1.2 h0 none 0
  unfold CO
  rw [List.map_append]
  exact this
theorem CO.end {l s outs : List DeltaD} (h : CO l s outs s.length) : consP l = outs := by
  have h1 := h.norm
  have h2 := h.find
  rw [dz_d] at h1 h2
  refine consP_is h1 fun k => ?_
  have := h2 k
  rwa [← List.map_drop, List.drop_length, List.map_nil, List.map_nil, List.append_nil] at this
theorem CO.few {l s outs : List DeltaD} {i : Nat} (h : CO l s outs i) : outs.length ≤ i := by
  have := COuter.few h
  rwa [List.length_map] at this

set_option maxHeartbeats 4000000 in
theorem Cons28_sl {Φ : PW} [Stable Φ] (p : Option Addr) (cap : Nat) (l : List DeltaD) (hΦ : ∀ M w, Φ M w → Sl M w p l) (hc1 : l.length ≤ cap) (hc2 : cap ≤ maxLen) (hlen : l.length ≤ 1000000) (hrow : Rows1 l) : GivesSl Φ Tryd.prog F.errataref28_Consolidate #[.slice p l.length cap] (consP l) id := by
  refine gives_sl (Berrataref28_Consolidate_run p l.length cap) fun W R => ?_
  refine fun w G cx => (sorted_sl l.length p cap l hΦ (Nat.le_refl _) hc1 hc2 hlen hrow).use cx fun p1 c1 w g1 g2 cx => ?_
  have hperm := srt_perm l.length l
  have hasc := srt_asc l.length l (Nat.le_refl _)
  obtain ⟨s, hs⟩ : ∃ s, srt l.length l = s := ⟨_, rfl⟩
  rw [hs] at cx g1 hperm hasc ⊢
  have hsl := hperm.length_eq
  obtain ⟨g, o, cs, hp, cx⟩ := cx.pin cx.phi.2
  obtain ⟨PS, hPS⟩ : ∃ PS : PW, PS = (fun M w => (Φ M w ∧ Sl M w p1 s) ∧ Pin g o cs s M w) := ⟨_, rfl⟩
  have stP : Stable PS := by rw [hPS]; infer_instance
  have iP : ∀ M w, PS M w → Pin g o cs s M w := fun M w h => by rw [hPS] at h; exact h.2
  have i0 : ∀ M w, PS M w → Φ M w := fun M w h => by rw [hPS] at h; exact h.1.1
  rw [← hPS] at cx
  clear hPS hs
  have hcs := Ctx.cells cx iP
  have hrw : ∀ j, (hj : j < s.length) → s[j].row.length ≤ 1000000 := fun j hj => hrow _ (hperm.mem_iff.1 (List.getElem_mem hj))
  refine ⟨p1, _, c1, rfl, R, PS, stP, cx, ?_⟩
  clear cx
  refine exI_mk (fun op on oc iI R' Φ' m => ∃ (i : Nat) (outs : List DeltaD) (ds : List Value), CO l s outs i ∧ iI = i ∧ i ≤ s.length ∧ on = outs.length ∧ R' = .buf op on oc ds 39 3 :: R ∧ Φ' = (fun M w => PS M w ∧ Elems M w ds outs) ∧ m = s.length - i)
    ⟨⟨.buf none 0 0 [] 39 3 :: R, fun M w => PS M w ∧ Elems M w [] ([] : List DeltaD), _, inferInstance, fun w G cx => (cx.nobuf 39 3).weak fun M w h => ⟨h, Elems.nil⟩, 0, [], [], CO.start hperm, rfl, Nat.zero_le _, rfl, rfl, rfl, rfl⟩, ?_⟩
  rintro op on oc iI R1 Φ1 m _ ⟨i, outs, ds, hco, rfl, hi, rfl, rfl, rfl, rfl⟩
  have st2 : Stable (fun M w => PS M w ∧ Elems M w ds outs) := inferInstance
  refine Br.intro (fun hlt => ?_) (fun hge => fun w G cx => ?_)
  · have hlt : i < s.length := by have := of_decide_eq_true hlt; omega
    obtain ⟨q, qc, he, f1, f2, f3, f4⟩ := hcs i hlt
    obtain ⟨X, hX⟩ : ∃ X, s[i] = X := ⟨_, rfl⟩
    have hXr := hrw i hlt
    have hXd : X ∈ s.drop i := by rw [List.drop_eq_getElem_cons hlt, hX]; simp
    have rowX : ∀ {w : World} {S : List Own}, Ctx W w S (fun M w => PS M w ∧ Elems M w ds outs) → RowAt w g (o + (i : Int).toNat * 3) (X.cells q qc) := fun cx => by rw [Int.toNat_natCast, ← hX]; exact pin_rowAt (iP _ _ cx.phi.1) hlt he
    have slX : ∀ M w, PS M w → Sl M w q X.row := fun M w h => by rw [← hX]; exact pin_row (iP M w h) hlt he
    rw [hX] at f1 f3 f4 hXr
    refine exI_mk (fun n kI R' Φ' m => ∃ j : Nat, kI = ((i + j : Nat) : Int) ∧ i + j ≤ s.length ∧ n = findP ((s.drop i).take j) X.key ∧ (∀ y ∈ (s.drop i).take j, y.key = X.key) ∧ R' = .buf op outs.length oc ds 39 3 :: R ∧ Φ' = (fun M w => PS M w ∧ Elems M w ds outs) ∧ m = s.length - (i + j))
      ⟨⟨_, _, _, st2, fun w G cx => cx, 0, rfl, hi, rfl, (fun y hy => by rw [List.take_zero] at hy; cases hy), rfl, rfl, rfl⟩, ?_⟩
    rintro n kI R2 Φ2 m _ ⟨j, rfl, hj, hn, hkeys, rfl, rfl, rfl⟩
    refine ⟨_, _, st2, fun w G cx => cx, Br.intro (fun hlt2 => ?_) (fun hge2 => ?_)⟩
    case' refine_2 =>
      have hge2 := of_decide_eq_false hge2
      have hj1 : 1 ≤ j := by omega
      have hgt : ∀ y ∈ s.drop (i + j), cmpK X.key y.key < 0 := by
        rw [List.drop_eq_nil_of_le (by omega)]
        intro y hy; cases hy
    case' refine_1 =>
      have hij : i + j < s.length := by have := of_decide_eq_true hlt2; omega
      obtain ⟨q2, qc2, he2, e1, e2, _, _⟩ := hcs (i + j) hij
      have hmin : (min ((i + j : Nat) : Int) ((s.length : Int) - 1)).toNat = i + j := by omega
      have rowY : ∀ {w : World} {S : List Own}, Ctx W w S (fun M w => PS M w ∧ Elems M w ds outs) → RowAt w g (o + (i + j) * 3) (s[i + j].cells q2 qc2) := fun cx => pin_rowAt (iP _ _ cx.phi.1) hij he2
      refine ⟨by omega, ptrK_intro g o (hp (by omega)) ⟨X.time, q, X.row.length, qc, X.n, fun w G cx => ⟨_, _, _, _, _, rowX cx, rfl⟩, by unfold I64; omega, by omega, ptrK_intro g o (hp (by omega)) ⟨s[i + j].time, q2, s[i + j].row.length, qc2, s[i + j].n, fun w G cx => ⟨_, _, _, _, _, by rw [hmin]; exact rowY cx, rfl⟩, fun w G cx => (rCompareD_in X s[i + j] q q2 qc qc2 (fun M w h => slX M w h.1) (fun M w h => pin_row (iP M w h.1) hij he2) (by omega)).toI cx ?_⟩⟩⟩
      refine Br.intro (fun hc => ?_) (fun hc => ?_)
    case' refine_1.refine_1.refine_1 =>
      have hk : s[i + j].key = X.key := by
        have hc := of_decide_eq_true hc
        rw [cmpD_key] at hc
        exact ((cmpK_cmp.eq _ _).1 hc).symm
      have htk : (s.drop i).take (j + 1) = (s.drop i).take j ++ [s[i + j]] := by
        have hlt3 : j < (s.drop i).length := by rw [List.length_drop]; omega
        rw [List.take_succ_eq_append_getElem hlt3, List.getElem_drop]
      refine ⟨by omega, ptrK_intro g o (hp (by omega)) fun w G cx => ⟨s[i + j].n, ?_, by unfold I64; omega, _, _, s.length - (i + (j + 1)), st2, fun w G cx => cx, ⟨j + 1, by omega, by omega, ?_, ?_, rfl, rfl, rfl⟩, by omega⟩⟩
      · have := rowY cx 2 (by simp)
        rw [Int.toNat_natCast]; simpa using this
      · rw [htk, hn]
        exact (find_snoc hk).symm
      · rw [htk]
        intro y hy
        rcases List.mem_append.1 hy with hy | hy
        · exact hkeys y hy
        · rw [List.mem_singleton.1 hy]; exact hk
    case' refine_1.refine_1.refine_2 =>
      have hc := of_decide_eq_false hc
      rw [cmpD_key] at hc
      have hj1 : 1 ≤ j := by
        rcases Nat.eq_zero_or_pos j with h0 | h0
        · exfalso
          subst h0
          apply hc
          have : s[i + 0] = X := by rw [← hX]; rfl
          rw [this, cmpK_cmp.refl]
        · exact h0
      have hgt : ∀ y ∈ s.drop (i + j), cmpK X.key y.key < 0 := by
        have h1 : leD s[i] s[i + j] = true := List.pairwise_iff_getElem.1 hasc i (i + j) hlt hij (by omega)
        rw [hX] at h1
        have h1 : cmpK X.key s[i + j].key < 0 := by
          have h2 : cmpK X.key s[i + j].key ≤ 0 := by rw [← cmpD_key]; exact of_decide_eq_true h1
          omega
        intro y hy
        obtain ⟨r, hr, rfl⟩ := List.getElem_of_mem hy
        rw [List.length_drop] at hr
        rw [List.getElem_drop]
        rcases Nat.eq_zero_or_pos r with h0 | h0
        · subst h0
          exact h1
        · have h2 : leD s[i + j] s[i + j + r] = true := List.pairwise_iff_getElem.1 hasc (i + j) (i + j + r) hij (by omega) (by omega)
          have h2 : cmpK s[i + j].key s[i + j + r].key ≤ 0 := by rw [← cmpD_key]; exact of_decide_eq_true h2
          rcases Int.lt_or_eq_of_le h2 with h3 | h3
          · exact cmpK_cmp.trans _ _ _ h1 h3
          · rw [← (cmpK_cmp.eq _ _).1 h3]; exact h1
      clear hc
    all_goals
      obtain ⟨hz, hnz⟩ := hco.step hXd (by omega) hj1 hkeys hn hgt
      have hfew := hco.few
      refine Br.intro (fun h0 => ⟨by omega, ptrK_intro g o (hp (by omega)) fun w G cx => ⟨X.time, q, X.row.length, qc, X.n, rowX cx, fun w G cx => ?_⟩⟩) (fun h0 => ⟨_, _, s.length - (i + j), st2, fun w G cx => cx, ⟨i + j, outs, ds, hz (by have := of_decide_eq_false h0; omega), rfl, by omega, rfl, rfl, rfl, rfl⟩, by omega⟩)
      have hco2 := hnz (of_decide_eq_true h0)
      refine (Clone28_sl (Φ := fun M w => PS M w ∧ Elems M w ds outs) X q qc n (fun M w h => slX M w h.1) (by omega)).use cx fun p2 c2 w g3 g4 cx => ⟨X.time, p2, X.row.length, c2, n, rfl, .buf op outs.length oc ds 39 3 :: R, _, inferInstance, cx, fun kb w G cx => ?_⟩
      obtain ⟨p', c', w', hrun, cx'⟩ := push2 (x := ⟨X.time, X.row, n⟩) (q := p2) (qc := c2) (Ψ := fun M w => Sl M w p2 X.row) (fun M w _ h => rep_delta g3 g4 f3 (by rw [hn]; exact w64_in _) h) (by omega) cx
      exact ⟨p', _, c', w', hrun, _, _, inferInstance, cx', _, _, s.length - (i + j), inferInstance, fun w G cx => cx, ⟨i + j, _, _, hco2, rfl, by omega, rfl, rfl, rfl, rfl⟩, by omega⟩
  · have hge : i = s.length := by have := of_decide_eq_false hge; omega
    subst hge
    rw [hco.end]
    have cx := cx.left
    obtain ⟨cx3, hs, _, g5, g6⟩ := Ctx.freeze (α := DeltaD) cx.fst cx.phi.2
    exact ⟨op, oc, rfl, g5, g6, (cx3.add hs).weak fun M w h => ⟨i0 M w h.1, h.2⟩⟩

end Go.Proofs.YtnapfhbibikbiaaDoor
end

/-
  Layings of the kit's shelf at this seat's numbers (printed by the kit's own tools).
-/
section
set_option linter.unusedVariables false
namespace Go.Proofs
open Go.Shelf

def Tryd.lays169_ren : Go.Shelf.Ren := ⟨fun | 169 => 79 | n => n, fun | 70 => 77 | 9 => 9 | 0 => 0 | 72 => 79 | 37 => 71 | 127 => 93 | 3 => 3 | 5 => 5 | n => n, fun | n => n⟩
theorem Tryd.lays169 : Go.Proofs.Lays.n169 Tryd.prog Tryd.lays169_ren := {
  mixed := by kernel_rfl
  f169 := Tryd.func79.trans (congrArg some (by kernel_rfl))
  t0 := Tryd.underlying0
  a0 := Tryd.isAgg0
  z0 := Tryd.sizeOf0
  v0 := Tryd.zeroValue0
  t3 := Tryd.underlying3
  a3 := Tryd.isAgg3
  z3 := Tryd.sizeOf3
  v3 := Tryd.zeroValue3
  t9 := Tryd.underlying9
  a9 := Tryd.isAgg9
  z9 := Tryd.sizeOf9
  v9 := Tryd.zeroValue9
  t37 := Tryd.underlying71
  a37 := Tryd.isAgg71
  z37 := Tryd.sizeOf71
  v37 := Tryd.zeroValue71
  t70 := Tryd.underlying77
  a70 := Tryd.isAgg77
  z70 := Tryd.sizeOf77
  v70 := Tryd.zeroValue77
  t72 := Tryd.underlying79
  a72 := Tryd.isAgg79
  z72 := Tryd.sizeOf79
  v72 := Tryd.zeroValue79
  t127 := Tryd.underlying93
  a127 := Tryd.isAgg93
  z127 := Tryd.sizeOf93
  v127 := Tryd.zeroValue93 }
theorem Tryd.Builder_Extra_169 : Builder.Extra Tryd.prog Tryd.lays169_ren := {
  sizeBuilder := by kernel_rfl
  liesBuilder := by kernel_rfl
  t5 := Tryd.underlying5
  a5 := Tryd.isAgg5
  z5 := Tryd.sizeOf5
  v5 := Tryd.zeroValue5
  infoByte := by kernel_rfl
  cellsByte := by kernel_rfl
  sizeByte := by kernel_rfl
  neB5 := by decide }
def Tryd.laysM171_ren : Go.Shelf.Ren := ⟨fun | 171 => 94 | 243 => 104 | 246 => 107 | 283 => 110 | 284 => 111 | 285 => 112 | 286 => 113 | 129 => 116 | 317 => 115 | 318 => 117 | 319 => 118 | 320 => 119 | 337 => 120 | 338 => 121 | n => n, fun | 3 => 3 | 9 => 9 | 2 => 2 | 4 => 4 | 171 => 104 | 0 => 0 | 53 => 105 | 37 => 71 | 5 => 5 | 173 => 108 | 212 => 112 | 51 => 113 | 20 => 20 | 213 => 114 | 46 => 102 | 232 => 117 | 233 => 118 | n => n, fun | 17 => 1 | 18 => 2 | 19 => 3 | n => n⟩
theorem Tryd.laysM171 : Go.Proofs.LaysM.n171 Tryd.prog Tryd.laysM171_ren := {
  mixed := by kernel_rfl
  f129 := Tryd.func116.trans (congrArg some (by kernel_rfl))
  f171 := Tryd.func94.trans (congrArg some (by kernel_rfl))
  f243 := Tryd.func104.trans (congrArg some (by kernel_rfl))
  f246 := Tryd.func107.trans (congrArg some (by kernel_rfl))
  f283 := Tryd.func110.trans (congrArg some (by kernel_rfl))
  f284 := Tryd.func111.trans (congrArg some (by kernel_rfl))
  f285 := Tryd.func112.trans (congrArg some (by kernel_rfl))
  f286 := Tryd.func113.trans (congrArg some (by kernel_rfl))
  f317 := Tryd.func115.trans (congrArg some (by kernel_rfl))
  f318 := Tryd.func117.trans (congrArg some (by kernel_rfl))
  f319 := Tryd.func118.trans (congrArg some (by kernel_rfl))
  f320 := Tryd.func119.trans (congrArg some (by kernel_rfl))
  f337 := Tryd.func120.trans (congrArg some (by kernel_rfl))
  f338 := Tryd.func121.trans (congrArg some (by kernel_rfl))
  t0 := Tryd.underlying0
  a0 := Tryd.isAgg0
  z0 := Tryd.sizeOf0
  v0 := Tryd.zeroValue0
  t2 := Tryd.underlying2
  a2 := Tryd.isAgg2
  z2 := Tryd.sizeOf2
  v2 := Tryd.zeroValue2
  t3 := Tryd.underlying3
  a3 := Tryd.isAgg3
  z3 := Tryd.sizeOf3
  v3 := Tryd.zeroValue3
  t4 := Tryd.underlying4
  a4 := Tryd.isAgg4
  z4 := Tryd.sizeOf4
  v4 := Tryd.zeroValue4
  t5 := Tryd.underlying5
  a5 := Tryd.isAgg5
  z5 := Tryd.sizeOf5
  v5 := Tryd.zeroValue5
  t9 := Tryd.underlying9
  a9 := Tryd.isAgg9
  z9 := Tryd.sizeOf9
  v9 := Tryd.zeroValue9
  t20 := Tryd.underlying20
  a20 := Tryd.isAgg20
  z20 := Tryd.sizeOf20
  v20 := Tryd.zeroValue20
  t37 := Tryd.underlying71
  a37 := Tryd.isAgg71
  z37 := Tryd.sizeOf71
  v37 := Tryd.zeroValue71
  t46 := Tryd.underlying102
  a46 := Tryd.isAgg102
  z46 := Tryd.sizeOf102
  v46 := Tryd.zeroValue102
  t51 := Tryd.underlying113
  a51 := Tryd.isAgg113
  z51 := Tryd.sizeOf113
  v51 := Tryd.zeroValue113
  t53 := Tryd.underlying105
  a53 := Tryd.isAgg105
  z53 := Tryd.sizeOf105
  v53 := Tryd.zeroValue105
  t171 := Tryd.underlying104
  a171 := Tryd.isAgg104
  z171 := Tryd.sizeOf104
  v171 := Tryd.zeroValue104
  t173 := Tryd.underlying108
  a173 := Tryd.isAgg108
  z173 := Tryd.sizeOf108
  v173 := Tryd.zeroValue108
  t212 := Tryd.underlying112
  a212 := Tryd.isAgg112
  z212 := Tryd.sizeOf112
  v212 := Tryd.zeroValue112
  t213 := Tryd.underlying114
  a213 := Tryd.isAgg114
  z213 := Tryd.sizeOf114
  t232 := Tryd.underlying117
  a232 := Tryd.isAgg117
  z232 := Tryd.sizeOf117
  v232 := Tryd.zeroValue117
  t233 := Tryd.underlying118
  a233 := Tryd.isAgg118
  z233 := Tryd.sizeOf118
  v233 := Tryd.zeroValue118
  g17 := by kernel_rfl
  g18 := by kernel_rfl
  g19 := by kernel_rfl
  i0 := by kernel_rfl
  i2 := by kernel_rfl
  i3 := by kernel_rfl
  i4 := by kernel_rfl
  i5 := by kernel_rfl
  i9 := by kernel_rfl
  i20 := by kernel_rfl
  i37 := by kernel_rfl
  i46 := by kernel_rfl
  i51 := by kernel_rfl
  i53 := by kernel_rfl
  i171 := by kernel_rfl
  i173 := by kernel_rfl
  i212 := by kernel_rfl
  i232 := by kernel_rfl
  i233 := by kernel_rfl
  m17 := by kernel_rfl
  m18 := by kernel_rfl
  m19 := by kernel_rfl }
def Tryd.lays171_ren : Go.Shelf.Ren := ⟨fun | 171 => 94 | 243 => 104 | 246 => 107 | 283 => 110 | 284 => 111 | 285 => 112 | 286 => 113 | 129 => 116 | 317 => 115 | 318 => 117 | 319 => 118 | 320 => 119 | 337 => 120 | 338 => 121 | n => n, fun | 3 => 3 | 9 => 9 | 2 => 2 | 4 => 4 | 171 => 104 | 0 => 0 | 53 => 105 | 37 => 71 | 5 => 5 | 173 => 108 | 212 => 112 | 51 => 113 | 20 => 20 | 213 => 114 | 46 => 102 | 232 => 117 | 233 => 118 | n => n, fun | 17 => 1 | 18 => 2 | 19 => 3 | n => n⟩
theorem Tryd.lays171 : Go.Proofs.Lays.n171 Tryd.prog Tryd.lays171_ren := {
  mixed := by kernel_rfl
  f129 := Tryd.func116.trans (congrArg some (by kernel_rfl))
  f171 := Tryd.func94.trans (congrArg some (by kernel_rfl))
  f243 := Tryd.func104.trans (congrArg some (by kernel_rfl))
  f246 := Tryd.func107.trans (congrArg some (by kernel_rfl))
  f283 := Tryd.func110.trans (congrArg some (by kernel_rfl))
  f284 := Tryd.func111.trans (congrArg some (by kernel_rfl))
  f285 := Tryd.func112.trans (congrArg some (by kernel_rfl))
  f286 := Tryd.func113.trans (congrArg some (by kernel_rfl))
  f317 := Tryd.func115.trans (congrArg some (by kernel_rfl))
  f318 := Tryd.func117.trans (congrArg some (by kernel_rfl))
  f319 := Tryd.func118.trans (congrArg some (by kernel_rfl))
  f320 := Tryd.func119.trans (congrArg some (by kernel_rfl))
  f337 := Tryd.func120.trans (congrArg some (by kernel_rfl))
  f338 := Tryd.func121.trans (congrArg some (by kernel_rfl))
  t0 := Tryd.underlying0
  a0 := Tryd.isAgg0
  z0 := Tryd.sizeOf0
  v0 := Tryd.zeroValue0
  t2 := Tryd.underlying2
  a2 := Tryd.isAgg2
  z2 := Tryd.sizeOf2
  v2 := Tryd.zeroValue2
  t3 := Tryd.underlying3
  a3 := Tryd.isAgg3
  z3 := Tryd.sizeOf3
  v3 := Tryd.zeroValue3
  t4 := Tryd.underlying4
  a4 := Tryd.isAgg4
  z4 := Tryd.sizeOf4
  v4 := Tryd.zeroValue4
  t5 := Tryd.underlying5
  a5 := Tryd.isAgg5
  z5 := Tryd.sizeOf5
  v5 := Tryd.zeroValue5
  t9 := Tryd.underlying9
  a9 := Tryd.isAgg9
  z9 := Tryd.sizeOf9
  v9 := Tryd.zeroValue9
  t20 := Tryd.underlying20
  a20 := Tryd.isAgg20
  z20 := Tryd.sizeOf20
  v20 := Tryd.zeroValue20
  t37 := Tryd.underlying71
  a37 := Tryd.isAgg71
  z37 := Tryd.sizeOf71
  v37 := Tryd.zeroValue71
  t46 := Tryd.underlying102
  a46 := Tryd.isAgg102
  z46 := Tryd.sizeOf102
  v46 := Tryd.zeroValue102
  t51 := Tryd.underlying113
  a51 := Tryd.isAgg113
  z51 := Tryd.sizeOf113
  v51 := Tryd.zeroValue113
  t53 := Tryd.underlying105
  a53 := Tryd.isAgg105
  z53 := Tryd.sizeOf105
  v53 := Tryd.zeroValue105
  t171 := Tryd.underlying104
  a171 := Tryd.isAgg104
  z171 := Tryd.sizeOf104
  v171 := Tryd.zeroValue104
  t173 := Tryd.underlying108
  a173 := Tryd.isAgg108
  z173 := Tryd.sizeOf108
  v173 := Tryd.zeroValue108
  t212 := Tryd.underlying112
  a212 := Tryd.isAgg112
  z212 := Tryd.sizeOf112
  v212 := Tryd.zeroValue112
  t213 := Tryd.underlying114
  a213 := Tryd.isAgg114
  z213 := Tryd.sizeOf114
  t232 := Tryd.underlying117
  a232 := Tryd.isAgg117
  z232 := Tryd.sizeOf117
  v232 := Tryd.zeroValue117
  t233 := Tryd.underlying118
  a233 := Tryd.isAgg118
  z233 := Tryd.sizeOf118
  v233 := Tryd.zeroValue118
  g17 := by kernel_rfl
  g18 := by kernel_rfl
  g19 := by kernel_rfl }
def Tryd.laysNm220_ren : Go.Shelf.Ren := ⟨fun | 20 => 71 | n => n, fun | 22 => 43 | 3 => 3 | 4 => 4 | 0 => 0 | n => n, fun | n => n⟩
end Go.Proofs
end

/-
  The walks of strings.Builder, of the decimal form of ints, and of the encodings of ints and texts.
-/
section
set_option linter.unusedVariables false
set_option linter.unusedSimpArgs false
namespace Go.Proofs.YtnapfhbibikbiaaDoor
open Go.Vc


abbrev BdT (b : Nat) (l : List UInt8) (R : List Own) : Prop := Bd 79 5 b l R

theorem bd_info : ∃ j, Tryd.prog.info? 79 = some j ∧ j.size = 2 := by
  have h : (Tryd.prog.info? 79).map (·.size) = some 2 := by kernel_rfl
  exact Option.map_eq_some_iff.1 h

set_option maxHeartbeats 1000000 in
set_option maxRecDepth 100000 in
theorem copyCheck_used (b : Nat) (w : World) (h0 : w.cell? ⟨b, 0, none⟩ = some (.pointer (some ⟨b, 0, none⟩))) :
    Calls Tryd.prog 93 #[.pointer (some ⟨b, 0, none⟩)] w fun e w' => e = .returned (.tuple #[]) ∧ w' = w := by
  obtain ⟨j, hj, _⟩ := bd_info
  go_enter Tryd.func93, Tryd.ntmps93
  go_wp2
  rw [Lib.run_neq_ptr_same w _ Tryd.underlying77 hj]
  go_wp2
  go_end0
  exact ⟨rfl, rfl⟩

set_option maxHeartbeats 1000000 in
set_option maxRecDepth 100000 in
theorem copyCheck_fresh (b : Nat) (w : World) (h0 : w.cell? ⟨b, 0, none⟩ = some (.pointer none)) (hsh : w.shape? b = some (79, 2)) (hfz : w.frozen? ⟨b, 0, none⟩ = false) :
    Calls Tryd.prog 93 #[.pointer (some ⟨b, 0, none⟩)] w fun e w' => e = .returned (.tuple #[]) ∧ w' = w.setCell ⟨b, 0, none⟩ (.pointer (some ⟨b, 0, none⟩)) := by
  obtain ⟨j, hj, hjs⟩ := bd_info
  go_enter Tryd.func93, Tryd.ntmps93
  go_wp2
  rw [Lib.run_to_unsafe w ⟨b, 0, none⟩ Tryd.underlying77 Tryd.underlying99 hj (by rw [hjs]; decide) hsh (Nat.zero_lt_succ 1)]
  simp only [Result.andThen]
  rw [Oper.upon_value]
  go_wp2
  rw [run_callFunc_extern Tryd.func103 (by kernel_rfl) (by kernel_rfl) (by kernel_rfl) (e := Extern.AbiNoEscape.same) (by kernel_rfl)]
  rw [Lib.run_noEscape]
  simp only [Result.andThen]
  rw [Oper.upon_value]
  go_wp2
  rw [Lib.run_from_unsafe w ⟨b, 0, none⟩ Tryd.underlying99 Tryd.underlying77 hj hsh (by kernel_rfl)]
  simp only [Result.andThen]
  rw [Oper.upon_value]
  go_wp2
  go_end0
  exact ⟨rfl, rfl⟩

theorem copyCheck_use {W w : World} {S : List Own} {Φ : PW} [Stable Φ] {b : Nat} {pa v : Value} (hp : pa = .pointer none ∨ pa = .pointer (some ⟨b, 0, none⟩)) (c : Ctx W w (.blk b [pa, v] 79 :: S) Φ) {K : Ending → World → Prop}
    (hk : ∀ w', Ctx W w' (.blk b [.pointer (some ⟨b, 0, none⟩), v] 79 :: S) Φ → K (.returned (.tuple #[])) w') : Calls Tryd.prog F.strings_Builder_copyCheck #[.pointer (some ⟨b, 0, none⟩)] w K := by
  have hb : w.heap[b]? = some (.cells #[pa, v] 79 (0, 0)) := c.blk 0 rfl
  rcases hp with rfl | rfl
  · exact (copyCheck_fresh b w (c.get 0 rfl rfl) (by simp [World.shape?, hb]) (by simp [World.frozen?, hb])).mono fun e w' ⟨he, hw⟩ => by
      subst he
      exact hk w' (c.put 0 hw rfl)
  · exact (copyCheck_used b w (c.get 0 rfl rfl)).mono fun e w' ⟨he, hw⟩ => by
      subst he; subst hw
      exact hk w' c

theorem byte_info : ∃ i, Tryd.prog.info? 5 = some i ∧ i.zero = some (.int .u8 0) ∧ i.size = 1 ∧ i.bytes = 1 := by
  have h : (Tryd.prog.info? 5).map (fun i => (i.zero, i.size, i.bytes)) = some (some (.int .u8 0), 1, 1) := by kernel_rfl
  obtain ⟨i, hi, he⟩ := Option.map_eq_some_iff.1 h
  simp only [Prod.mk.injEq] at he
  exact ⟨i, hi, he⟩

theorem strCells_bytes (s : ByteArray) : Lib.strCells s = Lib.byteCells s.data.toList := rfl

theorem WriteString_use {W w : World} {S R : List Own} {Φ : PW} [Stable Φ] {b : Nat} {l : List UInt8} (s : ByteArray) (h : BdT b l R) (c : Ctx W w (R ++ S) Φ) (hlen : l.length + s.size ≤ 100000000000) {K : Ending → World → Prop}
    (hk : ∀ R' w', BdT b (l ++ s.data.toList) R' → Ctx W w' (R' ++ S) Φ → K (.returned (.tuple #[.int .i64 s.size, .nilIface])) w') : Calls Tryd.prog F.strings_Builder_WriteString #[.pointer (some ⟨b, 0, none⟩), .string s] w K := by
  obtain ⟨pa, p, cap, hpa, rfl⟩ := h
  obtain ⟨i, hi, hz, hsz, hby⟩ := byte_info
  refine (Bstrings_Builder_WriteString_run b 0 s (J := fun u w' => K (.returned u) w') c ?_).mono fun e w' ⟨v, he, hj⟩ => by rw [he]; exact hj
  refine fun w G c => copyCheck_use hpa c fun w c => ⟨rfl, [.blk b [.pointer (some ⟨b, 0, none⟩), .slice p l.length cap] 79, .buf p l.length cap (Lib.byteCells l) 5 1] ++ S, Φ, inferInstance, c, fun w G c => ⟨p, l.length, cap, c.get 0 rfl rfl, fun w G c => ?_⟩⟩
  obtain ⟨p', cap', w', hrun, c'⟩ := Ctx.appStr (P := Tryd.prog) (t := 71) (u := 9) (ty := 71) (kb := #[false, false]) (c.swap) Tryd.underlying71 Tryd.underlying9 hi hz hsz hby s (by omega) (by unfold maxLen; omega)
  refine ⟨p', _, cap', w', hrun, [.blk b [.pointer (some ⟨b, 0, none⟩), .slice p l.length cap] 79, .buf p' (l.length + s.size) cap' (Lib.byteCells l ++ Lib.strCells s) 5 1] ++ S, Φ, inferInstance, c'.swap, fun w G c => ⟨c.can 0 rfl (by simp), fun w' hw' => ?_⟩⟩
  refine ⟨[.blk b [.pointer (some ⟨b, 0, none⟩), .slice p' (l.length + s.size) cap'] 79, .buf p' (l.length + s.size) cap' (Lib.byteCells l ++ Lib.strCells s) 5 1] ++ S, Φ, inferInstance, c.put 0 hw' rfl, fun w G c => hk [.blk b [.pointer (some ⟨b, 0, none⟩), .slice p' (l.length + s.size) cap'] 79, .buf p' (l.length + s.size) cap' (Lib.byteCells l ++ Lib.strCells s) 5 1] w ⟨_, p', cap', .inr rfl, ?_⟩ c.left⟩
  have hl : (l ++ s.data.toList).length = l.length + s.size := by rw [List.length_append, Array.length_toList]; rfl
  rw [hl, strCells_bytes, Lib.byteCells_append]

theorem String_use {W w : World} {S R : List Own} {Φ : PW} [Stable Φ] {b : Nat} {l : List UInt8} (h : BdT b l R) (c : Ctx W w (R ++ S) Φ) {K : Ending → World → Prop}
    (hk : ∀ w', Ctx W w' S Φ → K (.returned (.string ⟨l.toArray⟩)) w') : Calls Tryd.prog F.strings_Builder_String #[.pointer (some ⟨b, 0, none⟩)] w K :=
  Bd.string Tryd.lays169 Tryd.Builder_Extra_169 h c hk

end Go.Proofs.YtnapfhbibikbiaaDoor
end

/-
  The encodings of ints, texts, values and rows: in plain Lean, and walked.
-/
section
set_option linter.unusedVariables false
set_option linter.unusedSimpArgs false
namespace Go.Vc
theorem GivesIn.know {Φ : PW} {P : Program} {f : FuncId} {args : Array Value} {v : Value} {p : Prop} (hΦ : ∀ M w, Φ M w → p) (h : p → GivesIn Φ P f args v) : GivesIn Φ P f args v :=
  ⟨fun W w S c => (h (hΦ _ _ c.phi)).go W w S c⟩
theorem GivesSl.know {Φ : PW} {P : Program} {f : FuncId} {args : Array Value} {α : Type} [Gv α] {l : List α} {mk : Value → Value} {p : Prop} (hΦ : ∀ M w, Φ M w → p) (h : p → GivesSl Φ P f args l mk) : GivesSl Φ P f args l mk :=
  ⟨fun W w S c => (h (hΦ _ _ c.phi)).go W w S c⟩
theorem GivesNew.know {Φ : PW} {P : Program} {f : FuncId} {args : Array Value} {α : Type} [Gv α] {l : List α} {t : TypeId} {p : Prop} (hΦ : ∀ M w, Φ M w → p) (h : p → GivesNew Φ P f args l t) : GivesNew Φ P f args l t :=
  ⟨fun W w S c => (h (hΦ _ _ c.phi)).go W w S c⟩
end Go.Vc
namespace Go.Proofs.YtnapfhbibikbiaaDoor
open Go.Vc

/-! ### in plain Lean -/
def numB (n : Int) : ByteArray := ⟨(Lib.itoa n).toArray⟩
def intB (n : Int) : ByteArray := numB n ++ ByteArray.mk #[59]
def natB (n : Int) : ByteArray := if n < 0 then ByteArray.mk #[] else intB n
def textB (s : ByteArray) : ByteArray := numB s.size ++ ByteArray.mk #[58] ++ s ++ ByteArray.mk #[44]
def valB (v : ValD) : ByteArray := intB v.kind ++ intB v.num ++ textB v.text
def valsL (r : List ValD) : List UInt8 := r.flatMap fun v => (valB v).data.toList
def rowL (r : List ValD) : List UInt8 := (natB r.length).data.toList ++ valsL r
def rowB (r : List ValD) : ByteArray := ⟨(rowL r).toArray⟩

theorem size_app (a b : ByteArray) : (a ++ b).size = a.size + b.size := ByteArray.size_append
theorem size_list (l : List UInt8) : (ByteArray.mk l.toArray).size = l.length := by simp [ByteArray.size]
theorem list_size (a : ByteArray) : a.data.toList.length = a.size := by rw [Array.length_toList]; rfl

theorem nDigits_le : ∀ (k u : Nat), u < 10 ^ k → 0 < k → Lib.nDigits u ≤ k
  | 0, u, _, h => by omega
  | k + 1, u, h, _ => by
    by_cases h1 : u < 10
    · rw [Lib.nDigits_small h1]; omega
    · rw [Lib.nDigits_big h1]
      have hk : 0 < k := by
        rcases Nat.eq_zero_or_pos k with rfl | h2
        · simp at h; omega
        · exact h2
      have := nDigits_le k (u / 10) (by rw [Nat.pow_succ] at h; omega) hk
      omega

theorem itoa_len {n : Int} (h : I64 n) : 1 ≤ (Lib.itoa n).length ∧ (Lib.itoa n).length ≤ 20 := by
  unfold I64 at h
  unfold Lib.itoa
  split
  · have h1 := nDigits_le 19 n.natAbs (by omega) (by decide)
    have h2 := Lib.nDigits_pos n.natAbs
    rw [List.length_cons, Lib.decDigits_length]; omega
  · have h1 := nDigits_le 19 n.toNat (by omega) (by decide)
    have h2 := Lib.nDigits_pos n.toNat
    rw [Lib.decDigits_length]; omega

theorem numB_size {n : Int} (h : I64 n) : 1 ≤ (numB n).size ∧ (numB n).size ≤ 20 := by
  unfold numB; rw [size_list]; exact itoa_len h
theorem intB_size {n : Int} (h : I64 n) : 2 ≤ (intB n).size ∧ (intB n).size ≤ 21 := by
  have := numB_size h
  have e : (ByteArray.mk #[59]).size = 1 := rfl
  unfold intB; rw [size_app, e]; omega
theorem natB_size {n : Int} (h : I64 n) : (natB n).size ≤ 21 := by
  unfold natB
  split
  · exact Nat.zero_le _
  · exact (intB_size h).2
theorem textB_size {s : ByteArray} (h : s.size ≤ 9223372036854775807) : (textB s).size ≤ s.size + 22 ∧ s.size + 3 ≤ (textB s).size := by
  have := numB_size (n := s.size) (by unfold I64; omega)
  have e : (ByteArray.mk #[58]).size = 1 := rfl
  have e2 : (ByteArray.mk #[44]).size = 1 := rfl
  unfold textB; rw [size_app, size_app, size_app, e, e2]; omega
theorem valB_size {v : ValD} (h1 : I64 v.kind) (h2 : I64 v.num) (h : v.text.size ≤ 9223372036854775807) : (valB v).size ≤ v.text.size + 64 := by
  have a := intB_size h1
  have b := intB_size h2
  have c := textB_size h
  unfold valB; rw [size_app, size_app]; omega

theorem valsL_app (a b : List ValD) : valsL (a ++ b) = valsL a ++ valsL b := by simp [valsL]
theorem valsL_one (v : ValD) : valsL [v] = (valB v).data.toList := by simp [valsL]
theorem valsL_len {m : Nat} : ∀ {r : List ValD}, (∀ v ∈ r, (I64 v.kind ∧ I64 v.num) ∧ v.text.size ≤ m) → m ≤ 9223372036854775807 → (valsL r).length ≤ r.length * (m + 64)
  | [], _, _ => by simp [valsL]
  | v :: r, h, hm => by
    have h1 := valsL_len (r := r) (fun u hu => h u (List.mem_cons_of_mem _ hu)) hm
    obtain ⟨⟨a, b⟩, c⟩ := h v List.mem_cons_self
    have h2 := valB_size a b (by omega)
    have e : valsL (v :: r) = (valB v).data.toList ++ valsL r := by simp [valsL]
    rw [e, List.length_append, list_size, List.length_cons, Nat.add_mul]
    omega
theorem rowL_len {m : Nat} {r : List ValD} (h : ∀ v ∈ r, (I64 v.kind ∧ I64 v.num) ∧ v.text.size ≤ m) (hm : m ≤ 9223372036854775807) (hr : r.length ≤ 1000000) : (rowL r).length ≤ 21 + r.length * (m + 64) := by
  have h1 := valsL_len h hm
  have h2 := natB_size (n := (r.length : Int)) (by unfold I64; omega)
  unfold rowL; rw [List.length_append, list_size]; omega

/-! ### walked -/
theorem rep_val {M : List Nat} {w : World} {cs : List Value} {v : ValD} (h : Gv.rep M w cs v) : cs = [.int .i64 v.kind, .int .i64 v.num, .string v.text] ∧ I64 v.kind ∧ I64 v.num ∧ v.text.size ≤ maxLen := by
  obtain ⟨_, _, rfl, ⟨rfl, h1⟩, _, _, rfl, ⟨rfl, h2⟩, rfl, h3⟩ := h
  exact ⟨rfl, h1, h2, h3⟩

theorem sl_i64 {M : List Nat} {w : World} {p : Option Addr} {l : List ValD} (h : Sl M w p l) : ∀ v ∈ l, (I64 v.kind ∧ I64 v.num) ∧ v.text.size ≤ maxLen := by
  intro v hv
  obtain ⟨i, hi, rfl⟩ := List.getElem_of_mem hv
  obtain ⟨_, _, _, _, _, _, hr⟩ := h i hi
  obtain ⟨_, h1, h2, h3⟩ := rep_val hr
  exact ⟨⟨h1, h2⟩, h3⟩

abbrev tabN : String := ((Rows.deltaGroupRow.laid.map Prod.fst).drop 2).headD default
/-- the table of the powers of ten lies there -/
abbrev TabI : PW := Tab Tryd.prog tabN .u64 Lib.pow10Tab

theorem Itoa_in {Φ : PW} [Stable Φ] (hΦ : ∀ M w, Φ M w → TabI M w) (n : Int) (h : I64 n) : GivesIn Φ Tryd.prog F.strconv_Itoa #[.int .i64 n] (.string (numB n)) :=
  itoa_in (name := tabN) (fun n h0 h1 w ht => Any.strconv_Itoa Tryd.laysM171 n h0 h1 w ht) hΦ n h

theorem Itoa_small (i : Nat) (hi : i < 100) : Gives Tryd.prog F.strconv_Itoa #[.int .i64 i] (.string (numB i)) :=
  Quiet.gives ⟨fun w => by
    have h := Any.strconv_Itoa_small { Tryd.lays171 with } i hi w
    rw [← Lib.itoa_nonneg] at h
    exact h⟩

/-- ints that the library writes: at these places, or small ones -/
def Dec (Φ : PW) (n : Int) : Prop := (∀ M w, Φ M w → TabI M w) ∧ I64 n ∨ ∃ i : Nat, i < 100 ∧ n = i

theorem Itoa_dec {Φ : PW} [Stable Φ] {n : Int} (h : Dec Φ n) : GivesIn Φ Tryd.prog F.strconv_Itoa #[.int .i64 n] (.string (numB n)) := by
  rcases h with ⟨h1, h2⟩ | ⟨i, hi, rfl⟩
  · exact Itoa_in h1 n h2
  · exact (Itoa_small i hi).in
theorem Dec.i64 {Φ : PW} {n : Int} (h : Dec Φ n) : I64 n := by
  rcases h with ⟨_, h2⟩ | ⟨i, hi, rfl⟩
  · exact h2
  · unfold I64; omega

theorem Int_in {Φ : PW} [Stable Φ] {n : Int} (h : Dec Φ n) : GivesIn Φ Tryd.prog F.wire_Int #[.int .i64 n] (.string (intB n)) := by
  refine gives_in (Bwire_Int_run n) fun W R => ?_
  have := numB_size h.i64
  exact fun w G cx => (Itoa_dec h).use cx fun w cx => ⟨_, rfl, R, Φ, inferInstance, cx, by show (numB n).size + 1 ≤ _; omega, fun w G cx => ⟨rfl, cx.left⟩⟩

theorem Num_in {Φ : PW} [Stable Φ] {n : Int} (h : Dec Φ n) : GivesIn Φ Tryd.prog F.wire_Num #[.int .i64 n] (.string (natB n)) := by
  refine gives_in (Bwire_Num_run n) fun W R => Br.intro (fun hn => fun w G cx => ⟨?_, cx.left⟩) (fun hn => fun w G cx => (Int_in h).use cx fun w cx => ⟨_, rfl, R, Φ, inferInstance, cx, fun w G cx => ⟨?_, cx.left⟩⟩)
  · unfold natB; rw [if_pos (of_decide_eq_true hn)]
  · unfold natB; rw [if_neg (of_decide_eq_false hn)]

theorem Text_in {Φ : PW} [Stable Φ] {s : ByteArray} (h : Dec Φ s.size) (hs : s.size ≤ 1000000000000) : GivesIn Φ Tryd.prog F.wire_Text #[.string s] (.string (textB s)) := by
  refine gives_in (Bwire_Text_run s) fun W R => ?_
  have h1 := numB_size h.i64
  have e : (ByteArray.mk #[58]).size = 1 := rfl
  have e2 : (ByteArray.mk #[44]).size = 1 := rfl
  exact fun w G cx => (Itoa_dec h).use cx fun w cx => ⟨_, rfl, R, Φ, inferInstance, cx, by show (numB s.size).size + 1 ≤ _; omega, by show (numB s.size ++ ByteArray.mk #[58]).size + s.size ≤ _; rw [size_app, e]; omega, by show (numB s.size ++ ByteArray.mk #[58] ++ s).size + 1 ≤ _; rw [size_app, size_app, e]; omega, fun w G cx => ⟨rfl, cx.left⟩⟩

theorem Bytes_in {Φ : PW} [Stable Φ] (v : ValD) (hΦ : ∀ M w, Φ M w → TabI M w) (h1 : I64 v.kind) (h2 : I64 v.num) (hs : v.text.size ≤ 1000000000000) : GivesIn Φ Tryd.prog F.value_Bytes #[v.v] (.string (valB v)) := by
  refine gives_in (Bvalue_Bytes_run v.kind v.num v.text) fun W R => ?_
  have a := intB_size h1
  have b := intB_size h2
  have c := textB_size (s := v.text) (by omega)
  exact fun _ => ⟨R, Φ, inferInstance, fun w G cx => cx, fun w G cx => (Int_in (.inl ⟨hΦ, h1⟩)).use cx fun w cx => ⟨_, rfl, R, Φ, inferInstance, cx, fun w G cx => cx, fun w G cx => (Int_in (.inl ⟨hΦ, h2⟩)).use cx fun w cx => ⟨_, rfl, R, Φ, inferInstance, cx, fun w G cx => cx, by show (intB v.kind).size + (intB v.num).size ≤ _; omega,
    fun w G cx => (Text_in (.inl ⟨hΦ, by unfold I64; omega⟩) hs).use cx fun w cx => ⟨_, rfl, R, Φ, inferInstance, cx, fun w G cx => cx, by show (intB v.kind ++ intB v.num).size + (textB v.text).size ≤ _; rw [size_app]; omega, fun w G cx => ⟨rfl, cx.left⟩⟩⟩⟩⟩

theorem RowBytes_in {Φ : PW} [Stable Φ] (p : Option Addr) (cap : Nat) (r : List ValD) (hT : ∀ M w, Φ M w → TabI M w) (hΦ : ∀ M w, Φ M w → Sl M w p r) (hr : r.length ≤ 1000000) (ht : ∀ v ∈ r, v.text.size ≤ 10000) :
    GivesIn Φ Tryd.prog F.value_RowBytes #[.slice p r.length cap] (.string (rowB r)) := by
  refine .there (fun M w h => (hΦ M w h).there) fun hth => .know (fun M w h => sl_i64 (hΦ M w h)) fun hi => ?_
  have hv : ∀ v ∈ r, (I64 v.kind ∧ I64 v.num) ∧ v.text.size ≤ 10000 := fun v h => ⟨(hi v h).1, ht v h⟩
  have hL := rowL_len hv (by decide) hr
  have hL : (rowL r).length ≤ 20000000000 := by
    have : r.length * (10000 + 64) ≤ 1000000 * 10064 := Nat.mul_le_mul hr (Nat.le_refl _)
    omega
  have hnat : (natB r.length).data.toList.length ≤ 20000000000 := by unfold rowL at hL; rw [List.length_append] at hL; omega
  refine gives_in (Bvalue_RowBytes_run p r.length cap) fun W R => ?_
  refine fun b w G cx => (Num_in (Φ := Φ) (.inl ⟨hT, by unfold I64; omega⟩)).use cx fun w cx => ⟨_, rfl, .blk b [.pointer none, .slice none 0 0] 79 :: R, Φ, inferInstance, cx, fun w G cx => ?_⟩
  refine WriteString_use (natB r.length) Bd.nil (Bd.fresh cx) (by rw [← list_size]; simp only [List.length_nil]; omega) fun R1 w hB cx => ⟨_, _, rfl, R1 ++ R, Φ, inferInstance, by rw [List.append_assoc]; exact cx, ?_⟩
  rw [List.nil_append] at hB
  clear cx
  refine exI_mk (fun iI R' Φ' k => ∃ (i : Nat) (Q : List Own), iI = i ∧ i ≤ r.length ∧ BdT b ((natB r.length).data.toList ++ valsL (r.take i)) Q ∧ R' = Q ++ R ∧ Φ' = Φ ∧ k = r.length - i) ⟨⟨_, Φ, _, inferInstance, fun w G cx => cx, 0, R1, rfl, Nat.zero_le _, by rw [List.take_zero, show valsL [] = [] from rfl, List.append_nil]; exact hB, rfl, rfl, rfl⟩, ?_⟩
  rintro iI R2 Φ2 k _ ⟨i, Q, rfl, hi, hQ, rfl, rfl, rfl⟩
  refine Br.intro (fun hlt => ?_) (fun hge => fun w G cx => ?_)
  · have hlt : i < r.length := by have := of_decide_eq_true hlt; omega
    obtain ⟨g, o, rfl⟩ := hth (by omega)
    obtain ⟨⟨h1, h2⟩, h3⟩ := hv r[i] (List.getElem_mem hlt)
    have hsz := valB_size h1 h2 (by omega)
    have hlen : ((natB r.length).data.toList ++ valsL (r.take (i + 1))).length ≤ 20000000000 := by
      have e : valsL r = valsL (r.take (i + 1)) ++ valsL (r.drop (i + 1)) := by rw [← valsL_app, List.take_append_drop]
      unfold rowL at hL
      rw [e, List.length_append, List.length_append] at hL
      rw [List.length_append]; omega
    have hstep : valsL (r.take (i + 1)) = valsL (r.take i) ++ (valB r[i]).data.toList := by rw [List.take_succ_eq_append_getElem hlt, valsL_app, valsL_one]
    refine ⟨by omega, ptrK_intro g o rfl fun w G cx => ⟨r[i].kind, r[i].num, r[i].text, by rw [Int.toNat_natCast]; exact sl_val (hΦ _ _ cx.phi) hlt, fun _ w G cx => (Bytes_in (Φ := Φ2) r[i] hT h1 h2 (by omega)).use cx fun w cx => ⟨_, rfl, Q ++ R, Φ2, inferInstance, cx, fun w G cx => ?_⟩⟩⟩
    refine WriteString_use (valB r[i]) hQ (cx.re (List.append_assoc _ _ _)) (by rw [hstep, ← List.append_assoc, List.length_append, list_size] at hlen; omega) fun Q' w hQ' cx => ⟨_, _, rfl, Q' ++ R, Φ2, inferInstance, by rw [List.append_assoc]; exact cx, by unfold I64; omega, _, Φ2, r.length - (i + 1), inferInstance, fun w G cx => cx, ⟨i + 1, Q', by omega, hlt, ?_, rfl, rfl, rfl⟩, by omega⟩
    rw [hstep, ← List.append_assoc]; exact hQ'
  · have hge : i = r.length := by have := of_decide_eq_false hge; omega
    subst hge
    rw [List.take_length] at hQ
    exact String_use hQ (cx.re (List.append_assoc _ _ _)) fun w cx => ⟨_, rfl, R, Φ2, inferInstance, cx, fun w G cx => ⟨rfl, cx.left⟩⟩

end Go.Proofs.YtnapfhbibikbiaaDoor
end

/-
  Find, IndexFunc, walked.
-/
section
set_option linter.unusedVariables false
set_option linter.unusedSimpArgs false
namespace Go.Proofs.YtnapfhbibikbiaaDoor
open Go.Vc


/-! ### Find, Count -/
def findI {α : Type} (p : α → Bool) : Nat → List α → Int
  | _, [] => -1
  | i, x :: r => if p x = true then (i : Int) else findI p (i + 1) r

end Go.Proofs.YtnapfhbibikbiaaDoor
end

/-
  DeleteFunc, Upto, After, walked.
-/
section
set_option linter.unusedVariables false
set_option linter.unusedSimpArgs false
namespace Go.Vc
section
variable {P : Program} {W w w' : World} {S F : List Own} {Φ Ψ : PW}

end
end Go.Vc

namespace Go.Proofs.YtnapfhbibikbiaaDoor
open Go.Vc


/-! ### Upto, After -/
abbrev lowP (l : List DeltaD) (t : Int) : List DeltaD := l.filter fun x : DeltaD => decide (x.time ≤ t)
abbrev highP (l : List DeltaD) (t : Int) : List DeltaD := l.filter fun x : DeltaD => decide (t < x.time)
def uptoP (l : List DeltaD) (t : Int) : List DeltaD := consP (lowP l t)
def afterP (l : List DeltaD) (t : Int) : List DeltaD := consP (highP l t)

end Go.Proofs.YtnapfhbibikbiaaDoor
end

/-
  few, Bytes, small, walked.
-/
section
set_option linter.unusedVariables false
set_option linter.unusedSimpArgs false
namespace Go.Proofs.YtnapfhbibikbiaaDoor
open Go.Vc


/-! ### few -/
def shortR (r : List ValD) : Bool := r.all fun v => decide (v.text.size ≤ 200)
def okRow28 (r : List ValD) : Bool := (shortR r && decide ((r.length : Int) ≤ 10)) && rightR r
def fewP (l : List DeltaD) (n : Int) : Bool := decide ((l.length : Int) ≤ n) && l.all fun x => okRow28 x.row

/-! ### Bytes -/
def deltaB (x : DeltaD) : ByteArray := intB x.time ++ textB (rowB x.row) ++ intB x.n
def deltasL (l : List DeltaD) : List UInt8 := l.flatMap fun x => (deltaB x).data.toList
def bytesL (l : List DeltaD) : List UInt8 := (natB (consP l).length).data.toList ++ deltasL (consP l)

/-- what Bytes can write -/
def Fit (x : DeltaD) : Prop := x.row.length ≤ 10000 ∧ ∀ v ∈ x.row, v.text.size ≤ 10000

theorem rowB_size {r : List ValD} (hi : ∀ v ∈ r, (I64 v.kind ∧ I64 v.num) ∧ v.text.size ≤ maxLen) (h1 : r.length ≤ 10000) (h2 : ∀ v ∈ r, v.text.size ≤ 10000) : (rowB r).size ≤ 200000000 := by
  have hv : ∀ v ∈ r, (I64 v.kind ∧ I64 v.num) ∧ v.text.size ≤ 10000 := fun v h => ⟨(hi v h).1, h2 v h⟩
  have hL := rowL_len hv (by decide) (by omega)
  have : r.length * (10000 + 64) ≤ 10000 * 10064 := Nat.mul_le_mul h1 (Nat.le_refl _)
  unfold rowB
  rw [size_list]; omega
/-! ### with answers that are known -/
theorem EqualV_in {Φ : PW} [Stable Φ] {p : Option Addr} {cap : Nat} {a : List DeltaD} {q : Option Addr} {cap2 : Nat} {b : List DeltaD} (v : a = b) [hΦ : Has Φ (fun M w => Sl M w p a)] [hΨ : Has Φ (fun M w => Sl M w q b)] (hlen : a.length ≤ 1000000) :
    GivesIn Φ Tryd.prog F.errataref28_Equal #[.slice p a.length cap, .slice q b.length cap2] (.bool true) := by
  have h := Equal_in p cap a q cap2 b hΦ.go hΨ.go (by omega)
  rwa [decide_eq_true v] at h
/-! ### small -/
abbrev v7 : List ValD := [⟨0, 7, ByteArray.mk #[]⟩]
abbrev sA : List DeltaD := [⟨3, v7, 1⟩]
abbrev sB : List DeltaD := [⟨3, v7, -1⟩]
end Go.Proofs.YtnapfhbibikbiaaDoor
end

/-
  Count, Multiset, Compact, Times, walked.
-/
section
set_option linter.unusedVariables false
set_option linter.unusedSimpArgs false
namespace Go.Proofs.YtnapfhbibikbiaaDoor
open Go.Vc


def sumN : List DeltaD → Int
  | [] => 0
  | x :: l => x.n + sumN l
def countP (l : List DeltaD) : Int := w64 (sumN l)

/-! ### Multiset -/
def multiP (l : List DeltaD) : Bool := !(consP l).any fun x => decide (x.n < 0)

/-! ### Compact -/
abbrev intv (x : Int) : Value := .int .i64 x
abbrev bufZ (p : Option Addr) (cap : Nat) (zs : List Int) : Own := .buf p zs.length cap (zs.map intv) 3 1

/-! ### Times -/
abbrev tmv (x : DeltaD) : Value := intv x.time
def timesP (l : List DeltaD) : List Int := Lib.compact ((consP l).map DeltaD.time)

end Go.Proofs.YtnapfhbibikbiaaDoor
end

/-
  The reference's writer of encodings, walked.
-/
section
set_option linter.unusedVariables false
set_option linter.unusedSimpArgs false
namespace Go.Proofs.YtnapfhbibikbiaaDoor
open Go.Vc


theorem neg_tmod10 (n : Nat) : (-(n : Int)).tmod 10 = -((n % 10 : Nat) : Int) := by
  rw [Int.neg_tmod]; rfl
theorem neg_tdiv10 (n : Nat) : (-(n : Int)).tdiv 10 = -((n / 10 : Nat) : Int) := by
  rw [Int.neg_tdiv]; rfl
theorem wrap_dig (d : Nat) (h : d < 10) : IntKind.u8.wrap (48 - -(d : Int)) = ((UInt8.ofNat (48 + d)).toNat : Int) := by
  have : ∀ d : Fin 10, IntKind.u8.wrap (48 - -((d.val : Nat) : Int)) = ((UInt8.ofNat (48 + d.val)).toNat : Int) := by decide
  exact this ⟨d, h⟩
theorem app_list (l : List UInt8) (b : ByteArray) : (⟨l.toArray⟩ : ByteArray) ++ b = ⟨(l ++ b.data.toList).toArray⟩ := by
  apply ByteArray.ext
  rw [ByteArray.data_append]
  apply Array.toList_inj.1
  simp

theorem digits_g : ∀ (n : Nat), n ≤ 9223372036854775808 → Gives Tryd.prog F.errataref01_digits #[.int .i64 (-(n : Int))] (.string ⟨(Lib.decDigits n).toArray⟩) := by
  intro n
  induction n using Nat.strongRecOn with
  | _ n ih =>
    intro hn
    refine gives_of (Berrataref01_digits_run (-(n : Int))) fun W R Φ hs => ?_
    have e0 : (48 : Int) - (-(n : Int)).tmod 10 = 48 - -((n % 10 : Nat) : Int) := by rw [neg_tmod10]
    refine ⟨by omega, by rw [e0]; unfold I64; omega, fun k w G cx => ?_⟩
    rw [e0, wrap_dig _ (by omega)] at cx
    have hcell : ∀ j, (hj : j < [UInt8.ofNat (48 + n % 10)].length) → w.cell? ((⟨k, 0, none⟩ : Addr).add j) = some (.int .u8 ([UInt8.ofNat (48 + n % 10)][j].toNat : Int)) := fun j hj => by
      obtain rfl : j = 0 := by simpa using hj
      exact cx.get 0 rfl rfl
    refine ⟨_, _, run_convert_bytes_back w 71 9 5 ⟨k, 0, none⟩ 1 [UInt8.ofNat (48 + n % 10)] (by kernel_rfl) (by kernel_rfl) (by kernel_rfl) hcell, R, Φ, hs, cx.drop1, ?_⟩
    clear cx
    refine Br.intro (fun h => fun w G cx => ⟨?_, cx.left⟩) (fun h => ?_)
    · have h := of_decide_eq_true h
      rw [Lib.decDigits, dif_pos (by omega), show n % 10 = n by omega]
    · have h := of_decide_eq_false h
      have e1 := neg_tdiv10 n
      refine ⟨by omega, by rw [e1]; unfold I64; omega, fun w G cx => ?_⟩
      rw [e1]
      have hl := nDigits_le 19 (n / 10) (by omega) (by decide)
      have hd := Lib.decDigits_length (n / 10)
      refine ((ih (n / 10) (by omega) (by omega)).in).toS cx ⟨?_, fun w G cx => ⟨?_, cx.left⟩⟩
      · show (ByteArray.mk (Lib.decDigits (n / 10)).toArray).size + 1 ≤ _
        rw [size_list, hd]; omega
      · conv => rhs; rw [Lib.decDigits, dif_neg (by omega)]
        rw [app_list]

theorem Int01_g (n : Int) (h : I64 n) : Gives Tryd.prog F.errataref01_Int #[.int .i64 n] (.string (intB n)) := by
  have hs := intB_size h
  unfold intB numB at hs
  rw [size_app, size_list, show (ByteArray.mk #[59]).size = 1 from rfl] at hs
  unfold I64 at h
  refine gives_of (Berrataref01_Int_run n) fun W R Φ _ => Br.intro (fun hn => ?_) (fun hn => ?_)
  · have hn := of_decide_eq_true hn
    have e : n = -((n.natAbs : Nat) : Int) := by omega
    have hi : Lib.itoa n = 45 :: Lib.decDigits n.natAbs := by unfold Lib.itoa; rw [if_pos hn]
    have hg := digits_g n.natAbs (by omega)
    rw [← e] at hg
    rw [hi, List.length_cons] at hs
    have e45 : (ByteArray.mk #[45]) ++ ByteArray.mk (Lib.decDigits n.natAbs).toArray = numB n := by
      unfold numB
      rw [show (ByteArray.mk #[45]) = ⟨[(45 : UInt8)].toArray⟩ from rfl, app_list, hi]
      rfl
    refine fun w G cx => (hg.in).toS cx ⟨?_, ?_, fun w G cx => ⟨?_, cx.left⟩⟩
    · show 1 + (ByteArray.mk (Lib.decDigits n.natAbs).toArray).size ≤ _
      rw [size_list]; omega
    · show ((ByteArray.mk #[45]) ++ ByteArray.mk (Lib.decDigits n.natAbs).toArray).size + 1 ≤ _
      have e1 : (ByteArray.mk #[45]).size = 1 := rfl
      rw [size_app, size_list (Lib.decDigits n.natAbs), e1]
      omega
    · unfold intB
      rw [← e45]
  · have hn := of_decide_eq_false hn
    have e : 0 - n = -((n.toNat : Nat) : Int) := by omega
    have hi : Lib.itoa n = Lib.decDigits n.toNat := by unfold Lib.itoa; rw [if_neg hn]
    have hg := digits_g n.toNat (by omega)
    rw [← e, ← hi] at hg
    refine ⟨by unfold I64; omega, fun w G cx => (hg.in).toS cx ⟨?_, fun w G cx => ⟨rfl, cx.left⟩⟩⟩
    show (ByteArray.mk (Lib.itoa n).toArray).size + 1 ≤ _
    rw [size_list]; omega

theorem Num01_g (n : Int) (h : I64 n) : Gives Tryd.prog F.errataref01_Num #[.int .i64 n] (.string (natB n)) := by
  refine gives_of (Berrataref01_Num_run n) fun W R Φ _ => Br.intro (fun hn => fun w G cx => ⟨?_, cx.left⟩) (fun hn => fun w G cx => ((Int01_g n h).in).toS cx fun w G cx => ⟨?_, cx.left⟩)
  · unfold natB; rw [if_pos (of_decide_eq_true hn)]
  · unfold natB; rw [if_neg (of_decide_eq_false hn)]

theorem Text01_g (s : ByteArray) (hs : s.size ≤ 1000000000000) : Gives Tryd.prog F.errataref01_Text #[.string s] (.string (textB s)) := by
  have h1 := numB_size (n := (s.size : Int)) (by unfold I64; omega)
  have e : (0 : Int) - s.size = -((s.size : Nat) : Int) := by omega
  have hg := digits_g s.size (by omega)
  have hi : Lib.itoa (s.size : Int) = Lib.decDigits s.size := by unfold Lib.itoa; rw [if_neg (by omega)]; rfl
  rw [← e, ← hi] at hg
  have e1 : (ByteArray.mk #[58]).size = 1 := rfl
  refine gives_of (Berrataref01_Text_run s) fun W R Φ _ => ⟨by unfold I64; omega, fun w G cx => (hg.in).toS cx ⟨?_, ?_, ?_, fun w G cx => ⟨rfl, cx.left⟩⟩⟩
  · show (numB s.size).size + 1 ≤ _; omega
  · show (numB s.size ++ ByteArray.mk #[58]).size + s.size ≤ _; rw [size_app, e1]; omega
  · show (numB s.size ++ ByteArray.mk #[58] ++ s).size + 1 ≤ _; rw [size_app, size_app, e1]; omega

theorem Bytes03_g (v : ValD) (h1 : I64 v.kind) (h2 : I64 v.num) (hs : v.text.size ≤ 1000000000000) : Gives Tryd.prog F.errataref03_Bytes #[v.v] (.string (valB v)) := by
  have a := intB_size h1
  have b := intB_size h2
  have c := textB_size (s := v.text) (by omega)
  refine gives_of (Berrataref03_Bytes_run v.kind v.num v.text) fun W R Φ _ => ?_
  exact fun _ => ⟨R, Φ, inferInstance, fun w G cx => cx, fun w G cx => ((Int01_g v.kind h1).in).toS cx ⟨fun w G cx => cx, fun w G cx => ((Int01_g v.num h2).in).toS cx ⟨fun w G cx => cx, by show (intB v.kind).size + (intB v.num).size ≤ _; omega,
    fun w G cx => ((Text01_g v.text hs).in).toS cx ⟨fun w G cx => cx, by show (intB v.kind ++ intB v.num).size + (textB v.text).size ≤ _; rw [size_app]; omega, fun w G cx => ⟨rfl, cx.left⟩⟩⟩⟩⟩

theorem RowBytes03_in {Φ : PW} [Stable Φ] (p : Option Addr) (cap : Nat) (r : List ValD) (hΦ : ∀ M w, Φ M w → Sl M w p r) (hr : r.length ≤ 1000000) (ht : ∀ v ∈ r, v.text.size ≤ 10000) :
    GivesIn Φ Tryd.prog F.errataref03_RowBytes #[.slice p r.length cap] (.string (rowB r)) := by
  refine .there (fun M w h => (hΦ M w h).there) fun hth => .know (fun M w h => sl_i64 (hΦ M w h)) fun hi => ?_
  have hv : ∀ v ∈ r, (I64 v.kind ∧ I64 v.num) ∧ v.text.size ≤ 10000 := fun v h => ⟨(hi v h).1, ht v h⟩
  have hL := rowL_len hv (by decide) hr
  have hL : (rowL r).length ≤ 20000000000 := by
    have : r.length * (10000 + 64) ≤ 1000000 * 10064 := Nat.mul_le_mul hr (Nat.le_refl _)
    omega
  refine gives_in (Berrataref03_RowBytes_run p r.length cap) fun W R => ?_
  refine fun w G cx => ((Num01_g (r.length : Int) (by unfold I64; omega)).in).toS cx ?_
  clear cx
  refine exI_mk (fun s iI R' Φ' k => ∃ i : Nat, iI = i ∧ i ≤ r.length ∧ s = ⟨((natB r.length).data.toList ++ valsL (r.take i)).toArray⟩ ∧ R' = R ∧ Φ' = Φ ∧ k = r.length - i) ⟨⟨R, Φ, _, inferInstance, fun w G cx => cx, 0, rfl, Nat.zero_le _, by rw [List.take_zero, show valsL [] = [] from rfl, List.append_nil], rfl, rfl, rfl⟩, ?_⟩
  rintro s iI R2 Φ2 k _ ⟨i, rfl, hi, rfl, rfl, rfl, rfl⟩
  refine Br.intro (fun hlt => ?_) (fun hge => fun w G cx => ⟨?_, cx.left⟩)
  · have hlt : i < r.length := by have := of_decide_eq_true hlt; omega
    obtain ⟨g, o, rfl⟩ := hth (by omega)
    obtain ⟨⟨h1, h2⟩, h3⟩ := hv r[i] (List.getElem_mem hlt)
    have hsz := valB_size h1 h2 (by omega)
    have hlen : ((natB r.length).data.toList ++ valsL (r.take (i + 1))).length ≤ 20000000000 := by
      have e : valsL r = valsL (r.take (i + 1)) ++ valsL (r.drop (i + 1)) := by rw [← valsL_app, List.take_append_drop]
      unfold rowL at hL
      rw [e, List.length_append, List.length_append] at hL
      rw [List.length_append]; omega
    have hstep : valsL (r.take (i + 1)) = valsL (r.take i) ++ (valB r[i]).data.toList := by rw [List.take_succ_eq_append_getElem hlt, valsL_app, valsL_one]
    refine ⟨by omega, ptrK_intro g o rfl fun w G cx => ⟨r[i].kind, r[i].num, r[i].text, by rw [Int.toNat_natCast]; exact sl_val (hΦ _ _ cx.phi) hlt, fun w G cx => ((Bytes03_g r[i] h1 h2 (by omega)).in).toS cx ⟨?_, by unfold I64; omega, R2, Φ2, r.length - (i + 1), inferInstance, fun w G cx => cx, ⟨i + 1, by omega, hlt, ?_, rfl, rfl, rfl⟩, by omega⟩⟩⟩
    · show (ByteArray.mk ((natB r.length).data.toList ++ valsL (r.take i)).toArray).size + (valB r[i]).size ≤ _
      rw [hstep, ← List.append_assoc, List.length_append, list_size] at hlen
      rw [size_list]; omega
    · rw [app_list, List.append_assoc, hstep]
  · have hge : i = r.length := by have := of_decide_eq_false hge; omega
    subst hge
    rw [List.take_length]
    rfl
end Go.Proofs.YtnapfhbibikbiaaDoor
end

/-
  The reference's other functions on lists of deltas, walked.
-/
section
set_option linter.unusedVariables false
set_option linter.unusedSimpArgs false
namespace Go.Proofs.YtnapfhbibikbiaaDoor
open Go.Vc


section
variable {Φ : PW} {p q : Option Addr} {cap cap2 : Nat} {a b l : List DeltaD} {t : Int}

theorem Cons28H [Stable Φ] [hΦ : Has Φ (fun M w => Sl M w p l)] (hc1 : l.length ≤ cap) (hc2 : cap ≤ maxLen) (hlen : l.length ≤ 1000000) (hrow : Rows1 l) : GivesSl Φ Tryd.prog F.errataref28_Consolidate #[.slice p l.length cap] (consP l) id :=
  Cons28_sl p cap l hΦ.go hc1 hc2 hlen hrow

theorem filter_step {q : DeltaD → Bool} {i : Nat} (h : i < l.length) : (l.take (i + 1)).filter q = (l.take i).filter q ++ (if q l[i] = true then [l[i]] else []) := by
  rw [List.take_succ_eq_append_getElem h, List.filter_append]
  congr 1
  by_cases hq : q l[i] = true
  · simp [hq]
  · simp [hq]
theorem filter_take {q : DeltaD → Bool} {i : Nat} : ((l.take i).filter q).length ≤ i := by
  have := List.length_filter_le q (l.take i)
  rw [List.length_take] at this
  omega

theorem Sub28H [Stable Φ] [hΦ : Has Φ (fun M w => Sl M w p a)] [hΨ : Has Φ (fun M w => Sl M w q b)] (ha : a.length ≤ 400000) (hb : b.length ≤ 400000) (hra : Rows1 a) (hrb : Rows1 b) : GivesSl Φ Tryd.prog F.errataref28_Sub #[.slice p a.length cap, .slice q b.length cap2] (subP a b) id := by
  refine ⟨fun W0 w0 S0 c0 => ?_⟩
  obtain ⟨g, o, cb, hp, c1⟩ := c0.pin (hΨ.go _ _ c0.phi)
  have hcs := Ctx.cells c1 (fun M w h => h.2)
  refine (GivesSl.go (gives_sl (Φ := fun M w => Φ M w ∧ Pin g o cb b M w) (l := subP a b) (mk := id) (Berrataref28_Sub_run p a.length cap q b.length cap2) fun W R => ?_) W0 w0 S0 c1).mono fun e w' ⟨p, c, h1, h2, h3, h4⟩ => ⟨p, c, h1, h2, h3, h4.weak fun M w h => ⟨h.1.1, h.2⟩⟩
  clear c0 c1
  intro k w G cx
  obtain ⟨p', cap', w', cs, hrun, c'⟩ := Ctx.cloned (P := Tryd.prog) (ts := 22) (ty := 22) (kb := #[false, false]) (bytes := 40) (c2 := cap) cx (by kernel_rfl) delta_one (fun M w h => hΦ.go M w h.1) (by omega) (by omega)
  refine ⟨_, _, _, _, hrun, .buf p' a.length cap' cs 39 3 :: R, _, inferInstance, c', ?_⟩
  clear cx c' hrun
  have stP : Stable (fun M w => Φ M w ∧ Pin g o cb b M w) := inferInstance
  refine exI_mk (fun op on oc iI R' Φ' m => ∃ (i : Nat) (ds : List Value), iI = i ∧ i ≤ b.length ∧ on = (a ++ (b.take i).map negD).length ∧ R' = .buf op on oc ds 39 3 :: R ∧ Φ' = (fun M w => (Φ M w ∧ Pin g o cb b M w) ∧ Elems M w ds (a ++ (b.take i).map negD)) ∧ m = b.length - i)
    ⟨⟨_, fun M w => (Φ M w ∧ Pin g o cb b M w) ∧ Elems M w cs (a ++ (b.take 0).map negD), _, inferInstance, fun w G cx => cx.weak fun M w h => ⟨h.1, by simpa using h.2⟩, 0, cs, rfl, Nat.zero_le _, by simp, rfl, rfl, rfl⟩, ?_⟩
  rintro op on oc iI R1 Φ1 m hst ⟨i, ds, rfl, hi, rfl, rfl, rfl, rfl⟩
  have hln : (a ++ (b.take i).map negD).length = a.length + i := by rw [List.length_append, List.length_map, List.length_take]; omega
  refine Br.intro (fun hlt => ?_) (fun hge => fun w G cx => ?_)
  · have hlt : i < b.length := by have := of_decide_eq_true hlt; omega
    obtain ⟨q2, qc, he, f1, f2, f3, f4⟩ := hcs i hlt
    obtain ⟨X, hX⟩ : ∃ X, b[i] = X := ⟨_, rfl⟩
    have hXr : X.row.length ≤ 1000000 := by rw [← hX]; exact hrb _ (List.getElem_mem hlt)
    have slX : ∀ M w, (Φ M w ∧ Pin g o cb b M w) → Sl M w q2 X.row := fun M w h => by rw [← hX]; exact pin_row h.2 hlt he
    have row : ∀ {w : World} {S : List Own}, Ctx W w S (fun M w => Φ M w ∧ Pin g o cb b M w) → RowAt w g (o + (i : Int).toNat * 3) (X.cells q2 qc) := fun cx => by rw [Int.toNat_natCast, ← hX]; exact pin_rowAt cx.phi.2 hlt he
    rw [hX] at f1 f3 f4
    refine ⟨R, _, stP, fun w G cx => cx.drop1.fst, by omega, ptrK_intro g o (hp (by omega)) ⟨by omega, ptrK_intro g o (hp (by omega)) ⟨_, _, _, _, _, fun w G cx => ⟨_, _, _, _, _, row cx, rfl⟩, X.n, fun w G cx => ⟨X.n, by have := row cx 2 (by simp); simpa using this, rfl⟩, fun w G cx => ?_⟩⟩⟩
    refine (Clone28_sl (Φ := fun M w => (Φ M w ∧ Pin g o cb b M w) ∧ Elems M w ds (a ++ (b.take i).map negD)) X q2 qc (negD X).n (fun M w h => slX M w h.1) hXr).use cx fun p2 c2 w g3 g4 cx => ⟨X.time, p2, X.row.length, c2, (negD X).n, rfl, .buf op (a ++ (b.take i).map negD).length oc ds 39 3 :: R, _, inferInstance, cx, fun w G cx => cx.drop1.weak fun M w h => h.1.1, fun kb => ⟨fun w G cx => cx.drop1.drop1.weak fun M w h => h.1.1, fun w G cx => ?_⟩⟩
    have e : a ++ (b.take (i + 1)).map negD = (a ++ (b.take i).map negD) ++ [negD X] := by rw [List.take_succ_eq_append_getElem hlt, List.map_append, ← List.append_assoc, hX]; rfl
    obtain ⟨p', c', w', hrun, cx'⟩ := push2 (x := negD X) (q := p2) (qc := c2) (PS := fun M w => Φ M w ∧ Pin g o cb b M w) (Ψ := fun M w => Sl M w p2 X.row) (fun M w _ h => rep_delta (x := negD X) g3 g4 f3 (w64_in _) h) (by omega) cx
    rw [← e] at hrun cx'
    exact ⟨p', _, c', w', hrun, _, _, inferInstance, cx', by unfold I64; omega, _, _, b.length - (i + 1), inferInstance, fun w G cx => cx, ⟨i + 1, _, by omega, hlt, rfl, rfl, rfl, rfl⟩, by omega⟩
  · have hge : i = b.length := by have := of_decide_eq_false hge; omega
    subst hge
    rw [List.take_length] at cx hln ⊢
    obtain ⟨cx3, hs, _, g5, g6⟩ := Ctx.freeze (α := DeltaD) cx.fst cx.phi.2
    refine (Cons28_sl (Φ := fun M w => (Φ M w ∧ Pin g o cb b M w) ∧ Sl M w op (a ++ b.map negD)) op oc (a ++ b.map negD) (fun M w h => h.2) g5 g6 (by omega) (fun x hx => ?_)).to (cx3.add hs) fun p2 c2 e1 e2 st => fun w G cx => ⟨p2, c2, rfl, e1, e2, cx.left.weak fun M w h => ⟨h.1.1, h.2⟩⟩
    rcases List.mem_append.1 hx with hx | hx
    · exact hra x hx
    · obtain ⟨y, hy, rfl⟩ := List.mem_map.1 hx
      exact hrb y hy
end
end Go.Proofs.YtnapfhbibikbiaaDoor
end

/-
  Buckets, Split, Part, walked.
-/
section
set_option linter.unusedVariables false
set_option linter.unusedSimpArgs false
namespace Go.Vc
/-- bytes that nobody writes -/
def BytesAt (b : Nat) (l : List UInt8) : PW := fun M w => ∀ j, (hj : j < l.length) → b ∉ M ∧ w.cell? ⟨b, j, none⟩ = some (.int .u8 (l[j].toNat : Int))
instance instStableBytesAt (b : Nat) (l : List UInt8) : Stable (BytesAt b l) := ⟨fun {M M' w w'} hs h j hj => by
  obtain ⟨h1, h2⟩ := h j hj
  have hlt : b < w.heap.size := by
    rcases Nat.lt_or_ge b w.heap.size with h' | h'
    · exact h'
    · simp [World.cell?, Array.getElem?_eq_none h'] at h2
  refine ⟨fun hm => ?_, hs.chg.cell h2 h1⟩
  rcases hs.sub b hm with h | h
  · exact h1 h
  · omega⟩
theorem chg_bytes {w : World} {e : TypeId} {s : ByteArray} : Chg [] w (Lib.bytesWorld w e s) :=
  have h := Lib.bytesWorld_below w e s
  ⟨h.os, h.tape, h.output, h.size, fun k hk _ => h.block k hk⟩
theorem Ctx.bytes {W w : World} {S : List Own} {Φ : PW} [Stable Φ] (c : Ctx W w S Φ) (e : TypeId) (s : ByteArray) : Ctx W (Lib.bytesWorld w e s) S (fun M w' => Φ M w' ∧ BytesAt w.heap.size s.data.toList M w') := by
  refine (c.call chg_bytes).add fun j hj => ⟨fun hm => absurd (c.lt hm) (Nat.lt_irrefl _), ?_⟩
  have hj2 : j < s.size := by
    rw [Array.length_toList] at hj
    exact hj
  rw [Lib.bytesWorld_cell w e s j hj2, show s.data.toList.getD j 0 = s.data.toList[j] by rw [List.getD, List.getElem?_eq_getElem hj]; rfl]
end Go.Vc
namespace Go.Proofs.YtnapfhbibikbiaaDoor
open Go.Vc


/-! ### in plain Lean -/
def sumB : List UInt8 → Nat
  | [] => 0
  | c :: l => c.toNat + sumB l
theorem sumB_app : ∀ (a b : List UInt8), sumB (a ++ b) = sumB a + sumB b
  | [], b => by simp [sumB]
  | c :: a, b => by simp only [List.cons_append, sumB, sumB_app a b]; omega
theorem sumB_le : ∀ (l : List UInt8), sumB l ≤ l.length * 255
  | [] => Nat.le_refl _
  | c :: l => by
    have h1 := sumB_le l
    have h2 : c.toNat < 256 := c.toNat_lt
    simp only [sumB, List.length_cons, Nat.add_mul]; omega
theorem sumB_step {l : List UInt8} {i : Nat} (h : i < l.length) : sumB (l.take (i + 1)) = sumB (l.take i) + l[i].toNat := by
  rw [List.take_succ_eq_append_getElem h, sumB_app]
  simp [sumB]
def bucketP (r : List ValD) : Int := ((sumB (rowL r) % 16 : Nat) : Int)
theorem bucket_bd (r : List ValD) : 0 ≤ bucketP r ∧ bucketP r < 16 := by unfold bucketP; omega
theorem wrap_u8 (c : UInt8) : IntKind.i64.wrap (c.toNat : Int) = (c.toNat : Int) := w64_id (by unfold I64; have := c.toNat_lt; omega)
theorem tmod16 (n : Nat) : (n : Int).tmod 16 = ((n % 16 : Nat) : Int) := rfl

section
variable {Φ : PW} {p : Option Addr} {cap : Nat} {r : List ValD} {l : List DeltaD}

theorem Bucket_in [Stable Φ] [hT : Has Φ TabI] [hΦ : Has Φ (fun M w => Sl M w p r)] (hr : r.length ≤ 10000) (ht : ∀ v ∈ r, v.text.size ≤ 10000) : GivesIn Φ Tryd.prog F.place_Bucket #[.slice p r.length cap] (.int .i64 (bucketP r)) := by
  refine .know (fun M w h => sl_i64 (hΦ.go M w h)) fun hi => ?_
  have hsz := rowB_size hi hr ht
  refine gives_in (Bplace_Bucket_run p r.length cap) fun W R => ?_
  refine fun w G cx => (RowBytes_in p cap r hT.go hΦ.go (by omega) ht).toS cx fun w G cx => ?_
  obtain ⟨b, hb⟩ : ∃ b, w.heap.size = b := ⟨_, rfl⟩
  have cx1 := cx.bytes 5 (rowB r)
  rw [hb] at cx1
  have hL : (rowB r).data.toList = rowL r := rfl
  rw [hL] at cx1
  refine ⟨some ⟨b, 0, none⟩, (rowB r).size, _, _, by rw [← hb]; exact Lib.run_convert_string_bytes w 9 71 5 (rowB r) Tryd.underlying9 (by kernel_rfl) (by kernel_rfl), R, _, inferInstance, cx1, ?_⟩
  clear cx cx1 hb
  have hn : (rowB r).size = (rowL r).length := size_list _
  rw [hn] at hsz ⊢
  have hst : Stable (fun M w => Φ M w ∧ BytesAt b (rowL r) M w) := inferInstance
  refine exI_mk (fun n iI R' Φ' k => ∃ i : Nat, iI = i ∧ i ≤ (rowL r).length ∧ n = (sumB ((rowL r).take i) : Int) ∧ R' = R ∧ Φ' = (fun M w => Φ M w ∧ BytesAt b (rowL r) M w) ∧ k = (rowL r).length - i) ⟨⟨R, _, _, hst, fun w F c => c, 0, rfl, Nat.zero_le _, rfl, rfl, rfl, rfl⟩, ?_⟩
  rintro n iI R1 Φ1 k _ ⟨i, rfl, hi2, rfl, rfl, rfl, rfl⟩
  refine Br.intro (fun hlt => ?_) (fun hge => ?_)
  · have hlt : i < (rowL r).length := by have := of_decide_eq_true hlt; omega
    have h1 := sumB_le ((rowL r).take i)
    rw [List.length_take] at h1
    have h2 := (rowL r)[i].toNat_lt
    refine ⟨by omega, ptrK_intro b 0 rfl fun w G cx => ⟨((rowL r)[i].toNat : Int), ?_, ?_, by unfold I64; omega, R1, _, (rowL r).length - (i + 1), hst, fun w G cx => cx, ⟨i + 1, rfl, hlt, ?_, rfl, rfl, rfl⟩, by omega⟩⟩
    · rw [Nat.zero_add, Int.toNat_natCast]
      exact (cx.phi.2 i hlt).2
    · rw [wrap_u8]; unfold I64; omega
    · rw [wrap_u8, sumB_step hlt]; omega
  · have hge : i = (rowL r).length := by have := of_decide_eq_false hge; omega
    subst hge
    refine ⟨by omega, fun w G cx => ⟨?_, cx.left.fst⟩⟩
    rw [List.take_length]
    rfl

theorem RBucket_in [Stable Φ] [hΦ : Has Φ (fun M w => Sl M w p r)] (hr : r.length ≤ 10000) (ht : ∀ v ∈ r, v.text.size ≤ 10000) : GivesIn Φ Tryd.prog F.errataref37_Bucket #[.slice p r.length cap] (.int .i64 (bucketP r)) := by
  refine .know (fun M w h => sl_i64 (hΦ.go M w h)) fun hi => ?_
  have hsz := rowB_size hi hr ht
  refine gives_in (Berrataref37_Bucket_run p r.length cap) fun W R => ?_
  refine fun w G cx => (RowBytes03_in p cap r hΦ.go (by omega) ht).toS cx ?_
  clear cx
  have hn : (rowB r).size = (rowL r).length := size_list _
  rw [hn] at hsz ⊢
  refine exI_mk (fun n iI R' Φ' k => ∃ i : Nat, iI = i ∧ i ≤ (rowL r).length ∧ n = ((sumB ((rowL r).take i) % 16 : Nat) : Int) ∧ R' = R ∧ Φ' = Φ ∧ k = (rowL r).length - i) ⟨⟨R, _, _, inferInstance, fun w F c => c, 0, rfl, Nat.zero_le _, rfl, rfl, rfl, rfl⟩, ?_⟩
  rintro n iI R1 Φ1 k _ ⟨i, rfl, hi2, rfl, rfl, rfl, rfl⟩
  refine Br.intro (fun hlt => ?_) (fun hge => fun w G cx => ⟨?_, cx.left⟩)
  · have hlt : i < (rowL r).length := by have := of_decide_eq_true hlt; omega
    have h2 := (rowL r)[i].toNat_lt
    have e : ((sumB ((rowL r).take i) % 16 : Nat) : Int) + ((rowL r)[i].toNat : Int) = ((sumB ((rowL r).take i) % 16 + (rowL r)[i].toNat : Nat) : Int) := by omega
    refine ⟨(rowL r)[i], ⟨by omega, ?_⟩, by rw [wrap_u8]; unfold I64; omega, by omega, by unfold I64; omega, R1, Φ1, (rowL r).length - (i + 1), inferInstance, fun w G cx => cx, ⟨i + 1, rfl, hlt, ?_, rfl, rfl, rfl⟩, by omega⟩
    · rw [Int.toNat_natCast]
      exact List.getElem?_eq_getElem hlt
    · rw [wrap_u8, e, tmod16, sumB_step hlt, Nat.mod_add_mod]
  · have hge : i = (rowL r).length := by have := of_decide_eq_false hge; omega
    subst hge
    rw [List.take_length]
    rfl
end
end Go.Proofs.YtnapfhbibikbiaaDoor
end

/-
  Split and Part, walked.
-/
section
set_option linter.unusedVariables false
set_option linter.unusedSimpArgs false
namespace Go.Proofs.YtnapfhbibikbiaaDoor
open Go.Vc


/-! ### slices that grow, several of them -/
structure PB where
  p : Option Addr
  c : Nat
  ds : List Value
  l : List DeltaD
abbrev PB.own (x : PB) : Own := .buf x.p x.l.length x.c x.ds 39 3
abbrev PB.cell (x : PB) : Value := .slice x.p x.l.length x.c
def PBE (bs : List PB) : PW := fun M w => ∀ x ∈ bs, Elems M w x.ds x.l
instance instStablePBE (bs : List PB) : Stable (PBE bs) := ⟨fun hs h x hx => Stable.step (Φ := fun M w => Elems M w x.ds x.l) hs (h x hx)⟩

section
variable {W w : World} {R G : List Own} {Φ PS : PW}

theorem Ctx.nobufs [Stable Φ] {S : List Own} (c : Ctx W w S Φ) : ∀ n : Nat, Ctx W w ((List.replicate n (⟨none, 0, [], []⟩ : PB)).map PB.own ++ S) Φ
  | 0 => c
  | n + 1 => (Ctx.nobufs c n).nobuf 39 3

theorem Ctx.dropB [Stable Φ] {bs : List PB} {o : Own} (c : Ctx W w (o :: (bs.map PB.own ++ R) ++ G) Φ) : Ctx W w (o :: R ++ G) Φ :=
  c.sub (List.Sublist.cons_cons _ (List.Sublist.append (List.sublist_append_right _ _) (List.Sublist.refl _)))

theorem pushK [Stable PS] {bs : List PB} {o : Own} {x : DeltaD} {q : Option Addr} {qc kb j : Nat} (hj : j < bs.length) (hx : ∀ M w, PS M w → Gv.rep M w (x.cells q qc) x) (ho : bs[j].l.length < 10000000)
    (cx : Ctx W w (.blk kb (x.cells q qc) 39 :: o :: (bs.map PB.own ++ R) ++ G) (fun M w => PS M w ∧ PBE bs M w)) :
    ∃ p c w', Sem.run Tryd.prog (builtin Builtin.append #[22, 22] 22 #[false, false] #[bs[j].cell, .slice (some ⟨kb, 0, none⟩) 1 1]) w = .ok (.value (.slice p (bs[j].l ++ [x]).length c)) w' ∧
      Ctx W w' (o :: ((bs.set j ⟨p, c, bs[j].ds ++ x.cells q qc, bs[j].l ++ [x]⟩).map PB.own ++ R) ++ G) (fun M w => PS M w ∧ PBE (bs.set j ⟨p, c, bs[j].ds ++ x.cells q qc, bs[j].l ++ [x]⟩) M w) := by
  obtain ⟨i, z, e1, e2, e3, e4, e5, e6⟩ := appB_out (show appB Tryd.prog 22 39 3 40 = true by kernel_rfl)
  have hk : ((.blk kb (x.cells q qc) 39 :: o :: (bs.map PB.own ++ R) ++ G : List Own))[j + 2]? = some (.buf bs[j].p bs[j].l.length bs[j].c bs[j].ds 39 3) := by
    show ((bs.map PB.own ++ R) ++ G)[j]? = _
    rw [List.append_assoc, List.getElem?_append_left (by rw [List.length_map]; exact hj), List.getElem?_map, List.getElem?_eq_getElem hj]
    rfl
  have hby : (bs[j].l.length + 1) * i.bytes ≤ 10000000 * 1000 := Nat.mul_le_mul (by omega) (by omega)
  obtain ⟨p', cap', w', h2, c'⟩ := cx.append (j + 2) hk (ty := 22) e1 e2 e3 e4 e5 (a := ⟨kb, 0, none⟩) (m := 1) (c2 := 1) (news := x.cells q qc) (by omega) rfl (fun j u hj => by rw [addr_add, Nat.zero_add]; exact cx.get 0 rfl hj)
    (fun u hu => List.all_eq_true.1 (show ((x.cells q qc).all fun u => oneC u) = true from rfl) u hu) (by omega) (by omega)
  have el : bs[j].l.length + 1 = (bs[j].l ++ [x]).length := by simp
  rw [el] at h2 c'
  have es : ((.blk kb (x.cells q qc) 39 :: o :: (bs.map PB.own ++ R) ++ G : List Own)).set (j + 2) (.buf p' (bs[j].l ++ [x]).length cap' (bs[j].ds ++ x.cells q qc) 39 3) = .blk kb (x.cells q qc) 39 :: (o :: ((bs.set j ⟨p', cap', bs[j].ds ++ x.cells q qc, bs[j].l ++ [x]⟩).map PB.own ++ R) ++ G) := by
    show _ :: _ :: ((bs.map PB.own ++ R) ++ G).set j _ = _
    rw [List.append_assoc, List.set_append_left _ _ (by rw [List.length_map]; exact hj), List.map_set, ← List.append_assoc]
    rfl
  rw [es] at c'
  refine ⟨p', cap', w', run_app h2, c'.drop1.weak fun M w h => ⟨h.1, fun y hy => ?_⟩⟩
  rcases List.mem_or_eq_of_mem_set hy with hy | rfl
  · exact h.2 y hy
  · exact (h.2 bs[j] (List.getElem_mem hj)).snoc (hx M w h.1)
end

/-! ### Split -/
def partP (l : List DeltaD) (k : Int) : List DeltaD := (consP l).filter fun x => decide (bucketP x.row = k)
def splitP (l : List DeltaD) : List (List DeltaD) := (List.range 16).map fun k => partP l ((k : Nat) : Int)

theorem splitP_get (l : List DeltaD) (i : Nat) (h : i < (splitP l).length) : (splitP l)[i] = partP l ((i : Nat) : Int) := by
  simp [splitP]
theorem splitP_len (l : List DeltaD) : (splitP l).length = 16 := by
  unfold splitP
  rw [List.length_map, List.length_range]
theorem elems_cells {M : List Nat} {w : World} : ∀ (bs : List PB), (∀ x ∈ bs, x.l.length ≤ x.c ∧ x.c ≤ maxLen ∧ Sl M w x.p x.l) → Elems M w (bs.map PB.cell) (bs.map PB.l)
  | [], _ => Elems.nil
  | x :: bs, h => by
    obtain ⟨h1, h2, h3⟩ := h x (by simp)
    exact Elems.append (l := [x.l]) (cs := [x.cell]) (Elems.one (rep_list.2 ⟨x.p, x.c, rfl, h1, h2, h3⟩)) (elems_cells bs fun y hy => h y (by simp [hy]))

section
variable {Φ : PW} {p : Option Addr} {cap : Nat} {l : List DeltaD}

set_option maxHeartbeats 2000000 in
theorem Split_sl [Stable Φ] [hT : Has Φ TabI] [hΦ : Has Φ (fun M w => Sl M w p l)] (hlen : l.length ≤ 1000000) (hfit : ∀ x ∈ l, Fit x) : GivesSl Φ Tryd.prog F.difference_Split #[.slice p l.length cap] (splitP l) id := by
  have hrow : Rows1 l := fun x hx => Nat.le_trans (hfit x hx).1 (by decide)
  refine gives_sl (Bdifference_Split_run p l.length cap) fun W R => ?_
  intro k0 w G cx
  refine (Consolidate_sl p cap l hΦ.go hlen hrow).use cx fun p1 c1 w h1 h2 cx => ?_
  have hcfit : ∀ x ∈ consP l, x.row.length ≤ 10000 ∧ ∀ v ∈ x.row, v.text.size ≤ 10000 := consP_row (P := fun r => r.length ≤ 10000 ∧ ∀ v ∈ r, v.text.size ≤ 10000) hfit
  have hcl := consP_len l
  have hsp : splitP l = (List.range 16).map fun k => (consP l).filter fun x => decide (bucketP x.row = ((k : Nat) : Int)) := rfl
  obtain ⟨c, hc⟩ : ∃ c, consP l = c := ⟨_, rfl⟩
  rw [hc] at cx h1 hcl hcfit hsp ⊢
  obtain ⟨g, o, cs, hp, cx⟩ := cx.pin cx.phi.2
  obtain ⟨PS, hPS⟩ : ∃ PS : PW, PS = (fun M w => (Φ M w ∧ Sl M w p1 c) ∧ Pin g o cs c M w) := ⟨_, rfl⟩
  have stP : Stable PS := by rw [hPS]; infer_instance
  have iP : ∀ M w, PS M w → Pin g o cs c M w := fun M w h => by rw [hPS] at h; exact h.2
  have i0 : ∀ M w, PS M w → Φ M w := fun M w h => by rw [hPS] at h; exact h.1.1
  rw [← hPS] at cx
  clear hPS hc
  have hcs := Ctx.cells cx iP
  refine ⟨p1, _, c1, rfl, _, PS, stP, cx, ?_⟩
  clear cx
  refine exI_mk (fun iI R' Φ' m => ∃ (i : Nat) (bs : List PB), iI = i ∧ i ≤ c.length ∧ bs.length = 16 ∧ (∀ j, (hj : j < bs.length) → bs[j].l = (c.take i).filter fun x => decide (bucketP x.row = (j : Int))) ∧ R' = .blk k0 (bs.map PB.cell) 63 :: (bs.map PB.own ++ R) ∧ Φ' = (fun M w => PS M w ∧ PBE bs M w) ∧ m = c.length - i)
    ⟨⟨_, fun M w => PS M w ∧ PBE (List.replicate 16 ⟨none, 0, [], []⟩) M w, _, inferInstance, fun w G cx => ?_, 0, List.replicate 16 ⟨none, 0, [], []⟩, rfl, Nat.zero_le _, rfl, fun j hj => ?_, rfl, rfl, rfl⟩, ?_⟩
  · have c2 := Ctx.nobufs cx 16
    have c3 := c2.perm (List.perm_middle (a := .blk k0 ((List.replicate 16 (⟨none, 0, [], []⟩ : PB)).map PB.cell) 63) (l₁ := (List.replicate 16 (⟨none, 0, [], []⟩ : PB)).map PB.own) (l₂ := R ++ G))
    rw [← List.append_assoc] at c3
    refine Ctx.weak c3 fun M w h => ⟨h, fun x hx => ?_⟩
    rw [List.eq_of_mem_replicate hx]
    exact Elems.nil
  · rw [List.getElem_replicate, List.take_zero]
    rfl
  rintro iI R1 Φ1 m _ ⟨i, bs, rfl, hi, hbl, hbs, rfl, rfl, rfl⟩
  have st2 : Stable (fun M w => PS M w ∧ PBE bs M w) := inferInstance
  refine Br.intro (fun hlt => ?_) (fun hge => ?_)
  · have hlt : i < c.length := by have := of_decide_eq_true hlt; omega
    obtain ⟨q, qc, he, f1, f2, f3, f4⟩ := hcs i hlt
    have hf := hcfit c[i] (List.getElem_mem hlt)
    obtain ⟨X, hX⟩ : ∃ X, c[i] = X := ⟨_, rfl⟩
    have slX : ∀ M w, PS M w → Sl M w q X.row := fun M w h => by rw [← hX]; exact pin_row (iP M w h) hlt he
    refine ⟨by omega, ptrK_intro g o (hp (by omega)) fun w G cx => ⟨X.time, q, X.row.length, qc, X.n, by rw [Int.toNat_natCast, ← hX]; exact pin_rowAt (iP _ _ cx.phi.1) hlt he, fun _ w G cx => ?_⟩⟩
    rw [hX] at f1 f3 f4 hf
    refine (Bucket_in (Φ := fun M w => PS M w ∧ PBE bs M w) (p := q) (cap := qc) (r := X.row) (hT := ⟨fun M w h => hT.go M w (i0 M w h.1)⟩) (hΦ := ⟨fun M w h => slX M w h.1⟩) hf.1 hf.2).toI cx ?_
    clear cx
    obtain ⟨hb1, hb2⟩ := bucket_bd X.row
    obtain ⟨j, hj⟩ : ∃ j : Nat, bucketP X.row = (j : Int) := ⟨(bucketP X.row).toNat, by omega⟩
    have hj16 : j < bs.length := by omega
    have htk : c.take (i + 1) = c.take i ++ [X] := by rw [List.take_succ_eq_append_getElem hlt, hX]
    have hfl : bs[j].l.length ≤ i := by
      rw [hbs j hj16]
      have := List.length_filter_le (fun x : DeltaD => decide (bucketP x.row = (j : Int))) (c.take i)
      rw [List.length_take] at this
      omega
    rw [hj]
    have e0 : 0 + (j : Int).toNat = j := by omega
    refine ⟨.blk k0 (bs.map PB.cell) 63 :: R, PS, stP, fun w G cx => (Ctx.dropB cx).fst, by omega, bs[j].p, bs[j].l.length, bs[j].c, fun w G cx => ⟨_, _, _, cx.get 0 rfl (by rw [e0, List.getElem?_map, List.getElem?_eq_getElem hj16]; rfl), rfl⟩, fun kb => ⟨fun w G cx => (Ctx.dropB cx.drop1).fst, fun w G cx => ?_⟩⟩
    obtain ⟨p', c', w', hrun, cx'⟩ := pushK (x := X) hj16 (fun M w h => rep_delta f1 f2 f3 f4 (slX M w h)) (by omega) cx
    clear cx
    obtain ⟨new, hnew⟩ : ∃ new : PB, new = ⟨p', c', bs[j].ds ++ X.cells q qc, bs[j].l ++ [X]⟩ := ⟨_, rfl⟩
    rw [← hnew] at cx'
    have ep : p' = new.p := by rw [hnew]
    have ec : c' = new.c := by rw [hnew]
    have ell : bs[j].l ++ [X] = new.l := by rw [hnew]
    rw [ep, ec, ell] at hrun
    have st3 : Stable (fun M w => PS M w ∧ PBE (bs.set j new) M w) := inferInstance
    refine ⟨new.p, new.l.length, new.c, w', hrun, .blk k0 (bs.map PB.cell) 63 :: ((bs.set j new).map PB.own ++ R), _, st3, cx', fun w G cx => (Ctx.dropB cx).fst, by omega, fun w G cx => ⟨cx.can 0 rfl (by rw [e0, List.length_map]; omega), fun w' hw' => ?_⟩⟩
    rw [e0] at hw'
    have cx2 := cx.put 0 hw' rfl
    have em : (bs.map PB.cell).set j (.slice new.p new.l.length new.c) = (bs.set j new).map PB.cell := by rw [List.map_set]
    have cx3 : Ctx W w' (.blk k0 ((bs.set j new).map PB.cell) 63 :: ((bs.set j new).map PB.own ++ R) ++ G) (fun M w => PS M w ∧ PBE (bs.set j new) M w) := by
      rw [← em]
      exact cx2
    refine ⟨_, _, st3, cx3, by unfold I64; omega, _, _, c.length - (i + 1), st3, fun w G cx => cx, ⟨i + 1, bs.set j new, by omega, hlt, by rw [List.length_set]; exact hbl, fun k hk => ?_, rfl, rfl, rfl⟩, by omega⟩
    rw [List.length_set] at hk
    rw [htk, List.filter_append, List.getElem_set]
    split
    · rename_i hjk
      subst hjk
      rw [← ell, hbs j hj16, List.filter_cons_of_pos (by rw [hj]; exact decide_eq_true rfl)]
      rfl
    · rename_i hjk
      rw [hbs k hk, List.filter_cons_of_neg (by rw [hj, decide_eq_true_eq]; omega)]
      simp
  · have hge : i = c.length := by have := of_decide_eq_false hge; omega
    subst hge
    rw [List.take_length] at hbs
    refine ⟨Nat.le_refl _, fun w G cx => ?_⟩
    have cx := cx.left
    have hnd : ∀ x ∈ bs, x.l.length ≤ x.c ∧ x.c ≤ maxLen ∧ Sl (dom (.blk k0 (bs.map PB.cell) 63 :: R)) w x.p x.l := fun x hx => by
      have cp : Ctx W w (bs.map PB.own ++ (.blk k0 (bs.map PB.cell) 63 :: R)) (fun M w => PS M w ∧ PBE bs M w) := cx.perm List.perm_middle.symm
      have hm : x.own ∈ bs.map PB.own := List.mem_map_of_mem hx
      obtain ⟨n, hn, hxn⟩ := List.getElem_of_mem hm
      have hlb := cp.bufLen n (by rw [List.getElem?_append_left hn, List.getElem?_eq_getElem hn, hxn])
      exact ⟨hlb.2.1, hlb.2.2, Ctx.letGo (α := DeltaD) cp hm (cp.phi.2 x hx)⟩
    have cx1 : Ctx W w (.blk k0 (bs.map PB.cell) 63 :: R) PS := by
      have := Ctx.dropB (G := []) (R := R) (bs := bs) (o := .blk k0 (bs.map PB.cell) 63) (by rw [List.append_nil]; exact cx)
      rw [List.append_nil] at this
      exact this.fst
    obtain ⟨cx2, hs⟩ := cx1.freezeBlk (α := List DeltaD) (l := bs.map PB.l) (elems_cells bs hnd)
    have hsl : bs.map PB.l = splitP l := by
      rw [hsp]
      refine List.ext_getElem (by simp [hbl]) fun k h1 h2 => ?_
      rw [List.getElem_map, List.getElem_map, List.getElem_range]
      exact hbs k (by rwa [List.length_map] at h1)
    rw [hsl] at hs
    have h16 : (splitP l).length = 16 := by rw [hsp, List.length_map, List.length_range]
    rw [h16]
    exact ⟨some ⟨k0, 0, none⟩, 16, rfl, Nat.le_refl _, by decide, (cx2.add hs).weak fun M w h => ⟨i0 M w h.1, h.2⟩⟩

theorem Part_sl [Stable Φ] {k : Int} [hT : Has Φ TabI] [hΦ : Has Φ (fun M w => Sl M w p l)] (hlen : l.length ≤ 1000000) (hfit : ∀ x ∈ l, Fit x) : GivesSl Φ Tryd.prog F.difference_Part #[.slice p l.length cap, .int .i64 k] (partP l k) id := by
  refine gives_sl (Bdifference_Part_run p l.length cap k) fun W R => ?_
  refine exI_mk (fun iI R' Φ' m => ∃ i : Nat, iI = i ∧ i ≤ 16 ∧ R' = R ∧ Φ' = Φ ∧ m = 16 - i ∧ ∀ j : Nat, j < i → (j : Int) ≠ k) ⟨⟨R, Φ, _, inferInstance, fun w G cx => cx, 0, rfl, by omega, rfl, rfl, rfl, fun j hj => by omega⟩, ?_⟩
  rintro iI R1 Φ1 m _ ⟨i, rfl, hi, rfl, rfl, rfl, hne⟩
  refine Br.intro (fun hlt => ?_) (fun hge => fun w G cx => ?_)
  · have hlt : i < 16 := by have := of_decide_eq_true hlt; omega
    refine Br.intro (fun he => fun w G cx => ?_) (fun he => ⟨by unfold I64; omega, R1, Φ1, 16 - (i + 1), inferInstance, fun w G cx => cx, ⟨i + 1, rfl, hlt, rfl, rfl, rfl, fun j hj => ?_⟩, by omega⟩)
    · have he : (i : Int) = k := of_decide_eq_true he
      refine (Split_sl hlen hfit).use cx fun p1 c1 w h1 h2 cx => ?_
      obtain ⟨S, hS⟩ : ∃ S, splitP l = S := ⟨_, rfl⟩
      have hl : S.length = 16 := by rw [← hS]; unfold splitP; rw [List.length_map, List.length_range]
      have hSi : ∀ (h : i < S.length), S[i] = partP l k := fun h => by
        subst hS
        rw [splitP_get, he]
      rw [hS] at cx h1 ⊢
      obtain ⟨g, o, cs, hp, cx⟩ := cx.pin cx.phi.2
      obtain ⟨p2, c2, e1, g1, g2⟩ := pin_ll cx.phi.2 (show i < S.length by omega)
      refine ⟨p1, _, c1, rfl, R1, fun M w => (Φ1 M w ∧ Sl M w p1 S) ∧ Pin g o cs S M w, inferInstance, cx, by omega, ptrK_intro g o (hp (by omega)) fun w G cx => ⟨p2, S[i].length, c2, by rw [Int.toNat_natCast]; exact pin_llAt cx.phi.2 (by omega) e1, fun w G cx => ?_⟩⟩
      have hs := pin_llSl cx.left.phi.2 (show i < S.length by omega) e1
      rw [← hSi (by omega)]
      exact ⟨p2, c2, rfl, g1, g2, (cx.left.add hs).weak fun M w h => ⟨h.1.1.1, h.2⟩⟩
    · have he := of_decide_eq_false he
      rcases Nat.lt_or_ge j i with h | h
      · exact hne j h
      · rw [show j = i by omega]; exact he
  · have hge : i = 16 := by have := of_decide_eq_false hge; omega
    have hnil : partP l k = [] := by
      unfold partP
      rw [List.filter_eq_nil_iff]
      intro x _ h
      obtain ⟨b1, b2⟩ := bucket_bd x.row
      have h := of_decide_eq_true h
      exact hne (bucketP x.row).toNat (by omega) (by omega)
    rw [hnil]
    exact ⟨none, 0, rfl, Nat.le_refl _, by decide, cx.left.weak fun M w h => ⟨h, Sl.nil⟩⟩
end
end Go.Proofs.YtnapfhbibikbiaaDoor
end

/-
  Sub, Diff, walked.
-/
section
set_option linter.unusedVariables false
set_option linter.unusedSimpArgs false
namespace Go.Proofs.YtnapfhbibikbiaaDoor
open Go.Vc


set_option maxHeartbeats 1000000 in
theorem Sub_pin {Φ : PW} [Stable Φ] (p : Option Addr) (cap : Nat) (a : List DeltaD) (q : Option Addr) (cap2 : Nat) (b : List DeltaD) (g o : Nat) (cs : List (List Value)) (hq : 0 < b.length → q = some ⟨g, o, none⟩) (hΦ : ∀ M w, Φ M w → Sl M w p a) (hΨ : ∀ M w, Φ M w → Pin g o cs b M w)
    (ha : a.length ≤ 400000) (hb : b.length ≤ 400000) (hra : ∀ x ∈ a, x.row.length ≤ 1000000) (hrb : ∀ x ∈ b, x.row.length ≤ 1000000) : GivesSl Φ Tryd.prog F.delta_Sub #[.slice p a.length cap, .slice q b.length cap2] (subP a b) id := by
  refine ⟨fun W0 w0 S0 c0 => ?_⟩
  have hcs : ∀ j, (hj : j < b.length) → ∃ p c, cs.getD j [] = b[j].cells p c ∧ b[j].row.length ≤ c ∧ c ≤ maxLen ∧ I64 b[j].time ∧ I64 b[j].n := fun j hj => by
    obtain ⟨p, c, h1, h2, h3, h4, h5, _⟩ := pin_delta (hΨ _ _ c0.phi) hj
    exact ⟨p, c, h1, h2, h3, h4, h5⟩
  refine GivesSl.go (gives_sl (Bdelta_Sub_run p a.length cap q b.length cap2) fun W R => ?_) W0 w0 S0 c0
  clear c0
  refine fun w G cx => (CloneD_in p cap a hΦ (by omega)).use cx fun p1 cap1 ds w cx => ⟨p1, _, cap1, rfl, .buf p1 a.length cap1 ds 39 3 :: R, _, inferInstance, cx, ?_⟩
  refine exI_mk (fun sp sn sc iI R' Φ' k => ∃ (i : Nat) (ds : List Value), iI = i ∧ i ≤ b.length ∧ sn = (a ++ (b.take i).map negD).length ∧ R' = .buf sp sn sc ds 39 3 :: R ∧ Φ' = (fun M w => Φ M w ∧ Elems M w ds (a ++ (b.take i).map negD)) ∧ k = b.length - i)
    ⟨⟨.buf p1 a.length cap1 ds 39 3 :: R, fun M w => Φ M w ∧ Elems M w ds (a ++ (b.take 0).map negD), _, inferInstance, fun w G cx => cx.weak fun M w h => ⟨h.1, by simpa using h.2⟩, 0, ds, rfl, Nat.zero_le _, by simp, rfl, rfl, rfl⟩, ?_⟩
  clear cx
  rintro sp _ sc iI R1 Φ1 k _ ⟨i, ds, rfl, hi, rfl, rfl, rfl, rfl⟩
  have hln : (a ++ (b.take i).map negD).length = a.length + i := by simp; omega
  have hst : Stable (fun M w => Φ M w ∧ Elems M w ds (a ++ (b.take i).map negD)) := inferInstance
  refine Br.intro (fun hlt => ?_) (fun hge => fun w G cx => ?_)
  · have hlt := of_decide_eq_true hlt
    have hlt : i < b.length := by omega
    obtain ⟨r, rc, he, h1, h2, h3, h4⟩ := hcs i hlt
    refine ⟨by omega, ptrK_intro g o (hq (by omega)) fun w G cx => ⟨b[i].time, r, b[i].row.length, rc, b[i].n, by rw [Int.toNat_natCast]; exact pin_rowAt (hΨ _ _ cx.phi.1) hlt he, fun _ k w G cx => ?_⟩⟩
    obtain ⟨p', cap', w', hrun, _, cx'⟩ := Ctx.app1 (P := Tryd.prog) (ts := 22) (ty := 22) (kb := #[false, false]) (size := 3) (bytes := 40) cx (by kernel_rfl) (by omega) rfl rfl (by omega) (by omega)
    have htk : a ++ (b.take (i + 1)).map negD = (a ++ (b.take i).map negD) ++ [negD b[i]] := by rw [List.take_succ_eq_append_getElem hlt, List.map_append, ← List.append_assoc]; rfl
    have hln2 : (a ++ (b.take i).map negD).length + 1 = (a ++ (b.take (i + 1)).map negD).length := by rw [htk, List.length_append (bs := [negD b[i]])]; rfl
    rw [hln2] at cx' hrun
    have hst3 : Stable (fun M w => Φ M w ∧ Elems M w (ds ++ (negD b[i]).cells r rc) (a ++ (b.take (i + 1)).map negD)) := inferInstance
    refine ⟨p', _, cap', w', hrun, .buf p' (a ++ (b.take (i + 1)).map negD).length cap' (ds ++ (negD b[i]).cells r rc) 39 3 :: R, _, hst3, cx'.weak fun M w h => ⟨h.1, ?_⟩, by unfold I64; omega, _, _, b.length - (i + 1), hst3, fun w G cx => cx, ⟨i + 1, _, by omega, hlt, rfl, rfl, rfl, rfl⟩, by omega⟩
    rw [htk]
    exact h.2.snoc (rep_delta (x := negD b[i]) h1 h2 h3 (w64_in _) (show Sl M w r b[i].row from pin_row (hΨ M w h.1) hlt he))
  · have hge := of_decide_eq_false hge
    have hi : i = b.length := by omega
    subst hi
    have hall : a ++ (b.take b.length).map negD = a ++ b.map negD := by rw [List.take_length]
    rw [hall] at cx ⊢
    obtain ⟨cx3, hs, _⟩ := Ctx.freeze (α := DeltaD) cx.fst cx.phi.2
    have hst4 : Stable (fun M w => Φ M w ∧ Sl M w sp (a ++ b.map negD)) := inferInstance
    refine (Consolidate_sl (Φ := fun M w => Φ M w ∧ Sl M w sp (a ++ b.map negD)) sp sc (a ++ b.map negD) (fun M w h => h.2) (by simp; omega) (fun x hx => ?_)).use (cx3.add hs) fun p3 c3 w h1 h2 cx => ⟨p3, _, c3, rfl, R, fun M w => Φ M w ∧ Sl M w p3 (subP a b), inferInstance, cx.weak fun M w h => ⟨h.1.1, h.2⟩, fun w G cx => ⟨p3, c3, rfl, h1, h2, cx.left⟩⟩
    rcases List.mem_append.1 hx with hx | hx
    · exact hra x hx
    · obtain ⟨y, hy, rfl⟩ := List.mem_map.1 hx
      exact hrb y hy

theorem Sub_sl {Φ : PW} [Stable Φ] (p : Option Addr) (cap : Nat) (a : List DeltaD) (q : Option Addr) (cap2 : Nat) (b : List DeltaD) (hΦ : ∀ M w, Φ M w → Sl M w p a) (hΨ : ∀ M w, Φ M w → Sl M w q b)
    (ha : a.length ≤ 400000) (hb : b.length ≤ 400000) (hra : ∀ x ∈ a, x.row.length ≤ 1000000) (hrb : ∀ x ∈ b, x.row.length ≤ 1000000) : GivesSl Φ Tryd.prog F.delta_Sub #[.slice p a.length cap, .slice q b.length cap2] (subP a b) id :=
  .pinned hΨ fun g o cs hq => Sub_pin (Φ := fun M w => Φ M w ∧ Pin g o cs b M w) p cap a q cap2 b g o cs hq (fun M w h => hΦ M w h.1) (fun M w h => h.2) ha hb hra hrb

theorem Diff_sl {Φ : PW} [Stable Φ] (p : Option Addr) (cap : Nat) (a : List DeltaD) (q : Option Addr) (cap2 : Nat) (b : List DeltaD) (hΦ : ∀ M w, Φ M w → Sl M w p a) (hΨ : ∀ M w, Φ M w → Sl M w q b)
    (ha : a.length ≤ 400000) (hb : b.length ≤ 400000) (hra : ∀ x ∈ a, x.row.length ≤ 1000000) (hrb : ∀ x ∈ b, x.row.length ≤ 1000000) : GivesSl Φ Tryd.prog F.difference_Diff #[.slice p a.length cap, .slice q b.length cap2] (subP b a) id := by
  refine gives_sl (Bdifference_Diff_run p a.length cap q b.length cap2) fun W R => ?_
  exact fun w G cx => (Sub_sl q cap2 b p cap a hΨ hΦ hb ha hrb hra).use cx fun p3 c3 w h1 h2 cx => ⟨p3, _, c3, rfl, R, _, inferInstance, cx, fun w G cx => ⟨p3, c3, rfl, h1, h2, cx.left⟩⟩

end Go.Proofs.YtnapfhbibikbiaaDoor
end

/-
  What the bounds of layer 42 say, walked.
-/
section
set_option linter.unusedVariables false
set_option linter.unusedSimpArgs false
namespace Go.Proofs.YtnapfhbibikbiaaDoor
open Go.Vc


theorem Right42_pin {Φ : PW} [Stable Φ] (q : List ValD → Bool) (hq : ∀ (p : Option Addr) (cap : Nat) (l : List ValD), (∀ M w, Φ M w → Sl M w p l) → l.length ≤ 9223372036854775807 → GivesIn Φ Tryd.prog F.errataref03_RightRow #[.slice p l.length cap] (.bool (q l))) (p : Option Addr) (cap : Nat) (l : List DeltaD) (most : Int) (b o : Nat) (cs : List (List Value)) (hp : 0 < l.length → p = some ⟨b, o, none⟩) (hΦ : ∀ M w, Φ M w → Pin b o cs l M w) (hlen : l.length ≤ 9223372036854775807) :
    GivesIn Φ Tryd.prog F.errataref42_Right #[.slice p l.length cap, .int .i64 most] (.bool (decide ((l.length : Int) ≤ most) && l.all fun x => q x.row)) := by
  refine in_cells hΦ fun hcs => ?_
  refine gives_in (Berrataref42_Right_run p l.length cap most) fun W R => ?_
  refine exI_mk (fun n R' Φ' k => ∃ i : Nat, n = i ∧ i ≤ l.length ∧ R' = R ∧ Φ' = Φ ∧ k = l.length - i ∧ (l.all fun x => q x.row) = (l.drop i).all fun x => q x.row) ⟨⟨R, Φ, _, inferInstance, fun w F c => c, 0, rfl, Nat.zero_le _, rfl, rfl, rfl, rfl⟩, ?_⟩
  rintro n R1 Φ1 k _ ⟨i, rfl, hi, rfl, rfl, rfl, hs⟩
  refine fun w F cx => Br.intro (fun hlt => ?_) (fun hge => fun w F cx => ⟨?_, cx.left⟩)
  · simp only [Bool.and_eq_true, decide_eq_true_eq] at hlt
    have hlt : i < l.length := by omega
    obtain ⟨r, qc, he, g1, g2, _, _⟩ := hcs i hlt
    rw [List.drop_eq_getElem_cons hlt, List.all_cons] at hs
    refine ⟨by omega, ptrK_intro b o (hp (by omega)) fun w F cx => ⟨r, l[i].row.length, qc, ?_, fun w F cx => (hq r qc l[i].row (fun M w h => pin_row (hΦ M w h) hlt he) (len_max g1 g2)).use cx fun w cx => ⟨_, rfl, R1, Φ1, inferInstance, cx, Br.intro (fun h => fun w F cx => ⟨?_, cx.left⟩) (fun h => ⟨by unfold I64; omega, R1, Φ1, l.length - (i + 1), inferInstance, fun w F c => c, ⟨i + 1, rfl, hlt, rfl, rfl, rfl, ?_⟩, by omega⟩)⟩⟩⟩
    · rw [Int.toNat_natCast]
      have := pin_rowAt (hΦ _ _ cx.phi) hlt he 1 (by simp)
      simpa using this
    · rw [hs, show q l[i].row = false by simpa using h, Bool.false_and, Bool.and_false]
    · rw [hs, show q l[i].row = true by simpa using h, Bool.true_and]
  · simp only [Bool.and_eq_false_iff, decide_eq_false_iff_not] at hge
    by_cases hl : (l.length : Int) ≤ most
    · have hi : i = l.length := by omega
      rw [hs, hi, List.drop_length, decide_eq_true hl]
      rfl
    · rw [decide_eq_false hl, Bool.false_and]

theorem Right42_in {Φ : PW} [Stable Φ] (p : Option Addr) (cap : Nat) (l : List DeltaD) (most : Int) (hΦ : ∀ M w, Φ M w → Sl M w p l) (hlen : l.length ≤ 9223372036854775807) :
    GivesIn Φ Tryd.prog F.errataref42_Right #[.slice p l.length cap, .int .i64 most] (.bool (decide ((l.length : Int) ≤ most) && l.all fun x => rightR x.row)) :=
  .pinned hΦ fun b o cs hp => Right42_pin (Φ := fun M w => Φ M w ∧ Pin b o cs l M w) rightR (fun p cap l h hl => RightRow3_in p cap l h hl) p cap l most b o cs hp (fun _ _ h => h.2) hlen

end Go.Proofs.YtnapfhbibikbiaaDoor
end

/-
  Lines of a difference, walked.
-/
section
set_option linter.unusedVariables false
set_option linter.unusedSimpArgs false
namespace Go.Proofs.YtnapfhbibikbiaaDoor
open Go.Vc


structure LineD where
  no : Int
  batch : Int
  time : Int
  row : List ValD
  n : Int
  cause : Int
  why : Int
instance : Gv LineD := Gv.via (β := Int × Int × Int × List ValD × Int × Int × Int) (fun x => (x.no, x.batch, x.time, x.row, x.n, x.cause, x.why)) (fun y => ⟨y.1, y.2.1, y.2.2.1, y.2.2.2.1, y.2.2.2.2.1, y.2.2.2.2.2.1, y.2.2.2.2.2.2⟩) (fun _ => rfl)

abbrev LineD.cells (x : LineD) (p : Option Addr) (c : Nat) : List Value := [.int .i64 x.no, .int .i64 x.batch, .int .i64 x.time, .slice p x.row.length c, .int .i64 x.n, .int .i64 x.cause, .int .i64 x.why]
abbrev LineD.v (x : LineD) (p : Option Addr) (c : Nat) : Value := .agg #[.int .i64 x.no, .int .i64 x.batch, .int .i64 x.time, .slice p x.row.length c, .int .i64 x.n, .int .i64 x.cause, .int .i64 x.why]

structure LineD.In (x : LineD) : Prop where
  no : I64 x.no
  batch : I64 x.batch
  time : I64 x.time
  n : I64 x.n
  cause : I64 x.cause
  why : I64 x.why

theorem line_cells {M : List Nat} {w : World} {cs : List Value} {x : LineD} (h : Gv.rep M w cs x) : ∃ p c, cs = x.cells p c ∧ x.row.length ≤ c ∧ c ≤ maxLen ∧ x.In ∧ Sl M w p x.row := by
  obtain ⟨_, _, rfl, ⟨rfl, h1⟩, _, _, rfl, ⟨rfl, h2⟩, _, _, rfl, ⟨rfl, h3⟩, _, _, rfl, ⟨p, c, rfl, g1, g2, g3⟩, _, _, rfl, ⟨rfl, h4⟩, _, _, rfl, ⟨rfl, h5⟩, rfl, h6⟩ := h
  exact ⟨p, c, rfl, g1, g2, ⟨h1, h2, h3, h4, h5, h6⟩, g3⟩

theorem rep_line {M : List Nat} {w : World} {x : LineD} {p : Option Addr} {c : Nat} (h1 : x.row.length ≤ c) (h2 : c ≤ maxLen) (h : x.In) (h5 : Sl M w p x.row) : Gv.rep M w (x.cells p c) x :=
  ⟨[_], [_, _, _, _, _, _], rfl, ⟨rfl, h.no⟩, [_], [_, _, _, _, _], rfl, ⟨rfl, h.batch⟩, [_], [_, _, _, _], rfl, ⟨rfl, h.time⟩, [_], [_, _, _], rfl, ⟨p, c, rfl, h1, h2, h5⟩, [_], [_, _], rfl, ⟨rfl, h.n⟩, [_], [_], rfl, ⟨rfl, h.cause⟩, rfl, h.why⟩

theorem line_row {M : List Nat} {w : World} {x : LineD} {p : Option Addr} {c : Nat} (h : Gv.rep M w (x.cells p c) x) : Sl M w p x.row := by
  obtain ⟨p', c', e, _, _, _, h1⟩ := line_cells h
  simp only [LineD.cells, List.cons.injEq, Value.slice.injEq] at e
  rw [e.2.2.2.1.1]
  exact h1

theorem pin_line {M : List Nat} {w : World} {b o : Nat} {cs : List (List Value)} {l : List LineD} (h : Pin b o cs l M w) {j : Nat} (hj : j < l.length) : ∃ p c, cs.getD j [] = l[j].cells p c ∧ l[j].row.length ≤ c ∧ c ≤ maxLen ∧ l[j].In := by
  obtain ⟨_, h1, h2⟩ := h j hj
  obtain ⟨p, c, e, g1, g2, g3, _⟩ := line_cells h2
  exact ⟨p, c, e, g1, g2, g3⟩

theorem pinl_row {M : List Nat} {w : World} {b o : Nat} {cs : List (List Value)} {l : List LineD} (h : Pin b o cs l M w) {j : Nat} (hj : j < l.length) {p : Option Addr} {c : Nat} (e : cs.getD j [] = l[j].cells p c) : Sl M w p l[j].row := by
  have := (h j hj).2.2
  rw [e] at this
  exact line_row this

theorem pinl_rowAt {M : List Nat} {w : World} {b o : Nat} {cs : List (List Value)} {l : List LineD} (h : Pin b o cs l M w) {j : Nat} (hj : j < l.length) {p : Option Addr} {c : Nat} (e : cs.getD j [] = l[j].cells p c) : RowAt w b (o + j * 7) (l[j].cells p c) := by
  have := (h j hj).2.1
  rw [e] at this
  exact this

/-- the pinned cells, for good -/
theorem in_linesV {Φ : PW} {f : FuncId} {args : Array Value} {v : Value} {b o : Nat} {cs : List (List Value)} {l : List LineD} (hΦ : ∀ M w, Φ M w → Pin b o cs l M w)
    (h : (∀ j, (hj : j < l.length) → ∃ p c, cs.getD j [] = l[j].cells p c ∧ l[j].row.length ≤ c ∧ c ≤ maxLen ∧ l[j].In) → GivesIn Φ Tryd.prog f args v) : GivesIn Φ Tryd.prog f args v :=
  ⟨fun W w S c => (h fun j hj => pin_line (hΦ _ _ c.phi) hj).go W w S c⟩

/-! ### Lines -/
def lineP (no batch mark replace : Int) (i : Nat) (x : DeltaD) : LineD :=
  ⟨w64 (no + i), batch, x.time, x.row, x.n, if 0 < replace then 2 else if mark < x.time then 0 else 1, if 0 < replace then replace else 0⟩
def linesC (no batch mark replace : Int) (c : List DeltaD) : List LineD := c.mapIdx (lineP no batch mark replace)
def linesP (no batch mark replace : Int) (d : List DeltaD) : List LineD := linesC no batch mark replace (consP d)

theorem linesC_len (no batch mark replace : Int) (c : List DeltaD) : (linesC no batch mark replace c).length = c.length := by unfold linesC; simp
theorem linesC_at (no batch mark replace : Int) (c : List DeltaD) {i : Nat} (h : i < c.length) : (linesC no batch mark replace c)[i]'(by rw [linesC_len]; exact h) = lineP no batch mark replace i c[i] := by
  unfold linesC; simp
theorem linesC_take (no batch mark replace : Int) (c : List DeltaD) {i : Nat} (h : i < c.length) : (linesC no batch mark replace c).take (i + 1) = (linesC no batch mark replace c).take i ++ [lineP no batch mark replace i c[i]] := by
  rw [List.take_succ_eq_append_getElem (by rw [linesC_len]; exact h), linesC_at no batch mark replace c h]

set_option maxHeartbeats 1000000 in
theorem Lines_sl {Φ : PW} [Stable Φ] (p : Option Addr) (cap : Nat) (d : List DeltaD) (no batch mark replace : Int) (hΦ : ∀ M w, Φ M w → Sl M w p d) (hb : I64 batch) (hr : I64 replace)
    (hlen : d.length ≤ 1000000) (hrow : ∀ x ∈ d, x.row.length ≤ 1000000) : GivesSl Φ Tryd.prog F.difference_Lines #[.slice p d.length cap, .int .i64 no, .int .i64 batch, .int .i64 mark, .int .i64 replace] (linesP no batch mark replace d) id := by
  refine gives_sl (Bdifference_Lines_run p d.length cap no batch mark replace) fun W R => ?_
  refine fun w G cx => (Consolidate_sl p cap d hΦ hlen hrow).use cx fun q c2 w h1 h2 cx => ?_
  have hcl : (consP d).length ≤ 1000000 := Nat.le_trans (consP_len d) hlen
  unfold linesP
  generalize consP d = c at h1 cx hcl ⊢
  obtain ⟨g, o, cs, hq, cx⟩ := cx.pin cx.phi.2
  have hst0 : Stable (fun M w => (Φ M w ∧ Sl M w q c) ∧ Pin g o cs c M w) := inferInstance
  have hcs : ∀ j, (hj : j < c.length) → ∃ p k, cs.getD j [] = c[j].cells p k ∧ c[j].row.length ≤ k ∧ k ≤ maxLen ∧ I64 c[j].time ∧ I64 c[j].n := fun j hj => by
    obtain ⟨p, k, h1, h2, h3, h4, h5, _⟩ := pin_delta cx.phi.2 hj
    exact ⟨p, k, h1, h2, h3, h4, h5⟩
  refine ⟨q, _, c2, rfl, R, fun M w => Φ M w ∧ Pin g o cs c M w, inferInstance, cx.weak fun M w h => ⟨h.1.1, h.2⟩, ?_⟩
  clear cx hst0
  refine exI_mk (fun sp sn sc iI R' Φ' k => ∃ (i : Nat) (ds : List Value), iI = i ∧ i ≤ c.length ∧ i = sn ∧ R' = .buf sp sn sc ds 56 7 :: R ∧ Φ' = (fun M w => (Φ M w ∧ Pin g o cs c M w) ∧ Elems M w ds ((linesC no batch mark replace c).take i)) ∧ k = c.length - i)
    ⟨⟨.buf none 0 0 [] 56 7 :: R, fun M w => (Φ M w ∧ Pin g o cs c M w) ∧ Elems M w [] ((linesC no batch mark replace c).take 0), _, inferInstance, fun w G cx => (cx.weak fun M w h => ⟨h, Elems.nil⟩).nobuf 56 7, 0, [], rfl, Nat.zero_le _, rfl, rfl, rfl, rfl⟩, ?_⟩
  rintro sp _ sc iI R1 Φ1 k _ ⟨i, ds, rfl, hi, rfl, rfl, rfl, rfl⟩
  refine Br.intro (fun hlt => ?_) (fun hge => fun w G cx => ?_)
  · have hlt := of_decide_eq_true hlt
    have hlt : i < c.length := by omega
    obtain ⟨r, rc, he, g1, g2, g3, g4⟩ := hcs i hlt
    refine ⟨by omega, ptrK_intro g o (hq (by omega)) fun w G cx => ⟨c[i].time, r, c[i].row.length, rc, c[i].n, by rw [Int.toNat_natCast]; exact pin_rowAt cx.phi.1.2 hlt he, fun _ _ => Br.intro (fun h => ?_) (fun h => Br.intro (fun h3 => ?_) (fun h3 => ?_))⟩⟩
    case' refine_1 => obtain ⟨x, hx, hxc⟩ : ∃ x : LineD, lineP no batch mark replace i c[i] = x ∧ x = ⟨w64 (no + i), batch, c[i].time, c[i].row, c[i].n, 2, replace⟩ := ⟨_, rfl, by unfold lineP; rw [if_pos (of_decide_eq_true h), if_pos (of_decide_eq_true h)]⟩
    case' refine_2 => obtain ⟨x, hx, hxc⟩ : ∃ x : LineD, lineP no batch mark replace i c[i] = x ∧ x = ⟨w64 (no + i), batch, c[i].time, c[i].row, c[i].n, 0, 0⟩ := ⟨_, rfl, by unfold lineP; rw [if_neg (of_decide_eq_false h), if_neg (of_decide_eq_false h), if_pos (of_decide_eq_true h3)]⟩
    case' refine_3 => obtain ⟨x, hx, hxc⟩ : ∃ x : LineD, lineP no batch mark replace i c[i] = x ∧ x = ⟨w64 (no + i), batch, c[i].time, c[i].row, c[i].n, 1, 0⟩ := ⟨_, rfl, by unfold lineP; rw [if_neg (of_decide_eq_false h), if_neg (of_decide_eq_false h), if_neg (of_decide_eq_false h3)]⟩
    all_goals
      intro k w G cx
      have hin : x.In := by subst hxc; exact ⟨w64_in _, hb, g3, g4, by unfold I64; dsimp only; omega, by first | exact hr | (unfold I64; dsimp only; omega)⟩
      have hxr : x.row = c[i].row := by rw [hxc]
      obtain ⟨p', cap', w', hrun, _, cx'⟩ := Ctx.app1 (P := Tryd.prog) (ts := 23) (ty := 23) (kb := #[false, false]) (size := 7) (bytes := 72) cx (by kernel_rfl) (by omega) rfl rfl (by omega) (by omega)
      have hst3 : Stable (fun M w => (Φ M w ∧ Pin g o cs c M w) ∧ Elems M w (ds ++ x.cells r rc) ((linesC no batch mark replace c).take (i + 1))) := inferInstance
      refine ⟨p', i + 1, cap', w', hrun, .buf p' (i + 1) cap' (ds ++ x.cells r rc) 56 7 :: R, _, hst3, ?_, by unfold I64; omega, _, _, c.length - (i + 1), hst3, fun w G cx => cx, ⟨i + 1, _, by omega, hlt, rfl, rfl, rfl, rfl⟩, by omega⟩
      subst hxc
      refine cx'.weak fun M w h => ⟨h.1, ?_⟩
      rw [linesC_take no batch mark replace c hlt, hx]
      exact h.2.snoc (rep_line (by rw [hxr]; exact g1) g2 hin (by rw [hxr]; exact pin_row h.1.2 hlt he))
  · have hge := of_decide_eq_false hge
    have hi : i = c.length := by omega
    subst hi
    have hall : (linesC no batch mark replace c).take c.length = linesC no batch mark replace c := List.take_of_length_le (by rw [linesC_len]; exact Nat.le_refl _)
    rw [hall] at cx
    obtain ⟨_, f1, f2⟩ := cx.left.bufLen 0 rfl
    obtain ⟨cx3, hs, _⟩ := Ctx.freeze (α := LineD) cx.left.fst cx.left.phi.2
    exact ⟨sp, sc, by rw [linesC_len]; rfl, by rw [linesC_len]; exact f1, f2, (cx3.add hs).weak fun M w h => ⟨h.1.1, h.2⟩⟩

/-! ### Net -/
def LineD.d (x : LineD) : DeltaD := ⟨x.time, x.row, x.n⟩
def netP (l : List LineD) : List DeltaD := consP (l.map LineD.d)

set_option maxHeartbeats 1000000 in
theorem Net_pin {Φ : PW} [Stable Φ] (q : Option Addr) (cap : Nat) (l : List LineD) (g o : Nat) (cs : List (List Value)) (hq : 0 < l.length → q = some ⟨g, o, none⟩) (hΨ : ∀ M w, Φ M w → Pin g o cs l M w)
    (hlen : l.length ≤ 400000) (hrow : ∀ x ∈ l, x.row.length ≤ 1000000) : GivesSl Φ Tryd.prog F.difference_Net #[.slice q l.length cap] (netP l) id := by
  refine ⟨fun W0 w0 S0 c0 => ?_⟩
  have hcs : ∀ j, (hj : j < l.length) → ∃ p c, cs.getD j [] = l[j].cells p c ∧ l[j].row.length ≤ c ∧ c ≤ maxLen ∧ l[j].In := fun j hj => pin_line (hΨ _ _ c0.phi) hj
  refine GivesSl.go (gives_sl (Bdifference_Net_run q l.length cap) fun W R => ?_) W0 w0 S0 c0
  clear c0
  refine exI_mk (fun sp sn sc iI R' Φ' k => ∃ (i : Nat) (ds : List Value), iI = i ∧ i ≤ l.length ∧ sn = ((l.take i).map LineD.d).length ∧ R' = .buf sp sn sc ds 39 3 :: R ∧ Φ' = (fun M w => Φ M w ∧ Elems M w ds ((l.take i).map LineD.d)) ∧ k = l.length - i)
    ⟨⟨.buf none 0 0 [] 39 3 :: R, fun M w => Φ M w ∧ Elems M w [] ((l.take 0).map LineD.d), _, inferInstance, fun w G cx => (cx.weak fun M w h => ⟨h, Elems.nil⟩).nobuf 39 3, 0, [], rfl, Nat.zero_le _, rfl, rfl, rfl, rfl⟩, ?_⟩
  rintro sp _ sc iI R1 Φ1 k _ ⟨i, ds, rfl, hi, rfl, rfl, rfl, rfl⟩
  have hln : ((l.take i).map LineD.d).length = i := by simp; omega
  have hst : Stable (fun M w => Φ M w ∧ Elems M w ds ((l.take i).map LineD.d)) := inferInstance
  refine Br.intro (fun hlt => ?_) (fun hge => fun w G cx => ?_)
  · have hlt := of_decide_eq_true hlt
    have hlt : i < l.length := by omega
    obtain ⟨r, rc, he, h1, h2, h3⟩ := hcs i hlt
    refine ⟨by omega, ptrK_intro g o (hq (by omega)) fun w G cx => ⟨l[i].no, l[i].batch, l[i].time, r, l[i].row.length, rc, l[i].n, l[i].cause, l[i].why, by rw [Int.toNat_natCast]; exact pinl_rowAt (hΨ _ _ cx.phi.1) hlt he, fun _ k w G cx => ?_⟩⟩
    obtain ⟨p', cap', w', hrun, _, cx'⟩ := Ctx.app1 (P := Tryd.prog) (ts := 22) (ty := 22) (kb := #[false, false]) (size := 3) (bytes := 40) cx (by kernel_rfl) (by omega) rfl rfl (by omega) (by omega)
    have htk : (l.take (i + 1)).map LineD.d = (l.take i).map LineD.d ++ [l[i].d] := by rw [List.take_succ_eq_append_getElem hlt, List.map_append]; rfl
    have hln2 : ((l.take i).map LineD.d).length + 1 = ((l.take (i + 1)).map LineD.d).length := by rw [htk, List.length_append (bs := [l[i].d])]; rfl
    rw [hln2] at cx' hrun
    have hst3 : Stable (fun M w => Φ M w ∧ Elems M w (ds ++ l[i].d.cells r rc) ((l.take (i + 1)).map LineD.d)) := inferInstance
    refine ⟨p', _, cap', w', hrun, .buf p' ((l.take (i + 1)).map LineD.d).length cap' (ds ++ l[i].d.cells r rc) 39 3 :: R, _, hst3, cx'.weak fun M w h => ⟨h.1, ?_⟩, by unfold I64; omega, _, _, l.length - (i + 1), hst3, fun w G cx => cx, ⟨i + 1, _, by omega, hlt, rfl, rfl, rfl, rfl⟩, by omega⟩
    rw [htk]
    exact h.2.snoc (rep_delta (x := l[i].d) h1 h2 h3.time h3.n (show Sl M w r l[i].row from pinl_row (hΨ M w h.1) hlt he))
  · have hge := of_decide_eq_false hge
    have hi : i = l.length := by omega
    subst hi
    rw [List.take_length] at cx ⊢
    obtain ⟨cx3, hs, _⟩ := Ctx.freeze (α := DeltaD) cx.fst cx.phi.2
    have hst4 : Stable (fun M w => Φ M w ∧ Sl M w sp (l.map LineD.d)) := inferInstance
    refine (Consolidate_sl (Φ := fun M w => Φ M w ∧ Sl M w sp (l.map LineD.d)) sp sc (l.map LineD.d) (fun M w h => h.2) (by simp; omega) (fun x hx => ?_)).use (cx3.add hs) fun p3 c3 w h1 h2 cx => ⟨p3, _, c3, rfl, R, fun M w => Φ M w ∧ Sl M w p3 (netP l), inferInstance, cx.weak fun M w h => ⟨h.1.1, h.2⟩, fun w G cx => ⟨p3, c3, rfl, h1, h2, cx.left⟩⟩
    obtain ⟨y, hy, rfl⟩ := List.mem_map.1 hx
    exact hrow y hy

theorem Net_sl {Φ : PW} [Stable Φ] (q : Option Addr) (cap : Nat) (l : List LineD) (hΨ : ∀ M w, Φ M w → Sl M w q l)
    (hlen : l.length ≤ 400000) (hrow : ∀ x ∈ l, x.row.length ≤ 1000000) : GivesSl Φ Tryd.prog F.difference_Net #[.slice q l.length cap] (netP l) id :=
  .pinned hΨ fun g o cs hq => Net_pin (Φ := fun M w => Φ M w ∧ Pin g o cs l M w) q cap l g o cs hq (fun M w h => h.2) hlen hrow

/-! ### Least -/
def causeP (x y : LineD) : Bool := decide (x.cause = y.cause) || decide (x.cause = 1) && decide (y.cause = 0) && decide (x.time < y.time)
def followsP (x y : LineD) : Bool :=
  if y.no ≠ w64 (x.no + 1) then false else if y.batch ≠ x.batch then false else if y.why ≠ x.why then false else if y.time < x.time then false
  else if y.time = x.time then (if 0 ≤ cmpR x.row y.row then false else causeP x y) else causeP x y

theorem follows_in {Φ : PW} [Stable Φ] (x y : LineD) (p q : Option Addr) (c c2 : Nat) (hΦ : ∀ M w, Φ M w → Sl M w p x.row) (hΨ : ∀ M w, Φ M w → Sl M w q y.row) (hlen : x.row.length ≤ 9223372036854775807) :
    GivesIn Φ Tryd.prog F.difference_follows #[x.v p c, y.v q c2] (.bool (followsP x y)) := by
  refine gives_in (Bdifference_follows_run x.no x.batch x.time p x.row.length c x.n x.cause x.why y.no y.batch y.time q y.row.length c2 y.n y.cause y.why) fun W R => ?_
  unfold followsP
  refine fun _ _ => Br.intro (fun h => fun w G cx => ⟨by rw [if_pos (of_decide_eq_true h)], cx.left⟩) (fun h => ?_)
  rw [if_neg (of_decide_eq_false h)]
  refine Br.intro (fun h => fun w G cx => ⟨by rw [if_pos (of_decide_eq_true h)], cx.left⟩) (fun h => ?_)
  rw [if_neg (of_decide_eq_false h)]
  refine Br.intro (fun h => fun w G cx => ⟨by rw [if_pos (of_decide_eq_true h)], cx.left⟩) (fun h => ?_)
  rw [if_neg (of_decide_eq_false h)]
  refine Br.intro (fun h => fun w G cx => ⟨by rw [if_pos (of_decide_eq_true h)], cx.left⟩) (fun h => ?_)
  rw [if_neg (of_decide_eq_false h)]
  refine Br.intro (fun h => fun w G cx => ?_) (fun h => fun w G cx w G cx => ⟨by rw [if_neg (of_decide_eq_false h)]; rfl, cx.left⟩)
  rw [if_pos (of_decide_eq_true h)]
  exact (CompareRows_in p q c c2 x.row y.row hΦ hΨ hlen).use cx fun w cx => ⟨_, rfl, R, Φ, inferInstance, cx, Br.intro (fun h => fun w G cx => ⟨by rw [if_pos (of_decide_eq_true h)], cx.left⟩) (fun h => fun w G cx w G cx => ⟨by rw [if_neg (of_decide_eq_false h)]; rfl, cx.left⟩)⟩

def okL (x : LineD) : Bool := !decide (x.n = 0) && ((decide (x.cause = 2) && decide (0 < x.why)) || ((decide (x.cause = 0) || decide (x.cause = 1)) && decide (x.why = 0)))
def okAt (l : List LineD) (i : Nat) : Bool :=
  match l[i]? with
  | none => true
  | some x => okL x && (match i with
    | 0 => true
    | j + 1 => match l[j]? with
      | none => true
      | some y => followsP y x)
def leastP (l : List LineD) : Bool := (List.range l.length).all (okAt l)

theorem okAt_zero {l : List LineD} (h : 0 < l.length) : okAt l 0 = okL l[0] := by
  unfold okAt; rw [List.getElem?_eq_getElem h]; simp
theorem okAt_succ {l : List LineD} {j : Nat} (h : j + 1 < l.length) : okAt l (j + 1) = (okL l[j + 1] && followsP l[j] l[j + 1]) := by
  unfold okAt
  rw [List.getElem?_eq_getElem h]
  simp only [List.getElem?_eq_getElem (show j < l.length by omega)]
theorem okAt_bad {l : List LineD} {i : Nat} (h : i < l.length) (hx : okL l[i] = false) : okAt l i = false := by
  cases i with
  | zero => rw [okAt_zero h, hx]
  | succ j => rw [okAt_succ h, hx, Bool.false_and]
theorem least_bad {l : List LineD} {i : Nat} (h : i < l.length) (hx : okAt l i = false) : leastP l = false := by
  unfold leastP
  cases e : (List.range l.length).all (okAt l) with
  | false => rfl
  | true =>
    rw [List.all_eq_true] at e
    rw [e i (List.mem_range.2 h)] at hx
    cases hx
theorem range_all {f : Nat → Bool} {i : Nat} (h : (List.range i).all f = true) (hi : f i = true) : (List.range (i + 1)).all f = true := by
  rw [List.range_succ, List.all_append, h]
  simp [hi]

end Go.Proofs.YtnapfhbibikbiaaDoor
end

/-
  Least, at, small, walked.
-/
section
set_option linter.unusedVariables false
set_option linter.unusedSimpArgs false
namespace Go.Proofs.YtnapfhbibikbiaaDoor
open Go.Vc


theorem okL_zero {x : LineD} (h : x.n = 0) : okL x = false := by unfold okL; rw [decide_eq_true h]; rfl

set_option maxHeartbeats 1000000 in
theorem Least_pin {Φ : PW} [Stable Φ] (q : Option Addr) (cap : Nat) (l : List LineD) (g o : Nat) (cs : List (List Value)) (hq : 0 < l.length → q = some ⟨g, o, none⟩) (hΨ : ∀ M w, Φ M w → Pin g o cs l M w) (hlen : l.length ≤ 1000000) :
    GivesIn Φ Tryd.prog F.difference_Least #[.slice q l.length cap] (.bool (leastP l)) := by
  refine in_linesV hΨ fun hcs => ?_
  refine gives_in (Bdifference_Least_run q l.length cap) fun W R => ?_
  refine exI_mk (fun iI R' Φ' k => ∃ i : Nat, iI = i ∧ i ≤ l.length ∧ R' = R ∧ Φ' = Φ ∧ k = l.length - i ∧ (List.range i).all (okAt l) = true)
    ⟨⟨R, Φ, _, inferInstance, fun w G cx => cx, 0, rfl, Nat.zero_le _, rfl, rfl, rfl, rfl⟩, ?_⟩
  rintro iI R1 Φ1 k _ ⟨i, rfl, hi, rfl, rfl, rfl, hs⟩
  refine Br.intro (fun hlt => ?_) (fun hge => fun w G cx => ?_)
  · have hlt := of_decide_eq_true hlt
    have hlt : i < l.length := by omega
    obtain ⟨r, rc, he, h1, h2, h3⟩ := hcs i hlt
    refine ⟨by omega, ptrK_intro g o (hq (by omega)) fun w G cx => ⟨l[i].no, l[i].batch, l[i].time, r, l[i].row.length, rc, l[i].n, l[i].cause, l[i].why, by rw [Int.toNat_natCast]; exact pinl_rowAt (hΨ _ _ cx.phi) hlt he, fun _ w G cx w G cx => ⟨R1, Φ1, inferInstance, fun w G cx => cx, ?_⟩⟩⟩
    clear cx
    refine Br.intro (fun h0 => fun w G cx => ⟨?_, cx.left⟩) (fun h0 => Br.intro (fun hr => Br.intro (fun ho => fun w G cx => ⟨?_, cx.left⟩) (fun ho => ?_)) (fun hr => ?_))
    · rw [least_bad hlt (okAt_bad hlt (okL_zero (of_decide_eq_true h0)))]
    · refine congrArg Value.bool ?_
      rw [least_bad hlt (okAt_bad hlt ?_)]
      unfold okL
      rw [show (decide (l[i].cause = 2) && decide (0 < l[i].why)) = false by simpa only [Bool.not_eq_true'] using hr, show ((decide (l[i].cause = 0) || decide (l[i].cause = 1)) && decide (l[i].why = 0)) = false by simpa only [Bool.not_eq_true'] using ho, Bool.or_false, Bool.and_false]
    case' refine_1.refine_3 =>
      have hok : okL l[i] = true := by
        unfold okL
        rw [h0, show ((decide (l[i].cause = 0) || decide (l[i].cause = 1)) && decide (l[i].why = 0)) = true by simpa only [Bool.not_eq_false'] using ho, Bool.or_true]; rfl
    case' refine_1.refine_4 =>
      have hok : okL l[i] = true := by
        unfold okL
        rw [h0, show (decide (l[i].cause = 2) && decide (0 < l[i].why)) = true by simpa only [Bool.not_eq_false'] using hr, Bool.true_or]; rfl
    all_goals
      refine Br.intro (fun hpos => ?_) (fun hpos => ⟨by unfold I64; omega, _, _, l.length - (i + 1), inferInstance, fun w G cx => cx, ⟨i + 1, by omega, hlt, rfl, rfl, rfl, range_all hs ?_⟩, by omega⟩)
      · have hpos := of_decide_eq_true hpos
        obtain ⟨j, rfl⟩ : ∃ j, i = j + 1 := ⟨i - 1, by omega⟩
        have hj : j < l.length := by omega
        have hji : (((j + 1 : Nat) : Int) - 1).toNat = j := by omega
        obtain ⟨r2, rc2, he2, f1, f2, f3⟩ := hcs j hj
        have hcall := follows_in (Φ := Φ1) l[j] l[j + 1] r2 r rc2 rc (fun M w h => pinl_row (hΨ M w h) hj he2) (fun M w h => pinl_row (hΨ M w h) hlt he) (len_max f1 f2)
        refine ⟨by unfold I64; omega, by omega, ptrK_intro g o (hq (by omega)) ⟨l[j].no, l[j].batch, l[j].time, r2, l[j].row.length, rc2, l[j].n, l[j].cause, l[j].why, fun w G cx => ⟨_, _, _, _, _, _, _, _, _, by rw [hji]; exact pinl_rowAt (hΨ _ _ cx.phi) hj he2, rfl⟩, fun w G cx => hcall.use cx fun w cx => ⟨_, rfl, R1, Φ1, inferInstance, cx, Br.intro (fun hf => fun w G cx => ⟨?_, cx.left⟩) (fun hf => ⟨by unfold I64; omega, _, _, l.length - (j + 2), inferInstance, fun w G cx => cx, ⟨j + 2, by omega, hlt, rfl, rfl, rfl, range_all hs ?_⟩, by omega⟩)⟩⟩⟩
        · refine congrArg Value.bool (least_bad hlt ?_).symm
          rw [okAt_succ hlt, show followsP l[j] l[j + 1] = false by simpa using hf, Bool.and_false]
        · rw [okAt_succ hlt, hok, show followsP l[j] l[j + 1] = true by simpa using hf]; rfl
      · have hpos := of_decide_eq_false hpos
        have hi0 : i = 0 := by omega
        subst hi0
        rw [okAt_zero hlt, hok]
  · have hge := of_decide_eq_false hge
    have hi : i = l.length := by omega
    rw [hi] at hs
    exact ⟨congrArg Value.bool hs.symm, cx.left⟩

theorem Least_in {Φ : PW} [Stable Φ] (q : Option Addr) (cap : Nat) (l : List LineD) (hΨ : ∀ M w, Φ M w → Sl M w q l) (hlen : l.length ≤ 1000000) :
    GivesIn Φ Tryd.prog F.difference_Least #[.slice q l.length cap] (.bool (leastP l)) :=
  .pinned hΨ fun g o cs hq => Least_pin (Φ := fun M w => Φ M w ∧ Pin g o cs l M w) q cap l g o cs hq (fun M w h => h.2) hlen

/-! ### the examples -/
abbrev valI (n : Int) : ValD := ⟨0, n, ByteArray.mk #[]⟩
abbrev atP (t n : Int) : DeltaD := ⟨t, [valI n], 1⟩

theorem at_use {W w : World} {S : List Own} {Φ : PW} [Stable Φ] (t n : Int) (hn : I64 n) (cx : Ctx W w S Φ) {K : Ending → World → Prop}
    (hK : ∀ k w', Ctx W w' S (fun M w => Φ M w ∧ Sl M w (some ⟨k, 0, none⟩) [valI n]) → K (.returned (.agg #[.int .i64 t, .slice (some ⟨k, 0, none⟩) 1 1, .int .i64 1])) w') : Calls Tryd.prog F.erratalaw42_at #[.int .i64 t, .int .i64 n] w K := by
  refine (Berratalaw42_at_run t n (J := fun u w' => K (.returned u) w') cx ?_).mono fun e w' ⟨v, he, hj⟩ => by rw [he]; exact hj
  intro _ k w G cx
  have hel : Gv.rep (dom (Own.blk k [.int .i64 0, .int .i64 n, .string (ByteArray.mk #[])] 65 :: (S ++ G))) w [.int .i64 0, .int .i64 n, .string (ByteArray.mk #[])] (valI n) :=
    ⟨[.int .i64 0], _, rfl, ⟨rfl, by unfold I64; dsimp only; omega⟩, [.int .i64 n], [.string (ByteArray.mk #[])], rfl, ⟨rfl, hn⟩, rfl, Nat.zero_le _⟩
  obtain ⟨cx3, hs⟩ := cx.freezeBlk (α := ValD) (l := [valI n]) (Elems.one hel)
  exact hK k w (cx3.add hs).left

end Go.Proofs.YtnapfhbibikbiaaDoor
end

