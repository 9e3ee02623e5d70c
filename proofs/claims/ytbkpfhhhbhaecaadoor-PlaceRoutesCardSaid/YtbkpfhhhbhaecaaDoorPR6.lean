/-
  The sort's steps over deltas: swapRange, rotate.
-/
import Derived.Test.YtbkpfhhhbhaecaaDoorPR4
import Derived.Test.YtbkpfhhhbhaecaaDoorPR5
import Derived.Test.YtbkpfhhhbhaecaaDoorPR1
import Derived.Lib.Strings
import Derived.Lib.Walk
import Derived.Shelf.Strings.Builder1
import Derived.Shelf.Strconv.Itoa3
import Derived.Lib.AppendStr
import Derived.Lib.LaidTab
import Derived.LaidMore
import Derived.OpenShut
import Derived.Stop.Joined

section
set_option linter.unusedVariables false
set_option linter.unusedSimpArgs false
namespace Go.Proofs.YtbkpfhhhbhaecaaDoor
open Go.Vc


abbrev bufE (p : Option Addr) (cap : Nat) (es : List DE) : Own := .buf p es.length cap (cellsE es) 77 3

theorem e_ptr {W w : World} {S : List Own} {Φ : PW} {p : Option Addr} {cap : Nat} {es : List DE} (cx : Ctx W w (bufE p cap es :: S) Φ) (h : 0 < es.length) : ∃ g, p = some ⟨g, 0, none⟩ := by
  obtain ⟨g, hg, _⟩ := cx.bufCell 0 rfl (by rw [cellsE_len]; omega)
  exact ⟨g, hg⟩

theorem e_row {W w : World} {S : List Own} {Φ : PW} {g cap : Nat} {es : List DE} (cx : Ctx W w (bufE (some ⟨g, 0, none⟩) cap es :: S) Φ) {i : Nat} {X : DE} (hX : es[i]? = some X) : RowAt w g (i * 3) X.cells := by
  obtain ⟨hi, rfl⟩ := List.getElem?_eq_some_iff.1 hX
  exact cx.bufRow 0 rfl rfl (rows_of (cellsE_at hi))

theorem e_can {W w : World} {S : List Own} {Φ : PW} {g cap : Nat} {es : List DE} (cx : Ctx W w (bufE (some ⟨g, 0, none⟩) cap es :: S) Φ) {i : Nat} (hi : i < es.length) : CanWrite w g (i * 3) 3 :=
  cx.bufCan 0 rfl rfl (by rw [cellsE_len]; omega)

theorem e_put {W w w' : World} {S : List Own} {Φ : PW} [Stable Φ] {g cap : Nat} {es : List DE} (cx : Ctx W w (bufE (some ⟨g, 0, none⟩) cap es :: S) Φ) {i : Nat} (hi : i < es.length) (x : DE) (e : w' = w.setCells g (i * 3) x.cells) :
    Ctx W w' (bufE (some ⟨g, 0, none⟩) cap (es.set i x) :: S) Φ := by
  have h := cx.bufPuts 0 rfl rfl (by rw [cellsE_len]; omega) (by rw [cellsE_len]; simp only [List.length_cons, List.length_nil]; omega) e
  rw [cellsE_set hi] at h
  have hl : (es.set i x).length = es.length := by simp
  unfold bufE
  rw [hl]
  exact h

/-! ### swapRange -/
theorem swap_mid (u x v y z : List DE) (i : Nat) (hx : i < x.length) (hy : i < y.length) (hxy : x.length = y.length) :
    swp (u ++ (y.take i ++ x.drop i) ++ v ++ (x.take i ++ y.drop i) ++ z) (u.length + i) (u.length + x.length + v.length + i) = u ++ (y.take (i + 1) ++ x.drop (i + 1)) ++ v ++ (x.take (i + 1) ++ y.drop (i + 1)) ++ z := by
  have h := swp_far (u ++ y.take i) x[i] (x.drop (i + 1) ++ v ++ x.take i) y[i] (y.drop (i + 1) ++ z)
  have e1 : u ++ (y.take i ++ x.drop i) ++ v ++ (x.take i ++ y.drop i) ++ z = (u ++ y.take i) ++ x[i] :: ((x.drop (i + 1) ++ v ++ x.take i) ++ y[i] :: (y.drop (i + 1) ++ z)) := by
    rw [List.drop_eq_getElem_cons hx, List.drop_eq_getElem_cons hy]
    simp only [List.append_assoc, List.cons_append]
  have e2 : u ++ (y.take (i + 1) ++ x.drop (i + 1)) ++ v ++ (x.take (i + 1) ++ y.drop (i + 1)) ++ z = (u ++ y.take i) ++ y[i] :: ((x.drop (i + 1) ++ v ++ x.take i) ++ x[i] :: (y.drop (i + 1) ++ z)) := by
    rw [List.take_succ_eq_append_getElem hx, List.take_succ_eq_append_getElem hy]
    simp only [List.append_assoc, List.cons_append, List.nil_append]
  have e3 : (u ++ y.take i).length = u.length + i := by simp; omega
  have e4 : (u ++ y.take i).length + 1 + (x.drop (i + 1) ++ v ++ x.take i).length = u.length + x.length + v.length + i := by simp; omega
  rw [e4, e3] at h
  rw [e1, e2]
  exact h

/-- two elements are read and written in turn -/
theorem e_swap {W w : World} {S : List Own} {Φ : PW} [Stable Φ] {g cap : Nat} {es : List DE} {i j : Nat} {X Y : DE} (hX : es[i]? = some X) (hY : es[j]? = some Y) {w1 : World} (cx : Ctx W w (bufE (some ⟨g, 0, none⟩) cap es :: S) Φ) (e : w1 = w.setCells g (i * 3) Y.cells) :
    Ctx W w1 (bufE (some ⟨g, 0, none⟩) cap (es.set i Y) :: S) Φ := by
  obtain ⟨hi, rfl⟩ := List.getElem?_eq_some_iff.1 hX
  exact e_put cx hi _ e
theorem e_swap2 {W w2 w3 : World} {S : List Own} {Φ : PW} [Stable Φ] {g cap : Nat} {es : List DE} {i j : Nat} {X Y : DE} (hX : es[i]? = some X) (hY : es[j]? = some Y) (cx : Ctx W w2 (bufE (some ⟨g, 0, none⟩) cap (es.set i Y) :: S) Φ) (e : w3 = w2.setCells g (j * 3) X.cells) :
    Ctx W w3 (bufE (some ⟨g, 0, none⟩) cap (swp es i j) :: S) Φ := by
  obtain ⟨hi, rfl⟩ := List.getElem?_eq_some_iff.1 hX
  obtain ⟨hj, rfl⟩ := List.getElem?_eq_some_iff.1 hY
  rw [swp_eq hi hj]
  exact e_put cx (by simpa using hj) _ e

set_option maxHeartbeats 1000000 in
theorem swapRange_use {W w : World} {S : List Own} {Φ : PW} [Stable Φ] {p : Option Addr} {cap N : Nat} {f : FuncId} {cp : Array Value} (u x v y z : List DE) (hxy : x.length = y.length) (cx : Ctx W w (bufE p cap (u ++ x ++ v ++ y ++ z) :: S) Φ) (hN : N = (u ++ x ++ v ++ y ++ z).length)
    (hlen : (u ++ x ++ v ++ y ++ z).length ≤ 100000000) {a b n : Int} (ha : a = u.length) (hb : b = u.length + x.length + v.length) (hn : n = x.length) {K : Ending → World → Prop}
    (hK : ∀ w', Ctx W w' (bufE p cap (u ++ y ++ v ++ x ++ z) :: S) Φ → K (.returned (.tuple #[])) w') : Calls Tryd.prog F.slices_swapRangeCmpFunc_api_Delta #[.slice p N cap, .int .i64 a, .int .i64 b, .int .i64 n, .func (.func f) #[] cp] w K := by
  subst hN ha hb hn
  have hl : (u ++ x ++ v ++ y ++ z).length = u.length + x.length + v.length + x.length + z.length := by simp; omega
  refine (Bslices_swapRangeCmpFunc_api_Delta_run p (u ++ x ++ v ++ y ++ z).length cap u.length ((u.length : Int) + x.length + v.length) x.length f cp (J := fun u w' => K (.returned u) w') cx ?_).mono fun e w' ⟨v, he, hj⟩ => by rw [he]; exact hj
  obtain ⟨E, hE⟩ : ∃ E : Nat → List DE, ∀ i, E i = u ++ (y.take i ++ x.drop i) ++ v ++ (x.take i ++ y.drop i) ++ z := ⟨_, fun _ => rfl⟩
  have hEl : ∀ i, i ≤ x.length → (E i).length = u.length + x.length + v.length + x.length + z.length := fun i hi => by rw [hE]; simp; omega
  have h0 : E 0 = u ++ x ++ v ++ y ++ z := by rw [hE]; simp
  have hfin : E x.length = u ++ y ++ v ++ x ++ z := by rw [hE]; simp [hxy, List.take_of_length_le, List.drop_of_length_le]
  refine exI_mk (fun iI R' Φ' k => ∃ i : Nat, iI = i ∧ i ≤ x.length ∧ R' = bufE p cap (E i) :: S ∧ Φ' = Φ ∧ k = x.length - i) ⟨⟨_, Φ, _, inferInstance, fun w G cx => by rw [h0]; exact cx, 0, rfl, Nat.zero_le _, rfl, rfl, rfl⟩, ?_⟩
  have hp : 0 < x.length → ∃ g, p = some ⟨g, 0, none⟩ := fun h => e_ptr cx (by omega)
  clear cx
  rintro iI R1 Φ1 k _ ⟨i, rfl, hi, rfl, rfl, rfl⟩
  refine Br.intro (fun hlt => ?_) (fun hge => fun w G cx => ?_)
  · have hlt : i < x.length := by have := of_decide_eq_true hlt; omega
    have hEi := hEl i (by omega)
    have hE1 : swp (E i) (u.length + i) (u.length + x.length + v.length + i) = E (i + 1) := by rw [hE, hE]; exact swap_mid u x v y z i hlt (by omega) hxy
    generalize E i = es at hEi hE1
    obtain ⟨X, hX⟩ : ∃ X, es[u.length + i]? = some X := ⟨_, List.getElem?_eq_getElem (by omega)⟩
    obtain ⟨Y, hY⟩ : ∃ Y, es[u.length + x.length + v.length + i]? = some Y := ⟨_, List.getElem?_eq_getElem (by omega)⟩
    have na : ((u.length : Int) + i).toNat = u.length + i := by omega
    have nb : ((u.length : Int) + x.length + v.length + i).toNat = u.length + x.length + v.length + i := by omega
    obtain ⟨g, rfl⟩ := hp (by omega)
    refine ⟨[], fun _ _ => True, inferInstance, fun w G cx => (cx.weak fun _ _ _ => trivial).right, by unfold I64; omega, by unfold I64; omega, by unfold I64; omega, by unfold I64; omega, by omega, ptrK_intro g 0 rfl ⟨by omega, ptrK_intro g 0 rfl fun w G cx => ⟨Y.d.time, Y.p, Y.d.row.length, Y.c, Y.d.n, by rw [Nat.zero_add, nb]; exact e_row cx hY, fun w G cx => ⟨X.d.time, X.p, X.d.row.length, X.c, X.d.n, by rw [Nat.zero_add, na]; exact e_row cx hX, by omega, ptrK_intro g 0 rfl fun w G cx => ⟨by rw [Nat.zero_add, na]; exact e_can cx (by omega), fun w' hw' => ?_⟩⟩⟩⟩⟩
    rw [Nat.zero_add, na] at hw'
    refine ⟨bufE (some ⟨g, 0, none⟩) cap (es.set (u.length + i) Y) :: S, Φ1, inferInstance, e_swap hX hY cx hw', fun w G cx => (cx.weak fun _ _ _ => trivial).right, by omega, ptrK_intro g 0 rfl fun w G cx => ⟨by rw [Nat.zero_add, nb]; exact e_can cx (by rw [List.length_set]; omega), fun w' hw' => ?_⟩⟩
    rw [Nat.zero_add, nb] at hw'
    have cx2 := e_swap2 hX hY cx hw'
    rw [hE1] at cx2
    exact ⟨bufE (some ⟨g, 0, none⟩) cap (E (i + 1)) :: S, Φ1, inferInstance, cx2, fun w G cx => (cx.weak fun _ _ _ => trivial).right, by unfold I64; omega, _, Φ1, x.length - (i + 1), inferInstance, fun w G cx => cx, ⟨i + 1, by omega, by omega, rfl, rfl, rfl⟩, by omega⟩
  · have hge : i = x.length := by have := of_decide_eq_false hge; omega
    subst hge
    rw [hfin] at cx
    exact hK w cx.left

end Go.Proofs.YtbkpfhhhbhaecaaDoor
end

/-
  The sort's steps over deltas: rotate, insertionSort.
-/
section
set_option linter.unusedVariables false
set_option linter.unusedSimpArgs false
namespace Go.Proofs.YtbkpfhhhbhaecaaDoor
open Go.Vc


/-! ### rotate -/
set_option maxHeartbeats 1000000 in
theorem rotate_use {W w : World} {S : List Own} {Φ : PW} [Stable Φ] {p : Option Addr} {cap N : Nat} {f : FuncId} {cp : Array Value} (u x y z : List DE) (hx : 0 < x.length) (hy : 0 < y.length) (cx : Ctx W w (bufE p cap (u ++ x ++ y ++ z) :: S) Φ) (hN : N = (u ++ x ++ y ++ z).length)
    (hlen : (u ++ x ++ y ++ z).length ≤ 100000000) {a m b : Int} (ha : a = u.length) (hm : m = u.length + x.length) (hb : b = u.length + x.length + y.length) {K : Ending → World → Prop}
    (hK : ∀ w', Ctx W w' (bufE p cap (u ++ y ++ x ++ z) :: S) Φ → K (.returned (.tuple #[])) w') : Calls Tryd.prog F.slices_rotateCmpFunc_api_Delta #[.slice p N cap, .int .i64 a, .int .i64 m, .int .i64 b, .func (.func f) #[] cp] w K := by
  subst hN ha hm hb
  have hl : (u ++ x ++ y ++ z).length = u.length + x.length + y.length + z.length := by simp; omega
  refine (Bslices_rotateCmpFunc_api_Delta_run p (u ++ x ++ y ++ z).length cap u.length ((u.length : Int) + x.length) ((u.length : Int) + x.length + y.length) f cp (J := fun u w' => K (.returned u) w') cx ?_).mono fun e w' ⟨v, he, hj⟩ => by rw [he]; exact hj
  refine ⟨by unfold I64; omega, by unfold I64; omega, ?_⟩
  refine exI_mk (fun i j R' Φ' k => ∃ u' X Y z' : List DE, i = X.length ∧ j = Y.length ∧ 0 < X.length ∧ 0 < Y.length ∧ u'.length + X.length = u.length + x.length ∧ u' ++ Y ++ X ++ z' = u ++ y ++ x ++ z ∧ R' = bufE p cap (u' ++ X ++ Y ++ z') :: S ∧ Φ' = Φ ∧ k = X.length + Y.length)
    ⟨⟨_, Φ, _, inferInstance, fun w G cx => cx, u, x, y, z, by omega, by omega, hx, hy, rfl, rfl, rfl, rfl, rfl⟩, ?_⟩
  clear cx
  rintro _ _ R1 Φ1 k _ ⟨u', X, Y, z', rfl, rfl, h1, h2, h3, h4, rfl, rfl, rfl⟩
  have hl2 : u'.length + Y.length + X.length + z'.length = u.length + x.length + y.length + z.length := by
    have := congrArg List.length h4
    simp only [List.length_append] at this
    omega
  have hN : (u ++ x ++ y ++ z).length = (u' ++ X ++ Y ++ z').length := by simp only [List.length_append]; omega
  have hlen' : (u' ++ X ++ Y ++ z').length ≤ 100000000 := by rw [← hN]; exact hlen
  refine Br.intro (fun hne => Br.intro (fun hgt => ?_) (fun hle => ?_)) (fun heq => ?_)
  · have hgt := of_decide_eq_true hgt
    have hgt : Y.length < X.length := by omega
    have e1 : X = X.take Y.length ++ X.drop Y.length := (List.take_append_drop _ _).symm
    obtain ⟨A, hA⟩ : ∃ A, X.take Y.length = A := ⟨_, rfl⟩
    obtain ⟨B, hB⟩ : ∃ B, X.drop Y.length = B := ⟨_, rfl⟩
    have hAl : A.length = Y.length := by rw [← hA, List.length_take]; omega
    have hBl : B.length = X.length - Y.length := by rw [← hB, List.length_drop]
    rw [hA, hB] at e1
    refine ⟨by unfold I64; omega, fun w G cx => ?_⟩
    refine swapRange_use (S := S ++ G) u' A B Y z' hAl (by rw [e1] at cx; exact cx.re (by simp)) (by rw [hN, e1]; simp) (by rw [e1] at hlen'; simpa using hlen') (by omega) (by omega) (by omega) fun w cx => ⟨rfl, bufE p cap ((u' ++ Y) ++ B ++ A ++ z') :: S, Φ1, inferInstance, cx.re (by simp), by unfold I64; omega, _, Φ1, B.length + A.length, inferInstance, fun w G cx => cx, ⟨u' ++ Y, B, A, z', by omega, by omega, by omega, by omega, by simp only [List.length_append]; omega, by rw [← h4, e1]; simp, rfl, rfl, rfl⟩, by omega⟩
  · have hle := of_decide_eq_false hle
    have hne := of_decide_eq_true hne
    have hgt : X.length < Y.length := by omega
    have e1 : Y = Y.take (Y.length - X.length) ++ Y.drop (Y.length - X.length) := (List.take_append_drop _ _).symm
    obtain ⟨A, hA⟩ : ∃ A, Y.take (Y.length - X.length) = A := ⟨_, rfl⟩
    obtain ⟨B, hB⟩ : ∃ B, Y.drop (Y.length - X.length) = B := ⟨_, rfl⟩
    have hAl : A.length = Y.length - X.length := by rw [← hA, List.length_take]; omega
    have hBl : B.length = X.length := by rw [← hB, List.length_drop]; omega
    rw [hA, hB] at e1
    refine ⟨by unfold I64; omega, by unfold I64; omega, by unfold I64; omega, fun w G cx => ?_⟩
    refine swapRange_use (S := S ++ G) u' X A B z' hBl.symm (by rw [e1] at cx; exact cx.re (by simp)) (by rw [hN, e1]; simp) (by rw [e1] at hlen'; simpa using hlen') (by omega) (by omega) (by omega) fun w cx => ⟨rfl, bufE p cap (u' ++ B ++ A ++ (X ++ z')) :: S, Φ1, inferInstance, cx.re (by simp), by unfold I64; omega, _, Φ1, B.length + A.length, inferInstance, fun w G cx => cx, ⟨u', B, A, X ++ z', by omega, by omega, by omega, by omega, by omega, by rw [← h4, e1]; simp, rfl, rfl, rfl⟩, by omega⟩
  · have heq := of_decide_eq_false heq
    refine ⟨by unfold I64; omega, fun w G cx => ?_⟩
    refine swapRange_use (S := S ++ G) u' X [] Y z' (by omega) (cx.re (by simp)) (by rw [hN]; simp) (by simpa using hlen') (by omega) (by simp only [List.length_nil]; omega) (by omega) fun w cx => ⟨rfl, bufE p cap (u' ++ Y ++ X ++ z') :: S, Φ1, inferInstance, cx.re (by simp), fun w G cx => hK w ?_⟩
    rw [h4] at cx
    exact cx.left

/-! ### the order -/
abbrev cmpE (x y : DE) : Int := cmpD x.d y.d
abbrev leE (x y : DE) : Prop := cmpD x.d y.d ≤ 0
theorem ordE : Ord leE := by
  refine ⟨fun x y => ?_, fun x y z h1 h2 => ?_⟩
  · unfold leE
    rw [cmpD_key, cmpD_key]
    rcases cmpK_cmp.tri x.d.key y.d.key with h | h | h
    · exact .inl (by omega)
    · exact .inl (by rw [h, cmpK_cmp.refl]; omega)
    · exact .inr (by omega)
  · unfold leE at *
    rw [cmpD_key] at *
    rcases Int.lt_or_eq_of_le h1 with a | a
    · rcases Int.lt_or_eq_of_le h2 with b | b
      · have := cmpK_cmp.trans _ _ _ a b; omega
      · rw [← (cmpK_cmp.eq _ _).1 b]; omega
    · rw [(cmpK_cmp.eq _ _).1 a]; exact h2
theorem leE_of_lt {x y : DE} (h : cmpD x.d y.d < 0) : leE x y := by unfold leE; omega
theorem leE_not {x y : DE} (h : ¬ cmpD x.d y.d < 0) : leE y x := by
  unfold leE
  rw [cmpD_key] at *
  rcases cmpK_cmp.tri x.d.key y.d.key with h1 | h1 | h1
  · omega
  · rw [h1, cmpK_cmp.refl]; omega
  · omega

/-- the function that compares -/
def CmpFn (Φ : PW) (f : FuncId) (cp : Array Value) (G : DE → Prop) : Prop := okFun Tryd.prog f = true ∧ ∀ x y : DE, G x → G y → GivesIn Φ Tryd.prog f (Array.mk (x.v :: y.v :: cp.toList)) (.int .i64 (cmpE x y))

/-! ### insertionSort -/
set_option maxHeartbeats 2000000 in
theorem insertionSort_use {W w : World} {S : List Own} {Φ : PW} [Stable Φ] {p : Option Addr} {cap N : Nat} {f : FuncId} {cp : Array Value} {P : DE → Prop} (hf : CmpFn Φ f cp P) (u x z : List DE) (hP : ∀ e ∈ x, P e) (cx : Ctx W w (bufE p cap (u ++ x ++ z) :: S) Φ) (hN : N = (u ++ x ++ z).length)
    (hlen : (u ++ x ++ z).length ≤ 100000000) {a b : Int} (ha : a = u.length) (hb : b = u.length + x.length) {K : Ending → World → Prop}
    (hK : ∀ x' w', x'.Perm x → Asc leE x' → Ctx W w' (bufE p cap (u ++ x' ++ z) :: S) Φ → K (.returned (.tuple #[])) w') : Calls Tryd.prog F.slices_insertionSortCmpFunc_api_Delta #[.slice p N cap, .int .i64 a, .int .i64 b, .func (.func f) #[] cp] w K := by
  subst hN ha hb
  have hl : (u ++ x ++ z).length = u.length + x.length + z.length := by simp; omega
  refine (Bslices_insertionSortCmpFunc_api_Delta_run p (u ++ x ++ z).length cap u.length ((u.length : Int) + x.length) f cp (J := fun u w' => K (.returned u) w') cx ?_).mono fun e w' ⟨v, he, hj⟩ => by rw [he]; exact hj
  have hp : 0 < x.length → ∃ g, p = some ⟨g, 0, none⟩ := fun h => e_ptr cx (by omega)
  refine ⟨by unfold I64; omega, ?_⟩
  refine exI_mk (fun i R' Φ' k => ∃ (s r : List DE), i = (u.length : Int) + max s.length 1 ∧ (s ++ r).Perm x ∧ Asc leE s ∧ (s.length = 0 → r = []) ∧ R' = bufE p cap (u ++ s ++ r ++ z) :: S ∧ Φ' = Φ ∧ k = r.length)
    ⟨⟨bufE p cap (u ++ x.take 1 ++ x.drop 1 ++ z) :: S, Φ, (x.drop 1).length, inferInstance, fun w G cx => cx.re (by rw [List.append_assoc u (x.take 1), List.take_append_drop]), x.take 1, x.drop 1, by rw [List.length_take]; omega, by rw [List.take_append_drop], ?_, fun h => ?_, rfl, rfl, rfl⟩, ?_⟩
  · cases x with
    | nil => simp
    | cons e x => simp
  · have : x = [] := by
      cases x with
      | nil => rfl
      | cons e x => simp at h
    rw [this]; rfl
  clear cx
  rintro _ R1 Φ1 k _ ⟨s, r, rfl, hperm, hasc, hnil, rfl, rfl, rfl⟩
  have hlp := hperm.length_eq
  rw [List.length_append] at hlp
  refine Br.intro (fun hlt => ?_) (fun hge => fun w G cx => ?_)
  · have hlt := of_decide_eq_true hlt
    have hs0 : 0 < s.length := by
      rcases Nat.eq_zero_or_pos s.length with h | h
      · have := hnil h; rw [this] at hlp; simp at hlp; omega
      · exact h
    obtain ⟨e, r, rfl⟩ : ∃ e r', r = e :: r' := by
      cases r with
      | nil => simp at hlp; omega
      | cons e r' => exact ⟨e, r', rfl⟩
    simp only [List.length_cons] at hlp
    obtain ⟨g, rfl⟩ := hp (by omega)
    have hPe : P e := hP e (hperm.mem_iff.1 (by simp))
    have hPs : ∀ y ∈ s, P y := fun y hy => hP y (hperm.mem_iff.1 (by simp [hy]))
    -- the element goes down
    refine exI_mk (fun j R' Φ' k => ∃ s1 s2 : List DE, j = (u.length : Int) + s1.length ∧ s = s1 ++ s2 ∧ (∀ y ∈ s2, leE e y) ∧ R' = bufE (some ⟨g, 0, none⟩) cap (u ++ s1 ++ e :: s2 ++ r ++ z) :: S ∧ Φ' = Φ1 ∧ k = s1.length)
      ⟨⟨_, Φ1, _, inferInstance, fun w G cx => cx.re (by simp), s, [], by omega, by simp, by simp, rfl, rfl, rfl⟩, ?_⟩
    rintro _ R2 Φ2 k _ ⟨s1, s2, rfl, rfl, hle, rfl, rfl, rfl⟩
    simp only [List.length_append] at hlp hlt hs0
    have hEl : (u ++ s1 ++ e :: s2 ++ r ++ z).length = u.length + s1.length + 1 + s2.length + r.length + z.length := by simp; omega
    have next : Asc leE (s1 ++ e :: s2) → ((u.length : Int) + max (s1 ++ s2).length 1 + 1 = (u.length : Int) + max (s1 ++ e :: s2).length 1) ∧ ((s1 ++ e :: s2) ++ r).Perm x := fun _ => by
      refine ⟨by simp only [List.length_append, List.length_cons]; omega, ?_⟩
      refine List.Perm.trans ?_ hperm
      simp only [List.append_assoc, List.cons_append]
      refine List.Perm.append_left _ ?_
      exact (List.perm_middle (l₁ := s2)).symm
    refine ⟨bufE (some ⟨g, 0, none⟩) cap (u ++ s1 ++ e :: s2 ++ r ++ z) :: S, Φ2, inferInstance, fun w G cx => cx, Br.intro (fun hj => ?_) (fun hj => ?_)⟩
    · have hj := of_decide_eq_true hj
      have hs1 : s1 ≠ [] := fun h => by rw [h] at hj; simp at hj
      obtain ⟨t, y, rfl⟩ : ∃ t y, s1 = t ++ [y] := ⟨s1.dropLast, s1.getLast hs1, (List.dropLast_concat_getLast hs1).symm⟩
      simp only [List.length_append, List.length_cons, List.length_nil] at hlp hlt
      clear hEl
      obtain ⟨E, hE⟩ : ∃ E, u ++ (t ++ [y]) ++ e :: s2 ++ r ++ z = E := ⟨_, rfl⟩
      have hE' : E = (u ++ t) ++ y :: e :: (s2 ++ r ++ z) := by rw [← hE]; simp
      have hX : E[u.length + t.length + 1]? = some e := by
        rw [hE', List.getElem?_append_right (by simp)]
        simp
      have hY : E[u.length + t.length]? = some y := by
        rw [hE', List.getElem?_append_right (by simp)]
        simp
      have hsw : swp E (u.length + t.length + 1) (u.length + t.length) = (u ++ t) ++ e :: y :: (s2 ++ r ++ z) := by
        have h1 := swp_next (u ++ t) y e (s2 ++ r ++ z)
        rw [← h1, hE', List.length_append]
        have hi : u.length + t.length < ((u ++ t) ++ y :: e :: (s2 ++ r ++ z)).length := by simp
        have hj' : u.length + t.length + 1 < ((u ++ t) ++ y :: e :: (s2 ++ r ++ z)).length := by simp; omega
        rw [swp_eq hj' hi, swp_eq hi hj', List.set_comm _ _ (by omega)]
      have hEl : E.length = u.length + t.length + 2 + s2.length + r.length + z.length := by rw [hE']; simp; omega
      rw [hE]
      have n1 : ((u.length : Int) + ((t ++ [y]).length : Nat)).toNat = u.length + t.length + 1 := by simp; omega
      have n2 : ((u.length : Int) + ((t ++ [y]).length : Nat) - 1).toNat = u.length + t.length := by simp; omega
      have nl : ((t ++ [y]).length : Int) = t.length + 1 := by simp
      have hcall := hf.2 e y hPe (hPs y (by simp))
      refine ⟨by omega, ptrK_intro g 0 rfl ⟨by unfold I64; omega, e.d.time, e.p, e.d.row.length, e.c, e.d.n, fun w G cx => ⟨_, e.p, _, e.c, _, by rw [Nat.zero_add, n1]; exact e_row cx hX, rfl⟩, by omega, ptrK_intro g 0 rfl ⟨y.d.time, y.p, y.d.row.length, y.c, y.d.n, fun w G cx => ⟨_, y.p, _, y.c, _, by rw [Nat.zero_add, n2]; exact e_row cx hY, rfl⟩, fun w G cx => ⟨hf.1, hcall.use cx fun w cx => ⟨_, rfl, bufE (some ⟨g, 0, none⟩) cap E :: S, Φ2, inferInstance, cx, Br.intro (fun hc => ?_) (fun hc => ?_)⟩⟩⟩⟩⟩
      · have hc := of_decide_eq_true hc
        refine ⟨[], fun _ _ => True, inferInstance, fun w G cx => (cx.weak fun _ _ _ => trivial).right, by unfold I64; omega, by unfold I64; omega, by omega, ptrK_intro g 0 rfl ⟨by omega, ptrK_intro g 0 rfl fun w G cx => ⟨e.d.time, e.p, e.d.row.length, e.c, e.d.n, by rw [Nat.zero_add, n1]; exact e_row cx hX, fun w G cx => ⟨y.d.time, y.p, y.d.row.length, y.c, y.d.n, by rw [Nat.zero_add, n2]; exact e_row cx hY, by omega, ptrK_intro g 0 rfl fun w G cx => ⟨by rw [Nat.zero_add, n1]; exact e_can cx (by omega), fun w' hw' => ?_⟩⟩⟩⟩⟩
        rw [Nat.zero_add, n1] at hw'
        refine ⟨bufE (some ⟨g, 0, none⟩) cap (E.set (u.length + t.length + 1) y) :: S, Φ2, inferInstance, e_swap hX hY cx hw', fun w G cx => (cx.weak fun _ _ _ => trivial).right, by omega, ptrK_intro g 0 rfl fun w G cx => ⟨by rw [Nat.zero_add, n2]; exact e_can cx (by rw [List.length_set]; omega), fun w' hw' => ?_⟩⟩
        rw [Nat.zero_add, n2] at hw'
        have cx2 := e_swap2 hX hY cx hw'
        rw [hsw] at cx2
        refine ⟨bufE (some ⟨g, 0, none⟩) cap ((u ++ t) ++ e :: y :: (s2 ++ r ++ z)) :: S, Φ2, inferInstance, cx2, fun w G cx => (cx.weak fun _ _ _ => trivial).right, by unfold I64; omega, bufE (some ⟨g, 0, none⟩) cap (u ++ t ++ e :: (y :: s2) ++ r ++ z) :: S, Φ2, t.length, inferInstance, fun w G cx => cx.re (by simp), ⟨t, y :: s2, by omega, by simp, fun q hq => ?_, rfl, rfl, rfl⟩, by omega⟩
        rcases List.mem_cons.1 hq with rfl | hq
        · exact leE_of_lt hc
        · exact hle q hq
      · have hc := of_decide_eq_false hc
        have hye := leE_not hc
        have has : Asc leE ((t ++ [y]) ++ e :: s2) := by
          refine asc_put hasc (fun q hq => ?_) hle
          have h1 := (List.pairwise_append.1 hasc).1
          rcases List.mem_append.1 hq with hq | hq
          · exact ordE.trans _ _ _ ((List.pairwise_append.1 h1).2.2 q hq y (by simp)) hye
          · rw [List.mem_singleton.1 hq]; exact hye
        obtain ⟨q1, q2⟩ := next has
        refine ⟨by unfold I64; simp only [List.length_append, List.length_cons, List.length_nil]; omega, bufE (some ⟨g, 0, none⟩) cap (u ++ (t ++ [y] ++ e :: s2) ++ r ++ z) :: S, Φ2, r.length, inferInstance, fun w G cx => cx.re (by rw [← hE]; simp), ⟨t ++ [y] ++ e :: s2, r, q1, q2, has, fun h => by simp at h, rfl, rfl, rfl⟩, by simp⟩
    · have hj := of_decide_eq_false hj
      have hs1 : s1 = [] := List.eq_nil_of_length_eq_zero (by omega)
      subst hs1
      have has : Asc leE ([] ++ e :: s2) := asc_put hasc (by simp) hle
      obtain ⟨q1, q2⟩ := next has
      exact ⟨by unfold I64; simp only [List.length_append]; omega, bufE (some ⟨g, 0, none⟩) cap (u ++ ([] ++ e :: s2) ++ r ++ z) :: S, Φ2, r.length, inferInstance, fun w G cx => cx.re (by simp), ⟨[] ++ e :: s2, r, q1, q2, has, fun h => by simp at h, rfl, rfl, rfl⟩, by simp⟩
  · have hge := of_decide_eq_false hge
    have hr : r = [] := by
      rcases Nat.eq_zero_or_pos s.length with h | h
      · exact hnil h
      · exact List.eq_nil_of_length_eq_zero (by omega)
    subst hr
    rw [List.append_nil] at hperm
    exact hK s w hperm hasc (cx.left.re (by simp))

end Go.Proofs.YtbkpfhhhbhaecaaDoor
end

/-
  The sort's steps over deltas: symMerge.
-/
section
set_option linter.unusedVariables false
set_option linter.unusedSimpArgs false
namespace Go.Proofs.YtbkpfhhhbhaecaaDoor
open Go.Vc


theorem shr_run (k : Nat) (h : k < 9223372036854775808) (w : World) : Sem.run Tryd.prog (binOp BinOp.shr 65 (.int .u64 (IntKind.u64.wrap (k : Int))) (.int .u64 1)) w = .ok (.int .u64 ((k / 2 : Nat) : Int)) w := by
  have e : IntKind.u64.wrap (k : Int) = k := by simp [IntKind.wrap, IntKind.signed, IntKind.bits]; omega
  rw [e]
  show Sem.run Tryd.prog (Op.shift .shr .u64 (k : Int) .u64 1) w = _
  unfold Op.shift
  simp [Sem.run_pure]
  show (k : Int).fdiv 2 = _
  rw [Int.fdiv_eq_ediv_of_nonneg _ (by decide)]

theorem wrap_nat {k : Nat} (h : k ≤ 1000000000) : IntKind.i64.wrap (k : Int) = k := i64_wrap (by unfold I64; omega)

theorem get_at (a : List DE) (e : DE) (b : List DE) : (a ++ e :: b)[a.length]? = some e := by
  rw [List.getElem?_append_right (Nat.le_refl _)]; simp

theorem get_at2 (a : List DE) (e q : DE) (b : List DE) : (a ++ e :: q :: b)[a.length + 1]? = some q := by
  rw [List.getElem?_append_right (by omega)]; simp

theorem get_mid {u x y z : List DE} {i : Nat} (h : i < y.length) : (u ++ x ++ y ++ z)[u.length + x.length + i]? = some y[i] := by
  rw [List.getElem?_append_left (by simp; omega), List.getElem?_append_right (by simp), List.length_append, show u.length + x.length + i - (u.length + x.length) = i by omega, List.getElem?_eq_getElem h]
theorem get_fst {u x y z : List DE} {i : Nat} (h : i < x.length) : (u ++ x ++ y ++ z)[u.length + i]? = some x[i] := by
  rw [List.getElem?_append_left (by simp; omega), List.getElem?_append_left (by simp; omega), List.getElem?_append_right (by simp), show u.length + i - u.length = i by omega, List.getElem?_eq_getElem h]

/-- a swap of neighbours, walked -/
theorem nb_swap (a : List DE) (x y : DE) (b : List DE) {i j : Nat} (hi : i = a.length) (hj : j = a.length + 1) : swp (a ++ x :: y :: b) i j = a ++ y :: x :: b ∧ swp (a ++ x :: y :: b) j i = a ++ y :: x :: b := by
  subst hi hj
  refine ⟨swp_next a x y b, ?_⟩
  have hi : a.length < (a ++ x :: y :: b).length := by simp
  have hj : a.length + 1 < (a ++ x :: y :: b).length := by simp
  rw [← swp_next a x y b, swp_eq hj hi, swp_eq hi hj, List.set_comm _ _ (by omega)]

/-! ### one element into those behind it -/
set_option maxHeartbeats 2000000 in
theorem sym_one {W : World} {S : List Own} {Φ : PW} [Stable Φ] {p : Option Addr} {cap N : Nat} {f : FuncId} {cp : Array Value} {P : DE → Prop} (hf : CmpFn Φ f cp P) (u : List DE) (e : DE) (y z : List DE) (hy : 0 < y.length) (hPe : P e) (hPy : ∀ q ∈ y, P q) (hay : Asc leE y)
    (hN : N = (u ++ [e] ++ y ++ z).length) (hlen : (u ++ [e] ++ y ++ z).length ≤ 100000000) {a m b : Int} (ha : a = u.length) (hm : m = (u.length : Int) + 1) (hb : b = (u.length : Int) + 1 + y.length) {K : Ending → World → Prop}
    (hK : ∀ r w', r.Perm (e :: y) → Asc leE r → Ctx W w' (bufE p cap (u ++ r ++ z) :: S) Φ → K (.returned (.tuple #[])) w') {w : World} (cx : Ctx W w (bufE p cap (u ++ [e] ++ y ++ z) :: S) Φ) :
    Calls Tryd.prog F.slices_symMergeCmpFunc_api_Delta #[.slice p N cap, .int .i64 a, .int .i64 m, .int .i64 b, .func (.func f) #[] cp] w K := by
  subst hN ha hm hb
  have hl : (u ++ [e] ++ y ++ z).length = u.length + 1 + y.length + z.length := by simp; omega
  refine (Bslices_symMergeCmpFunc_api_Delta_run p (u ++ [e] ++ y ++ z).length cap u.length ((u.length : Int) + 1) ((u.length : Int) + 1 + y.length) f cp (J := fun u w' => K (.returned u) w') cx ?_).mono fun e w' ⟨v, he, hj⟩ => by rw [he]; exact hj
  obtain ⟨g, rfl⟩ := e_ptr cx (by omega)
  refine ⟨by unfold I64; omega, Br.intro (fun _ => ?_) (fun h => by have := of_decide_eq_false h; omega)⟩
  refine exI_mk (fun i j R' Φ' k => ∃ α β : Nat, i = (u.length : Int) + 1 + α ∧ j = (u.length : Int) + 1 + β ∧ α ≤ β ∧ β ≤ y.length ∧ (∀ q ∈ y.take α, leE q e) ∧ (∀ q ∈ y.drop β, leE e q) ∧ R' = bufE (some ⟨g, 0, none⟩) cap (u ++ [e] ++ y ++ z) :: S ∧ Φ' = Φ ∧ k = β - α)
    ⟨⟨_, Φ, _, inferInstance, fun w G cx => cx, 0, y.length, by omega, by omega, by omega, by omega, by simp, by simp, rfl, rfl, rfl⟩, ?_⟩
  clear cx
  rintro _ _ R1 Φ1 k _ ⟨α, β, rfl, rfl, h1, h2, h3, h4, rfl, rfl, rfl⟩
  refine Br.intro (fun hlt => ?_) (fun hge => ?_)
  · have hlt := of_decide_eq_true hlt
    have hαβ : α < β := by omega
    obtain ⟨γ, hγ⟩ : ∃ γ, (α + β) / 2 = γ := ⟨_, rfl⟩
    have hγ1 : α ≤ γ := by omega
    have hγ2 : γ < β := by omega
    have hsum : ((u.length : Int) + 1 + α + ((u.length : Int) + 1 + β)) = ((2 * (u.length + 1) + (α + β) : Nat) : Int) := by omega
    have hhalf : (2 * (u.length + 1) + (α + β)) / 2 = u.length + 1 + γ := by omega
    have hX : (u ++ [e] ++ y ++ z)[u.length + 1 + γ]? = some y[γ] := get_mid (x := [e]) (by omega)
    have hE : (u ++ [e] ++ y ++ z)[u.length]? = some e := by simp
    refine ⟨by unfold I64; omega, ((u.length + 1 + γ : Nat) : Int), fun w => by rw [hsum, ← hhalf]; exact shr_run _ (by omega) w, ?_⟩
    rw [wrap_nat (by omega)]
    refine ⟨bufE (some ⟨g, 0, none⟩) cap (u ++ [e] ++ y ++ z) :: S, Φ1, inferInstance, fun w G cx => cx, by omega, ptrK_intro g 0 rfl ⟨by omega, ptrK_intro g 0 rfl ⟨y[γ].d.time, y[γ].p, y[γ].d.row.length, y[γ].c, y[γ].d.n, fun w G cx => ⟨_, y[γ].p, _, y[γ].c, _, by rw [Nat.zero_add, Int.toNat_natCast]; exact e_row cx hX, rfl⟩, e.d.time, e.p, e.d.row.length, e.c, e.d.n, fun w G cx => ⟨_, e.p, _, e.c, _, by rw [Nat.zero_add, Int.toNat_natCast]; exact e_row cx hE, rfl⟩, fun w G cx => ⟨hf.1, (hf.2 y[γ] e (hPy _ (List.getElem_mem _)) hPe).use cx fun w cx => ⟨_, rfl, bufE (some ⟨g, 0, none⟩) cap (u ++ [e] ++ y ++ z) :: S, Φ1, inferInstance, cx, Br.intro (fun hc => ?_) (fun hc => ?_)⟩⟩⟩⟩⟩
    · have hc := leE_of_lt (of_decide_eq_true hc)
      refine ⟨by unfold I64; omega, _, Φ1, β - (γ + 1), inferInstance, fun w G cx => cx, ⟨γ + 1, β, by omega, by omega, by omega, h2, fun q hq => ?_, h4, rfl, rfl, rfl⟩, by omega⟩
      obtain ⟨i, hi, rfl⟩ := List.getElem_of_mem hq
      rw [List.length_take] at hi
      rw [List.getElem_take]
      exact ordE.trans _ _ _ (asc_le ordE hay (i := i) (j := γ) (by omega) (by omega)) hc
    · have hc := leE_not (of_decide_eq_false hc)
      refine ⟨_, Φ1, γ - α, inferInstance, fun w G cx => cx, ⟨α, γ, by omega, by omega, by omega, by omega, h3, fun q hq => ?_, rfl, rfl, rfl⟩, by omega⟩
      obtain ⟨i, hi, rfl⟩ := List.getElem_of_mem hq
      rw [List.length_drop] at hi
      rw [List.getElem_drop]
      exact ordE.trans _ _ _ hc (asc_le ordE hay (i := γ) (j := γ + i) (by omega) (by omega))
  · have hge := of_decide_eq_false hge
    have hαβ : α = β := by omega
    subst hαβ
    refine exI_mk (fun k R' Φ' kk => ∃ κ : Nat, k = (u.length : Int) + κ ∧ κ ≤ α ∧ R' = bufE (some ⟨g, 0, none⟩) cap (u ++ y.take κ ++ e :: y.drop κ ++ z) :: S ∧ Φ' = Φ1 ∧ kk = α - κ) ⟨⟨_, Φ1, _, inferInstance, fun w G cx => cx, 0, by omega, by omega, by simp, rfl, rfl⟩, ?_⟩
    rintro _ R2 Φ2 kk _ ⟨κ, rfl, hκ, rfl, rfl, rfl⟩
    refine ⟨by unfold I64; omega, Br.intro (fun hlt => ?_) (fun hge => fun w G cx => ?_)⟩
    · have hlt := of_decide_eq_true hlt
      have hκ2 : κ < α := by omega
      have hκy : κ < y.length := by omega
      obtain ⟨E, hE⟩ : ∃ E, u ++ y.take κ ++ e :: y.drop κ ++ z = E := ⟨_, rfl⟩
      have hE' : E = (u ++ y.take κ) ++ e :: y[κ] :: (y.drop (κ + 1) ++ z) := by rw [← hE, List.drop_eq_getElem_cons hκy]; simp only [List.append_assoc, List.cons_append]
      have hEn : u ++ y.take (κ + 1) ++ e :: y.drop (κ + 1) ++ z = (u ++ y.take κ) ++ y[κ] :: e :: (y.drop (κ + 1) ++ z) := by rw [List.take_succ_eq_append_getElem hκy]; simp only [List.append_assoc, List.cons_append, List.nil_append]
      have hal : (u ++ y.take κ).length = u.length + κ := by simp; omega
      have hEl : E.length = u.length + 1 + y.length + z.length := by rw [hE']; simp; omega
      have hX : E[u.length + κ]? = some e := by rw [hE', ← hal]; exact get_at _ _ _
      have hY : E[u.length + κ + 1]? = some y[κ] := by
        have := get_at2 (u ++ y.take κ) e y[κ] (y.drop (κ + 1) ++ z)
        rw [hal] at this
        rw [hE']
        exact this
      have hsw := (nb_swap (u ++ y.take κ) e y[κ] (y.drop (κ + 1) ++ z) (i := u.length + κ) (j := u.length + κ + 1) hal.symm (by omega)).1
      rw [← hE', ← hEn] at hsw
      rw [hE]
      have n1 : ((u.length : Int) + κ).toNat = u.length + κ := by omega
      have n2 : ((u.length : Int) + κ + 1).toNat = u.length + κ + 1 := by omega
      generalize y[κ] = q at hX hY hE' hEn
      refine ⟨[], fun _ _ => True, inferInstance, fun w G cx => (cx.weak fun _ _ _ => trivial).right, by unfold I64; omega, by unfold I64; omega, by omega, ptrK_intro g 0 rfl ⟨by omega, ptrK_intro g 0 rfl fun w G cx => ⟨e.d.time, e.p, e.d.row.length, e.c, e.d.n, by rw [Nat.zero_add, n1]; exact e_row cx hX, fun w G cx => ⟨q.d.time, q.p, q.d.row.length, q.c, q.d.n, by rw [Nat.zero_add, n2]; exact e_row cx hY, by omega, ptrK_intro g 0 rfl fun w G cx => ⟨by rw [Nat.zero_add, n1]; exact e_can cx (by omega), fun w' hw' => ?_⟩⟩⟩⟩⟩
      rw [Nat.zero_add, n1] at hw'
      refine ⟨bufE (some ⟨g, 0, none⟩) cap (E.set (u.length + κ) q) :: S, Φ2, inferInstance, e_swap hX hY cx hw', fun w G cx => (cx.weak fun _ _ _ => trivial).right, by omega, ptrK_intro g 0 rfl fun w G cx => ⟨by rw [Nat.zero_add, n2]; exact e_can cx (by rw [List.length_set]; omega), fun w' hw' => ?_⟩⟩
      rw [Nat.zero_add, n2] at hw'
      have cx2 := e_swap2 hX hY cx hw'
      rw [hsw] at cx2
      exact ⟨bufE (some ⟨g, 0, none⟩) cap (u ++ y.take (κ + 1) ++ e :: y.drop (κ + 1) ++ z) :: S, Φ2, inferInstance, cx2, fun w G cx => (cx.weak fun _ _ _ => trivial).right, by unfold I64; omega, _, Φ2, α - (κ + 1), inferInstance, fun w G cx => cx, ⟨κ + 1, by omega, by omega, rfl, rfl, rfl⟩, by omega⟩
    · have hge := of_decide_eq_false hge
      have hκα : κ = α := by omega
      subst hκα
      refine hK (y.take κ ++ e :: y.drop κ) w ?_ (asc_put (by rw [List.take_append_drop]; exact hay) h3 h4) (cx.left.re (by simp))
      have h := List.perm_middle (a := e) (l₁ := y.take κ) (l₂ := y.drop κ)
      rw [List.take_append_drop] at h
      exact h

/-! ### one element into those ahead of it -/
set_option maxHeartbeats 2000000 in
theorem sym_last {W : World} {S : List Own} {Φ : PW} [Stable Φ] {p : Option Addr} {cap N : Nat} {f : FuncId} {cp : Array Value} {P : DE → Prop} (hf : CmpFn Φ f cp P) (u x : List DE) (e : DE) (z : List DE) (hx : 2 ≤ x.length) (hPe : P e) (hPx : ∀ q ∈ x, P q) (hax : Asc leE x)
    (hN : N = (u ++ x ++ [e] ++ z).length) (hlen : (u ++ x ++ [e] ++ z).length ≤ 100000000) {a m b : Int} (ha : a = u.length) (hm : m = (u.length : Int) + x.length) (hb : b = (u.length : Int) + x.length + 1) {K : Ending → World → Prop}
    (hK : ∀ r w', r.Perm (x ++ [e]) → Asc leE r → Ctx W w' (bufE p cap (u ++ r ++ z) :: S) Φ → K (.returned (.tuple #[])) w') {w : World} (cx : Ctx W w (bufE p cap (u ++ x ++ [e] ++ z) :: S) Φ) :
    Calls Tryd.prog F.slices_symMergeCmpFunc_api_Delta #[.slice p N cap, .int .i64 a, .int .i64 m, .int .i64 b, .func (.func f) #[] cp] w K := by
  subst hN ha hm hb
  have hl : (u ++ x ++ [e] ++ z).length = u.length + x.length + 1 + z.length := by simp; omega
  refine (Bslices_symMergeCmpFunc_api_Delta_run p (u ++ x ++ [e] ++ z).length cap u.length ((u.length : Int) + x.length) ((u.length : Int) + x.length + 1) f cp (J := fun u w' => K (.returned u) w') cx ?_).mono fun e w' ⟨v, he, hj⟩ => by rw [he]; exact hj
  obtain ⟨g, rfl⟩ := e_ptr cx (by omega)
  refine ⟨by unfold I64; omega, Br.intro (fun h => by have := of_decide_eq_true h; omega) (fun _ => ⟨by unfold I64; omega, Br.intro (fun _ => ?_) (fun h => by have := of_decide_eq_false h; omega)⟩)⟩
  refine exI_mk (fun i j R' Φ' k => ∃ α β : Nat, i = (u.length : Int) + α ∧ j = (u.length : Int) + β ∧ α ≤ β ∧ β ≤ x.length ∧ (∀ q ∈ x.take α, leE q e) ∧ (∀ q ∈ x.drop β, leE e q) ∧ R' = bufE (some ⟨g, 0, none⟩) cap (u ++ x ++ [e] ++ z) :: S ∧ Φ' = Φ ∧ k = β - α)
    ⟨⟨_, Φ, _, inferInstance, fun w G cx => cx, 0, x.length, by omega, by omega, by omega, by omega, by simp, by simp, rfl, rfl, rfl⟩, ?_⟩
  clear cx
  rintro _ _ R1 Φ1 k _ ⟨α, β, rfl, rfl, h1, h2, h3, h4, rfl, rfl, rfl⟩
  refine Br.intro (fun hlt => ?_) (fun hge => ?_)
  · have hlt := of_decide_eq_true hlt
    have hαβ : α < β := by omega
    obtain ⟨γ, hγ⟩ : ∃ γ, (α + β) / 2 = γ := ⟨_, rfl⟩
    have hγ1 : α ≤ γ := by omega
    have hγ2 : γ < β := by omega
    have hsum : ((u.length : Int) + α + ((u.length : Int) + β)) = ((2 * u.length + (α + β) : Nat) : Int) := by omega
    have hhalf : (2 * u.length + (α + β)) / 2 = u.length + γ := by omega
    have hX : (u ++ x ++ [e] ++ z)[u.length + γ]? = some x[γ] := get_fst (by omega)
    have hE : (u ++ x ++ [e] ++ z)[u.length + x.length]? = some e := by simp
    have nm : ((u.length : Int) + x.length).toNat = u.length + x.length := by omega
    refine ⟨by unfold I64; omega, ((u.length + γ : Nat) : Int), fun w => by rw [hsum, ← hhalf]; exact shr_run _ (by omega) w, ?_⟩
    rw [wrap_nat (by omega)]
    refine ⟨bufE (some ⟨g, 0, none⟩) cap (u ++ x ++ [e] ++ z) :: S, Φ1, inferInstance, fun w G cx => cx, by omega, ptrK_intro g 0 rfl ⟨by omega, ptrK_intro g 0 rfl ⟨e.d.time, e.p, e.d.row.length, e.c, e.d.n, fun w G cx => ⟨_, e.p, _, e.c, _, by rw [Nat.zero_add, nm]; exact e_row cx hE, rfl⟩, x[γ].d.time, x[γ].p, x[γ].d.row.length, x[γ].c, x[γ].d.n, fun w G cx => ⟨_, x[γ].p, _, x[γ].c, _, by rw [Nat.zero_add, Int.toNat_natCast]; exact e_row cx hX, rfl⟩, fun w G cx => ⟨hf.1, (hf.2 e x[γ] hPe (hPx _ (List.getElem_mem _))).use cx fun w cx => ⟨_, rfl, bufE (some ⟨g, 0, none⟩) cap (u ++ x ++ [e] ++ z) :: S, Φ1, inferInstance, cx, Br.intro (fun hc => ?_) (fun hc => ?_)⟩⟩⟩⟩⟩
    · have hc := leE_not (x := e) (y := x[γ]) (fun h => by rw [decide_eq_true h] at hc; cases hc)
      refine ⟨by unfold I64; omega, _, Φ1, β - (γ + 1), inferInstance, fun w G cx => cx, ⟨γ + 1, β, by omega, by omega, by omega, h2, fun q hq => ?_, h4, rfl, rfl, rfl⟩, by omega⟩
      obtain ⟨i, hi, rfl⟩ := List.getElem_of_mem hq
      rw [List.length_take] at hi
      rw [List.getElem_take]
      exact ordE.trans _ _ _ (asc_le ordE hax (i := i) (j := γ) (by omega) (by omega)) hc
    · have hc := leE_of_lt (show cmpD e.d x[γ].d < 0 by simpa using hc)
      refine ⟨_, Φ1, γ - α, inferInstance, fun w G cx => cx, ⟨α, γ, by omega, by omega, by omega, by omega, h3, fun q hq => ?_, rfl, rfl, rfl⟩, by omega⟩
      obtain ⟨i, hi, rfl⟩ := List.getElem_of_mem hq
      rw [List.length_drop] at hi
      rw [List.getElem_drop]
      exact ordE.trans _ _ _ hc (asc_le ordE hax (i := γ) (j := γ + i) (by omega) (by omega))
  · have hge := of_decide_eq_false hge
    have hαβ : α = β := by omega
    subst hαβ
    refine exI_mk (fun k R' Φ' kk => ∃ κ : Nat, k = (u.length : Int) + κ ∧ α ≤ κ ∧ κ ≤ x.length ∧ R' = bufE (some ⟨g, 0, none⟩) cap (u ++ x.take κ ++ e :: x.drop κ ++ z) :: S ∧ Φ' = Φ1 ∧ κ = kk) ⟨⟨bufE (some ⟨g, 0, none⟩) cap (u ++ x.take x.length ++ e :: x.drop x.length ++ z) :: S, Φ1, _, inferInstance, fun w G cx => cx.re (by simp), x.length, by omega, by omega, by omega, rfl, rfl, rfl⟩, ?_⟩
    rintro _ R2 Φ2 kk _ ⟨κ, rfl, hκ, hκx, rfl, rfl, rfl⟩
    refine Br.intro (fun hlt => ?_) (fun hge => fun w G cx => ?_)
    · have hlt := of_decide_eq_true hlt
      obtain ⟨κ, rfl⟩ : ∃ j, κ = j + 1 := ⟨κ - 1, by omega⟩
      have hκy : κ < x.length := by omega
      obtain ⟨E, hE⟩ : ∃ E, u ++ x.take (κ + 1) ++ e :: x.drop (κ + 1) ++ z = E := ⟨_, rfl⟩
      have hE' : E = (u ++ x.take κ) ++ x[κ] :: e :: (x.drop (κ + 1) ++ z) := by rw [← hE, List.take_succ_eq_append_getElem hκy]; simp only [List.append_assoc, List.cons_append, List.nil_append]
      have hEn : u ++ x.take κ ++ e :: x.drop κ ++ z = (u ++ x.take κ) ++ e :: x[κ] :: (x.drop (κ + 1) ++ z) := by rw [List.drop_eq_getElem_cons hκy]; simp only [List.append_assoc, List.cons_append]
      have hal : (u ++ x.take κ).length = u.length + κ := by simp; omega
      have hEl : E.length = u.length + 1 + x.length + z.length := by rw [hE']; simp; omega
      have hX : E[u.length + κ]? = some x[κ] := by rw [hE', ← hal]; exact get_at _ _ _
      have hY : E[u.length + κ + 1]? = some e := by
        have := get_at2 (u ++ x.take κ) x[κ] e (x.drop (κ + 1) ++ z)
        rw [hal] at this
        rw [hE']
        exact this
      have hsw := (nb_swap (u ++ x.take κ) x[κ] e (x.drop (κ + 1) ++ z) (i := u.length + κ) (j := u.length + κ + 1) hal.symm (by omega)).2
      rw [← hE', ← hEn] at hsw
      rw [hE]
      have n1 : ((u.length : Int) + ((κ + 1 : Nat) : Int)).toNat = u.length + κ + 1 := by omega
      have n2 : ((u.length : Int) + ((κ + 1 : Nat) : Int) - 1).toNat = u.length + κ := by omega
      generalize x[κ] = q at hX hY hE' hEn
      refine ⟨[], fun _ _ => True, inferInstance, fun w G cx => (cx.weak fun _ _ _ => trivial).right, by unfold I64; omega, by unfold I64; omega, by omega, ptrK_intro g 0 rfl ⟨by omega, ptrK_intro g 0 rfl fun w G cx => ⟨e.d.time, e.p, e.d.row.length, e.c, e.d.n, by rw [Nat.zero_add, n1]; exact e_row cx hY, fun w G cx => ⟨q.d.time, q.p, q.d.row.length, q.c, q.d.n, by rw [Nat.zero_add, n2]; exact e_row cx hX, by omega, ptrK_intro g 0 rfl fun w G cx => ⟨by rw [Nat.zero_add, n1]; exact e_can cx (by omega), fun w' hw' => ?_⟩⟩⟩⟩⟩
      rw [Nat.zero_add, n1] at hw'
      refine ⟨bufE (some ⟨g, 0, none⟩) cap (E.set (u.length + κ + 1) q) :: S, Φ2, inferInstance, e_swap hY hX cx hw', fun w G cx => (cx.weak fun _ _ _ => trivial).right, by omega, ptrK_intro g 0 rfl fun w G cx => ⟨by rw [Nat.zero_add, n2]; exact e_can cx (by rw [List.length_set]; omega), fun w' hw' => ?_⟩⟩
      rw [Nat.zero_add, n2] at hw'
      have cx2 := e_swap2 hY hX cx hw'
      rw [hsw] at cx2
      exact ⟨bufE (some ⟨g, 0, none⟩) cap (u ++ x.take κ ++ e :: x.drop κ ++ z) :: S, Φ2, inferInstance, cx2, fun w G cx => (cx.weak fun _ _ _ => trivial).right, by unfold I64; omega, _, Φ2, κ, inferInstance, fun w G cx => cx, ⟨κ, by omega, by omega, by omega, rfl, rfl, rfl⟩, by omega⟩
    · have hge := of_decide_eq_false hge
      have hκα : κ = α := by omega
      subst hκα
      refine hK (x.take κ ++ e :: x.drop κ) w ?_ (asc_put (by rw [List.take_append_drop]; exact hax) h3 h4) (cx.left.re (by simp))
      have h := List.perm_middle (a := e) (l₁ := x.take κ) (l₂ := x.drop κ)
      rw [List.take_append_drop] at h
      exact h.trans (List.perm_append_comm (l₁ := [e]))

end Go.Proofs.YtbkpfhhhbhaecaaDoor
end

/-
  The sort's steps over deltas: symMerge, whole.
-/
section
set_option linter.unusedVariables false
set_option linter.unusedSimpArgs false
namespace Go.Proofs.YtbkpfhhhbhaecaaDoor
open Go.Vc


theorem one_of {x : List DE} (h : x.length = 1) : ∃ e, x = [e] := by
  match x, h with
  | [e], _ => exact ⟨e, rfl⟩

set_option maxHeartbeats 8000000 in
theorem symMerge_use {W : World} {Φ : PW} [Stable Φ] {p : Option Addr} {cap N : Nat} {f : FuncId} {cp : Array Value} {P : DE → Prop} (hf : CmpFn Φ f cp P) : ∀ (k : Nat) {S : List Own} (u x y z : List DE), x.length + y.length ≤ k → 0 < x.length → 0 < y.length → Asc leE x → Asc leE y → (∀ q ∈ x, P q) → (∀ q ∈ y, P q) →
    N = (u ++ x ++ y ++ z).length → (u ++ x ++ y ++ z).length ≤ 100000000 → ∀ {a m b : Int}, a = u.length → m = (u.length : Int) + x.length → b = (u.length : Int) + x.length + y.length → ∀ {K : Ending → World → Prop},
    (∀ r w', r.Perm (x ++ y) → Asc leE r → Ctx W w' (bufE p cap (u ++ r ++ z) :: S) Φ → K (.returned (.tuple #[])) w') → ∀ {w : World}, Ctx W w (bufE p cap (u ++ x ++ y ++ z) :: S) Φ →
    Calls Tryd.prog F.slices_symMergeCmpFunc_api_Delta #[.slice p N cap, .int .i64 a, .int .i64 m, .int .i64 b, .func (.func f) #[] cp] w K := by
  intro k
  induction k with
  | zero => intro S u x y z h hx; omega
  | succ k ih =>
  intro S u x y z hk hx0 hy0 hxa hya hPx hPy hN hlen a m b ha hm hb K hK w cx
  by_cases hx1 : x.length = 1
  · obtain ⟨e, rfl⟩ := one_of hx1
    exact sym_one hf u e y z hy0 (hPx e (by simp)) hPy hya hN hlen ha (by simpa using hm) (by simpa using hb) hK cx
  by_cases hy1 : y.length = 1
  · obtain ⟨e, rfl⟩ := one_of hy1
    exact sym_last hf u x e z (by omega) (hPy e (by simp)) hPx hxa hN hlen ha hm (by simpa using hb) hK cx
  subst ha hm hb
  have hl : (u ++ x ++ y ++ z).length = u.length + x.length + y.length + z.length := by simp; omega
  obtain ⟨H, hH⟩ : ∃ H, (x.length + y.length) / 2 = H := ⟨_, rfl⟩
  have hH1 : 2 * H ≤ x.length + y.length := by omega
  have hH2 : x.length + y.length ≤ 2 * H + 1 := by omega
  have hsum : ((u.length : Int) + ((u.length : Int) + x.length + y.length)) = ((2 * u.length + (x.length + y.length) : Nat) : Int) := by omega
  have hhalf : (2 * u.length + (x.length + y.length)) / 2 = u.length + H := by omega
  refine (Bslices_symMergeCmpFunc_api_Delta_run p N cap u.length ((u.length : Int) + x.length) ((u.length : Int) + x.length + y.length) f cp (J := fun u w' => K (.returned u) w') cx ?_).mono fun e w' ⟨v, he, hj⟩ => by rw [he]; exact hj
  have hNl : N = u.length + x.length + y.length + z.length := by rw [hN, hl]
  obtain ⟨g, hg⟩ := e_ptr cx (by omega)
  refine ⟨by unfold I64; omega, Br.intro (fun h => by have := of_decide_eq_true h; omega) (fun _ => ⟨by unfold I64; omega, Br.intro (fun h => by have := of_decide_eq_true h; omega) (fun _ => ⟨by unfold I64; omega, ((u.length + H : Nat) : Int), fun w => by rw [hsum, ← hhalf]; exact shr_run _ (by omega) w, ?_⟩)⟩)⟩
  rw [wrap_nat (by omega)]
  refine ⟨by unfold I64; omega, Br.intro (fun hgt => ?_) (fun hle => ?_)⟩
  case' refine_1 =>
    have hgt := of_decide_eq_true hgt
    obtain ⟨σ0, ρ0, hso⟩ : ∃ σ0 ρ0 : Nat, (σ0 = H - y.length ∧ ρ0 = H ∧ y.length ≤ H ∧ H < x.length) ∨ (σ0 = 0 ∧ ρ0 = x.length ∧ x.length ≤ H ∧ H ≤ y.length) := ⟨H - y.length, H, .inl ⟨rfl, rfl, by omega, by omega⟩⟩
    have hst : σ0 = H - y.length ∧ ρ0 = H := by omega
    refine ⟨by unfold I64; omega, by unfold I64; omega, ?_⟩
  case' refine_2 =>
    have hle := of_decide_eq_false hle
    obtain ⟨σ0, ρ0, hst, hso⟩ : ∃ σ0 ρ0 : Nat, (σ0 = 0 ∧ ρ0 = x.length) ∧ ((σ0 = H - y.length ∧ ρ0 = H ∧ y.length ≤ H ∧ H < x.length) ∨ (σ0 = 0 ∧ ρ0 = x.length ∧ x.length ≤ H ∧ H ≤ y.length)) := ⟨0, x.length, ⟨rfl, rfl⟩, .inr ⟨rfl, rfl, by omega, by omega⟩⟩
    refine ⟨by unfold I64; omega, ?_⟩
  all_goals
    have hρ : ρ0 ≤ H ∧ ρ0 ≤ x.length ∧ σ0 ≤ ρ0 := by omega
    refine exI_mk (fun i j R' Φ' k => ∃ s r : Nat, i = (u.length : Int) + s ∧ j = (u.length : Int) + r ∧ σ0 ≤ s ∧ s ≤ r ∧ r ≤ ρ0 ∧ (∀ c, σ0 ≤ c → c < s → ∀ (hc : c < x.length) (hd : H - 1 - c < y.length), leE x[c] y[H - 1 - c]) ∧ (∀ c, r ≤ c → c < ρ0 → ∀ (hc : c < x.length) (hd : H - 1 - c < y.length), leE y[H - 1 - c] x[c]) ∧ R' = bufE p cap (u ++ x ++ y ++ z) :: S ∧ Φ' = Φ ∧ k = r - s)
      ⟨⟨_, Φ, _, inferInstance, fun w G cx => cx, σ0, ρ0, by omega, by omega, by omega, by omega, by omega, fun c h1 h2 => by omega, fun c h1 h2 => by omega, rfl, rfl, rfl⟩, ?_⟩
    clear cx
    rintro _ _ R1' Φ1 kk _ ⟨s, r, rfl, rfl, h1, h2, h3, h4, h5, rfl, rfl, rfl⟩
    refine Br.intro (fun hlt => ?_) (fun hge => ?_)
    · have hlt := of_decide_eq_true hlt
      have hsr : s < r := by omega
      obtain ⟨γ, hγ⟩ : ∃ γ, (s + r) / 2 = γ := ⟨_, rfl⟩
      have hγ1 : s ≤ γ := by omega
      have hγ2 : γ < r := by omega
      have hγx : γ < x.length := by omega
      have hγy : H - 1 - γ < y.length := by omega
      have hsum2 : ((u.length : Int) + s + ((u.length : Int) + r)) = ((2 * u.length + (s + r) : Nat) : Int) := by omega
      have hhalf2 : (2 * u.length + (s + r)) / 2 = u.length + γ := by omega
      have hX : (u ++ x ++ y ++ z)[u.length + γ]? = some x[γ] := get_fst hγx
      have hY : (u ++ x ++ y ++ z)[u.length + x.length + (H - 1 - γ)]? = some y[H - 1 - γ] := get_mid hγy
      have hxx : ∀ (c d : Nat) (h : c ≤ d) (hd : d < x.length), leE (x[c]'(Nat.lt_of_le_of_lt h hd)) x[d] := fun c d hcd hd => asc_le ordE hxa hcd hd
      have hyy : ∀ (c d : Nat) (h : c ≤ d) (hd : d < y.length), leE (y[c]'(Nat.lt_of_le_of_lt h hd)) y[d] := fun c d hcd hd => asc_le ordE hya hcd hd
      have hPX := hPx x[γ] (List.getElem_mem _)
      have hPY := hPy y[H - 1 - γ] (List.getElem_mem _)
      have upX : ∀ c, c < γ + 1 → ∀ (hc : c < x.length), leE x[c] x[γ] := fun c hc hc' => hxx c γ (by omega) hγx
      have upY : ∀ c, c < γ + 1 → ∀ (hd : H - 1 - c < y.length), leE y[H - 1 - γ] y[H - 1 - c] := fun c hc hd => hyy (H - 1 - γ) (H - 1 - c) (by omega) hd
      have dnX : ∀ c, γ ≤ c → ∀ (hc : c < x.length), leE x[γ] x[c] := fun c hc hc' => hxx γ c hc hc'
      have dnY : ∀ c, γ ≤ c → ∀ (hd : H - 1 - c < y.length), leE y[H - 1 - c] y[H - 1 - γ] := fun c hc hd => hyy (H - 1 - c) (H - 1 - γ) (by omega) hγy
      generalize hxe : x[γ] = X at hX hPX upX dnX
      generalize hye : y[H - 1 - γ] = Y at hY hPY upY dnY
      refine ⟨by unfold I64; omega, ((u.length + γ : Nat) : Int), fun w => by rw [hsum2, ← hhalf2]; exact shr_run _ (by omega) w, ?_⟩
      rw [wrap_nat (by omega : u.length + γ ≤ 1000000000)]
      have n2 : (((u.length + H : Nat) : Int) + ((u.length : Int) + x.length) - 1 - ((u.length + γ : Nat) : Int)).toNat = u.length + x.length + (H - 1 - γ) := by omega
      subst hg
      refine ⟨_, Φ1, inferInstance, fun w G cx => cx, by unfold I64; omega, by omega, ptrK_intro g 0 rfl ⟨by omega, ptrK_intro g 0 rfl ⟨X.d.time, X.p, X.d.row.length, X.c, X.d.n, fun w G cx => ⟨_, X.p, _, X.c, _, by rw [Nat.zero_add, Int.toNat_natCast]; exact e_row cx hX, rfl⟩, Y.d.time, Y.p, Y.d.row.length, Y.c, Y.d.n, fun w G cx => ⟨_, Y.p, _, Y.c, _, by rw [Nat.zero_add, n2]; exact e_row cx hY, rfl⟩, fun w G cx => ⟨hf.1, (hf.2 Y X hPY hPX).use cx fun w cx => ⟨_, rfl, bufE (some ⟨g, 0, none⟩) cap (u ++ x ++ y ++ z) :: S, Φ1, inferInstance, cx, Br.intro (fun hc => ?_) (fun hc => ?_)⟩⟩⟩⟩⟩
      · have hc := leE_not (x := Y) (y := X) (fun h => by rw [decide_eq_true h] at hc; cases hc)
        exact ⟨by unfold I64; omega, _, Φ1, r - (γ + 1), inferInstance, fun w G cx => cx, ⟨γ + 1, r, by omega, by omega, by omega, by omega, h3, fun c hc1 hc2 hcx hcy => ordE.trans _ _ _ (upX c hc2 hcx) (ordE.trans _ _ _ hc (upY c hc2 hcy)), h5, rfl, rfl, rfl⟩, by omega⟩
      · have hc : cmpD Y.d X.d < 0 := by simpa using hc
        have hc := leE_of_lt hc
        exact ⟨_, Φ1, γ - s, inferInstance, fun w G cx => cx, ⟨s, γ, by omega, by omega, by omega, by omega, by omega, h4, fun c hc1 hc2 hcx hcy => ordE.trans _ _ _ (dnY c hc1 hcy) (ordE.trans _ _ _ hc (dnX c hc1 hcx)), rfl, rfl, rfl⟩, by omega⟩
    · have hge := of_decide_eq_false hge
      have hsr : s = r := by omega
      subst hsr
      obtain ⟨t, ht⟩ : ∃ t, H - s = t := ⟨_, rfl⟩
      have hst2 : s + t = H := by omega
      have htY : t ≤ y.length := by omega
      have hsX : s ≤ x.length := by omega
      have hend2 : (((u.length + H : Nat) : Int) + ((u.length : Int) + x.length) - ((u.length : Int) + s)) = (u.length : Int) + x.length + t := by omega
      have hsplit := sym_split ordE hxa hya s t hsX htY
        (fun h0 ht' => by have := h4 (s - 1) (by omega) (by omega) (by omega) (by omega); simpa [show H - 1 - (s - 1) = t by omega] using this)
        (fun h0 hs' => by have := h5 s (by omega) (by omega) (by omega) (by omega); simpa [show H - 1 - s = t - 1 by omega] using this)
      obtain ⟨L0, hL0⟩ : ∃ L0, x.take s = L0 := ⟨_, rfl⟩
      obtain ⟨R0, hR0⟩ : ∃ R0, x.drop s = R0 := ⟨_, rfl⟩
      obtain ⟨L1, hL1⟩ : ∃ L1, y.take t = L1 := ⟨_, rfl⟩
      obtain ⟨R1, hR1⟩ : ∃ R1, y.drop t = R1 := ⟨_, rfl⟩
      have hx2 : x = L0 ++ R0 := by rw [← hL0, ← hR0, List.take_append_drop]
      have hy2 : y = L1 ++ R1 := by rw [← hL1, ← hR1, List.take_append_drop]
      have hL0l : L0.length = s := by rw [← hL0, List.length_take]; omega
      have hL1l : L1.length = t := by rw [← hL1, List.length_take]; omega
      have hR0l : R0.length = x.length - s := by rw [← hR0, List.length_drop]
      have hR1l : R1.length = y.length - t := by rw [← hR1, List.length_drop]
      have hL0a : Asc leE L0 := by rw [← hL0]; exact asc_take hxa s
      have hL1a : Asc leE L1 := by rw [← hL1]; exact asc_take hya t
      have hR0a : Asc leE R0 := by rw [← hR0]; exact asc_drop hxa s
      have hR1a : Asc leE R1 := by rw [← hR1]; exact asc_drop hya t
      rw [hL0, hR0, hL1, hR1] at hsplit
      have hPL : ∀ q ∈ L0 ++ L1, P q := fun q hq => by
        rcases List.mem_append.1 hq with h | h
        · exact hPx q (by rw [hx2]; simp [h])
        · exact hPy q (by rw [hy2]; simp [h])
      have hPR : ∀ q ∈ R0 ++ R1, P q := fun q hq => by
        rcases List.mem_append.1 hq with h | h
        · exact hPx q (by rw [hx2]; simp [h])
        · exact hPy q (by rw [hy2]; simp [h])
      have hend : ∀ L r : List DE, L.Perm (L0 ++ L1) → Asc leE L → r.Perm (R0 ++ R1) → Asc leE r → ∀ (w : World) (G : List Own), Ctx W w (bufE p cap (u ++ L ++ r ++ z) :: S ++ G) Φ1 → K (.returned (.tuple #[])) w := fun L r hLp hLa hrp hra w G cx => by
        refine hK (L ++ r) w ?_ (asc_app hLa hra fun q hq q' hq' => hsplit q (hLp.mem_iff.1 hq) q' (hrp.mem_iff.1 hq')) (cx.left.re (by simp))
        rw [hx2, hy2]
        refine (List.Perm.append hLp hrp).trans ?_
        simp only [List.append_assoc]
        exact List.Perm.append_left _ (List.perm_append_comm_assoc _ _ _)
      have hLs : ¬ (0 < s ∧ 0 < t) → Asc leE (L0 ++ L1) := fun h => by
        rcases Nat.eq_zero_or_pos s with hz | hz
        · rw [List.eq_nil_of_length_eq_zero (l := L0) (by omega)]; exact hL1a
        · rw [List.eq_nil_of_length_eq_zero (l := L1) (by omega), List.append_nil]; exact hL0a
      have hRs : ¬ (s < x.length ∧ t < y.length) → Asc leE (R0 ++ R1) := fun h => by
        by_cases hz : s < x.length
        · rw [List.eq_nil_of_length_eq_zero (l := R1) (by omega), List.append_nil]; exact hR0a
        · rw [List.eq_nil_of_length_eq_zero (l := R0) (by omega)]; exact hR1a
      rw [hend2]
      have hcL : ((decide ((u.length : Int) < (u.length : Int) + s) && decide ((u.length : Int) + s < ((u.length + H : Nat) : Int))) = true ↔ (0 < s ∧ 0 < t)) := by
        simp only [Bool.and_eq_true, decide_eq_true_eq]; omega
      have hcR : ((decide (((u.length + H : Nat) : Int) < (u.length : Int) + x.length + t) && decide ((u.length : Int) + x.length + t < (u.length : Int) + x.length + y.length)) = true ↔ (s < x.length ∧ t < y.length)) := by
        simp only [Bool.and_eq_true, decide_eq_true_eq]; omega
      have hxl : x.length = L0.length + R0.length := by omega
      have hyl : y.length = L1.length + R1.length := by omega
      refine ⟨by unfold I64; omega, fun w G cx => Br.intro (fun hro => fun w G cx => ?_) (fun hro => fun w G cx => ?_)⟩
      · simp only [Bool.and_eq_true, decide_eq_true_eq] at hro
        refine rotate_use (S := S ++ G) (u ++ L0) R0 L1 (R1 ++ z) (by omega) (by omega) (cx.re (by rw [hx2, hy2]; simp)) (hN.trans (by simp only [List.length_append]; omega)) (by simp only [List.length_append]; omega) (by simp only [List.length_append]; omega) (by simp only [List.length_append]; omega) (by simp only [List.length_append]; omega) fun w cx => ⟨rfl, bufE p cap (u ++ (L0 ++ L1) ++ (R0 ++ R1) ++ z) :: S, Φ1, inferInstance, cx.re (by simp), fun w G cx => ?_⟩
        exact Br.intro (fun h => fun w G cx => ih (S := S ++ G) u L0 L1 (R0 ++ R1 ++ z) (by omega) (by have := hcL.1 h; omega) (by have := hcL.1 h; omega) hL0a hL1a (fun q hq => hPL q (by simp [hq])) (fun q hq => hPL q (by simp [hq])) (hN.trans (by simp only [List.length_append]; omega)) (by simp only [List.length_append]; omega) (by omega) (by omega) (by omega) (fun L w hLp hLa cx => by have hLl : L.length = L0.length + L1.length := (by have := hLp.length_eq; rw [List.length_append] at this; exact this); exact ⟨rfl, bufE p cap (u ++ L ++ (R0 ++ R1) ++ z) :: S, Φ1, inferInstance, cx.re (by simp), fun w G cx => (Br.intro (fun h => fun w G cx => ih (S := S ++ G) (u ++ L) R0 R1 z (by omega) (by have := hcR.1 h; omega) (by have := hcR.1 h; omega) hR0a hR1a (fun q hq => hPR q (by simp [hq])) (fun q hq => hPR q (by simp [hq])) (hN.trans (by simp only [List.length_append]; omega)) (by simp only [List.length_append]; omega) (by simp only [List.length_append]; omega) (by simp only [List.length_append]; omega) (by simp only [List.length_append]; omega) (fun r w hp ha cx => ⟨rfl, bufE p cap (u ++ L ++ r ++ z) :: S, Φ1, inferInstance, cx, fun w G cx => hend L r hLp hLa hp ha w G cx⟩) (cx.re (by simp))) (fun h => fun w G cx => hend L (R0 ++ R1) hLp hLa (List.Perm.refl _) (hRs (fun hh => by have := hcR.2 hh; rw [this] at h; cases h)) w G cx))⟩) (cx.re (by simp))) (fun h => fun w G cx => by have hLa : Asc leE (L0 ++ L1) := hLs (fun hh => by have := hcL.2 hh; rw [this] at h; cases h); generalize hLe : L0 ++ L1 = L at hLa cx ⊢; have hLl : L.length = L0.length + L1.length := (by rw [← hLe]; exact List.length_append); have hLp : L.Perm (L0 ++ L1) := (by rw [hLe]); exact (Br.intro (fun h => fun w G cx => ih (S := S ++ G) (u ++ L) R0 R1 z (by omega) (by have := hcR.1 h; omega) (by have := hcR.1 h; omega) hR0a hR1a (fun q hq => hPR q (by simp [hq])) (fun q hq => hPR q (by simp [hq])) (hN.trans (by simp only [List.length_append]; omega)) (by simp only [List.length_append]; omega) (by simp only [List.length_append]; omega) (by simp only [List.length_append]; omega) (by simp only [List.length_append]; omega) (fun r w hp ha cx => ⟨rfl, bufE p cap (u ++ L ++ r ++ z) :: S, Φ1, inferInstance, cx, fun w G cx => hend L r hLp hLa hp ha w G cx⟩) (cx.re (by simp))) (fun h => fun w G cx => hend L (R0 ++ R1) hLp hLa (List.Perm.refl _) (hRs (fun hh => by have := hcR.2 hh; rw [this] at h; cases h)) w G cx)))
      · have hro' : ¬ (s < x.length ∧ 0 < t) := fun h => by
          have : (decide ((u.length : Int) + s < (u.length : Int) + x.length) && decide ((u.length : Int) + x.length < (u.length : Int) + x.length + t)) = true := by simp only [Bool.and_eq_true, decide_eq_true_eq]; omega
          rw [this] at hro; cases hro
        have hsame : R0 ++ L1 = L1 ++ R0 := by
          by_cases hz : s < x.length
          · rw [List.eq_nil_of_length_eq_zero (l := L1) (by omega)]; simp
          · rw [List.eq_nil_of_length_eq_zero (l := R0) (by omega)]; simp
        have heq : u ++ x ++ y ++ z = u ++ (L0 ++ L1) ++ (R0 ++ R1) ++ z := by
          rw [hx2, hy2]
          simp only [List.append_assoc]
          rw [← List.append_assoc R0 L1, hsame]
          simp only [List.append_assoc]
        rw [heq] at cx ⊢
        exact Br.intro (fun h => fun w G cx => ih (S := S ++ G) u L0 L1 (R0 ++ R1 ++ z) (by omega) (by have := hcL.1 h; omega) (by have := hcL.1 h; omega) hL0a hL1a (fun q hq => hPL q (by simp [hq])) (fun q hq => hPL q (by simp [hq])) (hN.trans (by simp only [List.length_append]; omega)) (by simp only [List.length_append]; omega) (by omega) (by omega) (by omega) (fun L w hLp hLa cx => by have hLl : L.length = L0.length + L1.length := (by have := hLp.length_eq; rw [List.length_append] at this; exact this); exact ⟨rfl, bufE p cap (u ++ L ++ (R0 ++ R1) ++ z) :: S, Φ1, inferInstance, cx.re (by simp), fun w G cx => (Br.intro (fun h => fun w G cx => ih (S := S ++ G) (u ++ L) R0 R1 z (by omega) (by have := hcR.1 h; omega) (by have := hcR.1 h; omega) hR0a hR1a (fun q hq => hPR q (by simp [hq])) (fun q hq => hPR q (by simp [hq])) (hN.trans (by simp only [List.length_append]; omega)) (by simp only [List.length_append]; omega) (by simp only [List.length_append]; omega) (by simp only [List.length_append]; omega) (by simp only [List.length_append]; omega) (fun r w hp ha cx => ⟨rfl, bufE p cap (u ++ L ++ r ++ z) :: S, Φ1, inferInstance, cx, fun w G cx => hend L r hLp hLa hp ha w G cx⟩) (cx.re (by simp))) (fun h => fun w G cx => hend L (R0 ++ R1) hLp hLa (List.Perm.refl _) (hRs (fun hh => by have := hcR.2 hh; rw [this] at h; cases h)) w G cx))⟩) (cx.re (by simp))) (fun h => fun w G cx => by have hLa : Asc leE (L0 ++ L1) := hLs (fun hh => by have := hcL.2 hh; rw [this] at h; cases h); generalize hLe : L0 ++ L1 = L at hLa cx ⊢; have hLl : L.length = L0.length + L1.length := (by rw [← hLe]; exact List.length_append); have hLp : L.Perm (L0 ++ L1) := (by rw [hLe]); exact (Br.intro (fun h => fun w G cx => ih (S := S ++ G) (u ++ L) R0 R1 z (by omega) (by have := hcR.1 h; omega) (by have := hcR.1 h; omega) hR0a hR1a (fun q hq => hPR q (by simp [hq])) (fun q hq => hPR q (by simp [hq])) (hN.trans (by simp only [List.length_append]; omega)) (by simp only [List.length_append]; omega) (by simp only [List.length_append]; omega) (by simp only [List.length_append]; omega) (by simp only [List.length_append]; omega) (fun r w hp ha cx => ⟨rfl, bufE p cap (u ++ L ++ r ++ z) :: S, Φ1, inferInstance, cx, fun w G cx => hend L r hLp hLa hp ha w G cx⟩) (cx.re (by simp))) (fun h => fun w G cx => hend L (R0 ++ R1) hLp hLa (List.Perm.refl _) (hRs (fun hh => by have := hcR.2 hh; rw [this] at h; cases h)) w G cx)))

end Go.Proofs.YtbkpfhhhbhaecaaDoor
end

/-
  The stable sort of deltas.
-/
section
set_option linter.unusedVariables false
set_option linter.unusedSimpArgs false
namespace Go.Proofs.YtbkpfhhhbhaecaaDoor
open Go.Vc


theorem cat_all {cs : List (List DE)} {bs : Nat} {c : List DE} (h : ∀ d ∈ cs, d.length = bs ∧ Asc leE d) (h1 : c.length = bs) (h2 : Asc leE c) : ∀ d ∈ cs ++ [c], d.length = bs ∧ Asc leE d := fun d hd => by
  rcases List.mem_append.1 hd with hd | hd
  · exact h d hd
  · rw [List.mem_singleton.1 hd]; exact ⟨h1, h2⟩

theorem flat_snoc (cs : List (List DE)) (c : List DE) : (cs ++ [c]).flatten = cs.flatten ++ c := by simp

theorem flat_one {cs : List (List DE)} {bs : Nat} (h0 : 0 < bs) (h : ∀ d ∈ cs, d.length = bs ∧ Asc leE d) (hl : cs.flatten.length = 0) : cs = [] := by
  cases cs with
  | nil => rfl
  | cons c cs =>
    have := (h c (by simp)).1
    rw [List.flatten_cons, List.length_append] at hl
    omega

set_option maxHeartbeats 4000000 in
theorem stable_use {W w : World} {S : List Own} {Φ : PW} [Stable Φ] {p : Option Addr} {cap : Nat} {f : FuncId} {cp : Array Value} {P : DE → Prop} (hf : CmpFn Φ f cp P) (es : List DE) (hP : ∀ e ∈ es, P e) (cx : Ctx W w (bufE p cap es :: S) Φ)
    (hlen : es.length ≤ 100000000) {K : Ending → World → Prop} (hK : ∀ es' w', es'.Perm es → Asc leE es' → Ctx W w' (bufE p cap es' :: S) Φ → K (.returned (.tuple #[])) w') :
    Calls Tryd.prog F.slices_stableCmpFunc_api_Delta #[.slice p es.length cap, .int .i64 es.length, .func (.func f) #[] cp] w K := by
  refine (Bslices_stableCmpFunc_api_Delta_run p es.length cap es.length f cp (J := fun u w' => K (.returned u) w') cx ?_).mono fun e w' ⟨v, he, hj⟩ => by rw [he]; exact hj
  refine exI_mk (fun a b R' Φ' k => ∃ (cs : List (List DE)) (rest : List DE), a = cs.flatten.length ∧ b = (cs.flatten.length : Int) + 20 ∧ (∀ c ∈ cs, c.length = 20 ∧ Asc leE c) ∧ (cs.flatten ++ rest).Perm es ∧ R' = bufE p cap (cs.flatten ++ rest) :: S ∧ Φ' = Φ ∧ k = rest.length)
    ⟨⟨_, Φ, _, inferInstance, fun w G cx => cx, [], es, rfl, rfl, by simp, List.Perm.refl _, rfl, rfl, rfl⟩, ?_⟩
  clear cx
  rintro _ _ R1 Φ1 k _ ⟨cs, rest, rfl, rfl, hcs, hperm, rfl, rfl, rfl⟩
  have hlp := hperm.length_eq
  rw [List.length_append] at hlp
  have hPr : ∀ q ∈ rest, P q := fun q hq => hP q (hperm.mem_iff.1 (by simp [hq]))
  refine Br.intro (fun hle => fun w G cx => ?_) (fun hgt => fun w G cx => ?_)
  · have hle := of_decide_eq_true hle
    have hl1 : (rest.take 20).length = 20 := by rw [List.length_take]; omega
    have hl2 : (rest.drop 20).length = rest.length - 20 := by rw [List.length_drop]
    refine insertionSort_use (S := S ++ G) hf cs.flatten (rest.take 20) (rest.drop 20) (fun q hq => hPr q (List.mem_of_mem_take hq)) (cx.re (by simp)) (by simp only [List.length_append]; omega) (by simp only [List.length_append]; omega) rfl (by omega) fun x' w hp ha cx => ?_
    have hx' : x'.length = 20 := by rw [hp.length_eq, hl1]
    refine ⟨rfl, bufE p cap ((cs ++ [x']).flatten ++ rest.drop 20) :: S, Φ1, inferInstance, cx.re (by rw [flat_snoc]; rfl), by unfold I64; omega, _, Φ1, (rest.drop 20).length, inferInstance, fun w G cx => cx, ⟨cs ++ [x'], rest.drop 20, by rw [flat_snoc, List.length_append]; omega, by rw [flat_snoc, List.length_append]; omega, cat_all hcs hx' ha, ?_, rfl, rfl, rfl⟩, by omega⟩
    refine List.Perm.trans ?_ hperm
    rw [flat_snoc, List.append_assoc]
    refine List.Perm.append_left _ ((List.Perm.append_right _ hp).trans ?_)
    rw [List.take_append_drop]
  have hgt := of_decide_eq_false hgt
  refine insertionSort_use (S := S ++ G) hf cs.flatten rest [] hPr (cx.re (by simp)) (by simp only [List.length_append, List.length_nil]; omega) (by simp only [List.length_append, List.length_nil]; omega) rfl (by omega) fun x' w hp ha cx => ?_
  have hx' := hp.length_eq
  refine ⟨rfl, bufE p cap (cs.flatten ++ x') :: S, Φ1, inferInstance, cx.re (by simp), ?_⟩
  refine exI_mk (fun bs R' Φ' k => ∃ (b : Nat) (cs : List (List DE)) (rest : List DE), bs = b ∧ 20 ≤ b ∧ b ≤ 200000000 ∧ (∀ c ∈ cs, c.length = b ∧ Asc leE c) ∧ Asc leE rest ∧ rest.length < b ∧ (cs.flatten ++ rest).Perm es ∧ R' = bufE p cap (cs.flatten ++ rest) :: S ∧ Φ' = Φ1 ∧ k = es.length - b)
    ⟨⟨_, Φ1, _, inferInstance, fun w G cx => cx, 20, cs, x', rfl, by omega, by omega, hcs, ha, by omega, (List.Perm.append_left _ hp).trans hperm, rfl, rfl, rfl⟩, ?_⟩
  clear cx hx' ha hp hcs hperm hPr hlp hgt
  rintro _ R2 Φ2 k _ ⟨b, cs, rest, rfl, hb20, hbm, hcs, hra, hrl, hperm, rfl, rfl, rfl⟩
  have hlp := hperm.length_eq
  rw [List.length_append] at hlp
  refine Br.intro (fun hlt => ?_) (fun hge => fun w G cx => ?_)
  · have hlt := of_decide_eq_true hlt
    refine ⟨by unfold I64; omega, ?_⟩
    refine exI_mk (fun a e R' Φ' k => ∃ (ds cs : List (List DE)), a = ds.flatten.length ∧ e = (ds.flatten.length : Int) + 2 * b ∧ (∀ d ∈ ds, d.length = 2 * b ∧ Asc leE d) ∧ (∀ c ∈ cs, c.length = b ∧ Asc leE c) ∧ (ds.flatten ++ (cs.flatten ++ rest)).Perm es ∧ R' = bufE p cap (ds.flatten ++ (cs.flatten ++ rest)) :: S ∧ Φ' = Φ2 ∧ k = cs.length)
      ⟨⟨_, Φ2, _, inferInstance, fun w G cx => cx, [], cs, rfl, by simp, by simp, hcs, hperm, rfl, rfl, rfl⟩, ?_⟩
    clear hcs hperm hlp
    rintro _ _ R3 Φ3 k _ ⟨ds, cs, rfl, rfl, hds, hcs, hperm, rfl, rfl, rfl⟩
    have hlp := hperm.length_eq
    rw [List.length_append, List.length_append] at hlp
    have hPc : ∀ c ∈ cs, ∀ q ∈ c, P q := fun c hc q hq => hP q (hperm.mem_iff.1 (by
      simp only [List.mem_append, List.mem_flatten]
      exact .inr (.inl ⟨c, hc, hq⟩)))
    have hPr : ∀ q ∈ rest, P q := fun q hq => hP q (hperm.mem_iff.1 (by simp [hq]))
    refine Br.intro (fun hle => ?_) (fun hgt => ?_)
    · have hle := of_decide_eq_true hle
      obtain ⟨c1, c2, cs, rfl⟩ : ∃ c1 c2 cs', cs = c1 :: c2 :: cs' := by
        match cs, hcs, hlp with
        | [], _, hlp => simp only [List.flatten_nil, List.flatten_cons, List.length_nil, List.length_append] at hlp; omega
        | [c], hcs, hlp => have := (hcs c (by simp)).1; simp only [List.flatten_nil, List.flatten_cons, List.length_nil, List.length_append] at hlp; omega
        | c1 :: c2 :: cs', _, _ => exact ⟨c1, c2, cs', rfl⟩
      obtain ⟨hc1, ha1⟩ := hcs c1 (by simp)
      obtain ⟨hc2, ha2⟩ := hcs c2 (by simp)
      simp only [List.flatten_cons, List.length_append] at hlp
      refine ⟨by unfold I64; omega, fun w G cx => ?_⟩
      refine symMerge_use (S := S ++ G) hf _ ds.flatten c1 c2 (cs.flatten ++ rest) (Nat.le_refl _) (by omega) (by omega) ha1 ha2 (hPc c1 (by simp)) (hPc c2 (by simp)) (by simp only [List.length_append]; omega) (by simp only [List.length_append]; omega) rfl (by omega) (by omega) (fun r w hp ha cx => ?_) (cx.re (by simp))
      have hrl2 : r.length = 2 * b := by rw [hp.length_eq, List.length_append]; omega
      refine ⟨rfl, bufE p cap ((ds ++ [r]).flatten ++ (cs.flatten ++ rest)) :: S, Φ3, inferInstance, cx.re (by rw [flat_snoc]; rfl), by unfold I64; omega, by unfold I64; omega, _, Φ3, cs.length, inferInstance, fun w G cx => cx, ⟨ds ++ [r], cs, by rw [flat_snoc, List.length_append]; omega, by rw [flat_snoc, List.length_append]; omega, cat_all hds hrl2 ha, fun c hc => hcs c (by simp [hc]), ?_, rfl, rfl, rfl⟩, by simp; omega⟩
      refine List.Perm.trans ?_ hperm
      rw [flat_snoc, List.append_assoc]
      refine List.Perm.append_left _ ((List.Perm.append_right _ hp).trans (List.Perm.of_eq ?_))
      simp
    · have hgt := of_decide_eq_false hgt
      have hshape : (cs = [] ∧ rest.length = rest.length) ∨ ∃ c, cs = [c] := by
        match cs, hcs, hlp with
        | [], _, _ => exact .inl ⟨rfl, rfl⟩
        | [c], _, _ => exact .inr ⟨c, rfl⟩
        | c1 :: c2 :: cs', hcs, hlp =>
          have h1 := (hcs c1 (by simp)).1
          have h2 := (hcs c2 (by simp)).1
          simp only [List.flatten_cons, List.length_append] at hlp
          omega
      refine ⟨by unfold I64; omega, Br.intro (fun hm => fun w G cx => ?_) (fun hm => ⟨by unfold I64; omega, ?_⟩)⟩
      · have hm := of_decide_eq_true hm
        obtain ⟨c, rfl⟩ : ∃ c, cs = [c] := by
          rcases hshape with ⟨rfl, _⟩ | h
          · simp only [List.flatten_nil, List.flatten_cons, List.length_nil, List.length_append] at hlp; omega
          · exact h
        obtain ⟨hc1, ha1⟩ := hcs c (by simp)
        simp only [List.flatten_cons, List.flatten_nil, List.append_nil] at hlp
        refine symMerge_use (S := S ++ G) hf _ ds.flatten c rest [] (Nat.le_refl _) (by omega) (by omega) ha1 hra (hPc c (by simp)) hPr (by simp only [List.length_append, List.length_nil]; omega) (by simp only [List.length_append, List.length_nil]; omega) rfl (by omega) (by omega) (fun r w hp ha cx => ?_) (cx.re (by simp))
        have hrl2 : r.length = b + rest.length := by rw [hp.length_eq, List.length_append]; omega
        refine ⟨rfl, bufE p cap (ds.flatten ++ r) :: S, Φ3, inferInstance, cx.re (by simp), by unfold I64; omega, _, Φ3, es.length - 2 * b, inferInstance, fun w G cx => cx, ⟨2 * b, ds, r, by omega, by omega, by omega, hds, ha, by omega, ?_, rfl, rfl, rfl⟩, by omega⟩
        refine List.Perm.trans (List.Perm.append_left _ hp) (List.Perm.trans (List.Perm.of_eq ?_) hperm)
        simp
      · have hm := of_decide_eq_false hm
        rcases hshape with ⟨rfl, _⟩ | ⟨c, rfl⟩
        · exact ⟨bufE p cap (ds.flatten ++ rest) :: S, Φ3, es.length - 2 * b, inferInstance, fun w G cx => cx, ⟨2 * b, ds, rest, by omega, by omega, by omega, hds, hra, by omega, hperm, rfl, rfl, rfl⟩, by omega⟩
        · obtain ⟨hc1, ha1⟩ := hcs c (by simp)
          simp only [List.flatten_cons, List.flatten_nil, List.append_nil] at hlp hperm
          have hr : rest = [] := List.eq_nil_of_length_eq_zero (by omega)
          subst hr
          rw [List.append_nil] at hperm
          exact ⟨bufE p cap (ds.flatten ++ c) :: S, Φ3, es.length - 2 * b, inferInstance, fun w G cx => cx.re (by simp), ⟨2 * b, ds, c, by omega, by omega, by omega, hds, ha1, by omega, hperm, rfl, rfl, rfl⟩, by omega⟩
  · have hge := of_decide_eq_false hge
    refine hK (cs.flatten ++ rest) w hperm ?_ cx.left
    cases cs with
    | nil => exact hra
    | cons c cs =>
      have h1 := (hcs c (by simp)).1
      rw [List.flatten_cons, List.length_append] at hlp
      have h2 : cs = [] := flat_one (by omega) (fun d hd => hcs d (by simp [hd])) (by omega)
      have h3 : rest = [] := List.eq_nil_of_length_eq_zero (by omega)
      subst h2 h3
      simpa using (hcs c (by simp)).2

theorem SortStable_use {W w : World} {S : List Own} {Φ : PW} [Stable Φ] {p : Option Addr} {cap : Nat} {f : FuncId} {cp : Array Value} {P : DE → Prop} (hf : CmpFn Φ f cp P) (es : List DE) (hP : ∀ e ∈ es, P e) (cx : Ctx W w (bufE p cap es :: S) Φ)
    (hlen : es.length ≤ 100000000) {K : Ending → World → Prop} (hK : ∀ es' w', es'.Perm es → Asc leE es' → Ctx W w' (bufE p cap es' :: S) Φ → K (.returned (.tuple #[])) w') :
    Calls Tryd.prog F.slices_SortStableFunc_api_Delta_api_Delta #[.slice p es.length cap, .func (.func f) #[] cp] w K := by
  refine (Bslices_SortStableFunc_api_Delta_api_Delta_run p es.length cap f cp (J := fun u w' => K (.returned u) w') cx ?_).mono fun e w' ⟨v, he, hj⟩ => by rw [he]; exact hj
  exact fun w G cx => stable_use (S := S ++ G) hf es hP cx hlen fun es' w hp ha cx => ⟨rfl, bufE p cap es' :: S, Φ, inferInstance, cx, fun w G cx => hK es' w hp ha cx.left⟩

end Go.Proofs.YtbkpfhhhbhaecaaDoor
end

/-
  THE ROW, out of a contract over owned worlds.
-/
section
set_option linter.unusedVariables false
set_option linter.unusedSimpArgs false
namespace Go.Vc
open Go.ChangeShapes Go.WideShapes Go.RowKit

section
variable {H : Type} {enc : TypeId × Value → H} {P : Program} {W : World}

/-- what came in is plain data -/
theorem open_gv {α : Type} [Gv α] (d : Nat) {t : TypeId} {v : Value} {x : DataW H} {ps : List MemPlace} (hty : Ty.is P d (Gv.ty α) t = true) (h : DataW.Trod enc P W 0 (fun _ => true) true t v x ps) : ∃ y : α, Gv.rep [] W v.cells.toList y := by
  obtain ⟨fuel, h⟩ := h
  exact Gv.opens.ap hty h

/-- .. a slice -/
theorem open_sl {α : Type} [Gv α] (d : Nat) {t e : TypeId} {v : Value} {r : Reach} {base : Nat} {x : DataW H} {ps : List MemPlace} (ht : P.underlying t = some (.slice e)) (hv : Value.okWide P W r base t v) (hty : Ty.is P d (Gv.ty (List α)) t = true)
    (h : DataW.Trod enc P W 0 (fun _ => true) true t v x ps) : ∃ (p : Option Addr) (cap : Nat) (l : List α), v = .slice p l.length cap ∧ l.length ≤ cap ∧ cap ≤ maxLen ∧ Sl [] W p l := by
  obtain ⟨a, len, cap, rfl⟩ := okWide_slice ht hv
  obtain ⟨l, hl⟩ := open_gv (α := List α) d hty h
  obtain ⟨p, c, e, h1, h2, h3⟩ := rep_list.1 hl
  simp only [Value.cells, List.cons.injEq, Value.slice.injEq, and_true] at e
  obtain ⟨rfl, rfl, rfl⟩ := e
  exact ⟨a, cap, l, rfl, h1, h2, h3⟩

/-- from a contract that knows what came in -/
theorem GivesIn.law {Φ : PW} {f : FuncId} {args : Array Value} (h : GivesIn Φ P f args (.bool true)) (h0 : Φ [] W) : Calls P f args W fun e W' => ∃ u, e = .returned u ∧ (u = .bool true ∧ Chg [] W W') :=
  (h.go W W [] (Ctx.start W h0)).mono fun e w' ⟨h1, h2⟩ => ⟨_, h1, rfl, h2.chg⟩

end

end Go.Vc
end

/-
  The walks of the comparisons of values, rows and deltas; of Clone.
-/
section
set_option linter.unusedVariables false
set_option linter.unusedSimpArgs false
namespace Go.Proofs.YtbkpfhhhbhaecaaDoor
open Go.Vc


set_option maxHeartbeats 1000000 in
set_option maxRecDepth 100000 in
theorem bytealg_CompareString (a b : ByteArray) (w : World) :
    Calls Tryd.prog 144 #[.string a, .string b] w fun e w' => e = .returned (.int .i64 (Lib.compareBytes a.data.toList b.data.toList)) ∧ w' = w := by
  go_enter Tryd.func144, Tryd.ntmps144
  go_wp2
  rw [run_callFunc_extern Tryd.func150 (by kernel_rfl) (by kernel_rfl) (by kernel_rfl) (e := Extern.BytealgCompare.compare) (by kernel_rfl), Lib.run_compareString]
  simp only [Result.andThen]
  rw [Oper.upon_value]
  go_wp2
  go_ret
  exact ⟨rfl, rfl⟩

set_option maxHeartbeats 1000000 in
theorem strings_Compare (a b : ByteArray) (w : World) :
    Calls Tryd.prog 139 #[.string a, .string b] w fun e w' => e = .returned (.int .i64 (Lib.compareBytes a.data.toList b.data.toList)) ∧ w' = w := by
  go_enter Tryd.func139, Tryd.ntmps139
  go_wp2_with (go_at_call 144; refine (bytealg_CompareString _ _ _).mono ?_; rintro e w' ⟨rfl, rfl⟩)
  go_ret
  exact ⟨rfl, rfl⟩

theorem sl_val {M : List Nat} {w : World} {b o : Nat} {l : List ValD} (h : Sl M w (some ⟨b, o, none⟩) l) {i : Nat} (hi : i < l.length) : RowAt w b (o + i * 3) [.int .i64 l[i].kind, .int .i64 l[i].num, .string l[i].text] := by
  obtain ⟨b', o', cs, e, _, h3, _, _, rfl, ⟨rfl, _⟩, _, _, rfl, ⟨rfl, _⟩, rfl, _⟩ := h i hi
  cases e
  exact h3

theorem sl_int {M : List Nat} {w : World} {b o : Nat} {l : List Int} (h : Sl M w (some ⟨b, o, none⟩) l) {i : Nat} (hi : i < l.length) : w.cell? ⟨b, o + i, none⟩ = some (.int .i64 l[i]) := by
  obtain ⟨b', o', cs, e, _, h3, rfl, _⟩ := h i hi
  cases e
  have := h3 0 (by simp)
  simpa [show (Gv.ty Int).size = 1 from rfl] using this

theorem isNaN_g (x : Int) : Gives Tryd.prog F.cmp_isNaN_int #[.int .i64 x] (.bool false) :=
  gives_of (Bcmp_isNaN_int_run x) fun W R Φ _ => fun w F c => ⟨by simp, c.left⟩

theorem cmp_g (x y : Int) : Gives Tryd.prog F.cmp_Compare_int #[.int .i64 x, .int .i64 y] (.int .i64 (cmpI x y)) := by
  refine gives_of (Bcmp_Compare_int_run x y) fun W R Φ _ => ?_
  refine fun w F c => (isNaN_g _).use c fun w c => ⟨_, rfl, _, _, inferInstance, c, fun w F c => (isNaN_g _).use c fun w c => ⟨_, rfl, _, _, inferInstance, c, Br.intro (fun h => by cases h) (fun _ => Br.intro (fun h => by cases h) (fun _ => Br.intro (fun h => fun w F c => ⟨?_, c.left⟩) (fun h => Br.intro (fun h2 => fun w F c => ⟨?_, c.left⟩) (fun h2 => fun w F c => ⟨?_, c.left⟩))))⟩⟩
  · unfold cmpI; rw [if_pos (by simpa using h)]
  · have h : ¬ x < y := by simpa using h
    unfold cmpI; rw [if_neg h, if_pos (by simpa using h2)]
  · have h : ¬ x < y := by simpa using h
    have h2 : ¬ y < x := by simpa using h2
    unfold cmpI; rw [if_neg h, if_neg h2]

theorem orI_drop (l : List Int) (i : Nat) (hi : i < l.length) : orI (l.drop i) = if l[i] ≠ 0 then l[i] else orI (l.drop (i + 1)) := by
  rw [List.drop_eq_getElem_cons hi]; rfl

theorem or_in {Φ : PW} [Stable Φ] (p : Option Addr) (cap : Nat) (l : List Int) (hΦ : ∀ M w, Φ M w → Sl M w p l) (hlen : l.length ≤ 1000000) :
    GivesIn Φ Tryd.prog F.cmp_Or_int #[.slice p l.length cap] (.int .i64 (orI l)) := by
  refine .there (fun M w h => (hΦ M w h).there) fun hth => ?_
  refine gives_in (Bcmp_Or_int_run p l.length cap) fun W R => ?_
  refine exI_mk (fun n R' Φ' k => ∃ i : Nat, n = i ∧ i ≤ l.length ∧ R' = R ∧ Φ' = Φ ∧ k = l.length - i ∧ orI l = orI (l.drop i)) ⟨⟨R, Φ, _, inferInstance, fun w F c => c, 0, rfl, Nat.zero_le _, rfl, rfl, rfl, rfl⟩, ?_⟩
  rintro n R1 Φ1 k _ ⟨i, rfl, hi, rfl, rfl, rfl, hor⟩
  refine Br.intro (fun hlt => ?_) (fun hge => fun w F cx => ⟨?_, cx.left⟩)
  · have hlt : i < l.length := by simpa using hlt
    obtain ⟨b, o, rfl⟩ := hth (by omega)
    rw [orI_drop l i hlt] at hor
    refine ⟨by omega, ptrK_intro b o rfl fun w F cx => ⟨_, sl_int (hΦ _ _ cx.phi) hlt, Br.intro (fun h => fun w F cx => ⟨?_, cx.left⟩) (fun h => ⟨by unfold I64; omega, R1, Φ1, l.length - (i + 1), inferInstance, fun w F c => c, ⟨i + 1, rfl, hlt, rfl, rfl, rfl, ?_⟩, by omega⟩)⟩⟩
    · have h : l[i] ≠ 0 := by simpa using h
      rw [hor, if_pos h]
    · have h : ¬ l[i] ≠ 0 := by simpa using h
      rw [hor, if_neg h]
  · have hge : i = l.length := Nat.le_antisymm hi (by simpa using hge)
    rw [hor, hge, List.drop_length]
    rfl

theorem I64_bd {x : Int} (h : -1 ≤ x ∧ x ≤ 1) : I64 x := by unfold I64; omega

theorem ints_elems {M : List Nat} {w : World} : ∀ (l : List Int), (∀ x ∈ l, I64 x) → Elems M w (l.map fun x => .int .i64 x) l := by
  intro l h
  refine ⟨by simp [show (Gv.ty Int).size = 1 from rfl], fun j hj => ?_⟩
  rw [show (Gv.ty Int).size = 1 from rfl, Nat.mul_one, rep_int]
  refine ⟨?_, h _ (List.getElem_mem _)⟩
  apply List.ext_getElem?
  intro i
  rcases i with _ | i
  · rw [List.getElem?_take_of_lt (by omega), List.getElem?_drop]; simp [hj]
  · simp; omega

theorem tcmp_g (x y : ByteArray) : Gives Tryd.prog F.strings_Compare #[.string x, .string y] (.int .i64 (cmpT x y)) :=
  Quiet.gives ⟨fun w => strings_Compare x y w⟩

/-- a made block of ints, handed to cmp.Or -/
theorem or_blk {W w : World} {S : List Own} {Φ : PW} [Stable Φ] {k : Nat} {t : TypeId} (l : List Int) (cap : Nat) (hl : ∀ x ∈ l, I64 x) (hlen : l.length ≤ 1000000) (c : Ctx W w (.blk k (l.map fun x => .int .i64 x) t :: S) Φ)
    {K : Ending → World → Prop} (hk : ∀ w', Ctx W w' S Φ → K (.returned (.int .i64 (orI l))) w') : Calls Tryd.prog F.cmp_Or_int #[.slice (some ⟨k, 0, none⟩) l.length cap] w K := by
  obtain ⟨c', hs⟩ := c.freezeBlk (ints_elems l hl)
  exact (or_in (Φ := fun M w => Φ M w ∧ Sl M w (some ⟨k, 0, none⟩) l) (some ⟨k, 0, none⟩) cap l (fun _ _ h => h.2) hlen).use (c'.add hs) fun w' c => hk w' c.fst

theorem cmpV_g (x y : ValD) : Gives Tryd.prog F.value_Compare #[x.v, y.v] (.int .i64 (cmpV x y)) := by
  refine gives_of (Bvalue_Compare_run x.kind x.num x.text y.kind y.num y.text) fun W R Φ _ => ?_
  refine fun _ _ => ⟨R, Φ, inferInstance, fun _ _ c => c, fun w F c => (cmp_g _ _).use c fun w c => ⟨_, rfl, R, Φ, inferInstance, c, fun _ _ c => c, fun w F c => (cmp_g _ _).use c fun w c => ⟨_, rfl, R, Φ, inferInstance, c, fun _ _ c => c, fun w F c => (tcmp_g _ _).use c fun w c => ⟨_, rfl, R, Φ, inferInstance, c, fun k w F c => ?_⟩⟩⟩⟩
  refine or_blk (cmpL x y) 3 (fun u hu => ?_) (by simp) c fun w c => ⟨_, rfl, R, Φ, inferInstance, c, fun w F c => ⟨rfl, c.left⟩⟩
  simp only [cmpL, List.mem_cons, List.not_mem_nil, or_false] at hu
  rcases hu with rfl | rfl | rfl
  · exact I64_bd (cmpI_cmp.bd _ _)
  · exact I64_bd (cmpI_cmp.bd _ _)
  · exact I64_bd (cmpT_cmp.bd _ _)

theorem CompareRows_in {Φ : PW} [Stable Φ] (p q : Option Addr) (cap cap2 : Nat) (l r : List ValD) (hΦ : ∀ M w, Φ M w → Sl M w p l) (hΨ : ∀ M w, Φ M w → Sl M w q r) (hlen : l.length ≤ 9223372036854775807) :
    GivesIn Φ Tryd.prog F.value_CompareRows #[.slice p l.length cap, .slice q r.length cap2] (.int .i64 (cmpR l r)) := by
  refine .there (fun M w h => (hΦ M w h).there) fun hth => .there (fun M w h => (hΨ M w h).there) fun hth2 => ?_
  refine gives_in (Bvalue_CompareRows_run p l.length cap q r.length cap2) fun W R => fun w0 F0 c0 => ?_
  refine GivesIn.use ?_ c0 fun w c => ⟨_, rfl, R, Φ, inferInstance, c, fun w F c => ⟨rfl, c.left⟩⟩
  refine gives_in (Bslices_CompareFunc_api_Value__api_Value_api_Value_api_Value_run p l.length cap q r.length cap2 130 #[]) fun W R => ?_
  refine exI_mk (fun n R' Φ' k => ∃ i : Nat, n = i ∧ i ≤ l.length ∧ i ≤ r.length ∧ R' = R ∧ Φ' = Φ ∧ k = l.length - i ∧ cmpR l r = cmpR (l.drop i) (r.drop i)) ⟨⟨R, Φ, _, inferInstance, fun w F c => c, 0, rfl, Nat.zero_le _, Nat.zero_le _, rfl, rfl, rfl, rfl⟩, ?_⟩
  rintro n R1 Φ1 k _ ⟨i, rfl, hi, hr, rfl, rfl, rfl, hcm⟩
  refine Br.intro (fun hlt => ?_) (fun hge => ?_)
  · have hlt : i < l.length := by simpa using hlt
    obtain ⟨b, o, rfl⟩ := hth (by omega)
    refine ⟨by omega, ptrK_intro b o rfl fun w F cx => ⟨_, _, _, sl_val (hΦ _ _ cx.phi) hlt, fun _ => Br.intro (fun h => fun w F cx => ⟨?_, cx.left⟩) (fun h => ?_)⟩⟩
    · have h : r.length ≤ i := by simpa using h
      rw [hcm, cmpR_left hlt h]
    · have h : i < r.length := by simpa using h
      obtain ⟨b2, o2, rfl⟩ := hth2 (by omega)
      rw [cmpR_both hlt h] at hcm
      refine ⟨by omega, ptrK_intro b2 o2 rfl fun w F cx => ⟨_, _, _, sl_val (hΨ _ _ cx.phi) h, fun _ w F cx => ⟨by kernel_rfl, (cmpV_g l[i] r[i]).use cx fun w cx => ⟨_, rfl, R1, Φ1, inferInstance, cx, Br.intro (fun hn => fun w F cx => ⟨?_, cx.left⟩) (fun hn => ⟨by unfold I64; omega, R1, Φ1, l.length - (i + 1), inferInstance, fun w F c => c, ⟨i + 1, rfl, hlt, h, rfl, rfl, rfl, ?_⟩, by omega⟩)⟩⟩⟩⟩
      · have hn : cmpV l[i] r[i] ≠ 0 := by simpa using hn
        rw [hcm, if_pos hn]
      · have hn : ¬ cmpV l[i] r[i] ≠ 0 := by simpa using hn
        rw [hcm, if_neg hn]
  · have hge : i = l.length := Nat.le_antisymm hi (by simpa using hge)
    subst hge
    refine Br.intro (fun h => fun w F cx => ⟨?_, cx.left⟩) (fun h => fun w F cx => ⟨?_, cx.left⟩)
    · have h : l.length < r.length := by simpa using h
      rw [hcm, List.drop_length, List.drop_eq_getElem_cons h]; rfl
    · have h : ¬ l.length < r.length := by simpa using h
      rw [hcm, List.drop_length, List.drop_of_length_le (by omega)]; rfl

/-! ### deltas -/
theorem compareD_in {Φ : PW} [Stable Φ] (x y : DeltaD) (p q : Option Addr) (cap cap2 : Nat) (hΦ : ∀ M w, Φ M w → Sl M w p x.row) (hΨ : ∀ M w, Φ M w → Sl M w q y.row) (hlen : x.row.length ≤ 9223372036854775807) :
    GivesIn Φ Tryd.prog F.delta_compare #[x.v p cap, y.v q cap2] (.int .i64 (cmpD x y)) := by
  refine gives_in (Bdelta_compare_run x.time p x.row.length cap x.n y.time q y.row.length cap2 y.n) fun W R => ?_
  refine fun _ _ => ⟨R, Φ, inferInstance, fun _ _ c => c, fun w F c => (cmp_g _ _).use c fun w c => ⟨_, rfl, R, Φ, inferInstance, c, fun _ _ c => c, fun w F c => (CompareRows_in p q cap cap2 x.row y.row hΦ hΨ hlen).use c fun w c => ⟨_, rfl, R, Φ, inferInstance, c, fun k w F c => ?_⟩⟩⟩
  refine or_blk (cmpDL x y) 2 (fun u hu => ?_) (by simp) c fun w c => ⟨_, rfl, R, Φ, inferInstance, c, fun w F c => ⟨rfl, c.left⟩⟩
  simp only [cmpDL, List.mem_cons, List.not_mem_nil, or_false] at hu
  rcases hu with rfl | rfl
  · exact I64_bd (cmpI_cmp.bd _ _)
  · exact I64_bd (cmpR_cmp.bd _ _)

end Go.Proofs.YtbkpfhhhbhaecaaDoor
end

/-
  STRINGS.BUILDER over what a walk owns; tables that a row lays; rows with laid tables; the decimal form of ints.
-/
section
set_option linter.unusedVariables false
set_option linter.unusedSimpArgs false
namespace Go.Vc
open Go.RowKit Go.Shelf

section
variable {P : Program} {W w w' : World} {S R F : List Own} {Φ Ψ : PW}

/-- what is owned changes, and is owned no more -/
theorem Ctx.lose [Stable Φ] (c : Ctx W w (R ++ S) Φ) (h : Chg (dom R) w w') : Ctx W w' S Φ := by
  have hn := c.nodup
  rw [dom_app, List.nodup_append] at hn
  refine c.go ⟨h.mono fun x hx => by rw [dom_app]; exact List.mem_append_left _ hx, fun b hb => .inl (by rw [dom_app]; exact List.mem_append_right _ hb)⟩ (fun o ho => ?_) hn.2.1
  exact Own.at_keep (c.own o (List.mem_append_right _ ho)) fun b hb => h.block b (c.lt (mem_dom (List.mem_append_right _ ho) hb)) fun hm => hn.2.2 b hm b (mem_dom ho hb) rfl

/-- append of a string's bytes -/
theorem Ctx.appStr [Stable Φ] {p : Option Addr} {n cap : Nat} {cs : List Value} {e : TypeId} (c : Ctx W w (.buf p n cap cs e 1 :: S) Φ) {t u ty : TypeId} {kb : Array Bool} {i : TypeInfo}
    (ht : P.underlying t = some (.slice e)) (hu : P.underlying u = some .string) (hi : P.info? e = some i) (hz : i.zero = some (.int .u8 0)) (hsize : i.size = 1) (hby : i.bytes = 1) (s : ByteArray)
    (hb : n + s.size ≤ 140737488355328) (h63 : n + s.size ≤ maxLen) :
    ∃ p' cap' w', Sem.run P (builtin Builtin.append #[t, u] ty kb #[.slice p n cap, .string s]) w = .ok (.value (.slice p' (n + s.size) cap')) w' ∧ Ctx W w' (.buf p' (n + s.size) cap' (cs ++ Lib.strCells s) e 1 :: S) Φ := by
  have hown := c.own _ (List.mem_cons_self)
  obtain ⟨hcl, hown⟩ := hown
  have hxl : cs.length = n := by simpa using hcl
  have hlen : (cs ++ Lib.strCells s).length = (n + s.size) * 1 := by rw [List.length_append, hxl, Lib.strCells_length, Nat.mul_one]
  have grown : ∀ (old : Nat), old < n + s.size →
      Ctx W (w.drew.alloc (.cells (cs.toArray ++ (Lib.strCells s).toArray ++ Builtin.zeroCells (Value.int .u8 0).cells (grownCap w (n + s.size) old e - (n + s.size))) e))
        (.buf (some ⟨w.heap.size, 0, none⟩) (n + s.size) (grownCap w (n + s.size) old e) (cs ++ Lib.strCells s) e 1 :: S) Φ := by
    intro old ho
    have hge := grownCap_ge w (n + s.size) old e
    have hcm : grownCap w (n + s.size) old e ≤ maxLen := grownCap_le_maxLen w (n + s.size) old e h63
    have h := c.upd (k := 0) (o' := .buf (some ⟨w.heap.size, 0, none⟩) (n + s.size) (grownCap w (n + s.size) old e) (cs ++ Lib.strCells s) e 1) rfl (((Chg.refl _ _).drewN 1).alloc (.cells (cs.toArray ++ (Lib.strCells s).toArray ++ Builtin.zeroCells (Value.int .u8 0).cells (grownCap w (n + s.size) old e - (n + s.size))) e)) (by simp [Own.dom]) (by simp [Own.dom])
      ⟨hlen, .inr ⟨w.heap.size, _, _, rfl, Nat.zero_le _, hp_alloc_new w.drew _, hge, hcm, ?_, ?_⟩⟩
    · exact h
    · have hz1 : (Value.int IntKind.u8 0).cells.size = 1 := rfl
      simp only [Array.size_append, List.size_toArray, size_zeroCells, hz1, hxl, Lib.strCells_length]
      omega
    · simp only [Array.toList_append, List.append_assoc]
      rw [← List.append_assoc, ← hlen]
      exact List.take_left
  rcases hown with ⟨e1, rfl⟩ | ⟨g, cap', cur, e1, _, hg, hnc, hcm, hcs, htake⟩
  · cases e1
    have hx : cs = [] := List.eq_nil_of_length_eq_zero hxl
    subst hx
    by_cases hm : s.size = 0
    · have hn : Lib.strCells s = [] := List.eq_nil_of_length_eq_zero (by rw [Lib.strCells_length]; exact hm)
      refine ⟨none, 0, w, run_app ?_, by rw [hm, hn]; exact c⟩
      have hf := Lib.run_firstCells_string (P := P) w 1 s
      rw [hm] at hf
      simp [Builtin.append_, run_underlying ht, run_underlying hu, sizeOf, typeInfo, hi, hsize, Builtin.lenOf, hm, hf]
    · have hr := run_append_nil_string (P := P) w t u ty e i (.int .u8 0) ht hu hi hz s (by omega) (by omega) (by rw [hby]; omega)
      have hgr := grown 0 (by omega)
      simp only [Nat.zero_add, List.nil_append, Array.empty_append] at hgr ⊢
      have e1 : (s.data.map fun b => Value.int .u8 b.toNat) = (Lib.strCells s).toArray := by
        apply Array.ext'
        simp [Lib.strCells]
      rw [e1] at hr
      exact ⟨_, _, _, run_app hr, hgr⟩
  · cases e1
    have hcs' : cur.size = cap := by simpa using hcs
    have ht' : cur.toList.take n = cs := by simpa using htake
    by_cases hroom : n + s.size ≤ cap
    · have hr := Lib.run_append_room_string (P := P) w t u ty e i ht hu hi hsize g n cap cur hg s hroom (by omega)
      refine ⟨_, _, _, run_app hr, ?_⟩
      have h := c.upd (k := 0) (w' := w.setRow g (cur.toList.take n ++ Lib.strCells s ++ cur.toList.drop (n + s.size)).toArray) (o' := .buf (some ⟨g, 0, none⟩) (n + s.size) cap (cs ++ Lib.strCells s) e 1) rfl ⟨rfl, rfl, rfl, by simp, fun b _ hb => setRow_other w g b _ (by simpa [Own.dom] using hb)⟩ (by simp [Own.dom]) (by simp [Own.dom])
        ⟨hlen, .inr ⟨g, cap, _, rfl, Nat.zero_le _, setRow_heap w g cur _ e _ hg, hroom, hcm, ?_, ?_⟩⟩
      · exact h
      · simp only [List.size_toArray, List.length_append, List.length_take, List.length_drop, Array.length_toList, Lib.strCells_length]
        omega
      · rw [ht', ← hlen]
        exact List.take_left
    · have holds : ∀ j u, cs[j]? = some u → w.cell? ((⟨g, 0, none⟩ : Addr).add j) = some u := by
        intro j u hj
        have hlt : j < cs.length := (List.getElem?_eq_some_iff.1 hj).1
        have h2 : cur[j]? = some u := by
          rw [← ht', List.getElem?_take_of_lt (by omega)] at hj
          simpa using hj
        rw [addr_add, Nat.zero_add]
        simp [World.cell?, hg, h2]
      have hr := Lib.run_append_grow_string (P := P) w t u ty e i (.int .u8 0) ht hu hi hz ⟨g, 0, none⟩ n cap cs (by rw [hsize]; simpa using hxl) holds s (by omega) (by omega) (by rw [hby]; exact growslice_fits (by omega) (by omega))
      exact ⟨_, _, _, run_app hr, grown cap (by omega)⟩

/-- a strings.Builder (of type T, in block b) that holds these bytes (of type e) -/
def Bd (T e : TypeId) (b : Nat) (l : List UInt8) (R : List Own) : Prop :=
  ∃ (pa : Value) (p : Option Addr) (cap : Nat), (pa = .pointer none ∨ pa = .pointer (some ⟨b, 0, none⟩)) ∧ R = [.blk b [pa, .slice p l.length cap] T, .buf p l.length cap (Lib.byteCells l) e 1]

theorem Bd.fresh [Stable Φ] {T e : TypeId} {b : Nat} (c : Ctx W w (.blk b [.pointer none, .slice none 0 0] T :: S) Φ) : Ctx W w ([.blk b [.pointer none, .slice none 0 0] T, .buf none 0 0 [] e 1] ++ S) Φ :=
  ((c.buf0 e 1).perm (List.Perm.swap _ _ _))
theorem Bd.nil {T e : TypeId} {b : Nat} : Bd T e b [] [.blk b [.pointer none, .slice none 0 0] T, .buf none 0 0 [] e 1] := ⟨.pointer none, none, 0, .inl rfl, rfl⟩

end

/-! ### String -/
section
open Go.Proofs
variable {P : Program} {ρ : Ren}

theorem chg_freeze {a w : World} {D : List Nat} (h : Chg D a w) {p : Addr} (hp : p.block ∈ D) (n : Nat) : Chg D a (w.freeze p n) := by
  refine h.trans (T := D) ?_ (fun x hx => .inl hx)
  unfold World.freeze
  split
  · exact Chg.refl _ _
  · refine ⟨rfl, rfl, rfl, by simp, fun k hk hn => ?_⟩
    simp only [Array.getElem?_modify]
    rw [if_neg (fun e => hn (by rw [← e]; exact hp))]

set_option maxHeartbeats 1000000 in
set_option maxRecDepth 100000 in
theorem builder_String_some (L : Lays.n169 P ρ) (X : Builder.Extra P ρ) (b g cap : Nat) (pa : Value) (l : List UInt8) (w : World) (h0 : l ≠ []) (hbk : w.heap[b]? = some (.cells #[pa, .slice (some ⟨g, 0, none⟩) l.length cap] (ρ.t 72) (0, 0)))
    (hown : w.ownsRow 0 (ρ.t 5) 1 (.slice (some ⟨g, 0, none⟩) l.length cap) l.length (Lib.byteCells l)) :
    Calls P (ρ.f 169) #[.pointer (some ⟨b, 0, none⟩)] w fun e w' => e = .returned (.string ⟨l.toArray⟩) ∧ Chg [g] w w' := by
  have hl0 : l.length ≠ 0 := by simpa using h0
  obtain ⟨cur, hg, hnc, hcm, hcs, htake⟩ : ∃ cur, w.heap[g]? = some (.cells cur (ρ.t 5) (0, 0)) ∧ l.length ≤ cap ∧ cap ≤ maxLen ∧ cur.size = cap * 1 ∧ cur.toList.take (l.length * 1) = Lib.byteCells l := by
    rcases hown.2 with ⟨hv, _⟩ | ⟨g', cap', cur, hv, _, r⟩
    · cases hv
    · cases hv; exact ⟨cur, r⟩
  have c1 : w.drew.cell? ⟨b, 1, none⟩ = some (.slice (some ⟨g, 0, none⟩) l.length cap) := by
    have : w.drew.heap[b]? = some (.cells #[pa, .slice (some ⟨g, 0, none⟩) l.length cap] (ρ.t 72) (0, 0)) := hbk
    rw [Lib.cell_of_heap this]; rfl
  have hSD : (Builtin.unsafeSliceData_ #[(ρ.t 37)] (ρ.t 127) #[.slice (some ⟨g, 0, none⟩) l.length cap]).run P w.drew = .ok (.pointer (some ⟨g, 0, none⟩)) w.drew :=
    Lib.run_unsafeSliceData_row _ _ _ _ _ _ (by omega)
  have hUS : (Builtin.unsafeString_ #[(ρ.t 127), (ρ.t 3)] (ρ.t 9) #[.pointer (some ⟨g, 0, none⟩), .int .i64 l.length]).run P w.drew = .ok (.string ⟨l.toArray⟩) (w.drew.freeze ⟨g, 0, none⟩ l.length) := by
    refine Lib.run_unsafeString_row w.drew (ρ.t 127) (ρ.t 3) (ρ.t 9) (ρ.t 5) L.t127 X.cellsByte g cur.size (by have hg' : w.drew.heap[g]? = some (.cells cur (ρ.t 5) (0, 0)) := hg; simp [World.shape?, hg']) l h0 (by omega) (by unfold maxLen at hcm; omega) ?_
    intro j x hx
    have := hown.cells (g := g) rfl j (.int .u8 x.toNat) (by simp [Lib.byteCells, hx])
    exact this
  have mixed := L.mixed
  have t72 := L.t72; have a72 := L.a72; have z72 := L.z72; have v72 := L.v72; have u72 := run_underlying L.t72
  have t70 := L.t70; have a70 := L.a70; have z70 := L.z70; have v70 := L.v70; have u70 := run_underlying L.t70
  have t37 := L.t37; have a37 := L.a37; have z37 := L.z37; have v37 := L.v37; have u37 := run_underlying L.t37
  have t127 := L.t127; have a127 := L.a127; have z127 := L.z127; have v127 := L.v127; have u127 := run_underlying L.t127
  have t3 := L.t3; have a3 := L.a3; have z3 := L.z3; have v3 := L.v3; have u3 := run_underlying L.t3
  have t9 := L.t9; have a9 := L.a9; have z9 := L.z9; have v9 := L.v9; have u9 := run_underlying L.t9
  have t5 := X.t5; have a5 := X.a5; have z5 := X.z5; have v5 := X.v5; have u5 := run_underlying X.t5
  go_enter L.f169, Body.n169_ntmps ρ
  go_wp2
  go_region_o
  all_goals (go_wp2; go_ret; exact ⟨rfl, chg_freeze ((Chg.refl _ _).drewN 1) (p := ⟨g, 0, none⟩) (by simp) _⟩)

set_option maxHeartbeats 2000000 in
set_option maxRecDepth 100000 in
theorem builder_String_nil (L : Lays.n169 P ρ) (X : Builder.Extra P ρ) (b : Nat) (p : Value) (w : World) (hbk : w.heap[b]? = some (.cells #[p, .slice none 0 0] (ρ.t 72) (0, 0))) :
    Calls P (ρ.f 169) #[.pointer (some ⟨b, 0, none⟩)] w fun e w' => e = .returned (.string ⟨#[]⟩) ∧ Chg [] w w' := by
  have hUS := Any.unsafeString_none L X
  have c1 : w.drew.cell? ⟨b, 1, none⟩ = some (.slice none 0 0) := by
    have : w.drew.heap[b]? = some (.cells #[p, .slice none 0 0] (ρ.t 72) (0, 0)) := hbk
    rw [Lib.cell_of_heap this]; rfl
  have hSD : (Builtin.unsafeSliceData_ #[(ρ.t 37)] (ρ.t 127) #[.slice none 0 0]).run P w.drew = .ok (.pointer none) w.drew := rfl
  have mixed := L.mixed
  have t72 := L.t72; have a72 := L.a72; have z72 := L.z72; have v72 := L.v72; have u72 := run_underlying L.t72
  have t70 := L.t70; have a70 := L.a70; have z70 := L.z70; have v70 := L.v70; have u70 := run_underlying L.t70
  have t37 := L.t37; have a37 := L.a37; have z37 := L.z37; have v37 := L.v37; have u37 := run_underlying L.t37
  have t127 := L.t127; have a127 := L.a127; have z127 := L.z127; have v127 := L.v127; have u127 := run_underlying L.t127
  have t3 := L.t3; have a3 := L.a3; have z3 := L.z3; have v3 := L.v3; have u3 := run_underlying L.t3
  have t9 := L.t9; have a9 := L.a9; have z9 := L.z9; have v9 := L.v9; have u9 := run_underlying L.t9
  have t5 := X.t5; have a5 := X.a5; have z5 := X.z5; have v5 := X.v5; have u5 := run_underlying X.t5
  go_enter L.f169, Body.n169_ntmps ρ
  go_wp2
  go_region_o
  all_goals (go_wp2; go_ret; exact ⟨rfl, (Chg.refl _ _).drewN 1⟩)

set_option maxHeartbeats 2000000 in
set_option maxRecDepth 100000 in
theorem builder_String_noroom (L : Lays.n169 P ρ) (X : Builder.Extra P ρ) (b g : Nat) (p : Value) (cur : Array Value) (w : World) (hbk : w.heap[b]? = some (.cells #[p, .slice (some ⟨g, 0, none⟩) 0 0] (ρ.t 72) (0, 0))) (hg : w.heap[g]? = some (.cells cur (ρ.t 5) (0, 0))) :
    Calls P (ρ.f 169) #[.pointer (some ⟨b, 0, none⟩)] w fun e w' => e = .returned (.string ⟨#[]⟩) ∧ Chg [] w w' := by
  have hUS := Any.unsafeString_none L X
  have hlt : b < w.heap.size := by
    rcases Nat.lt_or_ge b w.heap.size with h' | h'
    · exact h'
    · simp [Array.getElem?_eq_none h'] at hbk
  have c1 : w.drew.cell? ⟨b, 1, none⟩ = some (.slice (some ⟨g, 0, none⟩) 0 0) := by
    have : w.drew.heap[b]? = some (.cells #[p, .slice (some ⟨g, 0, none⟩) 0 0] (ρ.t 72) (0, 0)) := hbk
    rw [Lib.cell_of_heap this]; rfl
  have hSD : (Builtin.unsafeSliceData_ #[(ρ.t 37)] (ρ.t 127) #[.slice (some ⟨g, 0, none⟩) 0 0]).run P w.drew = .ok (.pointer (some ⟨w.drew.heap.size, 0, none⟩)) (w.drew.alloc (.view ⟨g, 0, none⟩ (ρ.t 5))) :=
    Lib.run_unsafeSliceData_zero w.drew _ _ (ρ.t 5) L.t127 ⟨g, 0, none⟩ 0 ((ρ.t 5), cur.size) (by have hg' : w.drew.heap[g]? = some (.cells cur (ρ.t 5) (0, 0)) := hg; simp [World.shape?, hg'])
  have c2 : (w.drew.alloc (.view ⟨g, 0, none⟩ (ρ.t 5))).cell? ⟨b, 1, none⟩ = some (.slice (some ⟨g, 0, none⟩) 0 0) := by
    have : (w.drew.alloc (.view ⟨g, 0, none⟩ (ρ.t 5))).heap[b]? = _ := (Lib.alloc_old w.drew _ b hlt).trans hbk
    rw [Lib.cell_of_heap this]; rfl
  have c3 : (w.alloc (.view ⟨g, 0, none⟩ (ρ.t 5))).drew.cell? ⟨b, 1, none⟩ = some (.slice (some ⟨g, 0, none⟩) 0 0) := c2
  have c0 : w.cell? ⟨b, 1, none⟩ = some (.slice (some ⟨g, 0, none⟩) 0 0) := c1
  have mixed := L.mixed
  have t72 := L.t72; have a72 := L.a72; have z72 := L.z72; have v72 := L.v72; have u72 := run_underlying L.t72
  have t70 := L.t70; have a70 := L.a70; have z70 := L.z70; have v70 := L.v70; have u70 := run_underlying L.t70
  have t37 := L.t37; have a37 := L.a37; have z37 := L.z37; have v37 := L.v37; have u37 := run_underlying L.t37
  have t127 := L.t127; have a127 := L.a127; have z127 := L.z127; have v127 := L.v127; have u127 := run_underlying L.t127
  have t3 := L.t3; have a3 := L.a3; have z3 := L.z3; have v3 := L.v3; have u3 := run_underlying L.t3
  have t9 := L.t9; have a9 := L.a9; have z9 := L.z9; have v9 := L.v9; have u9 := run_underlying L.t9
  have t5 := X.t5; have a5 := X.a5; have z5 := X.z5; have v5 := X.v5; have u5 := run_underlying X.t5
  go_enter L.f169, Body.n169_ntmps ρ
  go_wp2
  go_region_o
  all_goals (go_wp2; go_ret; exact ⟨rfl, ((Chg.refl _ _).drewN 1).alloc _⟩)

set_option maxHeartbeats 2000000 in
set_option maxRecDepth 100000 in
theorem builder_String_room (L : Lays.n169 P ρ) (X : Builder.Extra P ρ) (b g cap : Nat) (p : Value) (w : World) (hc0 : cap ≠ 0) (hbk : w.heap[b]? = some (.cells #[p, .slice (some ⟨g, 0, none⟩) 0 cap] (ρ.t 72) (0, 0))) :
    Calls P (ρ.f 169) #[.pointer (some ⟨b, 0, none⟩)] w fun e w' => e = .returned (.string ⟨#[]⟩) ∧ Chg [] w w' := by
  have hUS := Any.unsafeString_none L X
  have c1 : w.drew.cell? ⟨b, 1, none⟩ = some (.slice (some ⟨g, 0, none⟩) 0 cap) := by
    have : w.drew.heap[b]? = some (.cells #[p, .slice (some ⟨g, 0, none⟩) 0 cap] (ρ.t 72) (0, 0)) := hbk
    rw [Lib.cell_of_heap this]; rfl
  have hSD : (Builtin.unsafeSliceData_ #[(ρ.t 37)] (ρ.t 127) #[.slice (some ⟨g, 0, none⟩) 0 cap]).run P w.drew = .ok (.pointer (some ⟨g, 0, none⟩)) w.drew :=
    Lib.run_unsafeSliceData_row _ _ _ _ _ _ hc0
  clear hc0
  have mixed := L.mixed
  have t72 := L.t72; have a72 := L.a72; have z72 := L.z72; have v72 := L.v72; have u72 := run_underlying L.t72
  have t70 := L.t70; have a70 := L.a70; have z70 := L.z70; have v70 := L.v70; have u70 := run_underlying L.t70
  have t37 := L.t37; have a37 := L.a37; have z37 := L.z37; have v37 := L.v37; have u37 := run_underlying L.t37
  have t127 := L.t127; have a127 := L.a127; have z127 := L.z127; have v127 := L.v127; have u127 := run_underlying L.t127
  have t3 := L.t3; have a3 := L.a3; have z3 := L.z3; have v3 := L.v3; have u3 := run_underlying L.t3
  have t9 := L.t9; have a9 := L.a9; have z9 := L.z9; have v9 := L.v9; have u9 := run_underlying L.t9
  have t5 := X.t5; have a5 := X.a5; have z5 := X.z5; have v5 := X.v5; have u5 := run_underlying X.t5
  go_enter L.f169, Body.n169_ntmps ρ
  go_wp2
  go_region_o
  all_goals (go_wp2; go_ret; exact ⟨rfl, (Chg.refl _ _).drewN 1⟩)

/-- (*strings.Builder).String: the builder is given up -/
theorem Bd.string {W w : World} {S R : List Own} {Φ : PW} [Stable Φ] {b : Nat} {l : List UInt8} (L : Lays.n169 P ρ) (X : Builder.Extra P ρ) (h : Bd (ρ.t 72) (ρ.t 5) b l R) (c : Ctx W w (R ++ S) Φ) {K : Ending → World → Prop}
    (hk : ∀ w', Ctx W w' S Φ → K (.returned (.string ⟨l.toArray⟩)) w') : Calls P (ρ.f 169) #[.pointer (some ⟨b, 0, none⟩)] w K := by
  obtain ⟨pa, p, cap, hpa, rfl⟩ := h
  have hbk : w.heap[b]? = some (.cells #[pa, .slice p l.length cap] (ρ.t 72) (0, 0)) := c.blk 0 rfl
  have hown : w.ownsRow 0 (ρ.t 5) 1 (.slice p l.length cap) l.length (Lib.byteCells l) := c.own _ (List.mem_cons_of_mem _ List.mem_cons_self)
  by_cases h0 : l = []
  · subst h0
    rcases hown.2 with ⟨e, _⟩ | ⟨g, cap', cur, e, _, hg, _⟩
    · cases e
      exact (builder_String_nil L X b pa w hbk).mono fun e w' ⟨he, hc⟩ => by subst he; exact hk w' (c.lose (hc.mono (by simp)))
    · cases e
      by_cases hc0 : cap = 0
      · subst hc0
        exact (builder_String_noroom L X b g pa cur w hbk hg).mono fun e w' ⟨he, hc⟩ => by subst he; exact hk w' (c.lose (hc.mono (by simp)))
      · exact (builder_String_room L X b g cap pa w hc0 hbk).mono fun e w' ⟨he, hc⟩ => by subst he; exact hk w' (c.lose (hc.mono (by simp)))
  · have hl0 : l.length ≠ 0 := by simpa using h0
    obtain ⟨g, rfl⟩ : ∃ g, p = some ⟨g, 0, none⟩ := by
      rcases hown.2 with ⟨_, hz⟩ | ⟨g, cap', cur, hv, _⟩
      · exact absurd hz hl0
      · cases hv; exact ⟨g, rfl⟩
    exact (builder_String_some L X b g cap pa l w h0 hbk hown).mono fun e w' ⟨he, hc⟩ => by subst he; exact hk w' (c.lose (hc.mono (by simp [dom, Own.dom])))

end

/-! ### tables -/
/-- a table of the library's, in a block that nobody writes -/
def Tab (P : Program) (name : String) (k : IntKind) (zs : List Int) : PW := fun M w => Lib.TabIs P w name k zs ∧ ∀ g, P.globalNamed name = some g → g ∉ M

instance instStableTab (P : Program) (name : String) (k : IntKind) (zs : List Int) : Stable (Tab P name k zs) := ⟨fun {M M' w w'} hs h => by
  obtain ⟨h1, h2⟩ := h
  unfold Lib.TabIs World.var? at h1
  cases hg : P.globalNamed name with
  | none => simp [hg] at h1
  | some g =>
    simp only [hg, Option.bind_some] at h1
    have hlt : g < w.heap.size := by
      rcases Nat.lt_or_ge g w.heap.size with h' | h'
      · exact h'
      · rw [Array.getElem?_eq_none h'] at h1; simp at h1
    refine ⟨?_, fun g' hg' hm => ?_⟩
    · unfold Lib.TabIs World.var?
      simp only [hg, Option.bind_some]
      rw [hs.chg.block g hlt (h2 g hg)]
      exact h1
    · rw [hg] at hg'
      cases hg'
      rcases hs.sub g hm with h | h
      · exact h2 g hg h
      · omega⟩

theorem Tab.start {P : Program} {name : String} {k : IntKind} {zs : List Int} {w : World} (h : Lib.TabIs P w name k zs) : Tab P name k zs [] w := ⟨h, fun _ _ => by simp⟩

theorem chg_grow {w : World} {k : Nat} {os : Array Obj} : Chg [] w (Sort.grow (w.drewN k) os) :=
  ⟨rfl, rfl, rfl, by show w.heap.size ≤ (w.heap ++ os).size; rw [Array.size_append]; omega, fun j hj _ => by
    show (w.heap ++ os)[j]? = w.heap[j]?
    rw [Array.getElem?_append_left hj]⟩

/-- strconv.Itoa -/
theorem itoa_in {P : Program} {f : FuncId} {Φ : PW} [Stable Φ] {name : String} (hI : ∀ (n : Int), -9223372036854775808 ≤ n → n ≤ 9223372036854775807 → ∀ w, Lib.TabIs P w name .u64 Lib.pow10Tab →
      Calls P f #[.int .i64 n] w fun e w' => e = .returned (.string ⟨(Lib.itoa n).toArray⟩) ∧ ∃ k os, w' = Sort.grow (w.drewN k) os)
    (hΦ : ∀ M w, Φ M w → Tab P name .u64 Lib.pow10Tab M w) (n : Int) (h : I64 n) : GivesIn Φ P f #[.int .i64 n] (.string ⟨(Lib.itoa n).toArray⟩) :=
  ⟨fun W w S c => (hI n (by unfold I64 at h; omega) (by unfold I64 at h; omega) w (hΦ _ _ c.phi).1).mono fun e w' ⟨he, k, os, hw⟩ => ⟨he, by rw [hw]; exact c.call chg_grow⟩⟩

/-! ### rows with laid tables -/
open Go.ChangeShapes Go.WideShapes Go.ChangeAt

/-- the row: true, and what came in reads as it did; tables are laid -/
theorem lawTrueLaid {H : Type} {enc : TypeId × Value → H} {C : Checked} {os : Os} {f : FuncId} {fn : Func} {s : ChangeSpec} {conds : List PathCond} {apart fresh handsOn : Bool} {tb : TypeId} {ld : List (String × DataW Unit)}
    (own : ownKnob C.prog.godebug = none) (started : os.Started) (noInit : C.prog.inits.idxOf? f = none) (hfn : C.prog.funcs[f]? = some fn)
    (laid : laidOutB C.prog = true) (hvars : s.vars = []) (hspec : ∀ ds : List (DataW H), ds.length = fn.params.toList.length → (s.fn H (ds ++ [])).results = [.lit (.bool true)] ∧ (s.fn H (ds ++ [])).args = ds ∧ (s.fn H (ds ++ [])).vars = [])
    (hres : fn.resultTypes = #[tb]) (htb : C.prog.underlying tb = some .bool)
    (types : (fn.params.toList.all fun t => C.prog.readableRec t && decide (t < C.prog.types.size)) = true)
    (witness : ∃ (w : World) (tape : Tape) (i : Input), w.os = os ∧ (w.forCall tape i).Shaped C.prog ∧ i.vars = [] ∧ Input.okWide C.prog (w.forCall tape i) .any w.heap.size f i ∧
      ((s.pre enc C.prog fn conds apart (w.forCall tape i).memory i.args ∧ laidMetH C.prog ld (w.forCall tape i).memory) ∧ sizedMet enc C.prog fn (OpenSpec.ofChange s) apart (w.forCall tape i).memory i.args) ∧ Assume.holds {} C.prog (lone (Frame.enter C.prog f i.args .normal) [] (w.forCall tape i)))
    (contract : ∀ (W : World) (base : Nat) (args : Array Value) (ds : List (DataW H)) (p : List MemPlace),
      (∀ (j : Nat) t v, fn.params[j]? = some t → args[j]? = some v → Value.okWide C.prog W .any base t v) →
      DataW.TrodAll enc C.prog W 0 (fun _ => true) true fn.params.toList args.toList ds p →
      conds.all (PathCond.test C.prog ⟨fn.params.toList, ds, s.plain.varTypes C.prog, []⟩) = true → laidMetH C.prog ld W →
      Calls C.prog f args W fun e W' => ∃ u, e = .returned u ∧ (u = .bool true ∧ Chg [] W W')) :
    ReturnsInHanded {} C os f .any (fun w args => (s.pre enc C.prog fn conds apart w args ∧ laidMetH C.prog ld w) ∧ sizedMet enc C.prog fn (OpenSpec.ofChange s) apart w args) (s.post enc C.prog fn apart fresh handsOn false) := by
  refine returnsInHanded_of_change_and (X := fun w _ => laidMetH C.prog ld w) (fun _ _ _ hh h => h.of_heap hh) own started noInit hfn witness ?_
  intro W base args ds gs before hval hW hcnd _ hL _
  have hW' := hW
  obtain ⟨p, q, hA, hV, rfl, _, _⟩ := hW
  rw [hvars] at hV
  obtain ⟨rfl, rfl⟩ := trodVars_none hV
  simp only [List.append_nil] at hW'
  refine (contract W base args ds p hval hA hcnd hL).mono fun e W' ⟨u, he, hu, hc⟩ => ?_
  subst he; subst hu
  have hb : Below W.heap.size W W' := hc.below (Nat.le_refl _) (by simp)
  obtain ⟨e1, e2, e3⟩ := hspec ds (trodAll_length hA).2
  refine ⟨_, rfl, ds, [], p, [], p, [], hW', ?_, ?_, ?_, hb.frame _, fun h => by cases h⟩
  · rw [e1, hres]
    exact trodAll_mk1 (t := tb) (v := .bool true) ⟨1, by simp [DataW.trod, Value.cells, htb]⟩
  · rw [e2]
    exact trodAll_below laid hb types hA (fun x hx => by simpa using hW'.lt x hx)
  · rw [e3, hvars]
    rfl

end Go.Vc
end

/-
  STEPS of a walk: a call whose contract is known, and what follows it.
-/
section
set_option linter.unusedVariables false
set_option linter.unusedSimpArgs false
namespace Go.Vc

section
variable {P : Program} {W w : World} {R G : List Own} {Φ Ψ : PW} {f : FuncId} {args : Array Value}

/-- what is known holds this, too -/
class Has (Φ Ψ : PW) : Prop where
  go : ∀ M w, Φ M w → Ψ M w
instance (priority := 2000) hasRefl (Φ : PW) : Has Φ Φ := ⟨fun _ _ h => h⟩
instance (priority := 900) hasL (A B Ψ : PW) [h : Has A Ψ] : Has (fun M w => A M w ∧ B M w) Ψ := ⟨fun M w x => h.go M w x.1⟩
instance (priority := 1000) hasR (A B Ψ : PW) [h : Has B Ψ] : Has (fun M w => A M w ∧ B M w) Ψ := ⟨fun M w x => h.go M w x.2⟩
instance hasTrue (Φ : PW) : Has Φ (fun _ _ => True) := ⟨fun _ _ _ => trivial⟩
instance (priority := 800) hasAnd (Φ A B : PW) [h : Has Φ A] [k : Has Φ B] : Has Φ (fun M w => A M w ∧ B M w) := ⟨fun M w x => ⟨h.go M w x, k.go M w x⟩⟩

theorem Ctx.has (c : Ctx W w R Φ) [h : Has Φ Ψ] : Ctx W w R Ψ := c.weak h.go

theorem GivesSl.to [Stable Φ] {α : Type} [Gv α] {l : List α} (h : GivesSl Φ P f args l id) (c : Ctx W w (R ++ G) Φ) {K : Option Addr → Nat → Nat → List Own → PW → Prop}
    (hk : ∀ p cap, l.length ≤ cap → cap ≤ maxLen → Stable (fun M w => Φ M w ∧ Sl M w p l) → K p l.length cap R (fun M w => Φ M w ∧ Sl M w p l)) :
    Calls P f args w fun e w' => ∃ p n c, e = .returned (.slice p n c) ∧ ∃ R' Φ', Stable Φ' ∧ Ctx W w' (R' ++ G) Φ' ∧ K p n c R' Φ' :=
  h.use c fun p cap w' h1 h2 c => ⟨p, _, cap, rfl, R, _, inferInstance, c, hk p cap h1 h2 inferInstance⟩

theorem GivesIn.toB [Stable Φ] {b : Bool} (h : GivesIn Φ P f args (.bool b)) (c : Ctx W w (R ++ G) Φ) {K : Bool → List Own → PW → Prop} (hk : K b R Φ) :
    Calls P f args w fun e w' => ∃ c, e = .returned (.bool c) ∧ ∃ R' Φ', Stable Φ' ∧ Ctx W w' (R' ++ G) Φ' ∧ K c R' Φ' :=
  h.use c fun w' c => ⟨b, rfl, R, Φ, inferInstance, c, hk⟩
theorem GivesIn.toI [Stable Φ] {n : Int} {k : IntKind} (h : GivesIn Φ P f args (.int k n)) (c : Ctx W w (R ++ G) Φ) {K : Int → List Own → PW → Prop} (hk : K n R Φ) :
    Calls P f args w fun e w' => ∃ c, e = .returned (.int k c) ∧ ∃ R' Φ', Stable Φ' ∧ Ctx W w' (R' ++ G) Φ' ∧ K c R' Φ' :=
  h.use c fun w' c => ⟨n, rfl, R, Φ, inferInstance, c, hk⟩
theorem GivesIn.toS [Stable Φ] {s : ByteArray} (h : GivesIn Φ P f args (.string s)) (c : Ctx W w (R ++ G) Φ) {K : ByteArray → List Own → PW → Prop} (hk : K s R Φ) :
    Calls P f args w fun e w' => ∃ c, e = .returned (.string c) ∧ ∃ R' Φ', Stable Φ' ∧ Ctx W w' (R' ++ G) Φ' ∧ K c R' Φ' :=
  h.use c fun w' c => ⟨s, rfl, R, Φ, inferInstance, c, hk⟩

theorem GivesIn.toBW [hs : Stable Ψ] {b : Bool} (h : GivesIn Φ P f args (.bool b)) (c : Ctx W w (R ++ G) Φ) [hw : Has Φ Ψ] {K : Bool → List Own → PW → Prop} (hk : K b R Ψ) :
    Calls P f args w fun e w' => ∃ c, e = .returned (.bool c) ∧ ∃ R' Φ', Stable Φ' ∧ Ctx W w' (R' ++ G) Φ' ∧ K c R' Φ' :=
  h.use c fun w' c => ⟨b, rfl, R, Ψ, inferInstance, c.has, hk⟩

/-- .. with the place of the slice -/
theorem GivesSl.tot [Stable Φ] {α : Type} [Gv α] {l : List α} (h : GivesSl Φ P f args l id) (c : Ctx W w (R ++ G) Φ) {K : Option Addr → Nat → Nat → List Own → PW → Prop}
    (hk : ∀ p cap, l.length ≤ cap → cap ≤ maxLen → There p l.length → Stable (fun M w => Φ M w ∧ Sl M w p l) → K p l.length cap R (fun M w => Φ M w ∧ Sl M w p l)) :
    Calls P f args w fun e w' => ∃ p n c, e = .returned (.slice p n c) ∧ ∃ R' Φ', Stable Φ' ∧ Ctx W w' (R' ++ G) Φ' ∧ K p n c R' Φ' :=
  h.use c fun p cap w' h1 h2 c => ⟨p, _, cap, rfl, R, _, inferInstance, c, hk p cap h1 h2 c.phi.2.there inferInstance⟩
/-- the end -/
theorem fin [Stable Φ] [Stable Ψ] [hw : Has Ψ Φ] {v : Value} (c : Ctx W w (R ++ G) Ψ) : v = v ∧ Ctx W w R Φ := ⟨rfl, (Ctx.has c).left⟩

end
end Go.Vc
end

/-
  Ints: a sort of few, and the other functions on lists of ints, walked.
-/
section
set_option linter.unusedVariables false
set_option linter.unusedSimpArgs false
namespace Go.Proofs.YtbkpfhhhbhaecaaDoor
open Go.Vc


abbrev intv (x : Int) : Value := .int .i64 x
abbrev bufZ (p : Option Addr) (cap : Nat) (zs : List Int) : Own := .buf p zs.length cap (zs.map intv) 3 1
abbrev leZ (c : Int → Int → Int) (x y : Int) : Prop := c x y ≤ 0
def CmpZ (Φ : PW) (f : FuncId) (cp : Array Value) (c : Int → Int → Int) (G : Int → Prop) : Prop := okFun Tryd.prog f = true ∧ ∀ x y : Int, G x → G y → GivesIn Φ Tryd.prog f (Array.mk (intv x :: intv y :: cp.toList)) (.int .i64 (c x y))

section
variable {W w w' : World} {S : List Own} {Φ : PW} {p : Option Addr} {g cap : Nat} {zs : List Int} {i : Nat} {x : Int}
theorem z_ptr (cx : Ctx W w (bufZ p cap zs :: S) Φ) (h : 0 < zs.length) : ∃ g, p = some ⟨g, 0, none⟩ := by
  obtain ⟨g, hg, _⟩ := cx.bufCell 0 rfl (by rw [List.length_map]; exact h)
  exact ⟨g, hg⟩
theorem z_get (cx : Ctx W w (bufZ (some ⟨g, 0, none⟩) cap zs :: S) Φ) (hX : zs[i]? = some x) : w.cell? ⟨g, i, none⟩ = some (.int .i64 x) :=
  cx.bufGet 0 rfl rfl (by rw [List.getElem?_map, hX]; rfl)
theorem z_can (cx : Ctx W w (bufZ (some ⟨g, 0, none⟩) cap zs :: S) Φ) (hi : i < zs.length) : CanWrite w g i 1 :=
  cx.bufCan 0 rfl rfl (by rw [List.length_map]; omega)
theorem z_put [Stable Φ] (cx : Ctx W w (bufZ (some ⟨g, 0, none⟩) cap zs :: S) Φ) (hi : i < zs.length) (e : w' = w.setCell ⟨g, i, none⟩ (intv x)) : Ctx W w' (bufZ (some ⟨g, 0, none⟩) cap (zs.set i x) :: S) Φ := by
  have h := cx.bufPuts 0 rfl rfl (vs := [intv x]) (o := i) (by rw [List.length_map]; omega) (by rw [List.length_map]; simp only [List.length_cons, List.length_nil]; omega) e
  have hs : setL (zs.map intv) i [intv x] = (zs.set i x).map intv := by
    show (zs.map intv).set i (intv x) = _
    rw [List.map_set]
  rw [hs] at h
  have hl : (zs.set i x).length = zs.length := List.length_set
  unfold bufZ
  rw [hl]
  exact h
theorem z_swap [Stable Φ] {es : List Int} {i j : Nat} {X Y : Int} (hX : es[i]? = some X) (hY : es[j]? = some Y) {w1 : World} (cx : Ctx W w (bufZ (some ⟨g, 0, none⟩) cap es :: S) Φ) (e : w1 = w.setCell ⟨g, i, none⟩ (intv Y)) :
    Ctx W w1 (bufZ (some ⟨g, 0, none⟩) cap (es.set i Y) :: S) Φ := z_put cx (List.getElem?_eq_some_iff.1 hX).1 e
theorem z_swap2 {w2 w3 : World} [Stable Φ] {es : List Int} {i j : Nat} {X Y : Int} (hX : es[i]? = some X) (hY : es[j]? = some Y) (cx : Ctx W w2 (bufZ (some ⟨g, 0, none⟩) cap (es.set i Y) :: S) Φ) (e : w3 = w2.setCell ⟨g, j, none⟩ (intv X)) :
    Ctx W w3 (bufZ (some ⟨g, 0, none⟩) cap (swp es i j) :: S) Φ := by
  obtain ⟨hi, rfl⟩ := List.getElem?_eq_some_iff.1 hX
  obtain ⟨hj, rfl⟩ := List.getElem?_eq_some_iff.1 hY
  rw [swp_eq hi hj]
  exact z_put cx (by simpa using hj) e
end

/-! ### insertionSort -/
set_option maxHeartbeats 2000000 in
theorem insertionZ_use {W w : World} {S : List Own} {Φ : PW} [Stable Φ] {p : Option Addr} {cap N : Nat} {f : FuncId} {cp : Array Value} {c : Int → Int → Int} (ord : Ord (leZ c)) (tot : ∀ x y, ¬ c x y < 0 → leZ c y x) {P : Int → Prop} (hf : CmpZ Φ f cp c P) (u x z : List Int) (hP : ∀ e ∈ x, P e) (cx : Ctx W w (bufZ p cap (u ++ x ++ z) :: S) Φ) (hN : N = (u ++ x ++ z).length)
    (hlen : (u ++ x ++ z).length ≤ 100000000) {a b : Int} (ha : a = u.length) (hb : b = u.length + x.length) {K : Ending → World → Prop}
    (hK : ∀ x' w', x'.Perm x → Asc (leZ c) x' → Ctx W w' (bufZ p cap (u ++ x' ++ z) :: S) Φ → K (.returned (.tuple #[])) w') : Calls Tryd.prog F.slices_insertionSortCmpFunc_int #[.slice p N cap, .int .i64 a, .int .i64 b, .func (.func f) #[] cp] w K := by
  subst hN ha hb
  have hl : (u ++ x ++ z).length = u.length + x.length + z.length := by simp; omega
  refine (Bslices_insertionSortCmpFunc_int_run p (u ++ x ++ z).length cap u.length ((u.length : Int) + x.length) f cp (J := fun u w' => K (.returned u) w') cx ?_).mono fun e w' ⟨v, he, hj⟩ => by rw [he]; exact hj
  have hp : 0 < x.length → ∃ g, p = some ⟨g, 0, none⟩ := fun h => z_ptr cx (by omega)
  refine ⟨by unfold I64; omega, ?_⟩
  refine exI_mk (fun i R' Φ' k => ∃ (s r : List Int), i = (u.length : Int) + max s.length 1 ∧ (s ++ r).Perm x ∧ Asc (leZ c) s ∧ (s.length = 0 → r = []) ∧ R' = bufZ p cap (u ++ s ++ r ++ z) :: S ∧ Φ' = Φ ∧ k = r.length)
    ⟨⟨bufZ p cap (u ++ x.take 1 ++ x.drop 1 ++ z) :: S, Φ, (x.drop 1).length, inferInstance, fun w G cx => cx.re (by rw [List.append_assoc u (x.take 1), List.take_append_drop]), x.take 1, x.drop 1, by rw [List.length_take]; omega, by rw [List.take_append_drop], ?_, fun h => ?_, rfl, rfl, rfl⟩, ?_⟩
  · cases x with
    | nil => simp
    | cons e x => simp
  · have : x = [] := by
      cases x with
      | nil => rfl
      | cons e x => simp at h
    rw [this]; rfl
  clear cx
  rintro _ R1 Φ1 k _ ⟨s, r, rfl, hperm, hasc, hnil, rfl, rfl, rfl⟩
  have hlp := hperm.length_eq
  rw [List.length_append] at hlp
  refine Br.intro (fun hlt => ?_) (fun hge => fun w G cx => ?_)
  · have hlt := of_decide_eq_true hlt
    have hs0 : 0 < s.length := by
      rcases Nat.eq_zero_or_pos s.length with h | h
      · have := hnil h; rw [this] at hlp; simp at hlp; omega
      · exact h
    obtain ⟨e, r, rfl⟩ : ∃ e r', r = e :: r' := by
      cases r with
      | nil => simp at hlp; omega
      | cons e r' => exact ⟨e, r', rfl⟩
    simp only [List.length_cons] at hlp
    obtain ⟨g, rfl⟩ := hp (by omega)
    have hPe : P e := hP e (hperm.mem_iff.1 (by simp))
    have hPs : ∀ y ∈ s, P y := fun y hy => hP y (hperm.mem_iff.1 (by simp [hy]))
    -- the element goes down
    refine exI_mk (fun j R' Φ' k => ∃ s1 s2 : List Int, j = (u.length : Int) + s1.length ∧ s = s1 ++ s2 ∧ (∀ y ∈ s2, (leZ c) e y) ∧ R' = bufZ (some ⟨g, 0, none⟩) cap (u ++ s1 ++ e :: s2 ++ r ++ z) :: S ∧ Φ' = Φ1 ∧ k = s1.length)
      ⟨⟨_, Φ1, _, inferInstance, fun w G cx => cx.re (by simp), s, [], by omega, by simp, by simp, rfl, rfl, rfl⟩, ?_⟩
    rintro _ R2 Φ2 k _ ⟨s1, s2, rfl, rfl, hle, rfl, rfl, rfl⟩
    simp only [List.length_append] at hlp hlt hs0
    have hEl : (u ++ s1 ++ e :: s2 ++ r ++ z).length = u.length + s1.length + 1 + s2.length + r.length + z.length := by simp; omega
    have next : Asc (leZ c) (s1 ++ e :: s2) → ((u.length : Int) + max (s1 ++ s2).length 1 + 1 = (u.length : Int) + max (s1 ++ e :: s2).length 1) ∧ ((s1 ++ e :: s2) ++ r).Perm x := fun _ => by
      refine ⟨by simp only [List.length_append, List.length_cons]; omega, ?_⟩
      refine List.Perm.trans ?_ hperm
      simp only [List.append_assoc, List.cons_append]
      refine List.Perm.append_left _ ?_
      exact (List.perm_middle (l₁ := s2)).symm
    refine ⟨bufZ (some ⟨g, 0, none⟩) cap (u ++ s1 ++ e :: s2 ++ r ++ z) :: S, Φ2, inferInstance, fun w G cx => cx, Br.intro (fun hj => ?_) (fun hj => ?_)⟩
    · have hj := of_decide_eq_true hj
      have hs1 : s1 ≠ [] := fun h => by rw [h] at hj; simp at hj
      obtain ⟨t, y, rfl⟩ : ∃ t y, s1 = t ++ [y] := ⟨s1.dropLast, s1.getLast hs1, (List.dropLast_concat_getLast hs1).symm⟩
      simp only [List.length_append, List.length_cons, List.length_nil] at hlp hlt
      clear hEl
      obtain ⟨E, hE⟩ : ∃ E, u ++ (t ++ [y]) ++ e :: s2 ++ r ++ z = E := ⟨_, rfl⟩
      have hE' : E = (u ++ t) ++ y :: e :: (s2 ++ r ++ z) := by rw [← hE]; simp
      have hX : E[u.length + t.length + 1]? = some e := by
        rw [hE', List.getElem?_append_right (by simp)]
        simp
      have hY : E[u.length + t.length]? = some y := by
        rw [hE', List.getElem?_append_right (by simp)]
        simp
      have hsw : swp E (u.length + t.length + 1) (u.length + t.length) = (u ++ t) ++ e :: y :: (s2 ++ r ++ z) := by
        have h1 := swp_next (u ++ t) y e (s2 ++ r ++ z)
        rw [← h1, hE', List.length_append]
        have hi : u.length + t.length < ((u ++ t) ++ y :: e :: (s2 ++ r ++ z)).length := by simp
        have hj' : u.length + t.length + 1 < ((u ++ t) ++ y :: e :: (s2 ++ r ++ z)).length := by simp; omega
        rw [swp_eq hj' hi, swp_eq hi hj', List.set_comm _ _ (by omega)]
      have hEl : E.length = u.length + t.length + 2 + s2.length + r.length + z.length := by rw [hE']; simp; omega
      rw [hE]
      have n1 : ((u.length : Int) + ((t ++ [y]).length : Nat)).toNat = u.length + t.length + 1 := by simp; omega
      have n2 : ((u.length : Int) + ((t ++ [y]).length : Nat) - 1).toNat = u.length + t.length := by simp; omega
      have nl : ((t ++ [y]).length : Int) = t.length + 1 := by simp
      have hcall := hf.2 e y hPe (hPs y (by simp))
      refine ⟨by omega, ptrK_intro g 0 rfl ⟨by unfold I64; omega, e, fun w G cx => ⟨_, by rw [Nat.zero_add, n1]; exact z_get cx hX, rfl⟩, by omega, ptrK_intro g 0 rfl ⟨y, fun w G cx => ⟨_, by rw [Nat.zero_add, n2]; exact z_get cx hY, rfl⟩, fun w G cx => ⟨hf.1, hcall.use cx fun w cx => ⟨_, rfl, bufZ (some ⟨g, 0, none⟩) cap E :: S, Φ2, inferInstance, cx, Br.intro (fun hc => ?_) (fun hc => ?_)⟩⟩⟩⟩⟩
      · have hc := of_decide_eq_true hc
        refine ⟨[], fun _ _ => True, inferInstance, fun w G cx => (cx.weak fun _ _ _ => trivial).right, by unfold I64; omega, by unfold I64; omega, by omega, ptrK_intro g 0 rfl ⟨by omega, ptrK_intro g 0 rfl fun w G cx => ⟨e, by rw [Nat.zero_add, n1]; exact z_get cx hX, fun w G cx => ⟨y, by rw [Nat.zero_add, n2]; exact z_get cx hY, by omega, ptrK_intro g 0 rfl fun w G cx => ⟨by rw [Nat.zero_add, n1]; exact z_can cx (by omega), fun w' hw' => ?_⟩⟩⟩⟩⟩
        rw [Nat.zero_add, n1] at hw'
        refine ⟨bufZ (some ⟨g, 0, none⟩) cap (E.set (u.length + t.length + 1) y) :: S, Φ2, inferInstance, z_swap hX hY cx hw', fun w G cx => (cx.weak fun _ _ _ => trivial).right, by omega, ptrK_intro g 0 rfl fun w G cx => ⟨by rw [Nat.zero_add, n2]; exact z_can cx (by rw [List.length_set]; omega), fun w' hw' => ?_⟩⟩
        rw [Nat.zero_add, n2] at hw'
        have cx2 := z_swap2 hX hY cx hw'
        rw [hsw] at cx2
        refine ⟨bufZ (some ⟨g, 0, none⟩) cap ((u ++ t) ++ e :: y :: (s2 ++ r ++ z)) :: S, Φ2, inferInstance, cx2, fun w G cx => (cx.weak fun _ _ _ => trivial).right, by unfold I64; omega, bufZ (some ⟨g, 0, none⟩) cap (u ++ t ++ e :: (y :: s2) ++ r ++ z) :: S, Φ2, t.length, inferInstance, fun w G cx => cx.re (by simp), ⟨t, y :: s2, by omega, by simp, fun q hq => ?_, rfl, rfl, rfl⟩, by omega⟩
        rcases List.mem_cons.1 hq with rfl | hq
        · exact (show leZ c _ _ by unfold leZ; omega)
        · exact hle q hq
      · have hc := of_decide_eq_false hc
        have hye := tot _ _ hc
        have has : Asc (leZ c) ((t ++ [y]) ++ e :: s2) := by
          refine asc_put hasc (fun q hq => ?_) hle
          have h1 := (List.pairwise_append.1 hasc).1
          rcases List.mem_append.1 hq with hq | hq
          · exact ord.trans _ _ _ ((List.pairwise_append.1 h1).2.2 q hq y (by simp)) hye
          · rw [List.mem_singleton.1 hq]; exact hye
        obtain ⟨q1, q2⟩ := next has
        refine ⟨by unfold I64; simp only [List.length_append, List.length_cons, List.length_nil]; omega, bufZ (some ⟨g, 0, none⟩) cap (u ++ (t ++ [y] ++ e :: s2) ++ r ++ z) :: S, Φ2, r.length, inferInstance, fun w G cx => cx.re (by rw [← hE]; simp), ⟨t ++ [y] ++ e :: s2, r, q1, q2, has, fun h => by simp at h, rfl, rfl, rfl⟩, by simp⟩
    · have hj := of_decide_eq_false hj
      have hs1 : s1 = [] := List.eq_nil_of_length_eq_zero (by omega)
      subst hs1
      have has : Asc (leZ c) ([] ++ e :: s2) := asc_put hasc (by simp) hle
      obtain ⟨q1, q2⟩ := next has
      exact ⟨by unfold I64; simp only [List.length_append]; omega, bufZ (some ⟨g, 0, none⟩) cap (u ++ ([] ++ e :: s2) ++ r ++ z) :: S, Φ2, r.length, inferInstance, fun w G cx => cx.re (by simp), ⟨[] ++ e :: s2, r, q1, q2, has, fun h => by simp at h, rfl, rfl, rfl⟩, by simp⟩
  · have hge := of_decide_eq_false hge
    have hr : r = [] := by
      rcases Nat.eq_zero_or_pos s.length with h | h
      · exact hnil h
      · exact List.eq_nil_of_length_eq_zero (by omega)
    subst hr
    rw [List.append_nil] at hperm
    exact hK s w hperm hasc (cx.left.re (by simp))


/-! ### a stable sort of few -/
theorem SortZ_use {W w : World} {S : List Own} {Φ : PW} [Stable Φ] {p : Option Addr} {cap N : Nat} {f : FuncId} {cp : Array Value} {c : Int → Int → Int} (ord : Ord (leZ c)) (tot : ∀ x y, ¬ c x y < 0 → leZ c y x) {P : Int → Prop} (hf : CmpZ Φ f cp c P) (x : List Int) (hP : ∀ e ∈ x, P e) (cx : Ctx W w (bufZ p cap x :: S) Φ) (hN : N = x.length)
    (hlen : x.length < 20) {K : Ending → World → Prop} (hK : ∀ x' w', x'.Perm x → Asc (leZ c) x' → Ctx W w' (bufZ p cap x' :: S) Φ → K (.returned (.tuple #[])) w') : Calls Tryd.prog F.slices_SortStableFunc_int_int #[.slice p N cap, .func (.func f) #[] cp] w K := by
  subst hN
  refine (Bslices_SortStableFunc_int_int_run p x.length cap f cp (J := fun u w' => K (.returned u) w') (R := bufZ p cap x :: S) cx ?_).mono fun e w' ⟨v, he, hj⟩ => by rw [he]; exact hj
  clear cx
  intro w G cx
  refine (Bslices_stableCmpFunc_int_run p x.length cap (x.length : Int) f cp (J := fun u w' => (Ending.returned u) = .returned (.tuple #[]) ∧ ∃ R' Φ', Stable Φ' ∧ Ctx W w' (R' ++ G) Φ' ∧ ∀ w F1, Ctx W w (R' ++ F1) Φ' → K (.returned (.tuple #[])) w) (R := bufZ p cap x :: (S ++ G)) cx ?_).mono fun e w' ⟨v, he, hj⟩ => by rw [he]; exact hj
  clear cx
  refine exI_mk (fun i j R' Φ' k => i = 0 ∧ j = 20 ∧ R' = bufZ p cap x :: (S ++ G) ∧ Φ' = Φ ∧ k = 0) ⟨⟨_, Φ, _, inferInstance, fun w G cx => cx, rfl, rfl, rfl, rfl, rfl⟩, ?_⟩
  rintro _ _ R1 Φ1 k _ ⟨rfl, rfl, rfl, rfl, rfl⟩
  refine Br.intro (fun h => by have := of_decide_eq_true h; omega) (fun _ => fun w G2 cx => ?_)
  refine insertionZ_use (S := S ++ G ++ G2) ord tot hf [] x [] hP (cx.re (by simp)) (by simp) (by simp; omega) (a := 0) (b := (x.length : Int)) (by simp) (by simp) fun x' w' hp ha cx => ⟨rfl, bufZ p cap x' :: (S ++ G), Φ1, inferInstance, cx.re (by simp), ?_⟩
  refine exI_mk (fun i R' Φ' k => i = 20 ∧ R' = bufZ p cap x' :: (S ++ G) ∧ Φ' = Φ1 ∧ k = 0) ⟨⟨_, Φ1, _, inferInstance, fun w G cx => cx, rfl, rfl, rfl, rfl⟩, ?_⟩
  rintro _ R2 Φ2 k _ ⟨rfl, rfl, rfl, rfl⟩
  exact Br.intro (fun h => by have := of_decide_eq_true h; omega) (fun _ => fun w G3 cx => ⟨rfl, bufZ p cap x' :: S, Φ2, inferInstance, (cx.re (by simp) : Ctx W w ((bufZ p cap x' :: S) ++ G ++ G3) Φ2).left, fun w F1 cx => hK x' w hp ha cx.left⟩)

end Go.Proofs.YtbkpfhhhbhaecaaDoor
end

/-
  Places, in plain Lean.
-/
section
set_option linter.unusedVariables false
set_option linter.unusedSimpArgs false
namespace Go.Proofs.YtbkpfhhhbhaecaaDoor
open Go.Vc


/-! ### counting -/
def shareP (p : List Int) (w : Nat) : Nat := p.count (w : Int)
def sumF (f : Nat → Nat) : Nat → Nat
  | 0 => 0
  | n + 1 => sumF f n + f n
theorem sumF_congr {f g : Nat → Nat} : ∀ {n : Nat}, (∀ i, i < n → f i = g i) → sumF f n = sumF g n
  | 0, _ => rfl
  | n + 1, h => by rw [sumF, sumF, sumF_congr (n := n) fun i hi => h i (by omega), h n (by omega)]
theorem sumF_le {f g : Nat → Nat} : ∀ {n : Nat}, (∀ i, i < n → f i ≤ g i) → sumF f n ≤ sumF g n
  | 0, _ => Nat.le_refl _
  | n + 1, h => Nat.add_le_add (sumF_le (n := n) fun i hi => h i (by omega)) (h n (by omega))
theorem sumF_add (f g : Nat → Nat) : ∀ n : Nat, sumF (fun i => f i + g i) n = sumF f n + sumF g n
  | 0 => rfl
  | n + 1 => by simp only [sumF, sumF_add f g n]; omega
theorem sumF_const (k : Nat) : ∀ n : Nat, sumF (fun _ => k) n = n * k
  | 0 => by simp [sumF]
  | n + 1 => by simp only [sumF, sumF_const k n, Nat.add_mul]; omega
/-- one term changes -/
theorem sumF_set {f g : Nat → Nat} {w : Nat} : ∀ {n : Nat}, w < n → (∀ i, i ≠ w → g i = f i) → sumF g n + f w = sumF f n + g w
  | 0, h, _ => by omega
  | n + 1, h, hg => by
    simp only [sumF]
    by_cases hn : w = n
    · subst hn
      rw [sumF_congr (f := g) (g := f) fun i hi => hg i (by omega)]; omega
    · have := sumF_set (n := n) (by omega) hg
      rw [hg n (by omega)]; omega
theorem sumF_pos {f : Nat → Nat} : ∀ {n : Nat}, 0 < sumF f n → ∃ i, i < n ∧ 0 < f i
  | 0, h => by simp [sumF] at h
  | n + 1, h => by
    simp only [sumF] at h
    by_cases hf : 0 < f n
    · exact ⟨n, by omega, hf⟩
    · obtain ⟨i, hi, h2⟩ := sumF_pos (f := f) (n := n) (by omega)
      exact ⟨i, by omega, h2⟩
/-- values below n: the shares add up to the length -/
theorem count_sum {n : Nat} : ∀ {p : List Int}, (∀ x ∈ p, 0 ≤ x ∧ x < n) → sumF (shareP p) n = p.length
  | [], _ => by
    exact (sumF_congr (g := fun _ => 0) fun i _ => rfl).trans (by rw [sumF_const]; rfl)
  | x :: p, h => by
    obtain ⟨h1, h2⟩ := h x (by simp)
    have ih := count_sum (n := n) (p := p) fun y hy => h y (by simp [hy])
    obtain ⟨m, rfl⟩ : ∃ m : Nat, x = (m : Int) := ⟨x.toNat, by omega⟩
    have h3 := sumF_set (f := shareP p) (g := shareP ((m : Int) :: p)) (w := m) (n := n) (by omega) fun i hi => by
      unfold shareP
      rw [List.count_cons_of_ne (by omega)]
    have h4 : shareP ((m : Int) :: p) m = shareP p m + 1 := by unfold shareP; rw [List.count_cons_self]
    rw [List.length_cons]; omega
/-! ### keeping what there is room for -/
/-- one bucket after the other: kept if its worker is there and has room -/
def keepG (W : Nat) : List Int → (Nat → Nat) → List Bool × (Nat → Nat)
  | [], room => ([], room)
  | x :: p, room =>
    if x < W ∧ 0 < room x.toNat then (true :: (keepG W p (fun i => if i = x.toNat then room i - 1 else room i)).1, (keepG W p (fun i => if i = x.toNat then room i - 1 else room i)).2)
    else (false :: (keepG W p room).1, (keepG W p room).2)
/-- how many are kept at a worker -/
def keptAt : List Int → List Bool → Nat → Nat
  | x :: p, c :: fl, w => (if c = true ∧ x = (w : Int) then 1 else 0) + keptAt p fl w
  | _, _, _ => 0

theorem keepG_len (W : Nat) : ∀ (p : List Int) (room : Nat → Nat), (keepG W p room).1.length = p.length
  | [], _ => rfl
  | x :: p, room => by
    unfold keepG
    split
    · simp only [List.length_cons, keepG_len W p]
    · simp only [List.length_cons, keepG_len W p]
theorem keepG_room (W : Nat) : ∀ (p : List Int) (room : Nat → Nat), (∀ x ∈ p, 0 ≤ x) → ∀ w, w < W → (keepG W p room).2 w = room w - shareP p w
  | [], room, _, w, _ => by simp [keepG, shareP]
  | x :: p, room, h, w, hw => by
    have h0 := h x (by simp)
    have ih := fun r => keepG_room W p r (fun y hy => h y (by simp [hy])) w hw
    have hc : shareP (x :: p) w = shareP p w + if x = (w : Int) then 1 else 0 := by
      unfold shareP
      rw [List.count_cons]
      congr 1
      by_cases hx : x = (w : Int)
      · simp [hx]
      · simp [hx]
    unfold keepG
    split
    · rename_i hk
      simp only
      rw [ih, hc]
      by_cases hx : x = (w : Int)
      · rw [if_pos (by omega), if_pos hx]; omega
      · rw [if_neg (by omega), if_neg hx]; omega
    · rename_i hk
      simp only
      rw [ih, hc]
      by_cases hx : x = (w : Int)
      · rw [if_pos hx]
        have : room w = 0 := by
          subst hx
          rw [Int.toNat_natCast] at hk
          omega
        omega
      · rw [if_neg hx]; omega
theorem keepG_at (W : Nat) : ∀ (p : List Int) (room : Nat → Nat), (∀ x ∈ p, 0 ≤ x) → ∀ w, w < W → keptAt p (keepG W p room).1 w + (keepG W p room).2 w = room w
  | [], room, _, w, _ => by simp [keepG, keptAt]
  | x :: p, room, h, w, hw => by
    have h0 := h x (by simp)
    have ih := fun r => keepG_at W p r (fun y hy => h y (by simp [hy])) w hw
    unfold keepG
    split
    · rename_i hk
      simp only [keptAt]
      have := ih (fun i => if i = x.toNat then room i - 1 else room i)
      by_cases hx : x = (w : Int)
      · rw [if_pos ⟨trivial, hx⟩]
        subst hx
        rw [Int.toNat_natCast] at hk this ⊢
        rw [if_pos rfl] at this
        omega
      · rw [if_neg (fun h => hx h.2)]
        rw [if_neg (by omega)] at this
        omega
    · simp only [keptAt]
      rw [if_neg (fun h => by cases h.1), Nat.zero_add]
      exact ih room
/-- what is not kept has no worker, or one that is full -/
theorem keepG_not (W : Nat) : ∀ (p : List Int) (room : Nat → Nat), (∀ x ∈ p, 0 ≤ x) → ∀ j (hj : j < p.length), (keepG W p room).1[j]? = some false → (W : Int) ≤ p[j] ∨ (keepG W p room).2 p[j].toNat = 0
  | [], _, _, j, hj, _ => by simp at hj
  | x :: p, room, h, j, hj, hf => by
    have h0 := h x (by simp)
    have hp : ∀ y ∈ p, 0 ≤ y := fun y hy => h y (by simp [hy])
    unfold keepG at hf ⊢
    split at hf
    · rename_i hk
      rw [if_pos hk]
      simp only at hf ⊢
      cases j with
      | zero => simp at hf
      | succ j => exact keepG_not W p _ hp j (by simpa using hj) (by simpa using hf)
    · rename_i hk
      rw [if_neg hk]
      simp only at hf ⊢
      cases j with
      | zero =>
        simp only [List.getElem_cons_zero]
        by_cases hx : x < W
        · right
          have hr := keepG_room W p room hp x.toNat (by omega)
          have : room x.toNat = 0 := by omega
          omega
        · left; omega
      | succ j => exact keepG_not W p _ hp j (by simpa using hj) (by simpa using hf)
theorem keepG_yes (W : Nat) : ∀ (p : List Int) (room : Nat → Nat) (j : Nat) (hj : j < p.length), (keepG W p room).1[j]? = some true → p[j] < (W : Int)
  | [], _, j, hj, _ => by simp at hj
  | x :: p, room, j, hj, hf => by
    unfold keepG at hf
    split at hf
    · rename_i hk
      simp only at hf
      cases j with
      | zero => exact hk.1
      | succ j => exact keepG_yes W p _ j (by simpa using hj) (by simpa using hf)
    · simp only at hf
      cases j with
      | zero => simp at hf
      | succ j => exact keepG_yes W p _ j (by simpa using hj) (by simpa using hf)

/-- the first worker with room -/
def firstG (room : Nat → Nat) : Nat → Nat → Nat
  | 0, i => i
  | n + 1, i => if 0 < room i then i else firstG room n (i + 1)
theorem firstG_spec (room : Nat → Nat) : ∀ (n i : Nat), (∃ j, i ≤ j ∧ j < i + n ∧ 0 < room j) → i ≤ firstG room n i ∧ firstG room n i < i + n ∧ 0 < room (firstG room n i)
  | 0, i, h => by obtain ⟨j, h1, h2, _⟩ := h; omega
  | n + 1, i, h => by
    unfold firstG
    split
    · rename_i h0
      exact ⟨Nat.le_refl _, by omega, h0⟩
    · rename_i h0
      obtain ⟨j, h1, h2, h3⟩ := h
      have : i ≠ j := fun e => h0 (by rw [e]; exact h3)
      have := firstG_spec room n (i + 1) ⟨j, by omega, by omega, h3⟩
      omega

/-- the others are given to the first worker with room -/
def fillG (W : Nat) : List Int → List Bool → (Nat → Nat) → List Int
  | x :: p, true :: fl, room => x :: fillG W p fl room
  | _ :: p, false :: fl, room => (firstG room W 0 : Int) :: fillG W p fl (fun i => if i = firstG room W 0 then room i - 1 else room i)
  | _, _, _ => []
def missing (fl : List Bool) : Nat := fl.count false

theorem fillG_len (W : Nat) : ∀ (p : List Int) (fl : List Bool) (room : Nat → Nat), fl.length = p.length → (fillG W p fl room).length = p.length
  | [], [], _, _ => rfl
  | [], _ :: _, _, h => by simp at h
  | _ :: _, [], _, h => by simp at h
  | x :: p, true :: fl, room, h => by simp only [fillG, List.length_cons, fillG_len W p fl room (by simpa using h)]
  | x :: p, false :: fl, room, h => by simp only [fillG, List.length_cons, fillG_len W p fl _ (by simpa using h)]

theorem room_step {W : Nat} {room : Nat → Nat} {m : Nat} (h : sumF room W = m + 1) : firstG room W 0 < W ∧ 0 < room (firstG room W 0) ∧ sumF (fun i => if i = firstG room W 0 then room i - 1 else room i) W = m := by
  obtain ⟨j, h1, h2⟩ := sumF_pos (f := room) (n := W) (by omega)
  obtain ⟨_, g1, g2⟩ := firstG_spec room W 0 ⟨j, by omega, by omega, h2⟩
  have hs := sumF_set (f := room) (g := fun i => if i = firstG room W 0 then room i - 1 else room i) (w := firstG room W 0) (n := W) (by omega) fun i hi => if_neg hi
  simp only [if_true] at hs
  exact ⟨by omega, g2, by omega⟩

theorem fillG_at (W : Nat) : ∀ (p : List Int) (fl : List Bool) (room : Nat → Nat), fl.length = p.length → sumF room W = missing fl → ∀ j (hj : j < p.length), (fl[j]? = some true → (fillG W p fl room)[j]? = some p[j]) ∧ (fl[j]? = some false → ∃ w : Nat, w < W ∧ 0 < room w ∧ (fillG W p fl room)[j]? = some (w : Int))
  | [], _, _, _, _, j, hj => by simp at hj
  | _ :: _, [], _, h, _, _, _ => by simp at h
  | x :: p, true :: fl, room, h, hs, j, hj => by
    have hm : missing (true :: fl) = missing fl := by simp [missing]
    cases j with
    | zero => exact ⟨fun _ => rfl, fun h => by simp at h⟩
    | succ j =>
      have ih := fillG_at W p fl room (by simpa using h) (by rw [hs, hm]) j (by simpa using hj)
      simpa [fillG] using ih
  | x :: p, false :: fl, room, h, hs, j, hj => by
    have hm : missing (false :: fl) = missing fl + 1 := by simp [missing]
    obtain ⟨g1, g2, g3⟩ := room_step (room := room) (W := W) (m := missing fl) (by rw [hs, hm])
    cases j with
    | zero => exact ⟨fun h => by simp at h, fun _ => ⟨firstG room W 0, g1, g2, rfl⟩⟩
    | succ j =>
      have ih := fillG_at W p fl _ (by simpa using h) g3 j (by simpa using hj)
      refine ⟨by simpa [fillG] using ih.1, fun hf => ?_⟩
      obtain ⟨w, h1, h2, h3⟩ := ih.2 (by simpa using hf)
      refine ⟨w, h1, ?_, by simpa [fillG] using h3⟩
      split at h2 <;> omega

end Go.Proofs.YtbkpfhhhbhaecaaDoor
end

/-
  Spreading, in plain Lean.
-/
section
set_option linter.unusedVariables false
set_option linter.unusedSimpArgs false
namespace Go.Proofs.YtbkpfhhhbhaecaaDoor
open Go.Vc


theorem sumF_mem {n : Nat} : ∀ {l : List Nat}, l.Nodup → (∀ x ∈ l, x < n) → sumF (fun w => if w ∈ l then 1 else 0) n = l.length
  | [], _, _ => by
    refine (sumF_congr (g := fun _ => 0) fun i _ => ?_).trans (by rw [sumF_const]; rfl)
    simp
  | x :: l, hd, h => by
    have hx := List.nodup_cons.1 hd
    have ih := sumF_mem (n := n) hx.2 fun y hy => h y (by simp [hy])
    have h2 := sumF_set (f := fun w => if w ∈ l then 1 else 0) (g := fun w => if w ∈ x :: l then 1 else 0) (w := x) (n := n) (h x (by simp)) fun i hi => by simp [hi]
    simp only [List.mem_cons, true_or, if_true] at h2
    rw [if_neg hx.1] at h2
    rw [List.length_cons]
    simp only [List.mem_cons]
    omega

/-- the most often chosen ones get one more -/
def evenRoom (W : Nat) (ord : List Nat) (w : Nat) : Nat := 16 / W + if w ∈ ord.take (16 % W) then 1 else 0
structure OrdOf (p : List Int) (W : Nat) (ord : List Nat) : Prop where
  perm : ord.Perm (List.range W)
  desc : ord.Pairwise fun a b => shareP p b ≤ shareP p a

theorem OrdOf.nodup {p : List Int} {W : Nat} {ord : List Nat} (h : OrdOf p W ord) : ord.Nodup := h.perm.nodup_iff.2 List.nodup_range
theorem OrdOf.mem {p : List Int} {W : Nat} {ord : List Nat} (h : OrdOf p W ord) {w : Nat} : w ∈ ord ↔ w < W := by rw [h.perm.mem_iff, List.mem_range]
theorem OrdOf.len {p : List Int} {W : Nat} {ord : List Nat} (h : OrdOf p W ord) : ord.length = W := by rw [h.perm.length_eq, List.length_range]

theorem extra_sum {p : List Int} {W : Nat} {ord : List Nat} (h : OrdOf p W ord) (hW : 0 < W) : sumF (fun w => if w ∈ ord.take (16 % W) then 1 else 0) W = 16 % W := by
  rw [sumF_mem (h.nodup.sublist (List.take_sublist _ _)) fun x hx => h.mem.1 (List.mem_of_mem_take hx), List.length_take, h.len]
  have := Nat.mod_lt 16 hW
  omega
theorem room_sum {p : List Int} {W : Nat} {ord : List Nat} (h : OrdOf p W ord) (hW : 0 < W) : sumF (evenRoom W ord) W = 16 := by
  have h1 := sumF_add (fun _ => 16 / W) (fun w => if w ∈ ord.take (16 % W) then 1 else 0) W
  rw [sumF_const, extra_sum h hW] at h1
  have := Nat.div_add_mod 16 W
  exact h1.trans this

theorem kept_sum {W : Nat} : ∀ {p : List Int} {fl : List Bool}, fl.length = p.length → (∀ x ∈ p, 0 ≤ x) → (∀ j (hj : j < p.length), fl[j]? = some true → p[j] < (W : Int)) → sumF (keptAt p fl) W = fl.count true
  | [], [], _, _, _ => by
    refine (sumF_congr (g := fun _ => 0) fun i _ => rfl).trans (by rw [sumF_const]; rfl)
  | [], _ :: _, h, _, _ => by simp at h
  | _ :: _, [], h, _, _ => by simp at h
  | x :: p, c :: fl, h, h0, hy => by
    have ih := kept_sum (W := W) (p := p) (fl := fl) (by simpa using h) (fun y hy => h0 y (by simp [hy])) fun j hj hf => by
      have := hy (j + 1) (by simpa using hj) (by simpa using hf)
      simpa using this
    cases c with
    | false =>
      rw [List.count_cons_of_ne (by simp), ← ih]
      exact sumF_congr fun i _ => by simp [keptAt]
    | true =>
      have hx := hy 0 (by simp) rfl
      have hx : x < W := hx
      have hx0 := h0 x (by simp)
      rw [List.count_cons_self, ← ih]
      have h2 := sumF_set (f := keptAt p fl) (g := keptAt (x :: p) (true :: fl)) (w := x.toNat) (n := W) (by omega) fun i hi => by
        simp only [keptAt]
        rw [if_neg (fun h => hi (by have := h.2; omega)), Nat.zero_add]
      have h3 : keptAt (x :: p) (true :: fl) x.toNat = 1 + keptAt p fl x.toNat := by
        simp only [keptAt]
        rw [if_pos ⟨trivial, by omega⟩]
      omega
theorem flags_count : ∀ fl : List Bool, fl.count true + missing fl = fl.length
  | [] => rfl
  | true :: fl => by
    have := flags_count fl
    unfold missing at this ⊢
    rw [List.count_cons_self, List.count_cons_of_ne (by simp), List.length_cons]; omega
  | false :: fl => by
    have := flags_count fl
    unfold missing at this ⊢
    rw [List.count_cons_self, List.count_cons_of_ne (by simp), List.length_cons]; omega

def differ : List Int → List Int → Nat
  | x :: p, y :: q => (if x ≠ y then 1 else 0) + differ p q
  | _, _ => 0
theorem differ_flags : ∀ {p q : List Int} {fl : List Bool}, q.length = p.length → fl.length = p.length → (∀ j (hj : j < p.length), (fl[j]? = some true → q[j]? = some p[j]) ∧ (fl[j]? = some false → q[j]? ≠ some p[j])) → differ p q = missing fl
  | [], [], [], _, _, _ => rfl
  | [], _ :: _, _, h, _, _ => by simp at h
  | _ :: _, [], _, h, _, _ => by simp at h
  | [], [], _ :: _, _, h, _ => by simp at h
  | _ :: _, _ :: _, [], _, h, _ => by simp at h
  | x :: p, y :: q, c :: fl, h1, h2, h => by
    have ih := differ_flags (p := p) (q := q) (fl := fl) (by simpa using h1) (by simpa using h2) fun j hj => by
      have := h (j + 1) (by simpa using hj)
      simpa using this
    have h0 := h 0 (by simp)
    simp only [List.getElem?_cons_zero, List.getElem_cons_zero, Option.some.injEq] at h0
    unfold differ
    rw [ih]
    cases c with
    | true =>
      have := h0.1 rfl
      rw [if_neg (by rw [this]; simp)]
      simp [missing]
    | false =>
      have := h0.2 rfl
      rw [if_pos (fun e => this (by rw [e]))]
      simp [missing]; omega

def spreadG (p : List Int) (W : Nat) (ord : List Nat) : List Int := fillG W p (keepG W p (evenRoom W ord)).1 (keepG W p (evenRoom W ord)).2

structure PlaceOf (p : List Int) : Prop where
  len : p.length = 16
  nn : ∀ x ∈ p, 0 ≤ x

theorem spread_room {p : List Int} {W : Nat} {ord : List Nat} (hp : PlaceOf p) (h : OrdOf p W ord) (hW : 0 < W) : sumF (keepG W p (evenRoom W ord)).2 W = missing (keepG W p (evenRoom W ord)).1 := by
  have h1 := kept_sum (W := W) (keepG_len W p (evenRoom W ord)) hp.nn (keepG_yes W p (evenRoom W ord))
  have h2 := flags_count (keepG W p (evenRoom W ord)).1
  have h3 := sumF_add (keptAt p (keepG W p (evenRoom W ord)).1) (keepG W p (evenRoom W ord)).2 W
  rw [sumF_congr fun w hw => keepG_at W p (evenRoom W ord) hp.nn w hw, room_sum h hW] at h3
  rw [keepG_len, hp.len] at h2
  omega
theorem spread_len {p : List Int} {W : Nat} {ord : List Nat} (hp : PlaceOf p) : (spreadG p W ord).length = 16 := by
  unfold spreadG
  rw [fillG_len _ _ _ _ (keepG_len W p _), hp.len]
theorem spread_bd {p : List Int} {W : Nat} {ord : List Nat} (hp : PlaceOf p) (h : OrdOf p W ord) (hW : 0 < W) : ∀ x ∈ spreadG p W ord, 0 ≤ x ∧ x < W := fun x hx => by
  obtain ⟨j, hj, rfl⟩ := List.getElem_of_mem hx
  have hj2 : j < p.length := by rw [spread_len hp] at hj; rw [hp.len]; exact hj
  obtain ⟨a1, a2⟩ := fillG_at W p _ _ (keepG_len W p (evenRoom W ord)) (spread_room hp h hW) j hj2
  have hfl : j < (keepG W p (evenRoom W ord)).1.length := by rw [keepG_len]; exact hj2
  have he : (spreadG p W ord)[j]? = some (spreadG p W ord)[j] := List.getElem?_eq_getElem hj
  cases hc : (keepG W p (evenRoom W ord)).1[j] with
  | true =>
    have hc2 : (keepG W p (evenRoom W ord)).1[j]? = some true := by rw [List.getElem?_eq_getElem hfl, hc]
    have h1 := a1 hc2
    have h2 := keepG_yes W p _ j hj2 hc2
    unfold spreadG at he
    rw [h1] at he
    have e := Option.some.inj he
    have := hp.nn _ (List.getElem_mem hj2)
    unfold spreadG
    omega
  | false =>
    have hc2 : (keepG W p (evenRoom W ord)).1[j]? = some false := by rw [List.getElem?_eq_getElem hfl, hc]
    obtain ⟨w, w1, _, w3⟩ := a2 hc2
    unfold spreadG at he
    rw [w3] at he
    have e := Option.some.inj he
    unfold spreadG
    omega
/-- it moves what it must -/
theorem spread_moves {p : List Int} {W : Nat} {ord : List Nat} (hp : PlaceOf p) (h : OrdOf p W ord) (hW : 0 < W) : differ p (spreadG p W ord) + sumF (fun w => min (shareP p w) (evenRoom W ord w)) W = 16 := by
  have hd : differ p (spreadG p W ord) = missing (keepG W p (evenRoom W ord)).1 := by
    refine differ_flags (by rw [spread_len hp, hp.len]) (keepG_len W p _) fun j hj => ?_
    obtain ⟨a1, a2⟩ := fillG_at W p _ _ (keepG_len W p (evenRoom W ord)) (spread_room hp h hW) j hj
    refine ⟨a1, fun hf he => ?_⟩
    obtain ⟨w, w1, w2, w3⟩ := a2 hf
    unfold spreadG at he
    rw [w3] at he
    have e := Option.some.inj he
    rcases keepG_not W p _ hp.nn j hj hf with h1 | h1
    · omega
    · rw [← e, Int.toNat_natCast] at h1
      omega
  have h1 := kept_sum (W := W) (keepG_len W p (evenRoom W ord)) hp.nn (keepG_yes W p (evenRoom W ord))
  have h2 := flags_count (keepG W p (evenRoom W ord)).1
  rw [keepG_len, hp.len] at h2
  have h3 : sumF (keptAt p (keepG W p (evenRoom W ord)).1) W = sumF (fun w => min (shareP p w) (evenRoom W ord w)) W := sumF_congr fun w hw => by
    have e1 := keepG_at W p (evenRoom W ord) hp.nn w hw
    have e2 := keepG_room W p (evenRoom W ord) hp.nn w hw
    omega
  omega

/-! ### even shares -/
theorem sumF_lt {f : Nat → Nat} {c n w : Nat} (h : ∀ i, i < n → f i ≤ c) (hw : w < n) (hl : f w < c) : sumF f n < n * c := by
  have h1 := sumF_set (f := f) (g := fun i => if i = w then c else f i) (w := w) hw fun i hi => if_neg hi
  simp only [if_true] at h1
  have h2 := sumF_le (f := fun i => if i = w then c else f i) (g := fun _ => c) (n := n) fun i hi => by
    split
    · exact Nat.le_refl _
    · exact h i hi
  rw [sumF_const] at h2
  omega
theorem sumF_gt {f : Nat → Nat} {c n w : Nat} (h : ∀ i, i < n → c ≤ f i) (hw : w < n) (hl : c < f w) : n * c < sumF f n := by
  have h1 := sumF_set (f := f) (g := fun i => if i = w then c else f i) (w := w) hw fun i hi => if_neg hi
  simp only [if_true] at h1
  have h2 := sumF_le (f := fun _ => c) (g := fun i => if i = w then c else f i) (n := n) fun i hi => by
    split
    · exact Nat.le_refl _
    · exact h i hi
  rw [sumF_const] at h2
  omega
/-- shares that differ by one at most -/
theorem even_bd {t : Nat → Nat} {W : Nat} (hW : 0 < W) (hs : sumF t W = 16) (he : ∀ a b, a < W → b < W → t a ≤ t b + 1) {w : Nat} (hw : w < W) : 16 / W ≤ t w ∧ t w ≤ 16 / W + 1 := by
  have hdm := Nat.div_add_mod 16 W
  have hml := Nat.mod_lt 16 hW
  constructor
  · refine Decidable.byContradiction fun hn => ?_
    have h1 := sumF_lt (f := t) (c := 16 / W) (n := W) (w := w) (fun i hi => by have := he i w hi hw; omega) hw (by omega)
    omega
  · refine Decidable.byContradiction fun hn => ?_
    have h1 := sumF_gt (f := t) (c := 16 / W + 1) (n := W) (w := w) (fun i hi => by have := he w i hw hi; omega) hw (by omega)
    rw [Nat.mul_add] at h1
    omega

/-- the best way to be even -/
theorem best {p : List Int} {W : Nat} {ord : List Nat} (h : OrdOf p W ord) (hW : 0 < W) {t : Nat → Nat} (hs : sumF t W = 16) (he : ∀ a b, a < W → b < W → t a ≤ t b + 1) :
    sumF (fun w => min (shareP p w) (t w)) W ≤ sumF (fun w => min (shareP p w) (evenRoom W ord w)) W := by
  obtain ⟨k, hk⟩ : ∃ k, 16 / W = k := ⟨_, rfl⟩
  obtain ⟨s, hs0⟩ : ∃ s, shareP p = s := ⟨_, rfl⟩
  have hdm := Nat.div_add_mod 16 W
  rw [hk] at hdm
  have hb : ∀ w, w < W → k ≤ t w ∧ t w ≤ k + 1 := fun w hw => by rw [← hk]; exact even_bd hW hs he hw
  have hdesc := h.desc
  rw [hs0] at hdesc ⊢
  -- what is beyond k
  have e1 : sumF (fun w => min (s w) (t w)) W = sumF (fun w => min (s w) k) W + sumF (fun w => if k < s w ∧ k < t w then 1 else 0) W := by
    rw [← sumF_add]
    exact sumF_congr fun w hw => by have := hb w hw; split <;> omega
  have hroom : ∀ w, evenRoom W ord w = k + if w ∈ ord.take (16 % W) then 1 else 0 := fun w => by unfold evenRoom; rw [hk]
  have e2 : sumF (fun w => min (s w) (evenRoom W ord w)) W = sumF (fun w => min (s w) k) W + sumF (fun w => if k < s w ∧ w ∈ ord.take (16 % W) then 1 else 0) W := by
    rw [← sumF_add]
    refine sumF_congr fun w hw => ?_
    rw [hroom]
    by_cases h1 : w ∈ ord.take (16 % W)
    · rw [if_pos h1]
      by_cases h2 : k < s w
      · rw [if_pos ⟨h2, h1⟩]; omega
      · rw [if_neg (fun h => h2 h.1)]; omega
    · rw [if_neg h1, if_neg (fun h => h1 h.2)]
      rfl
  rw [e1, e2]
  refine Nat.add_le_add_left ?_ _
  by_cases hall : ∀ v, v ∈ ord.take (16 % W) → k < s v
  · -- all of the first ones count
    have h1 : sumF (fun w => if k < s w ∧ w ∈ ord.take (16 % W) then 1 else 0) W = 16 % W := by
      refine Eq.trans (sumF_congr fun w _ => ?_) (extra_sum h hW)
      by_cases hm : w ∈ ord.take (16 % W)
      · rw [if_pos ⟨hall w hm, hm⟩, if_pos hm]
      · rw [if_neg (fun h => hm h.2), if_neg hm]
    have h2 : sumF (fun w => if k < s w ∧ k < t w then 1 else 0) W ≤ sumF (fun w => t w - k) W := sumF_le fun w hw => by have := hb w hw; split <;> omega
    have h3 := sumF_add (fun _ => k) (fun w => t w - k) W
    rw [sumF_const, sumF_congr (g := t) fun w hw => by have := hb w hw; omega] at h3
    omega
  · -- one of the first ones has k at most: so have all the others
    obtain ⟨v, hv, hsv⟩ : ∃ v, v ∈ ord.take (16 % W) ∧ ¬ k < s v := by
      refine Classical.byContradiction fun hn => hall fun v hv => Classical.byContradiction fun hl => hn ⟨v, hv, hl⟩
    refine sumF_le fun w hw => ?_
    by_cases h1 : k < s w
    · have hm : w ∈ ord.take (16 % W) := by
        refine Classical.byContradiction fun hn => ?_
        have hmo : w ∈ ord := h.mem.2 hw
        rw [← List.take_append_drop (16 % W) ord] at hmo hdesc
        rcases List.mem_append.1 hmo with hm | hm
        · exact hn hm
        · have := (List.pairwise_append.1 hdesc).2.2 v hv w hm
          omega
      simp only [h1, hm, true_and, if_true]
      split <;> omega
    · rw [if_neg (fun h => h1 h.1)]
      exact Nat.zero_le _

/-- what is even already stays -/
theorem stays {q : List Int} {W : Nat} {ord : List Nat} (hq : PlaceOf q) (hb : ∀ x ∈ q, 0 ≤ x ∧ x < W) (h : OrdOf q W ord) (hW : 0 < W) (he : ∀ a b, a < W → b < W → shareP q a ≤ shareP q b + 1) : spreadG q W ord = q := by
  have hs : sumF (shareP q) W = 16 := by rw [count_sum hb, hq.len]
  have h1 := best h hW hs he
  have h2 := spread_moves hq h hW
  have h3 : sumF (fun w => min (shareP q w) (shareP q w)) W = 16 := by rw [← hs]; exact sumF_congr fun w _ => Nat.min_self _
  have h4 : differ q (spreadG q W ord) = 0 := by omega
  have key : ∀ {a b : List Int}, a.length = b.length → differ a b = 0 → b = a := by
    intro a
    induction a with
    | nil => intro b hl _; cases b with
      | nil => rfl
      | cons => simp at hl
    | cons x a ih => intro b hl hd; cases b with
      | nil => simp at hl
      | cons y b =>
        unfold differ at hd
        by_cases hx : x = y
        · have hi := ih (b := b) (by simpa using hl) (by omega)
          rw [hi, hx]
        · rw [if_pos hx] at hd; omega
  exact key (by rw [spread_len hq, hq.len]) h4

end Go.Proofs.YtbkpfhhhbhaecaaDoor
end

