/-
  The sort's steps over deltas: rotate, insertionSort.
-/
import Derived.Test.YtnapfhbibikbiaaGreatDoorBy86
import Derived.Lib.Strings
import Derived.Lib.Walk
import Derived.Test.YtnapfhbibikbiaaGreatDoorBy84
import Derived.Lib.ItoaNum
import Derived.Shelf.Strconv.AtoiAll
import Derived.Shelf.Small.Wraps
import Derived.Stop.IfaceNil
import Derived.Lib.AtoiErrMem
import Derived.Lib.AtoiAllCases

section
set_option linter.unusedVariables false
set_option linter.unusedSimpArgs false
namespace Go.Proofs.YtnapfhbibikbiaaGreatDoor
open Go.Vc


/-! ### rotate -/
set_option maxHeartbeats 1000000 in
theorem rotate_use {W w : World} {S : List Own} {Φ : PW} [Stable Φ] {p : Option Addr} {cap N : Nat} {f : FuncId} {cp : Array Value} (u x y z : List DE) (hx : 0 < x.length) (hy : 0 < y.length) (cx : Ctx W w (bufE p cap (u ++ x ++ y ++ z) :: S) Φ) (hN : N = (u ++ x ++ y ++ z).length)
    (hlen : (u ++ x ++ y ++ z).length ≤ 100000000) {a m b : Int} (ha : a = u.length) (hm : m = u.length + x.length) (hb : b = u.length + x.length + y.length) {K : Ending → World → Prop}
    (hK : ∀ w', Ctx W w' (bufE p cap (u ++ y ++ x ++ z) :: S) Φ → K (.returned (.tuple #[])) w') : Calls Tryz.prog F.slices_rotateCmpFunc_api_Delta #[.slice p N cap, .int .i64 a, .int .i64 m, .int .i64 b, .func (.func f) #[] cp] w K := by
  subst hN ha hm hb
  have hl : (u ++ x ++ y ++ z).length = u.length + x.length + y.length + z.length := by simp; omega
  refine (Bslices_rotateCmpFunc_api_Delta_run p (u ++ x ++ y ++ z).length cap u.length ((u.length : Int) + x.length) ((u.length : Int) + x.length + y.length) f cp (J := fun u w' => K (.returned u) w') cx ?_).mono fun e w' ⟨v, he, hj⟩ => by rw [he]; exact hj
  refine ⟨by unfold I64; omega, by unfold I64; omega, ?_⟩
  refine exI_mk (fun i j R' Φ' k => ∃ u' X Y z' : List DE, i = X.length ∧ j = Y.length ∧ 0 < X.length ∧ 0 < Y.length ∧ u'.length + X.length = u.length + x.length ∧ u' ++ Y ++ X ++ z' = u ++ y ++ x ++ z ∧ R' = bufE p cap (u' ++ X ++ Y ++ z') :: S ∧ Φ' = Φ ∧ k = X.length + Y.length)
    ⟨⟨_, Φ, _, inferInstance, fun w G cx => cx, u, x, y, z, by omega, by omega, hx, hy, rfl, rfl, rfl, rfl, rfl⟩, ?_⟩
  clear cx
  rintro _ _ R1 Φ1 k _ ⟨u', X, Y, z', rfl, rfl, h1, h2, h3, h4, rfl, rfl, rfl⟩
  have hl2 : u'.length + Y.length + X.length + z'.length = u.length + x.length + y.length + z.length := by
    have := congrArg List.length h4
    simp only [List.length_append] at this
    omega
  have hN : (u ++ x ++ y ++ z).length = (u' ++ X ++ Y ++ z').length := by simp only [List.length_append]; omega
  have hlen' : (u' ++ X ++ Y ++ z').length ≤ 100000000 := by rw [← hN]; exact hlen
  refine Br.intro (fun hne => Br.intro (fun hgt => ?_) (fun hle => ?_)) (fun heq => ?_)
  · have hgt := of_decide_eq_true hgt
    have hgt : Y.length < X.length := by omega
    have e1 : X = X.take Y.length ++ X.drop Y.length := (List.take_append_drop _ _).symm
    obtain ⟨A, hA⟩ : ∃ A, X.take Y.length = A := ⟨_, rfl⟩
    obtain ⟨B, hB⟩ : ∃ B, X.drop Y.length = B := ⟨_, rfl⟩
    have hAl : A.length = Y.length := by rw [← hA, List.length_take]; omega
    have hBl : B.length = X.length - Y.length := by rw [← hB, List.length_drop]
    rw [hA, hB] at e1
    refine ⟨by unfold I64; omega, fun w G cx => ?_⟩
    refine swapRange_use (S := S ++ G) u' A B Y z' hAl (by rw [e1] at cx; exact cx.re (by simp)) (by rw [hN, e1]; simp) (by rw [e1] at hlen'; simpa using hlen') (by omega) (by omega) (by omega) fun w cx => ⟨rfl, bufE p cap ((u' ++ Y) ++ B ++ A ++ z') :: S, Φ1, inferInstance, cx.re (by simp), by unfold I64; omega, _, Φ1, B.length + A.length, inferInstance, fun w G cx => cx, ⟨u' ++ Y, B, A, z', by omega, by omega, by omega, by omega, by simp only [List.length_append]; omega, by rw [← h4, e1]; simp, rfl, rfl, rfl⟩, by omega⟩
  · have hle := of_decide_eq_false hle
    have hne := of_decide_eq_true hne
    have hgt : X.length < Y.length := by omega
    have e1 : Y = Y.take (Y.length - X.length) ++ Y.drop (Y.length - X.length) := (List.take_append_drop _ _).symm
    obtain ⟨A, hA⟩ : ∃ A, Y.take (Y.length - X.length) = A := ⟨_, rfl⟩
    obtain ⟨B, hB⟩ : ∃ B, Y.drop (Y.length - X.length) = B := ⟨_, rfl⟩
    have hAl : A.length = Y.length - X.length := by rw [← hA, List.length_take]; omega
    have hBl : B.length = X.length := by rw [← hB, List.length_drop]; omega
    rw [hA, hB] at e1
    refine ⟨by unfold I64; omega, by unfold I64; omega, by unfold I64; omega, fun w G cx => ?_⟩
    refine swapRange_use (S := S ++ G) u' X A B z' hBl.symm (by rw [e1] at cx; exact cx.re (by simp)) (by rw [hN, e1]; simp) (by rw [e1] at hlen'; simpa using hlen') (by omega) (by omega) (by omega) fun w cx => ⟨rfl, bufE p cap (u' ++ B ++ A ++ (X ++ z')) :: S, Φ1, inferInstance, cx.re (by simp), by unfold I64; omega, _, Φ1, B.length + A.length, inferInstance, fun w G cx => cx, ⟨u', B, A, X ++ z', by omega, by omega, by omega, by omega, by omega, by rw [← h4, e1]; simp, rfl, rfl, rfl⟩, by omega⟩
  · have heq := of_decide_eq_false heq
    refine ⟨by unfold I64; omega, fun w G cx => ?_⟩
    refine swapRange_use (S := S ++ G) u' X [] Y z' (by omega) (cx.re (by simp)) (by rw [hN]; simp) (by simpa using hlen') (by omega) (by simp only [List.length_nil]; omega) (by omega) fun w cx => ⟨rfl, bufE p cap (u' ++ Y ++ X ++ z') :: S, Φ1, inferInstance, cx.re (by simp), fun w G cx => hK w ?_⟩
    rw [h4] at cx
    exact cx.left

/-! ### the order -/
abbrev cmpE (x y : DE) : Int := cmpD x.d y.d
abbrev leE (x y : DE) : Prop := cmpD x.d y.d ≤ 0
theorem ordE : Ord leE := by
  refine ⟨fun x y => ?_, fun x y z h1 h2 => ?_⟩
  · unfold leE
    rw [cmpD_key, cmpD_key]
    rcases cmpK_cmp.tri x.d.key y.d.key with h | h | h
    · exact .inl (by omega)
    · exact .inl (by rw [h, cmpK_cmp.refl]; omega)
    · exact .inr (by omega)
  · unfold leE at *
    rw [cmpD_key] at *
    rcases Int.lt_or_eq_of_le h1 with a | a
    · rcases Int.lt_or_eq_of_le h2 with b | b
      · have := cmpK_cmp.trans _ _ _ a b; omega
      · rw [← (cmpK_cmp.eq _ _).1 b]; omega
    · rw [(cmpK_cmp.eq _ _).1 a]; exact h2
theorem leE_of_lt {x y : DE} (h : cmpD x.d y.d < 0) : leE x y := by unfold leE; omega
theorem leE_not {x y : DE} (h : ¬ cmpD x.d y.d < 0) : leE y x := by
  unfold leE
  rw [cmpD_key] at *
  rcases cmpK_cmp.tri x.d.key y.d.key with h1 | h1 | h1
  · omega
  · rw [h1, cmpK_cmp.refl]; omega
  · omega

/-- the function that compares -/
def CmpFn (Φ : PW) (f : FuncId) (cp : Array Value) (G : DE → Prop) : Prop := okFun Tryz.prog f = true ∧ ∀ x y : DE, G x → G y → GivesIn Φ Tryz.prog f (Array.mk (x.v :: y.v :: cp.toList)) (.int .i64 (cmpE x y))

/-! ### insertionSort -/
set_option maxHeartbeats 2000000 in
theorem insertionSort_use {W w : World} {S : List Own} {Φ : PW} [Stable Φ] {p : Option Addr} {cap N : Nat} {f : FuncId} {cp : Array Value} {P : DE → Prop} (hf : CmpFn Φ f cp P) (u x z : List DE) (hP : ∀ e ∈ x, P e) (cx : Ctx W w (bufE p cap (u ++ x ++ z) :: S) Φ) (hN : N = (u ++ x ++ z).length)
    (hlen : (u ++ x ++ z).length ≤ 100000000) {a b : Int} (ha : a = u.length) (hb : b = u.length + x.length) {K : Ending → World → Prop}
    (hK : ∀ x' w', x'.Perm x → Asc leE x' → Ctx W w' (bufE p cap (u ++ x' ++ z) :: S) Φ → K (.returned (.tuple #[])) w') : Calls Tryz.prog F.slices_insertionSortCmpFunc_api_Delta #[.slice p N cap, .int .i64 a, .int .i64 b, .func (.func f) #[] cp] w K := by
  subst hN ha hb
  have hl : (u ++ x ++ z).length = u.length + x.length + z.length := by simp; omega
  refine (Bslices_insertionSortCmpFunc_api_Delta_run p (u ++ x ++ z).length cap u.length ((u.length : Int) + x.length) f cp (J := fun u w' => K (.returned u) w') cx ?_).mono fun e w' ⟨v, he, hj⟩ => by rw [he]; exact hj
  have hp : 0 < x.length → ∃ g, p = some ⟨g, 0, none⟩ := fun h => e_ptr cx (by omega)
  refine ⟨by unfold I64; omega, ?_⟩
  refine exI_mk (fun i R' Φ' k => ∃ (s r : List DE), i = (u.length : Int) + max s.length 1 ∧ (s ++ r).Perm x ∧ Asc leE s ∧ (s.length = 0 → r = []) ∧ R' = bufE p cap (u ++ s ++ r ++ z) :: S ∧ Φ' = Φ ∧ k = r.length)
    ⟨⟨bufE p cap (u ++ x.take 1 ++ x.drop 1 ++ z) :: S, Φ, (x.drop 1).length, inferInstance, fun w G cx => cx.re (by rw [List.append_assoc u (x.take 1), List.take_append_drop]), x.take 1, x.drop 1, by rw [List.length_take]; omega, by rw [List.take_append_drop], ?_, fun h => ?_, rfl, rfl, rfl⟩, ?_⟩
  · cases x with
    | nil => simp
    | cons e x => simp
  · have : x = [] := by
      cases x with
      | nil => rfl
      | cons e x => simp at h
    rw [this]; rfl
  clear cx
  rintro _ R1 Φ1 k _ ⟨s, r, rfl, hperm, hasc, hnil, rfl, rfl, rfl⟩
  have hlp := hperm.length_eq
  rw [List.length_append] at hlp
  refine Br.intro (fun hlt => ?_) (fun hge => fun w G cx => ?_)
  · have hlt := of_decide_eq_true hlt
    have hs0 : 0 < s.length := by
      rcases Nat.eq_zero_or_pos s.length with h | h
      · have := hnil h; rw [this] at hlp; simp at hlp; omega
      · exact h
    obtain ⟨e, r, rfl⟩ : ∃ e r', r = e :: r' := by
      cases r with
      | nil => simp at hlp; omega
      | cons e r' => exact ⟨e, r', rfl⟩
    simp only [List.length_cons] at hlp
    obtain ⟨g, rfl⟩ := hp (by omega)
    have hPe : P e := hP e (hperm.mem_iff.1 (by simp))
    have hPs : ∀ y ∈ s, P y := fun y hy => hP y (hperm.mem_iff.1 (by simp [hy]))
    -- the element goes down
    refine exI_mk (fun j R' Φ' k => ∃ s1 s2 : List DE, j = (u.length : Int) + s1.length ∧ s = s1 ++ s2 ∧ (∀ y ∈ s2, leE e y) ∧ R' = bufE (some ⟨g, 0, none⟩) cap (u ++ s1 ++ e :: s2 ++ r ++ z) :: S ∧ Φ' = Φ1 ∧ k = s1.length)
      ⟨⟨_, Φ1, _, inferInstance, fun w G cx => cx.re (by simp), s, [], by omega, by simp, by simp, rfl, rfl, rfl⟩, ?_⟩
    rintro _ R2 Φ2 k _ ⟨s1, s2, rfl, rfl, hle, rfl, rfl, rfl⟩
    simp only [List.length_append] at hlp hlt hs0
    have hEl : (u ++ s1 ++ e :: s2 ++ r ++ z).length = u.length + s1.length + 1 + s2.length + r.length + z.length := by simp; omega
    have next : Asc leE (s1 ++ e :: s2) → ((u.length : Int) + max (s1 ++ s2).length 1 + 1 = (u.length : Int) + max (s1 ++ e :: s2).length 1) ∧ ((s1 ++ e :: s2) ++ r).Perm x := fun _ => by
      refine ⟨by simp only [List.length_append, List.length_cons]; omega, ?_⟩
      refine List.Perm.trans ?_ hperm
      simp only [List.append_assoc, List.cons_append]
      refine List.Perm.append_left _ ?_
      exact (List.perm_middle (l₁ := s2)).symm
    refine ⟨bufE (some ⟨g, 0, none⟩) cap (u ++ s1 ++ e :: s2 ++ r ++ z) :: S, Φ2, inferInstance, fun w G cx => cx, Br.intro (fun hj => ?_) (fun hj => ?_)⟩
    · have hj := of_decide_eq_true hj
      have hs1 : s1 ≠ [] := fun h => by rw [h] at hj; simp at hj
      obtain ⟨t, y, rfl⟩ : ∃ t y, s1 = t ++ [y] := ⟨s1.dropLast, s1.getLast hs1, (List.dropLast_concat_getLast hs1).symm⟩
      simp only [List.length_append, List.length_cons, List.length_nil] at hlp hlt
      clear hEl
      obtain ⟨E, hE⟩ : ∃ E, u ++ (t ++ [y]) ++ e :: s2 ++ r ++ z = E := ⟨_, rfl⟩
      have hE' : E = (u ++ t) ++ y :: e :: (s2 ++ r ++ z) := by rw [← hE]; simp
      have hX : E[u.length + t.length + 1]? = some e := by
        rw [hE', List.getElem?_append_right (by simp)]
        simp
      have hY : E[u.length + t.length]? = some y := by
        rw [hE', List.getElem?_append_right (by simp)]
        simp
      have hsw : swp E (u.length + t.length + 1) (u.length + t.length) = (u ++ t) ++ e :: y :: (s2 ++ r ++ z) := by
        have h1 := swp_next (u ++ t) y e (s2 ++ r ++ z)
        rw [← h1, hE', List.length_append]
        have hi : u.length + t.length < ((u ++ t) ++ y :: e :: (s2 ++ r ++ z)).length := by simp
        have hj' : u.length + t.length + 1 < ((u ++ t) ++ y :: e :: (s2 ++ r ++ z)).length := by simp; omega
        rw [swp_eq hj' hi, swp_eq hi hj', List.set_comm _ _ (by omega)]
      have hEl : E.length = u.length + t.length + 2 + s2.length + r.length + z.length := by rw [hE']; simp; omega
      rw [hE]
      have n1 : ((u.length : Int) + ((t ++ [y]).length : Nat)).toNat = u.length + t.length + 1 := by simp; omega
      have n2 : ((u.length : Int) + ((t ++ [y]).length : Nat) - 1).toNat = u.length + t.length := by simp; omega
      have nl : ((t ++ [y]).length : Int) = t.length + 1 := by simp
      have hcall := hf.2 e y hPe (hPs y (by simp))
      refine ⟨by omega, ptrK_intro g 0 rfl ⟨by unfold I64; omega, e.d.time, e.p, e.d.row.length, e.c, e.d.n, fun w G cx => ⟨_, e.p, _, e.c, _, by rw [Nat.zero_add, n1]; exact e_row cx hX, rfl⟩, by omega, ptrK_intro g 0 rfl ⟨y.d.time, y.p, y.d.row.length, y.c, y.d.n, fun w G cx => ⟨_, y.p, _, y.c, _, by rw [Nat.zero_add, n2]; exact e_row cx hY, rfl⟩, fun w G cx => ⟨hf.1, hcall.use cx fun w cx => ⟨_, rfl, bufE (some ⟨g, 0, none⟩) cap E :: S, Φ2, inferInstance, cx, Br.intro (fun hc => ?_) (fun hc => ?_)⟩⟩⟩⟩⟩
      · have hc := of_decide_eq_true hc
        refine ⟨[], fun _ _ => True, inferInstance, fun w G cx => (cx.weak fun _ _ _ => trivial).right, by unfold I64; omega, by unfold I64; omega, by omega, ptrK_intro g 0 rfl ⟨by omega, ptrK_intro g 0 rfl fun w G cx => ⟨e.d.time, e.p, e.d.row.length, e.c, e.d.n, by rw [Nat.zero_add, n1]; exact e_row cx hX, fun w G cx => ⟨y.d.time, y.p, y.d.row.length, y.c, y.d.n, by rw [Nat.zero_add, n2]; exact e_row cx hY, by omega, ptrK_intro g 0 rfl fun w G cx => ⟨by rw [Nat.zero_add, n1]; exact e_can cx (by omega), fun w' hw' => ?_⟩⟩⟩⟩⟩
        rw [Nat.zero_add, n1] at hw'
        refine ⟨bufE (some ⟨g, 0, none⟩) cap (E.set (u.length + t.length + 1) y) :: S, Φ2, inferInstance, e_swap hX hY cx hw', fun w G cx => (cx.weak fun _ _ _ => trivial).right, by omega, ptrK_intro g 0 rfl fun w G cx => ⟨by rw [Nat.zero_add, n2]; exact e_can cx (by rw [List.length_set]; omega), fun w' hw' => ?_⟩⟩
        rw [Nat.zero_add, n2] at hw'
        have cx2 := e_swap2 hX hY cx hw'
        rw [hsw] at cx2
        refine ⟨bufE (some ⟨g, 0, none⟩) cap ((u ++ t) ++ e :: y :: (s2 ++ r ++ z)) :: S, Φ2, inferInstance, cx2, fun w G cx => (cx.weak fun _ _ _ => trivial).right, by unfold I64; omega, bufE (some ⟨g, 0, none⟩) cap (u ++ t ++ e :: (y :: s2) ++ r ++ z) :: S, Φ2, t.length, inferInstance, fun w G cx => cx.re (by simp), ⟨t, y :: s2, by omega, by simp, fun q hq => ?_, rfl, rfl, rfl⟩, by omega⟩
        rcases List.mem_cons.1 hq with rfl | hq
        · exact leE_of_lt hc
        · exact hle q hq
      · have hc := of_decide_eq_false hc
        have hye := leE_not hc
        have has : Asc leE ((t ++ [y]) ++ e :: s2) := by
          refine asc_put hasc (fun q hq => ?_) hle
          have h1 := (List.pairwise_append.1 hasc).1
          rcases List.mem_append.1 hq with hq | hq
          · exact ordE.trans _ _ _ ((List.pairwise_append.1 h1).2.2 q hq y (by simp)) hye
          · rw [List.mem_singleton.1 hq]; exact hye
        obtain ⟨q1, q2⟩ := next has
        refine ⟨by unfold I64; simp only [List.length_append, List.length_cons, List.length_nil]; omega, bufE (some ⟨g, 0, none⟩) cap (u ++ (t ++ [y] ++ e :: s2) ++ r ++ z) :: S, Φ2, r.length, inferInstance, fun w G cx => cx.re (by rw [← hE]; simp), ⟨t ++ [y] ++ e :: s2, r, q1, q2, has, fun h => by simp at h, rfl, rfl, rfl⟩, by simp⟩
    · have hj := of_decide_eq_false hj
      have hs1 : s1 = [] := List.eq_nil_of_length_eq_zero (by omega)
      subst hs1
      have has : Asc leE ([] ++ e :: s2) := asc_put hasc (by simp) hle
      obtain ⟨q1, q2⟩ := next has
      exact ⟨by unfold I64; simp only [List.length_append]; omega, bufE (some ⟨g, 0, none⟩) cap (u ++ ([] ++ e :: s2) ++ r ++ z) :: S, Φ2, r.length, inferInstance, fun w G cx => cx.re (by simp), ⟨[] ++ e :: s2, r, q1, q2, has, fun h => by simp at h, rfl, rfl, rfl⟩, by simp⟩
  · have hge := of_decide_eq_false hge
    have hr : r = [] := by
      rcases Nat.eq_zero_or_pos s.length with h | h
      · exact hnil h
      · exact List.eq_nil_of_length_eq_zero (by omega)
    subst hr
    rw [List.append_nil] at hperm
    exact hK s w hperm hasc (cx.left.re (by simp))

end Go.Proofs.YtnapfhbibikbiaaGreatDoor
end

/-
  The sort's steps over deltas: symMerge.
-/
section
set_option linter.unusedVariables false
set_option linter.unusedSimpArgs false
namespace Go.Proofs.YtnapfhbibikbiaaGreatDoor
open Go.Vc


theorem shr_run (k : Nat) (h : k < 9223372036854775808) (w : World) : Sem.run Tryz.prog (binOp BinOp.shr 65 (.int .u64 (IntKind.u64.wrap (k : Int))) (.int .u64 1)) w = .ok (.int .u64 ((k / 2 : Nat) : Int)) w := by
  have e : IntKind.u64.wrap (k : Int) = k := by simp [IntKind.wrap, IntKind.signed, IntKind.bits]; omega
  rw [e]
  show Sem.run Tryz.prog (Op.shift .shr .u64 (k : Int) .u64 1) w = _
  unfold Op.shift
  simp [Sem.run_pure]
  show (k : Int).fdiv 2 = _
  rw [Int.fdiv_eq_ediv_of_nonneg _ (by decide)]

theorem wrap_nat {k : Nat} (h : k ≤ 1000000000) : IntKind.i64.wrap (k : Int) = k := i64_wrap (by unfold I64; omega)

theorem get_at (a : List DE) (e : DE) (b : List DE) : (a ++ e :: b)[a.length]? = some e := by
  rw [List.getElem?_append_right (Nat.le_refl _)]; simp

theorem get_at2 (a : List DE) (e q : DE) (b : List DE) : (a ++ e :: q :: b)[a.length + 1]? = some q := by
  rw [List.getElem?_append_right (by omega)]; simp

theorem get_mid {u x y z : List DE} {i : Nat} (h : i < y.length) : (u ++ x ++ y ++ z)[u.length + x.length + i]? = some y[i] := by
  rw [List.getElem?_append_left (by simp; omega), List.getElem?_append_right (by simp), List.length_append, show u.length + x.length + i - (u.length + x.length) = i by omega, List.getElem?_eq_getElem h]
theorem get_fst {u x y z : List DE} {i : Nat} (h : i < x.length) : (u ++ x ++ y ++ z)[u.length + i]? = some x[i] := by
  rw [List.getElem?_append_left (by simp; omega), List.getElem?_append_left (by simp; omega), List.getElem?_append_right (by simp), show u.length + i - u.length = i by omega, List.getElem?_eq_getElem h]

/-- a swap of neighbours, walked -/
theorem nb_swap (a : List DE) (x y : DE) (b : List DE) {i j : Nat} (hi : i = a.length) (hj : j = a.length + 1) : swp (a ++ x :: y :: b) i j = a ++ y :: x :: b ∧ swp (a ++ x :: y :: b) j i = a ++ y :: x :: b := by
  subst hi hj
  refine ⟨swp_next a x y b, ?_⟩
  have hi : a.length < (a ++ x :: y :: b).length := by simp
  have hj : a.length + 1 < (a ++ x :: y :: b).length := by simp
  rw [← swp_next a x y b, swp_eq hj hi, swp_eq hi hj, List.set_comm _ _ (by omega)]

/-! ### one element into those behind it -/
set_option maxHeartbeats 2000000 in
theorem sym_one {W : World} {S : List Own} {Φ : PW} [Stable Φ] {p : Option Addr} {cap N : Nat} {f : FuncId} {cp : Array Value} {P : DE → Prop} (hf : CmpFn Φ f cp P) (u : List DE) (e : DE) (y z : List DE) (hy : 0 < y.length) (hPe : P e) (hPy : ∀ q ∈ y, P q) (hay : Asc leE y)
    (hN : N = (u ++ [e] ++ y ++ z).length) (hlen : (u ++ [e] ++ y ++ z).length ≤ 100000000) {a m b : Int} (ha : a = u.length) (hm : m = (u.length : Int) + 1) (hb : b = (u.length : Int) + 1 + y.length) {K : Ending → World → Prop}
    (hK : ∀ r w', r.Perm (e :: y) → Asc leE r → Ctx W w' (bufE p cap (u ++ r ++ z) :: S) Φ → K (.returned (.tuple #[])) w') {w : World} (cx : Ctx W w (bufE p cap (u ++ [e] ++ y ++ z) :: S) Φ) :
    Calls Tryz.prog F.slices_symMergeCmpFunc_api_Delta #[.slice p N cap, .int .i64 a, .int .i64 m, .int .i64 b, .func (.func f) #[] cp] w K := by
  subst hN ha hm hb
  have hl : (u ++ [e] ++ y ++ z).length = u.length + 1 + y.length + z.length := by simp; omega
  refine (Bslices_symMergeCmpFunc_api_Delta_run p (u ++ [e] ++ y ++ z).length cap u.length ((u.length : Int) + 1) ((u.length : Int) + 1 + y.length) f cp (J := fun u w' => K (.returned u) w') cx ?_).mono fun e w' ⟨v, he, hj⟩ => by rw [he]; exact hj
  obtain ⟨g, rfl⟩ := e_ptr cx (by omega)
  refine ⟨by unfold I64; omega, Br.intro (fun _ => ?_) (fun h => by have := of_decide_eq_false h; omega)⟩
  refine exI_mk (fun i j R' Φ' k => ∃ α β : Nat, i = (u.length : Int) + 1 + α ∧ j = (u.length : Int) + 1 + β ∧ α ≤ β ∧ β ≤ y.length ∧ (∀ q ∈ y.take α, leE q e) ∧ (∀ q ∈ y.drop β, leE e q) ∧ R' = bufE (some ⟨g, 0, none⟩) cap (u ++ [e] ++ y ++ z) :: S ∧ Φ' = Φ ∧ k = β - α)
    ⟨⟨_, Φ, _, inferInstance, fun w G cx => cx, 0, y.length, by omega, by omega, by omega, by omega, by simp, by simp, rfl, rfl, rfl⟩, ?_⟩
  clear cx
  rintro _ _ R1 Φ1 k _ ⟨α, β, rfl, rfl, h1, h2, h3, h4, rfl, rfl, rfl⟩
  refine Br.intro (fun hlt => ?_) (fun hge => ?_)
  · have hlt := of_decide_eq_true hlt
    have hαβ : α < β := by omega
    obtain ⟨γ, hγ⟩ : ∃ γ, (α + β) / 2 = γ := ⟨_, rfl⟩
    have hγ1 : α ≤ γ := by omega
    have hγ2 : γ < β := by omega
    have hsum : ((u.length : Int) + 1 + α + ((u.length : Int) + 1 + β)) = ((2 * (u.length + 1) + (α + β) : Nat) : Int) := by omega
    have hhalf : (2 * (u.length + 1) + (α + β)) / 2 = u.length + 1 + γ := by omega
    have hX : (u ++ [e] ++ y ++ z)[u.length + 1 + γ]? = some y[γ] := get_mid (x := [e]) (by omega)
    have hE : (u ++ [e] ++ y ++ z)[u.length]? = some e := by simp
    refine ⟨by unfold I64; omega, ((u.length + 1 + γ : Nat) : Int), fun w => by rw [hsum, ← hhalf]; exact shr_run _ (by omega) w, ?_⟩
    rw [wrap_nat (by omega)]
    refine ⟨bufE (some ⟨g, 0, none⟩) cap (u ++ [e] ++ y ++ z) :: S, Φ1, inferInstance, fun w G cx => cx, by omega, ptrK_intro g 0 rfl ⟨by omega, ptrK_intro g 0 rfl ⟨y[γ].d.time, y[γ].p, y[γ].d.row.length, y[γ].c, y[γ].d.n, fun w G cx => ⟨_, y[γ].p, _, y[γ].c, _, by rw [Nat.zero_add, Int.toNat_natCast]; exact e_row cx hX, rfl⟩, e.d.time, e.p, e.d.row.length, e.c, e.d.n, fun w G cx => ⟨_, e.p, _, e.c, _, by rw [Nat.zero_add, Int.toNat_natCast]; exact e_row cx hE, rfl⟩, fun w G cx => ⟨hf.1, (hf.2 y[γ] e (hPy _ (List.getElem_mem _)) hPe).use cx fun w cx => ⟨_, rfl, bufE (some ⟨g, 0, none⟩) cap (u ++ [e] ++ y ++ z) :: S, Φ1, inferInstance, cx, Br.intro (fun hc => ?_) (fun hc => ?_)⟩⟩⟩⟩⟩
    · have hc := leE_of_lt (of_decide_eq_true hc)
      refine ⟨by unfold I64; omega, _, Φ1, β - (γ + 1), inferInstance, fun w G cx => cx, ⟨γ + 1, β, by omega, by omega, by omega, h2, fun q hq => ?_, h4, rfl, rfl, rfl⟩, by omega⟩
      obtain ⟨i, hi, rfl⟩ := List.getElem_of_mem hq
      rw [List.length_take] at hi
      rw [List.getElem_take]
      exact ordE.trans _ _ _ (asc_le ordE hay (i := i) (j := γ) (by omega) (by omega)) hc
    · have hc := leE_not (of_decide_eq_false hc)
      refine ⟨_, Φ1, γ - α, inferInstance, fun w G cx => cx, ⟨α, γ, by omega, by omega, by omega, by omega, h3, fun q hq => ?_, rfl, rfl, rfl⟩, by omega⟩
      obtain ⟨i, hi, rfl⟩ := List.getElem_of_mem hq
      rw [List.length_drop] at hi
      rw [List.getElem_drop]
      exact ordE.trans _ _ _ hc (asc_le ordE hay (i := γ) (j := γ + i) (by omega) (by omega))
  · have hge := of_decide_eq_false hge
    have hαβ : α = β := by omega
    subst hαβ
    refine exI_mk (fun k R' Φ' kk => ∃ κ : Nat, k = (u.length : Int) + κ ∧ κ ≤ α ∧ R' = bufE (some ⟨g, 0, none⟩) cap (u ++ y.take κ ++ e :: y.drop κ ++ z) :: S ∧ Φ' = Φ1 ∧ kk = α - κ) ⟨⟨_, Φ1, _, inferInstance, fun w G cx => cx, 0, by omega, by omega, by simp, rfl, rfl⟩, ?_⟩
    rintro _ R2 Φ2 kk _ ⟨κ, rfl, hκ, rfl, rfl, rfl⟩
    refine ⟨by unfold I64; omega, Br.intro (fun hlt => ?_) (fun hge => fun w G cx => ?_)⟩
    · have hlt := of_decide_eq_true hlt
      have hκ2 : κ < α := by omega
      have hκy : κ < y.length := by omega
      obtain ⟨E, hE⟩ : ∃ E, u ++ y.take κ ++ e :: y.drop κ ++ z = E := ⟨_, rfl⟩
      have hE' : E = (u ++ y.take κ) ++ e :: y[κ] :: (y.drop (κ + 1) ++ z) := by rw [← hE, List.drop_eq_getElem_cons hκy]; simp only [List.append_assoc, List.cons_append]
      have hEn : u ++ y.take (κ + 1) ++ e :: y.drop (κ + 1) ++ z = (u ++ y.take κ) ++ y[κ] :: e :: (y.drop (κ + 1) ++ z) := by rw [List.take_succ_eq_append_getElem hκy]; simp only [List.append_assoc, List.cons_append, List.nil_append]
      have hal : (u ++ y.take κ).length = u.length + κ := by simp; omega
      have hEl : E.length = u.length + 1 + y.length + z.length := by rw [hE']; simp; omega
      have hX : E[u.length + κ]? = some e := by rw [hE', ← hal]; exact get_at _ _ _
      have hY : E[u.length + κ + 1]? = some y[κ] := by
        have := get_at2 (u ++ y.take κ) e y[κ] (y.drop (κ + 1) ++ z)
        rw [hal] at this
        rw [hE']
        exact this
      have hsw := (nb_swap (u ++ y.take κ) e y[κ] (y.drop (κ + 1) ++ z) (i := u.length + κ) (j := u.length + κ + 1) hal.symm (by omega)).1
      rw [← hE', ← hEn] at hsw
      rw [hE]
      have n1 : ((u.length : Int) + κ).toNat = u.length + κ := by omega
      have n2 : ((u.length : Int) + κ + 1).toNat = u.length + κ + 1 := by omega
      generalize y[κ] = q at hX hY hE' hEn
      refine ⟨[], fun _ _ => True, inferInstance, fun w G cx => (cx.weak fun _ _ _ => trivial).right, by unfold I64; omega, by unfold I64; omega, by omega, ptrK_intro g 0 rfl ⟨by omega, ptrK_intro g 0 rfl fun w G cx => ⟨e.d.time, e.p, e.d.row.length, e.c, e.d.n, by rw [Nat.zero_add, n1]; exact e_row cx hX, fun w G cx => ⟨q.d.time, q.p, q.d.row.length, q.c, q.d.n, by rw [Nat.zero_add, n2]; exact e_row cx hY, by omega, ptrK_intro g 0 rfl fun w G cx => ⟨by rw [Nat.zero_add, n1]; exact e_can cx (by omega), fun w' hw' => ?_⟩⟩⟩⟩⟩
      rw [Nat.zero_add, n1] at hw'
      refine ⟨bufE (some ⟨g, 0, none⟩) cap (E.set (u.length + κ) q) :: S, Φ2, inferInstance, e_swap hX hY cx hw', fun w G cx => (cx.weak fun _ _ _ => trivial).right, by omega, ptrK_intro g 0 rfl fun w G cx => ⟨by rw [Nat.zero_add, n2]; exact e_can cx (by rw [List.length_set]; omega), fun w' hw' => ?_⟩⟩
      rw [Nat.zero_add, n2] at hw'
      have cx2 := e_swap2 hX hY cx hw'
      rw [hsw] at cx2
      exact ⟨bufE (some ⟨g, 0, none⟩) cap (u ++ y.take (κ + 1) ++ e :: y.drop (κ + 1) ++ z) :: S, Φ2, inferInstance, cx2, fun w G cx => (cx.weak fun _ _ _ => trivial).right, by unfold I64; omega, _, Φ2, α - (κ + 1), inferInstance, fun w G cx => cx, ⟨κ + 1, by omega, by omega, rfl, rfl, rfl⟩, by omega⟩
    · have hge := of_decide_eq_false hge
      have hκα : κ = α := by omega
      subst hκα
      refine hK (y.take κ ++ e :: y.drop κ) w ?_ (asc_put (by rw [List.take_append_drop]; exact hay) h3 h4) (cx.left.re (by simp))
      have h := List.perm_middle (a := e) (l₁ := y.take κ) (l₂ := y.drop κ)
      rw [List.take_append_drop] at h
      exact h

/-! ### one element into those ahead of it -/
set_option maxHeartbeats 2000000 in
theorem sym_last {W : World} {S : List Own} {Φ : PW} [Stable Φ] {p : Option Addr} {cap N : Nat} {f : FuncId} {cp : Array Value} {P : DE → Prop} (hf : CmpFn Φ f cp P) (u x : List DE) (e : DE) (z : List DE) (hx : 2 ≤ x.length) (hPe : P e) (hPx : ∀ q ∈ x, P q) (hax : Asc leE x)
    (hN : N = (u ++ x ++ [e] ++ z).length) (hlen : (u ++ x ++ [e] ++ z).length ≤ 100000000) {a m b : Int} (ha : a = u.length) (hm : m = (u.length : Int) + x.length) (hb : b = (u.length : Int) + x.length + 1) {K : Ending → World → Prop}
    (hK : ∀ r w', r.Perm (x ++ [e]) → Asc leE r → Ctx W w' (bufE p cap (u ++ r ++ z) :: S) Φ → K (.returned (.tuple #[])) w') {w : World} (cx : Ctx W w (bufE p cap (u ++ x ++ [e] ++ z) :: S) Φ) :
    Calls Tryz.prog F.slices_symMergeCmpFunc_api_Delta #[.slice p N cap, .int .i64 a, .int .i64 m, .int .i64 b, .func (.func f) #[] cp] w K := by
  subst hN ha hm hb
  have hl : (u ++ x ++ [e] ++ z).length = u.length + x.length + 1 + z.length := by simp; omega
  refine (Bslices_symMergeCmpFunc_api_Delta_run p (u ++ x ++ [e] ++ z).length cap u.length ((u.length : Int) + x.length) ((u.length : Int) + x.length + 1) f cp (J := fun u w' => K (.returned u) w') cx ?_).mono fun e w' ⟨v, he, hj⟩ => by rw [he]; exact hj
  obtain ⟨g, rfl⟩ := e_ptr cx (by omega)
  refine ⟨by unfold I64; omega, Br.intro (fun h => by have := of_decide_eq_true h; omega) (fun _ => ⟨by unfold I64; omega, Br.intro (fun _ => ?_) (fun h => by have := of_decide_eq_false h; omega)⟩)⟩
  refine exI_mk (fun i j R' Φ' k => ∃ α β : Nat, i = (u.length : Int) + α ∧ j = (u.length : Int) + β ∧ α ≤ β ∧ β ≤ x.length ∧ (∀ q ∈ x.take α, leE q e) ∧ (∀ q ∈ x.drop β, leE e q) ∧ R' = bufE (some ⟨g, 0, none⟩) cap (u ++ x ++ [e] ++ z) :: S ∧ Φ' = Φ ∧ k = β - α)
    ⟨⟨_, Φ, _, inferInstance, fun w G cx => cx, 0, x.length, by omega, by omega, by omega, by omega, by simp, by simp, rfl, rfl, rfl⟩, ?_⟩
  clear cx
  rintro _ _ R1 Φ1 k _ ⟨α, β, rfl, rfl, h1, h2, h3, h4, rfl, rfl, rfl⟩
  refine Br.intro (fun hlt => ?_) (fun hge => ?_)
  · have hlt := of_decide_eq_true hlt
    have hαβ : α < β := by omega
    obtain ⟨γ, hγ⟩ : ∃ γ, (α + β) / 2 = γ := ⟨_, rfl⟩
    have hγ1 : α ≤ γ := by omega
    have hγ2 : γ < β := by omega
    have hsum : ((u.length : Int) + α + ((u.length : Int) + β)) = ((2 * u.length + (α + β) : Nat) : Int) := by omega
    have hhalf : (2 * u.length + (α + β)) / 2 = u.length + γ := by omega
    have hX : (u ++ x ++ [e] ++ z)[u.length + γ]? = some x[γ] := get_fst (by omega)
    have hE : (u ++ x ++ [e] ++ z)[u.length + x.length]? = some e := by simp
    have nm : ((u.length : Int) + x.length).toNat = u.length + x.length := by omega
    refine ⟨by unfold I64; omega, ((u.length + γ : Nat) : Int), fun w => by rw [hsum, ← hhalf]; exact shr_run _ (by omega) w, ?_⟩
    rw [wrap_nat (by omega)]
    refine ⟨bufE (some ⟨g, 0, none⟩) cap (u ++ x ++ [e] ++ z) :: S, Φ1, inferInstance, fun w G cx => cx, by omega, ptrK_intro g 0 rfl ⟨by omega, ptrK_intro g 0 rfl ⟨e.d.time, e.p, e.d.row.length, e.c, e.d.n, fun w G cx => ⟨_, e.p, _, e.c, _, by rw [Nat.zero_add, nm]; exact e_row cx hE, rfl⟩, x[γ].d.time, x[γ].p, x[γ].d.row.length, x[γ].c, x[γ].d.n, fun w G cx => ⟨_, x[γ].p, _, x[γ].c, _, by rw [Nat.zero_add, Int.toNat_natCast]; exact e_row cx hX, rfl⟩, fun w G cx => ⟨hf.1, (hf.2 e x[γ] hPe (hPx _ (List.getElem_mem _))).use cx fun w cx => ⟨_, rfl, bufE (some ⟨g, 0, none⟩) cap (u ++ x ++ [e] ++ z) :: S, Φ1, inferInstance, cx, Br.intro (fun hc => ?_) (fun hc => ?_)⟩⟩⟩⟩⟩
    · have hc := leE_not (x := e) (y := x[γ]) (fun h => by rw [decide_eq_true h] at hc; cases hc)
      refine ⟨by unfold I64; omega, _, Φ1, β - (γ + 1), inferInstance, fun w G cx => cx, ⟨γ + 1, β, by omega, by omega, by omega, h2, fun q hq => ?_, h4, rfl, rfl, rfl⟩, by omega⟩
      obtain ⟨i, hi, rfl⟩ := List.getElem_of_mem hq
      rw [List.length_take] at hi
      rw [List.getElem_take]
      exact ordE.trans _ _ _ (asc_le ordE hax (i := i) (j := γ) (by omega) (by omega)) hc
    · have hc := leE_of_lt (show cmpD e.d x[γ].d < 0 by simpa using hc)
      refine ⟨_, Φ1, γ - α, inferInstance, fun w G cx => cx, ⟨α, γ, by omega, by omega, by omega, by omega, h3, fun q hq => ?_, rfl, rfl, rfl⟩, by omega⟩
      obtain ⟨i, hi, rfl⟩ := List.getElem_of_mem hq
      rw [List.length_drop] at hi
      rw [List.getElem_drop]
      exact ordE.trans _ _ _ hc (asc_le ordE hax (i := γ) (j := γ + i) (by omega) (by omega))
  · have hge := of_decide_eq_false hge
    have hαβ : α = β := by omega
    subst hαβ
    refine exI_mk (fun k R' Φ' kk => ∃ κ : Nat, k = (u.length : Int) + κ ∧ α ≤ κ ∧ κ ≤ x.length ∧ R' = bufE (some ⟨g, 0, none⟩) cap (u ++ x.take κ ++ e :: x.drop κ ++ z) :: S ∧ Φ' = Φ1 ∧ κ = kk) ⟨⟨bufE (some ⟨g, 0, none⟩) cap (u ++ x.take x.length ++ e :: x.drop x.length ++ z) :: S, Φ1, _, inferInstance, fun w G cx => cx.re (by simp), x.length, by omega, by omega, by omega, rfl, rfl, rfl⟩, ?_⟩
    rintro _ R2 Φ2 kk _ ⟨κ, rfl, hκ, hκx, rfl, rfl, rfl⟩
    refine Br.intro (fun hlt => ?_) (fun hge => fun w G cx => ?_)
    · have hlt := of_decide_eq_true hlt
      obtain ⟨κ, rfl⟩ : ∃ j, κ = j + 1 := ⟨κ - 1, by omega⟩
      have hκy : κ < x.length := by omega
      obtain ⟨E, hE⟩ : ∃ E, u ++ x.take (κ + 1) ++ e :: x.drop (κ + 1) ++ z = E := ⟨_, rfl⟩
      have hE' : E = (u ++ x.take κ) ++ x[κ] :: e :: (x.drop (κ + 1) ++ z) := by rw [← hE, List.take_succ_eq_append_getElem hκy]; simp only [List.append_assoc, List.cons_append, List.nil_append]
      have hEn : u ++ x.take κ ++ e :: x.drop κ ++ z = (u ++ x.take κ) ++ e :: x[κ] :: (x.drop (κ + 1) ++ z) := by rw [List.drop_eq_getElem_cons hκy]; simp only [List.append_assoc, List.cons_append]
      have hal : (u ++ x.take κ).length = u.length + κ := by simp; omega
      have hEl : E.length = u.length + 1 + x.length + z.length := by rw [hE']; simp; omega
      have hX : E[u.length + κ]? = some x[κ] := by rw [hE', ← hal]; exact get_at _ _ _
      have hY : E[u.length + κ + 1]? = some e := by
        have := get_at2 (u ++ x.take κ) x[κ] e (x.drop (κ + 1) ++ z)
        rw [hal] at this
        rw [hE']
        exact this
      have hsw := (nb_swap (u ++ x.take κ) x[κ] e (x.drop (κ + 1) ++ z) (i := u.length + κ) (j := u.length + κ + 1) hal.symm (by omega)).2
      rw [← hE', ← hEn] at hsw
      rw [hE]
      have n1 : ((u.length : Int) + ((κ + 1 : Nat) : Int)).toNat = u.length + κ + 1 := by omega
      have n2 : ((u.length : Int) + ((κ + 1 : Nat) : Int) - 1).toNat = u.length + κ := by omega
      generalize x[κ] = q at hX hY hE' hEn
      refine ⟨[], fun _ _ => True, inferInstance, fun w G cx => (cx.weak fun _ _ _ => trivial).right, by unfold I64; omega, by unfold I64; omega, by omega, ptrK_intro g 0 rfl ⟨by omega, ptrK_intro g 0 rfl fun w G cx => ⟨e.d.time, e.p, e.d.row.length, e.c, e.d.n, by rw [Nat.zero_add, n1]; exact e_row cx hY, fun w G cx => ⟨q.d.time, q.p, q.d.row.length, q.c, q.d.n, by rw [Nat.zero_add, n2]; exact e_row cx hX, by omega, ptrK_intro g 0 rfl fun w G cx => ⟨by rw [Nat.zero_add, n1]; exact e_can cx (by omega), fun w' hw' => ?_⟩⟩⟩⟩⟩
      rw [Nat.zero_add, n1] at hw'
      refine ⟨bufE (some ⟨g, 0, none⟩) cap (E.set (u.length + κ + 1) q) :: S, Φ2, inferInstance, e_swap hY hX cx hw', fun w G cx => (cx.weak fun _ _ _ => trivial).right, by omega, ptrK_intro g 0 rfl fun w G cx => ⟨by rw [Nat.zero_add, n2]; exact e_can cx (by rw [List.length_set]; omega), fun w' hw' => ?_⟩⟩
      rw [Nat.zero_add, n2] at hw'
      have cx2 := e_swap2 hY hX cx hw'
      rw [hsw] at cx2
      exact ⟨bufE (some ⟨g, 0, none⟩) cap (u ++ x.take κ ++ e :: x.drop κ ++ z) :: S, Φ2, inferInstance, cx2, fun w G cx => (cx.weak fun _ _ _ => trivial).right, by unfold I64; omega, _, Φ2, κ, inferInstance, fun w G cx => cx, ⟨κ, by omega, by omega, by omega, rfl, rfl, rfl⟩, by omega⟩
    · have hge := of_decide_eq_false hge
      have hκα : κ = α := by omega
      subst hκα
      refine hK (x.take κ ++ e :: x.drop κ) w ?_ (asc_put (by rw [List.take_append_drop]; exact hax) h3 h4) (cx.left.re (by simp))
      have h := List.perm_middle (a := e) (l₁ := x.take κ) (l₂ := x.drop κ)
      rw [List.take_append_drop] at h
      exact h.trans (List.perm_append_comm (l₁ := [e]))

end Go.Proofs.YtnapfhbibikbiaaGreatDoor
end

/-
  The sort's steps over deltas: symMerge, whole.
-/
section
set_option linter.unusedVariables false
set_option linter.unusedSimpArgs false
namespace Go.Proofs.YtnapfhbibikbiaaGreatDoor
open Go.Vc


theorem one_of {x : List DE} (h : x.length = 1) : ∃ e, x = [e] := by
  match x, h with
  | [e], _ => exact ⟨e, rfl⟩

set_option maxHeartbeats 8000000 in
theorem symMerge_use {W : World} {Φ : PW} [Stable Φ] {p : Option Addr} {cap N : Nat} {f : FuncId} {cp : Array Value} {P : DE → Prop} (hf : CmpFn Φ f cp P) : ∀ (k : Nat) {S : List Own} (u x y z : List DE), x.length + y.length ≤ k → 0 < x.length → 0 < y.length → Asc leE x → Asc leE y → (∀ q ∈ x, P q) → (∀ q ∈ y, P q) →
    N = (u ++ x ++ y ++ z).length → (u ++ x ++ y ++ z).length ≤ 100000000 → ∀ {a m b : Int}, a = u.length → m = (u.length : Int) + x.length → b = (u.length : Int) + x.length + y.length → ∀ {K : Ending → World → Prop},
    (∀ r w', r.Perm (x ++ y) → Asc leE r → Ctx W w' (bufE p cap (u ++ r ++ z) :: S) Φ → K (.returned (.tuple #[])) w') → ∀ {w : World}, Ctx W w (bufE p cap (u ++ x ++ y ++ z) :: S) Φ →
    Calls Tryz.prog F.slices_symMergeCmpFunc_api_Delta #[.slice p N cap, .int .i64 a, .int .i64 m, .int .i64 b, .func (.func f) #[] cp] w K := by
  intro k
  induction k with
  | zero => intro S u x y z h hx; omega
  | succ k ih =>
  intro S u x y z hk hx0 hy0 hxa hya hPx hPy hN hlen a m b ha hm hb K hK w cx
  by_cases hx1 : x.length = 1
  · obtain ⟨e, rfl⟩ := one_of hx1
    exact sym_one hf u e y z hy0 (hPx e (by simp)) hPy hya hN hlen ha (by simpa using hm) (by simpa using hb) hK cx
  by_cases hy1 : y.length = 1
  · obtain ⟨e, rfl⟩ := one_of hy1
    exact sym_last hf u x e z (by omega) (hPy e (by simp)) hPx hxa hN hlen ha hm (by simpa using hb) hK cx
  subst ha hm hb
  have hl : (u ++ x ++ y ++ z).length = u.length + x.length + y.length + z.length := by simp; omega
  obtain ⟨H, hH⟩ : ∃ H, (x.length + y.length) / 2 = H := ⟨_, rfl⟩
  have hH1 : 2 * H ≤ x.length + y.length := by omega
  have hH2 : x.length + y.length ≤ 2 * H + 1 := by omega
  have hsum : ((u.length : Int) + ((u.length : Int) + x.length + y.length)) = ((2 * u.length + (x.length + y.length) : Nat) : Int) := by omega
  have hhalf : (2 * u.length + (x.length + y.length)) / 2 = u.length + H := by omega
  refine (Bslices_symMergeCmpFunc_api_Delta_run p N cap u.length ((u.length : Int) + x.length) ((u.length : Int) + x.length + y.length) f cp (J := fun u w' => K (.returned u) w') cx ?_).mono fun e w' ⟨v, he, hj⟩ => by rw [he]; exact hj
  have hNl : N = u.length + x.length + y.length + z.length := by rw [hN, hl]
  obtain ⟨g, hg⟩ := e_ptr cx (by omega)
  refine ⟨by unfold I64; omega, Br.intro (fun h => by have := of_decide_eq_true h; omega) (fun _ => ⟨by unfold I64; omega, Br.intro (fun h => by have := of_decide_eq_true h; omega) (fun _ => ⟨by unfold I64; omega, ((u.length + H : Nat) : Int), fun w => by rw [hsum, ← hhalf]; exact shr_run _ (by omega) w, ?_⟩)⟩)⟩
  rw [wrap_nat (by omega)]
  refine ⟨by unfold I64; omega, Br.intro (fun hgt => ?_) (fun hle => ?_)⟩
  case' refine_1 =>
    have hgt := of_decide_eq_true hgt
    obtain ⟨σ0, ρ0, hso⟩ : ∃ σ0 ρ0 : Nat, (σ0 = H - y.length ∧ ρ0 = H ∧ y.length ≤ H ∧ H < x.length) ∨ (σ0 = 0 ∧ ρ0 = x.length ∧ x.length ≤ H ∧ H ≤ y.length) := ⟨H - y.length, H, .inl ⟨rfl, rfl, by omega, by omega⟩⟩
    have hst : σ0 = H - y.length ∧ ρ0 = H := by omega
    refine ⟨by unfold I64; omega, by unfold I64; omega, ?_⟩
  case' refine_2 =>
    have hle := of_decide_eq_false hle
    obtain ⟨σ0, ρ0, hst, hso⟩ : ∃ σ0 ρ0 : Nat, (σ0 = 0 ∧ ρ0 = x.length) ∧ ((σ0 = H - y.length ∧ ρ0 = H ∧ y.length ≤ H ∧ H < x.length) ∨ (σ0 = 0 ∧ ρ0 = x.length ∧ x.length ≤ H ∧ H ≤ y.length)) := ⟨0, x.length, ⟨rfl, rfl⟩, .inr ⟨rfl, rfl, by omega, by omega⟩⟩
    refine ⟨by unfold I64; omega, ?_⟩
  all_goals
    have hρ : ρ0 ≤ H ∧ ρ0 ≤ x.length ∧ σ0 ≤ ρ0 := by omega
    refine exI_mk (fun i j R' Φ' k => ∃ s r : Nat, i = (u.length : Int) + s ∧ j = (u.length : Int) + r ∧ σ0 ≤ s ∧ s ≤ r ∧ r ≤ ρ0 ∧ (∀ c, σ0 ≤ c → c < s → ∀ (hc : c < x.length) (hd : H - 1 - c < y.length), leE x[c] y[H - 1 - c]) ∧ (∀ c, r ≤ c → c < ρ0 → ∀ (hc : c < x.length) (hd : H - 1 - c < y.length), leE y[H - 1 - c] x[c]) ∧ R' = bufE p cap (u ++ x ++ y ++ z) :: S ∧ Φ' = Φ ∧ k = r - s)
      ⟨⟨_, Φ, _, inferInstance, fun w G cx => cx, σ0, ρ0, by omega, by omega, by omega, by omega, by omega, fun c h1 h2 => by omega, fun c h1 h2 => by omega, rfl, rfl, rfl⟩, ?_⟩
    clear cx
    rintro _ _ R1' Φ1 kk _ ⟨s, r, rfl, rfl, h1, h2, h3, h4, h5, rfl, rfl, rfl⟩
    refine Br.intro (fun hlt => ?_) (fun hge => ?_)
    · have hlt := of_decide_eq_true hlt
      have hsr : s < r := by omega
      obtain ⟨γ, hγ⟩ : ∃ γ, (s + r) / 2 = γ := ⟨_, rfl⟩
      have hγ1 : s ≤ γ := by omega
      have hγ2 : γ < r := by omega
      have hγx : γ < x.length := by omega
      have hγy : H - 1 - γ < y.length := by omega
      have hsum2 : ((u.length : Int) + s + ((u.length : Int) + r)) = ((2 * u.length + (s + r) : Nat) : Int) := by omega
      have hhalf2 : (2 * u.length + (s + r)) / 2 = u.length + γ := by omega
      have hX : (u ++ x ++ y ++ z)[u.length + γ]? = some x[γ] := get_fst hγx
      have hY : (u ++ x ++ y ++ z)[u.length + x.length + (H - 1 - γ)]? = some y[H - 1 - γ] := get_mid hγy
      have hxx : ∀ (c d : Nat) (h : c ≤ d) (hd : d < x.length), leE (x[c]'(Nat.lt_of_le_of_lt h hd)) x[d] := fun c d hcd hd => asc_le ordE hxa hcd hd
      have hyy : ∀ (c d : Nat) (h : c ≤ d) (hd : d < y.length), leE (y[c]'(Nat.lt_of_le_of_lt h hd)) y[d] := fun c d hcd hd => asc_le ordE hya hcd hd
      have hPX := hPx x[γ] (List.getElem_mem _)
      have hPY := hPy y[H - 1 - γ] (List.getElem_mem _)
      have upX : ∀ c, c < γ + 1 → ∀ (hc : c < x.length), leE x[c] x[γ] := fun c hc hc' => hxx c γ (by omega) hγx
      have upY : ∀ c, c < γ + 1 → ∀ (hd : H - 1 - c < y.length), leE y[H - 1 - γ] y[H - 1 - c] := fun c hc hd => hyy (H - 1 - γ) (H - 1 - c) (by omega) hd
      have dnX : ∀ c, γ ≤ c → ∀ (hc : c < x.length), leE x[γ] x[c] := fun c hc hc' => hxx γ c hc hc'
      have dnY : ∀ c, γ ≤ c → ∀ (hd : H - 1 - c < y.length), leE y[H - 1 - c] y[H - 1 - γ] := fun c hc hd => hyy (H - 1 - c) (H - 1 - γ) (by omega) hγy
      generalize hxe : x[γ] = X at hX hPX upX dnX
      generalize hye : y[H - 1 - γ] = Y at hY hPY upY dnY
      refine ⟨by unfold I64; omega, ((u.length + γ : Nat) : Int), fun w => by rw [hsum2, ← hhalf2]; exact shr_run _ (by omega) w, ?_⟩
      rw [wrap_nat (by omega : u.length + γ ≤ 1000000000)]
      have n2 : (((u.length + H : Nat) : Int) + ((u.length : Int) + x.length) - 1 - ((u.length + γ : Nat) : Int)).toNat = u.length + x.length + (H - 1 - γ) := by omega
      subst hg
      refine ⟨_, Φ1, inferInstance, fun w G cx => cx, by unfold I64; omega, by omega, ptrK_intro g 0 rfl ⟨by omega, ptrK_intro g 0 rfl ⟨X.d.time, X.p, X.d.row.length, X.c, X.d.n, fun w G cx => ⟨_, X.p, _, X.c, _, by rw [Nat.zero_add, Int.toNat_natCast]; exact e_row cx hX, rfl⟩, Y.d.time, Y.p, Y.d.row.length, Y.c, Y.d.n, fun w G cx => ⟨_, Y.p, _, Y.c, _, by rw [Nat.zero_add, n2]; exact e_row cx hY, rfl⟩, fun w G cx => ⟨hf.1, (hf.2 Y X hPY hPX).use cx fun w cx => ⟨_, rfl, bufE (some ⟨g, 0, none⟩) cap (u ++ x ++ y ++ z) :: S, Φ1, inferInstance, cx, Br.intro (fun hc => ?_) (fun hc => ?_)⟩⟩⟩⟩⟩
      · have hc := leE_not (x := Y) (y := X) (fun h => by rw [decide_eq_true h] at hc; cases hc)
        exact ⟨by unfold I64; omega, _, Φ1, r - (γ + 1), inferInstance, fun w G cx => cx, ⟨γ + 1, r, by omega, by omega, by omega, by omega, h3, fun c hc1 hc2 hcx hcy => ordE.trans _ _ _ (upX c hc2 hcx) (ordE.trans _ _ _ hc (upY c hc2 hcy)), h5, rfl, rfl, rfl⟩, by omega⟩
      · have hc : cmpD Y.d X.d < 0 := by simpa using hc
        have hc := leE_of_lt hc
        exact ⟨_, Φ1, γ - s, inferInstance, fun w G cx => cx, ⟨s, γ, by omega, by omega, by omega, by omega, by omega, h4, fun c hc1 hc2 hcx hcy => ordE.trans _ _ _ (dnY c hc1 hcy) (ordE.trans _ _ _ hc (dnX c hc1 hcx)), rfl, rfl, rfl⟩, by omega⟩
    · have hge := of_decide_eq_false hge
      have hsr : s = r := by omega
      subst hsr
      obtain ⟨t, ht⟩ : ∃ t, H - s = t := ⟨_, rfl⟩
      have hst2 : s + t = H := by omega
      have htY : t ≤ y.length := by omega
      have hsX : s ≤ x.length := by omega
      have hend2 : (((u.length + H : Nat) : Int) + ((u.length : Int) + x.length) - ((u.length : Int) + s)) = (u.length : Int) + x.length + t := by omega
      have hsplit := sym_split ordE hxa hya s t hsX htY
        (fun h0 ht' => by have := h4 (s - 1) (by omega) (by omega) (by omega) (by omega); simpa [show H - 1 - (s - 1) = t by omega] using this)
        (fun h0 hs' => by have := h5 s (by omega) (by omega) (by omega) (by omega); simpa [show H - 1 - s = t - 1 by omega] using this)
      obtain ⟨L0, hL0⟩ : ∃ L0, x.take s = L0 := ⟨_, rfl⟩
      obtain ⟨R0, hR0⟩ : ∃ R0, x.drop s = R0 := ⟨_, rfl⟩
      obtain ⟨L1, hL1⟩ : ∃ L1, y.take t = L1 := ⟨_, rfl⟩
      obtain ⟨R1, hR1⟩ : ∃ R1, y.drop t = R1 := ⟨_, rfl⟩
      have hx2 : x = L0 ++ R0 := by rw [← hL0, ← hR0, List.take_append_drop]
      have hy2 : y = L1 ++ R1 := by rw [← hL1, ← hR1, List.take_append_drop]
      have hL0l : L0.length = s := by rw [← hL0, List.length_take]; omega
      have hL1l : L1.length = t := by rw [← hL1, List.length_take]; omega
      have hR0l : R0.length = x.length - s := by rw [← hR0, List.length_drop]
      have hR1l : R1.length = y.length - t := by rw [← hR1, List.length_drop]
      have hL0a : Asc leE L0 := by rw [← hL0]; exact asc_take hxa s
      have hL1a : Asc leE L1 := by rw [← hL1]; exact asc_take hya t
      have hR0a : Asc leE R0 := by rw [← hR0]; exact asc_drop hxa s
      have hR1a : Asc leE R1 := by rw [← hR1]; exact asc_drop hya t
      rw [hL0, hR0, hL1, hR1] at hsplit
      have hPL : ∀ q ∈ L0 ++ L1, P q := fun q hq => by
        rcases List.mem_append.1 hq with h | h
        · exact hPx q (by rw [hx2]; simp [h])
        · exact hPy q (by rw [hy2]; simp [h])
      have hPR : ∀ q ∈ R0 ++ R1, P q := fun q hq => by
        rcases List.mem_append.1 hq with h | h
        · exact hPx q (by rw [hx2]; simp [h])
        · exact hPy q (by rw [hy2]; simp [h])
      have hend : ∀ L r : List DE, L.Perm (L0 ++ L1) → Asc leE L → r.Perm (R0 ++ R1) → Asc leE r → ∀ (w : World) (G : List Own), Ctx W w (bufE p cap (u ++ L ++ r ++ z) :: S ++ G) Φ1 → K (.returned (.tuple #[])) w := fun L r hLp hLa hrp hra w G cx => by
        refine hK (L ++ r) w ?_ (asc_app hLa hra fun q hq q' hq' => hsplit q (hLp.mem_iff.1 hq) q' (hrp.mem_iff.1 hq')) (cx.left.re (by simp))
        rw [hx2, hy2]
        refine (List.Perm.append hLp hrp).trans ?_
        simp only [List.append_assoc]
        exact List.Perm.append_left _ (List.perm_append_comm_assoc _ _ _)
      have hLs : ¬ (0 < s ∧ 0 < t) → Asc leE (L0 ++ L1) := fun h => by
        rcases Nat.eq_zero_or_pos s with hz | hz
        · rw [List.eq_nil_of_length_eq_zero (l := L0) (by omega)]; exact hL1a
        · rw [List.eq_nil_of_length_eq_zero (l := L1) (by omega), List.append_nil]; exact hL0a
      have hRs : ¬ (s < x.length ∧ t < y.length) → Asc leE (R0 ++ R1) := fun h => by
        by_cases hz : s < x.length
        · rw [List.eq_nil_of_length_eq_zero (l := R1) (by omega), List.append_nil]; exact hR0a
        · rw [List.eq_nil_of_length_eq_zero (l := R0) (by omega)]; exact hR1a
      rw [hend2]
      have hcL : ((decide ((u.length : Int) < (u.length : Int) + s) && decide ((u.length : Int) + s < ((u.length + H : Nat) : Int))) = true ↔ (0 < s ∧ 0 < t)) := by
        simp only [Bool.and_eq_true, decide_eq_true_eq]; omega
      have hcR : ((decide (((u.length + H : Nat) : Int) < (u.length : Int) + x.length + t) && decide ((u.length : Int) + x.length + t < (u.length : Int) + x.length + y.length)) = true ↔ (s < x.length ∧ t < y.length)) := by
        simp only [Bool.and_eq_true, decide_eq_true_eq]; omega
      have hxl : x.length = L0.length + R0.length := by omega
      have hyl : y.length = L1.length + R1.length := by omega
      refine ⟨by unfold I64; omega, fun w G cx => Br.intro (fun hro => fun w G cx => ?_) (fun hro => fun w G cx => ?_)⟩
      · simp only [Bool.and_eq_true, decide_eq_true_eq] at hro
        refine rotate_use (S := S ++ G) (u ++ L0) R0 L1 (R1 ++ z) (by omega) (by omega) (cx.re (by rw [hx2, hy2]; simp)) (hN.trans (by simp only [List.length_append]; omega)) (by simp only [List.length_append]; omega) (by simp only [List.length_append]; omega) (by simp only [List.length_append]; omega) (by simp only [List.length_append]; omega) fun w cx => ⟨rfl, bufE p cap (u ++ (L0 ++ L1) ++ (R0 ++ R1) ++ z) :: S, Φ1, inferInstance, cx.re (by simp), fun w G cx => ?_⟩
        exact Br.intro (fun h => fun w G cx => ih (S := S ++ G) u L0 L1 (R0 ++ R1 ++ z) (by omega) (by have := hcL.1 h; omega) (by have := hcL.1 h; omega) hL0a hL1a (fun q hq => hPL q (by simp [hq])) (fun q hq => hPL q (by simp [hq])) (hN.trans (by simp only [List.length_append]; omega)) (by simp only [List.length_append]; omega) (by omega) (by omega) (by omega) (fun L w hLp hLa cx => by have hLl : L.length = L0.length + L1.length := (by have := hLp.length_eq; rw [List.length_append] at this; exact this); exact ⟨rfl, bufE p cap (u ++ L ++ (R0 ++ R1) ++ z) :: S, Φ1, inferInstance, cx.re (by simp), fun w G cx => (Br.intro (fun h => fun w G cx => ih (S := S ++ G) (u ++ L) R0 R1 z (by omega) (by have := hcR.1 h; omega) (by have := hcR.1 h; omega) hR0a hR1a (fun q hq => hPR q (by simp [hq])) (fun q hq => hPR q (by simp [hq])) (hN.trans (by simp only [List.length_append]; omega)) (by simp only [List.length_append]; omega) (by simp only [List.length_append]; omega) (by simp only [List.length_append]; omega) (by simp only [List.length_append]; omega) (fun r w hp ha cx => ⟨rfl, bufE p cap (u ++ L ++ r ++ z) :: S, Φ1, inferInstance, cx, fun w G cx => hend L r hLp hLa hp ha w G cx⟩) (cx.re (by simp))) (fun h => fun w G cx => hend L (R0 ++ R1) hLp hLa (List.Perm.refl _) (hRs (fun hh => by have := hcR.2 hh; rw [this] at h; cases h)) w G cx))⟩) (cx.re (by simp))) (fun h => fun w G cx => by have hLa : Asc leE (L0 ++ L1) := hLs (fun hh => by have := hcL.2 hh; rw [this] at h; cases h); generalize hLe : L0 ++ L1 = L at hLa cx ⊢; have hLl : L.length = L0.length + L1.length := (by rw [← hLe]; exact List.length_append); have hLp : L.Perm (L0 ++ L1) := (by rw [hLe]); exact (Br.intro (fun h => fun w G cx => ih (S := S ++ G) (u ++ L) R0 R1 z (by omega) (by have := hcR.1 h; omega) (by have := hcR.1 h; omega) hR0a hR1a (fun q hq => hPR q (by simp [hq])) (fun q hq => hPR q (by simp [hq])) (hN.trans (by simp only [List.length_append]; omega)) (by simp only [List.length_append]; omega) (by simp only [List.length_append]; omega) (by simp only [List.length_append]; omega) (by simp only [List.length_append]; omega) (fun r w hp ha cx => ⟨rfl, bufE p cap (u ++ L ++ r ++ z) :: S, Φ1, inferInstance, cx, fun w G cx => hend L r hLp hLa hp ha w G cx⟩) (cx.re (by simp))) (fun h => fun w G cx => hend L (R0 ++ R1) hLp hLa (List.Perm.refl _) (hRs (fun hh => by have := hcR.2 hh; rw [this] at h; cases h)) w G cx)))
      · have hro' : ¬ (s < x.length ∧ 0 < t) := fun h => by
          have : (decide ((u.length : Int) + s < (u.length : Int) + x.length) && decide ((u.length : Int) + x.length < (u.length : Int) + x.length + t)) = true := by simp only [Bool.and_eq_true, decide_eq_true_eq]; omega
          rw [this] at hro; cases hro
        have hsame : R0 ++ L1 = L1 ++ R0 := by
          by_cases hz : s < x.length
          · rw [List.eq_nil_of_length_eq_zero (l := L1) (by omega)]; simp
          · rw [List.eq_nil_of_length_eq_zero (l := R0) (by omega)]; simp
        have heq : u ++ x ++ y ++ z = u ++ (L0 ++ L1) ++ (R0 ++ R1) ++ z := by
          rw [hx2, hy2]
          simp only [List.append_assoc]
          rw [← List.append_assoc R0 L1, hsame]
          simp only [List.append_assoc]
        rw [heq] at cx ⊢
        exact Br.intro (fun h => fun w G cx => ih (S := S ++ G) u L0 L1 (R0 ++ R1 ++ z) (by omega) (by have := hcL.1 h; omega) (by have := hcL.1 h; omega) hL0a hL1a (fun q hq => hPL q (by simp [hq])) (fun q hq => hPL q (by simp [hq])) (hN.trans (by simp only [List.length_append]; omega)) (by simp only [List.length_append]; omega) (by omega) (by omega) (by omega) (fun L w hLp hLa cx => by have hLl : L.length = L0.length + L1.length := (by have := hLp.length_eq; rw [List.length_append] at this; exact this); exact ⟨rfl, bufE p cap (u ++ L ++ (R0 ++ R1) ++ z) :: S, Φ1, inferInstance, cx.re (by simp), fun w G cx => (Br.intro (fun h => fun w G cx => ih (S := S ++ G) (u ++ L) R0 R1 z (by omega) (by have := hcR.1 h; omega) (by have := hcR.1 h; omega) hR0a hR1a (fun q hq => hPR q (by simp [hq])) (fun q hq => hPR q (by simp [hq])) (hN.trans (by simp only [List.length_append]; omega)) (by simp only [List.length_append]; omega) (by simp only [List.length_append]; omega) (by simp only [List.length_append]; omega) (by simp only [List.length_append]; omega) (fun r w hp ha cx => ⟨rfl, bufE p cap (u ++ L ++ r ++ z) :: S, Φ1, inferInstance, cx, fun w G cx => hend L r hLp hLa hp ha w G cx⟩) (cx.re (by simp))) (fun h => fun w G cx => hend L (R0 ++ R1) hLp hLa (List.Perm.refl _) (hRs (fun hh => by have := hcR.2 hh; rw [this] at h; cases h)) w G cx))⟩) (cx.re (by simp))) (fun h => fun w G cx => by have hLa : Asc leE (L0 ++ L1) := hLs (fun hh => by have := hcL.2 hh; rw [this] at h; cases h); generalize hLe : L0 ++ L1 = L at hLa cx ⊢; have hLl : L.length = L0.length + L1.length := (by rw [← hLe]; exact List.length_append); have hLp : L.Perm (L0 ++ L1) := (by rw [hLe]); exact (Br.intro (fun h => fun w G cx => ih (S := S ++ G) (u ++ L) R0 R1 z (by omega) (by have := hcR.1 h; omega) (by have := hcR.1 h; omega) hR0a hR1a (fun q hq => hPR q (by simp [hq])) (fun q hq => hPR q (by simp [hq])) (hN.trans (by simp only [List.length_append]; omega)) (by simp only [List.length_append]; omega) (by simp only [List.length_append]; omega) (by simp only [List.length_append]; omega) (by simp only [List.length_append]; omega) (fun r w hp ha cx => ⟨rfl, bufE p cap (u ++ L ++ r ++ z) :: S, Φ1, inferInstance, cx, fun w G cx => hend L r hLp hLa hp ha w G cx⟩) (cx.re (by simp))) (fun h => fun w G cx => hend L (R0 ++ R1) hLp hLa (List.Perm.refl _) (hRs (fun hh => by have := hcR.2 hh; rw [this] at h; cases h)) w G cx)))

end Go.Proofs.YtnapfhbibikbiaaGreatDoor
end

/-
  The stable sort of deltas.
-/
section
set_option linter.unusedVariables false
set_option linter.unusedSimpArgs false
namespace Go.Proofs.YtnapfhbibikbiaaGreatDoor
open Go.Vc


theorem cat_all {cs : List (List DE)} {bs : Nat} {c : List DE} (h : ∀ d ∈ cs, d.length = bs ∧ Asc leE d) (h1 : c.length = bs) (h2 : Asc leE c) : ∀ d ∈ cs ++ [c], d.length = bs ∧ Asc leE d := fun d hd => by
  rcases List.mem_append.1 hd with hd | hd
  · exact h d hd
  · rw [List.mem_singleton.1 hd]; exact ⟨h1, h2⟩

theorem flat_snoc (cs : List (List DE)) (c : List DE) : (cs ++ [c]).flatten = cs.flatten ++ c := by simp

theorem flat_one {cs : List (List DE)} {bs : Nat} (h0 : 0 < bs) (h : ∀ d ∈ cs, d.length = bs ∧ Asc leE d) (hl : cs.flatten.length = 0) : cs = [] := by
  cases cs with
  | nil => rfl
  | cons c cs =>
    have := (h c (by simp)).1
    rw [List.flatten_cons, List.length_append] at hl
    omega

set_option maxHeartbeats 4000000 in
theorem stable_use {W w : World} {S : List Own} {Φ : PW} [Stable Φ] {p : Option Addr} {cap : Nat} {f : FuncId} {cp : Array Value} {P : DE → Prop} (hf : CmpFn Φ f cp P) (es : List DE) (hP : ∀ e ∈ es, P e) (cx : Ctx W w (bufE p cap es :: S) Φ)
    (hlen : es.length ≤ 100000000) {K : Ending → World → Prop} (hK : ∀ es' w', es'.Perm es → Asc leE es' → Ctx W w' (bufE p cap es' :: S) Φ → K (.returned (.tuple #[])) w') :
    Calls Tryz.prog F.slices_stableCmpFunc_api_Delta #[.slice p es.length cap, .int .i64 es.length, .func (.func f) #[] cp] w K := by
  refine (Bslices_stableCmpFunc_api_Delta_run p es.length cap es.length f cp (J := fun u w' => K (.returned u) w') cx ?_).mono fun e w' ⟨v, he, hj⟩ => by rw [he]; exact hj
  refine exI_mk (fun a b R' Φ' k => ∃ (cs : List (List DE)) (rest : List DE), a = cs.flatten.length ∧ b = (cs.flatten.length : Int) + 20 ∧ (∀ c ∈ cs, c.length = 20 ∧ Asc leE c) ∧ (cs.flatten ++ rest).Perm es ∧ R' = bufE p cap (cs.flatten ++ rest) :: S ∧ Φ' = Φ ∧ k = rest.length)
    ⟨⟨_, Φ, _, inferInstance, fun w G cx => cx, [], es, rfl, rfl, by simp, List.Perm.refl _, rfl, rfl, rfl⟩, ?_⟩
  clear cx
  rintro _ _ R1 Φ1 k _ ⟨cs, rest, rfl, rfl, hcs, hperm, rfl, rfl, rfl⟩
  have hlp := hperm.length_eq
  rw [List.length_append] at hlp
  have hPr : ∀ q ∈ rest, P q := fun q hq => hP q (hperm.mem_iff.1 (by simp [hq]))
  refine Br.intro (fun hle => fun w G cx => ?_) (fun hgt => fun w G cx => ?_)
  · have hle := of_decide_eq_true hle
    have hl1 : (rest.take 20).length = 20 := by rw [List.length_take]; omega
    have hl2 : (rest.drop 20).length = rest.length - 20 := by rw [List.length_drop]
    refine insertionSort_use (S := S ++ G) hf cs.flatten (rest.take 20) (rest.drop 20) (fun q hq => hPr q (List.mem_of_mem_take hq)) (cx.re (by simp)) (by simp only [List.length_append]; omega) (by simp only [List.length_append]; omega) rfl (by omega) fun x' w hp ha cx => ?_
    have hx' : x'.length = 20 := by rw [hp.length_eq, hl1]
    refine ⟨rfl, bufE p cap ((cs ++ [x']).flatten ++ rest.drop 20) :: S, Φ1, inferInstance, cx.re (by rw [flat_snoc]; rfl), by unfold I64; omega, _, Φ1, (rest.drop 20).length, inferInstance, fun w G cx => cx, ⟨cs ++ [x'], rest.drop 20, by rw [flat_snoc, List.length_append]; omega, by rw [flat_snoc, List.length_append]; omega, cat_all hcs hx' ha, ?_, rfl, rfl, rfl⟩, by omega⟩
    refine List.Perm.trans ?_ hperm
    rw [flat_snoc, List.append_assoc]
    refine List.Perm.append_left _ ((List.Perm.append_right _ hp).trans ?_)
    rw [List.take_append_drop]
  have hgt := of_decide_eq_false hgt
  refine insertionSort_use (S := S ++ G) hf cs.flatten rest [] hPr (cx.re (by simp)) (by simp only [List.length_append, List.length_nil]; omega) (by simp only [List.length_append, List.length_nil]; omega) rfl (by omega) fun x' w hp ha cx => ?_
  have hx' := hp.length_eq
  refine ⟨rfl, bufE p cap (cs.flatten ++ x') :: S, Φ1, inferInstance, cx.re (by simp), ?_⟩
  refine exI_mk (fun bs R' Φ' k => ∃ (b : Nat) (cs : List (List DE)) (rest : List DE), bs = b ∧ 20 ≤ b ∧ b ≤ 200000000 ∧ (∀ c ∈ cs, c.length = b ∧ Asc leE c) ∧ Asc leE rest ∧ rest.length < b ∧ (cs.flatten ++ rest).Perm es ∧ R' = bufE p cap (cs.flatten ++ rest) :: S ∧ Φ' = Φ1 ∧ k = es.length - b)
    ⟨⟨_, Φ1, _, inferInstance, fun w G cx => cx, 20, cs, x', rfl, by omega, by omega, hcs, ha, by omega, (List.Perm.append_left _ hp).trans hperm, rfl, rfl, rfl⟩, ?_⟩
  clear cx hx' ha hp hcs hperm hPr hlp hgt
  rintro _ R2 Φ2 k _ ⟨b, cs, rest, rfl, hb20, hbm, hcs, hra, hrl, hperm, rfl, rfl, rfl⟩
  have hlp := hperm.length_eq
  rw [List.length_append] at hlp
  refine Br.intro (fun hlt => ?_) (fun hge => fun w G cx => ?_)
  · have hlt := of_decide_eq_true hlt
    refine ⟨by unfold I64; omega, ?_⟩
    refine exI_mk (fun a e R' Φ' k => ∃ (ds cs : List (List DE)), a = ds.flatten.length ∧ e = (ds.flatten.length : Int) + 2 * b ∧ (∀ d ∈ ds, d.length = 2 * b ∧ Asc leE d) ∧ (∀ c ∈ cs, c.length = b ∧ Asc leE c) ∧ (ds.flatten ++ (cs.flatten ++ rest)).Perm es ∧ R' = bufE p cap (ds.flatten ++ (cs.flatten ++ rest)) :: S ∧ Φ' = Φ2 ∧ k = cs.length)
      ⟨⟨_, Φ2, _, inferInstance, fun w G cx => cx, [], cs, rfl, by simp, by simp, hcs, hperm, rfl, rfl, rfl⟩, ?_⟩
    clear hcs hperm hlp
    rintro _ _ R3 Φ3 k _ ⟨ds, cs, rfl, rfl, hds, hcs, hperm, rfl, rfl, rfl⟩
    have hlp := hperm.length_eq
    rw [List.length_append, List.length_append] at hlp
    have hPc : ∀ c ∈ cs, ∀ q ∈ c, P q := fun c hc q hq => hP q (hperm.mem_iff.1 (by
      simp only [List.mem_append, List.mem_flatten]
      exact .inr (.inl ⟨c, hc, hq⟩)))
    have hPr : ∀ q ∈ rest, P q := fun q hq => hP q (hperm.mem_iff.1 (by simp [hq]))
    refine Br.intro (fun hle => ?_) (fun hgt => ?_)
    · have hle := of_decide_eq_true hle
      obtain ⟨c1, c2, cs, rfl⟩ : ∃ c1 c2 cs', cs = c1 :: c2 :: cs' := by
        match cs, hcs, hlp with
        | [], _, hlp => simp only [List.flatten_nil, List.flatten_cons, List.length_nil, List.length_append] at hlp; omega
        | [c], hcs, hlp => have := (hcs c (by simp)).1; simp only [List.flatten_nil, List.flatten_cons, List.length_nil, List.length_append] at hlp; omega
        | c1 :: c2 :: cs', _, _ => exact ⟨c1, c2, cs', rfl⟩
      obtain ⟨hc1, ha1⟩ := hcs c1 (by simp)
      obtain ⟨hc2, ha2⟩ := hcs c2 (by simp)
      simp only [List.flatten_cons, List.length_append] at hlp
      refine ⟨by unfold I64; omega, fun w G cx => ?_⟩
      refine symMerge_use (S := S ++ G) hf _ ds.flatten c1 c2 (cs.flatten ++ rest) (Nat.le_refl _) (by omega) (by omega) ha1 ha2 (hPc c1 (by simp)) (hPc c2 (by simp)) (by simp only [List.length_append]; omega) (by simp only [List.length_append]; omega) rfl (by omega) (by omega) (fun r w hp ha cx => ?_) (cx.re (by simp))
      have hrl2 : r.length = 2 * b := by rw [hp.length_eq, List.length_append]; omega
      refine ⟨rfl, bufE p cap ((ds ++ [r]).flatten ++ (cs.flatten ++ rest)) :: S, Φ3, inferInstance, cx.re (by rw [flat_snoc]; rfl), by unfold I64; omega, by unfold I64; omega, _, Φ3, cs.length, inferInstance, fun w G cx => cx, ⟨ds ++ [r], cs, by rw [flat_snoc, List.length_append]; omega, by rw [flat_snoc, List.length_append]; omega, cat_all hds hrl2 ha, fun c hc => hcs c (by simp [hc]), ?_, rfl, rfl, rfl⟩, by simp; omega⟩
      refine List.Perm.trans ?_ hperm
      rw [flat_snoc, List.append_assoc]
      refine List.Perm.append_left _ ((List.Perm.append_right _ hp).trans (List.Perm.of_eq ?_))
      simp
    · have hgt := of_decide_eq_false hgt
      have hshape : (cs = [] ∧ rest.length = rest.length) ∨ ∃ c, cs = [c] := by
        match cs, hcs, hlp with
        | [], _, _ => exact .inl ⟨rfl, rfl⟩
        | [c], _, _ => exact .inr ⟨c, rfl⟩
        | c1 :: c2 :: cs', hcs, hlp =>
          have h1 := (hcs c1 (by simp)).1
          have h2 := (hcs c2 (by simp)).1
          simp only [List.flatten_cons, List.length_append] at hlp
          omega
      refine ⟨by unfold I64; omega, Br.intro (fun hm => fun w G cx => ?_) (fun hm => ⟨by unfold I64; omega, ?_⟩)⟩
      · have hm := of_decide_eq_true hm
        obtain ⟨c, rfl⟩ : ∃ c, cs = [c] := by
          rcases hshape with ⟨rfl, _⟩ | h
          · simp only [List.flatten_nil, List.flatten_cons, List.length_nil, List.length_append] at hlp; omega
          · exact h
        obtain ⟨hc1, ha1⟩ := hcs c (by simp)
        simp only [List.flatten_cons, List.flatten_nil, List.append_nil] at hlp
        refine symMerge_use (S := S ++ G) hf _ ds.flatten c rest [] (Nat.le_refl _) (by omega) (by omega) ha1 hra (hPc c (by simp)) hPr (by simp only [List.length_append, List.length_nil]; omega) (by simp only [List.length_append, List.length_nil]; omega) rfl (by omega) (by omega) (fun r w hp ha cx => ?_) (cx.re (by simp))
        have hrl2 : r.length = b + rest.length := by rw [hp.length_eq, List.length_append]; omega
        refine ⟨rfl, bufE p cap (ds.flatten ++ r) :: S, Φ3, inferInstance, cx.re (by simp), by unfold I64; omega, _, Φ3, es.length - 2 * b, inferInstance, fun w G cx => cx, ⟨2 * b, ds, r, by omega, by omega, by omega, hds, ha, by omega, ?_, rfl, rfl, rfl⟩, by omega⟩
        refine List.Perm.trans (List.Perm.append_left _ hp) (List.Perm.trans (List.Perm.of_eq ?_) hperm)
        simp
      · have hm := of_decide_eq_false hm
        rcases hshape with ⟨rfl, _⟩ | ⟨c, rfl⟩
        · exact ⟨bufE p cap (ds.flatten ++ rest) :: S, Φ3, es.length - 2 * b, inferInstance, fun w G cx => cx, ⟨2 * b, ds, rest, by omega, by omega, by omega, hds, hra, by omega, hperm, rfl, rfl, rfl⟩, by omega⟩
        · obtain ⟨hc1, ha1⟩ := hcs c (by simp)
          simp only [List.flatten_cons, List.flatten_nil, List.append_nil] at hlp hperm
          have hr : rest = [] := List.eq_nil_of_length_eq_zero (by omega)
          subst hr
          rw [List.append_nil] at hperm
          exact ⟨bufE p cap (ds.flatten ++ c) :: S, Φ3, es.length - 2 * b, inferInstance, fun w G cx => cx.re (by simp), ⟨2 * b, ds, c, by omega, by omega, by omega, hds, ha1, by omega, hperm, rfl, rfl, rfl⟩, by omega⟩
  · have hge := of_decide_eq_false hge
    refine hK (cs.flatten ++ rest) w hperm ?_ cx.left
    cases cs with
    | nil => exact hra
    | cons c cs =>
      have h1 := (hcs c (by simp)).1
      rw [List.flatten_cons, List.length_append] at hlp
      have h2 : cs = [] := flat_one (by omega) (fun d hd => hcs d (by simp [hd])) (by omega)
      have h3 : rest = [] := List.eq_nil_of_length_eq_zero (by omega)
      subst h2 h3
      simpa using (hcs c (by simp)).2

theorem SortStable_use {W w : World} {S : List Own} {Φ : PW} [Stable Φ] {p : Option Addr} {cap : Nat} {f : FuncId} {cp : Array Value} {P : DE → Prop} (hf : CmpFn Φ f cp P) (es : List DE) (hP : ∀ e ∈ es, P e) (cx : Ctx W w (bufE p cap es :: S) Φ)
    (hlen : es.length ≤ 100000000) {K : Ending → World → Prop} (hK : ∀ es' w', es'.Perm es → Asc leE es' → Ctx W w' (bufE p cap es' :: S) Φ → K (.returned (.tuple #[])) w') :
    Calls Tryz.prog F.slices_SortStableFunc_api_Delta_api_Delta #[.slice p es.length cap, .func (.func f) #[] cp] w K := by
  refine (Bslices_SortStableFunc_api_Delta_api_Delta_run p es.length cap f cp (J := fun u w' => K (.returned u) w') cx ?_).mono fun e w' ⟨v, he, hj⟩ => by rw [he]; exact hj
  exact fun w G cx => stable_use (S := S ++ G) hf es hP cx hlen fun es' w hp ha cx => ⟨rfl, bufE p cap es' :: S, Φ, inferInstance, cx, fun w G cx => hK es' w hp ha cx.left⟩

end Go.Proofs.YtnapfhbibikbiaaGreatDoor
end

/-
  The walks of the comparisons of values, rows and deltas; of Clone.
-/
section
set_option linter.unusedVariables false
set_option linter.unusedSimpArgs false
namespace Go.Proofs.YtnapfhbibikbiaaGreatDoor
open Go.Vc


set_option maxHeartbeats 1000000 in
set_option maxRecDepth 100000 in
theorem bytealg_CompareString (a b : ByteArray) (w : World) :
    Calls Tryz.prog 87 #[.string a, .string b] w fun e w' => e = .returned (.int .i64 (Lib.compareBytes a.data.toList b.data.toList)) ∧ w' = w := by
  go_enter Tryz.func87, Tryz.ntmps87
  go_wp2
  rw [run_callFunc_extern Tryz.func96 (by kernel_rfl) (by kernel_rfl) (by kernel_rfl) (e := Extern.BytealgCompare.compare) (by kernel_rfl), Lib.run_compareString]
  simp only [Result.andThen]
  rw [Oper.upon_value]
  go_wp2
  go_ret
  exact ⟨rfl, rfl⟩

set_option maxHeartbeats 1000000 in
theorem strings_Compare (a b : ByteArray) (w : World) :
    Calls Tryz.prog 74 #[.string a, .string b] w fun e w' => e = .returned (.int .i64 (Lib.compareBytes a.data.toList b.data.toList)) ∧ w' = w := by
  go_enter Tryz.func74, Tryz.ntmps74
  go_wp2_with (go_at_call 87; refine (bytealg_CompareString _ _ _).mono ?_; rintro e w' ⟨rfl, rfl⟩)
  go_ret
  exact ⟨rfl, rfl⟩

theorem sl_val {M : List Nat} {w : World} {b o : Nat} {l : List ValD} (h : Sl M w (some ⟨b, o, none⟩) l) {i : Nat} (hi : i < l.length) : RowAt w b (o + i * 3) [.int .i64 l[i].kind, .int .i64 l[i].num, .string l[i].text] := by
  obtain ⟨b', o', cs, e, _, h3, _, _, rfl, ⟨rfl, _⟩, _, _, rfl, ⟨rfl, _⟩, rfl, _⟩ := h i hi
  cases e
  exact h3

theorem sl_int {M : List Nat} {w : World} {b o : Nat} {l : List Int} (h : Sl M w (some ⟨b, o, none⟩) l) {i : Nat} (hi : i < l.length) : w.cell? ⟨b, o + i, none⟩ = some (.int .i64 l[i]) := by
  obtain ⟨b', o', cs, e, _, h3, rfl, _⟩ := h i hi
  cases e
  have := h3 0 (by simp)
  simpa [show (Gv.ty Int).size = 1 from rfl] using this

theorem isNaN_g (x : Int) : Gives Tryz.prog F.cmp_isNaN_int #[.int .i64 x] (.bool false) :=
  gives_of (Bcmp_isNaN_int_run x) fun W R Φ _ => fun w F c => ⟨by simp, c.left⟩

theorem cmp_g (x y : Int) : Gives Tryz.prog F.cmp_Compare_int #[.int .i64 x, .int .i64 y] (.int .i64 (cmpI x y)) := by
  refine gives_of (Bcmp_Compare_int_run x y) fun W R Φ _ => ?_
  refine fun w F c => (isNaN_g _).use c fun w c => ⟨_, rfl, _, _, inferInstance, c, fun w F c => (isNaN_g _).use c fun w c => ⟨_, rfl, _, _, inferInstance, c, Br.intro (fun h => by cases h) (fun _ => Br.intro (fun h => by cases h) (fun _ => Br.intro (fun h => fun w F c => ⟨?_, c.left⟩) (fun h => Br.intro (fun h2 => fun w F c => ⟨?_, c.left⟩) (fun h2 => fun w F c => ⟨?_, c.left⟩))))⟩⟩
  · unfold cmpI; rw [if_pos (by simpa using h)]
  · have h : ¬ x < y := by simpa using h
    unfold cmpI; rw [if_neg h, if_pos (by simpa using h2)]
  · have h : ¬ x < y := by simpa using h
    have h2 : ¬ y < x := by simpa using h2
    unfold cmpI; rw [if_neg h, if_neg h2]

theorem orI_drop (l : List Int) (i : Nat) (hi : i < l.length) : orI (l.drop i) = if l[i] ≠ 0 then l[i] else orI (l.drop (i + 1)) := by
  rw [List.drop_eq_getElem_cons hi]; rfl

theorem or_in {Φ : PW} [Stable Φ] (p : Option Addr) (cap : Nat) (l : List Int) (hΦ : ∀ M w, Φ M w → Sl M w p l) (hlen : l.length ≤ 1000000) :
    GivesIn Φ Tryz.prog F.cmp_Or_int #[.slice p l.length cap] (.int .i64 (orI l)) := by
  refine .there (fun M w h => (hΦ M w h).there) fun hth => ?_
  refine gives_in (Bcmp_Or_int_run p l.length cap) fun W R => ?_
  refine exI_mk (fun n R' Φ' k => ∃ i : Nat, n = i ∧ i ≤ l.length ∧ R' = R ∧ Φ' = Φ ∧ k = l.length - i ∧ orI l = orI (l.drop i)) ⟨⟨R, Φ, _, inferInstance, fun w F c => c, 0, rfl, Nat.zero_le _, rfl, rfl, rfl, rfl⟩, ?_⟩
  rintro n R1 Φ1 k _ ⟨i, rfl, hi, rfl, rfl, rfl, hor⟩
  refine Br.intro (fun hlt => ?_) (fun hge => fun w F cx => ⟨?_, cx.left⟩)
  · have hlt : i < l.length := by simpa using hlt
    obtain ⟨b, o, rfl⟩ := hth (by omega)
    rw [orI_drop l i hlt] at hor
    refine ⟨by omega, ptrK_intro b o rfl fun w F cx => ⟨_, sl_int (hΦ _ _ cx.phi) hlt, Br.intro (fun h => fun w F cx => ⟨?_, cx.left⟩) (fun h => ⟨by unfold I64; omega, R1, Φ1, l.length - (i + 1), inferInstance, fun w F c => c, ⟨i + 1, rfl, hlt, rfl, rfl, rfl, ?_⟩, by omega⟩)⟩⟩
    · have h : l[i] ≠ 0 := by simpa using h
      rw [hor, if_pos h]
    · have h : ¬ l[i] ≠ 0 := by simpa using h
      rw [hor, if_neg h]
  · have hge : i = l.length := Nat.le_antisymm hi (by simpa using hge)
    rw [hor, hge, List.drop_length]
    rfl

theorem I64_bd {x : Int} (h : -1 ≤ x ∧ x ≤ 1) : I64 x := by unfold I64; omega

theorem ints_elems {M : List Nat} {w : World} : ∀ (l : List Int), (∀ x ∈ l, I64 x) → Elems M w (l.map fun x => .int .i64 x) l := by
  intro l h
  refine ⟨by simp [show (Gv.ty Int).size = 1 from rfl], fun j hj => ?_⟩
  rw [show (Gv.ty Int).size = 1 from rfl, Nat.mul_one, rep_int]
  refine ⟨?_, h _ (List.getElem_mem _)⟩
  apply List.ext_getElem?
  intro i
  rcases i with _ | i
  · rw [List.getElem?_take_of_lt (by omega), List.getElem?_drop]; simp [hj]
  · simp; omega

theorem tcmp_g (x y : ByteArray) : Gives Tryz.prog F.strings_Compare #[.string x, .string y] (.int .i64 (cmpT x y)) :=
  Quiet.gives ⟨fun w => strings_Compare x y w⟩

/-- a made block of ints, handed to cmp.Or -/
theorem or_blk {W w : World} {S : List Own} {Φ : PW} [Stable Φ] {k : Nat} {t : TypeId} (l : List Int) (cap : Nat) (hl : ∀ x ∈ l, I64 x) (hlen : l.length ≤ 1000000) (c : Ctx W w (.blk k (l.map fun x => .int .i64 x) t :: S) Φ)
    {K : Ending → World → Prop} (hk : ∀ w', Ctx W w' S Φ → K (.returned (.int .i64 (orI l))) w') : Calls Tryz.prog F.cmp_Or_int #[.slice (some ⟨k, 0, none⟩) l.length cap] w K := by
  obtain ⟨c', hs⟩ := c.freezeBlk (ints_elems l hl)
  exact (or_in (Φ := fun M w => Φ M w ∧ Sl M w (some ⟨k, 0, none⟩) l) (some ⟨k, 0, none⟩) cap l (fun _ _ h => h.2) hlen).use (c'.add hs) fun w' c => hk w' c.fst

theorem cmpV_g (x y : ValD) : Gives Tryz.prog F.value_Compare #[x.v, y.v] (.int .i64 (cmpV x y)) := by
  refine gives_of (Bvalue_Compare_run x.kind x.num x.text y.kind y.num y.text) fun W R Φ _ => ?_
  refine fun _ _ => ⟨R, Φ, inferInstance, fun _ _ c => c, fun w F c => (cmp_g _ _).use c fun w c => ⟨_, rfl, R, Φ, inferInstance, c, fun _ _ c => c, fun w F c => (cmp_g _ _).use c fun w c => ⟨_, rfl, R, Φ, inferInstance, c, fun _ _ c => c, fun w F c => (tcmp_g _ _).use c fun w c => ⟨_, rfl, R, Φ, inferInstance, c, fun k w F c => ?_⟩⟩⟩⟩
  refine or_blk (cmpL x y) 3 (fun u hu => ?_) (by simp) c fun w c => ⟨_, rfl, R, Φ, inferInstance, c, fun w F c => ⟨rfl, c.left⟩⟩
  simp only [cmpL, List.mem_cons, List.not_mem_nil, or_false] at hu
  rcases hu with rfl | rfl | rfl
  · exact I64_bd (cmpI_cmp.bd _ _)
  · exact I64_bd (cmpI_cmp.bd _ _)
  · exact I64_bd (cmpT_cmp.bd _ _)

theorem CompareRows_in {Φ : PW} [Stable Φ] (p q : Option Addr) (cap cap2 : Nat) (l r : List ValD) (hΦ : ∀ M w, Φ M w → Sl M w p l) (hΨ : ∀ M w, Φ M w → Sl M w q r) (hlen : l.length ≤ 9223372036854775807) :
    GivesIn Φ Tryz.prog F.value_CompareRows #[.slice p l.length cap, .slice q r.length cap2] (.int .i64 (cmpR l r)) := by
  refine .there (fun M w h => (hΦ M w h).there) fun hth => .there (fun M w h => (hΨ M w h).there) fun hth2 => ?_
  refine gives_in (Bvalue_CompareRows_run p l.length cap q r.length cap2) fun W R => fun w0 F0 c0 => ?_
  refine GivesIn.use ?_ c0 fun w c => ⟨_, rfl, R, Φ, inferInstance, c, fun w F c => ⟨rfl, c.left⟩⟩
  refine gives_in (Bslices_CompareFunc_api_Value__api_Value_api_Value_api_Value_run p l.length cap q r.length cap2 67 #[]) fun W R => ?_
  refine exI_mk (fun n R' Φ' k => ∃ i : Nat, n = i ∧ i ≤ l.length ∧ i ≤ r.length ∧ R' = R ∧ Φ' = Φ ∧ k = l.length - i ∧ cmpR l r = cmpR (l.drop i) (r.drop i)) ⟨⟨R, Φ, _, inferInstance, fun w F c => c, 0, rfl, Nat.zero_le _, Nat.zero_le _, rfl, rfl, rfl, rfl⟩, ?_⟩
  rintro n R1 Φ1 k _ ⟨i, rfl, hi, hr, rfl, rfl, rfl, hcm⟩
  refine Br.intro (fun hlt => ?_) (fun hge => ?_)
  · have hlt : i < l.length := by simpa using hlt
    obtain ⟨b, o, rfl⟩ := hth (by omega)
    refine ⟨by omega, ptrK_intro b o rfl fun w F cx => ⟨_, _, _, sl_val (hΦ _ _ cx.phi) hlt, fun _ => Br.intro (fun h => fun w F cx => ⟨?_, cx.left⟩) (fun h => ?_)⟩⟩
    · have h : r.length ≤ i := by simpa using h
      rw [hcm, cmpR_left hlt h]
    · have h : i < r.length := by simpa using h
      obtain ⟨b2, o2, rfl⟩ := hth2 (by omega)
      rw [cmpR_both hlt h] at hcm
      refine ⟨by omega, ptrK_intro b2 o2 rfl fun w F cx => ⟨_, _, _, sl_val (hΨ _ _ cx.phi) h, fun _ w F cx => ⟨by kernel_rfl, (cmpV_g l[i] r[i]).use cx fun w cx => ⟨_, rfl, R1, Φ1, inferInstance, cx, Br.intro (fun hn => fun w F cx => ⟨?_, cx.left⟩) (fun hn => ⟨by unfold I64; omega, R1, Φ1, l.length - (i + 1), inferInstance, fun w F c => c, ⟨i + 1, rfl, hlt, h, rfl, rfl, rfl, ?_⟩, by omega⟩)⟩⟩⟩⟩
      · have hn : cmpV l[i] r[i] ≠ 0 := by simpa using hn
        rw [hcm, if_pos hn]
      · have hn : ¬ cmpV l[i] r[i] ≠ 0 := by simpa using hn
        rw [hcm, if_neg hn]
  · have hge : i = l.length := Nat.le_antisymm hi (by simpa using hge)
    subst hge
    refine Br.intro (fun h => fun w F cx => ⟨?_, cx.left⟩) (fun h => fun w F cx => ⟨?_, cx.left⟩)
    · have h : l.length < r.length := by simpa using h
      rw [hcm, List.drop_length, List.drop_eq_getElem_cons h]; rfl
    · have h : ¬ l.length < r.length := by simpa using h
      rw [hcm, List.drop_length, List.drop_of_length_le (by omega)]; rfl

/-! ### deltas -/
theorem compareD_in {Φ : PW} [Stable Φ] (x y : DeltaD) (p q : Option Addr) (cap cap2 : Nat) (hΦ : ∀ M w, Φ M w → Sl M w p x.row) (hΨ : ∀ M w, Φ M w → Sl M w q y.row) (hlen : x.row.length ≤ 9223372036854775807) :
    GivesIn Φ Tryz.prog F.delta_compare #[x.v p cap, y.v q cap2] (.int .i64 (cmpD x y)) := by
  refine gives_in (Bdelta_compare_run x.time p x.row.length cap x.n y.time q y.row.length cap2 y.n) fun W R => ?_
  refine fun _ _ => ⟨R, Φ, inferInstance, fun _ _ c => c, fun w F c => (cmp_g _ _).use c fun w c => ⟨_, rfl, R, Φ, inferInstance, c, fun _ _ c => c, fun w F c => (CompareRows_in p q cap cap2 x.row y.row hΦ hΨ hlen).use c fun w c => ⟨_, rfl, R, Φ, inferInstance, c, fun k w F c => ?_⟩⟩⟩
  refine or_blk (cmpDL x y) 2 (fun u hu => ?_) (by simp) c fun w c => ⟨_, rfl, R, Φ, inferInstance, c, fun w F c => ⟨rfl, c.left⟩⟩
  simp only [cmpDL, List.mem_cons, List.not_mem_nil, or_false] at hu
  rcases hu with rfl | rfl
  · exact I64_bd (cmpI_cmp.bd _ _)
  · exact I64_bd (cmpR_cmp.bd _ _)

end Go.Proofs.YtnapfhbibikbiaaGreatDoor
end

/-
  The encodings of ints, texts, values and rows: in plain Lean, and walked.
-/
section
set_option linter.unusedVariables false
set_option linter.unusedSimpArgs false
namespace Go.Vc
theorem GivesIn.know {Φ : PW} {P : Program} {f : FuncId} {args : Array Value} {v : Value} {p : Prop} (hΦ : ∀ M w, Φ M w → p) (h : p → GivesIn Φ P f args v) : GivesIn Φ P f args v :=
  ⟨fun W w S c => (h (hΦ _ _ c.phi)).go W w S c⟩
theorem GivesSl.know {Φ : PW} {P : Program} {f : FuncId} {args : Array Value} {α : Type} [Gv α] {l : List α} {mk : Value → Value} {p : Prop} (hΦ : ∀ M w, Φ M w → p) (h : p → GivesSl Φ P f args l mk) : GivesSl Φ P f args l mk :=
  ⟨fun W w S c => (h (hΦ _ _ c.phi)).go W w S c⟩
theorem GivesNew.know {Φ : PW} {P : Program} {f : FuncId} {args : Array Value} {α : Type} [Gv α] {l : List α} {t : TypeId} {p : Prop} (hΦ : ∀ M w, Φ M w → p) (h : p → GivesNew Φ P f args l t) : GivesNew Φ P f args l t :=
  ⟨fun W w S c => (h (hΦ _ _ c.phi)).go W w S c⟩
end Go.Vc
namespace Go.Proofs.YtnapfhbibikbiaaGreatDoor
open Go.Vc

/-! ### in plain Lean -/
def numB (n : Int) : ByteArray := ⟨(Lib.itoa n).toArray⟩
def intB (n : Int) : ByteArray := numB n ++ ByteArray.mk #[59]
def natB (n : Int) : ByteArray := if n < 0 then ByteArray.mk #[] else intB n
def textB (s : ByteArray) : ByteArray := numB s.size ++ ByteArray.mk #[58] ++ s ++ ByteArray.mk #[44]
def valB (v : ValD) : ByteArray := intB v.kind ++ intB v.num ++ textB v.text
def valsL (r : List ValD) : List UInt8 := r.flatMap fun v => (valB v).data.toList
def rowL (r : List ValD) : List UInt8 := (natB r.length).data.toList ++ valsL r
def rowB (r : List ValD) : ByteArray := ⟨(rowL r).toArray⟩

theorem size_app (a b : ByteArray) : (a ++ b).size = a.size + b.size := ByteArray.size_append
theorem size_list (l : List UInt8) : (ByteArray.mk l.toArray).size = l.length := by simp [ByteArray.size]
theorem list_size (a : ByteArray) : a.data.toList.length = a.size := by rw [Array.length_toList]; rfl

theorem nDigits_le : ∀ (k u : Nat), u < 10 ^ k → 0 < k → Lib.nDigits u ≤ k
  | 0, u, _, h => by omega
  | k + 1, u, h, _ => by
    by_cases h1 : u < 10
    · rw [Lib.nDigits_small h1]; omega
    · rw [Lib.nDigits_big h1]
      have hk : 0 < k := by
        rcases Nat.eq_zero_or_pos k with rfl | h2
        · simp at h; omega
        · exact h2
      have := nDigits_le k (u / 10) (by rw [Nat.pow_succ] at h; omega) hk
      omega

theorem itoa_len {n : Int} (h : I64 n) : 1 ≤ (Lib.itoa n).length ∧ (Lib.itoa n).length ≤ 20 := by
  unfold I64 at h
  unfold Lib.itoa
  split
  · have h1 := nDigits_le 19 n.natAbs (by omega) (by decide)
    have h2 := Lib.nDigits_pos n.natAbs
    rw [List.length_cons, Lib.decDigits_length]; omega
  · have h1 := nDigits_le 19 n.toNat (by omega) (by decide)
    have h2 := Lib.nDigits_pos n.toNat
    rw [Lib.decDigits_length]; omega

theorem numB_size {n : Int} (h : I64 n) : 1 ≤ (numB n).size ∧ (numB n).size ≤ 20 := by
  unfold numB; rw [size_list]; exact itoa_len h
theorem intB_size {n : Int} (h : I64 n) : 2 ≤ (intB n).size ∧ (intB n).size ≤ 21 := by
  have := numB_size h
  have e : (ByteArray.mk #[59]).size = 1 := rfl
  unfold intB; rw [size_app, e]; omega
theorem natB_size {n : Int} (h : I64 n) : (natB n).size ≤ 21 := by
  unfold natB
  split
  · exact Nat.zero_le _
  · exact (intB_size h).2
theorem textB_size {s : ByteArray} (h : s.size ≤ 9223372036854775807) : (textB s).size ≤ s.size + 22 ∧ s.size + 3 ≤ (textB s).size := by
  have := numB_size (n := s.size) (by unfold I64; omega)
  have e : (ByteArray.mk #[58]).size = 1 := rfl
  have e2 : (ByteArray.mk #[44]).size = 1 := rfl
  unfold textB; rw [size_app, size_app, size_app, e, e2]; omega
theorem valB_size {v : ValD} (h1 : I64 v.kind) (h2 : I64 v.num) (h : v.text.size ≤ 9223372036854775807) : (valB v).size ≤ v.text.size + 64 := by
  have a := intB_size h1
  have b := intB_size h2
  have c := textB_size h
  unfold valB; rw [size_app, size_app]; omega

theorem valsL_app (a b : List ValD) : valsL (a ++ b) = valsL a ++ valsL b := by simp [valsL]
theorem valsL_one (v : ValD) : valsL [v] = (valB v).data.toList := by simp [valsL]
theorem valsL_len {m : Nat} : ∀ {r : List ValD}, (∀ v ∈ r, (I64 v.kind ∧ I64 v.num) ∧ v.text.size ≤ m) → m ≤ 9223372036854775807 → (valsL r).length ≤ r.length * (m + 64)
  | [], _, _ => by simp [valsL]
  | v :: r, h, hm => by
    have h1 := valsL_len (r := r) (fun u hu => h u (List.mem_cons_of_mem _ hu)) hm
    obtain ⟨⟨a, b⟩, c⟩ := h v List.mem_cons_self
    have h2 := valB_size a b (by omega)
    have e : valsL (v :: r) = (valB v).data.toList ++ valsL r := by simp [valsL]
    rw [e, List.length_append, list_size, List.length_cons, Nat.add_mul]
    omega
theorem rowL_len {m : Nat} {r : List ValD} (h : ∀ v ∈ r, (I64 v.kind ∧ I64 v.num) ∧ v.text.size ≤ m) (hm : m ≤ 9223372036854775807) (hr : r.length ≤ 1000000) : (rowL r).length ≤ 21 + r.length * (m + 64) := by
  have h1 := valsL_len h hm
  have h2 := natB_size (n := (r.length : Int)) (by unfold I64; omega)
  unfold rowL; rw [List.length_append, list_size]; omega

/-! ### walked -/
theorem rep_val {M : List Nat} {w : World} {cs : List Value} {v : ValD} (h : Gv.rep M w cs v) : cs = [.int .i64 v.kind, .int .i64 v.num, .string v.text] ∧ I64 v.kind ∧ I64 v.num ∧ v.text.size ≤ maxLen := by
  obtain ⟨_, _, rfl, ⟨rfl, h1⟩, _, _, rfl, ⟨rfl, h2⟩, rfl, h3⟩ := h
  exact ⟨rfl, h1, h2, h3⟩

theorem sl_i64 {M : List Nat} {w : World} {p : Option Addr} {l : List ValD} (h : Sl M w p l) : ∀ v ∈ l, (I64 v.kind ∧ I64 v.num) ∧ v.text.size ≤ maxLen := by
  intro v hv
  obtain ⟨i, hi, rfl⟩ := List.getElem_of_mem hv
  obtain ⟨_, _, _, _, _, _, hr⟩ := h i hi
  obtain ⟨_, h1, h2, h3⟩ := rep_val hr
  exact ⟨⟨h1, h2⟩, h3⟩

abbrev tabN : String := ((Rows.deltaBytesRow.laid.map Prod.fst).drop 2).headD default
/-- the table of the powers of ten lies there -/
abbrev TabI : PW := Tab Tryz.prog tabN .u64 Lib.pow10Tab

theorem Itoa_in {Φ : PW} [Stable Φ] (hΦ : ∀ M w, Φ M w → TabI M w) (n : Int) (h : I64 n) : GivesIn Φ Tryz.prog F.strconv_Itoa #[.int .i64 n] (.string (numB n)) :=
  itoa_in (name := tabN) (fun n h0 h1 w ht => Any.strconv_Itoa Tryz.laysM171 n h0 h1 w ht) hΦ n h

theorem Itoa_small (i : Nat) (hi : i < 100) : Gives Tryz.prog F.strconv_Itoa #[.int .i64 i] (.string (numB i)) :=
  Quiet.gives ⟨fun w => by
    have h := Any.strconv_Itoa_small { Tryz.lays171 with } i hi w
    rw [← Lib.itoa_nonneg] at h
    exact h⟩

/-- ints that the library writes: at these places, or small ones -/
def Dec (Φ : PW) (n : Int) : Prop := (∀ M w, Φ M w → TabI M w) ∧ I64 n ∨ ∃ i : Nat, i < 100 ∧ n = i

theorem Itoa_dec {Φ : PW} [Stable Φ] {n : Int} (h : Dec Φ n) : GivesIn Φ Tryz.prog F.strconv_Itoa #[.int .i64 n] (.string (numB n)) := by
  rcases h with ⟨h1, h2⟩ | ⟨i, hi, rfl⟩
  · exact Itoa_in h1 n h2
  · exact (Itoa_small i hi).in
theorem Dec.i64 {Φ : PW} {n : Int} (h : Dec Φ n) : I64 n := by
  rcases h with ⟨_, h2⟩ | ⟨i, hi, rfl⟩
  · exact h2
  · unfold I64; omega

theorem Int_in {Φ : PW} [Stable Φ] {n : Int} (h : Dec Φ n) : GivesIn Φ Tryz.prog F.wire_Int #[.int .i64 n] (.string (intB n)) := by
  refine gives_in (Bwire_Int_run n) fun W R => ?_
  have := numB_size h.i64
  exact fun w G cx => (Itoa_dec h).use cx fun w cx => ⟨_, rfl, R, Φ, inferInstance, cx, by show (numB n).size + 1 ≤ _; omega, fun w G cx => ⟨rfl, cx.left⟩⟩

theorem Num_in {Φ : PW} [Stable Φ] {n : Int} (h : Dec Φ n) : GivesIn Φ Tryz.prog F.wire_Num #[.int .i64 n] (.string (natB n)) := by
  refine gives_in (Bwire_Num_run n) fun W R => Br.intro (fun hn => fun w G cx => ⟨?_, cx.left⟩) (fun hn => fun w G cx => (Int_in h).use cx fun w cx => ⟨_, rfl, R, Φ, inferInstance, cx, fun w G cx => ⟨?_, cx.left⟩⟩)
  · unfold natB; rw [if_pos (of_decide_eq_true hn)]
  · unfold natB; rw [if_neg (of_decide_eq_false hn)]

theorem Text_in {Φ : PW} [Stable Φ] {s : ByteArray} (h : Dec Φ s.size) (hs : s.size ≤ 1000000000000) : GivesIn Φ Tryz.prog F.wire_Text #[.string s] (.string (textB s)) := by
  refine gives_in (Bwire_Text_run s) fun W R => ?_
  have h1 := numB_size h.i64
  have e : (ByteArray.mk #[58]).size = 1 := rfl
  have e2 : (ByteArray.mk #[44]).size = 1 := rfl
  exact fun w G cx => (Itoa_dec h).use cx fun w cx => ⟨_, rfl, R, Φ, inferInstance, cx, by show (numB s.size).size + 1 ≤ _; omega, by show (numB s.size ++ ByteArray.mk #[58]).size + s.size ≤ _; rw [size_app, e]; omega, by show (numB s.size ++ ByteArray.mk #[58] ++ s).size + 1 ≤ _; rw [size_app, size_app, e]; omega, fun w G cx => ⟨rfl, cx.left⟩⟩

theorem Bytes_in {Φ : PW} [Stable Φ] (v : ValD) (hΦ : ∀ M w, Φ M w → TabI M w) (h1 : I64 v.kind) (h2 : I64 v.num) (hs : v.text.size ≤ 1000000000000) : GivesIn Φ Tryz.prog F.value_Bytes #[v.v] (.string (valB v)) := by
  refine gives_in (Bvalue_Bytes_run v.kind v.num v.text) fun W R => ?_
  have a := intB_size h1
  have b := intB_size h2
  have c := textB_size (s := v.text) (by omega)
  exact fun _ => ⟨R, Φ, inferInstance, fun w G cx => cx, fun w G cx => (Int_in (.inl ⟨hΦ, h1⟩)).use cx fun w cx => ⟨_, rfl, R, Φ, inferInstance, cx, fun w G cx => cx, fun w G cx => (Int_in (.inl ⟨hΦ, h2⟩)).use cx fun w cx => ⟨_, rfl, R, Φ, inferInstance, cx, fun w G cx => cx, by show (intB v.kind).size + (intB v.num).size ≤ _; omega,
    fun w G cx => (Text_in (.inl ⟨hΦ, by unfold I64; omega⟩) hs).use cx fun w cx => ⟨_, rfl, R, Φ, inferInstance, cx, fun w G cx => cx, by show (intB v.kind ++ intB v.num).size + (textB v.text).size ≤ _; rw [size_app]; omega, fun w G cx => ⟨rfl, cx.left⟩⟩⟩⟩⟩

theorem RowBytes_in {Φ : PW} [Stable Φ] (p : Option Addr) (cap : Nat) (r : List ValD) (hT : ∀ M w, Φ M w → TabI M w) (hΦ : ∀ M w, Φ M w → Sl M w p r) (hr : r.length ≤ 1000000) (ht : ∀ v ∈ r, v.text.size ≤ 10000) :
    GivesIn Φ Tryz.prog F.value_RowBytes #[.slice p r.length cap] (.string (rowB r)) := by
  refine .there (fun M w h => (hΦ M w h).there) fun hth => .know (fun M w h => sl_i64 (hΦ M w h)) fun hi => ?_
  have hv : ∀ v ∈ r, (I64 v.kind ∧ I64 v.num) ∧ v.text.size ≤ 10000 := fun v h => ⟨(hi v h).1, ht v h⟩
  have hL := rowL_len hv (by decide) hr
  have hL : (rowL r).length ≤ 20000000000 := by
    have : r.length * (10000 + 64) ≤ 1000000 * 10064 := Nat.mul_le_mul hr (Nat.le_refl _)
    omega
  have hnat : (natB r.length).data.toList.length ≤ 20000000000 := by unfold rowL at hL; rw [List.length_append] at hL; omega
  refine gives_in (Bvalue_RowBytes_run p r.length cap) fun W R => ?_
  refine fun b w G cx => (Num_in (Φ := Φ) (.inl ⟨hT, by unfold I64; omega⟩)).use cx fun w cx => ⟨_, rfl, .blk b [.pointer none, .slice none 0 0] 44 :: R, Φ, inferInstance, cx, fun w G cx => ?_⟩
  refine WriteString_use (natB r.length) Bd.nil (Bd.fresh cx) (by rw [← list_size]; simp only [List.length_nil]; omega) fun R1 w hB cx => ⟨_, _, rfl, R1 ++ R, Φ, inferInstance, by rw [List.append_assoc]; exact cx, ?_⟩
  rw [List.nil_append] at hB
  clear cx
  refine exI_mk (fun iI R' Φ' k => ∃ (i : Nat) (Q : List Own), iI = i ∧ i ≤ r.length ∧ BdT b ((natB r.length).data.toList ++ valsL (r.take i)) Q ∧ R' = Q ++ R ∧ Φ' = Φ ∧ k = r.length - i) ⟨⟨_, Φ, _, inferInstance, fun w G cx => cx, 0, R1, rfl, Nat.zero_le _, by rw [List.take_zero, show valsL [] = [] from rfl, List.append_nil]; exact hB, rfl, rfl, rfl⟩, ?_⟩
  rintro iI R2 Φ2 k _ ⟨i, Q, rfl, hi, hQ, rfl, rfl, rfl⟩
  refine Br.intro (fun hlt => ?_) (fun hge => fun w G cx => ?_)
  · have hlt : i < r.length := by have := of_decide_eq_true hlt; omega
    obtain ⟨g, o, rfl⟩ := hth (by omega)
    obtain ⟨⟨h1, h2⟩, h3⟩ := hv r[i] (List.getElem_mem hlt)
    have hsz := valB_size h1 h2 (by omega)
    have hlen : ((natB r.length).data.toList ++ valsL (r.take (i + 1))).length ≤ 20000000000 := by
      have e : valsL r = valsL (r.take (i + 1)) ++ valsL (r.drop (i + 1)) := by rw [← valsL_app, List.take_append_drop]
      unfold rowL at hL
      rw [e, List.length_append, List.length_append] at hL
      rw [List.length_append]; omega
    have hstep : valsL (r.take (i + 1)) = valsL (r.take i) ++ (valB r[i]).data.toList := by rw [List.take_succ_eq_append_getElem hlt, valsL_app, valsL_one]
    refine ⟨by omega, ptrK_intro g o rfl fun w G cx => ⟨r[i].kind, r[i].num, r[i].text, by rw [Int.toNat_natCast]; exact sl_val (hΦ _ _ cx.phi) hlt, fun _ w G cx => (Bytes_in (Φ := Φ2) r[i] hT h1 h2 (by omega)).use cx fun w cx => ⟨_, rfl, Q ++ R, Φ2, inferInstance, cx, fun w G cx => ?_⟩⟩⟩
    refine WriteString_use (valB r[i]) hQ (cx.re (List.append_assoc _ _ _)) (by rw [hstep, ← List.append_assoc, List.length_append, list_size] at hlen; omega) fun Q' w hQ' cx => ⟨_, _, rfl, Q' ++ R, Φ2, inferInstance, by rw [List.append_assoc]; exact cx, by unfold I64; omega, _, Φ2, r.length - (i + 1), inferInstance, fun w G cx => cx, ⟨i + 1, Q', by omega, hlt, ?_, rfl, rfl, rfl⟩, by omega⟩
    rw [hstep, ← List.append_assoc]; exact hQ'
  · have hge : i = r.length := by have := of_decide_eq_false hge; omega
    subst hge
    rw [List.take_length] at hQ
    exact String_use hQ (cx.re (List.append_assoc _ _ _)) fun w cx => ⟨_, rfl, R, Φ2, inferInstance, cx, fun w G cx => ⟨rfl, cx.left⟩⟩

end Go.Proofs.YtnapfhbibikbiaaGreatDoor
end

/-
  STEPS of a walk: a call whose contract is known, and what follows it.
-/
section
set_option linter.unusedVariables false
set_option linter.unusedSimpArgs false
namespace Go.Vc

section
variable {P : Program} {W w : World} {R G : List Own} {Φ Ψ : PW} {f : FuncId} {args : Array Value}

/-- what is known holds this, too -/
class Has (Φ Ψ : PW) : Prop where
  go : ∀ M w, Φ M w → Ψ M w
instance (priority := 2000) hasRefl (Φ : PW) : Has Φ Φ := ⟨fun _ _ h => h⟩
instance (priority := 900) hasL (A B Ψ : PW) [h : Has A Ψ] : Has (fun M w => A M w ∧ B M w) Ψ := ⟨fun M w x => h.go M w x.1⟩
instance (priority := 1000) hasR (A B Ψ : PW) [h : Has B Ψ] : Has (fun M w => A M w ∧ B M w) Ψ := ⟨fun M w x => h.go M w x.2⟩
instance hasTrue (Φ : PW) : Has Φ (fun _ _ => True) := ⟨fun _ _ _ => trivial⟩
instance (priority := 800) hasAnd (Φ A B : PW) [h : Has Φ A] [k : Has Φ B] : Has Φ (fun M w => A M w ∧ B M w) := ⟨fun M w x => ⟨h.go M w x, k.go M w x⟩⟩

theorem Ctx.has (c : Ctx W w R Φ) [h : Has Φ Ψ] : Ctx W w R Ψ := c.weak h.go

theorem GivesSl.to [Stable Φ] {α : Type} [Gv α] {l : List α} (h : GivesSl Φ P f args l id) (c : Ctx W w (R ++ G) Φ) {K : Option Addr → Nat → Nat → List Own → PW → Prop}
    (hk : ∀ p cap, l.length ≤ cap → cap ≤ maxLen → Stable (fun M w => Φ M w ∧ Sl M w p l) → K p l.length cap R (fun M w => Φ M w ∧ Sl M w p l)) :
    Calls P f args w fun e w' => ∃ p n c, e = .returned (.slice p n c) ∧ ∃ R' Φ', Stable Φ' ∧ Ctx W w' (R' ++ G) Φ' ∧ K p n c R' Φ' :=
  h.use c fun p cap w' h1 h2 c => ⟨p, _, cap, rfl, R, _, inferInstance, c, hk p cap h1 h2 inferInstance⟩

theorem GivesIn.toB [Stable Φ] {b : Bool} (h : GivesIn Φ P f args (.bool b)) (c : Ctx W w (R ++ G) Φ) {K : Bool → List Own → PW → Prop} (hk : K b R Φ) :
    Calls P f args w fun e w' => ∃ c, e = .returned (.bool c) ∧ ∃ R' Φ', Stable Φ' ∧ Ctx W w' (R' ++ G) Φ' ∧ K c R' Φ' :=
  h.use c fun w' c => ⟨b, rfl, R, Φ, inferInstance, c, hk⟩
theorem GivesIn.toI [Stable Φ] {n : Int} {k : IntKind} (h : GivesIn Φ P f args (.int k n)) (c : Ctx W w (R ++ G) Φ) {K : Int → List Own → PW → Prop} (hk : K n R Φ) :
    Calls P f args w fun e w' => ∃ c, e = .returned (.int k c) ∧ ∃ R' Φ', Stable Φ' ∧ Ctx W w' (R' ++ G) Φ' ∧ K c R' Φ' :=
  h.use c fun w' c => ⟨n, rfl, R, Φ, inferInstance, c, hk⟩
theorem GivesIn.toS [Stable Φ] {s : ByteArray} (h : GivesIn Φ P f args (.string s)) (c : Ctx W w (R ++ G) Φ) {K : ByteArray → List Own → PW → Prop} (hk : K s R Φ) :
    Calls P f args w fun e w' => ∃ c, e = .returned (.string c) ∧ ∃ R' Φ', Stable Φ' ∧ Ctx W w' (R' ++ G) Φ' ∧ K c R' Φ' :=
  h.use c fun w' c => ⟨s, rfl, R, Φ, inferInstance, c, hk⟩

/-- .. of which less is kept -/
theorem GivesSl.toW [Stable Φ] [hs : Stable Ψ] {α : Type} [Gv α] {l : List α} (h : GivesSl Φ P f args l id) (c : Ctx W w (R ++ G) Φ) [hw : Has Φ Ψ] {K : Option Addr → Nat → Nat → List Own → PW → Prop}
    (hk : ∀ p cap, l.length ≤ cap → cap ≤ maxLen → Stable (fun M w => Ψ M w ∧ Sl M w p l) → K p l.length cap R (fun M w => Ψ M w ∧ Sl M w p l)) :
    Calls P f args w fun e w' => ∃ p n c, e = .returned (.slice p n c) ∧ ∃ R' Φ', Stable Φ' ∧ Ctx W w' (R' ++ G) Φ' ∧ K p n c R' Φ' :=
  h.use c fun p cap w' h1 h2 c => ⟨p, _, cap, rfl, R, _, inferInstance, c.weak fun M w h => ⟨hw.go M w h.1, h.2⟩, hk p cap h1 h2 inferInstance⟩
theorem GivesIn.toBW [hs : Stable Ψ] {b : Bool} (h : GivesIn Φ P f args (.bool b)) (c : Ctx W w (R ++ G) Φ) [hw : Has Φ Ψ] {K : Bool → List Own → PW → Prop} (hk : K b R Ψ) :
    Calls P f args w fun e w' => ∃ c, e = .returned (.bool c) ∧ ∃ R' Φ', Stable Φ' ∧ Ctx W w' (R' ++ G) Φ' ∧ K c R' Φ' :=
  h.use c fun w' c => ⟨b, rfl, R, Ψ, inferInstance, c.has, hk⟩

/-- the end -/
theorem fin [Stable Φ] [Stable Ψ] [hw : Has Ψ Φ] {v : Value} (c : Ctx W w (R ++ G) Ψ) : v = v ∧ Ctx W w R Φ := ⟨rfl, (Ctx.has c).left⟩

end
end Go.Vc
end

/-
  The reader of encodings: in plain Lean, and walked.
-/
section
set_option linter.unusedVariables false
set_option linter.unusedSimpArgs false
namespace Go.Vc
/-- a variable that holds an error, or none, in a block that nobody writes -/
def ErrAt (g : Nat) : PW := fun M w => g ∉ M ∧ ∃ ev, w.cell? ⟨g, 0, none⟩ = some ev ∧ (ev = .nilIface ∨ ∃ te pe, ev = .iface te pe)
instance instStableErrAt (g : Nat) : Stable (ErrAt g) := ⟨fun {M M' w w'} hs ⟨h1, ev, h2, h3⟩ => by
  have hlt : g < w.heap.size := by
    rcases Nat.lt_or_ge g w.heap.size with h' | h'
    · exact h'
    · simp [World.cell?, Array.getElem?_eq_none h'] at h2
  refine ⟨fun hm => ?_, ev, hs.chg.cell h2 h1, h3⟩
  rcases hs.sub g hm with h | h
  · exact h1 h
  · omega⟩
theorem chg_below {w w' : World} (h : Go.RowKit.Below w.heap.size w w') : Chg [] w w' := ⟨h.os, h.tape, h.output, h.size, fun k hk _ => h.block k hk⟩
theorem eqGuard_iface {P : Program} {op : BinOp} {t : TypeId} {ox oy : Operand} {u : TypeId} {v : Value} (w : World) : (eqGuard op t ox oy (.iface u v) .nilIface).run P w = .ok () w := by
  unfold eqGuard
  cases op <;> rfl
theorem eqGuard_nil {P : Program} {op : BinOp} {t : TypeId} {k : Nat} {v : Value} (w : World) : (eqGuard op t (.tmp k) (.const v) .nilIface .nilIface).run P w = .ok () w := by
  unfold eqGuard
  cases op <;> rfl
theorem neq_nil {P : Program} {op : BinOp} {t t' : TypeId} {k : Nat} {v : Value} (ht : P.isIface t' = true) (w : World) : ((eqGuard op t (.tmp k) (.const v) .nilIface .nilIface) >>= fun _ => binOp .neq t' .nilIface .nilIface).run P w = .ok (.bool false) w := by
  rw [Sem.run_bind, eqGuard_nil]
  exact Go.run_neq_nil_nil_at w t' ht
theorem neq_err {P : Program} {op : BinOp} {t t' : TypeId} {ox oy : Operand} {u : TypeId} {v : Value} (ht : P.isIface t' = true) (w : World) : ((eqGuard op t ox oy (.iface u v) .nilIface) >>= fun _ => binOp .neq t' (.iface u v) .nilIface).run P w = .ok (.bool true) w := by
  rw [Sem.run_bind, eqGuard_iface]
  exact Go.run_neq_iface_nil w t' ht u v
end Go.Vc
namespace Go.Proofs.YtnapfhbibikbiaaGreatDoor
open Go.Vc


/-- what the reading of numbers looks at -/
def NumI : PW := fun M w => TabI M w ∧ ErrAt 2 M w ∧ ErrAt 3 M w
instance instStableNumI : Stable NumI := instStableAnd TabI (fun M w => ErrAt 2 M w ∧ ErrAt 3 M w)

/-! ### in plain Lean -/
def bs (l : List UInt8) : ByteArray := ⟨l.toArray⟩
theorem bs_list (l : List UInt8) : (bs l).data.toList = l := rfl
theorem bs_size (l : List UInt8) : (bs l).size = l.length := size_list l
theorem bs_ext (l : List UInt8) (a b : Nat) : (bs l).extract a b = bs ((l.drop a).take (b - a)) := by
  apply ByteArray.ext
  apply Array.toList_inj.1
  rw [ByteArray.data_extract, Array.toList_extract]
  rfl
theorem bs_inj {a b : List UInt8} : bs a = bs b ↔ a = b := ⟨fun h => by have := congrArg (fun x => x.data.toList) h; exact this, fun h => by rw [h]⟩
theorem bs_of (s : ByteArray) : bs s.data.toList = s := rfl

/-- what is left, and whether it has failed -/
abbrev RdS := List UInt8 × Bool
def numP (e : UInt8) (least : Int) (l : List UInt8) : Option (Int × List UInt8) :=
  let i := Lib.indexByte (l.take 21) e
  if i < 0 then none else match Lib.atoiAll (l.take i.toNat) with
    | .ok n => if Lib.itoa n = l.take i.toNat ∧ least ≤ n then some (n, l.drop (i.toNat + 1)) else none
    | _ => none
def stepN (e : UInt8) (least : Int) (st : RdS) : Int × RdS := match numP e least st.1 with
  | some (n, r) => (n, (r, st.2))
  | none => (0, ([], true))
def stepC (c : UInt8) (st : RdS) : RdS := match st.1 with
  | [] => ([], true)
  | x :: r => if x = c then (r, st.2) else ([], true)
def stepT (st : RdS) : ByteArray × RdS :=
  let a := stepN 58 0 st
  if (a.2.1.length : Int) < a.1 then (ByteArray.mk #[], ([], true)) else
    let c := stepC 44 (a.2.1.drop a.1.toNat, a.2.2)
    (if c.2 then ByteArray.mk #[] else bs (a.2.1.take a.1.toNat), c)

theorem at_of_split {l r : List UInt8} {i : Nat} {e : UInt8} (h : l.take i ++ e :: r = l) (hi : i < l.length) : l[i]? = some e := by
  have hl : (l.take i).length = i := by rw [List.length_take]; omega
  rw [← h, List.getElem?_append_right (by omega), hl, Nat.sub_self]
  rfl
theorem index_neg : ∀ (l : List UInt8) (c : UInt8), -1 ≤ Lib.indexByte l c ∧ (Lib.indexByte l c = -1 ∨ (0 ≤ Lib.indexByte l c ∧ Lib.indexByte l c < l.length ∧ l.take (Lib.indexByte l c).toNat ++ c :: l.drop ((Lib.indexByte l c).toNat + 1) = l ∧ c ∉ l.take (Lib.indexByte l c).toNat))
  | [], c => by simp [Lib.indexByte]
  | b :: l, c => by
    have ih := index_neg l c
    unfold Lib.indexByte
    by_cases hb : (b == c) = true
    · rw [if_pos hb]
      have : b = c := by simpa using hb
      subst this
      refine ⟨by omega, .inr ⟨by omega, by simp, by simp, by simp⟩⟩
    · rw [if_neg hb]
      by_cases h1 : (Lib.indexByte l c == -1) = true
      · rw [if_pos h1]; exact ⟨by omega, .inl rfl⟩
      · rw [if_neg h1]
        have h1 : Lib.indexByte l c ≠ -1 := by simpa using h1
        obtain ⟨h2, h3⟩ := ih
        rcases h3 with h3 | ⟨h3, h4, h5, h6⟩
        · exact absurd h3 h1
        · have e : (Lib.indexByte l c + 1).toNat = (Lib.indexByte l c).toNat + 1 := by omega
          refine ⟨by omega, .inr ⟨by omega, by simp; omega, ?_, ?_⟩⟩
          · rw [e, List.take_succ_cons, List.drop_succ_cons, List.cons_append, h5]
          · rw [e, List.take_succ_cons, List.mem_cons, not_or]
            exact ⟨fun e => hb (by simp [e]), h6⟩

theorem index_least {l : List UInt8} {c : UInt8} {a r : List UInt8} (hl : l = a ++ c :: r) (hc : c ∉ a) : Lib.indexByte l c = a.length := by
  subst hl
  induction a with
  | nil => simp [Lib.indexByte]
  | cons b a ih =>
    have hb : b ≠ c := fun e => hc (by simp [e])
    have ih := ih fun h => hc (by simp [h])
    rw [List.cons_append]
    unfold Lib.indexByte
    rw [if_neg (by simpa using hb), if_neg (by rw [ih]; simp), ih]
    simp

/-- digits and the sign -/
theorem digits_chars : ∀ (u : Nat), ∀ c ∈ Lib.decDigits u, 48 ≤ c.toNat ∧ c.toNat ≤ 57 := by
  intro u
  induction u using Nat.strongRecOn with
  | _ u ih =>
    intro c hc
    rw [Lib.decDigits] at hc
    split at hc
    · rename_i h
      rw [List.mem_singleton] at hc
      subst hc
      have : (UInt8.ofNat (48 + u)).toNat = 48 + u := by simp; omega
      omega
    · rename_i h
      rcases List.mem_append.1 hc with hc | hc
      · exact ih (u / 10) (by omega) c hc
      · rw [List.mem_singleton] at hc
        subst hc
        have : (UInt8.ofNat (48 + u % 10)).toNat = 48 + u % 10 := by simp; omega
        omega
theorem itoa_chars {n : Int} {c : UInt8} (h : c ∈ Lib.itoa n) : c.toNat = 45 ∨ 48 ≤ c.toNat ∧ c.toNat ≤ 57 := by
  unfold Lib.itoa at h
  split at h
  · rcases List.mem_cons.1 h with rfl | h
    · left; rfl
    · right; exact digits_chars _ c h
  · right; exact digits_chars _ c h

/-! ### the decimal form, read back -/
def digV (acc : Nat) (l : List UInt8) : Nat := l.foldl (fun a c => a * 10 + (c.toNat - 48)) acc
theorem digV_snoc (acc : Nat) (l : List UInt8) (c : UInt8) : digV acc (l ++ [c]) = digV acc l * 10 + (c.toNat - 48) := by simp [digV]
theorem digV_dec : ∀ u : Nat, digV 0 (Lib.decDigits u) = u := by
  intro u
  induction u using Nat.strongRecOn with
  | _ u ih =>
    rw [Lib.decDigits]
    split
    · rename_i h
      show 0 * 10 + ((UInt8.ofNat (48 + u)).toNat - 48) = u
      have : (UInt8.ofNat (48 + u)).toNat = 48 + u := by simp; omega
      omega
    · rename_i h
      rw [digV_snoc, ih (u / 10) (by omega)]
      have : (UInt8.ofNat (48 + u % 10)).toNat = 48 + u % 10 := by simp; omega
      omega
theorem digV_mono : ∀ (l : List UInt8) (acc : Nat), acc ≤ digV acc l
  | [], acc => Nat.le_refl _
  | c :: l, acc => by
    have := digV_mono l (acc * 10 + (c.toNat - 48))
    show acc ≤ digV (acc * 10 + (c.toNat - 48)) l
    omega
theorem parse_dig : ∀ (l : List UInt8) (acc : Nat), (∀ c ∈ l, 48 ≤ c.toNat ∧ c.toNat ≤ 57) → digV acc l < 18446744073709551616 → Lib.parseUint10 acc l = .ok (digV acc l)
  | [], acc, _, _ => rfl
  | c :: l, acc, hc, h => by
    have h0 := hc c (by simp)
    have hm := digV_mono l (acc * 10 + (c.toNat - 48))
    have e : digV acc (c :: l) = digV (acc * 10 + (c.toNat - 48)) l := rfl
    rw [e] at h ⊢
    unfold Lib.parseUint10
    rw [if_pos h0, if_neg (by omega), if_neg (by omega)]
    exact parse_dig l _ (fun d hd => hc d (by simp [hd])) h

theorem dec_ne (u : Nat) : Lib.decDigits u ≠ [] := by
  intro e
  have h1 := Lib.decDigits_length u
  have h2 := Lib.nDigits_pos u
  rw [e] at h1
  simp at h1
  omega
theorem mag_dec {u : Nat} (h : u < 18446744073709551616) : Lib.parseMag (Lib.decDigits u) = .ok u := by
  unfold Lib.parseMag
  rw [if_neg (dec_ne u), parse_dig _ 0 (digits_chars u) (by rw [digV_dec]; exact h), digV_dec]

theorem atoi_itoa {n : Int} (h : I64 n) : Lib.atoiAll (Lib.itoa n) = .ok n := by
  unfold I64 at h
  unfold Lib.itoa
  split
  · rename_i hn
    have hm := mag_dec (u := n.natAbs) (by omega)
    unfold Lib.atoiAll
    simp only
    rw [if_pos (.inr rfl), hm]
    simp only
    have e45 : (45 : UInt8).toNat = 45 := rfl
    rw [if_neg (by intro h; exact h.1 e45), if_neg (by intro h; omega), if_pos e45]
    congr 1
    omega
  · rename_i hn
    have hm := mag_dec (u := n.toNat) (by omega)
    obtain ⟨c, r, hcr⟩ : ∃ c r, Lib.decDigits n.toNat = c :: r := by
      cases hd : Lib.decDigits n.toNat with
      | nil => exact absurd hd (dec_ne _)
      | cons c r => exact ⟨c, r, rfl⟩
    have h0 := digits_chars n.toNat c (by rw [hcr]; simp)
    rw [hcr] at hm ⊢
    unfold Lib.atoiAll
    simp only
    rw [if_neg (by omega), hm]
    simp only
    rw [if_neg (by omega), if_neg (by omega), if_neg (by omega)]
    congr 1
    omega

/-- what a number's reading says -/
theorem numP_iff {e : UInt8} (he : e.toNat = 58 ∨ e.toNat = 59 ∨ e.toNat = 91) {least : Int} {l : List UInt8} {n : Int} {r : List UInt8} : numP e least l = some (n, r) ↔ (I64 n ∧ least ≤ n) ∧ l = Lib.itoa n ++ e :: r := by
  have hne : ∀ n : Int, e ∉ Lib.itoa n := fun n h => by have := itoa_chars h; omega
  constructor
  · intro h
    unfold numP at h
    simp only at h
    split at h
    · cases h
    · rename_i hi
      split at h
      · rename_i m hm
        split at h
        · rename_i hc
          cases h
          have hb := Lib.atoiAll_bounds hm
          obtain ⟨_, h3⟩ := index_neg (l.take 21) e
          rcases h3 with h3 | ⟨h3, h4, h5, h6⟩
          · omega
          · refine ⟨⟨by unfold I64; omega, hc.2⟩, ?_⟩
            rw [hc.1]
            have hlt : (Lib.indexByte (l.take 21) e).toNat < (l.take 21).length := by omega
            have hlt2 : (Lib.indexByte (l.take 21) e).toNat < l.length := by rw [List.length_take] at hlt; omega
            have hg : l[(Lib.indexByte (l.take 21) e).toNat] = e := by
              have h7 : (l.take 21)[(Lib.indexByte (l.take 21) e).toNat]? = some e := at_of_split h5 (by omega)
              rw [List.getElem?_take_of_lt (by rw [List.length_take] at hlt; omega), List.getElem?_eq_getElem hlt2] at h7
              exact Option.some.inj h7
            conv => lhs; rw [← List.take_append_drop (Lib.indexByte (l.take 21) e).toNat l, List.drop_eq_getElem_cons hlt2, hg]
        · cases h
      · cases h
  · rintro ⟨⟨h1, h2⟩, rfl⟩
    have hlen := itoa_len h1
    have ht : (Lib.itoa n ++ e :: r).take 21 = Lib.itoa n ++ e :: r.take (20 - (Lib.itoa n).length) := by
      rw [List.take_append, List.take_of_length_le (by omega)]
      congr 1
      rw [show 21 - (Lib.itoa n).length = (20 - (Lib.itoa n).length) + 1 by omega, List.take_succ_cons]
    have hi := index_least ht (hne n)
    unfold numP
    simp only
    rw [hi, if_neg (by omega), Int.toNat_natCast, List.take_left', atoi_itoa h1]
    · simp only
      rw [if_pos ⟨by simp, h2⟩]
      congr 2
      rw [List.drop_append, List.drop_of_length_le (by omega), List.nil_append, show (Lib.itoa n).length + 1 - (Lib.itoa n).length = 1 by omega]
      rfl
    · rfl

/-! ### walked -/
abbrev rd (b : Nat) (st : RdS) : Own := .blk b [.string (bs st.1), .bool st.2] 69

section
variable {W w : World} {R G S : List Own} {Φ : PW} {b : Nat} {st : RdS}

theorem Open_use [Stable Φ] (l : List UInt8) (c : Ctx W w S Φ) {K : Ending → World → Prop} (hk : ∀ b w', Ctx W w' (rd b (l, false) :: S) Φ → K (.returned (.pointer (some ⟨b, 0, none⟩))) w') :
    Calls Tryz.prog F.wire_Open #[.string (bs l)] w K := by
  refine (Bwire_Open_run (bs l) (J := fun u w' => K (.returned u) w') c ?_).mono fun e w' ⟨v, he, hj⟩ => by rw [he]; exact hj
  exact fun b w G cx => hk b w (Ctx.left (S := rd b (l, false) :: S) cx)

theorem fail_use [Stable Φ] (c : Ctx W w (rd b st :: S) Φ) {K : Ending → World → Prop} (hk : ∀ w', Ctx W w' (rd b ([], true) :: S) Φ → K (.returned (.tuple #[])) w') :
    Calls Tryz.prog F.wire_Reader_fail #[.pointer (some ⟨b, 0, none⟩)] w K := by
  refine (Bwire_Reader_fail_run b 0 (J := fun u w' => K (.returned u) w') c ?_).mono fun e w' ⟨v, he, hj⟩ => by rw [he]; exact hj
  refine fun w G cx => ⟨cx.can 0 rfl (by simp), fun w' hw' => ⟨.blk b [.string (bs []), .bool st.2] 69 :: S, Φ, inferInstance, cx.put 0 hw' rfl, fun w G cx => ⟨cx.can 0 rfl (by simp), fun w' hw' => ⟨rd b ([], true) :: S, Φ, inferInstance, cx.put 0 hw' rfl, fun w G cx => hk w cx.left⟩⟩⟩⟩

theorem fail_to [Stable Φ] (c : Ctx W w (rd b st :: S ++ G) Φ) {K : List Own → PW → Prop} (hk : K (rd b ([], true) :: S) Φ) :
    Calls Tryz.prog F.wire_Reader_fail #[.pointer (some ⟨b, 0, none⟩)] w fun e w' => e = .returned (.tuple #[]) ∧ ∃ R' Φ', Stable Φ' ∧ Ctx W w' (R' ++ G) Φ' ∧ K R' Φ' :=
  fail_use (S := S ++ G) c fun w' c => ⟨rfl, rd b ([], true) :: S, Φ, inferInstance, c, hk⟩

theorem index_g (s : ByteArray) (c : Int) : Gives Tryz.prog F.strings_IndexByte #[.string s, .int .u8 c] (.int .i64 (Lib.indexByte s.data.toList c.toNat.toUInt8)) :=
  Quiet.gives ⟨fun w => Any.strings_IndexByte Tryz.lays137 s c w⟩

theorem atoi_to [Stable Φ] (h1 : ∀ M w, Φ M w → ErrAt 2 M w) (h2 : ∀ M w, Φ M w → ErrAt 3 M w) (s : ByteArray) (hs : s.size ≤ 1000000) (c : Ctx W w (R ++ G) Φ) {K1 : Int → List Own → PW → Prop} {K2 : Int → TypeId → Value → List Own → PW → Prop}
    (k1 : ∀ n, Lib.atoiAll s.data.toList = .ok n → K1 n R Φ) (k2 : ∀ n t v, (∀ m, Lib.atoiAll s.data.toList ≠ .ok m) → K2 n t v R Φ) :
    Calls Tryz.prog F.strconv_Atoi #[.string s] w fun e w' => (∃ n : Int, e = .returned (.tuple #[.int .i64 n, .nilIface]) ∧ ∃ R' Φ', Stable Φ' ∧ Ctx W w' (R' ++ G) Φ' ∧ K1 n R' Φ') ∨
      ∃ (n : Int) (t : TypeId) (v : Value), e = .returned (.tuple #[.int .i64 n, .iface t v]) ∧ ∃ R' Φ', Stable Φ' ∧ Ctx W w' (R' ++ G) Φ' ∧ K2 n t v R' Φ' := by
  obtain ⟨_, ev, hv, hev⟩ := h1 _ _ c.phi
  obtain ⟨_, er, hr, her⟩ := h2 _ _ c.phi
  cases h : Lib.atoiAll s.data.toList
  · rename_i n
    refine (Any.strconv_Atoi_ok Tryz.laysC172 s (by omega) n h w).mono fun e w' ⟨he, hw⟩ => .inl ⟨n, he, R, Φ, inferInstance, ?_, k1 n h⟩
    rcases hw with rfl | ⟨t, rfl⟩
    · exact c
    · exact c.call (chg_below (Lib.bytesWorld_below _ _ _))
  · exact (Any.strconv_Atoi_syntax Tryz.laysC172 s (by omega) h ev w hv hev).mono fun e w' ⟨N, he, _, _, hb⟩ => .inr ⟨_, _, _, he, R, Φ, inferInstance, c.call (chg_below hb), k2 _ _ _ fun m hm => by rw [h] at hm; cases hm⟩
  · exact (Any.strconv_Atoi_range Tryz.laysC172 s (by omega) h er w hr her).mono fun e w' ⟨N, he, _, _, hb⟩ => .inr ⟨_, _, _, he, R, Φ, inferInstance, c.call (chg_below hb), k2 _ _ _ fun m hm => by rw [h] at hm; cases hm⟩

theorem stepN_none {e : UInt8} {least : Int} (h : numP e least st.1 = none) : stepN e least st = (0, ([], true)) := by unfold stepN; rw [h]
theorem stepN_some {e : UInt8} {least n : Int} {r : List UInt8} (h : numP e least st.1 = some (n, r)) : stepN e least st = (n, (r, st.2)) := by unfold stepN; rw [h]

set_option maxHeartbeats 2000000 in
theorem number_use [Stable Φ] (hΦ : ∀ M w, Φ M w → NumI M w) (e : Int) (least : Int) (hl : st.1.length ≤ 1000000000) (c : Ctx W w (rd b st :: S) Φ) {K : Ending → World → Prop}
    (hk : ∀ w', Ctx W w' (rd b (stepN e.toNat.toUInt8 least st).2 :: S) Φ → K (.returned (.int .i64 (stepN e.toNat.toUInt8 least st).1)) w') :
    Calls Tryz.prog F.wire_Reader_number #[.pointer (some ⟨b, 0, none⟩), .int .u8 e, .int .i64 least] w K := by
  refine (Bwire_Reader_number_run b 0 e least (J := fun u w' => K (.returned u) w') c ?_).mono fun e w' ⟨v, he, hj⟩ => by rw [he]; exact hj
  clear c
  obtain ⟨l, bad⟩ := st
  simp only at hl
  have hsz : (bs l).size = l.length := bs_size l
  have hmin : (min ((bs l).size : Int) 21).toNat = min l.length 21 := by rw [hsz]; omega
  have hhead : (bs l).extract 0 (min ((bs l).size : Int) 21).toNat = bs (l.take 21) := by
    rw [hmin, bs_ext, List.drop_zero, Nat.sub_zero]
    congr 1
    rcases Nat.le_total l.length 21 with h | h
    · rw [Nat.min_eq_left h, List.take_of_length_le (Nat.le_refl _), List.take_of_length_le h]
    · rw [Nat.min_eq_right h]
  refine fun w G cx => ⟨bs l, cx.get 0 rfl rfl, bs l, cx.get 0 rfl rfl, by omega, fun w G cx => ?_⟩
  rw [hhead]
  refine (index_g (bs (l.take 21)) e).in.toI (R := rd b (l, bad) :: S) cx ?_
  rw [bs_list]
  obtain ⟨i, hi⟩ : ∃ i, Lib.indexByte (l.take 21) e.toNat.toUInt8 = i := ⟨_, rfl⟩
  obtain ⟨hge, hidx⟩ := index_neg (l.take 21) e.toNat.toUInt8
  rw [hi] at hge hidx ⊢
  have failK : numP e.toNat.toUInt8 least l = none → ∀ (w : World) (G : List Own), Ctx W w (rd b (l, bad) :: S ++ G) Φ → Calls Tryz.prog F.wire_Reader_fail #[.pointer (some ⟨b, 0, none⟩)] w fun e w' => e = .returned (.tuple #[]) ∧ ∃ R' Φ', Stable Φ' ∧ Ctx W w' (R' ++ G) Φ' ∧ ∀ w F1, Ctx W w (R' ++ F1) Φ' → K (.returned (.int .i64 0)) w := fun hn w G cx => by
    rw [stepN_none (st := (l, bad)) hn] at hk
    exact fail_to (S := S) cx fun w F1 cx => hk w cx.left
  refine Br.intro (fun hneg => fun w G cx => failK ?_ w G cx) (fun hpos => ?_)
  · unfold numP
    simp only [hi]
    rw [if_pos (of_decide_eq_true hneg)]
  have hpos := of_decide_eq_false hpos
  rcases hidx with hidx | ⟨_, hlt, _, _⟩
  · omega
  have hlt2 : i.toNat < (l.take 21).length := by omega
  have hll : (l.take 21).length ≤ l.length := by rw [List.length_take]; omega
  have h21 : (l.take 21).length ≤ 21 := by rw [List.length_take]; omega
  have hhd : (bs (l.take 21)).extract 0 i.toNat = bs (l.take i.toNat) := by
    rw [bs_ext, List.drop_zero, Nat.sub_zero, List.take_take, Nat.min_eq_left (by omega)]
  refine ⟨⟨by omega, by rw [bs_size]; omega⟩, fun w G cx => ?_⟩
  rw [hhd]
  refine atoi_to (R := rd b (l, bad) :: S) (fun M w h => (hΦ M w h).2.1) (fun M w h => (hΦ M w h).2.2) (bs (l.take i.toNat)) (by rw [bs_size, List.length_take]; omega) cx (fun n hn => ?_) (fun n t v hn => ?_)
  · rw [bs_list] at hn
    have hb := Lib.atoiAll_bounds hn
    refine ⟨rd b (l, bad) :: S, Φ, inferInstance, fun w G cx => cx, false, fun w => neq_nil (by decide +kernel) w, Br.intro (fun h => by cases h) (fun _ => ⟨⟨by omega, by rw [bs_size]; omega⟩, fun w G cx => ?_⟩)⟩
    refine (Itoa_in (fun M w h => (hΦ M w h).1) n (by unfold I64; omega)).toS cx ⟨fun w G cx => cx, Br.intro (fun hne => fun w G cx => failK ?_ w G cx) (fun heq => Br.intro (fun hls => fun w G cx => failK ?_ w G cx) (fun hls => fun w G cx => ?_))⟩
    · have hne := of_decide_eq_true hne
      unfold numP
      simp only [hi]
      rw [if_neg (by omega), hn]
      simp only
      rw [if_neg (fun h => hne (by show bs (Lib.itoa n) = _; rw [h.1]))]
    · unfold numP
      simp only [hi]
      rw [if_neg (by omega), hn]
      simp only
      rw [if_neg (fun h => by have := of_decide_eq_true hls; omega)]
    · have heq : Lib.itoa n = l.take i.toNat := bs_inj.1 (Decidable.not_not.1 (of_decide_eq_false heq))
      have hls := of_decide_eq_false hls
      have hnum : numP e.toNat.toUInt8 least l = some (n, l.drop (i.toNat + 1)) := by
        unfold numP
        simp only [hi]
        rw [if_neg (by omega), hn]
        simp only
        rw [if_pos ⟨heq, by omega⟩]
      rw [stepN_some (st := (l, bad)) hnum] at hk
      have hex : (bs l).extract (i + 1).toNat (bs l).size = bs (l.drop (i.toNat + 1)) := by
        rw [bs_ext, hsz, show (i + 1).toNat = i.toNat + 1 by omega]
        congr 1
        exact List.take_of_length_le (by rw [List.length_drop]; omega)
      refine ⟨bs l, cx.get 0 rfl rfl, ?_, ⟨by omega, by omega, Nat.le_refl _⟩, fun w G cx => ⟨cx.can 0 rfl (by simp), fun w' hw' => ?_⟩⟩
      · unfold I64
        omega
      rw [hex] at hw'
      exact ⟨rd b (l.drop (i.toNat + 1), bad) :: S, Φ, inferInstance, cx.put 0 hw' rfl, fun w G cx => hk w cx.left⟩
  · rw [bs_list] at hn
    refine ⟨[], fun _ _ => True, inferInstance, fun w G cx => (cx.weak fun _ _ _ => trivial).right, true, fun w => ?_, Br.intro (fun _ => fun w G cx => failK ?_ w G cx) (fun h => by cases h)⟩
    · exact neq_err (by decide +kernel) w
    · unfold numP
      simp only [hi]
      rw [if_neg (by omega)]

theorem number_to [Stable Φ] (hΦ : ∀ M w, Φ M w → NumI M w) (e : Int) (least : Int) (hl : st.1.length ≤ 1000000000) (c : Ctx W w (rd b st :: S ++ G) Φ) {K : Int → List Own → PW → Prop}
    (hk : K (stepN e.toNat.toUInt8 least st).1 (rd b (stepN e.toNat.toUInt8 least st).2 :: S) Φ) :
    Calls Tryz.prog F.wire_Reader_number #[.pointer (some ⟨b, 0, none⟩), .int .u8 e, .int .i64 least] w fun e w' => ∃ n, e = .returned (.int .i64 n) ∧ ∃ R' Φ', Stable Φ' ∧ Ctx W w' (R' ++ G) Φ' ∧ K n R' Φ' :=
  number_use (S := S ++ G) hΦ e least hl c fun w' c => ⟨_, rfl, _, Φ, inferInstance, c, hk⟩

def rdInt (st : RdS) : Int × RdS := stepN 59 (-9223372036854775808) st
def rdNat (st : RdS) : Int × RdS := stepN 59 0 st

theorem RInt_to [Stable Φ] (hΦ : ∀ M w, Φ M w → NumI M w) (hl : st.1.length ≤ 1000000000) (c : Ctx W w (rd b st :: S ++ G) Φ) {K : Int → List Own → PW → Prop}
    (hk : K (rdInt st).1 (rd b (rdInt st).2 :: S) Φ) :
    Calls Tryz.prog F.wire_Reader_Int #[.pointer (some ⟨b, 0, none⟩)] w fun e w' => ∃ n, e = .returned (.int .i64 n) ∧ ∃ R' Φ', Stable Φ' ∧ Ctx W w' (R' ++ G) Φ' ∧ K n R' Φ' := by
  refine (Bwire_Reader_Int_run b 0 (J := fun u w' => ∃ n, (Ending.returned u) = .returned (.int .i64 n) ∧ ∃ R' Φ', Stable Φ' ∧ Ctx W w' (R' ++ G) Φ' ∧ K n R' Φ') (R := rd b st :: (S ++ G)) c ?_).mono fun e w' ⟨v, he, hj⟩ => by rw [he]; exact hj
  exact fun w F1 cx => number_to (S := S ++ G) hΦ 59 _ hl cx fun w F1 cx => ⟨_, rfl, _, Φ, inferInstance, cx.left, hk⟩
theorem RNum_to [Stable Φ] (hΦ : ∀ M w, Φ M w → NumI M w) (hl : st.1.length ≤ 1000000000) (c : Ctx W w (rd b st :: S ++ G) Φ) {K : Int → List Own → PW → Prop}
    (hk : K (rdNat st).1 (rd b (rdNat st).2 :: S) Φ) :
    Calls Tryz.prog F.wire_Reader_Num #[.pointer (some ⟨b, 0, none⟩)] w fun e w' => ∃ n, e = .returned (.int .i64 n) ∧ ∃ R' Φ', Stable Φ' ∧ Ctx W w' (R' ++ G) Φ' ∧ K n R' Φ' := by
  refine (Bwire_Reader_Num_run b 0 (J := fun u w' => ∃ n, (Ending.returned u) = .returned (.int .i64 n) ∧ ∃ R' Φ', Stable Φ' ∧ Ctx W w' (R' ++ G) Φ' ∧ K n R' Φ') (R := rd b st :: (S ++ G)) c ?_).mono fun e w' ⟨v, he, hj⟩ => by rw [he]; exact hj
  exact fun w F1 cx => number_to (S := S ++ G) hΦ 59 _ hl cx fun w F1 cx => ⟨_, rfl, _, Φ, inferInstance, cx.left, hk⟩

theorem Left_to [Stable Φ] (c : Ctx W w (rd b st :: S ++ G) Φ) {K : Int → List Own → PW → Prop} (hk : K st.1.length (rd b st :: S) Φ) :
    Calls Tryz.prog F.wire_Reader_Left #[.pointer (some ⟨b, 0, none⟩)] w fun e w' => ∃ n, e = .returned (.int .i64 n) ∧ ∃ R' Φ', Stable Φ' ∧ Ctx W w' (R' ++ G) Φ' ∧ K n R' Φ' := by
  refine (Bwire_Reader_Left_run b 0 (J := fun u w' => ∃ n, (Ending.returned u) = .returned (.int .i64 n) ∧ ∃ R' Φ', Stable Φ' ∧ Ctx W w' (R' ++ G) Φ' ∧ K n R' Φ') (R := rd b st :: (S ++ G)) c ?_).mono fun e w' ⟨v, he, hj⟩ => by rw [he]; exact hj
  exact fun w F1 cx => ⟨bs st.1, cx.get 0 rfl rfl, fun w F1 cx => ⟨st.1.length, by rw [bs_size], _, Φ, inferInstance, cx.left, hk⟩⟩

def rdDone (st : RdS) : Bool := !st.2 && decide (st.1 = [])
theorem Done_to [Stable Φ] (c : Ctx W w (rd b st :: S ++ G) Φ) {K : Bool → List Own → PW → Prop} (hk : K (rdDone st) (rd b st :: S) Φ) :
    Calls Tryz.prog F.wire_Reader_Done #[.pointer (some ⟨b, 0, none⟩)] w fun e w' => ∃ n, e = .returned (.bool n) ∧ ∃ R' Φ', Stable Φ' ∧ Ctx W w' (R' ++ G) Φ' ∧ K n R' Φ' := by
  refine (Bwire_Reader_Done_run b 0 (J := fun u w' => ∃ n, (Ending.returned u) = .returned (.bool n) ∧ ∃ R' Φ', Stable Φ' ∧ Ctx W w' (R' ++ G) Φ' ∧ K n R' Φ') (R := rd b st :: (S ++ G)) c ?_).mono fun e w' ⟨v, he, hj⟩ => by rw [he]; exact hj
  refine fun w F1 cx => ⟨st.2, cx.get 0 rfl rfl, bs st.1, fun _ => cx.get 0 rfl rfl, fun w F1 cx => ⟨rdDone st, ?_, _, Φ, inferInstance, cx.left, hk⟩⟩
  have e : decide (bs st.1 = ByteArray.mk #[]) = decide (st.1 = []) := by
    rw [show ByteArray.mk #[] = bs [] from rfl]
    exact decide_eq_decide.2 bs_inj
  rw [e]
  rfl

theorem prefix_one (c : UInt8) (l : List UInt8) : Lib.hasPrefix l [c] = (match l with | [] => false | x :: _ => x == c) := by
  cases l with
  | nil => rfl
  | cons x r =>
    unfold Lib.hasPrefix
    rw [List.isPrefixOf_cons_cons]
    simp [Bool.beq_comm]

theorem close_to [Stable Φ] (e : UInt8) (c : Ctx W w (rd b st :: S ++ G) Φ) {K : List Own → PW → Prop} (hk : K (rd b (stepC e st) :: S) Φ) :
    Calls Tryz.prog F.wire_Reader_close #[.pointer (some ⟨b, 0, none⟩), .string (ByteArray.mk #[e])] w fun e w' => e = .returned (.tuple #[]) ∧ ∃ R' Φ', Stable Φ' ∧ Ctx W w' (R' ++ G) Φ' ∧ K R' Φ' := by
  refine (Bwire_Reader_close_run b 0 (ByteArray.mk #[e]) (J := fun u w' => (Ending.returned u) = .returned (.tuple #[]) ∧ ∃ R' Φ', Stable Φ' ∧ Ctx W w' (R' ++ G) Φ' ∧ K R' Φ') (R := rd b st :: (S ++ G)) c ?_).mono fun e w' ⟨v, he, hj⟩ => by rw [he]; exact hj
  clear c
  obtain ⟨l, bad⟩ := st
  refine fun w F1 cx => ⟨bs l, cx.get 0 rfl rfl, fun w F1 cx => ?_⟩
  refine (Any.strings_CutPrefix Tryz.lays103 (bs l) (ByteArray.mk #[e]) w).mono fun e2 w' ⟨he, hw⟩ => ?_
  subst hw
  refine ⟨_, _, he, rd b (l, bad) :: (S ++ G), Φ, inferInstance, cx, ?_⟩
  clear cx
  rw [bs_list, show (ByteArray.mk #[e]).data.toList = [e] from rfl]
  unfold Lib.trimPrefix
  rw [prefix_one]
  unfold stepC at hk
  cases l with
  | nil =>
    refine fun w F1 cx => ⟨cx.can 0 rfl (by simp), fun w' hw' => ⟨rd b ([], bad) :: (S ++ G), Φ, inferInstance, cx.put 0 hw' rfl, Br.intro (fun _ => fun w F1 cx => fail_to (S := S ++ G) cx fun w F1 cx => ⟨by first | trivial | rfl, _, Φ, inferInstance, cx.left, hk⟩) (fun h => by cases h)⟩⟩
  | cons x r =>
    simp only at hk ⊢
    by_cases hx : x = e
    · subst hx
      rw [if_pos rfl] at hk
      rw [if_pos (by simp)]
      refine fun w F1 cx => ⟨cx.can 0 rfl (by simp), fun w' hw' => ⟨rd b (r, bad) :: (S ++ G), Φ, inferInstance, cx.put 0 hw' rfl, Br.intro (fun h => by simp at h) (fun _ => fun w F1 cx => ⟨by first | trivial | rfl, _, Φ, inferInstance, cx.left, hk⟩)⟩⟩
    · rw [if_neg hx] at hk
      rw [if_neg (by simpa using hx)]
      refine fun w F1 cx => ⟨cx.can 0 rfl (by simp), fun w' hw' => ⟨rd b (x :: r, bad) :: (S ++ G), Φ, inferInstance, cx.put 0 hw' rfl, Br.intro (fun _ => fun w F1 cx => fail_to (S := S ++ G) cx fun w F1 cx => ⟨by first | trivial | rfl, _, Φ, inferInstance, cx.left, hk⟩) (fun h => by simp at h; exact absurd h hx)⟩⟩

theorem stepN_nonneg {e : UInt8} (he : e.toNat = 58 ∨ e.toNat = 59 ∨ e.toNat = 91) (st : RdS) : 0 ≤ (stepN e 0 st).1 ∧ (stepN e 0 st).1 ≤ 9223372036854775807 := by
  unfold stepN
  split
  · rename_i n r h
    obtain ⟨⟨h1, h2⟩, _⟩ := (numP_iff he).1 h
    unfold I64 at h1
    simp only; omega
  · simp only; omega
theorem stepN_len (e : UInt8) (least : Int) (st : RdS) : (stepN e least st).2.1.length ≤ st.1.length := by
  unfold stepN
  split
  · rename_i n r h
    unfold numP at h
    simp only at h
    split at h
    · cases h
    · split at h
      · split at h
        · cases h
          simp only [List.length_drop]; omega
        · cases h
      · cases h
  · simp

theorem Text_to [Stable Φ] (hΦ : ∀ M w, Φ M w → NumI M w) (hl : st.1.length ≤ 1000000000) (c : Ctx W w (rd b st :: S ++ G) Φ) {K : ByteArray → List Own → PW → Prop}
    (hk : K (stepT st).1 (rd b (stepT st).2 :: S) Φ) :
    Calls Tryz.prog F.wire_Reader_Text #[.pointer (some ⟨b, 0, none⟩)] w fun e w' => ∃ n, e = .returned (.string n) ∧ ∃ R' Φ', Stable Φ' ∧ Ctx W w' (R' ++ G) Φ' ∧ K n R' Φ' := by
  refine (Bwire_Reader_Text_run b 0 (J := fun u w' => ∃ n, (Ending.returned u) = .returned (.string n) ∧ ∃ R' Φ', Stable Φ' ∧ Ctx W w' (R' ++ G) Φ' ∧ K n R' Φ') (R := rd b st :: (S ++ G)) c ?_).mono fun e w' ⟨v, he, hj⟩ => by rw [he]; exact hj
  clear c
  refine fun w F1 cx => number_to (S := S ++ G) hΦ 58 0 hl cx ?_
  rw [show ((58 : Int).toNat.toUInt8) = (58 : UInt8) from rfl]
  unfold stepT at hk
  simp only at hk
  have hn := stepN_nonneg (e := 58) (.inl rfl) st
  obtain ⟨⟨n, l, bad⟩, ha⟩ : ∃ a, stepN 58 0 st = a := ⟨_, rfl⟩
  rw [ha] at hk hn ⊢
  simp only at hk hn ⊢
  refine fun w F1 cx => ⟨bs l, cx.get 0 rfl rfl, Br.intro (fun h => ?_) (fun h => ?_)⟩
  · have h := of_decide_eq_true h
    rw [bs_size] at h
    rw [if_pos h] at hk
    exact fun w F1 cx => fail_to (S := S ++ G) cx fun w F1 cx => ⟨_, rfl, _, Φ, inferInstance, cx.left, hk⟩
  · have h := of_decide_eq_false h
    rw [bs_size] at h
    rw [if_neg h] at hk
    have e1 : (bs l).extract n.toNat (bs l).size = bs (l.drop n.toNat) := by
      rw [bs_ext, bs_size]
      congr 1
      exact List.take_of_length_le (by rw [List.length_drop]; omega)
    have e2 : (bs l).extract 0 n.toNat = bs (l.take n.toNat) := by rw [bs_ext, List.drop_zero, Nat.sub_zero]
    refine fun w F1 cx => ⟨bs l, cx.get 0 rfl rfl, ⟨by omega, by rw [bs_size]; omega⟩, fun w F1 cx => ⟨bs l, cx.get 0 rfl rfl, ⟨by omega, by rw [bs_size]; omega, Nat.le_refl _⟩, fun w F1 cx => ⟨cx.can 0 rfl (by simp), fun w' hw' => ?_⟩⟩⟩
    rw [e1] at hw'
    refine ⟨rd b (l.drop n.toNat, bad) :: (S ++ G), Φ, inferInstance, cx.put 0 hw' rfl, fun w F1 cx => close_to (S := S ++ G) 44 cx fun w F1 cx => ⟨(stepC 44 (l.drop n.toNat, bad)).2, cx.get 0 rfl rfl, Br.intro (fun hb => ?_) (fun hb => ?_)⟩⟩
    · rw [hb] at hk
      exact fun w F1 cx => ⟨_, rfl, _, Φ, inferInstance, cx.left, hk⟩
    · rw [hb] at hk
      rw [e2]
      exact fun w F1 cx => ⟨_, rfl, _, Φ, inferInstance, cx.left, hk⟩

end
end Go.Proofs.YtnapfhbibikbiaaGreatDoor
end

/-
  Rows, read: in plain Lean, and walked.
-/
section
set_option linter.unusedVariables false
set_option linter.unusedSimpArgs false
namespace Go.Proofs.YtnapfhbibikbiaaGreatDoor
open Go.Vc


/-! ### in plain Lean -/
def stepV (st : RdS) : ValD × RdS := (⟨(rdInt st).1, (rdInt (rdInt st).2).1, (stepT (rdInt (rdInt st).2).2).1⟩, (stepT (rdInt (rdInt st).2).2).2)
def rowLoop : Nat → RdS → List ValD → Option (List ValD × RdS)
  | 0, st, acc => some (acc, st)
  | n + 1, st, acc => if st.1 = [] then none else rowLoop n (stepV st).2 (acc ++ [(stepV st).1])
def readRowP (l : List UInt8) : Option (List ValD) := match rowLoop (rdNat (l, false)).1.toNat (rdNat (l, false)).2 [] with
  | some (acc, st) => if rdDone st then some acc else none
  | none => none

theorem num_read {e : UInt8} (he : e.toNat = 58 ∨ e.toNat = 59 ∨ e.toNat = 91) {least n : Int} {r : List UInt8} {bad : Bool} (h : I64 n) (h2 : least ≤ n) : stepN e least (Lib.itoa n ++ e :: r, bad) = (n, (r, bad)) :=
  stepN_some (st := (Lib.itoa n ++ e :: r, bad)) ((numP_iff he).2 ⟨⟨h, h2⟩, rfl⟩)
theorem intB_list (n : Int) : (intB n).data.toList = Lib.itoa n ++ [59] := by
  unfold intB numB
  rw [ByteArray.data_append, Array.toList_append]
theorem int_read {n : Int} {r : List UInt8} {bad : Bool} (h : I64 n) : rdInt ((intB n).data.toList ++ r, bad) = (n, (r, bad)) := by
  rw [intB_list, List.append_assoc]
  exact num_read (.inr (.inl rfl)) h h.1
theorem nat_read {n : Nat} {r : List UInt8} {bad : Bool} (h : (n : Int) ≤ 9223372036854775807) : rdNat ((natB n).data.toList ++ r, bad) = ((n : Int), (r, bad)) := by
  unfold natB
  rw [if_neg (by omega), intB_list, List.append_assoc]
  exact num_read (.inr (.inl rfl)) (by unfold I64; omega) (by omega)
theorem textB_list (s : ByteArray) : (textB s).data.toList = Lib.itoa s.size ++ 58 :: (s.data.toList ++ [44]) := by
  unfold textB numB
  simp [ByteArray.data_append]
theorem text_read {s : ByteArray} {r : List UInt8} (h : s.size ≤ 9223372036854775807) : stepT ((textB s).data.toList ++ r, false) = (s, (r, false)) := by
  have e1 : stepN 58 0 ((textB s).data.toList ++ r, false) = ((s.size : Int), (s.data.toList ++ 44 :: r, false)) := by
    rw [textB_list, List.append_assoc, List.cons_append, List.append_assoc]
    exact num_read (.inl rfl) (by unfold I64; omega) (by omega)
  unfold stepT
  simp only [e1]
  have hl : s.data.toList.length = s.size := list_size s
  rw [if_neg (by rw [List.length_append, List.length_cons, hl]; omega), Int.toNat_natCast, List.drop_left' hl, List.take_left' hl]
  rfl
theorem val_read {v : ValD} {r : List UInt8} (h1 : I64 v.kind) (h2 : I64 v.num) (h3 : v.text.size ≤ 9223372036854775807) : stepV ((valB v).data.toList ++ r, false) = (v, (r, false)) := by
  have e : (valB v).data.toList ++ r = (intB v.kind).data.toList ++ ((intB v.num).data.toList ++ ((textB v.text).data.toList ++ r)) := by
    unfold valB
    simp [ByteArray.data_append]
  unfold stepV
  rw [e, int_read h1]
  simp only
  rw [int_read h2]
  simp only
  rw [text_read h3]
theorem valB_pos (v : ValD) (h : I64 v.kind) : (valB v).data.toList ≠ [] := fun e => by
  have h1 := intB_size h
  have h2 := congrArg List.length e
  rw [list_size] at h2
  unfold valB at h2
  rw [size_app, size_app, List.length_nil] at h2
  omega
def FitV (v : ValD) : Prop := (I64 v.kind ∧ I64 v.num) ∧ v.text.size ≤ 9223372036854775807
theorem vals_read : ∀ (r : List ValD) (acc : List ValD) (t : List UInt8), (∀ v ∈ r, FitV v) → rowLoop r.length (valsL r ++ t, false) acc = some (acc ++ r, (t, false))
  | [], acc, t, _ => by simp [rowLoop, valsL]
  | v :: r, acc, t, h => by
    obtain ⟨⟨h1, h2⟩, h3⟩ := h v (by simp)
    have e : valsL (v :: r) ++ t = (valB v).data.toList ++ (valsL r ++ t) := by simp [valsL]
    have hp := valB_pos v h1
    rw [e, List.length_cons, rowLoop, if_neg (by intro e; exact hp (List.append_eq_nil_iff.1 e).1), val_read h1 h2 h3]
    simp only
    rw [vals_read r _ t fun u hu => h u (by simp [hu]), List.append_assoc]
    rfl
theorem row_read {r : List ValD} (h : ∀ v ∈ r, FitV v) (hl : r.length ≤ 9223372036854775807) : readRowP (rowL r) = some r := by
  have h1 := vals_read r [] [] h
  rw [List.append_nil, List.nil_append] at h1
  unfold readRowP rowL
  rw [nat_read (by omega)]
  simp only [Int.toNat_natCast]
  rw [h1]
  rfl

/-! lengths -/
theorem stepC_len (c : UInt8) (st : RdS) : (stepC c st).1.length ≤ st.1.length := by
  unfold stepC
  split
  · simp
  · rename_i h
    split
    · rw [h]; simp
    · simp
theorem stepT_len (st : RdS) : (stepT st).2.1.length ≤ st.1.length ∧ (stepT st).1.size ≤ st.1.length := by
  have h1 := stepN_len 58 0 st
  have h2 := stepC_len 44 (((stepN 58 0 st).2.1.drop (stepN 58 0 st).1.toNat, (stepN 58 0 st).2.2))
  rw [List.length_drop] at h2
  unfold stepT
  simp only
  split
  · exact ⟨Nat.zero_le _, Nat.zero_le _⟩
  · refine ⟨by simp only; omega, ?_⟩
    simp only
    split
    · exact Nat.zero_le _
    · rw [bs_size, List.length_take]; omega
/-- a number's reading eats something, or all -/
theorem stepN_eats (e : UInt8) (least : Int) (st : RdS) (h : st.1 ≠ []) : (stepN e least st).2.1.length < st.1.length := by
  have hp := List.length_pos_iff.2 h
  unfold stepN
  split
  · rename_i n r h
    unfold numP at h
    simp only at h
    split at h
    · cases h
    · split at h
      · split at h
        · cases h
          simp only [List.length_drop]; omega
        · cases h
      · cases h
  · simpa using hp
theorem stepV_len (st : RdS) : (stepV st).2.1.length ≤ st.1.length ∧ (st.1 ≠ [] → (stepV st).2.1.length < st.1.length) ∧ (stepV st).1.text.size ≤ st.1.length := by
  have a := stepN_len 59 (-9223372036854775808) st
  have b := stepN_len 59 (-9223372036854775808) (rdInt st).2
  have c := stepT_len (rdInt (rdInt st).2).2
  have a' : (rdInt st).2.1.length ≤ st.1.length := a
  have b' : (rdInt (rdInt st).2).2.1.length ≤ (rdInt st).2.1.length := b
  unfold stepV
  refine ⟨by simp only; omega, fun h => ?_, by simp only; omega⟩
  have d : (rdInt st).2.1.length < st.1.length := stepN_eats 59 (-9223372036854775808) st h
  simp only; omega
theorem rdInt_i64 (st : RdS) : I64 (rdInt st).1 := by
  unfold rdInt stepN
  split
  · rename_i n r h
    exact ((numP_iff (.inr (.inl rfl))).1 h).1.1
  · unfold I64; simp
theorem rowLoop_fit {L : Nat} : ∀ (n : Nat) (st : RdS) (acc : List ValD) (out : List ValD) (st' : RdS), rowLoop n st acc = some (out, st') → acc.length + st.1.length ≤ L → (∀ v ∈ acc, v.text.size ≤ L) → out.length + st'.1.length ≤ L ∧ ∀ v ∈ out, v.text.size ≤ L
  | 0, st, acc, out, st', h, h1, h2 => by
    unfold rowLoop at h
    cases h
    exact ⟨h1, h2⟩
  | n + 1, st, acc, out, st', h, h1, h2 => by
    unfold rowLoop at h
    split at h
    · cases h
    · rename_i hne
      obtain ⟨a, b, c⟩ := stepV_len st
      have b := b hne
      refine rowLoop_fit n _ _ out st' h (by rw [List.length_append, List.length_singleton]; omega) fun v hv => ?_
      rcases List.mem_append.1 hv with hv | hv
      · exact h2 v hv
      · rw [List.mem_singleton.1 hv]; omega
theorem readRow_fit {l : List UInt8} {r : List ValD} (h : readRowP l = some r) : r.length ≤ l.length ∧ ∀ v ∈ r, v.text.size ≤ l.length := by
  unfold readRowP at h
  split at h
  · rename_i acc st hl
    split at h
    · cases h
      have hn : (rdNat (l, false)).2.1.length ≤ l.length := stepN_len 59 0 (l, false)
      have := rowLoop_fit (L := l.length) _ _ _ _ _ hl (by simp only [List.length_nil]; omega) (by simp)
      exact ⟨by omega, this.2⟩
    · cases h
  · cases h

/-! ### walked -/
section
variable {W w : World} {R G S : List Own} {Φ : PW} {b : Nat} {st : RdS}

theorem take_to [Stable Φ] (hΦ : ∀ M w, Φ M w → NumI M w) (hl : st.1.length ≤ 1000000000) (c : Ctx W w (rd b st :: S ++ G) Φ) {K : Int → Int → ByteArray → List Own → PW → Prop}
    (hk : K (stepV st).1.kind (stepV st).1.num (stepV st).1.text (rd b (stepV st).2 :: S) Φ) :
    Calls Tryz.prog F.value_take #[.pointer (some ⟨b, 0, none⟩)] w fun e w' => ∃ n m s, e = .returned (.agg #[.int .i64 n, .int .i64 m, .string s]) ∧ ∃ R' Φ', Stable Φ' ∧ Ctx W w' (R' ++ G) Φ' ∧ K n m s R' Φ' := by
  refine (Bvalue_take_run b 0 (J := fun u w' => ∃ n m s, (Ending.returned u) = .returned (.agg #[.int .i64 n, .int .i64 m, .string s]) ∧ ∃ R' Φ', Stable Φ' ∧ Ctx W w' (R' ++ G) Φ' ∧ K n m s R' Φ') (R := rd b st :: (S ++ G)) c ?_).mono fun e w' ⟨v, he, hj⟩ => by rw [he]; exact hj
  have a : (rdInt st).2.1.length ≤ st.1.length := stepN_len 59 (-9223372036854775808) st
  have b : (rdInt (rdInt st).2).2.1.length ≤ (rdInt st).2.1.length := stepN_len 59 (-9223372036854775808) (rdInt st).2
  exact fun _ w F1 cx => RInt_to (S := S ++ G) hΦ hl cx fun w F1 cx => RInt_to (S := S ++ G) hΦ (by omega) cx fun _ w F1 cx => Text_to (S := S ++ G) hΦ (by omega) cx fun w F1 cx => ⟨_, _, _, rfl, _, Φ, inferInstance, cx.left, hk⟩

theorem rep_of {M : List Nat} {w : World} {v : ValD} (h1 : I64 v.kind) (h2 : I64 v.num) (h3 : v.text.size ≤ maxLen) : Gv.rep M w [.int .i64 v.kind, .int .i64 v.num, .string v.text] v :=
  ⟨[.int .i64 v.kind], [.int .i64 v.num, .string v.text], rfl, ⟨rfl, h1⟩, [.int .i64 v.num], [.string v.text], rfl, ⟨rfl, h2⟩, rfl, h3⟩

set_option maxHeartbeats 1000000 in
theorem ReadRow_use [Stable Φ] (hΦ : ∀ M w, Φ M w → NumI M w) (l : List UInt8) (hl : l.length ≤ 10000000) (c : Ctx W w S Φ) {K : Ending → World → Prop}
    (h0 : readRowP l = none → ∀ w', Ctx W w' S Φ → K (.returned (.tuple #[.slice none 0 0, .bool false])) w')
    (h1 : ∀ r p cap w', readRowP l = some r → r.length ≤ cap → cap ≤ maxLen → Ctx W w' S (fun M w => Φ M w ∧ Sl M w p r) → K (.returned (.tuple #[.slice p r.length cap, .bool true])) w') :
    Calls Tryz.prog F.value_ReadRow #[.string (bs l)] w K := by
  refine (Bvalue_ReadRow_run (bs l) (J := fun u w' => K (.returned u) w') (R := S) c ?_).mono fun e w' ⟨v, he, hj⟩ => by rw [he]; exact hj
  clear c
  refine fun w G cx => Open_use l cx fun b w cx => ⟨_, rfl, rd b (l, false) :: S, Φ, inferInstance, cx, ?_⟩
  clear cx
  refine fun w G cx => RNum_to (S := S) hΦ (by simp only; omega) cx ?_
  clear cx
  have hlen : (rdNat (l, false)).2.1.length ≤ l.length := stepN_len 59 0 (l, false)
  have hnn := stepN_nonneg (e := 59) (.inr (.inl rfl)) (l, false)
  have hrow : readRowP l = match rowLoop (rdNat (l, false)).1.toNat (rdNat (l, false)).2 [] with
    | some (acc, st) => if rdDone st then some acc else none
    | none => none := rfl
  have hnn : 0 ≤ (rdNat (l, false)).1 ∧ (rdNat (l, false)).1 ≤ 9223372036854775807 := hnn
  obtain ⟨⟨n0, st0⟩, hst⟩ : ∃ x, rdNat (l, false) = x := ⟨_, rfl⟩
  rw [hst] at hlen hnn hrow ⊢
  simp only at hlen hnn hrow ⊢
  refine exI_mk (fun p n c m R' Φ' k => ∃ (st : RdS) (acc : List ValD) (ds : List Value), n = acc.length ∧ R' = .buf p n c ds 33 3 :: rd b st :: S ∧ Φ' = (fun M w => Φ M w ∧ Elems M w ds acc) ∧ k = m.toNat ∧ 0 ≤ m ∧ m ≤ 9223372036854775807 ∧ acc.length + st.1.length ≤ l.length ∧ rowLoop n0.toNat st0 [] = rowLoop m.toNat st acc)
    ⟨⟨.buf none 0 0 [] 33 3 :: rd b st0 :: S, fun M w => Φ M w ∧ Elems M w [] ([] : List ValD), _, inferInstance, fun w G cx => (cx.nobuf 33 3).weak fun M w h => ⟨h, Elems.nil⟩, st0, [], [], rfl, rfl, rfl, rfl, hnn.1, hnn.2, by simp only [List.length_nil]; omega, rfl⟩, ?_⟩
  rintro p n c m R1 Φ1 k _ ⟨st, acc, ds, rfl, rfl, rfl, rfl, hm0, hm1, hal, hrl⟩
  have hst1 : Stable (fun M w => Φ M w ∧ Elems M w ds acc) := inferInstance
  refine Br.intro (fun hpos => ?_) (fun hz => ?_)
  · have hpos := of_decide_eq_true hpos
    refine fun w G cx => Left_to (S := .buf p acc.length c ds 33 3 :: S) cx.swap ?_
    refine Br.intro (fun hz => fun w G cx => ?_) (fun hnz => ?_)
    · have hz := of_decide_eq_true hz
      refine h0 ?_ w (cx.left.drop1.drop1.weak fun M w h => h.1)
      rw [hrow, hrl, show m.toNat = (m.toNat - 1) + 1 by omega, rowLoop, if_pos (List.length_eq_zero_iff.1 (by omega))]
    · have hnz := of_decide_eq_false hnz
      have hne : st.1 ≠ [] := fun e => hnz (by rw [e]; rfl)
      obtain ⟨q1, q2, q3⟩ := stepV_len st
      have q2 := q2 hne
      have hi1 := rdInt_i64 st
      have hi2 := rdInt_i64 (rdInt st).2
      refine fun w G cx => take_to (S := .buf p acc.length c ds 33 3 :: S) (fun M w h => hΦ M w h.1) (by omega) cx ?_
      refine fun bk w G cx => ?_
      have cx1 : Ctx W w (.blk bk [.int .i64 (stepV st).1.kind, .int .i64 (stepV st).1.num, .string (stepV st).1.text] 33 :: .buf p acc.length c ds 33 3 :: (rd b (stepV st).2 :: S ++ G)) (fun M w => Φ M w ∧ Elems M w ds acc) := cx.perm ((List.Perm.swap _ _ _).cons _)
      obtain ⟨p', cap', w', hrun, _, cx'⟩ := Ctx.app1 (P := Tryz.prog) (ts := 34) (ty := 34) (kb := #[false, false]) (size := 3) (bytes := 32) cx1 (by kernel_rfl) (by omega) rfl rfl (by omega) (by omega)
      have hst2 : Stable (fun M w => Φ M w ∧ Elems M w (ds ++ [.int .i64 (stepV st).1.kind, .int .i64 (stepV st).1.num, .string (stepV st).1.text]) (acc ++ [(stepV st).1])) := inferInstance
      have hcx2 : Ctx W w' (.buf p' (acc ++ [(stepV st).1]).length cap' (ds ++ [.int .i64 (stepV st).1.kind, .int .i64 (stepV st).1.num, .string (stepV st).1.text]) 33 3 :: rd b (stepV st).2 :: S ++ G) (fun M w => Φ M w ∧ Elems M w (ds ++ [.int .i64 (stepV st).1.kind, .int .i64 (stepV st).1.num, .string (stepV st).1.text]) (acc ++ [(stepV st).1])) := by
        rw [List.length_append, List.length_singleton]
        exact cx'.weak fun M w h => ⟨h.1, h.2.snoc (rep_of hi1 hi2 (Nat.le_trans q3 (Nat.le_trans (by omega : st.1.length ≤ 10000000) (by decide))))⟩
      refine ⟨p', acc.length + 1, cap', w', hrun, _, _, hst2, hcx2, by unfold I64; omega, _, _, (m - 1).toNat, hst2, fun w G cx => cx, ⟨(stepV st).2, acc ++ [(stepV st).1], _, by simp, by simp, rfl, rfl, by omega, by omega, by rw [List.length_append, List.length_singleton]; omega, ?_⟩, by omega⟩
      rw [hrl, show m.toNat = (m - 1).toNat + 1 by omega, rowLoop, if_neg hne]
  · have hz := of_decide_eq_false hz
    have hm : m.toNat = 0 := by omega
    rw [hm, rowLoop] at hrl
    rw [hrl] at hrow
    simp only at hrow
    refine fun w G cx => Done_to (S := .buf p acc.length c ds 33 3 :: S) cx.swap ?_
    refine Br.intro (fun hd => fun w G cx => ?_) (fun hd => fun w G cx => ?_)
    · refine h0 ?_ w (cx.left.drop1.drop1.weak fun M w h => h.1)
      rw [hrow, if_neg (by simpa using hd)]
    · have cx := cx.left.drop1
      obtain ⟨cx3, hs, _, g1, g2⟩ := Ctx.freeze (α := ValD) cx.fst cx.phi.2
      exact h1 acc p c w (by rw [hrow, if_pos (by simpa using hd)]) g1 g2 (cx3.add hs)

theorem ReadRow_to [Stable Φ] (hΦ : ∀ M w, Φ M w → NumI M w) (l : List UInt8) (hl : l.length ≤ 10000000) (c : Ctx W w (R ++ G) Φ) {K : Option Addr → Nat → Nat → Bool → List Own → PW → Prop}
    (h0 : readRowP l = none → K none 0 0 false R Φ)
    (h1 : ∀ r p cap, readRowP l = some r → r.length ≤ cap → cap ≤ maxLen → Stable (fun M w => Φ M w ∧ Sl M w p r) → K p r.length cap true R (fun M w => Φ M w ∧ Sl M w p r)) :
    Calls Tryz.prog F.value_ReadRow #[.string (bs l)] w fun e w' => ∃ p n c ok, e = .returned (.tuple #[.slice p n c, .bool ok]) ∧ ∃ R' Φ', Stable Φ' ∧ Ctx W w' (R' ++ G) Φ' ∧ K p n c ok R' Φ' :=
  ReadRow_use hΦ l hl c (fun h w' c => ⟨none, 0, 0, false, rfl, R, Φ, inferInstance, c, h0 h⟩) fun r p cap w' h g1 g2 c => ⟨p, r.length, cap, true, rfl, R, _, inferInstance, c, h1 r p cap h g1 g2 inferInstance⟩
theorem ReadRowS_to [Stable Φ] (hΦ : ∀ M w, Φ M w → NumI M w) (s : ByteArray) (hl : s.size ≤ 10000000) (c : Ctx W w (R ++ G) Φ) {K : Option Addr → Nat → Nat → Bool → List Own → PW → Prop}
    (h0 : readRowP s.data.toList = none → K none 0 0 false R Φ)
    (h1 : ∀ r p cap, readRowP s.data.toList = some r → r.length ≤ cap → cap ≤ maxLen → Stable (fun M w => Φ M w ∧ Sl M w p r) → K p r.length cap true R (fun M w => Φ M w ∧ Sl M w p r)) :
    Calls Tryz.prog F.value_ReadRow #[.string s] w fun e w' => ∃ p n c ok, e = .returned (.tuple #[.slice p n c, .bool ok]) ∧ ∃ R' Φ', Stable Φ' ∧ Ctx W w' (R' ++ G) Φ' ∧ K p n c ok R' Φ' :=
  ReadRow_to hΦ s.data.toList (by rw [list_size]; exact hl) c h0 h1
end
end Go.Proofs.YtnapfhbibikbiaaGreatDoor
end

/-
  The walks of Clone; what right rows are.
-/
section
set_option linter.unusedVariables false
set_option linter.unusedSimpArgs false
namespace Go.Proofs.YtnapfhbibikbiaaGreatDoor
open Go.Vc


theorem pin_delta {M : List Nat} {w : World} {b o : Nat} {cs : List (List Value)} {l : List DeltaD} (h : Pin b o cs l M w) {j : Nat} (hj : j < l.length) : ∃ p c, cs.getD j [] = l[j].cells p c ∧ l[j].row.length ≤ c ∧ c ≤ maxLen ∧ I64 l[j].time ∧ I64 l[j].n ∧ RowAt w b (o + j * 3) (l[j].cells p c) := by
  obtain ⟨_, h1, h2⟩ := h j hj
  obtain ⟨p, c, e, g1, g2, g3, g4, _⟩ := delta_cells h2
  exact ⟨p, c, e, g1, g2, g3, g4, by rw [e] at h1; exact h1⟩

theorem pin_row {M : List Nat} {w : World} {b o : Nat} {cs : List (List Value)} {l : List DeltaD} (h : Pin b o cs l M w) {j : Nat} (hj : j < l.length) {p : Option Addr} {c : Nat} (e : cs.getD j [] = l[j].cells p c) : Sl M w p l[j].row := by
  have := (h j hj).2.2
  rw [e] at this
  exact delta_row this

theorem pin_rowAt {M : List Nat} {w : World} {b o : Nat} {cs : List (List Value)} {l : List DeltaD} (h : Pin b o cs l M w) {j : Nat} (hj : j < l.length) {p : Option Addr} {c : Nat} (e : cs.getD j [] = l[j].cells p c) : RowAt w b (o + j * 3) (l[j].cells p c) := by
  have := (h j hj).2.1
  rw [e] at this
  exact this

/-- the pinned cells, for good -/
theorem in_cells {Φ : PW} {f : FuncId} {args : Array Value} {v : Value} {b o : Nat} {cs : List (List Value)} {l : List DeltaD} (hΦ : ∀ M w, Φ M w → Pin b o cs l M w)
    (h : (∀ j, (hj : j < l.length) → ∃ p c, cs.getD j [] = l[j].cells p c ∧ l[j].row.length ≤ c ∧ c ≤ maxLen ∧ I64 l[j].time ∧ I64 l[j].n) → GivesIn Φ Tryz.prog f args v) : GivesIn Φ Tryz.prog f args v :=
  ⟨fun W w S c => (h fun j hj => by obtain ⟨p, c, h1, h2, h3, h4, h5, _⟩ := pin_delta (hΦ _ _ c.phi) hj; exact ⟨p, c, h1, h2, h3, h4, h5⟩).go W w S c⟩

theorem len_max {n c : Nat} (h1 : n ≤ c) (h2 : c ≤ maxLen) : n ≤ 9223372036854775807 := Nat.le_trans h1 (Nat.le_trans h2 (by decide))

theorem val_one (M : List Nat) (w : World) (cs : List Value) (x : ValD) (h : Gv.rep M w cs x) : (cs.all fun u => oneC u) = true := by
  obtain ⟨_, _, rfl, ⟨rfl, _⟩, _, _, rfl, ⟨rfl, _⟩, rfl, _⟩ := h
  rfl

theorem CloneV_in {Φ : PW} [Stable Φ] (p : Option Addr) (cap : Nat) (l : List ValD) (hΦ : ∀ M w, Φ M w → Sl M w p l) (hlen : l.length < 100000000) :
    GivesNew Φ Tryz.prog F.slices_Clone_api_Value_api_Value #[.slice p l.length cap] l 33 := by
  refine .there (fun M w h => (hΦ M w h).there) fun hth => ?_
  refine gives_new (Bslices_Clone_api_Value_api_Value_run p l.length cap) fun W R => ?_
  refine Br.intro (fun hn => fun w F c => ?_) (fun hn => ?_)
  · have hl : l = [] := by
      cases l with
      | nil => rfl
      | cons => obtain ⟨b, o, e⟩ := hth (by simp); rw [e] at hn; cases hn
    subst hl
    exact ⟨none, 0, [], rfl, (c.left.buf0 33 3).add Elems.nil⟩
  · intro k w F c
    obtain ⟨p', cap', w', cs, hrun, c'⟩ := Ctx.cloned (P := Tryz.prog) (ts := 34) (ty := 34) (kb := #[false, false]) (bytes := 32) (c2 := cap) c (by kernel_rfl) val_one hΦ hlen (by omega)
    exact ⟨_, _, _, _, hrun, _, _, inferInstance, c', fun w F c => ⟨p', cap', cs, rfl, c.left⟩⟩

theorem CloneD_in {Φ : PW} [Stable Φ] (p : Option Addr) (cap : Nat) (l : List DeltaD) (hΦ : ∀ M w, Φ M w → Sl M w p l) (hlen : l.length < 100000000) :
    GivesNew Φ Tryz.prog F.slices_Clone_api_Delta_api_Delta #[.slice p l.length cap] l 36 := by
  refine .there (fun M w h => (hΦ M w h).there) fun hth => ?_
  refine gives_new (Bslices_Clone_api_Delta_api_Delta_run p l.length cap) fun W R => ?_
  refine Br.intro (fun hn => fun w F c => ?_) (fun hn => ?_)
  · have hl : l = [] := by
      cases l with
      | nil => rfl
      | cons => obtain ⟨b, o, e⟩ := hth (by simp); rw [e] at hn; cases hn
    subst hl
    exact ⟨none, 0, [], rfl, (c.left.buf0 36 3).add Elems.nil⟩
  · intro k w F c
    obtain ⟨p', cap', w', cs, hrun, c'⟩ := Ctx.cloned (P := Tryz.prog) (ts := 22) (ty := 22) (kb := #[false, false]) (bytes := 40) (c2 := cap) c (by kernel_rfl) delta_one hΦ hlen (by omega)
    exact ⟨_, _, _, _, hrun, _, _, inferInstance, c', fun w F c => ⟨p', cap', cs, rfl, c.left⟩⟩

/-! ### right rows -/
def rightV3 (x : ValD) : Bool := if x.kind = 0 then decide (x.text = ByteArray.mk #[]) else if x.kind = 1 then decide (x.num = 0) && decide ((x.text.size : Int) ≤ 200) else decide (x.kind = 2) && (decide (x.num = 0) || decide (x.num = 1)) && decide (x.text = ByteArray.mk #[])

theorem right3_g (x : ValD) : Gives Tryz.prog F.errataref03_Right #[x.v] (.bool (rightV3 x)) := by
  refine gives_of (Berrataref03_Right_run x.kind x.num x.text) fun W R Φ _ => fun _ => Br.intro (fun h => fun w G c => ⟨?_, c.left⟩) (fun h => Br.intro (fun h2 => fun w G c w G c => ⟨?_, c.left⟩) (fun h2 => fun w G c w G c => ⟨?_, c.left⟩))
  · unfold rightV3; rw [if_pos (of_decide_eq_true h)]
  · unfold rightV3; rw [if_neg (of_decide_eq_false h), if_pos (of_decide_eq_true h2)]
  · unfold rightV3; rw [if_neg (of_decide_eq_false h), if_neg (of_decide_eq_false h2)]

theorem All3_q {Φ : PW} [Stable Φ] (q : ValD → Bool) (hq : ∀ x, Gives Tryz.prog F.errataref03_Right #[x.v] (.bool (q x))) (p : Option Addr) (cap : Nat) (l : List ValD) (hΦ : ∀ M w, Φ M w → Sl M w p l) (hlen : l.length ≤ 9223372036854775807) : GivesIn Φ Tryz.prog F.errataref03_All #[.slice p l.length cap] (.bool (l.all q)) := by
  refine .there (fun M w h => (hΦ M w h).there) fun hth => ?_
  refine gives_in (Berrataref03_All_run p l.length cap) fun W R => ?_
  refine exI_mk (fun n R' Φ' k => ∃ i : Nat, n = i ∧ i ≤ l.length ∧ R' = R ∧ Φ' = Φ ∧ k = l.length - i ∧ l.all q = (l.drop i).all q) ⟨⟨R, Φ, _, inferInstance, fun w F c => c, 0, rfl, Nat.zero_le _, rfl, rfl, rfl, rfl⟩, ?_⟩
  rintro n R1 Φ1 k _ ⟨i, rfl, hi, rfl, rfl, rfl, hs⟩
  refine Br.intro (fun hlt => ?_) (fun hge => fun w F cx => ⟨?_, cx.left⟩)
  · have hlt : i < l.length := by simpa using hlt
    obtain ⟨b, o, rfl⟩ := hth (by omega)
    rw [List.drop_eq_getElem_cons hlt, List.all_cons] at hs
    refine ⟨by omega, ptrK_intro b o rfl fun w F cx => ⟨l[i].kind, l[i].num, l[i].text, by rw [Int.toNat_natCast]; exact sl_val (hΦ _ _ cx.phi) hlt, fun w F cx => (hq l[i]).use cx fun w cx => ⟨_, rfl, R1, Φ1, inferInstance, cx, Br.intro (fun h => fun w F cx => ⟨?_, cx.left⟩) (fun h => ⟨by unfold I64; omega, R1, Φ1, l.length - (i + 1), inferInstance, fun w F c => c, ⟨i + 1, rfl, hlt, rfl, rfl, rfl, ?_⟩, by omega⟩)⟩⟩⟩
    · rw [hs, show q l[i] = false by simpa using h, Bool.false_and]
    · rw [hs, show q l[i] = true by simpa using h, Bool.true_and]
  · have hge : i = l.length := Nat.le_antisymm hi (by simpa using hge)
    rw [hs, hge, List.drop_length]
    rfl

theorem All3_in {Φ : PW} [Stable Φ] (p : Option Addr) (cap : Nat) (l : List ValD) (hΦ : ∀ M w, Φ M w → Sl M w p l) (hlen : l.length ≤ 9223372036854775807) : GivesIn Φ Tryz.prog F.errataref03_All #[.slice p l.length cap] (.bool (l.all rightV3)) := All3_q rightV3 right3_g p cap l hΦ hlen

def rightR (l : List ValD) : Bool := decide ((l.length : Int) ≤ 12) && l.all rightV3

theorem RightRow3_in {Φ : PW} [Stable Φ] (p : Option Addr) (cap : Nat) (l : List ValD) (hΦ : ∀ M w, Φ M w → Sl M w p l) (hlen : l.length ≤ 9223372036854775807) : GivesIn Φ Tryz.prog F.errataref03_RightRow #[.slice p l.length cap] (.bool (rightR l)) := by
  have h1 := All3_in p cap l hΦ hlen
  unfold rightR
  generalize l.all rightV3 = c at h1
  refine gives_in (Berrataref03_RightRow_run p l.length cap) fun W R => Br.intro (fun h => fun w F cx => h1.use cx fun w cx => ⟨_, rfl, R, Φ, inferInstance, cx, fun w F cx => ⟨?_, cx.left⟩⟩) (fun h => fun w F cx => ⟨?_, cx.left⟩)
  · rw [h, Bool.true_and]
  · rw [h, Bool.false_and]

end Go.Proofs.YtnapfhbibikbiaaGreatDoor
end

