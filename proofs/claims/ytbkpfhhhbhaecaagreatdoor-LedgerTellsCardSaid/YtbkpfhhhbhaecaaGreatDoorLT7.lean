/-
  The sort's steps over deltas: symMerge, whole.
-/
import Derived.Test.YtbkpfhhhbhaecaaGreatDoorLT6
import Derived.Lib.Strings
import Derived.Lib.Walk
import Derived.Lib.ItoaNum
import Derived.Lib.ConvBytes
import Derived.Lib.AtoiErrMem
import Derived.MapKept
import Derived.Test.YtbkpfhhhbhaecaaGreatDoorLT5
import Derived.Lib.AppendZeros

section
set_option linter.unusedVariables false
set_option linter.unusedSimpArgs false
namespace Go.Proofs.YtbkpfhhhbhaecaaGreatDoor
open Go.Vc


theorem one_of {x : List DE} (h : x.length = 1) : ∃ e, x = [e] := by
  match x, h with
  | [e], _ => exact ⟨e, rfl⟩

set_option maxHeartbeats 8000000 in
theorem symMerge_use {W : World} {Φ : PW} [Stable Φ] {p : Option Addr} {cap N : Nat} {f : FuncId} {cp : Array Value} {P : DE → Prop} (hf : CmpFn Φ f cp P) : ∀ (k : Nat) {S : List Own} (u x y z : List DE), x.length + y.length ≤ k → 0 < x.length → 0 < y.length → Asc leE x → Asc leE y → (∀ q ∈ x, P q) → (∀ q ∈ y, P q) →
    N = (u ++ x ++ y ++ z).length → (u ++ x ++ y ++ z).length ≤ 100000000 → ∀ {a m b : Int}, a = u.length → m = (u.length : Int) + x.length → b = (u.length : Int) + x.length + y.length → ∀ {K : Ending → World → Prop},
    (∀ r w', r.Perm (x ++ y) → Asc leE r → Ctx W w' (bufE p cap (u ++ r ++ z) :: S) Φ → K (.returned (.tuple #[])) w') → ∀ {w : World}, Ctx W w (bufE p cap (u ++ x ++ y ++ z) :: S) Φ →
    Calls Tryz.prog F.slices_symMergeCmpFunc_api_Delta #[.slice p N cap, .int .i64 a, .int .i64 m, .int .i64 b, .func (.func f) #[] cp] w K := by
  intro k
  induction k with
  | zero => intro S u x y z h hx; omega
  | succ k ih =>
  intro S u x y z hk hx0 hy0 hxa hya hPx hPy hN hlen a m b ha hm hb K hK w cx
  by_cases hx1 : x.length = 1
  · obtain ⟨e, rfl⟩ := one_of hx1
    exact sym_one hf u e y z hy0 (hPx e (by simp)) hPy hya hN hlen ha (by simpa using hm) (by simpa using hb) hK cx
  by_cases hy1 : y.length = 1
  · obtain ⟨e, rfl⟩ := one_of hy1
    exact sym_last hf u x e z (by omega) (hPy e (by simp)) hPx hxa hN hlen ha hm (by simpa using hb) hK cx
  subst ha hm hb
  have hl : (u ++ x ++ y ++ z).length = u.length + x.length + y.length + z.length := by simp; omega
  obtain ⟨H, hH⟩ : ∃ H, (x.length + y.length) / 2 = H := ⟨_, rfl⟩
  have hH1 : 2 * H ≤ x.length + y.length := by omega
  have hH2 : x.length + y.length ≤ 2 * H + 1 := by omega
  have hsum : ((u.length : Int) + ((u.length : Int) + x.length + y.length)) = ((2 * u.length + (x.length + y.length) : Nat) : Int) := by omega
  have hhalf : (2 * u.length + (x.length + y.length)) / 2 = u.length + H := by omega
  refine (Bslices_symMergeCmpFunc_api_Delta_run p N cap u.length ((u.length : Int) + x.length) ((u.length : Int) + x.length + y.length) f cp (J := fun u w' => K (.returned u) w') cx ?_).mono fun e w' ⟨v, he, hj⟩ => by rw [he]; exact hj
  have hNl : N = u.length + x.length + y.length + z.length := by rw [hN, hl]
  obtain ⟨g, hg⟩ := e_ptr cx (by omega)
  refine ⟨by unfold I64; omega, Br.intro (fun h => by have := of_decide_eq_true h; omega) (fun _ => ⟨by unfold I64; omega, Br.intro (fun h => by have := of_decide_eq_true h; omega) (fun _ => ⟨by unfold I64; omega, ((u.length + H : Nat) : Int), fun w => by rw [hsum, ← hhalf]; exact shr_run _ (by omega) w, ?_⟩)⟩)⟩
  rw [wrap_nat (by omega)]
  refine ⟨by unfold I64; omega, Br.intro (fun hgt => ?_) (fun hle => ?_)⟩
  case' refine_1 =>
    have hgt := of_decide_eq_true hgt
    obtain ⟨σ0, ρ0, hso⟩ : ∃ σ0 ρ0 : Nat, (σ0 = H - y.length ∧ ρ0 = H ∧ y.length ≤ H ∧ H < x.length) ∨ (σ0 = 0 ∧ ρ0 = x.length ∧ x.length ≤ H ∧ H ≤ y.length) := ⟨H - y.length, H, .inl ⟨rfl, rfl, by omega, by omega⟩⟩
    have hst : σ0 = H - y.length ∧ ρ0 = H := by omega
    refine ⟨by unfold I64; omega, by unfold I64; omega, ?_⟩
  case' refine_2 =>
    have hle := of_decide_eq_false hle
    obtain ⟨σ0, ρ0, hst, hso⟩ : ∃ σ0 ρ0 : Nat, (σ0 = 0 ∧ ρ0 = x.length) ∧ ((σ0 = H - y.length ∧ ρ0 = H ∧ y.length ≤ H ∧ H < x.length) ∨ (σ0 = 0 ∧ ρ0 = x.length ∧ x.length ≤ H ∧ H ≤ y.length)) := ⟨0, x.length, ⟨rfl, rfl⟩, .inr ⟨rfl, rfl, by omega, by omega⟩⟩
    refine ⟨by unfold I64; omega, ?_⟩
  all_goals
    have hρ : ρ0 ≤ H ∧ ρ0 ≤ x.length ∧ σ0 ≤ ρ0 := by omega
    refine exI_mk (fun i j R' Φ' k => ∃ s r : Nat, i = (u.length : Int) + s ∧ j = (u.length : Int) + r ∧ σ0 ≤ s ∧ s ≤ r ∧ r ≤ ρ0 ∧ (∀ c, σ0 ≤ c → c < s → ∀ (hc : c < x.length) (hd : H - 1 - c < y.length), leE x[c] y[H - 1 - c]) ∧ (∀ c, r ≤ c → c < ρ0 → ∀ (hc : c < x.length) (hd : H - 1 - c < y.length), leE y[H - 1 - c] x[c]) ∧ R' = bufE p cap (u ++ x ++ y ++ z) :: S ∧ Φ' = Φ ∧ k = r - s)
      ⟨⟨_, Φ, _, inferInstance, fun w G cx => cx, σ0, ρ0, by omega, by omega, by omega, by omega, by omega, fun c h1 h2 => by omega, fun c h1 h2 => by omega, rfl, rfl, rfl⟩, ?_⟩
    clear cx
    rintro _ _ R1' Φ1 kk _ ⟨s, r, rfl, rfl, h1, h2, h3, h4, h5, rfl, rfl, rfl⟩
    refine Br.intro (fun hlt => ?_) (fun hge => ?_)
    · have hlt := of_decide_eq_true hlt
      have hsr : s < r := by omega
      obtain ⟨γ, hγ⟩ : ∃ γ, (s + r) / 2 = γ := ⟨_, rfl⟩
      have hγ1 : s ≤ γ := by omega
      have hγ2 : γ < r := by omega
      have hγx : γ < x.length := by omega
      have hγy : H - 1 - γ < y.length := by omega
      have hsum2 : ((u.length : Int) + s + ((u.length : Int) + r)) = ((2 * u.length + (s + r) : Nat) : Int) := by omega
      have hhalf2 : (2 * u.length + (s + r)) / 2 = u.length + γ := by omega
      have hX : (u ++ x ++ y ++ z)[u.length + γ]? = some x[γ] := get_fst hγx
      have hY : (u ++ x ++ y ++ z)[u.length + x.length + (H - 1 - γ)]? = some y[H - 1 - γ] := get_mid hγy
      have hxx : ∀ (c d : Nat) (h : c ≤ d) (hd : d < x.length), leE (x[c]'(Nat.lt_of_le_of_lt h hd)) x[d] := fun c d hcd hd => asc_le ordE hxa hcd hd
      have hyy : ∀ (c d : Nat) (h : c ≤ d) (hd : d < y.length), leE (y[c]'(Nat.lt_of_le_of_lt h hd)) y[d] := fun c d hcd hd => asc_le ordE hya hcd hd
      have hPX := hPx x[γ] (List.getElem_mem _)
      have hPY := hPy y[H - 1 - γ] (List.getElem_mem _)
      have upX : ∀ c, c < γ + 1 → ∀ (hc : c < x.length), leE x[c] x[γ] := fun c hc hc' => hxx c γ (by omega) hγx
      have upY : ∀ c, c < γ + 1 → ∀ (hd : H - 1 - c < y.length), leE y[H - 1 - γ] y[H - 1 - c] := fun c hc hd => hyy (H - 1 - γ) (H - 1 - c) (by omega) hd
      have dnX : ∀ c, γ ≤ c → ∀ (hc : c < x.length), leE x[γ] x[c] := fun c hc hc' => hxx γ c hc hc'
      have dnY : ∀ c, γ ≤ c → ∀ (hd : H - 1 - c < y.length), leE y[H - 1 - c] y[H - 1 - γ] := fun c hc hd => hyy (H - 1 - c) (H - 1 - γ) (by omega) hγy
      generalize hxe : x[γ] = X at hX hPX upX dnX
      generalize hye : y[H - 1 - γ] = Y at hY hPY upY dnY
      refine ⟨by unfold I64; omega, ((u.length + γ : Nat) : Int), fun w => by rw [hsum2, ← hhalf2]; exact shr_run _ (by omega) w, ?_⟩
      rw [wrap_nat (by omega : u.length + γ ≤ 1000000000)]
      have n2 : (((u.length + H : Nat) : Int) + ((u.length : Int) + x.length) - 1 - ((u.length + γ : Nat) : Int)).toNat = u.length + x.length + (H - 1 - γ) := by omega
      subst hg
      refine ⟨_, Φ1, inferInstance, fun w G cx => cx, by unfold I64; omega, by omega, ptrK_intro g 0 rfl ⟨by omega, ptrK_intro g 0 rfl ⟨X.d.time, X.p, X.d.row.length, X.c, X.d.n, fun w G cx => ⟨_, X.p, _, X.c, _, by rw [Nat.zero_add, Int.toNat_natCast]; exact e_row cx hX, rfl⟩, Y.d.time, Y.p, Y.d.row.length, Y.c, Y.d.n, fun w G cx => ⟨_, Y.p, _, Y.c, _, by rw [Nat.zero_add, n2]; exact e_row cx hY, rfl⟩, fun w G cx => ⟨hf.1, (hf.2 Y X hPY hPX).use cx fun w cx => ⟨_, rfl, bufE (some ⟨g, 0, none⟩) cap (u ++ x ++ y ++ z) :: S, Φ1, inferInstance, cx, Br.intro (fun hc => ?_) (fun hc => ?_)⟩⟩⟩⟩⟩
      · have hc := leE_not (x := Y) (y := X) (fun h => by rw [decide_eq_true h] at hc; cases hc)
        exact ⟨by unfold I64; omega, _, Φ1, r - (γ + 1), inferInstance, fun w G cx => cx, ⟨γ + 1, r, by omega, by omega, by omega, by omega, h3, fun c hc1 hc2 hcx hcy => ordE.trans _ _ _ (upX c hc2 hcx) (ordE.trans _ _ _ hc (upY c hc2 hcy)), h5, rfl, rfl, rfl⟩, by omega⟩
      · have hc : cmpD Y.d X.d < 0 := by simpa using hc
        have hc := leE_of_lt hc
        exact ⟨_, Φ1, γ - s, inferInstance, fun w G cx => cx, ⟨s, γ, by omega, by omega, by omega, by omega, by omega, h4, fun c hc1 hc2 hcx hcy => ordE.trans _ _ _ (dnY c hc1 hcy) (ordE.trans _ _ _ hc (dnX c hc1 hcx)), rfl, rfl, rfl⟩, by omega⟩
    · have hge := of_decide_eq_false hge
      have hsr : s = r := by omega
      subst hsr
      obtain ⟨t, ht⟩ : ∃ t, H - s = t := ⟨_, rfl⟩
      have hst2 : s + t = H := by omega
      have htY : t ≤ y.length := by omega
      have hsX : s ≤ x.length := by omega
      have hend2 : (((u.length + H : Nat) : Int) + ((u.length : Int) + x.length) - ((u.length : Int) + s)) = (u.length : Int) + x.length + t := by omega
      have hsplit := sym_split ordE hxa hya s t hsX htY
        (fun h0 ht' => by have := h4 (s - 1) (by omega) (by omega) (by omega) (by omega); simpa [show H - 1 - (s - 1) = t by omega] using this)
        (fun h0 hs' => by have := h5 s (by omega) (by omega) (by omega) (by omega); simpa [show H - 1 - s = t - 1 by omega] using this)
      obtain ⟨L0, hL0⟩ : ∃ L0, x.take s = L0 := ⟨_, rfl⟩
      obtain ⟨R0, hR0⟩ : ∃ R0, x.drop s = R0 := ⟨_, rfl⟩
      obtain ⟨L1, hL1⟩ : ∃ L1, y.take t = L1 := ⟨_, rfl⟩
      obtain ⟨R1, hR1⟩ : ∃ R1, y.drop t = R1 := ⟨_, rfl⟩
      have hx2 : x = L0 ++ R0 := by rw [← hL0, ← hR0, List.take_append_drop]
      have hy2 : y = L1 ++ R1 := by rw [← hL1, ← hR1, List.take_append_drop]
      have hL0l : L0.length = s := by rw [← hL0, List.length_take]; omega
      have hL1l : L1.length = t := by rw [← hL1, List.length_take]; omega
      have hR0l : R0.length = x.length - s := by rw [← hR0, List.length_drop]
      have hR1l : R1.length = y.length - t := by rw [← hR1, List.length_drop]
      have hL0a : Asc leE L0 := by rw [← hL0]; exact asc_take hxa s
      have hL1a : Asc leE L1 := by rw [← hL1]; exact asc_take hya t
      have hR0a : Asc leE R0 := by rw [← hR0]; exact asc_drop hxa s
      have hR1a : Asc leE R1 := by rw [← hR1]; exact asc_drop hya t
      rw [hL0, hR0, hL1, hR1] at hsplit
      have hPL : ∀ q ∈ L0 ++ L1, P q := fun q hq => by
        rcases List.mem_append.1 hq with h | h
        · exact hPx q (by rw [hx2]; simp [h])
        · exact hPy q (by rw [hy2]; simp [h])
      have hPR : ∀ q ∈ R0 ++ R1, P q := fun q hq => by
        rcases List.mem_append.1 hq with h | h
        · exact hPx q (by rw [hx2]; simp [h])
        · exact hPy q (by rw [hy2]; simp [h])
      have hend : ∀ L r : List DE, L.Perm (L0 ++ L1) → Asc leE L → r.Perm (R0 ++ R1) → Asc leE r → ∀ (w : World) (G : List Own), Ctx W w (bufE p cap (u ++ L ++ r ++ z) :: S ++ G) Φ1 → K (.returned (.tuple #[])) w := fun L r hLp hLa hrp hra w G cx => by
        refine hK (L ++ r) w ?_ (asc_app hLa hra fun q hq q' hq' => hsplit q (hLp.mem_iff.1 hq) q' (hrp.mem_iff.1 hq')) (cx.left.re (by simp))
        rw [hx2, hy2]
        refine (List.Perm.append hLp hrp).trans ?_
        simp only [List.append_assoc]
        exact List.Perm.append_left _ (List.perm_append_comm_assoc _ _ _)
      have hLs : ¬ (0 < s ∧ 0 < t) → Asc leE (L0 ++ L1) := fun h => by
        rcases Nat.eq_zero_or_pos s with hz | hz
        · rw [List.eq_nil_of_length_eq_zero (l := L0) (by omega)]; exact hL1a
        · rw [List.eq_nil_of_length_eq_zero (l := L1) (by omega), List.append_nil]; exact hL0a
      have hRs : ¬ (s < x.length ∧ t < y.length) → Asc leE (R0 ++ R1) := fun h => by
        by_cases hz : s < x.length
        · rw [List.eq_nil_of_length_eq_zero (l := R1) (by omega), List.append_nil]; exact hR0a
        · rw [List.eq_nil_of_length_eq_zero (l := R0) (by omega)]; exact hR1a
      rw [hend2]
      have hcL : ((decide ((u.length : Int) < (u.length : Int) + s) && decide ((u.length : Int) + s < ((u.length + H : Nat) : Int))) = true ↔ (0 < s ∧ 0 < t)) := by
        simp only [Bool.and_eq_true, decide_eq_true_eq]; omega
      have hcR : ((decide (((u.length + H : Nat) : Int) < (u.length : Int) + x.length + t) && decide ((u.length : Int) + x.length + t < (u.length : Int) + x.length + y.length)) = true ↔ (s < x.length ∧ t < y.length)) := by
        simp only [Bool.and_eq_true, decide_eq_true_eq]; omega
      have hxl : x.length = L0.length + R0.length := by omega
      have hyl : y.length = L1.length + R1.length := by omega
      refine ⟨by unfold I64; omega, fun w G cx => Br.intro (fun hro => fun w G cx => ?_) (fun hro => fun w G cx => ?_)⟩
      · simp only [Bool.and_eq_true, decide_eq_true_eq] at hro
        refine rotate_use (S := S ++ G) (u ++ L0) R0 L1 (R1 ++ z) (by omega) (by omega) (cx.re (by rw [hx2, hy2]; simp)) (hN.trans (by simp only [List.length_append]; omega)) (by simp only [List.length_append]; omega) (by simp only [List.length_append]; omega) (by simp only [List.length_append]; omega) (by simp only [List.length_append]; omega) fun w cx => ⟨rfl, bufE p cap (u ++ (L0 ++ L1) ++ (R0 ++ R1) ++ z) :: S, Φ1, inferInstance, cx.re (by simp), fun w G cx => ?_⟩
        exact Br.intro (fun h => fun w G cx => ih (S := S ++ G) u L0 L1 (R0 ++ R1 ++ z) (by omega) (by have := hcL.1 h; omega) (by have := hcL.1 h; omega) hL0a hL1a (fun q hq => hPL q (by simp [hq])) (fun q hq => hPL q (by simp [hq])) (hN.trans (by simp only [List.length_append]; omega)) (by simp only [List.length_append]; omega) (by omega) (by omega) (by omega) (fun L w hLp hLa cx => by have hLl : L.length = L0.length + L1.length := (by have := hLp.length_eq; rw [List.length_append] at this; exact this); exact ⟨rfl, bufE p cap (u ++ L ++ (R0 ++ R1) ++ z) :: S, Φ1, inferInstance, cx.re (by simp), fun w G cx => (Br.intro (fun h => fun w G cx => ih (S := S ++ G) (u ++ L) R0 R1 z (by omega) (by have := hcR.1 h; omega) (by have := hcR.1 h; omega) hR0a hR1a (fun q hq => hPR q (by simp [hq])) (fun q hq => hPR q (by simp [hq])) (hN.trans (by simp only [List.length_append]; omega)) (by simp only [List.length_append]; omega) (by simp only [List.length_append]; omega) (by simp only [List.length_append]; omega) (by simp only [List.length_append]; omega) (fun r w hp ha cx => ⟨rfl, bufE p cap (u ++ L ++ r ++ z) :: S, Φ1, inferInstance, cx, fun w G cx => hend L r hLp hLa hp ha w G cx⟩) (cx.re (by simp))) (fun h => fun w G cx => hend L (R0 ++ R1) hLp hLa (List.Perm.refl _) (hRs (fun hh => by have := hcR.2 hh; rw [this] at h; cases h)) w G cx))⟩) (cx.re (by simp))) (fun h => fun w G cx => by have hLa : Asc leE (L0 ++ L1) := hLs (fun hh => by have := hcL.2 hh; rw [this] at h; cases h); generalize hLe : L0 ++ L1 = L at hLa cx ⊢; have hLl : L.length = L0.length + L1.length := (by rw [← hLe]; exact List.length_append); have hLp : L.Perm (L0 ++ L1) := (by rw [hLe]); exact (Br.intro (fun h => fun w G cx => ih (S := S ++ G) (u ++ L) R0 R1 z (by omega) (by have := hcR.1 h; omega) (by have := hcR.1 h; omega) hR0a hR1a (fun q hq => hPR q (by simp [hq])) (fun q hq => hPR q (by simp [hq])) (hN.trans (by simp only [List.length_append]; omega)) (by simp only [List.length_append]; omega) (by simp only [List.length_append]; omega) (by simp only [List.length_append]; omega) (by simp only [List.length_append]; omega) (fun r w hp ha cx => ⟨rfl, bufE p cap (u ++ L ++ r ++ z) :: S, Φ1, inferInstance, cx, fun w G cx => hend L r hLp hLa hp ha w G cx⟩) (cx.re (by simp))) (fun h => fun w G cx => hend L (R0 ++ R1) hLp hLa (List.Perm.refl _) (hRs (fun hh => by have := hcR.2 hh; rw [this] at h; cases h)) w G cx)))
      · have hro' : ¬ (s < x.length ∧ 0 < t) := fun h => by
          have : (decide ((u.length : Int) + s < (u.length : Int) + x.length) && decide ((u.length : Int) + x.length < (u.length : Int) + x.length + t)) = true := by simp only [Bool.and_eq_true, decide_eq_true_eq]; omega
          rw [this] at hro; cases hro
        have hsame : R0 ++ L1 = L1 ++ R0 := by
          by_cases hz : s < x.length
          · rw [List.eq_nil_of_length_eq_zero (l := L1) (by omega)]; simp
          · rw [List.eq_nil_of_length_eq_zero (l := R0) (by omega)]; simp
        have heq : u ++ x ++ y ++ z = u ++ (L0 ++ L1) ++ (R0 ++ R1) ++ z := by
          rw [hx2, hy2]
          simp only [List.append_assoc]
          rw [← List.append_assoc R0 L1, hsame]
          simp only [List.append_assoc]
        rw [heq] at cx ⊢
        exact Br.intro (fun h => fun w G cx => ih (S := S ++ G) u L0 L1 (R0 ++ R1 ++ z) (by omega) (by have := hcL.1 h; omega) (by have := hcL.1 h; omega) hL0a hL1a (fun q hq => hPL q (by simp [hq])) (fun q hq => hPL q (by simp [hq])) (hN.trans (by simp only [List.length_append]; omega)) (by simp only [List.length_append]; omega) (by omega) (by omega) (by omega) (fun L w hLp hLa cx => by have hLl : L.length = L0.length + L1.length := (by have := hLp.length_eq; rw [List.length_append] at this; exact this); exact ⟨rfl, bufE p cap (u ++ L ++ (R0 ++ R1) ++ z) :: S, Φ1, inferInstance, cx.re (by simp), fun w G cx => (Br.intro (fun h => fun w G cx => ih (S := S ++ G) (u ++ L) R0 R1 z (by omega) (by have := hcR.1 h; omega) (by have := hcR.1 h; omega) hR0a hR1a (fun q hq => hPR q (by simp [hq])) (fun q hq => hPR q (by simp [hq])) (hN.trans (by simp only [List.length_append]; omega)) (by simp only [List.length_append]; omega) (by simp only [List.length_append]; omega) (by simp only [List.length_append]; omega) (by simp only [List.length_append]; omega) (fun r w hp ha cx => ⟨rfl, bufE p cap (u ++ L ++ r ++ z) :: S, Φ1, inferInstance, cx, fun w G cx => hend L r hLp hLa hp ha w G cx⟩) (cx.re (by simp))) (fun h => fun w G cx => hend L (R0 ++ R1) hLp hLa (List.Perm.refl _) (hRs (fun hh => by have := hcR.2 hh; rw [this] at h; cases h)) w G cx))⟩) (cx.re (by simp))) (fun h => fun w G cx => by have hLa : Asc leE (L0 ++ L1) := hLs (fun hh => by have := hcL.2 hh; rw [this] at h; cases h); generalize hLe : L0 ++ L1 = L at hLa cx ⊢; have hLl : L.length = L0.length + L1.length := (by rw [← hLe]; exact List.length_append); have hLp : L.Perm (L0 ++ L1) := (by rw [hLe]); exact (Br.intro (fun h => fun w G cx => ih (S := S ++ G) (u ++ L) R0 R1 z (by omega) (by have := hcR.1 h; omega) (by have := hcR.1 h; omega) hR0a hR1a (fun q hq => hPR q (by simp [hq])) (fun q hq => hPR q (by simp [hq])) (hN.trans (by simp only [List.length_append]; omega)) (by simp only [List.length_append]; omega) (by simp only [List.length_append]; omega) (by simp only [List.length_append]; omega) (by simp only [List.length_append]; omega) (fun r w hp ha cx => ⟨rfl, bufE p cap (u ++ L ++ r ++ z) :: S, Φ1, inferInstance, cx, fun w G cx => hend L r hLp hLa hp ha w G cx⟩) (cx.re (by simp))) (fun h => fun w G cx => hend L (R0 ++ R1) hLp hLa (List.Perm.refl _) (hRs (fun hh => by have := hcR.2 hh; rw [this] at h; cases h)) w G cx)))

end Go.Proofs.YtbkpfhhhbhaecaaGreatDoor
end

section
set_option linter.unusedVariables false
set_option linter.unusedSimpArgs false
namespace Go.Proofs.YtbkpfhhhbhaecaaGreatDoor
open Go.Vc


theorem cat_all {cs : List (List DE)} {bs : Nat} {c : List DE} (h : ∀ d ∈ cs, d.length = bs ∧ Asc leE d) (h1 : c.length = bs) (h2 : Asc leE c) : ∀ d ∈ cs ++ [c], d.length = bs ∧ Asc leE d := fun d hd => by
  rcases List.mem_append.1 hd with hd | hd
  · exact h d hd
  · rw [List.mem_singleton.1 hd]; exact ⟨h1, h2⟩

theorem flat_snoc (cs : List (List DE)) (c : List DE) : (cs ++ [c]).flatten = cs.flatten ++ c := by simp

theorem flat_one {cs : List (List DE)} {bs : Nat} (h0 : 0 < bs) (h : ∀ d ∈ cs, d.length = bs ∧ Asc leE d) (hl : cs.flatten.length = 0) : cs = [] := by
  cases cs with
  | nil => rfl
  | cons c cs =>
    have := (h c (by simp)).1
    rw [List.flatten_cons, List.length_append] at hl
    omega

set_option maxHeartbeats 4000000 in
theorem stable_use {W w : World} {S : List Own} {Φ : PW} [Stable Φ] {p : Option Addr} {cap : Nat} {f : FuncId} {cp : Array Value} {P : DE → Prop} (hf : CmpFn Φ f cp P) (es : List DE) (hP : ∀ e ∈ es, P e) (cx : Ctx W w (bufE p cap es :: S) Φ)
    (hlen : es.length ≤ 100000000) {K : Ending → World → Prop} (hK : ∀ es' w', es'.Perm es → Asc leE es' → Ctx W w' (bufE p cap es' :: S) Φ → K (.returned (.tuple #[])) w') :
    Calls Tryz.prog F.slices_stableCmpFunc_api_Delta #[.slice p es.length cap, .int .i64 es.length, .func (.func f) #[] cp] w K := by
  refine (Bslices_stableCmpFunc_api_Delta_run p es.length cap es.length f cp (J := fun u w' => K (.returned u) w') cx ?_).mono fun e w' ⟨v, he, hj⟩ => by rw [he]; exact hj
  refine exI_mk (fun a b R' Φ' k => ∃ (cs : List (List DE)) (rest : List DE), a = cs.flatten.length ∧ b = (cs.flatten.length : Int) + 20 ∧ (∀ c ∈ cs, c.length = 20 ∧ Asc leE c) ∧ (cs.flatten ++ rest).Perm es ∧ R' = bufE p cap (cs.flatten ++ rest) :: S ∧ Φ' = Φ ∧ k = rest.length)
    ⟨⟨_, Φ, _, inferInstance, fun w G cx => cx, [], es, rfl, rfl, by simp, List.Perm.refl _, rfl, rfl, rfl⟩, ?_⟩
  clear cx
  rintro _ _ R1 Φ1 k _ ⟨cs, rest, rfl, rfl, hcs, hperm, rfl, rfl, rfl⟩
  have hlp := hperm.length_eq
  rw [List.length_append] at hlp
  have hPr : ∀ q ∈ rest, P q := fun q hq => hP q (hperm.mem_iff.1 (by simp [hq]))
  refine Br.intro (fun hle => fun w G cx => ?_) (fun hgt => fun w G cx => ?_)
  · have hle := of_decide_eq_true hle
    have hl1 : (rest.take 20).length = 20 := by rw [List.length_take]; omega
    have hl2 : (rest.drop 20).length = rest.length - 20 := by rw [List.length_drop]
    refine insertionSort_use (S := S ++ G) hf cs.flatten (rest.take 20) (rest.drop 20) (fun q hq => hPr q (List.mem_of_mem_take hq)) (cx.re (by simp)) (by simp only [List.length_append]; omega) (by simp only [List.length_append]; omega) rfl (by omega) fun x' w hp ha cx => ?_
    have hx' : x'.length = 20 := by rw [hp.length_eq, hl1]
    refine ⟨rfl, bufE p cap ((cs ++ [x']).flatten ++ rest.drop 20) :: S, Φ1, inferInstance, cx.re (by rw [flat_snoc]; rfl), by unfold I64; omega, _, Φ1, (rest.drop 20).length, inferInstance, fun w G cx => cx, ⟨cs ++ [x'], rest.drop 20, by rw [flat_snoc, List.length_append]; omega, by rw [flat_snoc, List.length_append]; omega, cat_all hcs hx' ha, ?_, rfl, rfl, rfl⟩, by omega⟩
    refine List.Perm.trans ?_ hperm
    rw [flat_snoc, List.append_assoc]
    refine List.Perm.append_left _ ((List.Perm.append_right _ hp).trans ?_)
    rw [List.take_append_drop]
  have hgt := of_decide_eq_false hgt
  refine insertionSort_use (S := S ++ G) hf cs.flatten rest [] hPr (cx.re (by simp)) (by simp only [List.length_append, List.length_nil]; omega) (by simp only [List.length_append, List.length_nil]; omega) rfl (by omega) fun x' w hp ha cx => ?_
  have hx' := hp.length_eq
  refine ⟨rfl, bufE p cap (cs.flatten ++ x') :: S, Φ1, inferInstance, cx.re (by simp), ?_⟩
  refine exI_mk (fun bs R' Φ' k => ∃ (b : Nat) (cs : List (List DE)) (rest : List DE), bs = b ∧ 20 ≤ b ∧ b ≤ 200000000 ∧ (∀ c ∈ cs, c.length = b ∧ Asc leE c) ∧ Asc leE rest ∧ rest.length < b ∧ (cs.flatten ++ rest).Perm es ∧ R' = bufE p cap (cs.flatten ++ rest) :: S ∧ Φ' = Φ1 ∧ k = es.length - b)
    ⟨⟨_, Φ1, _, inferInstance, fun w G cx => cx, 20, cs, x', rfl, by omega, by omega, hcs, ha, by omega, (List.Perm.append_left _ hp).trans hperm, rfl, rfl, rfl⟩, ?_⟩
  clear cx hx' ha hp hcs hperm hPr hlp hgt
  rintro _ R2 Φ2 k _ ⟨b, cs, rest, rfl, hb20, hbm, hcs, hra, hrl, hperm, rfl, rfl, rfl⟩
  have hlp := hperm.length_eq
  rw [List.length_append] at hlp
  refine Br.intro (fun hlt => ?_) (fun hge => fun w G cx => ?_)
  · have hlt := of_decide_eq_true hlt
    refine ⟨by unfold I64; omega, ?_⟩
    refine exI_mk (fun a e R' Φ' k => ∃ (ds cs : List (List DE)), a = ds.flatten.length ∧ e = (ds.flatten.length : Int) + 2 * b ∧ (∀ d ∈ ds, d.length = 2 * b ∧ Asc leE d) ∧ (∀ c ∈ cs, c.length = b ∧ Asc leE c) ∧ (ds.flatten ++ (cs.flatten ++ rest)).Perm es ∧ R' = bufE p cap (ds.flatten ++ (cs.flatten ++ rest)) :: S ∧ Φ' = Φ2 ∧ k = cs.length)
      ⟨⟨_, Φ2, _, inferInstance, fun w G cx => cx, [], cs, rfl, by simp, by simp, hcs, hperm, rfl, rfl, rfl⟩, ?_⟩
    clear hcs hperm hlp
    rintro _ _ R3 Φ3 k _ ⟨ds, cs, rfl, rfl, hds, hcs, hperm, rfl, rfl, rfl⟩
    have hlp := hperm.length_eq
    rw [List.length_append, List.length_append] at hlp
    have hPc : ∀ c ∈ cs, ∀ q ∈ c, P q := fun c hc q hq => hP q (hperm.mem_iff.1 (by
      simp only [List.mem_append, List.mem_flatten]
      exact .inr (.inl ⟨c, hc, hq⟩)))
    have hPr : ∀ q ∈ rest, P q := fun q hq => hP q (hperm.mem_iff.1 (by simp [hq]))
    refine Br.intro (fun hle => ?_) (fun hgt => ?_)
    · have hle := of_decide_eq_true hle
      obtain ⟨c1, c2, cs, rfl⟩ : ∃ c1 c2 cs', cs = c1 :: c2 :: cs' := by
        match cs, hcs, hlp with
        | [], _, hlp => simp only [List.flatten_nil, List.flatten_cons, List.length_nil, List.length_append] at hlp; omega
        | [c], hcs, hlp => have := (hcs c (by simp)).1; simp only [List.flatten_nil, List.flatten_cons, List.length_nil, List.length_append] at hlp; omega
        | c1 :: c2 :: cs', _, _ => exact ⟨c1, c2, cs', rfl⟩
      obtain ⟨hc1, ha1⟩ := hcs c1 (by simp)
      obtain ⟨hc2, ha2⟩ := hcs c2 (by simp)
      simp only [List.flatten_cons, List.length_append] at hlp
      refine ⟨by unfold I64; omega, fun w G cx => ?_⟩
      refine symMerge_use (S := S ++ G) hf _ ds.flatten c1 c2 (cs.flatten ++ rest) (Nat.le_refl _) (by omega) (by omega) ha1 ha2 (hPc c1 (by simp)) (hPc c2 (by simp)) (by simp only [List.length_append]; omega) (by simp only [List.length_append]; omega) rfl (by omega) (by omega) (fun r w hp ha cx => ?_) (cx.re (by simp))
      have hrl2 : r.length = 2 * b := by rw [hp.length_eq, List.length_append]; omega
      refine ⟨rfl, bufE p cap ((ds ++ [r]).flatten ++ (cs.flatten ++ rest)) :: S, Φ3, inferInstance, cx.re (by rw [flat_snoc]; rfl), by unfold I64; omega, by unfold I64; omega, _, Φ3, cs.length, inferInstance, fun w G cx => cx, ⟨ds ++ [r], cs, by rw [flat_snoc, List.length_append]; omega, by rw [flat_snoc, List.length_append]; omega, cat_all hds hrl2 ha, fun c hc => hcs c (by simp [hc]), ?_, rfl, rfl, rfl⟩, by simp; omega⟩
      refine List.Perm.trans ?_ hperm
      rw [flat_snoc, List.append_assoc]
      refine List.Perm.append_left _ ((List.Perm.append_right _ hp).trans (List.Perm.of_eq ?_))
      simp
    · have hgt := of_decide_eq_false hgt
      have hshape : (cs = [] ∧ rest.length = rest.length) ∨ ∃ c, cs = [c] := by
        match cs, hcs, hlp with
        | [], _, _ => exact .inl ⟨rfl, rfl⟩
        | [c], _, _ => exact .inr ⟨c, rfl⟩
        | c1 :: c2 :: cs', hcs, hlp =>
          have h1 := (hcs c1 (by simp)).1
          have h2 := (hcs c2 (by simp)).1
          simp only [List.flatten_cons, List.length_append] at hlp
          omega
      refine ⟨by unfold I64; omega, Br.intro (fun hm => fun w G cx => ?_) (fun hm => ⟨by unfold I64; omega, ?_⟩)⟩
      · have hm := of_decide_eq_true hm
        obtain ⟨c, rfl⟩ : ∃ c, cs = [c] := by
          rcases hshape with ⟨rfl, _⟩ | h
          · simp only [List.flatten_nil, List.flatten_cons, List.length_nil, List.length_append] at hlp; omega
          · exact h
        obtain ⟨hc1, ha1⟩ := hcs c (by simp)
        simp only [List.flatten_cons, List.flatten_nil, List.append_nil] at hlp
        refine symMerge_use (S := S ++ G) hf _ ds.flatten c rest [] (Nat.le_refl _) (by omega) (by omega) ha1 hra (hPc c (by simp)) hPr (by simp only [List.length_append, List.length_nil]; omega) (by simp only [List.length_append, List.length_nil]; omega) rfl (by omega) (by omega) (fun r w hp ha cx => ?_) (cx.re (by simp))
        have hrl2 : r.length = b + rest.length := by rw [hp.length_eq, List.length_append]; omega
        refine ⟨rfl, bufE p cap (ds.flatten ++ r) :: S, Φ3, inferInstance, cx.re (by simp), by unfold I64; omega, _, Φ3, es.length - 2 * b, inferInstance, fun w G cx => cx, ⟨2 * b, ds, r, by omega, by omega, by omega, hds, ha, by omega, ?_, rfl, rfl, rfl⟩, by omega⟩
        refine List.Perm.trans (List.Perm.append_left _ hp) (List.Perm.trans (List.Perm.of_eq ?_) hperm)
        simp
      · have hm := of_decide_eq_false hm
        rcases hshape with ⟨rfl, _⟩ | ⟨c, rfl⟩
        · exact ⟨bufE p cap (ds.flatten ++ rest) :: S, Φ3, es.length - 2 * b, inferInstance, fun w G cx => cx, ⟨2 * b, ds, rest, by omega, by omega, by omega, hds, hra, by omega, hperm, rfl, rfl, rfl⟩, by omega⟩
        · obtain ⟨hc1, ha1⟩ := hcs c (by simp)
          simp only [List.flatten_cons, List.flatten_nil, List.append_nil] at hlp hperm
          have hr : rest = [] := List.eq_nil_of_length_eq_zero (by omega)
          subst hr
          rw [List.append_nil] at hperm
          exact ⟨bufE p cap (ds.flatten ++ c) :: S, Φ3, es.length - 2 * b, inferInstance, fun w G cx => cx.re (by simp), ⟨2 * b, ds, c, by omega, by omega, by omega, hds, ha1, by omega, hperm, rfl, rfl, rfl⟩, by omega⟩
  · have hge := of_decide_eq_false hge
    refine hK (cs.flatten ++ rest) w hperm ?_ cx.left
    cases cs with
    | nil => exact hra
    | cons c cs =>
      have h1 := (hcs c (by simp)).1
      rw [List.flatten_cons, List.length_append] at hlp
      have h2 : cs = [] := flat_one (by omega) (fun d hd => hcs d (by simp [hd])) (by omega)
      have h3 : rest = [] := List.eq_nil_of_length_eq_zero (by omega)
      subst h2 h3
      simpa using (hcs c (by simp)).2

theorem SortStable_use {W w : World} {S : List Own} {Φ : PW} [Stable Φ] {p : Option Addr} {cap : Nat} {f : FuncId} {cp : Array Value} {P : DE → Prop} (hf : CmpFn Φ f cp P) (es : List DE) (hP : ∀ e ∈ es, P e) (cx : Ctx W w (bufE p cap es :: S) Φ)
    (hlen : es.length ≤ 100000000) {K : Ending → World → Prop} (hK : ∀ es' w', es'.Perm es → Asc leE es' → Ctx W w' (bufE p cap es' :: S) Φ → K (.returned (.tuple #[])) w') :
    Calls Tryz.prog F.slices_SortStableFunc_api_Delta_api_Delta #[.slice p es.length cap, .func (.func f) #[] cp] w K := by
  refine (Bslices_SortStableFunc_api_Delta_api_Delta_run p es.length cap f cp (J := fun u w' => K (.returned u) w') cx ?_).mono fun e w' ⟨v, he, hj⟩ => by rw [he]; exact hj
  exact fun w G cx => stable_use (S := S ++ G) hf es hP cx hlen fun es' w hp ha cx => ⟨rfl, bufE p cap es' :: S, Φ, inferInstance, cx, fun w G cx => hK es' w hp ha cx.left⟩

end Go.Proofs.YtbkpfhhhbhaecaaGreatDoor
end

section
set_option linter.unusedVariables false
set_option linter.unusedSimpArgs false
namespace Go.Proofs.YtbkpfhhhbhaecaaGreatDoor
open Go.Vc


set_option maxHeartbeats 1000000 in
set_option maxRecDepth 100000 in
theorem bytealg_CompareString (a b : ByteArray) (w : World) :
    Calls Tryz.prog 142 #[.string a, .string b] w fun e w' => e = .returned (.int .i64 (Lib.compareBytes a.data.toList b.data.toList)) ∧ w' = w := by
  go_enter Tryz.func142, Tryz.ntmps142
  go_wp2
  rw [run_callFunc_extern Tryz.func152 (by kernel_rfl) (by kernel_rfl) (by kernel_rfl) (e := Extern.BytealgCompare.compare) (by kernel_rfl), Lib.run_compareString]
  simp only [Result.andThen]
  rw [Oper.upon_value]
  go_wp2
  go_ret
  exact ⟨rfl, rfl⟩

set_option maxHeartbeats 1000000 in
theorem strings_Compare (a b : ByteArray) (w : World) :
    Calls Tryz.prog 123 #[.string a, .string b] w fun e w' => e = .returned (.int .i64 (Lib.compareBytes a.data.toList b.data.toList)) ∧ w' = w := by
  go_enter Tryz.func123, Tryz.ntmps123
  go_wp2_with (go_at_call 142; refine (bytealg_CompareString _ _ _).mono ?_; rintro e w' ⟨rfl, rfl⟩)
  go_ret
  exact ⟨rfl, rfl⟩

theorem sl_val {M : List Nat} {w : World} {b o : Nat} {l : List ValD} (h : Sl M w (some ⟨b, o, none⟩) l) {i : Nat} (hi : i < l.length) : RowAt w b (o + i * 3) [.int .i64 l[i].kind, .int .i64 l[i].num, .string l[i].text] := by
  obtain ⟨b', o', cs, e, _, h3, _, _, rfl, ⟨rfl, _⟩, _, _, rfl, ⟨rfl, _⟩, rfl, _⟩ := h i hi
  cases e
  exact h3

theorem sl_int {M : List Nat} {w : World} {b o : Nat} {l : List Int} (h : Sl M w (some ⟨b, o, none⟩) l) {i : Nat} (hi : i < l.length) : w.cell? ⟨b, o + i, none⟩ = some (.int .i64 l[i]) := by
  obtain ⟨b', o', cs, e, _, h3, rfl, _⟩ := h i hi
  cases e
  have := h3 0 (by simp)
  simpa [show (Gv.ty Int).size = 1 from rfl] using this

theorem isNaN_g (x : Int) : Gives Tryz.prog F.cmp_isNaN_int #[.int .i64 x] (.bool false) :=
  gives_of (Bcmp_isNaN_int_run x) fun W R Φ _ => fun w F c => ⟨by simp, c.left⟩

theorem cmp_g (x y : Int) : Gives Tryz.prog F.cmp_Compare_int #[.int .i64 x, .int .i64 y] (.int .i64 (cmpI x y)) := by
  refine gives_of (Bcmp_Compare_int_run x y) fun W R Φ _ => ?_
  refine fun w F c => (isNaN_g _).use c fun w c => ⟨_, rfl, _, _, inferInstance, c, fun w F c => (isNaN_g _).use c fun w c => ⟨_, rfl, _, _, inferInstance, c, Br.intro (fun h => by cases h) (fun _ => Br.intro (fun h => by cases h) (fun _ => Br.intro (fun h => fun w F c => ⟨?_, c.left⟩) (fun h => Br.intro (fun h2 => fun w F c => ⟨?_, c.left⟩) (fun h2 => fun w F c => ⟨?_, c.left⟩))))⟩⟩
  · unfold cmpI; rw [if_pos (by simpa using h)]
  · have h : ¬ x < y := by simpa using h
    unfold cmpI; rw [if_neg h, if_pos (by simpa using h2)]
  · have h : ¬ x < y := by simpa using h
    have h2 : ¬ y < x := by simpa using h2
    unfold cmpI; rw [if_neg h, if_neg h2]

theorem orI_drop (l : List Int) (i : Nat) (hi : i < l.length) : orI (l.drop i) = if l[i] ≠ 0 then l[i] else orI (l.drop (i + 1)) := by
  rw [List.drop_eq_getElem_cons hi]; rfl

theorem or_in {Φ : PW} [Stable Φ] (p : Option Addr) (cap : Nat) (l : List Int) (hΦ : ∀ M w, Φ M w → Sl M w p l) (hlen : l.length ≤ 1000000) :
    GivesIn Φ Tryz.prog F.cmp_Or_int #[.slice p l.length cap] (.int .i64 (orI l)) := by
  refine .there (fun M w h => (hΦ M w h).there) fun hth => ?_
  refine gives_in (Bcmp_Or_int_run p l.length cap) fun W R => ?_
  refine exI_mk (fun n R' Φ' k => ∃ i : Nat, n = i ∧ i ≤ l.length ∧ R' = R ∧ Φ' = Φ ∧ k = l.length - i ∧ orI l = orI (l.drop i)) ⟨⟨R, Φ, _, inferInstance, fun w F c => c, 0, rfl, Nat.zero_le _, rfl, rfl, rfl, rfl⟩, ?_⟩
  rintro n R1 Φ1 k _ ⟨i, rfl, hi, rfl, rfl, rfl, hor⟩
  refine Br.intro (fun hlt => ?_) (fun hge => fun w F cx => ⟨?_, cx.left⟩)
  · have hlt : i < l.length := by simpa using hlt
    obtain ⟨b, o, rfl⟩ := hth (by omega)
    rw [orI_drop l i hlt] at hor
    refine ⟨by omega, ptrK_intro b o rfl fun w F cx => ⟨_, sl_int (hΦ _ _ cx.phi) hlt, Br.intro (fun h => fun w F cx => ⟨?_, cx.left⟩) (fun h => ⟨by unfold I64; omega, R1, Φ1, l.length - (i + 1), inferInstance, fun w F c => c, ⟨i + 1, rfl, hlt, rfl, rfl, rfl, ?_⟩, by omega⟩)⟩⟩
    · have h : l[i] ≠ 0 := by simpa using h
      rw [hor, if_pos h]
    · have h : ¬ l[i] ≠ 0 := by simpa using h
      rw [hor, if_neg h]
  · have hge : i = l.length := Nat.le_antisymm hi (by simpa using hge)
    rw [hor, hge, List.drop_length]
    rfl

theorem I64_bd {x : Int} (h : -1 ≤ x ∧ x ≤ 1) : I64 x := by unfold I64; omega

theorem ints_elems {M : List Nat} {w : World} : ∀ (l : List Int), (∀ x ∈ l, I64 x) → Elems M w (l.map fun x => .int .i64 x) l := by
  intro l h
  refine ⟨by simp [show (Gv.ty Int).size = 1 from rfl], fun j hj => ?_⟩
  rw [show (Gv.ty Int).size = 1 from rfl, Nat.mul_one, rep_int]
  refine ⟨?_, h _ (List.getElem_mem _)⟩
  apply List.ext_getElem?
  intro i
  rcases i with _ | i
  · rw [List.getElem?_take_of_lt (by omega), List.getElem?_drop]; simp [hj]
  · simp; omega

theorem tcmp_g (x y : ByteArray) : Gives Tryz.prog F.strings_Compare #[.string x, .string y] (.int .i64 (cmpT x y)) :=
  Quiet.gives ⟨fun w => strings_Compare x y w⟩

theorem or_blk {W w : World} {S : List Own} {Φ : PW} [Stable Φ] {k : Nat} {t : TypeId} (l : List Int) (cap : Nat) (hl : ∀ x ∈ l, I64 x) (hlen : l.length ≤ 1000000) (c : Ctx W w (.blk k (l.map fun x => .int .i64 x) t :: S) Φ)
    {K : Ending → World → Prop} (hk : ∀ w', Ctx W w' S Φ → K (.returned (.int .i64 (orI l))) w') : Calls Tryz.prog F.cmp_Or_int #[.slice (some ⟨k, 0, none⟩) l.length cap] w K := by
  obtain ⟨c', hs⟩ := c.freezeBlk (ints_elems l hl)
  exact (or_in (Φ := fun M w => Φ M w ∧ Sl M w (some ⟨k, 0, none⟩) l) (some ⟨k, 0, none⟩) cap l (fun _ _ h => h.2) hlen).use (c'.add hs) fun w' c => hk w' c.fst

theorem cmpV_g (x y : ValD) : Gives Tryz.prog F.value_Compare #[x.v, y.v] (.int .i64 (cmpV x y)) := by
  refine gives_of (Bvalue_Compare_run x.kind x.num x.text y.kind y.num y.text) fun W R Φ _ => ?_
  refine fun _ _ => ⟨R, Φ, inferInstance, fun _ _ c => c, fun w F c => (cmp_g _ _).use c fun w c => ⟨_, rfl, R, Φ, inferInstance, c, fun _ _ c => c, fun w F c => (cmp_g _ _).use c fun w c => ⟨_, rfl, R, Φ, inferInstance, c, fun _ _ c => c, fun w F c => (tcmp_g _ _).use c fun w c => ⟨_, rfl, R, Φ, inferInstance, c, fun k w F c => ?_⟩⟩⟩⟩
  refine or_blk (cmpL x y) 3 (fun u hu => ?_) (by simp) c fun w c => ⟨_, rfl, R, Φ, inferInstance, c, fun w F c => ⟨rfl, c.left⟩⟩
  simp only [cmpL, List.mem_cons, List.not_mem_nil, or_false] at hu
  rcases hu with rfl | rfl | rfl
  · exact I64_bd (cmpI_cmp.bd _ _)
  · exact I64_bd (cmpI_cmp.bd _ _)
  · exact I64_bd (cmpT_cmp.bd _ _)

theorem CompareRows_in {Φ : PW} [Stable Φ] (p q : Option Addr) (cap cap2 : Nat) (l r : List ValD) (hΦ : ∀ M w, Φ M w → Sl M w p l) (hΨ : ∀ M w, Φ M w → Sl M w q r) (hlen : l.length ≤ 9223372036854775807) :
    GivesIn Φ Tryz.prog F.value_CompareRows #[.slice p l.length cap, .slice q r.length cap2] (.int .i64 (cmpR l r)) := by
  refine .there (fun M w h => (hΦ M w h).there) fun hth => .there (fun M w h => (hΨ M w h).there) fun hth2 => ?_
  refine gives_in (Bvalue_CompareRows_run p l.length cap q r.length cap2) fun W R => fun w0 F0 c0 => ?_
  refine GivesIn.use ?_ c0 fun w c => ⟨_, rfl, R, Φ, inferInstance, c, fun w F c => ⟨rfl, c.left⟩⟩
  refine gives_in (Bslices_CompareFunc_api_Value__api_Value_api_Value_api_Value_run p l.length cap q r.length cap2 111 #[]) fun W R => ?_
  refine exI_mk (fun n R' Φ' k => ∃ i : Nat, n = i ∧ i ≤ l.length ∧ i ≤ r.length ∧ R' = R ∧ Φ' = Φ ∧ k = l.length - i ∧ cmpR l r = cmpR (l.drop i) (r.drop i)) ⟨⟨R, Φ, _, inferInstance, fun w F c => c, 0, rfl, Nat.zero_le _, Nat.zero_le _, rfl, rfl, rfl, rfl⟩, ?_⟩
  rintro n R1 Φ1 k _ ⟨i, rfl, hi, hr, rfl, rfl, rfl, hcm⟩
  refine Br.intro (fun hlt => ?_) (fun hge => ?_)
  · have hlt : i < l.length := by simpa using hlt
    obtain ⟨b, o, rfl⟩ := hth (by omega)
    refine ⟨by omega, ptrK_intro b o rfl fun w F cx => ⟨_, _, _, sl_val (hΦ _ _ cx.phi) hlt, fun _ => Br.intro (fun h => fun w F cx => ⟨?_, cx.left⟩) (fun h => ?_)⟩⟩
    · have h : r.length ≤ i := by simpa using h
      rw [hcm, cmpR_left hlt h]
    · have h : i < r.length := by simpa using h
      obtain ⟨b2, o2, rfl⟩ := hth2 (by omega)
      rw [cmpR_both hlt h] at hcm
      refine ⟨by omega, ptrK_intro b2 o2 rfl fun w F cx => ⟨_, _, _, sl_val (hΨ _ _ cx.phi) h, fun _ w F cx => ⟨by kernel_rfl, (cmpV_g l[i] r[i]).use cx fun w cx => ⟨_, rfl, R1, Φ1, inferInstance, cx, Br.intro (fun hn => fun w F cx => ⟨?_, cx.left⟩) (fun hn => ⟨by unfold I64; omega, R1, Φ1, l.length - (i + 1), inferInstance, fun w F c => c, ⟨i + 1, rfl, hlt, h, rfl, rfl, rfl, ?_⟩, by omega⟩)⟩⟩⟩⟩
      · have hn : cmpV l[i] r[i] ≠ 0 := by simpa using hn
        rw [hcm, if_pos hn]
      · have hn : ¬ cmpV l[i] r[i] ≠ 0 := by simpa using hn
        rw [hcm, if_neg hn]
  · have hge : i = l.length := Nat.le_antisymm hi (by simpa using hge)
    subst hge
    refine Br.intro (fun h => fun w F cx => ⟨?_, cx.left⟩) (fun h => fun w F cx => ⟨?_, cx.left⟩)
    · have h : l.length < r.length := by simpa using h
      rw [hcm, List.drop_length, List.drop_eq_getElem_cons h]; rfl
    · have h : ¬ l.length < r.length := by simpa using h
      rw [hcm, List.drop_length, List.drop_of_length_le (by omega)]; rfl

theorem compareD_in {Φ : PW} [Stable Φ] (x y : DeltaD) (p q : Option Addr) (cap cap2 : Nat) (hΦ : ∀ M w, Φ M w → Sl M w p x.row) (hΨ : ∀ M w, Φ M w → Sl M w q y.row) (hlen : x.row.length ≤ 9223372036854775807) :
    GivesIn Φ Tryz.prog F.delta_compare #[x.v p cap, y.v q cap2] (.int .i64 (cmpD x y)) := by
  refine gives_in (Bdelta_compare_run x.time p x.row.length cap x.n y.time q y.row.length cap2 y.n) fun W R => ?_
  refine fun _ _ => ⟨R, Φ, inferInstance, fun _ _ c => c, fun w F c => (cmp_g _ _).use c fun w c => ⟨_, rfl, R, Φ, inferInstance, c, fun _ _ c => c, fun w F c => (CompareRows_in p q cap cap2 x.row y.row hΦ hΨ hlen).use c fun w c => ⟨_, rfl, R, Φ, inferInstance, c, fun k w F c => ?_⟩⟩⟩
  refine or_blk (cmpDL x y) 2 (fun u hu => ?_) (by simp) c fun w c => ⟨_, rfl, R, Φ, inferInstance, c, fun w F c => ⟨rfl, c.left⟩⟩
  simp only [cmpDL, List.mem_cons, List.not_mem_nil, or_false] at hu
  rcases hu with rfl | rfl
  · exact I64_bd (cmpI_cmp.bd _ _)
  · exact I64_bd (cmpR_cmp.bd _ _)

end Go.Proofs.YtbkpfhhhbhaecaaGreatDoor
end

section
set_option linter.unusedVariables false
set_option linter.unusedSimpArgs false
namespace Go.Vc
theorem GivesIn.know {Φ : PW} {P : Program} {f : FuncId} {args : Array Value} {v : Value} {p : Prop} (hΦ : ∀ M w, Φ M w → p) (h : p → GivesIn Φ P f args v) : GivesIn Φ P f args v :=
  ⟨fun W w S c => (h (hΦ _ _ c.phi)).go W w S c⟩
theorem GivesSl.know {Φ : PW} {P : Program} {f : FuncId} {args : Array Value} {α : Type} [Gv α] {l : List α} {mk : Value → Value} {p : Prop} (hΦ : ∀ M w, Φ M w → p) (h : p → GivesSl Φ P f args l mk) : GivesSl Φ P f args l mk :=
  ⟨fun W w S c => (h (hΦ _ _ c.phi)).go W w S c⟩
theorem GivesNew.know {Φ : PW} {P : Program} {f : FuncId} {args : Array Value} {α : Type} [Gv α] {l : List α} {t : TypeId} {p : Prop} (hΦ : ∀ M w, Φ M w → p) (h : p → GivesNew Φ P f args l t) : GivesNew Φ P f args l t :=
  ⟨fun W w S c => (h (hΦ _ _ c.phi)).go W w S c⟩
end Go.Vc
namespace Go.Proofs.YtbkpfhhhbhaecaaGreatDoor
open Go.Vc

def numB (n : Int) : ByteArray := ⟨(Lib.itoa n).toArray⟩
def intB (n : Int) : ByteArray := numB n ++ ByteArray.mk #[59]
def natB (n : Int) : ByteArray := if n < 0 then ByteArray.mk #[] else intB n
def textB (s : ByteArray) : ByteArray := numB s.size ++ ByteArray.mk #[58] ++ s ++ ByteArray.mk #[44]
def valB (v : ValD) : ByteArray := intB v.kind ++ intB v.num ++ textB v.text
def valsL (r : List ValD) : List UInt8 := r.flatMap fun v => (valB v).data.toList
def rowL (r : List ValD) : List UInt8 := (natB r.length).data.toList ++ valsL r
def rowB (r : List ValD) : ByteArray := ⟨(rowL r).toArray⟩

theorem size_app (a b : ByteArray) : (a ++ b).size = a.size + b.size := ByteArray.size_append
theorem size_list (l : List UInt8) : (ByteArray.mk l.toArray).size = l.length := by simp [ByteArray.size]
theorem list_size (a : ByteArray) : a.data.toList.length = a.size := by rw [Array.length_toList]; rfl

theorem nDigits_le : ∀ (k u : Nat), u < 10 ^ k → 0 < k → Lib.nDigits u ≤ k
  | 0, u, _, h => by omega
  | k + 1, u, h, _ => by
    by_cases h1 : u < 10
    · rw [Lib.nDigits_small h1]; omega
    · rw [Lib.nDigits_big h1]
      have hk : 0 < k := by
        rcases Nat.eq_zero_or_pos k with rfl | h2
        · simp at h; omega
        · exact h2
      have := nDigits_le k (u / 10) (by rw [Nat.pow_succ] at h; omega) hk
      omega

theorem itoa_len {n : Int} (h : I64 n) : 1 ≤ (Lib.itoa n).length ∧ (Lib.itoa n).length ≤ 20 := by
  unfold I64 at h
  unfold Lib.itoa
  split
  · have h1 := nDigits_le 19 n.natAbs (by omega) (by decide)
    have h2 := Lib.nDigits_pos n.natAbs
    rw [List.length_cons, Lib.decDigits_length]; omega
  · have h1 := nDigits_le 19 n.toNat (by omega) (by decide)
    have h2 := Lib.nDigits_pos n.toNat
    rw [Lib.decDigits_length]; omega

theorem numB_size {n : Int} (h : I64 n) : 1 ≤ (numB n).size ∧ (numB n).size ≤ 20 := by
  unfold numB; rw [size_list]; exact itoa_len h
theorem intB_size {n : Int} (h : I64 n) : 2 ≤ (intB n).size ∧ (intB n).size ≤ 21 := by
  have := numB_size h
  have e : (ByteArray.mk #[59]).size = 1 := rfl
  unfold intB; rw [size_app, e]; omega
theorem natB_size {n : Int} (h : I64 n) : (natB n).size ≤ 21 := by
  unfold natB
  split
  · exact Nat.zero_le _
  · exact (intB_size h).2
theorem textB_size {s : ByteArray} (h : s.size ≤ 9223372036854775807) : (textB s).size ≤ s.size + 22 ∧ s.size + 3 ≤ (textB s).size := by
  have := numB_size (n := s.size) (by unfold I64; omega)
  have e : (ByteArray.mk #[58]).size = 1 := rfl
  have e2 : (ByteArray.mk #[44]).size = 1 := rfl
  unfold textB; rw [size_app, size_app, size_app, e, e2]; omega
theorem valB_size {v : ValD} (h1 : I64 v.kind) (h2 : I64 v.num) (h : v.text.size ≤ 9223372036854775807) : (valB v).size ≤ v.text.size + 64 := by
  have a := intB_size h1
  have b := intB_size h2
  have c := textB_size h
  unfold valB; rw [size_app, size_app]; omega

theorem valsL_app (a b : List ValD) : valsL (a ++ b) = valsL a ++ valsL b := by simp [valsL]
theorem valsL_one (v : ValD) : valsL [v] = (valB v).data.toList := by simp [valsL]
theorem valsL_len {m : Nat} : ∀ {r : List ValD}, (∀ v ∈ r, (I64 v.kind ∧ I64 v.num) ∧ v.text.size ≤ m) → m ≤ 9223372036854775807 → (valsL r).length ≤ r.length * (m + 64)
  | [], _, _ => by simp [valsL]
  | v :: r, h, hm => by
    have h1 := valsL_len (r := r) (fun u hu => h u (List.mem_cons_of_mem _ hu)) hm
    obtain ⟨⟨a, b⟩, c⟩ := h v List.mem_cons_self
    have h2 := valB_size a b (by omega)
    have e : valsL (v :: r) = (valB v).data.toList ++ valsL r := by simp [valsL]
    rw [e, List.length_append, list_size, List.length_cons, Nat.add_mul]
    omega
theorem rowL_len {m : Nat} {r : List ValD} (h : ∀ v ∈ r, (I64 v.kind ∧ I64 v.num) ∧ v.text.size ≤ m) (hm : m ≤ 9223372036854775807) (hr : r.length ≤ 1000000) : (rowL r).length ≤ 21 + r.length * (m + 64) := by
  have h1 := valsL_len h hm
  have h2 := natB_size (n := (r.length : Int)) (by unfold I64; omega)
  unfold rowL; rw [List.length_append, list_size]; omega

theorem rep_val {M : List Nat} {w : World} {cs : List Value} {v : ValD} (h : Gv.rep M w cs v) : cs = [.int .i64 v.kind, .int .i64 v.num, .string v.text] ∧ I64 v.kind ∧ I64 v.num ∧ v.text.size ≤ maxLen := by
  obtain ⟨_, _, rfl, ⟨rfl, h1⟩, _, _, rfl, ⟨rfl, h2⟩, rfl, h3⟩ := h
  exact ⟨rfl, h1, h2, h3⟩

theorem sl_i64 {M : List Nat} {w : World} {p : Option Addr} {l : List ValD} (h : Sl M w p l) : ∀ v ∈ l, (I64 v.kind ∧ I64 v.num) ∧ v.text.size ≤ maxLen := by
  intro v hv
  obtain ⟨i, hi, rfl⟩ := List.getElem_of_mem hv
  obtain ⟨_, _, _, _, _, _, hr⟩ := h i hi
  obtain ⟨_, h1, h2, h3⟩ := rep_val hr
  exact ⟨⟨h1, h2⟩, h3⟩

abbrev tabN : String := ((Rows.ledgerTellsRow.laid.map Prod.fst).drop 2).headD default
abbrev TabI : PW := Tab Tryz.prog tabN .u64 Lib.pow10Tab

theorem Itoa_in {Φ : PW} [Stable Φ] (hΦ : ∀ M w, Φ M w → TabI M w) (n : Int) (h : I64 n) : GivesIn Φ Tryz.prog F.strconv_Itoa #[.int .i64 n] (.string (numB n)) :=
  itoa_in (name := tabN) (fun n h0 h1 w ht => Any.strconv_Itoa Tryz.laysM171 n h0 h1 w ht) hΦ n h

theorem Itoa_small (i : Nat) (hi : i < 100) : Gives Tryz.prog F.strconv_Itoa #[.int .i64 i] (.string (numB i)) :=
  Quiet.gives ⟨fun w => by
    have h := Any.strconv_Itoa_small { Tryz.lays171 with } i hi w
    rw [← Lib.itoa_nonneg] at h
    exact h⟩

def Dec (Φ : PW) (n : Int) : Prop := (∀ M w, Φ M w → TabI M w) ∧ I64 n ∨ ∃ i : Nat, i < 100 ∧ n = i

theorem Itoa_dec {Φ : PW} [Stable Φ] {n : Int} (h : Dec Φ n) : GivesIn Φ Tryz.prog F.strconv_Itoa #[.int .i64 n] (.string (numB n)) := by
  rcases h with ⟨h1, h2⟩ | ⟨i, hi, rfl⟩
  · exact Itoa_in h1 n h2
  · exact (Itoa_small i hi).in
theorem Dec.i64 {Φ : PW} {n : Int} (h : Dec Φ n) : I64 n := by
  rcases h with ⟨_, h2⟩ | ⟨i, hi, rfl⟩
  · exact h2
  · unfold I64; omega

theorem Int_in {Φ : PW} [Stable Φ] {n : Int} (h : Dec Φ n) : GivesIn Φ Tryz.prog F.wire_Int #[.int .i64 n] (.string (intB n)) := by
  refine gives_in (Bwire_Int_run n) fun W R => ?_
  have := numB_size h.i64
  exact fun w G cx => (Itoa_dec h).use cx fun w cx => ⟨_, rfl, R, Φ, inferInstance, cx, by show (numB n).size + 1 ≤ _; omega, fun w G cx => ⟨rfl, cx.left⟩⟩

theorem Num_in {Φ : PW} [Stable Φ] {n : Int} (h : Dec Φ n) : GivesIn Φ Tryz.prog F.wire_Num #[.int .i64 n] (.string (natB n)) := by
  refine gives_in (Bwire_Num_run n) fun W R => Br.intro (fun hn => fun w G cx => ⟨?_, cx.left⟩) (fun hn => fun w G cx => (Int_in h).use cx fun w cx => ⟨_, rfl, R, Φ, inferInstance, cx, fun w G cx => ⟨?_, cx.left⟩⟩)
  · unfold natB; rw [if_pos (of_decide_eq_true hn)]
  · unfold natB; rw [if_neg (of_decide_eq_false hn)]

theorem Text_in {Φ : PW} [Stable Φ] {s : ByteArray} (h : Dec Φ s.size) (hs : s.size ≤ 1000000000000) : GivesIn Φ Tryz.prog F.wire_Text #[.string s] (.string (textB s)) := by
  refine gives_in (Bwire_Text_run s) fun W R => ?_
  have h1 := numB_size h.i64
  have e : (ByteArray.mk #[58]).size = 1 := rfl
  have e2 : (ByteArray.mk #[44]).size = 1 := rfl
  exact fun w G cx => (Itoa_dec h).use cx fun w cx => ⟨_, rfl, R, Φ, inferInstance, cx, by show (numB s.size).size + 1 ≤ _; omega, by show (numB s.size ++ ByteArray.mk #[58]).size + s.size ≤ _; rw [size_app, e]; omega, by show (numB s.size ++ ByteArray.mk #[58] ++ s).size + 1 ≤ _; rw [size_app, size_app, e]; omega, fun w G cx => ⟨rfl, cx.left⟩⟩

theorem Bytes_in {Φ : PW} [Stable Φ] (v : ValD) (hΦ : ∀ M w, Φ M w → TabI M w) (h1 : I64 v.kind) (h2 : I64 v.num) (hs : v.text.size ≤ 1000000000000) : GivesIn Φ Tryz.prog F.value_Bytes #[v.v] (.string (valB v)) := by
  refine gives_in (Bvalue_Bytes_run v.kind v.num v.text) fun W R => ?_
  have a := intB_size h1
  have b := intB_size h2
  have c := textB_size (s := v.text) (by omega)
  exact fun _ => ⟨R, Φ, inferInstance, fun w G cx => cx, fun w G cx => (Int_in (.inl ⟨hΦ, h1⟩)).use cx fun w cx => ⟨_, rfl, R, Φ, inferInstance, cx, fun w G cx => cx, fun w G cx => (Int_in (.inl ⟨hΦ, h2⟩)).use cx fun w cx => ⟨_, rfl, R, Φ, inferInstance, cx, fun w G cx => cx, by show (intB v.kind).size + (intB v.num).size ≤ _; omega,
    fun w G cx => (Text_in (.inl ⟨hΦ, by unfold I64; omega⟩) hs).use cx fun w cx => ⟨_, rfl, R, Φ, inferInstance, cx, fun w G cx => cx, by show (intB v.kind ++ intB v.num).size + (textB v.text).size ≤ _; rw [size_app]; omega, fun w G cx => ⟨rfl, cx.left⟩⟩⟩⟩⟩

theorem RowBytes_in {Φ : PW} [Stable Φ] (p : Option Addr) (cap : Nat) (r : List ValD) (hT : ∀ M w, Φ M w → TabI M w) (hΦ : ∀ M w, Φ M w → Sl M w p r) (hr : r.length ≤ 1000000) (ht : ∀ v ∈ r, v.text.size ≤ 10000) :
    GivesIn Φ Tryz.prog F.value_RowBytes #[.slice p r.length cap] (.string (rowB r)) := by
  refine .there (fun M w h => (hΦ M w h).there) fun hth => .know (fun M w h => sl_i64 (hΦ M w h)) fun hi => ?_
  have hv : ∀ v ∈ r, (I64 v.kind ∧ I64 v.num) ∧ v.text.size ≤ 10000 := fun v h => ⟨(hi v h).1, ht v h⟩
  have hL := rowL_len hv (by decide) hr
  have hL : (rowL r).length ≤ 20000000000 := by
    have : r.length * (10000 + 64) ≤ 1000000 * 10064 := Nat.mul_le_mul hr (Nat.le_refl _)
    omega
  have hnat : (natB r.length).data.toList.length ≤ 20000000000 := by unfold rowL at hL; rw [List.length_append] at hL; omega
  refine gives_in (Bvalue_RowBytes_run p r.length cap) fun W R => ?_
  refine fun b w G cx => (Num_in (Φ := Φ) (.inl ⟨hT, by unfold I64; omega⟩)).use cx fun w cx => ⟨_, rfl, .blk b [.pointer none, .slice none 0 0] 93 :: R, Φ, inferInstance, cx, fun w G cx => ?_⟩
  refine WriteString_use (natB r.length) Bd.nil (Bd.fresh cx) (by rw [← list_size]; simp only [List.length_nil]; omega) fun R1 w hB cx => ⟨_, _, rfl, R1 ++ R, Φ, inferInstance, by rw [List.append_assoc]; exact cx, ?_⟩
  rw [List.nil_append] at hB
  clear cx
  refine exI_mk (fun iI R' Φ' k => ∃ (i : Nat) (Q : List Own), iI = i ∧ i ≤ r.length ∧ BdT b ((natB r.length).data.toList ++ valsL (r.take i)) Q ∧ R' = Q ++ R ∧ Φ' = Φ ∧ k = r.length - i) ⟨⟨_, Φ, _, inferInstance, fun w G cx => cx, 0, R1, rfl, Nat.zero_le _, by rw [List.take_zero, show valsL [] = [] from rfl, List.append_nil]; exact hB, rfl, rfl, rfl⟩, ?_⟩
  rintro iI R2 Φ2 k _ ⟨i, Q, rfl, hi, hQ, rfl, rfl, rfl⟩
  refine Br.intro (fun hlt => ?_) (fun hge => fun w G cx => ?_)
  · have hlt : i < r.length := by have := of_decide_eq_true hlt; omega
    obtain ⟨g, o, rfl⟩ := hth (by omega)
    obtain ⟨⟨h1, h2⟩, h3⟩ := hv r[i] (List.getElem_mem hlt)
    have hsz := valB_size h1 h2 (by omega)
    have hlen : ((natB r.length).data.toList ++ valsL (r.take (i + 1))).length ≤ 20000000000 := by
      have e : valsL r = valsL (r.take (i + 1)) ++ valsL (r.drop (i + 1)) := by rw [← valsL_app, List.take_append_drop]
      unfold rowL at hL
      rw [e, List.length_append, List.length_append] at hL
      rw [List.length_append]; omega
    have hstep : valsL (r.take (i + 1)) = valsL (r.take i) ++ (valB r[i]).data.toList := by rw [List.take_succ_eq_append_getElem hlt, valsL_app, valsL_one]
    refine ⟨by omega, ptrK_intro g o rfl fun w G cx => ⟨r[i].kind, r[i].num, r[i].text, by rw [Int.toNat_natCast]; exact sl_val (hΦ _ _ cx.phi) hlt, fun _ w G cx => (Bytes_in (Φ := Φ2) r[i] hT h1 h2 (by omega)).use cx fun w cx => ⟨_, rfl, Q ++ R, Φ2, inferInstance, cx, fun w G cx => ?_⟩⟩⟩
    refine WriteString_use (valB r[i]) hQ (cx.re (List.append_assoc _ _ _)) (by rw [hstep, ← List.append_assoc, List.length_append, list_size] at hlen; omega) fun Q' w hQ' cx => ⟨_, _, rfl, Q' ++ R, Φ2, inferInstance, by rw [List.append_assoc]; exact cx, by unfold I64; omega, _, Φ2, r.length - (i + 1), inferInstance, fun w G cx => cx, ⟨i + 1, Q', by omega, hlt, ?_, rfl, rfl, rfl⟩, by omega⟩
    rw [hstep, ← List.append_assoc]; exact hQ'
  · have hge : i = r.length := by have := of_decide_eq_false hge; omega
    subst hge
    rw [List.take_length] at hQ
    exact String_use hQ (cx.re (List.append_assoc _ _ _)) fun w cx => ⟨_, rfl, R, Φ2, inferInstance, cx, fun w G cx => ⟨rfl, cx.left⟩⟩

end Go.Proofs.YtbkpfhhhbhaecaaGreatDoor
end

section
set_option linter.unusedVariables false
set_option linter.unusedSimpArgs false
namespace Go.Vc

section
variable {P : Program} {W w : World} {R G : List Own} {Φ Ψ : PW} {f : FuncId} {args : Array Value}

class Has (Φ Ψ : PW) : Prop where
  go : ∀ M w, Φ M w → Ψ M w
instance (priority := 2000) hasRefl (Φ : PW) : Has Φ Φ := ⟨fun _ _ h => h⟩
instance (priority := 900) hasL (A B Ψ : PW) [h : Has A Ψ] : Has (fun M w => A M w ∧ B M w) Ψ := ⟨fun M w x => h.go M w x.1⟩
instance (priority := 1000) hasR (A B Ψ : PW) [h : Has B Ψ] : Has (fun M w => A M w ∧ B M w) Ψ := ⟨fun M w x => h.go M w x.2⟩
instance hasTrue (Φ : PW) : Has Φ (fun _ _ => True) := ⟨fun _ _ _ => trivial⟩
instance (priority := 800) hasAnd (Φ A B : PW) [h : Has Φ A] [k : Has Φ B] : Has Φ (fun M w => A M w ∧ B M w) := ⟨fun M w x => ⟨h.go M w x, k.go M w x⟩⟩

theorem Ctx.has (c : Ctx W w R Φ) [h : Has Φ Ψ] : Ctx W w R Ψ := c.weak h.go

theorem GivesSl.to [Stable Φ] {α : Type} [Gv α] {l : List α} (h : GivesSl Φ P f args l id) (c : Ctx W w (R ++ G) Φ) {K : Option Addr → Nat → Nat → List Own → PW → Prop}
    (hk : ∀ p cap, l.length ≤ cap → cap ≤ maxLen → Stable (fun M w => Φ M w ∧ Sl M w p l) → K p l.length cap R (fun M w => Φ M w ∧ Sl M w p l)) :
    Calls P f args w fun e w' => ∃ p n c, e = .returned (.slice p n c) ∧ ∃ R' Φ', Stable Φ' ∧ Ctx W w' (R' ++ G) Φ' ∧ K p n c R' Φ' :=
  h.use c fun p cap w' h1 h2 c => ⟨p, _, cap, rfl, R, _, inferInstance, c, hk p cap h1 h2 inferInstance⟩

theorem GivesIn.toB [Stable Φ] {b : Bool} (h : GivesIn Φ P f args (.bool b)) (c : Ctx W w (R ++ G) Φ) {K : Bool → List Own → PW → Prop} (hk : K b R Φ) :
    Calls P f args w fun e w' => ∃ c, e = .returned (.bool c) ∧ ∃ R' Φ', Stable Φ' ∧ Ctx W w' (R' ++ G) Φ' ∧ K c R' Φ' :=
  h.use c fun w' c => ⟨b, rfl, R, Φ, inferInstance, c, hk⟩
theorem GivesIn.toI [Stable Φ] {n : Int} {k : IntKind} (h : GivesIn Φ P f args (.int k n)) (c : Ctx W w (R ++ G) Φ) {K : Int → List Own → PW → Prop} (hk : K n R Φ) :
    Calls P f args w fun e w' => ∃ c, e = .returned (.int k c) ∧ ∃ R' Φ', Stable Φ' ∧ Ctx W w' (R' ++ G) Φ' ∧ K c R' Φ' :=
  h.use c fun w' c => ⟨n, rfl, R, Φ, inferInstance, c, hk⟩
theorem GivesIn.toS [Stable Φ] {s : ByteArray} (h : GivesIn Φ P f args (.string s)) (c : Ctx W w (R ++ G) Φ) {K : ByteArray → List Own → PW → Prop} (hk : K s R Φ) :
    Calls P f args w fun e w' => ∃ c, e = .returned (.string c) ∧ ∃ R' Φ', Stable Φ' ∧ Ctx W w' (R' ++ G) Φ' ∧ K c R' Φ' :=
  h.use c fun w' c => ⟨s, rfl, R, Φ, inferInstance, c, hk⟩

theorem GivesSl.tot [Stable Φ] {α : Type} [Gv α] {l : List α} (h : GivesSl Φ P f args l id) (c : Ctx W w (R ++ G) Φ) {K : Option Addr → Nat → Nat → List Own → PW → Prop}
    (hk : ∀ p cap, l.length ≤ cap → cap ≤ maxLen → There p l.length → Stable (fun M w => Φ M w ∧ Sl M w p l) → K p l.length cap R (fun M w => Φ M w ∧ Sl M w p l)) :
    Calls P f args w fun e w' => ∃ p n c, e = .returned (.slice p n c) ∧ ∃ R' Φ', Stable Φ' ∧ Ctx W w' (R' ++ G) Φ' ∧ K p n c R' Φ' :=
  h.use c fun p cap w' h1 h2 c => ⟨p, _, cap, rfl, R, _, inferInstance, c, hk p cap h1 h2 c.phi.2.there inferInstance⟩
theorem fin [Stable Φ] [Stable Ψ] [hw : Has Ψ Φ] {v : Value} (c : Ctx W w (R ++ G) Ψ) : v = v ∧ Ctx W w R Φ := ⟨rfl, (Ctx.has c).left⟩

end
end Go.Vc
end

section
set_option linter.unusedVariables false
set_option linter.unusedSimpArgs false
namespace Go.Vc
def BytesAt (b : Nat) (l : List UInt8) : PW := fun M w => ∀ j, (hj : j < l.length) → b ∉ M ∧ w.cell? ⟨b, j, none⟩ = some (.int .u8 (l[j].toNat : Int))
instance instStableBytesAt (b : Nat) (l : List UInt8) : Stable (BytesAt b l) := ⟨fun {M M' w w'} hs h j hj => by
  obtain ⟨h1, h2⟩ := h j hj
  have hlt : b < w.heap.size := by
    rcases Nat.lt_or_ge b w.heap.size with h' | h'
    · exact h'
    · simp [World.cell?, Array.getElem?_eq_none h'] at h2
  refine ⟨fun hm => ?_, hs.chg.cell h2 h1⟩
  rcases hs.sub b hm with h | h
  · exact h1 h
  · omega⟩
theorem chg_bytes {w : World} {e : TypeId} {s : ByteArray} : Chg [] w (Lib.bytesWorld w e s) :=
  have h := Lib.bytesWorld_below w e s
  ⟨h.os, h.tape, h.output, h.size, fun k hk _ => h.block k hk⟩
theorem Ctx.bytes {W w : World} {S : List Own} {Φ : PW} [Stable Φ] (c : Ctx W w S Φ) (e : TypeId) (s : ByteArray) : Ctx W (Lib.bytesWorld w e s) S (fun M w' => Φ M w' ∧ BytesAt w.heap.size s.data.toList M w') := by
  refine (c.call chg_bytes).add fun j hj => ⟨fun hm => absurd (c.lt hm) (Nat.lt_irrefl _), ?_⟩
  have hj2 : j < s.size := by
    rw [Array.length_toList] at hj
    exact hj
  rw [Lib.bytesWorld_cell w e s j hj2, show s.data.toList.getD j 0 = s.data.toList[j] by rw [List.getD, List.getElem?_eq_getElem hj]; rfl]
end Go.Vc
namespace Go.Proofs.YtbkpfhhhbhaecaaGreatDoor
open Go.Vc


section
variable {Φ : PW} {p : Option Addr} {cap : Nat} {r : List ValD} {l : List DeltaD}

end
end Go.Proofs.YtbkpfhhhbhaecaaGreatDoor
end

section
set_option linter.unusedVariables false
set_option linter.unusedSimpArgs false
namespace Go.Proofs.YtbkpfhhhbhaecaaGreatDoor
open Go.Vc


theorem pin_delta {M : List Nat} {w : World} {b o : Nat} {cs : List (List Value)} {l : List DeltaD} (h : Pin b o cs l M w) {j : Nat} (hj : j < l.length) : ∃ p c, cs.getD j [] = l[j].cells p c ∧ l[j].row.length ≤ c ∧ c ≤ maxLen ∧ I64 l[j].time ∧ I64 l[j].n ∧ RowAt w b (o + j * 3) (l[j].cells p c) := by
  obtain ⟨_, h1, h2⟩ := h j hj
  obtain ⟨p, c, e, g1, g2, g3, g4, _⟩ := delta_cells h2
  exact ⟨p, c, e, g1, g2, g3, g4, by rw [e] at h1; exact h1⟩

theorem pin_row {M : List Nat} {w : World} {b o : Nat} {cs : List (List Value)} {l : List DeltaD} (h : Pin b o cs l M w) {j : Nat} (hj : j < l.length) {p : Option Addr} {c : Nat} (e : cs.getD j [] = l[j].cells p c) : Sl M w p l[j].row := by
  have := (h j hj).2.2
  rw [e] at this
  exact delta_row this

theorem pin_rowAt {M : List Nat} {w : World} {b o : Nat} {cs : List (List Value)} {l : List DeltaD} (h : Pin b o cs l M w) {j : Nat} (hj : j < l.length) {p : Option Addr} {c : Nat} (e : cs.getD j [] = l[j].cells p c) : RowAt w b (o + j * 3) (l[j].cells p c) := by
  have := (h j hj).2.1
  rw [e] at this
  exact this

theorem in_cells {Φ : PW} {f : FuncId} {args : Array Value} {v : Value} {b o : Nat} {cs : List (List Value)} {l : List DeltaD} (hΦ : ∀ M w, Φ M w → Pin b o cs l M w)
    (h : (∀ j, (hj : j < l.length) → ∃ p c, cs.getD j [] = l[j].cells p c ∧ l[j].row.length ≤ c ∧ c ≤ maxLen ∧ I64 l[j].time ∧ I64 l[j].n) → GivesIn Φ Tryz.prog f args v) : GivesIn Φ Tryz.prog f args v :=
  ⟨fun W w S c => (h fun j hj => by obtain ⟨p, c, h1, h2, h3, h4, h5, _⟩ := pin_delta (hΦ _ _ c.phi) hj; exact ⟨p, c, h1, h2, h3, h4, h5⟩).go W w S c⟩

theorem len_max {n c : Nat} (h1 : n ≤ c) (h2 : c ≤ maxLen) : n ≤ 9223372036854775807 := Nat.le_trans h1 (Nat.le_trans h2 (by decide))

theorem val_one (M : List Nat) (w : World) (cs : List Value) (x : ValD) (h : Gv.rep M w cs x) : (cs.all fun u => oneC u) = true := by
  obtain ⟨_, _, rfl, ⟨rfl, _⟩, _, _, rfl, ⟨rfl, _⟩, rfl, _⟩ := h
  rfl

theorem CloneV_in {Φ : PW} [Stable Φ] (p : Option Addr) (cap : Nat) (l : List ValD) (hΦ : ∀ M w, Φ M w → Sl M w p l) (hlen : l.length < 100000000) :
    GivesNew Φ Tryz.prog F.slices_Clone_api_Value_api_Value #[.slice p l.length cap] l 71 := by
  refine .there (fun M w h => (hΦ M w h).there) fun hth => ?_
  refine gives_new (Bslices_Clone_api_Value_api_Value_run p l.length cap) fun W R => ?_
  refine Br.intro (fun hn => fun w F c => ?_) (fun hn => ?_)
  · have hl : l = [] := by
      cases l with
      | nil => rfl
      | cons => obtain ⟨b, o, e⟩ := hth (by simp); rw [e] at hn; cases hn
    subst hl
    exact ⟨none, 0, [], rfl, (c.left.buf0 71 3).add Elems.nil⟩
  · intro k w F c
    obtain ⟨p', cap', w', cs, hrun, c'⟩ := Ctx.cloned (P := Tryz.prog) (ts := 23) (ty := 23) (kb := #[false, false]) (bytes := 32) (c2 := cap) c (by kernel_rfl) val_one hΦ hlen (by omega)
    exact ⟨_, _, _, _, hrun, _, _, inferInstance, c', fun w F c => ⟨p', cap', cs, rfl, c.left⟩⟩

theorem CloneD_in {Φ : PW} [Stable Φ] (p : Option Addr) (cap : Nat) (l : List DeltaD) (hΦ : ∀ M w, Φ M w → Sl M w p l) (hlen : l.length < 100000000) :
    GivesNew Φ Tryz.prog F.slices_Clone_api_Delta_api_Delta #[.slice p l.length cap] l 73 := by
  refine .there (fun M w h => (hΦ M w h).there) fun hth => ?_
  refine gives_new (Bslices_Clone_api_Delta_api_Delta_run p l.length cap) fun W R => ?_
  refine Br.intro (fun hn => fun w F c => ?_) (fun hn => ?_)
  · have hl : l = [] := by
      cases l with
      | nil => rfl
      | cons => obtain ⟨b, o, e⟩ := hth (by simp); rw [e] at hn; cases hn
    subst hl
    exact ⟨none, 0, [], rfl, (c.left.buf0 73 3).add Elems.nil⟩
  · intro k w F c
    obtain ⟨p', cap', w', cs, hrun, c'⟩ := Ctx.cloned (P := Tryz.prog) (ts := 44) (ty := 44) (kb := #[false, false]) (bytes := 40) (c2 := cap) c (by kernel_rfl) delta_one hΦ hlen (by omega)
    exact ⟨_, _, _, _, hrun, _, _, inferInstance, c', fun w F c => ⟨p', cap', cs, rfl, c.left⟩⟩

def rightV3 (x : ValD) : Bool := if x.kind = 0 then decide (x.text = ByteArray.mk #[]) else if x.kind = 1 then decide (x.num = 0) && decide ((x.text.size : Int) ≤ 200) else decide (x.kind = 2) && (decide (x.num = 0) || decide (x.num = 1)) && decide (x.text = ByteArray.mk #[])

theorem right3_g (x : ValD) : Gives Tryz.prog F.errataref03_Right #[x.v] (.bool (rightV3 x)) := by
  refine gives_of (Berrataref03_Right_run x.kind x.num x.text) fun W R Φ _ => fun _ => Br.intro (fun h => fun w G c => ⟨?_, c.left⟩) (fun h => Br.intro (fun h2 => fun w G c w G c => ⟨?_, c.left⟩) (fun h2 => fun w G c w G c => ⟨?_, c.left⟩))
  · unfold rightV3; rw [if_pos (of_decide_eq_true h)]
  · unfold rightV3; rw [if_neg (of_decide_eq_false h), if_pos (of_decide_eq_true h2)]
  · unfold rightV3; rw [if_neg (of_decide_eq_false h), if_neg (of_decide_eq_false h2)]

theorem All3_q {Φ : PW} [Stable Φ] (q : ValD → Bool) (hq : ∀ x, Gives Tryz.prog F.errataref03_Right #[x.v] (.bool (q x))) (p : Option Addr) (cap : Nat) (l : List ValD) (hΦ : ∀ M w, Φ M w → Sl M w p l) (hlen : l.length ≤ 9223372036854775807) : GivesIn Φ Tryz.prog F.errataref03_All #[.slice p l.length cap] (.bool (l.all q)) := by
  refine .there (fun M w h => (hΦ M w h).there) fun hth => ?_
  refine gives_in (Berrataref03_All_run p l.length cap) fun W R => ?_
  refine exI_mk (fun n R' Φ' k => ∃ i : Nat, n = i ∧ i ≤ l.length ∧ R' = R ∧ Φ' = Φ ∧ k = l.length - i ∧ l.all q = (l.drop i).all q) ⟨⟨R, Φ, _, inferInstance, fun w F c => c, 0, rfl, Nat.zero_le _, rfl, rfl, rfl, rfl⟩, ?_⟩
  rintro n R1 Φ1 k _ ⟨i, rfl, hi, rfl, rfl, rfl, hs⟩
  refine Br.intro (fun hlt => ?_) (fun hge => fun w F cx => ⟨?_, cx.left⟩)
  · have hlt : i < l.length := by simpa using hlt
    obtain ⟨b, o, rfl⟩ := hth (by omega)
    rw [List.drop_eq_getElem_cons hlt, List.all_cons] at hs
    refine ⟨by omega, ptrK_intro b o rfl fun w F cx => ⟨l[i].kind, l[i].num, l[i].text, by rw [Int.toNat_natCast]; exact sl_val (hΦ _ _ cx.phi) hlt, fun w F cx => (hq l[i]).use cx fun w cx => ⟨_, rfl, R1, Φ1, inferInstance, cx, Br.intro (fun h => fun w F cx => ⟨?_, cx.left⟩) (fun h => ⟨by unfold I64; omega, R1, Φ1, l.length - (i + 1), inferInstance, fun w F c => c, ⟨i + 1, rfl, hlt, rfl, rfl, rfl, ?_⟩, by omega⟩)⟩⟩⟩
    · rw [hs, show q l[i] = false by simpa using h, Bool.false_and]
    · rw [hs, show q l[i] = true by simpa using h, Bool.true_and]
  · have hge : i = l.length := Nat.le_antisymm hi (by simpa using hge)
    rw [hs, hge, List.drop_length]
    rfl

theorem All3_in {Φ : PW} [Stable Φ] (p : Option Addr) (cap : Nat) (l : List ValD) (hΦ : ∀ M w, Φ M w → Sl M w p l) (hlen : l.length ≤ 9223372036854775807) : GivesIn Φ Tryz.prog F.errataref03_All #[.slice p l.length cap] (.bool (l.all rightV3)) := All3_q rightV3 right3_g p cap l hΦ hlen

def rightR (l : List ValD) : Bool := decide ((l.length : Int) ≤ 12) && l.all rightV3

theorem RightRow3_in {Φ : PW} [Stable Φ] (p : Option Addr) (cap : Nat) (l : List ValD) (hΦ : ∀ M w, Φ M w → Sl M w p l) (hlen : l.length ≤ 9223372036854775807) : GivesIn Φ Tryz.prog F.errataref03_RightRow #[.slice p l.length cap] (.bool (rightR l)) := by
  have h1 := All3_in p cap l hΦ hlen
  unfold rightR
  generalize l.all rightV3 = c at h1
  refine gives_in (Berrataref03_RightRow_run p l.length cap) fun W R => Br.intro (fun h => fun w F cx => h1.use cx fun w cx => ⟨_, rfl, R, Φ, inferInstance, cx, fun w F cx => ⟨?_, cx.left⟩⟩) (fun h => fun w F cx => ⟨?_, cx.left⟩)
  · rw [h, Bool.true_and]
  · rw [h, Bool.false_and]

end Go.Proofs.YtbkpfhhhbhaecaaGreatDoor
end

section
set_option linter.unusedVariables false
set_option linter.unusedSimpArgs false
namespace Go.Proofs.YtbkpfhhhbhaecaaGreatDoor
open Go.Vc


structure LineD where
  no : Int
  batch : Int
  time : Int
  row : List ValD
  n : Int
  cause : Int
  why : Int
instance : Gv LineD := Gv.via (β := Int × Int × Int × List ValD × Int × Int × Int) (fun x => (x.no, x.batch, x.time, x.row, x.n, x.cause, x.why)) (fun y => ⟨y.1, y.2.1, y.2.2.1, y.2.2.2.1, y.2.2.2.2.1, y.2.2.2.2.2.1, y.2.2.2.2.2.2⟩) (fun _ => rfl)

abbrev LineD.cells (x : LineD) (p : Option Addr) (c : Nat) : List Value := [.int .i64 x.no, .int .i64 x.batch, .int .i64 x.time, .slice p x.row.length c, .int .i64 x.n, .int .i64 x.cause, .int .i64 x.why]
abbrev LineD.v (x : LineD) (p : Option Addr) (c : Nat) : Value := .agg #[.int .i64 x.no, .int .i64 x.batch, .int .i64 x.time, .slice p x.row.length c, .int .i64 x.n, .int .i64 x.cause, .int .i64 x.why]

structure LineD.In (x : LineD) : Prop where
  no : I64 x.no
  batch : I64 x.batch
  time : I64 x.time
  n : I64 x.n
  cause : I64 x.cause
  why : I64 x.why

theorem line_cells {M : List Nat} {w : World} {cs : List Value} {x : LineD} (h : Gv.rep M w cs x) : ∃ p c, cs = x.cells p c ∧ x.row.length ≤ c ∧ c ≤ maxLen ∧ x.In ∧ Sl M w p x.row := by
  obtain ⟨_, _, rfl, ⟨rfl, h1⟩, _, _, rfl, ⟨rfl, h2⟩, _, _, rfl, ⟨rfl, h3⟩, _, _, rfl, ⟨p, c, rfl, g1, g2, g3⟩, _, _, rfl, ⟨rfl, h4⟩, _, _, rfl, ⟨rfl, h5⟩, rfl, h6⟩ := h
  exact ⟨p, c, rfl, g1, g2, ⟨h1, h2, h3, h4, h5, h6⟩, g3⟩

theorem rep_line {M : List Nat} {w : World} {x : LineD} {p : Option Addr} {c : Nat} (h1 : x.row.length ≤ c) (h2 : c ≤ maxLen) (h : x.In) (h5 : Sl M w p x.row) : Gv.rep M w (x.cells p c) x :=
  ⟨[_], [_, _, _, _, _, _], rfl, ⟨rfl, h.no⟩, [_], [_, _, _, _, _], rfl, ⟨rfl, h.batch⟩, [_], [_, _, _, _], rfl, ⟨rfl, h.time⟩, [_], [_, _, _], rfl, ⟨p, c, rfl, h1, h2, h5⟩, [_], [_, _], rfl, ⟨rfl, h.n⟩, [_], [_], rfl, ⟨rfl, h.cause⟩, rfl, h.why⟩

theorem line_row {M : List Nat} {w : World} {x : LineD} {p : Option Addr} {c : Nat} (h : Gv.rep M w (x.cells p c) x) : Sl M w p x.row := by
  obtain ⟨p', c', e, _, _, _, h1⟩ := line_cells h
  simp only [LineD.cells, List.cons.injEq, Value.slice.injEq] at e
  rw [e.2.2.2.1.1]
  exact h1

theorem line_one (M : List Nat) (w : World) (cs : List Value) (x : LineD) (h : Gv.rep M w cs x) : (cs.all fun u => oneC u) = true := by
  obtain ⟨p, c, rfl, _⟩ := line_cells h
  rfl

def LineD.d (x : LineD) : DeltaD := ⟨x.time, x.row, x.n⟩
def netP (l : List LineD) : List DeltaD := consP (l.map LineD.d)


abbrev bufL (p : Option Addr) (n cap : Nat) (cs : List Value) : Own := .buf p n cap cs 51 7

theorem lrow {M : List Nat} {w : World} {cs : List Value} {l : List LineD} (h : Elems M w cs l) {i : Nat} (hi : i < l.length) : ∃ p c, (cs.drop (i * 7)).take 7 = l[i].cells p c ∧ l[i].row.length ≤ c ∧ c ≤ maxLen ∧ l[i].In ∧ Sl M w p l[i].row :=
  line_cells (h.2 i hi)

theorem lcells_len {M : List Nat} {w : World} {cs : List Value} {l : List LineD} (h : Elems M w cs l) : cs.length = l.length * 7 := h.1

theorem l_ptr {W w : World} {S : List Own} {Φ : PW} {p : Option Addr} {n cap : Nat} {cs : List Value} (cx : Ctx W w (bufL p n cap cs :: S) Φ) (h : 0 < cs.length) : ∃ g, p = some ⟨g, 0, none⟩ := by
  obtain ⟨g, hg, _⟩ := cx.bufCell 0 rfl h
  exact ⟨g, hg⟩

theorem l_at {W w : World} {S : List Own} {Φ : PW} {g n cap : Nat} {cs : List Value} (cx : Ctx W w (bufL (some ⟨g, 0, none⟩) n cap cs :: S) Φ) {i : Nat} {x : LineD} {p : Option Addr} {c : Nat} (h : (cs.drop (i * 7)).take 7 = x.cells p c) : RowAt w g (i * 7) (x.cells p c) :=
  cx.bufRow 0 rfl rfl (rows_of h)

theorem l_can {W w : World} {S : List Own} {Φ : PW} {g n cap : Nat} {cs : List Value} (cx : Ctx W w (bufL (some ⟨g, 0, none⟩) n cap cs :: S) Φ) {o m : Nat} (h : o + m ≤ cs.length) : CanWrite w g o m :=
  cx.bufCan 0 rfl rfl h

theorem setL_cell : ∀ (vs : List Value) (k : Nat) (cs : List Value) (o : Nat) (v : Value), k < vs.length → (∀ j, (hj : j < vs.length) → cs[o + j]? = some vs[j]) → setL cs (o + k) [v] = setL cs o (vs.set k v) := by
  intro vs k cs o v hk h
  have hlast : o + (vs.length - 1) < cs.length := (List.getElem?_eq_some_iff.1 (h (vs.length - 1) (by omega))).1
  apply List.ext_getElem?
  intro j
  by_cases h1 : j < o
  · rw [setL_get _ _ _ _ (.inl (by omega)), setL_get _ _ _ _ (.inl h1)]
  · by_cases h2 : o + vs.length ≤ j
    · rw [setL_get _ _ _ _ (.inr (by simp; omega)), setL_get _ _ _ _ (.inr (by rw [List.length_set]; exact h2))]
    · obtain ⟨m, rfl⟩ : ∃ m, j = o + m := ⟨j - o, by omega⟩
      rw [setL_in (vs.set k v) cs o m (by rw [List.length_set]; omega) (by rw [List.length_set]; omega)]
      by_cases h3 : m = k
      · subst h3
        have := setL_in [v] cs (o + m) 0 (by simp) (by simp; omega)
        rw [Nat.add_zero] at this
        rw [this, List.getElem?_set_self hk]
        rfl
      · rw [setL_get _ _ _ _ (by simp; omega), List.getElem?_set_ne (by omega), h m (by omega), List.getElem?_eq_getElem (by omega)]

theorem l_cell {W w w' : World} {S : List Own} {Φ : PW} [Stable Φ] {g n cap : Nat} {cs : List Value} {l : List LineD} (cx : Ctx W w (bufL (some ⟨g, 0, none⟩) n cap cs :: S) (fun M w => Φ M w ∧ Elems M w cs l)) {i : Nat} (hi : i < l.length) (x : LineD) {k : Nat} {v : Value}
    (hk : k < 7) (hr : x.row = l[i].row) (hx : ∀ p c, (l[i].cells p c).set k v = x.cells p c) (hin : l[i].In → x.In) (e : w' = w.setCell ⟨g, i * 7 + k, none⟩ v) :
    ∃ cs', cs'.length = cs.length ∧ Ctx W w' (bufL (some ⟨g, 0, none⟩) n cap cs' :: S) (fun M w => Φ M w ∧ Elems M w cs' (l.set i x)) := by
  have hl := lcells_len cx.phi.2
  obtain ⟨p, c, hp, h1, h2, h3, _⟩ := lrow cx.phi.2 hi
  have h := cx.bufPuts 0 rfl rfl (vs := [v]) (o := i * 7 + k) (by omega) (by simp only [List.length_cons, List.length_nil]; omega) e
  have hrows := rows_of (vs := l[i].cells p c) hp
  rw [setL_cell (l[i].cells p c) k cs (i * 7) v hk hrows, hx p c] at h
  refine ⟨_, setL_len _ _ _, h.weak fun M w h => ⟨h.1, h.2.setAt i hi (rep_line (by rw [hr]; exact h1) h2 (hin h3) ?_)⟩⟩
  obtain ⟨p', c', hp', _, _, _, hs⟩ := lrow h.2 hi
  rw [hp] at hp'
  simp only [LineD.cells, List.cons.injEq, Value.slice.injEq] at hp'
  rw [hr, hp'.2.2.2.1.1]
  exact hs

end Go.Proofs.YtbkpfhhhbhaecaaGreatDoor
end

section
set_option linter.unusedVariables false
set_option linter.unusedSimpArgs false
namespace Go.Vc

structure MEnt where
  key : Int × ByteArray
  val : Int
  born : Nat
abbrev keyV (k : Int × ByteArray) : Value := .agg #[.int .i64 k.1, .string k.2]
def MEnt.m (e : MEnt) : MapEntry := ⟨keyV e.key, .int .i64 e.val, e.born⟩
def mObj (es : List MEnt) (clock : Nat) : Obj := .map (es.map MEnt.m).toArray clock

def getM : List MEnt → Int × ByteArray → Int
  | [], _ => 0
  | e :: es, k => if k = e.key then e.val else getM es k
def findM : List MEnt → Int × ByteArray → Nat → Option (Nat × Value)
  | [], _, _ => none
  | e :: es, k, i => if k = e.key then some (i, .int .i64 e.val) else findM es k (i + 1)

structure MapOk (es : List MEnt) (clock : Nat) : Prop where
  keys : es.Pairwise fun a b => a.key ≠ b.key
  borns : es.Pairwise fun a b => a.born ≠ b.born
  lt : ∀ e ∈ es, e.born < clock

structure KeyTy (P : Program) (t k e : TypeId) : Prop where
  map : P.underlying t = some (.map k e)
  str : ∃ fs, P.underlying k = some (.struct fs)
  chk : ∀ b x w, (Instr.checkKey b 10000 k (keyV x)).run P w = .ok () w
  eq : ∀ x y w, (Op.equal k (keyV x) (keyV y)).run P w = .ok (decide (x = y)) w
  zero : ∀ w, (zeroValue e).run P w = .ok (.int .i64 0) w

theorem findM_none : ∀ {es : List MEnt} {k : Int × ByteArray} {i : Nat}, findM es k i = none → ∀ e ∈ es, e.key ≠ k
  | [], _, _, _, e, he => by cases he
  | x :: es, k, i, h, e, he => by
    unfold findM at h
    split at h
    · cases h
    · rename_i hk
      rcases List.mem_cons.1 he with rfl | he
      · exact fun e => hk e.symm
      · exact findM_none h e he
theorem getM_none : ∀ {es : List MEnt} {k : Int × ByteArray}, (∀ e ∈ es, e.key ≠ k) → getM es k = 0
  | [], _, _ => rfl
  | x :: es, k, h => by
    unfold getM
    rw [if_neg fun e => h x (by simp) e.symm]
    exact getM_none fun e he => h e (by simp [he])
theorem findM_some : ∀ {es : List MEnt} {k : Int × ByteArray} {i j : Nat} {v : Value}, findM es k i = some (j, v) → ∃ n e, j = i + n ∧ es[n]? = some e ∧ e.key = k ∧ v = .int .i64 e.val ∧ getM es k = e.val
  | [], _, _, _, _, h => by cases h
  | x :: es, k, i, j, v, h => by
    unfold findM at h
    split at h
    · rename_i hk
      cases h
      exact ⟨0, x, rfl, rfl, hk.symm, rfl, by unfold getM; rw [if_pos hk]⟩
    · rename_i hk
      obtain ⟨n, e, h1, h2, h3, h4, h5⟩ := findM_some h
      exact ⟨n + 1, e, by omega, by simpa using h2, h3, h4, by unfold getM; rw [if_neg hk]; exact h5⟩

section
variable {P : Program} {t k e : TypeId} (T : KeyTy P t k e)
include T

theorem run_findAsking (x : Int × ByteArray) (w : World) : ∀ (es : List MEnt) (i : Nat), (Instr.findAsking k (keyV x) (es.map MEnt.m) i).run P w = .ok (findM es x i) w
  | [], i => rfl
  | a :: es, i => by
    rw [List.map_cons]
    unfold Instr.findAsking
    simp only [Sem.run_bind]
    rw [show a.m.key = keyV a.key from rfl, T.eq x a.key w]
    simp only [Result.andThen]
    unfold findM
    by_cases h : x = a.key
    · rw [if_pos (by simpa using h), if_pos h]; rfl
    · rw [if_neg (by simpa using h), if_neg h]
      exact run_findAsking x w es (i + 1)

theorem run_findKey (x : Int × ByteArray) (w : World) (es : List MEnt) : (Instr.findKey k (keyV x) (es.map MEnt.m)).run P w = .ok (findM es x 0) w := by
  obtain ⟨fs, hs⟩ := T.str
  unfold Instr.findKey
  simp only [Sem.run_bind, run_underlying hs, Result.andThen]
  cases es with
  | nil => rfl
  | cons a es =>
    rw [List.map_cons]
    unfold Instr.findNow
    simp only [Instr.sameNow]
    exact run_findAsking T x w (a :: es) 0

theorem run_lookupM {w : World} {b : Nat} {es : List MEnt} {clock : Nat} (hb : w.heap[b]? = some (mObj es clock)) (x : Int × ByteArray) :
    Sem.run P (Instr.lookup t (.map (some b)) (keyV x) false) w = .ok (.int .i64 (getM es x)) w := by
  have h1 := run_findKey T x w es
  unfold mObj at hb
  unfold Instr.lookup
  simp only [Sem.run_bind, run_underlying T.map, MapKept.run_getObj_map hb, Result.andThen, T.chk, Sem.run_pure, h1]
  cases hf : findM es x 0 with
  | none => simp only [Sem.run_bind, T.zero, Result.andThen, Sem.run_pure, getM_none (findM_none hf)]; rfl
  | some r =>
    obtain ⟨j, v⟩ := r
    obtain ⟨n, e', _, _, _, hv, hg⟩ := findM_some hf
    simp only [Sem.run_pure, Result.andThen]
    rw [hg, hv]; rfl

omit T in
theorem run_stays (x : Int × ByteArray) (w : World) : (Instr.keyThatStays (keyV x) (keyV x)).run P w = .ok (keyV x) w := by
  have : Instr.sameBits 10000 (keyV x) (keyV x) = true := by
    unfold Instr.sameBits
    simp [Instr.sameBits, MapKept.bytes_beq]
  unfold Instr.keyThatStays
  rw [if_pos this]; rfl

theorem run_entryM {w : World} {b : Nat} {es : List MEnt} {clock : Nat} (ok : MapOk es clock) (hb : w.heap[b]? = some (mObj es clock)) (x : Int × ByteArray) :
    ∃ es1 clock1 s, Sem.run P (Instr.mapEntry t (.map (some b)) (keyV x)) w = .ok (.tuple #[.int .i64 (getM es x), .int .i64 (s : Nat)]) (setB w b (mObj es1 clock1)) ∧ MapOk es1 clock1 ∧ (∀ y, getM es1 y = getM es y) ∧ ∃ a ∈ es1, a.key = x ∧ a.born = s := by
  have h1 := run_findKey T x w es
  unfold mObj at hb
  cases hf : findM es x 0 with
  | none =>
    have hn := findM_none hf
    refine ⟨es ++ [⟨x, 0, clock⟩], clock + 1, clock, ?_, ⟨?_, ?_, ?_⟩, fun y => ?_, ⟨x, 0, clock⟩, by simp, rfl, rfl⟩
    · have h3 := MapKept.run_setObj_map (P := P) (.map ((es.map MEnt.m).toArray.push ⟨keyV x, .int .i64 0, clock⟩) (clock + 1)) hb
      unfold Instr.mapEntry
      rw [hf] at h1
      simp only [Sem.run_bind, run_underlying T.map, MapKept.run_getObj_map hb, Result.andThen, T.chk, Sem.run_pure, h1, T.zero, h3]
      rw [getM_none hn]
      congr 2
      unfold mObj
      simp [MEnt.m]
    · exact List.pairwise_append.2 ⟨ok.keys, by simp, fun a ha c hc => by rw [List.mem_singleton.1 hc]; exact hn a ha⟩
    · exact List.pairwise_append.2 ⟨ok.borns, by simp, fun a ha c hc => by rw [List.mem_singleton.1 hc]; exact Nat.ne_of_lt (ok.lt a ha)⟩
    · intro a ha
      rcases List.mem_append.1 ha with ha | ha
      · have := ok.lt a ha; omega
      · rw [List.mem_singleton.1 ha]; exact Nat.lt_succ_self _
    · clear hb h1 hf ok
      induction es with
      | nil => simp [getM]
      | cons a es ih =>
        rw [List.cons_append]
        unfold getM
        split
        · rfl
        · exact ih fun e he => hn e (by simp [he])
  | some r =>
    obtain ⟨j, v⟩ := r
    obtain ⟨n, a, hj, ha, hk, hv, hg⟩ := findM_some hf
    have hj : j = n := by omega
    subst hj
    refine ⟨es, clock, a.born, ?_, ok, fun _ => rfl, a, List.mem_of_getElem? ha, hk, rfl⟩
    have ha2 : (es.map MEnt.m).toArray[j]? = some a.m := by simp [ha]
    have h3 := MapKept.run_setObj_map (P := P) (.map ((es.map MEnt.m).toArray.modify j fun e => { e with key := keyV x }) clock) hb
    unfold Instr.mapEntry
    rw [hf] at h1
    simp only [Sem.run_bind, run_underlying T.map, MapKept.run_getObj_map hb, Result.andThen, T.chk, Sem.run_pure, h1, ha2, Option.map_some, Option.getD_some]
    rw [show a.m.key = keyV x by rw [← hk]; rfl, run_stays x w]
    simp only [h3]
    rw [hg, hv]
    congr 2
    unfold mObj
    refine congrArg (fun a => w.heap.setIfInBounds b (Obj.map a clock)) ?_
    apply Array.ext
    · simp
    · intro i hi1 hi2
      rw [Array.getElem_modify]
      split
      · rename_i e
        subst e
        have : (es.map MEnt.m).toArray[j] = a.m := by
          have := Array.getElem?_eq_getElem (xs := (es.map MEnt.m).toArray) hi2
          rw [ha2] at this
          exact (Option.some.inj this).symm
        rw [this, ← hk]; rfl
      · rfl
omit T
theorem getM_map {s : Nat} {v : Int} {x : Int × ByteArray} : ∀ {es : List MEnt}, (∀ a ∈ es, a.born = s ↔ a.key = x) → ∀ y, getM (es.map fun a => if a.born = s then { a with val := v } else a) y = if y = x ∧ ∃ a ∈ es, a.key = x then v else getM es y
  | [], _, y => by simp [getM]
  | a :: es, h, y => by
    have ih := getM_map (v := v) (es := es) (fun a ha => h a (by simp [ha])) y
    rw [List.map_cons]
    unfold getM
    by_cases h1 : a.born = s
    · have hk := (h a (by simp)).1 h1
      rw [if_pos h1]
      simp only
      by_cases h2 : y = a.key
      · rw [if_pos h2, if_pos ⟨h2.trans hk, a, by simp, hk⟩]
      · rw [if_neg h2, if_neg h2, ih, if_neg fun e => h2 (e.1.trans hk.symm), if_neg fun e => h2 (e.1.trans hk.symm)]
    · have hk : ¬ a.key = x := fun e => h1 ((h a (by simp)).2 e)
      rw [if_neg h1]
      by_cases h2 : y = a.key
      · rw [if_pos h2, if_pos h2, if_neg fun e => hk (h2.symm.trans e.1)]
      · rw [if_neg h2, if_neg h2, ih]
        by_cases h3 : y = x ∧ ∃ c ∈ es, c.key = x
        · rw [if_pos h3]
          obtain ⟨h4, c, h5, h6⟩ := h3
          rw [if_pos ⟨h4, c, by simp [h5], h6⟩]
        · rw [if_neg h3, if_neg fun e => h3 ⟨e.1, by
            obtain ⟨c, h5, h6⟩ := e.2
            rcases List.mem_cons.1 h5 with rfl | h5
            · exact absurd h6 hk
            · exact ⟨c, h5, h6⟩⟩]
theorem pair_inj {α β : Type} {f : α → β} : ∀ {l : List α}, l.Pairwise (fun a b => f a ≠ f b) → ∀ {a b : α}, a ∈ l → b ∈ l → f a = f b → a = b
  | [], _, _, _, ha, _, _ => by cases ha
  | x :: l, h, a, b, ha, hb, e => by
    obtain ⟨h1, h2⟩ := List.pairwise_cons.1 h
    rcases List.mem_cons.1 ha with ea | ha
    · rcases List.mem_cons.1 hb with eb | hb
      · rw [ea, eb]
      · exact absurd (by rw [← ea]; exact e) (h1 b hb)
    · rcases List.mem_cons.1 hb with eb | hb
      · exact absurd (by rw [← eb]; exact e.symm) (h1 a ha)
      · exact pair_inj h2 ha hb e
theorem findIdx_at {α : Type} {p : α → Bool} : ∀ {l : List α} {a : α}, a ∈ l → p a = true → (∀ c ∈ l, p c = true → c = a) → ∃ n, l.findIdx? p = some n ∧ l[n]? = some a
  | [], _, h, _, _ => by cases h
  | x :: l, a, h, hp, hu => by
    rw [List.findIdx?_cons]
    by_cases hx : p x = true
    · rw [if_pos hx]
      exact ⟨0, rfl, by rw [hu x (by simp) hx]; rfl⟩
    · rw [if_neg hx]
      rcases List.mem_cons.1 h with rfl | h
      · exact absurd hp hx
      · obtain ⟨n, h1, h2⟩ := findIdx_at h hp fun c hc => hu c (by simp [hc])
        exact ⟨n + 1, by rw [h1]; rfl, by simpa using h2⟩
theorem run_storeM {w : World} {b : Nat} {es : List MEnt} {clock s : Nat} {x : Int × ByteArray} (t : TypeId) (ok : MapOk es clock) (hx : ∃ a ∈ es, a.key = x ∧ a.born = s) (hb : w.heap[b]? = some (mObj es clock)) (v : Int) :
    ∃ es1, Sem.run P (Instr.entryStore t (.map (some b)) (.int .i64 (s : Nat)) (.int .i64 v)) w = .ok () (setB w b (mObj es1 clock)) ∧ MapOk es1 clock ∧ ∀ y, getM es1 y = if y = x then v else getM es y := by
  obtain ⟨a, ha, hk, hs⟩ := hx
  have hiff : ∀ c ∈ es, c.born = s ↔ c.key = x := fun c hc => ⟨fun h => by rw [pair_inj ok.borns hc ha (h.trans hs.symm)]; exact hk, fun h => by rw [pair_inj ok.keys hc ha (h.trans hk.symm)]; exact hs⟩
  refine ⟨es.map fun a => if a.born = s then { a with val := v } else a, ?_, ⟨?_, ?_, ?_⟩, fun y => ?_⟩
  · unfold mObj at hb
    obtain ⟨n, h1, h2⟩ := findIdx_at (p := fun e : MapEntry => (e.born : Int) == ((s : Nat) : Int)) (l := es.map MEnt.m) (a := a.m) (List.mem_map.2 ⟨a, ha, rfl⟩) (by
        show ((a.born : Int) == _) = true
        rw [hs]; simp) (fun c hc hcb => by
      obtain ⟨c', hc', rfl⟩ := List.mem_map.1 hc
      have : c'.born = s := by
        have h : ((c'.born : Int) == ((s : Nat) : Int)) = true := hcb
        simp at h; omega
      rw [pair_inj ok.borns hc' ha (this.trans hs.symm)])
    have h3 := MapKept.run_setObj_map (P := P) (.map ((es.map MEnt.m).toArray.modify n fun e => { e with val := .int .i64 v }) clock) hb
    have h0 : (asIntOf (.int .i64 ((s : Nat) : Int))).run P w = .ok (.i64, ((s : Nat) : Int)) w := rfl
    unfold Instr.entryStore
    simp only [Sem.run_bind, MapKept.run_getObj_map hb, Result.andThen, Sem.run_pure, asInt]
    have h4 : Array.findIdx? (fun e : MapEntry => (e.born : Int) == ((s : Nat) : Int)) (es.map MEnt.m).toArray = some n := by simpa using h1
    simp only [h0, h4, h3]
    congr 2
    unfold mObj
    refine congrArg (fun a => w.heap.setIfInBounds b (Obj.map a clock)) ?_
    have h2' : es[n]? = some a := by
      rw [List.getElem?_map] at h2
      cases he : es[n]? with
      | none => rw [he] at h2; cases h2
      | some c =>
        rw [he] at h2
        have hb2 : c.born = a.born := congrArg MapEntry.born (Option.some.inj h2)
        rw [pair_inj ok.borns (List.mem_of_getElem? he) ha hb2]
    apply Array.ext
    · simp
    · intro i hi1 hi2
      have hi3 : i < es.length := by simpa using hi1
      rw [Array.getElem_modify]
      simp only [List.getElem_toArray, List.getElem_map]
      split
      · rename_i e
        subst e
        have : es[n] = a := by
          have := List.getElem?_eq_getElem hi3
          rw [h2'] at this
          exact (Option.some.inj this).symm
        rw [this, if_pos hs]; rfl
      · rename_i e
        rw [if_neg]
        intro hbi
        have hea := pair_inj ok.borns (List.getElem_mem hi3) ha (hbi.trans hs.symm)
        have hn : n < es.length := (List.getElem?_eq_some_iff.1 h2').1
        have hp := ok.borns
        rw [List.pairwise_iff_getElem] at hp
        have hna : es[n] = a := (List.getElem?_eq_some_iff.1 h2').2
        rcases Nat.lt_or_gt_of_ne e with h | h
        · exact hp n i hn hi3 h (by rw [hna, hea])
        · exact hp i n hi3 hn h (by rw [hna, hea])
  · refine List.pairwise_map.2 (ok.keys.imp fun {a b} h => ?_)
    split <;> split <;> exact h
  · refine List.pairwise_map.2 (ok.borns.imp fun {a b} h => ?_)
    split <;> split <;> exact h
  · intro c hc
    obtain ⟨c', hc', rfl⟩ := List.mem_map.1 hc
    have := ok.lt c' hc'
    split <;> exact this
  · rw [getM_map hiff y]
    by_cases h : y = x
    · rw [if_pos ⟨h, a, ha, hk⟩, if_pos h]
    · rw [if_neg fun e => h e.1, if_neg h]

theorem erase_map : ∀ (es : List MEnt) (j : Nat), (es.map MEnt.m).eraseIdx j = (es.eraseIdx j).map MEnt.m
  | [], _ => rfl
  | _ :: _, 0 => rfl
  | a :: es, j + 1 => by
    rw [List.map_cons, List.eraseIdx_cons_succ, List.eraseIdx_cons_succ, List.map_cons, erase_map es j]
theorem getM_erase {x : Int × ByteArray} : ∀ {es : List MEnt} {n : Nat} {a : MEnt}, es.Pairwise (fun a b => a.key ≠ b.key) → es[n]? = some a → a.key = x → ∀ y, getM (es.eraseIdx n) y = if y = x then 0 else getM es y
  | [], _, _, _, h, _, _ => by simp at h
  | c :: es, 0, a, hp, h, hk, y => by
    have : c = a := by simpa using h
    subst this
    rw [List.eraseIdx_cons_zero]
    obtain ⟨h1, _⟩ := List.pairwise_cons.1 hp
    by_cases hy : y = x
    · rw [if_pos hy, hy]
      exact getM_none fun e he h2 => h1 e he (hk.trans h2.symm)
    · rw [if_neg hy]
      unfold getM
      rw [if_neg fun e => hy (e.trans hk)]
      cases es <;> rfl
  | c :: es, n + 1, a, hp, h, hk, y => by
    obtain ⟨h1, h2⟩ := List.pairwise_cons.1 hp
    have h' : es[n]? = some a := by simpa using h
    have ih := getM_erase h2 h' hk y
    rw [List.eraseIdx_cons_succ]
    unfold getM
    by_cases hy : y = c.key
    · rw [if_pos hy, if_pos hy, if_neg]
      intro e
      exact h1 a (List.mem_of_getElem? h') (hy.symm.trans (e.trans hk.symm))
    · rw [if_neg hy, if_neg hy]
      exact ih
include T
theorem run_deleteM {w : World} {b : Nat} {es : List MEnt} {clock : Nat} (ok : MapOk es clock) (hb : w.heap[b]? = some (mObj es clock)) (x : Int × ByteArray) (kt ty : TypeId) (cs : Array Bool) :
    ∃ es1, Sem.run P (builtin Builtin.delete #[t, kt] ty cs #[.map (some b), keyV x]) w = .ok (.value (.tuple #[])) (setB w b (mObj es1 clock)) ∧ MapOk es1 clock ∧ ∀ y, getM es1 y = if y = x then 0 else getM es y := by
  have h1 := run_findKey T x w es
  unfold mObj at hb
  have run : ∀ es1 : List MEnt, (Builtin.delete_ #[t, kt] ty #[.map (some b), keyV x]).run P w = .ok (.tuple #[]) (setB w b (mObj es1 clock)) → Sem.run P (builtin Builtin.delete #[t, kt] ty cs #[.map (some b), keyV x]) w = .ok (.value (.tuple #[])) (setB w b (mObj es1 clock)) := fun es1 h => by
    unfold builtin
    simp only [Sem.run_bind, h, Result.andThen, Sem.run_pure]
  cases hf : findM es x 0 with
  | none =>
    have hn := findM_none hf
    refine ⟨es, run _ ?_, ok, fun y => ?_⟩
    · have h3 := MapKept.run_setObj_map (P := P) (.map (es.map MEnt.m).toArray clock) hb
      unfold Builtin.delete_
      rw [hf] at h1
      simp only [Array.getElem?_eq_getElem, List.size_toArray, List.length_cons, List.length_nil, Nat.zero_lt_succ, Nat.lt_add_one, List.getElem_toArray, List.getElem_cons_zero, List.getElem_cons_succ, Sem.run_bind, run_underlying T.map, MapKept.run_getObj_map hb, Result.andThen, T.chk, Sem.run_pure, h1, h3]
      rfl
    · by_cases hy : y = x
      · rw [if_pos hy, hy]; exact getM_none hn
      · rw [if_neg hy]
  | some r =>
    obtain ⟨j, v⟩ := r
    obtain ⟨n, a, hj, ha, hk, hv, hg⟩ := findM_some hf
    have hj : j = n := by omega
    subst hj
    have hlt : j < es.length := (List.getElem?_eq_some_iff.1 ha).1
    refine ⟨es.eraseIdx j, run _ ?_, ⟨ok.keys.sublist (List.eraseIdx_sublist _ _), ok.borns.sublist (List.eraseIdx_sublist _ _), fun e he => ok.lt e ((List.eraseIdx_sublist _ _).mem he)⟩, getM_erase ok.keys ha hk⟩
    have h3 := MapKept.run_setObj_map (P := P) (.map ((es.map MEnt.m).toArray.eraseIdxIfInBounds j) clock) hb
    unfold Builtin.delete_
    rw [hf] at h1
    simp only [Array.getElem?_eq_getElem, List.size_toArray, List.length_cons, List.length_nil, Nat.zero_lt_succ, Nat.lt_add_one, List.getElem_toArray, List.getElem_cons_zero, List.getElem_cons_succ, Sem.run_bind, run_underlying T.map, MapKept.run_getObj_map hb, Result.andThen, T.chk, Sem.run_pure, h1, h3]
    congr 2
    unfold mObj
    refine congrArg (fun a => w.heap.setIfInBounds b (Obj.map a clock)) ?_
    unfold Array.eraseIdxIfInBounds
    rw [dif_pos (by simpa using hlt)]
    apply Array.toList_inj.1
    simp
    exact erase_map es j
end

section
variable {P : Program} {W w : World} {Q R G : List Own} {Φ Ψ : PW} {f : FuncId} {args : Array Value}

structure GivesQ (Q : List Own) (Φ : PW) (P : Program) (f : FuncId) (args : Array Value) (v : Value) : Prop where
  go : ∀ (W w : World) (S : List Own), Ctx W w (Q ++ S) Φ → Calls P f args w fun e w' => e = .returned v ∧ Ctx W w' (Q ++ S) Φ
structure GivesQSl (Q : List Own) (Φ : PW) (P : Program) (f : FuncId) (args : Array Value) {α : Type} [Gv α] (l : List α) : Prop where
  go : ∀ (W w : World) (S : List Own), Ctx W w (Q ++ S) Φ → Calls P f args w fun e w' => ∃ p cap, e = .returned (.slice p l.length cap) ∧ l.length ≤ cap ∧ cap ≤ maxLen ∧ Ctx W w' (Q ++ S) (fun M w => Φ M w ∧ Sl M w p l)

theorem gives_q [Stable Φ] {v : Value} {B : World → List Own → PW → (Value → World → Prop) → Prop}
    (run : ∀ {W w : World} {R : List Own} {Φ : PW} [Stable Φ] {J : Value → World → Prop}, Ctx W w R Φ → B W R Φ J → Calls P f args w fun e w' => ∃ v, e = .returned v ∧ J v w')
    (h : ∀ (W : World) (R : List Own), B W (Q ++ R) Φ fun u w' => u = v ∧ Ctx W w' (Q ++ R) Φ) : GivesQ Q Φ P f args v :=
  ⟨fun W w S c => calls_of (run c (h W S)) fun u w' ⟨h1, h2⟩ => ⟨by rw [h1], h2⟩⟩
theorem gives_qsl [Stable Φ] {α : Type} [Gv α] {l : List α} {B : World → List Own → PW → (Value → World → Prop) → Prop}
    (run : ∀ {W w : World} {R : List Own} {Φ : PW} [Stable Φ] {J : Value → World → Prop}, Ctx W w R Φ → B W R Φ J → Calls P f args w fun e w' => ∃ v, e = .returned v ∧ J v w')
    (h : ∀ (W : World) (R : List Own), B W (Q ++ R) Φ fun u w' => ∃ p cap, u = .slice p l.length cap ∧ l.length ≤ cap ∧ cap ≤ maxLen ∧ Ctx W w' (Q ++ R) (fun M w => Φ M w ∧ Sl M w p l)) : GivesQSl Q Φ P f args l :=
  ⟨fun W w S c => calls_of (run c (h W S)) fun u w' ⟨p, cap, h1, h2⟩ => ⟨p, cap, by rw [h1], h2⟩⟩

theorem Ctx.inl (c : Ctx W w ((Q ++ R) ++ G) Φ) : Ctx W w (Q ++ (R ++ G)) Φ := c.re (List.append_assoc _ _ _)
theorem Ctx.outl (c : Ctx W w (Q ++ (R ++ G)) Φ) : Ctx W w ((Q ++ R) ++ G) Φ := c.re (List.append_assoc _ _ _).symm

theorem GivesQ.toB [Stable Φ] {b : Bool} (h : GivesQ Q Φ P f args (.bool b)) (c : Ctx W w ((Q ++ R) ++ G) Φ) {K : Bool → List Own → PW → Prop} (hk : K b (Q ++ R) Φ) :
    Calls P f args w fun e w' => ∃ c, e = .returned (.bool c) ∧ ∃ R' Φ', Stable Φ' ∧ Ctx W w' (R' ++ G) Φ' ∧ K c R' Φ' :=
  (h.go W w (R ++ G) c.inl).mono fun e w' ⟨he, c'⟩ => ⟨b, he, Q ++ R, Φ, inferInstance, c'.outl, hk⟩
theorem GivesQ.toI [Stable Φ] {n : Int} {k : IntKind} (h : GivesQ Q Φ P f args (.int k n)) (c : Ctx W w ((Q ++ R) ++ G) Φ) {K : Int → List Own → PW → Prop} (hk : K n (Q ++ R) Φ) :
    Calls P f args w fun e w' => ∃ n, e = .returned (.int k n) ∧ ∃ R' Φ', Stable Φ' ∧ Ctx W w' (R' ++ G) Φ' ∧ K n R' Φ' :=
  (h.go W w (R ++ G) c.inl).mono fun e w' ⟨he, c'⟩ => ⟨n, he, Q ++ R, Φ, inferInstance, c'.outl, hk⟩
theorem GivesQ.toS [Stable Φ] {s : ByteArray} (h : GivesQ Q Φ P f args (.string s)) (c : Ctx W w ((Q ++ R) ++ G) Φ) {K : ByteArray → List Own → PW → Prop} (hk : K s (Q ++ R) Φ) :
    Calls P f args w fun e w' => ∃ s, e = .returned (.string s) ∧ ∃ R' Φ', Stable Φ' ∧ Ctx W w' (R' ++ G) Φ' ∧ K s R' Φ' :=
  (h.go W w (R ++ G) c.inl).mono fun e w' ⟨he, c'⟩ => ⟨s, he, Q ++ R, Φ, inferInstance, c'.outl, hk⟩
theorem GivesQSl.tot [Stable Φ] {α : Type} [Gv α] {l : List α} (h : GivesQSl Q Φ P f args l) (c : Ctx W w ((Q ++ R) ++ G) Φ) {K : Option Addr → Nat → Nat → List Own → PW → Prop}
    (hk : ∀ p cap, l.length ≤ cap → cap ≤ maxLen → There p l.length → Stable (fun M w => Φ M w ∧ Sl M w p l) → K p l.length cap (Q ++ R) (fun M w => Φ M w ∧ Sl M w p l)) :
    Calls P f args w fun e w' => ∃ p n c, e = .returned (.slice p n c) ∧ ∃ R' Φ', Stable Φ' ∧ Ctx W w' (R' ++ G) Φ' ∧ K p n c R' Φ' :=
  (h.go W w (R ++ G) c.inl).mono fun e w' ⟨p, cap, he, h1, h2, c'⟩ => ⟨p, _, cap, he, Q ++ R, _, inferInstance, c'.outl, hk p cap h1 h2 c'.phi.2.there inferInstance⟩
end
end Go.Vc
end

section
set_option linter.unusedVariables false
set_option linter.unusedSimpArgs false
namespace Go.Proofs.YtbkpfhhhbhaecaaGreatDoor
open Go.Vc


structure BatD where
  no : Int
  mark : Int
  stop : Nat
abbrev BatD.cells (x : BatD) : List Value := [.int .i64 x.no, .int .i64 x.mark, .int .i64 x.stop]
structure LedD where
  lines : List LineD
  bats : List BatD

abbrev LKey : Type := Int × ByteArray
def LineD.at (x : LineD) : LKey := (x.time, rowB x.row)
def cntL : List LineD → LKey → Int
  | [], _ => 0
  | x :: l, k => (if x.at = k then x.n else 0) + cntL l k
def caus (l : List LineD) (k : Int) : Int := ((l.countP fun x => decide (x.cause = k) : Nat) : Int)
def lastP (st : LedD) : BatD := st.bats.getLast?.getD ⟨0, -1, 0⟩
theorem cntL_app (a b : List LineD) (k : LKey) : cntL (a ++ b) k = cntL a k + cntL b k := by
  induction a with
  | nil => simp [cntL]
  | cons x a ih => simp only [List.cons_append, cntL, ih]; omega

structure LP where
  lb : Nat
  lp : Option Addr
  lc : Nat
  cs : List Value
  bp : Option Addr
  bc : Nat
  mb : Nat
  es : List MEnt
  clk : Nat

abbrev LedB (q : LP) (st : LedD) : List Value := [.slice q.lp st.lines.length q.lc, .slice q.bp st.bats.length q.bc, .map (some q.mb), .int .i64 (caus st.lines 0), .int .i64 (caus st.lines 1), .int .i64 (caus st.lines 2)]
abbrev batCells (l : List BatD) : List Value := l.flatMap BatD.cells
abbrev LedO (q : LP) (st : LedD) : List Own := [.blk q.lb (LedB q st) 79, .buf q.lp st.lines.length q.lc q.cs 51 7, .buf q.bp st.bats.length q.bc (batCells st.bats) 86 3, .obj q.mb (mObj q.es q.clk)]
abbrev LF (q : LP) (st : LedD) : PW := fun M w => Elems M w q.cs st.lines

structure LedQ (q : LP) (st : LedD) : Prop where
  map : MapOk q.es q.clk
  cnt : ∀ k, getM q.es k = cntL st.lines k
  lpt : 0 < st.lines.length → ∃ g, q.lp = some ⟨g, 0, none⟩
  bpt : 0 < st.bats.length → ∃ g, q.bp = some ⟨g, 0, none⟩
  lcap : st.lines.length ≤ q.lc ∧ q.lc ≤ maxLen
  cells : ∀ i (h : i < st.lines.length), ∃ p c, (q.cs.drop (i * 7)).take 7 = st.lines[i].cells p c ∧ st.lines[i].row.length ≤ c ∧ c ≤ maxLen ∧ st.lines[i].In
  len : q.cs.length = st.lines.length * 7
structure LedS (st : LedD) : Prop where
  lines : st.lines.length ≤ 150000
  bats : st.bats.length ≤ 600000
  row : ∀ x ∈ st.lines, x.row.length ≤ 13
  text : ∀ x ∈ st.lines, ∀ v ∈ x.row, v.text.size ≤ 300
  stop : ∀ b ∈ st.bats, b.stop ≤ st.lines.length

theorem LedS.rows {st : LedD} (h : LedS st) : ∀ x ∈ st.lines, x.row.length ≤ 1000000 := fun x hx => by have := h.row x hx; omega

theorem keyTy : KeyTy Tryz.prog 75 82 3 where
  map := by kernel_rfl
  str := ⟨_, Tryz.underlying82⟩
  chk := fun b x w => by kernel_rfl
  eq := fun x y w => by
    have hs : Tryz.prog.stoodInHeld 82 = false := by kernel_rfl
    have ht := Tryz.underlying82
    obtain ⟨fs, ht⟩ : ∃ fs, Tryz.prog.underlying 82 = some (.struct fs) := ⟨_, ht⟩
    have hf : Tryz.prog.fieldsOf 82 = fs := by simp [Program.fieldsOf, ht]
    have hr : eqFlat Tryz.prog #[.int .i64 x.1, .string x.2] #[.int .i64 y.1, .string y.2] (Tryz.prog.fieldsOf 82).toList = some (decide (x.1 = y.1) && (decide (x.2 = y.2) && true)) := by kernel_rfl
    have key : (Op.equalIn 10000 82 (keyV x) (keyV y)).run Tryz.prog w = .ok (decide (x.1 = y.1) && (decide (x.2 = y.2) && true)) w := by
      rw [show (10000 : Nat) = 9999 + 1 from rfl, run_equalIn_struct w 9999 82 _ _ (by rw [hf]; exact ht) hs]
      exact eqFlat_run hr
    have h2 : Op.equal 82 (keyV x) (keyV y) = Op.equalIn 10000 82 (keyV x) (keyV y) := by delta Op.equal Op.maxDepth; exact Eq.refl _
    rw [h2, key]
    refine congrArg (fun b => Result.ok b w) ?_
    rw [Bool.and_true, ← Bool.decide_and]
    exact decide_eq_decide.2 ⟨fun h => Prod.ext h.1 h.2, fun h => by rw [h]; exact ⟨rfl, rfl⟩⟩
  zero := fun w => by kernel_rfl

section
variable {Φ : PW} {q : LP} {st : LedD} {W w : World} {R S G : List Own}

theorem led_cell (cx : Ctx W w ((LedO q st ++ R) ++ G) Φ) {i : Nat} {v : Value} (h : (LedB q st)[i]? = some v) : w.cell? ⟨q.lb, i, none⟩ = some v := cx.get 0 rfl h
theorem led_map (cx : Ctx W w ((LedO q st ++ R) ++ G) Φ) : w.heap[q.mb]? = some (mObj q.es q.clk) := cx.own (.obj q.mb (mObj q.es q.clk)) (by simp)
theorem bat_cells {l : List BatD} {i : Nat} (h : i < l.length) : ((batCells l).drop (i * 3)).take 3 = l[i].cells := by
  induction l generalizing i with
  | nil => simp at h
  | cons x l ih =>
    cases i with
    | zero => rfl
    | succ i =>
      have := ih (i := i) (by simpa using h)
      show (((x.cells ++ batCells l)).drop ((i + 1) * 3)).take 3 = _
      rw [show (i + 1) * 3 = 3 + i * 3 by omega, ← List.drop_drop, show List.drop 3 (x.cells ++ batCells l) = batCells l from rfl, this]
      simp
theorem led_bat (cx : Ctx W w ((LedO q st ++ R) ++ G) Φ) {g i : Nat} (hp : q.bp = some ⟨g, 0, none⟩) (h : i < st.bats.length) : RowAt w g (0 + i * 3) st.bats[i].cells := by
  rw [Nat.zero_add]
  exact cx.bufRow 2 rfl hp (rows_of (bat_cells h))
theorem led_line (cx : Ctx W w ((LedO q st ++ R) ++ G) Φ) {g i : Nat} {x : LineD} {p : Option Addr} {c : Nat} (hp : q.lp = some ⟨g, 0, none⟩) (h : (q.cs.drop (i * 7)).take 7 = x.cells p c) : RowAt w g (0 + i * 7) (x.cells p c) := by
  rw [Nat.zero_add]
  exact cx.bufRow 1 rfl hp (rows_of h)
theorem led_row {M : List Nat} (h : Elems M w q.cs st.lines) {i : Nat} (hi : i < st.lines.length) {p : Option Addr} {c : Nat} (hc : (q.cs.drop (i * 7)).take 7 = st.lines[i].cells p c) : Sl M w p st.lines[i].row := by
  have := h.2 i hi
  rw [show (Gv.ty LineD).size = 7 from rfl, hc] at this
  exact line_row this

theorem lastP_at (h : st.bats.length ≠ 0) : lastP st = st.bats[st.bats.length - 1]'(by omega) := by
  unfold lastP
  rw [List.getLast?_eq_getElem?, List.getElem?_eq_getElem (by omega)]; rfl

abbrev led (q : LP) : Value := .pointer (some ⟨q.lb, 0, none⟩)
theorem last_use [Stable Φ] (hq : LedQ q st) (hs : LedS st) (cx : Ctx W w ((LedO q st ++ R) ++ G) Φ) {K : Int → Int → Int → List Own → PW → Prop} (hk : K (lastP st).no (lastP st).mark (lastP st).stop (LedO q st ++ R) Φ) :
    Calls Tryz.prog F.ledger_Ledger_last #[led q] w fun e w' => ∃ a b c, e = .returned (.agg #[.int .i64 a, .int .i64 b, .int .i64 c]) ∧ ∃ R' Φ', Stable Φ' ∧ Ctx W w' (R' ++ G) Φ' ∧ K a b c R' Φ' := by
  refine (Bledger_Ledger_last_run q.lb 0 (J := fun v w' => v = .agg #[.int .i64 (lastP st).no, .int .i64 (lastP st).mark, .int .i64 (lastP st).stop] ∧ Ctx W w' ((LedO q st ++ R) ++ G) Φ) cx ?_).mono fun e w' ⟨v, he, hv, c'⟩ => ⟨_, _, _, by rw [he, hv], _, Φ, inferInstance, c', hk⟩
  clear cx
  have hb := hs.bats
  have c1 : ∀ {w : World} {G2 : List Own}, Ctx W w (((LedO q st ++ R) ++ G) ++ G2) Φ → w.cell? ⟨q.lb, 1, none⟩ = some (.slice q.bp st.bats.length q.bc) := fun cx => cx.get 0 rfl rfl
  refine fun _ w G2 cx => ⟨_, _, _, c1 cx, Br.intro (fun h => fun w G2 cx => ⟨?_, cx.left⟩) (fun h => fun w G2 cx => ⟨_, _, _, c1 cx, fun w G2 cx => ⟨_, _, _, c1 cx, by unfold I64; omega, ?_⟩⟩)⟩
  · have h := of_decide_eq_true h
    have : st.bats = [] := List.eq_nil_of_length_eq_zero (by omega)
    unfold lastP
    rw [this]; rfl
  · have h := of_decide_eq_false h
    have h0 : st.bats.length ≠ 0 := by omega
    obtain ⟨g, hg⟩ := hq.bpt (by omega)
    rw [lastP_at h0]
    refine ⟨by omega, ptrK_intro g 0 hg fun w G2 cx => ⟨_, _, _, ?_, fun w G2 cx => ⟨rfl, cx.left⟩⟩⟩
    rw [show ((st.bats.length : Int) - 1).toNat = st.bats.length - 1 by omega]
    exact led_bat (G := G ++ G2) (cx.re (List.append_assoc _ _ _)) hg (by omega)

theorem Last_q [Stable Φ] (hq : LedQ q st) (hs : LedS st) : GivesQ (LedO q st) Φ Tryz.prog F.ledger_Ledger_Last #[led q] (.int .i64 (lastP st).no) :=
  gives_q (Bledger_Ledger_Last_run q.lb 0) fun W R => fun w G cx => last_use hq hs cx fun w G cx => ⟨rfl, cx.left⟩
theorem Mark_q [Stable Φ] (hq : LedQ q st) (hs : LedS st) : GivesQ (LedO q st) Φ Tryz.prog F.ledger_Ledger_Mark #[led q] (.int .i64 (lastP st).mark) :=
  gives_q (Bledger_Ledger_Mark_run q.lb 0) fun W R => fun w G cx => last_use hq hs cx fun w G cx => ⟨rfl, cx.left⟩
theorem Next_q [Stable Φ] (hs : LedS st) : GivesQ (LedO q st) Φ Tryz.prog F.ledger_Ledger_Next #[led q] (.int .i64 ((st.lines.length : Int) + 1)) := by
  have := hs.lines
  exact gives_q (Bledger_Ledger_Next_run q.lb 0) fun W R => fun w G cx => ⟨_, _, _, led_cell (i := 0) cx rfl, by unfold I64; omega, fun w G cx => ⟨rfl, cx.left⟩⟩
end
end Go.Proofs.YtbkpfhhhbhaecaaGreatDoor
end

section
set_option linter.unusedVariables false
set_option linter.unusedSimpArgs false
namespace Go.Proofs.YtbkpfhhhbhaecaaGreatDoor
open Go.Vc


theorem elems_len7 {M : List Nat} {w : World} {cs : List Value} {l : List LineD} (h : Elems M w cs l) : cs.length = l.length * 7 := h.1
theorem elems_one7 {M : List Nat} {w : World} {cs : List Value} {l : List LineD} (h : Elems M w cs l) : (cs.all fun u => oneC u) = true := by
  have h1 := elems_len7 h
  refine List.all_eq_true.2 fun u hu => ?_
  obtain ⟨j, hj, rfl⟩ := List.getElem_of_mem hu
  have hi : j / 7 < l.length := by omega
  obtain ⟨p, c, e, _⟩ := lrow h hi
  have ha : (((cs.drop (j / 7 * 7)).take 7).all fun u => oneC u) = true := by rw [e]; rfl
  have hm : cs[j] ∈ (cs.drop (j / 7 * 7)).take 7 := by
    refine List.mem_iff_getElem?.2 ⟨j % 7, ?_⟩
    rw [List.getElem?_take_of_lt (by omega), List.getElem?_drop, show j / 7 * 7 + j % 7 = j by omega, List.getElem?_eq_getElem hj]
  exact List.all_eq_true.1 ha _ hm
theorem elems_sub7 {M : List Nat} {w : World} {cs : List Value} {l : List LineD} (h : Elems M w cs l) (i n : Nat) (hi : i + n ≤ l.length) : Elems M w ((cs.drop (i * 7)).take (n * 7)) ((l.drop i).take n) := by
  have h1 := elems_len7 h
  have hsz : (Gv.ty LineD).size = 7 := rfl
  have hl : ((l.drop i).take n).length = n := by rw [List.length_take, List.length_drop]; omega
  refine ⟨by rw [hl, hsz, List.length_take, List.length_drop]; omega, fun j hj => ?_⟩
  rw [hl] at hj
  have := h.2 (i + j) (by omega)
  rw [hsz] at this ⊢
  have e : (((cs.drop (i * 7)).take (n * 7)).drop (j * 7)).take 7 = (cs.drop ((i + j) * 7)).take 7 := by
    rw [List.drop_take, List.take_take, List.drop_drop, show i * 7 + j * 7 = (i + j) * 7 by omega, show min 7 (n * 7 - j * 7) = 7 by omega]
  rw [e, List.getElem_take, List.getElem_drop]
  exact this

structure Src (S : List Own) (Φ : PW) (p : Option Addr) (l : List LineD) (cs : List Value) : Prop where
  ptr : 0 < l.length → ∃ b o, p = some ⟨b, o, none⟩
  rd : ∀ {W w : World} {G : List Own} {b o : Nat}, p = some ⟨b, o, none⟩ → Ctx W w (S ++ G) Φ → ∀ j v, cs[j]? = some v → w.cell? ⟨b, o + j, none⟩ = some v
  el : ∀ M w, Φ M w → Elems M w cs l

section
variable {Φ : PW} {q : LP} {st : LedD} {W w : World} {R S G : List Own} {p : Option Addr} {cap : Nat} {l : List LineD} {cs : List Value}

theorem Src.more {Ψ : PW} (h : Src S Φ p l cs) (hi : ∀ M w, Ψ M w → Φ M w) : Src S Ψ p l cs := ⟨h.ptr, fun e c => h.rd e (c.weak hi), fun M w x => h.el M w (hi M w x)⟩
theorem Src.app (h : Src S Φ p l cs) : Src (S ++ R) Φ p l cs := ⟨h.ptr, fun e c => h.rd e (c.re (List.append_assoc _ _ _)), h.el⟩

def SrcF (p : Option Addr) (l : List LineD) (cs : List Value) : PW := fun M w => (∀ b o, p = some ⟨b, o, none⟩ → 0 < l.length → RowIn b o cs M w) ∧ Elems M w cs l
instance instStableSrcF (p : Option Addr) (l : List LineD) (cs : List Value) : Stable (SrcF p l cs) := ⟨fun hs h => ⟨fun b o e h0 => Stable.step (Φ := fun M w => RowIn b o cs M w) hs (h.1 b o e h0), Stable.step (Φ := fun M w => Elems M w cs l) hs h.2⟩⟩
theorem srcOf (c : Ctx W w S Φ) (h : Sl (dom S) w p l) : ∃ cs, Ctx W w S (fun M w => Φ M w ∧ SrcF p l cs M w) := by
  rcases Nat.eq_zero_or_pos l.length with h0 | h0
  · have hl : l = [] := List.eq_nil_of_length_eq_zero h0
    subst hl
    exact ⟨[], c.add ⟨fun _ _ _ h => by simp at h, Elems.nil⟩⟩
  · obtain ⟨b, o, news, hp, g1, g2, g3, g4⟩ := h.cells line_one h0
    obtain ⟨b', o', _, e', hb, hr, _⟩ := h 0 h0
    rw [hp] at e'
    cases e'
    refine ⟨news, c.add ⟨fun b' o' e _ => ?_, g3⟩⟩
    rw [hp] at e
    cases e
    refine ⟨hb, fun j hj => g2 j _ (List.getElem?_eq_getElem hj), ?_⟩
    have hsz : (Gv.ty LineD).size = 7 := rfl
    rw [hsz] at g1
    have := g2 0 _ (List.getElem?_eq_getElem (by omega))
    rcases Nat.lt_or_ge b w.heap.size with h' | h'
    · exact h'
    · simp [World.cell?, Array.getElem?_eq_none h'] at this
theorem src_fact (hth : There p l.length) (hf : ∀ M w, Φ M w → SrcF p l cs M w) : Src [] Φ p l cs where
  ptr := hth
  rd := fun {W w G b o} e c j v hj => by
    have hl := elems_len7 (hf _ _ c.phi).2
    have hjl : j < cs.length := (List.getElem?_eq_some_iff.1 hj).1
    have := ((hf _ _ c.phi).1 b o e (by omega)).2.1 j hjl
    rw [this, ← hj, List.getElem?_eq_getElem hjl]
  el := fun M w h => (hf M w h).2

theorem src_led (hq : LedQ q st) (hF : ∀ M w, Φ M w → Elems M w q.cs st.lines) (i n : Nat) (hi : i + n ≤ st.lines.length) : Src (LedO q st) Φ (subPtr q.lp 7 i q.lc) ((st.lines.drop i).take n) ((q.cs.drop (i * 7)).take (n * 7)) := by
  have hl : ((st.lines.drop i).take n).length = n := by rw [List.length_take, List.length_drop]; omega
  have hsub : 0 < n → ∀ g, q.lp = some ⟨g, 0, none⟩ → subPtr q.lp 7 i q.lc = some ⟨g, i * 7, none⟩ := fun h0 g hg => by
    have := hq.lcap.1
    unfold subPtr
    rw [if_neg (by omega), hg]
    simp [Addr.add]
    omega
  refine ⟨fun h => ?_, fun {W w G b o} e c j v hj => ?_, fun M w h => elems_sub7 (hF M w h) i n hi⟩
  · rw [hl] at h
    obtain ⟨g, hg⟩ := hq.lpt (by omega)
    exact ⟨g, _, hsub h g hg⟩
  · have hjl : j < ((q.cs.drop (i * 7)).take (n * 7)).length := (List.getElem?_eq_some_iff.1 hj).1
    rw [List.length_take, List.length_drop] at hjl
    obtain ⟨g, hg⟩ := hq.lpt (by omega)
    rw [hsub (by omega) g hg] at e
    cases e
    refine c.bufGet 1 rfl hg ?_
    rw [List.getElem?_take_of_lt (by omega), List.getElem?_drop] at hj
    exact hj

theorem CloneL_new [Stable Φ] (src : Src S Φ p l cs) (hlen : l.length ≤ 1000000) (c : Ctx W w S Φ) :
    Calls Tryz.prog F.slices_Clone_api_Line_api_Line #[.slice p l.length cap] w fun e w' => ∃ p' c' cs', e = .returned (.slice p' l.length c') ∧ Ctx W w' (bufL p' l.length c' cs' :: S) (fun M w => Φ M w ∧ Elems M w cs' l) := by
  refine (Bslices_Clone_api_Line_api_Line_run p l.length cap (J := fun v w' => ∃ p' c' cs', v = .slice p' l.length c' ∧ Ctx W w' (bufL p' l.length c' cs' :: S) (fun M w => Φ M w ∧ Elems M w cs' l)) c ?_).mono fun e w' ⟨v, he, p', c', cs', hv, rest⟩ => ⟨p', c', cs', by rw [he, hv], rest⟩
  clear c
  refine Br.intro (fun hn => fun w F c => ?_) (fun hn => fun k w F c => ?_)
  · have hl : l = [] := by
      rcases Nat.eq_zero_or_pos l.length with h0 | h0
      · exact List.eq_nil_of_length_eq_zero h0
      · obtain ⟨b, o, e⟩ := src.ptr h0
        rw [e] at hn; cases hn
    subst hl
    exact ⟨none, 0, [], rfl, (c.left.buf0 51 7).add Elems.nil⟩
  · have c' : Ctx W w (bufL (some ⟨k, 0, none⟩) 0 0 [] :: (S ++ F)) Φ := c.toBuf 0 0 7 rfl (by simp) (by simp [maxLen])
    obtain ⟨i, z, e1, e2, e3, e4, e5, e6⟩ := appB_out (P := Tryz.prog) (ts := 31) (t := 51) (size := 7) (bytes := 72) (by kernel_rfl)
    rcases Nat.eq_zero_or_pos l.length with h0 | h0
    · have hl : l = [] := List.eq_nil_of_length_eq_zero h0
      subst hl
      exact ⟨_, _, _, w, run_app (c'.append0 0 rfl e1 e2 p cap), bufL (some ⟨k, 0, none⟩) 0 0 [] :: S, _, instStableAnd Φ (fun M w => Elems M w [] ([] : List LineD)), c'.add Elems.nil, fun w G c => ⟨some ⟨k, 0, none⟩, 0, [], rfl, c.left⟩⟩
    · obtain ⟨b, o, hp⟩ := src.ptr h0
      have hel := src.el _ _ c'.phi
      have hcl := elems_len7 hel
      obtain ⟨p', cap', w', hrun, cx⟩ := c'.append 0 rfl (ty := 31) e1 e2 e3 e4 e5 (a := ⟨b, o, none⟩) (m := l.length) (c2 := cap) (news := cs) h0 hcl (fun j u hj => by rw [addr_add]; exact src.rd hp c'.drop1 j u hj) (fun u hu => List.all_eq_true.1 (elems_one7 hel) u hu) (by rw [e6]; omega) (by omega)
      rw [← hp, Nat.zero_add] at hrun
      rw [Nat.zero_add] at cx
      exact ⟨_, _, _, w', run_app hrun, bufL p' l.length cap' cs :: S, _, instStableAnd Φ (fun M w => Elems M w cs l), cx.weak fun M w h => ⟨h, src.el M w h⟩, fun w G c => ⟨p', cap', cs, rfl, c.left⟩⟩

theorem CloneV_sl [Stable Φ] {r : List ValD} [hΦ : Has Φ (fun M w => Sl M w p r)] (hlen : r.length ≤ 1000000) : GivesSl Φ Tryz.prog F.slices_Clone_api_Value_api_Value #[.slice p r.length cap] r id :=
  ⟨fun W w S c => (CloneV_in (Φ := Φ) p cap r (fun M w h => hΦ.go M w h) (by omega)).use c fun p1 cap1 ds w cx => by
    obtain ⟨c2, hs, _, h2, h3⟩ := Ctx.freeze (α := ValD) cx cx.phi.2
    exact ⟨p1, cap1, rfl, h2, h3, (c2.add hs).weak fun M w h => ⟨h.1.1, h.2⟩⟩⟩

theorem l_row {W w w' : World} {S : List Own} {Φ : PW} [Stable Φ] {g n cap : Nat} {cs : List Value} {l : List LineD} (cx : Ctx W w (bufL (some ⟨g, 0, none⟩) n cap cs :: S) (fun M w => Φ M w ∧ Elems M w cs l)) {i : Nat} (hi : i < l.length) {p : Option Addr} {c : Nat}
    (h1 : l[i].row.length ≤ c) (h2 : c ≤ maxLen) (hs : ∀ M w, Φ M w → Sl M w p l[i].row) (e : w' = w.setCell ⟨g, i * 7 + 3, none⟩ (.slice p l[i].row.length c)) :
    ∃ cs', Ctx W w' (bufL (some ⟨g, 0, none⟩) n cap cs' :: S) (fun M w => Φ M w ∧ Elems M w cs' l) := by
  have hl := lcells_len cx.phi.2
  obtain ⟨p0, c0, hp, _, _, h3, _⟩ := lrow cx.phi.2 hi
  have h := cx.bufPuts 0 rfl rfl (vs := [.slice p l[i].row.length c]) (o := i * 7 + 3) (by omega) (by simp only [List.length_cons, List.length_nil]; omega) e
  have hrows := rows_of (vs := l[i].cells p0 c0) hp
  rw [setL_cell (l[i].cells p0 c0) 3 cs (i * 7) _ (by show 3 < 7; decide) hrows, show (l[i].cells p0 c0).set 3 (.slice p l[i].row.length c) = l[i].cells p c from rfl] at h
  refine ⟨_, h.weak fun M w h => ⟨h.1, ?_⟩⟩
  have := h.2.setAt i hi (rep_line h1 h2 h3 (hs M w h.1))
  rw [List.set_getElem_self] at this
  exact this

set_option maxHeartbeats 1000000 in
theorem Cloned_new [Stable Φ] (src : Src S Φ p l cs) (hlen : l.length ≤ 1000000) (hrow : ∀ x ∈ l, x.row.length ≤ 1000000) (c : Ctx W w S Φ) :
    Calls Tryz.prog F.ledger_cloned #[.slice p l.length cap] w fun e w' => ∃ p' c' cs', e = .returned (.slice p' l.length c') ∧ Ctx W w' (bufL p' l.length c' cs' :: S) (fun M w => Φ M w ∧ Elems M w cs' l) := by
  refine (Bledger_cloned_run p l.length cap (J := fun v w' => ∃ p' c' cs', v = .slice p' l.length c' ∧ Ctx W w' (bufL p' l.length c' cs' :: S) (fun M w => Φ M w ∧ Elems M w cs' l)) c ?_).mono fun e w' ⟨v, he, p', c', cs', hv, rest⟩ => ⟨p', c', cs', by rw [he, hv], rest⟩
  clear c
  refine fun w G c => (CloneL_new (S := S ++ G) src.app hlen c).mono fun e w' ⟨p1, c1, cs1, he, cx⟩ => ⟨p1, l.length, c1, he, bufL p1 l.length c1 cs1 :: S, (fun M w => Φ M w ∧ Elems M w cs1 l), inferInstance, cx, ?_⟩
  clear c
  have hel := cx.phi.2
  have hpt : 0 < l.length → ∃ g, p1 = some ⟨g, 0, none⟩ := fun h0 => l_ptr cx (by rw [elems_len7 hel]; omega)
  clear cx hel
  refine exI_mk (fun iI R' Φ' m => ∃ i cs2, iI = (i : Nat) ∧ i ≤ l.length ∧ R' = bufL p1 l.length c1 cs2 :: S ∧ Φ' = (fun M w => Φ M w ∧ Elems M w cs2 l) ∧ m = l.length - i) ⟨⟨_, _, _, instStableAnd Φ (fun M w => Elems M w cs1 l), fun w G cx => cx, 0, cs1, rfl, Nat.zero_le _, rfl, rfl, rfl⟩, ?_⟩
  rintro iI R1 Φ1 m _ ⟨i, cs2, rfl, hi, rfl, rfl, rfl⟩
  refine Br.intro (fun hlt => ?_) (fun hge => fun w G cx => ⟨p1, c1, cs2, rfl, cx.left⟩)
  have hlt : i < l.length := by have := of_decide_eq_true hlt; omega
  obtain ⟨g, rfl⟩ := hpt (by omega)
  have hst : Stable (fun M w => Φ M w ∧ Elems M w cs2 l) := instStableAnd Φ (fun M w => Elems M w cs2 l)
  refine ⟨by omega, ptrK_intro g 0 rfl fun w G cx => ?_⟩
  obtain ⟨p0, c0, hp, _, _, _, _⟩ := lrow cx.phi.2 hlt
  refine ⟨p0, l[i].row.length, c0, ?_, fun w G cx => ?_⟩
  · have := l_at (W := W) (w := w) (Φ := fun M w => Φ M w ∧ Elems M w cs2 l) (S := S ++ G) cx hp 3 (by simp)
    rw [show 0 + (i : Int).toNat * 7 + 3 = i * 7 + 3 by omega]
    exact this
  have hrd : ∀ M w, (Φ M w ∧ Elems M w cs2 l) → Sl M w p0 l[i].row := fun M w h => by
    have := h.2.2 i hlt
    rw [show (Gv.ty LineD).size = 7 from rfl, hp] at this
    exact line_row this
  have hh : Has (fun M w => Φ M w ∧ Elems M w cs2 l) (fun M w => Sl M w p0 l[i].row) := ⟨hrd⟩
  refine (CloneV_sl (r := l[i].row) (hrow _ (List.getElem_mem _))).to cx fun p3 c3 f1 f2 st3 => ?_
  clear cx
  refine ⟨by omega, ptrK_intro g 0 rfl fun w G cx => ⟨?_, fun w2 hw2 => ?_⟩⟩
  · have hl := elems_len7 cx.phi.1.2
    exact l_can (S := S ++ G) cx (by omega)
  · have cx2 : Ctx W w (bufL (some ⟨g, 0, none⟩) l.length c1 cs2 :: (S ++ G)) (fun M w => (Φ M w ∧ Sl M w p3 l[i].row) ∧ Elems M w cs2 l) := cx.weak fun M w h => ⟨⟨h.1.1, h.2⟩, h.1.2⟩
    have st5 : Stable (fun M w => Sl M w p3 l[i].row) := instStableSl p3 l[i].row
    have st4 : Stable (fun M w => Φ M w ∧ Sl M w p3 l[i].row) := @instStableAnd Φ (fun M w => Sl M w p3 l[i].row) _ st5
    obtain ⟨cs3, cx3⟩ := l_row (w' := w2) (Φ := fun M w => Φ M w ∧ Sl M w p3 l[i].row) cx2 hlt f1 f2 (fun M w h => h.2) (by rw [hw2]; congr 2; omega)
    exact ⟨bufL (some ⟨g, 0, none⟩) l.length c1 cs3 :: S, _, instStableAnd Φ (fun M w => Elems M w cs3 l), cx3.weak fun M w h => ⟨h.1.1, h.2⟩, by unfold I64; omega, _, _, l.length - (i + 1), instStableAnd Φ (fun M w => Elems M w cs3 l), fun w G cx => cx, ⟨i + 1, cs3, rfl, hlt, rfl, rfl, rfl⟩, by omega⟩

theorem Cloned_sl [Stable Φ] [hΦ : Has Φ (fun M w => Sl M w p l)] (hlen : l.length ≤ 1000000) (hrow : ∀ x ∈ l, x.row.length ≤ 1000000) : GivesSl Φ Tryz.prog F.ledger_cloned #[.slice p l.length cap] l id :=
  .there (fun M w h => (hΦ.go M w h).there) fun hth => ⟨fun W w S c => by
    obtain ⟨cs, c1⟩ := srcOf c (hΦ.go _ _ c.phi)
    refine (Cloned_new (S := S) (Φ := fun M w => Φ M w ∧ SrcF p l cs M w) (src_fact (Φ := fun M w => Φ M w ∧ SrcF p l cs M w) hth (fun M w h => h.2)).app hlen hrow c1).mono fun e w' ⟨p', c', cs', he, cx⟩ => ?_
    obtain ⟨c2, hs, _, h2, h3⟩ := Ctx.freeze (α := LineD) cx cx.phi.2
    exact ⟨p', c', he, h2, h3, (c2.add hs).weak fun M w h => ⟨h.1.1.1, h.2⟩⟩⟩
end
end Go.Proofs.YtbkpfhhhbhaecaaGreatDoor
end

section
set_option linter.unusedVariables false
set_option linter.unusedSimpArgs false
namespace Go.Proofs.YtbkpfhhhbhaecaaGreatDoor
open Go.Vc


theorem seg_sum {seg : List DeltaD} {k0 : Key} (h : ∀ x ∈ seg, x.key = k0) (k : Key) (hk : k ≠ k0) : sumK seg k = 0 := sumK_none fun x hx e => hk (by rw [← e, h x hx])

theorem Norm.snoc {c : List DeltaD} {x : DeltaD} (h : Norm c) (h1 : ∀ y ∈ c, cmpK y.key x.key < 0) (h2 : x.n ≠ 0) (h3 : I64 x.n) : Norm (c ++ [x]) := by
  refine ⟨List.pairwise_append.2 ⟨h.asc, List.pairwise_singleton _ _, fun y hy z hz => ?_⟩, fun y hy => ?_, fun y hy => ?_⟩
  · rw [List.mem_singleton.1 hz, cmpD_key]; exact h1 y hy
  · rcases List.mem_append.1 hy with hy | hy
    · exact h.nz y hy
    · rw [List.mem_singleton.1 hy]; exact h2
  · rcases List.mem_append.1 hy with hy | hy
    · exact h.i64 y hy
    · rw [List.mem_singleton.1 hy]; exact h3

theorem find_group {A seg C : List DeltaD} {k0 : Key} {N : Int} (h : ∀ x ∈ seg, x.key = k0) (hN : N = findP seg k0) (k : Key) :
    (findP (A ++ (⟨k0.1, k0.2, N⟩ :: C)) k = findP (A ++ (seg ++ C)) k) ∧ (N = 0 → findP (A ++ C) k = findP (A ++ (seg ++ C)) k) := by
  have key : (((if k0 = k then N else 0) : Int) - sumK seg k) % 18446744073709551616 = 0 := by
    by_cases hk : k0 = k
    · subst hk
      rw [if_pos rfl, hN]
      exact w64_mod _
    · rw [if_neg hk, seg_sum h k (fun e => hk e.symm)]
      rfl
  have e1 : sumK (A ++ (⟨k0.1, k0.2, N⟩ :: C)) k = sumK A k + ((if k0 = k then N else 0) + sumK C k) := by rw [sumK_app]; rfl
  have e2 : sumK (A ++ (seg ++ C)) k = sumK A k + (sumK seg k + sumK C k) := by rw [sumK_app, sumK_app]
  refine ⟨?_, fun h0 => ?_⟩
  · unfold findP
    rw [e1, e2]
    exact w64_cong (by omega)
  · unfold findP
    rw [sumK_app, e2]
    refine w64_cong ?_
    rw [h0] at key
    have : ((if k0 = k then (0 : Int) else 0)) = 0 := by split <;> rfl
    omega

theorem find_snoc {seg : List DeltaD} {y : DeltaD} {k0 : Key} (hy : y.key = k0) : findP (seg ++ [y]) k0 = w64 (findP seg k0 + y.n) := by
  unfold findP
  rw [w64_l, sumK_app]
  simp only [sumK]
  rw [if_pos hy, Int.add_zero]

theorem sub_at {g i k c : Nat} (h : k < c) : subPtr (some ⟨g, i * 3, none⟩) 3 k c = some ⟨g, (i + k) * 3, none⟩ := by
  unfold subPtr
  rw [if_neg (by omega), Option.map_some]
  congr 1
  unfold Addr.add
  split
  · rw [show k = 0 by omega, Nat.add_zero]
  · show Addr.mk g (i * 3 + k * 3) none = _
    rw [Nat.add_mul]

structure COuter (l : List DeltaD) (es outs : List DE) (i : Nat) : Prop where
  le : i ≤ es.length
  norm : Norm (outs.map DE.d)
  lt : ∀ x ∈ outs, ∀ y ∈ es.drop i, cmpK x.d.key y.d.key < 0
  find : ∀ k, findP (outs.map DE.d ++ (es.drop i).map DE.d) k = findP l k
  few : outs.length ≤ i

theorem COuter.step {l : List DeltaD} {es outs : List DE} {i : Nat} (h : COuter l es outs i) {X : DE} (hX : X ∈ es.drop i) {j : Nat} (hij : i + j ≤ es.length) (hj : 1 ≤ j) (hk : ∀ y ∈ (es.drop i).take j, y.d.key = X.d.key) {N : Int} (hN : N = findP (((es.drop i).take j).map DE.d) X.d.key)
    (hgt : ∀ y ∈ es.drop (i + j), cmpK X.d.key y.d.key < 0) : (N = 0 → COuter l es outs (i + j)) ∧ (N ≠ 0 → ∀ (p : Option Addr) (c : Nat), COuter l es (outs ++ [⟨⟨X.d.time, X.d.row, N⟩, p, c⟩]) (i + j)) := by
  have hdr : es.drop i = (es.drop i).take j ++ es.drop (i + j) := by rw [← List.drop_drop, List.take_append_drop]
  have hkm : ∀ x ∈ ((es.drop i).take j).map DE.d, x.key = X.d.key := fun x hx => by
    obtain ⟨y, hy, rfl⟩ := List.mem_map.1 hx
    exact hk y hy
  have hsub : ∀ y ∈ es.drop (i + j), y ∈ es.drop i := fun y hy => by rw [hdr]; exact List.mem_append_right _ hy
  have hf : ∀ k, findP (outs.map DE.d ++ (((es.drop i).take j).map DE.d ++ (es.drop (i + j)).map DE.d)) k = findP l k := fun k => by
    rw [← List.map_append, ← hdr]; exact h.find k
  refine ⟨fun h0 => ⟨hij, h.norm, fun x hx y hy => h.lt x hx y (hsub y hy), fun k => ?_, by have := h.few; omega⟩, fun h0 p c => ⟨hij, ?_, fun x hx y hy => ?_, fun k => ?_, by rw [List.length_append]; have := h.few; simp; omega⟩⟩
  · rw [← hf k]
    exact (find_group (A := outs.map DE.d) (C := (es.drop (i + j)).map DE.d) hkm hN k).2 h0
  · rw [List.map_append]
    refine Norm.snoc h.norm (fun y hy => ?_) h0 (by rw [hN]; exact w64_in _)
    obtain ⟨z, hz, rfl⟩ := List.mem_map.1 hy
    exact h.lt z hz X hX
  · rcases List.mem_append.1 hx with hx | hx
    · exact h.lt x hx y (hsub y hy)
    · rw [List.mem_singleton.1 hx]; exact hgt y hy
  · rw [← hf k, List.map_append, List.append_assoc]
    exact (find_group (A := outs.map DE.d) (C := (es.drop (i + j)).map DE.d) hkm hN k).1

theorem cmpFn_delta {Φ : PW} [Stable Φ] {es : List DE} (hrow : ∀ x ∈ es, x.d.row.length ≤ 1000000) : CmpFn (fun M w => Φ M w ∧ EPhi es M w) F.delta_compare #[] (fun x => x ∈ es) :=
  ⟨by kernel_rfl, fun x y hx hy => compareD_in x.d y.d x.p y.p x.c y.c (fun M w h => delta_row (h.2 x hx)) (fun M w h => delta_row (h.2 y hy)) (by have := hrow x hx; omega)⟩

theorem cell3 {w : World} {g o : Nat} {X : DE} (h : RowAt w g o X.cells) : w.cell? ⟨g, o + 2, none⟩ = some (.int .i64 X.d.n) := by
  have := h 2 (by simp)
  simpa using this

set_option maxHeartbeats 4000000 in
theorem Consolidate_new {Φ : PW} [Stable Φ] (p : Option Addr) (cap : Nat) (l : List DeltaD) (hΦ : ∀ M w, Φ M w → Sl M w p l) (hlen : l.length ≤ 1000000) (hrow : ∀ x ∈ l, x.row.length ≤ 1000000) : GivesNew Φ Tryz.prog F.delta_Consolidate #[.slice p l.length cap] (consP l) 73 := by
  refine gives_new (Bdelta_Consolidate_run p l.length cap) fun W R => ?_
  refine fun w G cx => (CloneD_in p cap l hΦ (by omega)).use cx fun p1 cap1 cs w cx => ?_
  obtain ⟨es0, rfl, hes⟩ := elems_ex cx.phi.2
  have hl : l.length = es0.length := by rw [← hes, List.length_map]
  have cx1 : Ctx W w (bufE p1 cap1 es0 :: (R ++ G)) (fun M w => Φ M w ∧ EPhi es0 M w) := by
    have h1 := cx.weak (Ψ := fun M w => Φ M w ∧ EPhi es0 M w) fun M w h => ⟨h.1, elems_e (by rw [hes]; exact h.2)⟩
    rw [hl] at h1
    exact h1
  have hrow0 : ∀ x ∈ es0, x.d.row.length ≤ 1000000 := fun x hx => hrow x.d (by rw [← hes]; exact List.mem_map_of_mem hx)
  have hf := cmpFn_delta (Φ := Φ) hrow0
  clear cx
  refine ⟨p1, es0.length, cap1, by rw [hl], bufE p1 cap1 es0 :: R, _, inferInstance, cx1, fun w G cx => ?_⟩
  refine SortStable_use (S := R ++ G) hf es0 (fun e h => h) cx (by omega) fun es w hp ha cx => ?_
  have hn : es0.length = es.length := hp.length_eq.symm
  have hi0 : ∀ x ∈ es, EPhi es0 = EPhi es0 := fun _ _ => rfl
  have cx2 : Ctx W w (bufE p1 cap1 es :: (R ++ G)) (fun M w => Φ M w ∧ EPhi es M w) := cx.weak fun M w h => ⟨h.1, fun x hx => h.2 x (hp.mem_iff.1 hx)⟩
  have hfind : ∀ k, findP (es.map DE.d) k = findP l k := fun k => by rw [← hes]; exact findP_perm (hp.map DE.d) k
  have hrowE : ∀ x ∈ es, x.d.row.length ≤ 1000000 := fun x hx => hrow0 x (hp.mem_iff.1 hx)
  have hcmp := (cmpFn_delta (Φ := Φ) hrowE).2
  have hpg : 0 < es.length → ∃ g, p1 = some ⟨g, 0, none⟩ := fun h => e_ptr cx2 h
  have hcap : es.length ≤ cap1 := (cx2.bufLen 0 rfl).2.1
  rw [hn]
  refine ⟨rfl, bufE p1 cap1 es :: R, _, inferInstance, cx2, ?_⟩
  clear hf hrow0 hi0 cx cx1 cx2 hrow hp hes
  refine exI_mk (fun sp sn sc op on oc R' Φ' k => ∃ (i : Nat) (outs : List DE), COuter l es outs i ∧ sn = es.length - i ∧ sn ≤ sc ∧ (∀ g, p1 = some ⟨g, 0, none⟩ → i < es.length → sp = some ⟨g, i * 3, none⟩) ∧ on = outs.length ∧ R' = bufE op oc outs :: bufE p1 cap1 es :: R ∧ Φ' = (fun M w => (Φ M w ∧ EPhi es M w) ∧ EPhi outs M w) ∧ k = es.length - i)
    ⟨⟨bufE none 0 [] :: bufE p1 cap1 es :: R, fun M w => (Φ M w ∧ EPhi es M w) ∧ EPhi ([] : List DE) M w, _, inferInstance, fun w G cx => ((cx.weak fun M w h => ⟨h, fun x hx => by cases hx⟩).nobuf 73 3), 0, [], ⟨Nat.zero_le _, Norm.nil, by simp, fun k => hfind k, Nat.le_refl _⟩, by omega, by omega, fun g hg _ => by rw [hg, Nat.zero_mul], rfl, rfl, rfl, rfl⟩, ?_⟩
  rintro sp sn sc op on oc R1 Φ1 k _ ⟨i, outs, hco, rfl, hsc, hsp, rfl, rfl, rfl, rfl⟩
  have hile := hco.le
  refine Br.intro (fun hlt => ?_) (fun hge => fun w G cx => ?_)
  · have hlt := of_decide_eq_true hlt
    have hlt : i < es.length := by omega
    obtain ⟨g, rfl⟩ := hpg (by omega)
    have hsp := hsp g rfl hlt
    subst hsp
    have hstP : Stable (fun M w => (Φ M w ∧ EPhi es M w) ∧ EPhi outs M w) := inferInstance
    obtain ⟨X, hX⟩ : ∃ X, es[i]? = some X := ⟨_, List.getElem?_eq_getElem hlt⟩
    have hXm : X ∈ es := List.mem_of_getElem? hX
    have hXd : X ∈ es.drop i := by
      rw [List.drop_eq_getElem_cons hlt]
      rw [List.getElem?_eq_getElem hlt] at hX
      rw [Option.some.inj hX]; simp
    have hdX : es.drop i = X :: es.drop (i + 1) := by
      rw [List.drop_eq_getElem_cons hlt]
      rw [List.getElem?_eq_getElem hlt] at hX
      rw [Option.some.inj hX]
    refine ⟨by omega, ptrK_intro g (i * 3) rfl fun w G cx => ⟨X.d.time, X.p, X.d.row.length, X.c, X.d.n, e_row cx.swap hX, fun _ => ?_⟩⟩
    obtain ⟨hIt, hIn⟩ : I64 X.d.time ∧ I64 X.d.n := by
      obtain ⟨_, _, _, _, _, h1, h2, _⟩ := delta_cells (cx.phi.1.2 X hXm)
      exact ⟨h1, h2⟩
    clear cx
    refine exI_mk (fun kI tm rp rn rc nn R' Φ' k => ∃ j : Nat, kI = j ∧ 1 ≤ j ∧ i + j ≤ es.length ∧ tm = X.d.time ∧ rp = X.p ∧ rn = X.d.row.length ∧ rc = X.c ∧ nn = findP (((es.drop i).take j).map DE.d) X.d.key ∧ (∀ y ∈ (es.drop i).take j, y.d.key = X.d.key) ∧ R' = bufE op oc outs :: bufE (some ⟨g, 0, none⟩) cap1 es :: R ∧ Φ' = (fun M w => (Φ M w ∧ EPhi es M w) ∧ EPhi outs M w) ∧ k = es.length - i - j)
      ⟨⟨_, _, _, hstP, fun w G cx => cx, 1, rfl, Nat.le_refl _, hlt, rfl, rfl, rfl, rfl, ?_, ?_, rfl, rfl, rfl⟩, ?_⟩
    · rw [hdX]
      show X.d.n = w64 ((if X.d.key = X.d.key then X.d.n else 0) + 0)
      rw [if_pos rfl, Int.add_zero, w64_id hIn]
    · rw [hdX]
      intro y hy
      simp at hy
      rw [hy]
    rintro kI _ _ _ _ nn R2 Φ2 k _ ⟨j, rfl, hj1, hj2, rfl, rfl, rfl, rfl, hnn, hkeys, rfl, rfl, rfl⟩
    have hXlen : X.d.row.length ≤ 1000000 := hrowE X hXm
    refine ⟨_, _, hstP, fun w G cx => cx, Br.intro (fun hlt2 => ?_) (fun hge2 => ?_)⟩
    case' refine_2 =>
      have hgt : ∀ y ∈ es.drop (i + j), cmpK X.d.key y.d.key < 0 := by
        have hge2 := of_decide_eq_false hge2
        rw [List.drop_eq_nil_of_le (by omega)]
        intro y hy; cases hy
    case' refine_1 =>
      have hlt2 := of_decide_eq_true hlt2
      have hij : i + j < es.length := by omega
      obtain ⟨Y, hY⟩ : ∃ Y, es[i + j]? = some Y := ⟨_, List.getElem?_eq_getElem hij⟩
      have hYm : Y ∈ es := List.mem_of_getElem? hY
      have hcall : GivesIn (fun M w => (Φ M w ∧ EPhi es M w) ∧ EPhi outs M w) Tryz.prog F.delta_compare #[.agg #[.int .i64 X.d.time, .slice X.p X.d.row.length X.c, .int .i64 nn], Y.v] (.int .i64 (cmpD ⟨X.d.time, X.d.row, nn⟩ Y.d)) :=
        compareD_in ⟨X.d.time, X.d.row, nn⟩ Y.d X.p Y.p X.c Y.c (fun M w h => show Sl M w X.p X.d.row from delta_row (h.1.2 X hXm)) (fun M w h => delta_row (h.1.2 Y hYm)) (by show X.d.row.length ≤ _; omega)
      have hYr : ∀ {w : World} {G : List Own}, Ctx W w (bufE op oc outs :: bufE (some ⟨g, 0, none⟩) cap1 es :: R ++ G) (fun M w => (Φ M w ∧ EPhi es M w) ∧ EPhi outs M w) → RowAt w g (i * 3 + (j : Int).toNat * 3) Y.cells := fun cx => by
        rw [Int.toNat_natCast, ← Nat.add_mul]; exact e_row cx.swap hY
      refine ⟨by omega, ptrK_intro g (i * 3) rfl ⟨Y.d.time, Y.p, Y.d.row.length, Y.c, Y.d.n, fun w G cx => ⟨_, Y.p, _, Y.c, _, hYr cx, rfl⟩, fun w G cx => hcall.use cx fun w cx => ⟨_, rfl, bufE op oc outs :: bufE (some ⟨g, 0, none⟩) cap1 es :: R, _, hstP, cx, Br.intro (fun hc => ?_) (fun hc => ?_)⟩⟩⟩
    case' refine_1.refine_1 =>
      have hc := of_decide_eq_true hc
      rw [cmpD_key] at hc
      have hk := (cmpK_cmp.eq _ _).1 hc
      have hk' : Y.d.key = X.d.key := hk.symm
      have htk : (es.drop i).take (j + 1) = (es.drop i).take j ++ [Y] := by
        have hlt3 : j < (es.drop i).length := by rw [List.length_drop]; omega
        rw [List.take_succ_eq_append_getElem hlt3]
        congr 2
        rw [List.getElem_drop]
        rw [List.getElem?_eq_getElem hij] at hY
        exact Option.some.inj hY
      refine ⟨by omega, ptrK_intro g (i * 3) rfl fun w G cx => ⟨Y.d.n, cell3 (hYr cx), by unfold I64; omega, _, _, es.length - i - (j + 1), hstP, fun w G cx => cx, ⟨j + 1, by omega, by omega, by omega, rfl, rfl, rfl, rfl, ?_, ?_, rfl, rfl, rfl⟩, by omega⟩⟩
      · rw [htk, List.map_append, hnn]
        exact (find_snoc hk').symm
      · rw [htk]
        intro y hy
        rcases List.mem_append.1 hy with hy | hy
        · exact hkeys y hy
        · rw [List.mem_singleton.1 hy]; exact hk'
    case' refine_1.refine_2 =>
      have hgt : ∀ y ∈ es.drop (i + j), cmpK X.d.key y.d.key < 0 := by
        have hc := of_decide_eq_false hc
        rw [cmpD_key] at hc
        have hXi : es[i] = X := by rw [List.getElem?_eq_getElem hlt] at hX; exact Option.some.inj hX
        have hYi : es[i + j] = Y := by rw [List.getElem?_eq_getElem hij] at hY; exact Option.some.inj hY
        have h1 : leE es[i] es[i + j] := asc_le ordE ha (by omega) hij
        rw [hXi, hYi] at h1
        have h1 : cmpK X.d.key Y.d.key < 0 := by
          have h2 : cmpK X.d.key Y.d.key ≤ 0 := by rw [← cmpD_key]; exact h1
          have h3 : cmpK X.d.key Y.d.key ≠ 0 := hc
          omega
        intro y hy
        obtain ⟨q, hq, rfl⟩ := List.getElem_of_mem hy
        rw [List.length_drop] at hq
        rw [List.getElem_drop]
        have h2 : leE es[i + j] es[i + j + q] := asc_le ordE ha (by omega) (by omega)
        rw [hYi] at h2
        have h2 : cmpK Y.d.key es[i + j + q].d.key ≤ 0 := by rw [← cmpD_key]; exact h2
        rcases Int.lt_or_eq_of_le h2 with h3 | h3
        · exact cmpK_cmp.trans _ _ _ h1 h3
        · rw [← (cmpK_cmp.eq _ _).1 h3]; exact h1
      clear hc hcall hYr
    all_goals
      obtain ⟨hz, hnz⟩ := hco.step hXd (by omega) hj1 hkeys hnn hgt
      refine Br.intro (fun h0 => fun w G cx => ?_) (fun h0 => ⟨by omega, _, _, es.length - (i + j), hstP, fun w G cx => cx, ⟨i + j, outs, hz (by have := of_decide_eq_false h0; omega), by rw [Int.toNat_natCast]; omega, by rw [Int.toNat_natCast]; omega, fun g' hg' h => by cases hg'; rw [Int.toNat_natCast]; exact sub_at (by omega), rfl, rfl, rfl, rfl⟩, by omega⟩)
      have h0 : nn ≠ 0 := of_decide_eq_true h0
      have hco2 := hnz h0
      have hfew := hco.few
      refine (CloneV_in (Φ := fun M w => (Φ M w ∧ EPhi es M w) ∧ EPhi outs M w) X.p X.c X.d.row (fun M w h => delta_row (h.1.2 X hXm)) (by omega)).use cx fun q qc vc w cx => ?_
      obtain ⟨_, hq1, hq2⟩ := cx.bufLen 0 rfl
      obtain ⟨cx3, hs, _⟩ := Ctx.freeze (α := ValD) cx.fst cx.phi.2
      have hst2 : Stable (fun M w => (fun M w => (Φ M w ∧ EPhi es M w) ∧ EPhi outs M w) M w ∧ Sl M w q X.d.row) := inferInstance
      refine ⟨q, _, qc, rfl, bufE op oc outs :: bufE (some ⟨g, 0, none⟩) cap1 es :: R, _, hst2, cx3.add hs, fun k w G cx => ?_⟩
      obtain ⟨p', cap', w', hrun, _, cx'⟩ := Ctx.app1 (P := Tryz.prog) (ts := 44) (ty := 44) (kb := #[false, false]) (size := 3) (bytes := 40) cx (by kernel_rfl) (by omega) rfl rfl (by omega) (by omega)
      have hcells : cellsE outs ++ [.int .i64 X.d.time, .slice q X.d.row.length qc, .int .i64 nn] = cellsE (outs ++ [⟨⟨X.d.time, X.d.row, nn⟩, q, qc⟩]) := by rw [cellsE_app]; rfl
      have hlen1 : outs.length + 1 = (outs ++ [(⟨⟨X.d.time, X.d.row, nn⟩, q, qc⟩ : DE)]).length := by simp
      have hnI : I64 nn := by rw [hnn]; exact w64_in _
      have hst3 : Stable (fun M w => (Φ M w ∧ EPhi es M w) ∧ EPhi (outs ++ [(⟨⟨X.d.time, X.d.row, nn⟩, q, qc⟩ : DE)]) M w) := inferInstance
      rw [hcells, hlen1] at cx'
      refine ⟨p', _, cap', w', hrun, bufE p' cap' (outs ++ [(⟨⟨X.d.time, X.d.row, nn⟩, q, qc⟩ : DE)]) :: bufE (some ⟨g, 0, none⟩) cap1 es :: R, _, hst3, cx'.weak fun M w h => ⟨h.1.1, fun x hx => ?_⟩, by omega, _, _, es.length - (i + j), hst3, fun w G cx => cx, ⟨i + j, _, hco2 q qc, by rw [Int.toNat_natCast]; omega, by rw [Int.toNat_natCast]; omega, fun g' hg' h => by cases hg'; rw [Int.toNat_natCast]; exact sub_at (by omega), hlen1, rfl, rfl, rfl⟩, by omega⟩
      rcases List.mem_append.1 hx with hx | hx
      · exact h.1.2 x hx
      · rw [List.mem_singleton.1 hx]
        exact rep_delta hq1 hq2 hIt hnI h.2
  · have hge := of_decide_eq_false hge
    have hi : i = es.length := by omega
    have hnorm := hco.norm
    have hfi := hco.find
    rw [hi, List.drop_length] at hfi
    have hc : consP l = outs.map DE.d := consP_is hnorm fun k => by have := hfi k; rw [List.map_nil, List.append_nil] at this; exact this
    have hol : (consP l).length = outs.length := by rw [hc, List.length_map]
    refine ⟨op, oc, cellsE outs, by rw [hol], ?_⟩
    have hstP : Stable (fun M w => (Φ M w ∧ EPhi es M w) ∧ EPhi outs M w) := inferInstance
    have cx3 : Ctx W w (bufE op oc outs :: R) (fun M w => (Φ M w ∧ EPhi es M w) ∧ EPhi outs M w) := (cx.left.swap).drop1
    rw [hol]
    exact cx3.weak fun M w h => ⟨h.1.1, by rw [hc]; exact e_elems h.2⟩

end Go.Proofs.YtbkpfhhhbhaecaaGreatDoor
end

section
set_option linter.unusedVariables false
set_option linter.unusedSimpArgs false
namespace Go.Proofs.YtbkpfhhhbhaecaaGreatDoor
open Go.Vc


theorem new_sl {Φ : PW} [Stable Φ] {P : Program} {f : FuncId} {args : Array Value} {l : List DeltaD} (h : GivesNew Φ P f args l 73) : GivesSl Φ P f args l id :=
  ⟨fun W w S c => (h.go W w S c).mono fun e w' ⟨p, cap, cs, he, cx⟩ => by
    obtain ⟨_, h1, h2⟩ := cx.bufLen 0 rfl
    obtain ⟨cx3, hs, _⟩ := Ctx.freeze (α := DeltaD) cx.fst cx.phi.2
    exact ⟨p, cap, he, h1, h2, cx3.add hs⟩⟩

theorem Consolidate_sl {Φ : PW} [Stable Φ] (p : Option Addr) (cap : Nat) (l : List DeltaD) (hΦ : ∀ M w, Φ M w → Sl M w p l) (hlen : l.length ≤ 1000000) (hrow : ∀ x ∈ l, x.row.length ≤ 1000000) : GivesSl Φ Tryz.prog F.delta_Consolidate #[.slice p l.length cap] (consP l) id :=
  new_sl (Consolidate_new p cap l hΦ hlen hrow)

theorem insD_row (x : DeltaD) {P : List ValD → Prop} (hx : P x.row) : ∀ {c : List DeltaD}, (∀ y ∈ c, P y.row) → ∀ z ∈ insD x c, P z.row
  | [], _, z, hz => by
    unfold insD at hz
    split at hz
    · cases hz
    · rw [List.mem_singleton.1 hz]; exact hx
  | y :: t, h, z, hz => by
    have hy := h y (by simp)
    have ht : ∀ q ∈ t, P q.row := fun q hq => h q (by simp [hq])
    unfold insD at hz
    split at hz
    · split at hz
      · exact h z hz
      · rcases List.mem_cons.1 hz with rfl | hz
        · exact hx
        · exact h z hz
    · split at hz
      · split at hz
        · exact ht z hz
        · rcases List.mem_cons.1 hz with rfl | hz
          · exact hy
          · exact ht z hz
      · rcases List.mem_cons.1 hz with rfl | hz
        · exact hy
        · exact insD_row x hx ht z hz
theorem consP_row {P : List ValD → Prop} : ∀ {l : List DeltaD}, (∀ x ∈ l, P x.row) → ∀ z ∈ consP l, P z.row
  | [], _, z, hz => by cases hz
  | x :: l, h, z, hz => insD_row x (h x (by simp)) (consP_row fun y hy => h y (by simp [hy])) z hz

def negD (x : DeltaD) : DeltaD := ⟨x.time, x.row, w64 (0 - x.n)⟩
def subP (a b : List DeltaD) : List DeltaD := consP (a ++ b.map negD)

theorem delta_iff {x y : DeltaD} : x = y ↔ (x.time = y.time ∧ (x.row = y.row ∧ x.n = y.n)) := by cases x; cases y; simp
instance : DecidableEq DeltaD := fun _ _ => decidable_of_iff _ delta_iff.symm
end Go.Proofs.YtbkpfhhhbhaecaaGreatDoor
end

section
set_option linter.unusedVariables false
set_option linter.unusedSimpArgs false
namespace Go.Proofs.YtbkpfhhhbhaecaaGreatDoor
open Go.Vc

theorem bytesLess_cmp : ∀ a b : List UInt8, Op.bytesLess a b = decide (Lib.compareBytes a b < 0)
  | [], [] => by simp [Op.bytesLess, Lib.compareBytes]
  | [], _ :: _ => by simp [Op.bytesLess, Lib.compareBytes]
  | _ :: _, [] => by simp [Op.bytesLess, Lib.compareBytes]
  | a :: ar, b :: br => by
    unfold Op.bytesLess Lib.compareBytes
    rw [bytesLess_cmp ar br]
    by_cases h1 : a < b
    · simp [h1]
    · by_cases h2 : b < a
      · rw [if_neg h1, if_pos h2]
        have : a ≠ b := fun e => by subst e; exact h1 h2
        simp [h1, this]
      · have : a = b := by
          have h1' : ¬ a.toNat < b.toNat := h1
          have h2' : ¬ b.toNat < a.toNat := h2
          exact UInt8.toNat_inj.1 (by omega)
        rw [if_neg h1, if_neg h2]
        simp [this]

theorem compareBytes_zero (a b : List UInt8) : Lib.compareBytes a b = 0 ↔ a = b := bytes_cmp.eq a b
theorem compareBytes_bd (a b : List UInt8) : -1 ≤ Lib.compareBytes a b ∧ Lib.compareBytes a b ≤ 1 := bytes_cmp.bd a b
theorem cmpT_less (a b : ByteArray) : Op.bytesLess a.toList b.toList = decide (cmpT a b < 0) := by rw [bytesLess_cmp, Lib.toList_data, Lib.toList_data]; rfl
theorem cmpT_gtr (a b : ByteArray) : (!(Op.bytesLess a.toList b.toList || a.toList == b.toList)) = decide (0 < cmpT a b) := by
  rw [cmpT_less]
  have h2 : (a.toList == b.toList) = decide (cmpT a b = 0) := by
    rw [Bool.eq_iff_iff, beq_iff_eq, decide_eq_true_eq]
    unfold cmpT
    rw [compareBytes_zero, Lib.toList_data, Lib.toList_data]
  rw [h2]
  by_cases h : cmpT a b < 0
  · simp [h]; omega
  · by_cases h' : cmpT a b = 0
    · simp [h']
    · rw [decide_eq_false h, decide_eq_false h', decide_eq_true (show 0 < cmpT a b by omega)]; rfl

theorem orI_cons (x : Int) (r : List Int) : orI (x :: r) = if x ≠ 0 then x else orI r := rfl

theorem rcmpV_g (x y : ValD) : Gives Tryz.prog F.errataref03_Compare #[x.v, y.v] (.int .i64 (cmpV x y)) := by
  refine gives_of (Berrataref03_Compare_run x.kind x.num x.text y.kind y.num y.text) fun W R Φ _ => ?_
  have h3 := compareBytes_bd x.text.data.toList y.text.data.toList
  unfold cmpV cmpL
  rw [orI_cons, orI_cons, orI_cons]
  refine fun _ _ => Br.intro (fun h => fun w G c => ⟨?_, c.left⟩) (fun h => Br.intro (fun h2 => fun w G c => ⟨?_, c.left⟩) (fun h2 => Br.intro (fun h3 => fun w G c => ⟨?_, c.left⟩) (fun h3 => Br.intro (fun h4 => fun w G c => ⟨?_, c.left⟩) (fun h4 => Br.intro (fun h5 => fun w G c => ⟨?_, c.left⟩) (fun h5 => ⟨_, fun w => by rw [binOp_string_gtr]; rfl, Br.intro (fun h6 => fun w G c => ⟨?_, c.left⟩) (fun h6 => fun w G c => ⟨?_, c.left⟩)⟩)))))
  · have h := of_decide_eq_true h
    have : cmpI x.kind y.kind = -1 := by unfold cmpI; rw [if_pos h]
    rw [this]; rfl
  all_goals have h := of_decide_eq_false h
  · have h2 := of_decide_eq_true h2
    have : cmpI x.kind y.kind = 1 := by unfold cmpI; rw [if_neg h, if_pos h2]
    rw [this]; rfl
  all_goals have h2 := of_decide_eq_false h2
  all_goals have e1 : cmpI x.kind y.kind = 0 := by unfold cmpI; rw [if_neg h, if_neg h2]
  all_goals rw [e1]
  · have h3 := of_decide_eq_true h3
    have : cmpI x.num y.num = -1 := by unfold cmpI; rw [if_pos h3]
    rw [this]; rfl
  all_goals have h3 := of_decide_eq_false h3
  · have h4 := of_decide_eq_true h4
    have : cmpI x.num y.num = 1 := by unfold cmpI; rw [if_neg h3, if_pos h4]
    rw [this]; rfl
  all_goals have h4 := of_decide_eq_false h4
  all_goals have e2 : cmpI x.num y.num = 0 := by unfold cmpI; rw [if_neg h3, if_neg h4]
  all_goals rw [e2]
  · have h5 : Op.bytesLess x.text.toList y.text.toList = true := h5
    rw [cmpT_less] at h5
    have h5 := of_decide_eq_true h5
    have : cmpT x.text y.text = -1 := by have : -1 ≤ cmpT x.text y.text := (compareBytes_bd _ _).1; omega
    rw [this]; rfl
  all_goals have h5 : Op.bytesLess x.text.toList y.text.toList = false := h5
  all_goals rw [cmpT_less] at h5
  all_goals have h5 := of_decide_eq_false h5
  · rw [cmpT_gtr] at h6
    have h6 := of_decide_eq_true h6
    have : cmpT x.text y.text = 1 := by have : cmpT x.text y.text ≤ 1 := (compareBytes_bd _ _).2; omega
    rw [this]; rfl
  · rw [cmpT_gtr] at h6
    have h6 := of_decide_eq_false h6
    have : cmpT x.text y.text = 0 := by omega
    rw [this]; rfl

theorem cmpR_nil {l r : List ValD} {i : Nat} (h : l.length ≤ i) (hr : r.length ≤ i) : cmpR (l.drop i) (r.drop i) = 0 := by
  rw [List.drop_of_length_le h, List.drop_of_length_le hr]; rfl
theorem cmpR_right {l r : List ValD} {i : Nat} (hi : l.length ≤ i) (hr : i < r.length) : cmpR (l.drop i) (r.drop i) = -1 := by
  rw [List.drop_eq_getElem_cons hr, List.drop_of_length_le hi]; rfl

theorem rCompareRows_in {Φ : PW} [Stable Φ] (p q : Option Addr) (cap cap2 : Nat) (l r : List ValD) (hΦ : ∀ M w, Φ M w → Sl M w p l) (hΨ : ∀ M w, Φ M w → Sl M w q r) (hlen : l.length ≤ 9223372036854775807) :
    GivesIn Φ Tryz.prog F.errataref03_CompareRows #[.slice p l.length cap, .slice q r.length cap2] (.int .i64 (cmpR l r)) := by
  refine .there (fun M w h => (hΦ M w h).there) fun hth => .there (fun M w h => (hΨ M w h).there) fun hth2 => ?_
  refine gives_in (Berrataref03_CompareRows_run p l.length cap q r.length cap2) fun W R => ?_
  refine exI_mk (fun n R' Φ' k => ∃ i : Nat, n = i ∧ i ≤ l.length ∧ i ≤ r.length ∧ R' = R ∧ Φ' = Φ ∧ k = l.length - i ∧ cmpR l r = cmpR (l.drop i) (r.drop i)) ⟨⟨R, Φ, _, inferInstance, fun w F c => c, 0, rfl, Nat.zero_le _, Nat.zero_le _, rfl, rfl, rfl, rfl⟩, ?_⟩
  rintro n R1 Φ1 k _ ⟨i, rfl, hi, hr, rfl, rfl, rfl, hcm⟩
  refine fun w G cx => Br.intro (fun hlt => ?_) (fun hge => ?_)
  · rw [Bool.and_eq_true] at hlt
    have hl : i < l.length := by have := of_decide_eq_true hlt.1; omega
    have hr2 : i < r.length := by have := of_decide_eq_true hlt.2; omega
    obtain ⟨b, o, rfl⟩ := hth (by omega)
    obtain ⟨b2, o2, rfl⟩ := hth2 (by omega)
    rw [cmpR_both hl hr2] at hcm
    refine ⟨R1, Φ1, inferInstance, fun _ _ c => c, by omega, ptrK_intro b o rfl ⟨by omega, ptrK_intro b2 o2 rfl ⟨l[i].kind, l[i].num, l[i].text, fun w G cx => ⟨_, _, _, sl_val (hΦ _ _ cx.phi) hl, rfl⟩, r[i].kind, r[i].num, r[i].text, fun w G cx => ⟨_, _, _, sl_val (hΨ _ _ cx.phi) hr2, rfl⟩, fun w G cx => (rcmpV_g l[i] r[i]).use cx fun w cx => ⟨_, rfl, R1, Φ1, inferInstance, cx,
      Br.intro (fun hn => fun w F cx => ⟨?_, cx.left⟩) (fun hn => ⟨by unfold I64; omega, R1, Φ1, l.length - (i + 1), inferInstance, fun w F c => c, ⟨i + 1, rfl, hl, hr2, rfl, rfl, rfl, ?_⟩, by omega⟩)⟩⟩⟩⟩
    · have hn : cmpV l[i] r[i] ≠ 0 := by simpa using hn
      rw [hcm, if_pos hn]
    · have hn : ¬ cmpV l[i] r[i] ≠ 0 := by simpa using hn
      rw [hcm, if_neg hn]
  · have hge : l.length ≤ i ∨ r.length ≤ i := by
      rw [Bool.and_eq_false_iff] at hge
      rcases hge with h | h
      · left; have := of_decide_eq_false h; omega
      · right; have := of_decide_eq_false h; omega
    refine Br.intro (fun h => fun w G cx => ⟨?_, cx.left⟩) (fun h => Br.intro (fun h2 => fun w G cx => ⟨?_, cx.left⟩) (fun h2 => fun w G cx => ⟨?_, cx.left⟩))
    · have h := of_decide_eq_true h
      rw [hcm, cmpR_right (by omega) (by omega)]
    · have h2 := of_decide_eq_true h2
      rw [hcm, cmpR_left (by omega) (by omega)]
    · have h := of_decide_eq_false h
      have h2 := of_decide_eq_false h2
      rw [hcm, cmpR_nil (by omega) (by omega)]

theorem rCompareD_in {Φ : PW} [Stable Φ] (x y : DeltaD) (p q : Option Addr) (cap cap2 : Nat) (hΦ : ∀ M w, Φ M w → Sl M w p x.row) (hΨ : ∀ M w, Φ M w → Sl M w q y.row) (hlen : x.row.length ≤ 9223372036854775807) :
    GivesIn Φ Tryz.prog F.errataref28_Compare #[x.v p cap, y.v q cap2] (.int .i64 (cmpD x y)) := by
  refine gives_in (Berrataref28_Compare_run x.time p x.row.length cap x.n y.time q y.row.length cap2 y.n) fun W R => ?_
  unfold cmpD cmpDL
  rw [orI_cons, orI_cons]
  refine fun _ _ => Br.intro (fun h => fun w G c => ⟨?_, c.left⟩) (fun h => Br.intro (fun h2 => fun w G c => ⟨?_, c.left⟩) (fun h2 => ?_))
  · have h := of_decide_eq_true h
    have : cmpI x.time y.time = -1 := by unfold cmpI; rw [if_pos h]
    rw [this]; rfl
  all_goals have h := of_decide_eq_false h
  · have h2 := of_decide_eq_true h2
    have : cmpI x.time y.time = 1 := by unfold cmpI; rw [if_neg h, if_pos h2]
    rw [this]; rfl
  have h2 := of_decide_eq_false h2
  have e1 : cmpI x.time y.time = 0 := by unfold cmpI; rw [if_neg h, if_neg h2]
  rw [e1]
  refine fun w G cx => (rCompareRows_in p q cap cap2 x.row y.row hΦ hΨ hlen).use cx fun w cx => ⟨_, rfl, R, Φ, inferInstance, cx, fun w G cx => ⟨?_, cx.left⟩⟩
  by_cases h0 : cmpR x.row y.row = 0
  · rw [h0]; rfl
  · rw [if_neg (by omega), if_pos h0]

theorem Equal_pin {Φ : PW} [Stable Φ] (p : Option Addr) (cap : Nat) (a : List DeltaD) (q : Option Addr) (cap2 : Nat) (b : List DeltaD) (g1 o1 : Nat) (cs1 : List (List Value)) (g2 o2 : Nat) (cs2 : List (List Value)) (hp : 0 < a.length → p = some ⟨g1, o1, none⟩) (hq : 0 < b.length → q = some ⟨g2, o2, none⟩)
    (hΦ : ∀ M w, Φ M w → Pin g1 o1 cs1 a M w) (hΨ : ∀ M w, Φ M w → Pin g2 o2 cs2 b M w) (hlen : a.length ≤ 9223372036854775807) :
    GivesIn Φ Tryz.prog F.errataref28_Equal #[.slice p a.length cap, .slice q b.length cap2] (.bool (decide (a = b))) := by
  refine in_cells hΦ fun hc1 => in_cells hΨ fun hc2 => ?_
  refine gives_in (Berrataref28_Equal_run p a.length cap q b.length cap2) fun W R => ?_
  refine Br.intro (fun h => fun w G cx => ⟨?_, cx.left⟩) (fun h => ?_)
  · rw [decide_eq_false]
    intro e
    have := of_decide_eq_true h
    rw [e] at this
    exact this rfl
  have hl : a.length = b.length := by have := of_decide_eq_false h; omega
  refine exI_mk (fun iI R' Φ' k => ∃ i : Nat, iI = i ∧ i ≤ a.length ∧ R' = R ∧ Φ' = Φ ∧ k = a.length - i ∧ a.take i = b.take i) ⟨⟨R, Φ, _, inferInstance, fun w F c => c, 0, rfl, Nat.zero_le _, rfl, rfl, rfl, rfl⟩, ?_⟩
  rintro iI R1 Φ1 k _ ⟨i, rfl, hi, rfl, rfl, rfl, hs⟩
  refine Br.intro (fun hlt => ?_) (fun hge => fun w F cx => ⟨?_, cx.left⟩)
  · have hlt : i < a.length := by have := of_decide_eq_true hlt; omega
    have hltb : i < b.length := by omega
    obtain ⟨r1, rc1, he1, f1, f2, _, _⟩ := hc1 i hlt
    obtain ⟨r2, rc2, he2, f3, f4, _, _⟩ := hc2 i hltb
    have hcall := rCompareD_in (Φ := Φ1) a[i] b[i] r1 r2 rc1 rc2 (fun M w h => pin_row (hΦ M w h) hlt he1) (fun M w h => pin_row (hΨ M w h) hltb he2) (len_max f1 f2)
    have hn1 : ∀ {w : World} {G : List Own}, Ctx W w (R1 ++ G) Φ1 → w.cell? ⟨g1, o1 + (i : Int).toNat * 3 + 2, none⟩ = some (.int .i64 a[i].n) := fun cx => by
      have := pin_rowAt (hΦ _ _ cx.phi) hlt he1 2 (by simp)
      rw [Int.toNat_natCast]; simpa using this
    have hn2 : ∀ {w : World} {G : List Own}, Ctx W w (R1 ++ G) Φ1 → w.cell? ⟨g2, o2 + (i : Int).toNat * 3 + 2, none⟩ = some (.int .i64 b[i].n) := fun cx => by
      have := pin_rowAt (hΨ _ _ cx.phi) hltb he2 2 (by simp)
      rw [Int.toNat_natCast]; simpa using this
    refine ⟨R1, Φ1, inferInstance, fun _ _ c => c, by omega, ptrK_intro g1 o1 (hp (by omega)) ⟨by omega, ptrK_intro g2 o2 (hq (by omega)) ⟨a[i].time, r1, a[i].row.length, rc1, a[i].n, fun w G cx => ⟨_, _, _, _, _, by rw [Int.toNat_natCast]; exact pin_rowAt (hΦ _ _ cx.phi) hlt he1, rfl⟩, b[i].time, r2, b[i].row.length, rc2, b[i].n, fun w G cx => ⟨_, _, _, _, _, by rw [Int.toNat_natCast]; exact pin_rowAt (hΨ _ _ cx.phi) hltb he2, rfl⟩,
      fun w G cx => hcall.use cx fun w cx => ⟨_, rfl, R1, Φ1, inferInstance, cx, Br.intro (fun hn => fun w F cx => ⟨?_, cx.left⟩) (fun hn => ⟨by omega, ptrK_intro g1 o1 (hp (by omega)) ⟨by omega, ptrK_intro g2 o2 (hq (by omega)) fun w G cx => ⟨_, hn1 cx, fun w G cx => ⟨_, hn2 cx, Br.intro (fun h3 => fun w G cx => ⟨?_, cx.left⟩) (fun h3 => ⟨by unfold I64; omega, R1, Φ1, a.length - (i + 1), inferInstance, fun w F c => c, ⟨i + 1, rfl, hlt, rfl, rfl, rfl, ?_⟩, by omega⟩)⟩⟩⟩⟩)⟩⟩⟩⟩
    · rw [decide_eq_false]
      intro e
      subst e
      have := of_decide_eq_true hn
      rw [cmpD_key] at this
      exact this (cmpK_cmp.refl _)
    · rw [decide_eq_false]
      intro e
      subst e
      have := of_decide_eq_true h3
      exact this rfl
    · have h1 := of_decide_eq_false hn
      have h2 := of_decide_eq_false h3
      have h1 : cmpD a[i] b[i] = 0 := Decidable.not_not.1 h1
      have h2 : a[i].n = b[i].n := Decidable.not_not.1 h2
      rw [cmpD_key] at h1
      have he : a[i] = b[i] := delta_ext ((cmpK_cmp.eq _ _).1 h1) h2
      rw [List.take_succ_eq_append_getElem hlt, List.take_succ_eq_append_getElem hltb, hs, he]
  · have hge : i = a.length := by have := of_decide_eq_false hge; omega
    rw [decide_eq_true]
    rw [hge, List.take_length, hl, List.take_length] at hs
    exact hs

theorem Equal_in {Φ : PW} [Stable Φ] (p : Option Addr) (cap : Nat) (a : List DeltaD) (q : Option Addr) (cap2 : Nat) (b : List DeltaD) (hΦ : ∀ M w, Φ M w → Sl M w p a) (hΨ : ∀ M w, Φ M w → Sl M w q b) (hlen : a.length ≤ 9223372036854775807) :
    GivesIn Φ Tryz.prog F.errataref28_Equal #[.slice p a.length cap, .slice q b.length cap2] (.bool (decide (a = b))) :=
  .pinned hΦ fun g1 o1 cs1 hp => .pinned (fun M w h => hΨ M w h.1) fun g2 o2 cs2 hq => Equal_pin (Φ := fun M w => (Φ M w ∧ Pin g1 o1 cs1 a M w) ∧ Pin g2 o2 cs2 b M w) p cap a q cap2 b g1 o1 cs1 g2 o2 cs2 hp hq (fun M w h => h.1.2) (fun M w h => h.2) hlen

end Go.Proofs.YtbkpfhhhbhaecaaGreatDoor
end

section
set_option linter.unusedVariables false
set_option linter.unusedSimpArgs false
namespace Go.Vc
section
variable {W w : World} {S : List Own} {Φ : PW}

theorem Ctx.appAny [Stable Φ] {P : Program} {α : Type} [Gv α] {q : Option Addr} {l : List α} {c2 : Nat} {p : Option Addr} {n cap : Nat} {cs : List Value} {t : TypeId} {bytes : Nat} (c : Ctx W w (.buf p n cap cs t (Gv.ty α).size :: S) Φ)
    {ts ty : TypeId} {kb : Array Bool} (hb : appB P ts t (Gv.ty α).size bytes = true) (h1 : ∀ M w cs (x : α), Gv.rep M w cs x → (cs.all fun u => oneC u) = true) (hsl : ∀ M w, Φ M w → Sl M w q l) (hlen : n + l.length < 100000000) (hbytes : bytes ≤ 1000) :
    ∃ p' cap' w' news, Sem.run P (builtin Builtin.append #[ts, ts] ty kb #[.slice p n cap, .slice q l.length c2]) w = .ok (.value (.slice p' (n + l.length) cap')) w' ∧
      Ctx W w' (.buf p' (n + l.length) cap' (cs ++ news) t (Gv.ty α).size :: S) (fun M w => Φ M w ∧ Elems M w news l) := by
  rcases Nat.eq_zero_or_pos l.length with h0 | h0
  · obtain ⟨i, z, e1, e2, e3, e4, e5, e6⟩ := appB_out hb
    have hl : l = [] := List.eq_nil_of_length_eq_zero h0
    subst hl
    refine ⟨p, cap, w, [], run_app (c.append0 0 rfl e1 e2 q c2), ?_⟩
    rw [List.append_nil]
    exact c.add Elems.nil
  · obtain ⟨p', cap', w', news, h2, _, c3⟩ := c.appSl (ty := ty) (kb := kb) (c2 := c2) hb h1 hsl h0 hlen hbytes
    exact ⟨p', cap', w', news, h2, c3⟩

end
end Go.Vc

namespace Go.Proofs.YtbkpfhhhbhaecaaGreatDoor
open Go.Vc


end Go.Proofs.YtbkpfhhhbhaecaaGreatDoor
end

section
set_option linter.unusedVariables false
set_option linter.unusedSimpArgs false
namespace Go.Proofs.YtbkpfhhhbhaecaaGreatDoor
open Go.Vc


def findI {α : Type} (p : α → Bool) : Nat → List α → Int
  | _, [] => -1
  | i, x :: r => if p x = true then (i : Int) else findI p (i + 1) r

theorem findI_drop {α : Type} (p : α → Bool) (l : List α) (i : Nat) (hi : i < l.length) : findI p i (l.drop i) = if p l[i] = true then (i : Int) else findI p (i + 1) (l.drop (i + 1)) := by
  rw [List.drop_eq_getElem_cons hi]; rfl
theorem findI_any {α : Type} (p : α → Bool) : ∀ (l : List α) (i : Nat), decide (0 ≤ findI p i l) = l.any p
  | [], _ => rfl
  | x :: r, i => by
    unfold findI
    rw [List.any_cons]
    cases h : p x with
    | true => simp
    | false => simp only [Bool.false_or]; rw [if_neg (by simp)]; exact findI_any p r (i + 1)

end Go.Proofs.YtbkpfhhhbhaecaaGreatDoor
end

