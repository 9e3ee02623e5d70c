/-
  The walks of the reference's comparisons; few and right.
-/
import Derived.Test.YticgmbmghnikeaaVd
set_option linter.unusedVariables false
set_option linter.unusedSimpArgs false
namespace Go.Proofs.Yticgmbmghnikeaa
open Go.Vc

theorem bytesLess_cmp : ∀ a b : List UInt8, Op.bytesLess a b = decide (Lib.compareBytes a b < 0)
  | [], [] => by simp [Op.bytesLess, Lib.compareBytes]
  | [], _ :: _ => by simp [Op.bytesLess, Lib.compareBytes]
  | _ :: _, [] => by simp [Op.bytesLess, Lib.compareBytes]
  | a :: ar, b :: br => by
    unfold Op.bytesLess Lib.compareBytes
    rw [bytesLess_cmp ar br]
    by_cases h1 : a < b
    · simp [h1]
    · by_cases h2 : b < a
      · rw [if_neg h1, if_pos h2]
        have : a ≠ b := fun e => by subst e; exact h1 h2
        simp [h1, this]
      · have : a = b := by
          have h1' : ¬ a.toNat < b.toNat := h1
          have h2' : ¬ b.toNat < a.toNat := h2
          exact UInt8.toNat_inj.1 (by omega)
        rw [if_neg h1, if_neg h2]
        simp [this]

theorem compareBytes_zero : ∀ a b : List UInt8, Lib.compareBytes a b = 0 ↔ a = b
  | [], [] => by simp [Lib.compareBytes]
  | [], _ :: _ => by simp [Lib.compareBytes]
  | _ :: _, [] => by simp [Lib.compareBytes]
  | a :: ar, b :: br => by
    unfold Lib.compareBytes
    by_cases h1 : a < b
    · rw [if_pos h1]
      have : a ≠ b := fun e => by subst e; exact absurd h1 (by simp)
      simp [this]
    · by_cases h2 : b < a
      · rw [if_neg h1, if_pos h2]
        have : a ≠ b := fun e => by subst e; exact h1 h2
        simp [this]
      · have : a = b := by
          have h1' : ¬ a.toNat < b.toNat := h1
          have h2' : ¬ b.toNat < a.toNat := h2
          exact UInt8.toNat_inj.1 (by omega)
        rw [if_neg h1, if_neg h2, compareBytes_zero ar br]
        simp [this]

theorem cmpT_less (a b : ByteArray) : Op.bytesLess a.toList b.toList = decide (cmpT a b < 0) := by rw [bytesLess_cmp, Lib.toList_data, Lib.toList_data]; rfl
theorem cmpT_refl (a : ByteArray) : cmpT a a = 0 := (compareBytes_zero _ _).2 rfl
theorem cmpT_gtr (a b : ByteArray) : (!(Op.bytesLess a.toList b.toList || a.toList == b.toList)) = decide (0 < cmpT a b) := by
  rw [cmpT_less]
  have h2 : (a.toList == b.toList) = decide (cmpT a b = 0) := by
    rw [Bool.eq_iff_iff, beq_iff_eq, decide_eq_true_eq]
    unfold cmpT
    rw [compareBytes_zero, Lib.toList_data, Lib.toList_data]
  rw [h2]
  by_cases h : cmpT a b < 0
  · simp [h]; omega
  · by_cases h' : cmpT a b = 0
    · simp [h']
    · rw [decide_eq_false h, decide_eq_false h', decide_eq_true (show 0 < cmpT a b by omega)]; rfl

theorem cmpI_refl (x : Int) : cmpI x x = 0 := by unfold cmpI; simp
theorem cmpV_refl (x : ValD) : cmpV x x = 0 := by
  unfold cmpV cmpL
  rw [cmpI_refl, cmpI_refl, cmpT_refl]
  rfl
theorem cmpR_refl : ∀ l : List ValD, cmpR l l = 0
  | [] => rfl
  | x :: r => by unfold cmpR; rw [cmpV_refl, cmpR_refl r]; simp

theorem orI_cons (x : Int) (r : List Int) : orI (x :: r) = if x ≠ 0 then x else orI r := rfl

theorem rcmpV_g (x y : ValD) : Gives Try.prog F.errataref03_Compare #[x.v, y.v] (.int .i64 (cmpV x y)) := by
  refine gives_of (Berrataref03_Compare_run x.kind x.num x.text y.kind y.num y.text) fun W R Φ _ => ?_
  have h3 := compareBytes_bd x.text.data.toList y.text.data.toList
  unfold cmpV cmpL
  rw [orI_cons, orI_cons, orI_cons]
  refine fun _ _ => Br.intro (fun h => fun w G c => ⟨?_, c.left⟩) (fun h => Br.intro (fun h2 => fun w G c => ⟨?_, c.left⟩) (fun h2 => Br.intro (fun h3 => fun w G c => ⟨?_, c.left⟩) (fun h3 => Br.intro (fun h4 => fun w G c => ⟨?_, c.left⟩) (fun h4 => Br.intro (fun h5 => fun w G c => ⟨?_, c.left⟩) (fun h5 => ⟨_, fun w => by rw [binOp_string_gtr]; rfl, Br.intro (fun h6 => fun w G c => ⟨?_, c.left⟩) (fun h6 => fun w G c => ⟨?_, c.left⟩)⟩)))))
  · have h := of_decide_eq_true h
    have : cmpI x.kind y.kind = -1 := by unfold cmpI; rw [if_pos h]
    rw [this]; rfl
  all_goals have h := of_decide_eq_false h
  · have h2 := of_decide_eq_true h2
    have : cmpI x.kind y.kind = 1 := by unfold cmpI; rw [if_neg h, if_pos h2]
    rw [this]; rfl
  all_goals have h2 := of_decide_eq_false h2
  all_goals have e1 : cmpI x.kind y.kind = 0 := by unfold cmpI; rw [if_neg h, if_neg h2]
  all_goals rw [e1]
  · have h3 := of_decide_eq_true h3
    have : cmpI x.num y.num = -1 := by unfold cmpI; rw [if_pos h3]
    rw [this]; rfl
  all_goals have h3 := of_decide_eq_false h3
  · have h4 := of_decide_eq_true h4
    have : cmpI x.num y.num = 1 := by unfold cmpI; rw [if_neg h3, if_pos h4]
    rw [this]; rfl
  all_goals have h4 := of_decide_eq_false h4
  all_goals have e2 : cmpI x.num y.num = 0 := by unfold cmpI; rw [if_neg h3, if_neg h4]
  all_goals rw [e2]
  · have h5 : Op.bytesLess x.text.toList y.text.toList = true := h5
    rw [cmpT_less] at h5
    have h5 := of_decide_eq_true h5
    have : cmpT x.text y.text = -1 := by have : -1 ≤ cmpT x.text y.text := (compareBytes_bd _ _).1; omega
    rw [this]; rfl
  all_goals have h5 : Op.bytesLess x.text.toList y.text.toList = false := h5
  all_goals rw [cmpT_less] at h5
  all_goals have h5 := of_decide_eq_false h5
  · rw [cmpT_gtr] at h6
    have h6 := of_decide_eq_true h6
    have : cmpT x.text y.text = 1 := by have : cmpT x.text y.text ≤ 1 := (compareBytes_bd _ _).2; omega
    rw [this]; rfl
  · rw [cmpT_gtr] at h6
    have h6 := of_decide_eq_false h6
    have : cmpT x.text y.text = 0 := by omega
    rw [this]; rfl

theorem cmpR_nil {l r : List ValD} {i : Nat} (h : l.length ≤ i) (hr : r.length ≤ i) : cmpR (l.drop i) (r.drop i) = 0 := by
  rw [List.drop_of_length_le h, List.drop_of_length_le hr]; rfl
theorem cmpR_right {l r : List ValD} {i : Nat} (hi : l.length ≤ i) (hr : i < r.length) : cmpR (l.drop i) (r.drop i) = -1 := by
  rw [List.drop_eq_getElem_cons hr, List.drop_of_length_le hi]; rfl

theorem rCompareRows_in {Φ : PW} [Stable Φ] (p q : Option Addr) (cap cap2 : Nat) (l r : List ValD) (hΦ : ∀ M w, Φ M w → Sl M w p l) (hΨ : ∀ M w, Φ M w → Sl M w q r) (hlen : l.length ≤ 9223372036854775807) :
    GivesIn Φ Try.prog F.errataref03_CompareRows #[.slice p l.length cap, .slice q r.length cap2] (.int .i64 (cmpR l r)) := by
  refine .there (fun M w h => (hΦ M w h).there) fun hth => .there (fun M w h => (hΨ M w h).there) fun hth2 => ?_
  refine gives_in (Berrataref03_CompareRows_run p l.length cap q r.length cap2) fun W R => ?_
  refine exI_mk (fun n R' Φ' k => ∃ i : Nat, n = i ∧ i ≤ l.length ∧ i ≤ r.length ∧ R' = R ∧ Φ' = Φ ∧ k = l.length - i ∧ cmpR l r = cmpR (l.drop i) (r.drop i)) ⟨⟨R, Φ, _, inferInstance, fun w F c => c, 0, rfl, Nat.zero_le _, Nat.zero_le _, rfl, rfl, rfl, rfl⟩, ?_⟩
  rintro n R1 Φ1 k _ ⟨i, rfl, hi, hr, rfl, rfl, rfl, hcm⟩
  refine fun w G cx => Br.intro (fun hlt => ?_) (fun hge => ?_)
  · rw [Bool.and_eq_true] at hlt
    have hl : i < l.length := by have := of_decide_eq_true hlt.1; omega
    have hr2 : i < r.length := by have := of_decide_eq_true hlt.2; omega
    obtain ⟨b, o, rfl⟩ := hth (by omega)
    obtain ⟨b2, o2, rfl⟩ := hth2 (by omega)
    rw [cmpR_both hl hr2] at hcm
    refine ⟨R1, Φ1, inferInstance, fun _ _ c => c, by omega, ptrK_intro b o rfl ⟨by omega, ptrK_intro b2 o2 rfl fun w G cx => ⟨_, _, _, sl_val (hΦ _ _ cx.phi) hl, fun w G cx => ⟨_, _, _, sl_val (hΨ _ _ cx.phi) hr2, fun w G cx => (rcmpV_g l[i] r[i]).use cx fun w cx => ⟨_, rfl, R1, Φ1, inferInstance, cx, fun _ _ c => c,
      Br.intro (fun hn => fun w F cx => ⟨?_, cx.left⟩) (fun hn => ⟨by unfold I64; omega, R1, Φ1, l.length - (i + 1), inferInstance, fun w F c => c, ⟨i + 1, rfl, hl, hr2, rfl, rfl, rfl, ?_⟩, by omega⟩)⟩⟩⟩⟩⟩
    · have hn : cmpV l[i] r[i] ≠ 0 := by simpa using hn
      rw [hcm, if_pos hn]
    · have hn : ¬ cmpV l[i] r[i] ≠ 0 := by simpa using hn
      rw [hcm, if_neg hn]
  · have hge : l.length ≤ i ∨ r.length ≤ i := by
      rw [Bool.and_eq_false_iff] at hge
      rcases hge with h | h
      · left; have := of_decide_eq_false h; omega
      · right; have := of_decide_eq_false h; omega
    refine Br.intro (fun h => fun w G cx => ⟨?_, cx.left⟩) (fun h => Br.intro (fun h2 => fun w G cx => ⟨?_, cx.left⟩) (fun h2 => fun w G cx => ⟨?_, cx.left⟩))
    · have h := of_decide_eq_true h
      rw [hcm, cmpR_right (by omega) (by omega)]
    · have h2 := of_decide_eq_true h2
      rw [hcm, cmpR_left (by omega) (by omega)]
    · have h := of_decide_eq_false h
      have h2 := of_decide_eq_false h2
      rw [hcm, cmpR_nil (by omega) (by omega)]

theorem rSameRows_in {Φ : PW} [Stable Φ] (p q : Option Addr) (cap cap2 : Nat) (l r : List ValD) (hΦ : ∀ M w, Φ M w → Sl M w p l) (hΨ : ∀ M w, Φ M w → Sl M w q r) (hlen : l.length ≤ 9223372036854775807) :
    GivesIn Φ Try.prog F.errataref03_Same #[.slice p l.length cap, .slice q r.length cap2] (.bool (decide (cmpR l r = 0))) := by
  refine gives_in (Berrataref03_Same_run p l.length cap q r.length cap2) fun W R => ?_
  exact fun w G cx => (rCompareRows_in p q cap cap2 l r hΦ hΨ hlen).use cx fun w cx => ⟨_, rfl, R, Φ, inferInstance, cx, fun w G cx => ⟨rfl, cx.left⟩⟩

theorem rCompareD_in {Φ : PW} [Stable Φ] (x y : DeltaD) (p q : Option Addr) (cap cap2 : Nat) (hΦ : ∀ M w, Φ M w → Sl M w p x.row) (hΨ : ∀ M w, Φ M w → Sl M w q y.row) (hlen : x.row.length ≤ 9223372036854775807) :
    GivesIn Φ Try.prog F.errataref28_Compare #[x.v p cap, y.v q cap2] (.int .i64 (cmpD x y)) := by
  refine gives_in (Berrataref28_Compare_run x.time p x.row.length cap x.n y.time q y.row.length cap2 y.n) fun W R => ?_
  unfold cmpD cmpDL
  rw [orI_cons, orI_cons]
  refine fun _ _ => Br.intro (fun h => fun w G c => ⟨?_, c.left⟩) (fun h => Br.intro (fun h2 => fun w G c => ⟨?_, c.left⟩) (fun h2 => ?_))
  · have h := of_decide_eq_true h
    have : cmpI x.time y.time = -1 := by unfold cmpI; rw [if_pos h]
    rw [this]; rfl
  all_goals have h := of_decide_eq_false h
  · have h2 := of_decide_eq_true h2
    have : cmpI x.time y.time = 1 := by unfold cmpI; rw [if_neg h, if_pos h2]
    rw [this]; rfl
  have h2 := of_decide_eq_false h2
  have e1 : cmpI x.time y.time = 0 := by unfold cmpI; rw [if_neg h, if_neg h2]
  rw [e1]
  refine fun w G cx => (rCompareRows_in p q cap cap2 x.row y.row hΦ hΨ hlen).use cx fun w cx => ⟨_, rfl, R, Φ, inferInstance, cx, fun w G cx => ⟨?_, cx.left⟩⟩
  by_cases h0 : cmpR x.row y.row = 0
  · rw [h0]; rfl
  · rw [if_neg (by omega), if_pos h0]

theorem rConsolidated_pin {Φ : PW} [Stable Φ] (p : Option Addr) (cap : Nat) (l : List DeltaD) (b o : Nat) (cs : List (List Value)) (hp : 0 < l.length → p = some ⟨b, o, none⟩) (hΦ : ∀ M w, Φ M w → Pin b o cs l M w) (hlen : l.length ≤ 9223372036854775807) :
    GivesIn Φ Try.prog F.errataref28_Consolidated #[.slice p l.length cap] (.bool (consolidated l)) := by
  refine in_cells hΦ fun hcs => ?_
  refine gives_in (Berrataref28_Consolidated_run p l.length cap) fun W R => ?_
  refine exI_mk (fun n R' Φ' k => ∃ i : Nat, n = i ∧ i ≤ l.length ∧ R' = R ∧ Φ' = Φ ∧ k = l.length - i ∧ ∀ j, j < i → consAt l j = true) ⟨⟨R, Φ, _, inferInstance, fun w F c => c, 0, rfl, Nat.zero_le _, rfl, rfl, rfl, fun j hj => by omega⟩, ?_⟩
  rintro n R1 Φ1 k _ ⟨i, rfl, hi, rfl, rfl, rfl, hok⟩
  refine Br.intro (fun hlt => ?_) (fun hge => fun w F cx => ⟨?_, cx.left⟩)
  · have hlt : i < l.length := by simpa using hlt
    have hp := hp (by omega)
    obtain ⟨q, qc, he, hq1, hq2, _, _⟩ := hcs i hlt
    refine ⟨R1, Φ1, inferInstance, fun _ _ c => c, by omega, ptrK_intro b o hp ⟨l[i].n, fun w G cx => ⟨l[i].n, pin_rowAt (hΦ _ _ cx.phi) hlt he 2 (by simp), rfl⟩, Br.intro (fun h0 => fun w G cx => ⟨?_, cx.left⟩) (fun h0 => Br.intro (fun h1 => ?_) (fun h1 => ?_))⟩⟩
    · have h0 : l[i].n = 0 := by simpa using h0
      rw [consolidated_false hlt]
      unfold consAt
      rw [List.getElem?_eq_getElem hlt]
      simp [h0]
    · have h0 : ¬ l[i].n = 0 := by simpa using h0
      have h1 : 0 < i := by simpa using h1
      obtain ⟨j, rfl⟩ : ∃ j, i = j + 1 := ⟨i - 1, by omega⟩
      obtain ⟨q', qc', he', hq1', hq2', _, _⟩ := hcs j (by omega)
      have hc : consAt l (j + 1) = decide (cmpD l[j] l[j + 1] < 0) := by
        unfold consAt
        simp only
        rw [List.getElem?_eq_getElem hlt, List.getElem?_eq_getElem (show j < l.length by omega)]
        simp [h0]
      have hcmp : GivesIn Φ1 Try.prog F.errataref28_Compare #[l[j].v q' qc', l[j + 1].v q qc] (.int .i64 (cmpD l[j] l[j + 1])) := rCompareD_in l[j] l[j + 1] q' q qc' qc (fun M w h => pin_row (hΦ M w h) _ he') (fun M w h => pin_row (hΦ M w h) _ he) (len_max hq1' hq2')
      refine ⟨by unfold I64; omega, by omega, ptrK_intro b o hp fun w G cx => ⟨l[j + 1].time, q, l[j + 1].row.length, qc, l[j + 1].n, pin_rowAt (hΦ _ _ cx.phi) hlt he, by omega, ptrK_intro b o hp fun w G cx => ⟨l[j].time, q', l[j].row.length, qc', l[j].n, ?_, ?_⟩⟩⟩
      · have := pin_rowAt (hΦ _ _ cx.phi) (show j < l.length by omega) he'
        rw [show (max (((j + 1 : Nat) : Int) - 1) 0).toNat = j by omega]
        exact this
      intro w G cx
      refine hcmp.use cx fun w cx => ⟨cmpD l[j] l[j + 1], rfl, R1, Φ1, inferInstance, cx, fun _ _ c => c, ?_⟩
      refine Br.intro (fun h2 => fun w F cx => ⟨?_, cx.left⟩) (fun h2 => ⟨by unfold I64; omega, R1, Φ1, l.length - (j + 1 + 1), inferInstance, fun w F c => c, ⟨j + 1 + 1, rfl, hlt, rfl, rfl, rfl, fun i hi => ?_⟩, by omega⟩)
      · have h2 : 0 ≤ cmpD l[j] l[j + 1] := by simpa using h2
        rw [consolidated_false hlt]
        rw [hc, decide_eq_false (by omega)]
      · have h2 : ¬ 0 ≤ cmpD l[j] l[j + 1] := by simpa using h2
        rcases Nat.lt_or_ge i (j + 1) with h | h
        · exact hok i h
        · rw [show i = j + 1 by omega, hc, decide_eq_true (by omega)]
    · have h0 : ¬ l[i].n = 0 := by simpa using h0
      have h1 : i = 0 := by simpa using h1
      subst h1
      refine ⟨by unfold I64; omega, R1, Φ1, l.length - 1, inferInstance, fun w F c => c, ⟨1, rfl, hlt, rfl, rfl, rfl, fun i hi => ?_⟩, by omega⟩
      rw [show i = 0 by omega]
      unfold consAt
      simp only
      rw [List.getElem?_eq_getElem hlt]
      simp [h0]
  · have hge : i = l.length := Nat.le_antisymm hi (by simpa using hge)
    rw [consolidated_true (hge ▸ hok)]

/-! ### what the reference calls right -/
theorem rightV_eq (x : ValD) : rightV x = (if x.kind = 0 then decide (x.text = ByteArray.mk #[]) else if x.kind = 1 then decide (x.num = 0) && decide ((x.text.size : Int) ≤ 200) else decide (x.kind = 2) && (decide (x.num = 0) || decide (x.num = 1)) && decide (x.text = ByteArray.mk #[])) := by
  unfold rightV
  by_cases h0 : x.kind = 0
  · rw [if_pos h0, if_pos h0]
    exact decide_eq_decide.2 ⟨fun h => by rw [h], fun h => val_ext.2 ⟨h0, rfl, h⟩⟩
  · rw [if_neg h0, if_neg h0]
    by_cases h1 : x.kind = 1
    · rw [if_pos h1, if_pos h1]
      congr 1
      · exact decide_eq_decide.2 ⟨fun h => by rw [h], fun h => val_ext.2 ⟨h1, h, rfl⟩⟩
      · exact decide_eq_decide.2 (by omega)
    · rw [if_neg h1, if_neg h1, Bool.eq_iff_iff]
      simp only [Bool.or_eq_true, Bool.and_eq_true, decide_eq_true_eq]
      constructor
      · rintro (h | h) <;> rw [h] <;> simp
      · rintro ⟨⟨h1, h2 | h2⟩, h3⟩
        · left; exact val_ext.2 ⟨h1, h2, h3⟩
        · right; exact val_ext.2 ⟨h1, h2, h3⟩

theorem rRightV_g (x : ValD) : Gives Try.prog F.errataref03_Right #[x.v] (.bool (rightV x)) := by
  refine gives_of (Berrataref03_Right_run x.kind x.num x.text) fun W R Φ _ => ?_
  rw [rightV_eq]
  refine fun _ => Br.intro (fun h0 => fun w G c => ⟨?_, c.left⟩) (fun h0 => Br.intro (fun h1 => fun w G c => fun w G c => ⟨?_, c.left⟩) (fun h1 => fun w G c => fun w G c => ⟨?_, c.left⟩))
  · rw [if_pos (of_decide_eq_true h0)]
  · rw [if_neg (of_decide_eq_false h0), if_pos (of_decide_eq_true h1)]
  · rw [if_neg (of_decide_eq_false h0), if_neg (of_decide_eq_false h1)]

theorem any_not {α : Type} (q : α → Bool) (l : List α) (i : Nat) (hi : i < l.length) (h : q l[i] = false) : (!l.any fun x => !q x) = false := by
  rw [Bool.not_eq_false', List.any_eq_true]
  exact ⟨l[i], List.getElem_mem _, by rw [h]; rfl⟩
theorem any_all {α : Type} (q : α → Bool) (l : List α) (h : ∀ i, (hi : i < l.length) → q l[i] = true) : (!l.any fun x => !q x) = true := by
  rw [Bool.not_eq_true', List.any_eq_false]
  intro x hx
  obtain ⟨i, hi, rfl⟩ := List.getElem_of_mem hx
  rw [h i hi]
  simp

theorem rAll_in {Φ : PW} [Stable Φ] (p : Option Addr) (cap : Nat) (l : List ValD) (hΦ : ∀ M w, Φ M w → Sl M w p l) (hlen : l.length ≤ 9223372036854775807) :
    GivesIn Φ Try.prog F.errataref03_All #[.slice p l.length cap] (.bool (!l.any fun x => !rightV x)) := by
  refine .there (fun M w h => (hΦ M w h).there) fun hth => ?_
  refine gives_in (Berrataref03_All_run p l.length cap) fun W R => ?_
  refine exI_mk (fun n R' Φ' k => ∃ i : Nat, n = i ∧ i ≤ l.length ∧ R' = R ∧ Φ' = Φ ∧ k = l.length - i ∧ ∀ j, (hj : j < l.length) → j < i → rightV l[j] = true) ⟨⟨R, Φ, _, inferInstance, fun w F c => c, 0, rfl, Nat.zero_le _, rfl, rfl, rfl, fun j hj h => by omega⟩, ?_⟩
  rintro n R1 Φ1 k _ ⟨i, rfl, hi, rfl, rfl, rfl, hok⟩
  refine Br.intro (fun hlt => ?_) (fun hge => fun w G cx => ⟨?_, cx.left⟩)
  · have hlt : i < l.length := by simpa using hlt
    obtain ⟨b, o, rfl⟩ := hth (by omega)
    refine ⟨by omega, ptrK_intro b o rfl fun w G cx => ⟨_, _, _, sl_val (hΦ _ _ cx.phi) hlt, fun w G cx => (rRightV_g l[i]).use cx fun w cx => ⟨_, rfl, R1, Φ1, inferInstance, cx, Br.intro (fun h => fun w F cx => ⟨?_, cx.left⟩) (fun h => ⟨by unfold I64; omega, R1, Φ1, l.length - (i + 1), inferInstance, fun w F c => c, ⟨i + 1, rfl, hlt, rfl, rfl, rfl, fun j hj hji => ?_⟩, by omega⟩)⟩⟩⟩
    · rw [any_not rightV l i hlt (by simpa using h)]
    · rcases Nat.lt_or_ge j i with h' | h'
      · exact hok j hj h'
      · have : j = i := by omega
        subst this
        simpa using h
  · have hge : i = l.length := Nat.le_antisymm hi (by simpa using hge)
    rw [any_all rightV l fun j hj => hok j hj (by omega)]

theorem rRightRow_in {Φ : PW} [Stable Φ] (p : Option Addr) (cap : Nat) (l : List ValD) (hΦ : ∀ M w, Φ M w → Sl M w p l) (hlen : l.length ≤ 9223372036854775807) :
    GivesIn Φ Try.prog F.errataref03_RightRow #[.slice p l.length cap] (.bool (rightRow l)) := by
  refine gives_in (Berrataref03_RightRow_run p l.length cap) fun W R => ?_
  unfold rightRow
  refine Br.intro (fun h => fun w G cx => (rAll_in p cap l hΦ hlen).use cx fun w cx => ⟨_, rfl, R, Φ, inferInstance, cx, fun w G cx => ⟨?_, cx.left⟩⟩) (fun h => fun w G cx => ⟨?_, cx.left⟩)
  · have h : (l.length : Int) ≤ 12 := by simpa using h
    rw [decide_eq_true (by omega), Bool.true_and]
  · have h : ¬ (l.length : Int) ≤ 12 := by simpa using h
    rw [decide_eq_false (by omega), Bool.false_and]

theorem headM_iff (m : MsgD) : headM m = true ↔ (0 ≤ m.kind ∧ m.kind < 3 ∧ 0 ≤ m.node ∧ m.node ≤ 1099511627776 ∧ 0 ≤ m.inp ∧ m.inp ≤ 1099511627776 ∧ 0 ≤ m.bucket ∧ m.bucket ≤ 1099511627776 ∧ -1 ≤ m.n ∧ m.n ≤ 1099511627776 ∧ (m.deltas.length = 0 ∨ m.kind = 0) ∧ m.deltas.length ≤ 8) := by
  unfold headM numsM numBad
  simp only [List.any_cons, List.any_nil, Bool.or_false, Bool.and_eq_true, Bool.not_eq_true', Bool.or_eq_false_iff, Bool.and_eq_false_iff, decide_eq_false_iff_not, Decidable.not_not]
  omega

set_option maxHeartbeats 1000000 in
theorem rRight_in {Φ : PW} [Stable Φ] (p : Option Addr) (cap : Nat) (m : MsgD) (hΦ : ∀ M w, Φ M w → Sl M w p m.deltas) (hlen : m.deltas.length ≤ 9223372036854775807) :
    GivesIn Φ Try.prog F.errataref36_Right #[m.v p cap] (.bool (rightM m)) := by
  refine .pinned hΦ fun b o cs hp => ?_
  refine in_cells (fun M w h => h.2) fun hcs => ?_
  refine gives_in (Berrataref36_Right_run m.kind m.node m.inp m.bucket m.n p m.deltas.length cap) fun W R => ?_
  refine fun _ w G cx => fun w G cx => Br.intro (fun h1 => fun w G cx => ⟨?_, cx.left⟩) (fun h1 => Br.intro (fun h2 => fun w G cx => ⟨?_, cx.left⟩) (fun h2 => fun w G cx => ?_))
  · have : headM m = false := by
      rw [← Bool.not_eq_true, headM_iff]
      simp only [Bool.not_eq_true', Bool.and_eq_false_iff, decide_eq_false_iff_not] at h1
      omega
    unfold rightM
    rw [this]; rfl
  · have : headM m = false := by
      rw [← Bool.not_eq_true, headM_iff]
      simp only [Bool.not_eq_true', Bool.and_eq_false_iff, Bool.or_eq_false_iff, decide_eq_false_iff_not] at h2
      omega
    unfold rightM
    rw [this]; rfl
  have hhead : headM m = true := by
    rw [headM_iff]
    simp only [Bool.not_eq_false', Bool.and_eq_true, Bool.or_eq_true, decide_eq_true_eq] at h1 h2
    omega
  unfold rightM
  rw [hhead, Bool.true_and]
  refine (rConsolidated_pin (Φ := fun M w => Φ M w ∧ Pin b o cs m.deltas M w) p cap m.deltas b o cs hp (fun _ _ h => h.2) hlen).use cx fun w cx => ⟨_, rfl, R, fun M w => Φ M w ∧ Pin b o cs m.deltas M w, inferInstance, cx, Br.intro (fun h3 => fun w G cx => ⟨?_, cx.left⟩) (fun h3 => ?_)⟩
  · have h3 : consolidated m.deltas = false := by simpa using h3
    rw [h3]; rfl
  have h3 : consolidated m.deltas = true := by simpa using h3
  rw [h3, Bool.true_and]
  refine exI_mk (fun n R' Φ' k => ∃ i : Nat, n = i ∧ i ≤ m.deltas.length ∧ R' = R ∧ Φ' = (fun M w => Φ M w ∧ Pin b o cs m.deltas M w) ∧ k = m.deltas.length - i ∧ ∀ j, (hj : j < m.deltas.length) → j < i → rightRow m.deltas[j].row = true) ⟨⟨R, _, _, inferInstance, fun w F c => c, 0, rfl, Nat.zero_le _, rfl, rfl, rfl, fun j hj h => by omega⟩, ?_⟩
  rintro n R1 Φ1 k _ ⟨i, rfl, hi, rfl, rfl, rfl, hok⟩
  refine Br.intro (fun hlt => ?_) (fun hge => fun w G cx => ⟨?_, cx.left⟩)
  · have hlt : i < m.deltas.length := by simpa using hlt
    obtain ⟨q, qc, he, hq1, hq2, _, _⟩ := hcs i hlt
    refine ⟨by omega, ptrK_intro b o (hp (by omega)) fun w G cx => ⟨q, m.deltas[i].row.length, qc, pin_rowAt cx.phi.2 hlt he 1 (by simp), fun w G cx => (rRightRow_in (Φ := fun M w => Φ M w ∧ Pin b o cs m.deltas M w) q qc m.deltas[i].row (fun M w h => pin_row h.2 hlt he) (len_max hq1 hq2)).use cx fun w cx => ⟨_, rfl, R1, _, inferInstance, cx, Br.intro (fun h => fun w G cx => ⟨?_, cx.left⟩) (fun h => ⟨by unfold I64; omega, R1, _, m.deltas.length - (i + 1), inferInstance, fun w F c => c, ⟨i + 1, rfl, hlt, rfl, rfl, rfl, fun j hj hji => ?_⟩, by omega⟩)⟩⟩⟩
    · rw [any_not (fun d : DeltaD => rightRow d.row) m.deltas i hlt (by simpa using h)]
    · rcases Nat.lt_or_ge j i with h' | h'
      · exact hok j hj h'
      · have : j = i := by omega
        subst this
        simpa using h
  · have hge : i = m.deltas.length := Nat.le_antisymm hi (by simpa using hge)
    rw [any_all (fun d : DeltaD => rightRow d.row) m.deltas fun j hj => hok j hj (by omega)]

end Go.Proofs.Yticgmbmghnikeaa
