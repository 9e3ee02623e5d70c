/-
  The walks of the reference's Well and Analyze.
-/
import Derived.Test.YtflanndhfdfemaaWr
set_option linter.unusedVariables false
set_option linter.unusedSimpArgs false
namespace Go.Proofs.Ytflanndhfdfemaa
open Go.Vc

set_option maxRecDepth 100000 in
set_option maxHeartbeats 400000 in
theorem rWell_pin {Φ : PW} [Stable Φ] (p0P : Option Addr) (p0N p0C : Nat) (p : Option Addr) (cap : Nat) (l : List NodeD) (b o : Nat) (cs : List (List Value)) (hp : 0 < l.length → p = some ⟨b, o, none⟩) (hΦ : ∀ M w, Φ M w → Pin b o cs l M w) :
    GivesIn Φ Try.prog F.errataref20_Well #[.agg #[.slice p0P p0N p0C, .slice p l.length cap]] (.bool (wellB l)) := by
  refine gives_in (Berrataref20_Well_run p0P p0N p0C p l.length cap) fun W R => ?_
  refine fun _ w F cx => Br.intro (fun h => fun w F cx => ⟨?_, cx.left⟩) (fun h => ?_)
  · have h : (l.length : Int) < 1 ∨ 40 < (l.length : Int) := by simpa using h
    have : win (l.length : Int) 1 40 = false := by
      simp only [win, Bool.and_eq_false_iff, decide_eq_false_iff_not]; omega
    unfold wellB
    rw [this, Bool.and_false]
  have h : ¬ ((l.length : Int) < 1 ∨ 40 < (l.length : Int)) := by simpa using h
  have hle : 1 ≤ l.length ∧ l.length ≤ 40 := by omega
  clear cx
  have hpb := hp (by omega)
  refine exI_mk (fun n R' Φ' k => ∃ j : Nat, n = j ∧ j ≤ l.length ∧ R' = R ∧ Φ' = Φ ∧ k = l.length - j ∧ ∀ i, (hi : i < l.length) → i < j → nodeOk i l[i] = true) ⟨⟨R, Φ, _, inferInstance, fun w F c => c, 0, rfl, Nat.zero_le _, rfl, rfl, rfl, fun i _ h => by omega⟩, ?_⟩
  rintro n R1 Φ1 k _ ⟨j, rfl, hj, rfl, rfl, rfl, hok⟩
  refine Br.intro (fun hlt => ?_) (fun hge => fun w F cx => ⟨?_, cx.left⟩)
  · have hlt : j < l.length := by simpa using hlt
    refine ⟨by omega, ptrK_intro b o hpb fun w F cx => ?_⟩
    obtain ⟨x, hrow, hlike, h1, h15, hsub, _⟩ := node_at hΦ cx j hlt
    have hth := (hsub _ _ cx.phi).there
    have bad : nodeOk j l[j] = false → wellB l = false := wellB_false hlt
    refine ⟨_, _, _, _, _, _, _, _, _, _, _, _, _, _, _, _, _, _, _, _, _, _, _, _, _, _, _, _, _, _, hrow _ _ cx.phi, fun _ w F cx => ⟨kIn x.n0, fun _ w51 hw => (rinputs_q _).atN hw, Br.intro (fun hb => fun w F cx => ⟨?_, cx.left⟩) (fun hb => ?_)⟩⟩
    · rw [bad ?_]
      have hb : (x.n0 < 0 ∨ 9 ≤ x.n0) ∨ ¬ (x.n1N : Int) = kIn x.n0 := by simpa using hb
      unfold nodeOk
      rw [← hlike.e0, ← h1]
      simp only [win, Bool.and_eq_false_iff, decide_eq_false_iff_not]
      omega
    have hb : ¬ ((x.n0 < 0 ∨ 9 ≤ x.n0) ∨ ¬ (x.n1N : Int) = kIn x.n0) := by simpa using hb
    have hkb := kIn_bd x.n0
    clear cx
    rw [h1]
    rw [h1] at hb
    refine exI_mk (fun m R' Φ' k => ∃ i : Nat, m = i ∧ i ≤ l[j].inp.length ∧ R' = R1 ∧ Φ' = Φ1 ∧ k = l[j].inp.length - i ∧ ∀ q, (hq : q < l[j].inp.length) → q < i → win l[j].inp[q] 0 ((j : Int) - 1) = true) ⟨⟨R1, Φ1, _, inferInstance, fun w F c => c, 0, rfl, Nat.zero_le _, rfl, rfl, rfl, fun q _ h => by omega⟩, ?_⟩
    rintro m R2 Φ2 k _ ⟨i, rfl, hi, rfl, rfl, rfl, hin⟩
    refine Br.intro (fun h => fun w F cx => ?_) (fun h => ?_)
    · have hlt2 : i < l[j].inp.length := by simpa using h
      obtain ⟨bb, oo, hbo⟩ := hth (by omega)
      have hc := sl_int (hbo ▸ hsub _ _ cx.phi) hlt2
      refine ⟨by omega, ptrK_intro bb oo hbo ⟨_, hc, fun _ => by omega, ptrK_intro bb oo hbo ⟨_, fun _ => hc, Br.intro (fun hb => fun w F cx => ⟨?_, cx.left⟩) (fun hb => ?_)⟩⟩⟩
      · rw [bad ?_]
        have hb : l[j].inp[i] < 0 ∨ (j : Int) ≤ l[j].inp[i] := by simpa using hb
        have : win l[j].inp[i] 0 ((j : Int) - 1) = false := by
          simp only [win, Bool.and_eq_false_iff, decide_eq_false_iff_not]; omega
        unfold nodeOk
        rw [show (l[j].inp.all fun n => win n 0 ((j : Int) - 1)) = false from Bool.eq_false_iff.2 fun hall => by rw [List.all_eq_true] at hall; rw [hall _ (List.getElem_mem hlt2)] at this; cases this]
        simp
      · have hb : ¬ (l[j].inp[i] < 0 ∨ (j : Int) ≤ l[j].inp[i]) := by simpa using hb
        refine ⟨by unfold I64; omega, R2, Φ2, _, inferInstance, fun w F c => c, ⟨i + 1, rfl, hlt2, rfl, rfl, rfl, fun q hq hqi => ?_⟩, by omega⟩
        by_cases hh : q = i
        · subst hh
          simp only [win, Bool.and_eq_true, decide_eq_true_eq]; omega
        · exact hin q hq (by omega)
    · have hge : i = l[j].inp.length := Nat.le_antisymm hi (by simpa using h)
      subst hge
      refine ⟨by unfold I64; omega, R2, Φ2, _, inferInstance, fun w F c => c, ⟨j + 1, rfl, by omega, rfl, rfl, rfl, fun i' hi' hlt' => ?_⟩, by omega⟩
      by_cases hh : i' = j
      · subst hh
        unfold nodeOk
        rw [← hlike.e0]
        simp only [Bool.and_eq_true, List.all_eq_true, win, decide_eq_true_eq]
        refine ⟨⟨by omega, by omega⟩, fun a ha => ?_⟩
        obtain ⟨q, hq, rfl⟩ := List.getElem_of_mem ha
        have := hin q hq hq
        simpa only [win, Bool.and_eq_true, decide_eq_true_eq] using this
      · exact hok i' hi' (by omega)
  · have hge : j = l.length := Nat.le_antisymm hj (by simpa using hge)
    subst hge
    unfold wellB
    rw [(wellFrom_iff l 0).2 fun j hj => by rw [Nat.zero_add]; exact hok j hj hj]
    simp [win]; omega

theorem rWell_in {Φ : PW} [Stable Φ] (p0P : Option Addr) (p0N p0C : Nat) (p : Option Addr) (cap : Nat) (l : List NodeD) (hΦ : ∀ M w, Φ M w → Sl M w p l) :
    GivesIn Φ Try.prog F.errataref20_Well #[.agg #[.slice p0P p0N p0C, .slice p l.length cap]] (.bool (wellB l)) :=
  .pinned hΦ fun b o cs hp => rWell_pin _ _ _ _ _ _ b o cs hp (fun _ _ h => h.2)

end Go.Proofs.Ytflanndhfdfemaa
