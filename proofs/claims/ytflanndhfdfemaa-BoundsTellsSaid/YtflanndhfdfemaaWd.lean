/-
  The walk of bounds.Well.
-/
import Derived.Test.YtflanndhfdfemaaWc
set_option linter.unusedVariables false
set_option linter.unusedSimpArgs false
namespace Go.Proofs.Ytflanndhfdfemaa
open Go.Vc

def nodeOk (i : Nat) (x : NodeD) : Bool := win x.op 0 8 && decide ((x.inp.length : Int) = kIn x.op) && x.inp.all fun n => win n 0 ((i : Int) - 1)
def wellFrom : Nat → List NodeD → Bool
  | _, [] => true
  | i, x :: r => nodeOk i x && wellFrom (i + 1) r
def wellB (l : List NodeD) : Bool := wellFrom 0 l && win l.length 1 40

theorem wellFrom_iff : ∀ (l : List NodeD) (i : Nat), wellFrom i l = true ↔ ∀ j, (hj : j < l.length) → nodeOk (i + j) l[j] = true
  | [], i => by simp [wellFrom]
  | x :: r, i => by
    simp only [wellFrom, Bool.and_eq_true, wellFrom_iff r (i + 1)]
    constructor
    · rintro ⟨h1, h2⟩ j hj
      cases j with
      | zero => exact h1
      | succ j => have := h2 j (by simpa using hj); rw [show i + (j + 1) = i + 1 + j by omega]; simpa using this
    · intro h
      exact ⟨by have := h 0 (by simp); simpa only [Nat.add_zero, List.getElem_cons_zero] using this, fun j hj => by have := h (j + 1) (by simpa using hj); rw [show i + 1 + j = i + (j + 1) by omega]; simpa using this⟩

theorem wellB_false {l : List NodeD} {j : Nat} (hj : j < l.length) (h : nodeOk j l[j] = false) : wellB l = false := by
  unfold wellB
  cases hw : wellFrom 0 l with
  | false => rfl
  | true => have := (wellFrom_iff l 0).1 hw j hj; rw [Nat.zero_add, h] at this; cases this

theorem sl_at {α : Type} [Gv α] {M : List Nat} {w : World} {p : Option Addr} {l : List α} (h : Sl M w p l) (j : Nat) (hj : j < l.length) : ∃ b o cs, p = some ⟨b, o, none⟩ ∧ RowAt w b (o + j * (Gv.ty α).size) cs ∧ Gv.rep M w cs l[j] := by
  obtain ⟨b, o, cs, h1, _, h3, h4⟩ := h j hj
  exact ⟨b, o, cs, h1, h3, h4⟩

theorem node_in {M : List Nat} {w : World} {x : NodeC} {d : NodeD} (h : Gv.rep M w x.cells d) : Sl M w x.n1P d.inp := by
  obtain ⟨c, e, _, _, _, hin, _⟩ := node_cells h
  simp only [NodeC.cells, List.cons.injEq, Value.slice.injEq] at e
  rw [e.2.1.1]
  exact hin

theorem kIn_bd (op : Int) : 0 ≤ kIn op ∧ kIn op ≤ 2 := by
  unfold kIn; split; omega; split <;> omega

set_option maxRecDepth 100000 in
theorem Well_pin {Φ : PW} [Stable Φ] (p0P : Option Addr) (p0N p0C : Nat) (p : Option Addr) (cap : Nat) (l : List NodeD) (b o : Nat) (cs : List (List Value)) (hp : 0 < l.length → p = some ⟨b, o, none⟩) (hΦ : ∀ M w, Φ M w → Pin b o cs l M w)
    (hlen : l.length ≤ 9223372036854775807) : GivesIn Φ Try.prog F.bounds_Well #[.agg #[.slice p0P p0N p0C, .slice p l.length cap]] (.bool (wellB l)) := by
  refine gives_in (Bbounds_Well_run p0P p0N p0C p l.length cap) fun W R => ?_
  refine fun _ => exI_mk (fun n R' Φ' k => ∃ j : Nat, n = j ∧ j ≤ l.length ∧ R' = R ∧ Φ' = Φ ∧ k = l.length - j ∧ ∀ i, (hi : i < l.length) → i < j → nodeOk i l[i] = true) ⟨⟨R, Φ, _, inferInstance, fun w F c => c, 0, rfl, Nat.zero_le _, rfl, rfl, rfl, fun i _ h => by omega⟩, ?_⟩
  rintro n R1 Φ1 k _ ⟨j, rfl, hj, rfl, rfl, rfl, hok⟩
  refine Br.intro (fun h => ?_) (fun h => ?_)
  · have hlt : j < l.length := by simpa using h
    refine ⟨by omega, ptrK_intro b o (hp (by omega)) fun w F c => ?_⟩
    obtain ⟨_, hrow, hrep⟩ := hΦ _ _ c.phi j hlt
    obtain ⟨x, hx, hxo, h0, h1, hin, _⟩ := node_cells hrep
    have hthere : There x.n1P l[j].inp.length := Sl.there hin
    have hsub : ∀ M w, Φ1 M w → Sl M w x.n1P l[j].inp := fun M w h => node_in (by have := (hΦ M w h j hlt).2.2; rwa [hx] at this)
    rw [show (Gv.ty NodeD).size = 16 from rfl, hx] at hrow
    clear hin hrep
    refine ⟨_, _, _, _, _, _, _, _, _, _, _, _, _, _, _, _, _, _, _, _, _, _, _, _, _, _, _, _, _, _, hrow, fun _ => ⟨by simp [OneAll, oneC], fun w F c => (of_g x.n0).in.use c fun w c => ?_⟩⟩
    have bad : nodeOk j l[j] = false → wellB l = false := wellB_false hlt
    have hkin : win x.n0 0 8 = true → kIn x.n0 = kIn x.n0 := fun _ => rfl
    cases hw : win x.n0 0 8 with
    | false =>
      refine ⟨_, _, _, _, _, rfl, _, _, inferInstance, c, fun _ => ⟨by simp [OneAll, oneC], fun w F c => Br.intro (fun _ => fun w F c => ⟨?_, c.left⟩) (fun h => by simp at h)⟩⟩
      rw [bad (by unfold nodeOk; rw [← h0, hw]; rfl)]
    | true =>
      refine ⟨_, _, _, _, _, rfl, _, _, inferInstance, c, fun _ => ⟨by simp [OneAll, oneC], fun w F c => Br.intro (fun hn => fun w F c => ⟨?_, c.left⟩) (fun hn => ?_)⟩⟩
      · have hn : ¬ (x.n1N : Int) = kIn x.n0 := by simpa using hn
        rw [bad (by unfold nodeOk; rw [← h0, hw, ← h1, decide_eq_false hn]; rfl)]
      · have hn : (x.n1N : Int) = kIn x.n0 := by simpa using hn
        clear c
        refine exI_mk (fun m R' Φ' k => ∃ i : Nat, m = i ∧ i ≤ l[j].inp.length ∧ R' = R1 ∧ Φ' = Φ1 ∧ k = l[j].inp.length - i ∧ ∀ q, (hq : q < l[j].inp.length) → q < i → win l[j].inp[q] 0 ((j : Int) - 1) = true) ⟨⟨R1, Φ1, _, inferInstance, fun w F c => c, 0, rfl, Nat.zero_le _, rfl, rfl, rfl, fun q _ h => by omega⟩, ?_⟩
        rintro m R2 Φ2 k _ ⟨i, rfl, hi, rfl, rfl, rfl, hin⟩
        rw [h1]
        refine Br.intro (fun h => ?_) (fun h => ?_)
        · have hlt2 : i < l[j].inp.length := by simpa using h
          obtain ⟨bb, oo, hbo⟩ := hthere (by omega)
          refine ⟨by omega, ptrK_intro bb oo hbo fun w F c => ?_⟩
          have := kIn_bd x.n0
          refine ⟨l[j].inp[i], sl_int (hbo ▸ hsub _ _ c.phi) hlt2, by unfold I64; omega, fun w F c => (within_g _ _ _).in.use c fun w c => ⟨_, rfl, _, _, inferInstance, c, Br.intro (fun hb => fun w F c => ⟨?_, c.left⟩) (fun hb => ?_)⟩⟩
          · rw [bad]
            have : win l[j].inp[i] 0 ((j : Int) - 1) = false := by simpa using hb
            unfold nodeOk
            rw [show (l[j].inp.all fun n => win n 0 ((j : Int) - 1)) = false from Bool.eq_false_iff.2 fun hall => by rw [List.all_eq_true] at hall; rw [hall _ (List.getElem_mem hlt2)] at this; cases this]
            simp
          · have hb : win l[j].inp[i] 0 ((j : Int) - 1) = true := by simpa using hb
            refine ⟨by unfold I64; omega, R2, Φ2, _, inferInstance, fun w F c => c, ⟨i + 1, rfl, hlt2, rfl, rfl, rfl, fun q hq hqi => ?_⟩, by omega⟩
            by_cases hh : q = i
            · subst hh; exact hb
            · exact hin q hq (by omega)
        · have hge : i = l[j].inp.length := by have : ¬ i < l[j].inp.length := by simpa using h
                                               omega
          subst hge
          refine ⟨by unfold I64; omega, R2, Φ2, _, inferInstance, fun w F c => c, ⟨j + 1, rfl, by omega, rfl, rfl, rfl, fun i' hi' hlt' => ?_⟩, by omega⟩
          by_cases hh : i' = j
          · subst hh
            unfold nodeOk
            rw [← h0, hw, ← h1, decide_eq_true hn]
            simpa using fun a ha => by
              obtain ⟨q, hq, rfl⟩ := List.getElem_of_mem ha
              exact hin q hq hq
          · exact hok i' hi' (by omega)
  · have hge : ¬ j < l.length := by simpa using h
    have : j = l.length := by omega
    subst this
    refine fun w F c => (within_g _ _ _).in.use c fun w c => ⟨_, rfl, _, _, inferInstance, c, fun w F c => ⟨?_, c.left⟩⟩
    unfold wellB
    rw [(wellFrom_iff l 0).2 fun j hj => by rw [Nat.zero_add]; exact hok j hj hj]
    rfl

theorem Well_in {Φ : PW} [Stable Φ] (p0P : Option Addr) (p0N p0C : Nat) (p : Option Addr) (cap : Nat) (l : List NodeD) (hΦ : ∀ M w, Φ M w → Sl M w p l)
    (hlen : l.length ≤ 9223372036854775807) : GivesIn Φ Try.prog F.bounds_Well #[.agg #[.slice p0P p0N p0C, .slice p l.length cap]] (.bool (wellB l)) :=
  .pinned hΦ fun b o cs hp => Well_pin _ _ _ _ _ _ b o cs hp (fun _ _ h => h.2) hlen

end Go.Proofs.Ytflanndhfdfemaa
