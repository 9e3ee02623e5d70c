/-
  The walks of Same, SameList, few, right and small.
-/
import Derived.Test.YticgmbmghnikeaaVe
set_option linter.unusedVariables false
set_option linter.unusedSimpArgs false
namespace Go.Proofs.Yticgmbmghnikeaa
open Go.Vc

/-- the function hands back a value of which C holds -/
structure GivesP (Φ : PW) (P : Program) (f : FuncId) (args : Array Value) (C : Value → Prop) : Prop where
  go : ∀ (W w : World) (S : List Own), Ctx W w S Φ → Calls P f args w fun e w' => ∃ v, e = .returned v ∧ C v ∧ Ctx W w' S Φ

theorem GivesP.use {Φ : PW} {P : Program} {f : FuncId} {args : Array Value} {C : Value → Prop} (h : GivesP Φ P f args C) {W w : World} {S : List Own} (c : Ctx W w S Φ) {K : Ending → World → Prop} (hk : ∀ v w', C v → Ctx W w' S Φ → K (.returned v) w') : Calls P f args w K :=
  (h.go W w S c).mono fun e w' ⟨v, he, hc, c'⟩ => by subst he; exact hk v w' hc c'

theorem gives_p {Φ : PW} [Stable Φ] {P : Program} {f : FuncId} {args : Array Value} {C : Value → Prop} {B : World → List Own → PW → (Value → World → Prop) → Prop}
    (run : ∀ {W w : World} {R : List Own} {Φ : PW} [Stable Φ] {J : Value → World → Prop}, Ctx W w R Φ → B W R Φ J → Calls P f args w fun e w' => ∃ v, e = .returned v ∧ J v w')
    (h : ∀ (W : World) (R : List Own), B W R Φ fun u w' => C u ∧ Ctx W w' R Φ) : GivesP Φ P f args C :=
  ⟨fun W w S c => run c (h W S)⟩

theorem GivesP.pinned {Φ : PW} [Stable Φ] {P : Program} {f : FuncId} {args : Array Value} {C : Value → Prop} {α : Type} [Gv α] {p : Option Addr} {l : List α} (hΦ : ∀ M w, Φ M w → Sl M w p l)
    (h : ∀ b o cs, (0 < l.length → p = some ⟨b, o, none⟩) → GivesP (fun M w => Φ M w ∧ Pin b o cs l M w) P f args C) : GivesP Φ P f args C :=
  ⟨fun W w S c => by
    obtain ⟨b, o, cs, hp, c'⟩ := c.pin (hΦ _ _ c.phi)
    exact ((h b o cs hp).go W w S c').mono fun e w' ⟨v, h1, h2, h3⟩ => ⟨v, h1, h2, h3.fst⟩⟩

theorem cells_of {W w : World} {S : List Own} {Φ : PW} {b o : Nat} {cs : List (List Value)} {l : List DeltaD} (c : Ctx W w S Φ) (hΦ : ∀ M w, Φ M w → Pin b o cs l M w) : ∀ j, (hj : j < l.length) → ∃ p c, cs.getD j [] = l[j].cells p c ∧ l[j].row.length ≤ c ∧ c ≤ maxLen ∧ I64 l[j].time ∧ I64 l[j].n := fun j hj => by
  obtain ⟨p, c, h1, h2, h3, h4, h5, _⟩ := pin_delta (hΦ _ _ c.phi) hj
  exact ⟨p, c, h1, h2, h3, h4, h5⟩

theorem GivesP.cells {Φ : PW} {f : FuncId} {args : Array Value} {C : Value → Prop} {b o : Nat} {cs : List (List Value)} {l : List DeltaD} (hΦ : ∀ M w, Φ M w → Pin b o cs l M w)
    (h : (∀ j, (hj : j < l.length) → ∃ p c, cs.getD j [] = l[j].cells p c ∧ l[j].row.length ≤ c ∧ c ≤ maxLen ∧ I64 l[j].time ∧ I64 l[j].n) → GivesP Φ Try.prog f args C) : GivesP Φ Try.prog f args C :=
  ⟨fun W w S c => (h (cells_of c hΦ)).go W w S c⟩

set_option maxHeartbeats 1000000 in
theorem rSame_in {Φ : PW} [Stable Φ] (p p' : Option Addr) (cap cap' : Nat) (m : MsgD) (hΦ : ∀ M w, Φ M w → Sl M w p m.deltas) (hΨ : ∀ M w, Φ M w → Sl M w p' m.deltas) (hlen : m.deltas.length ≤ 9223372036854775807) :
    GivesIn Φ Try.prog F.errataref36_Same #[m.v p cap, m.v p' cap'] (.bool true) := by
  refine .pinned hΦ fun b o cs hp => .pinned (fun M w h => hΨ M w h.1) fun b' o' cs' hp' => ?_
  refine in_cells (fun M w h => h.1.2) fun hcs => in_cells (fun M w h => h.2) fun hcs' => ?_
  refine gives_in (Berrataref36_Same_run m.kind m.node m.inp m.bucket m.n p m.deltas.length cap m.kind m.node m.inp m.bucket m.n p' m.deltas.length cap') fun W R => ?_
  refine fun _ _ w G cx => Br.intro (fun h => by simp at h) (fun h => ?_)
  refine exI_mk (fun n R' Φ' k => ∃ i : Nat, n = i ∧ i ≤ m.deltas.length ∧ R' = R ∧ Φ' = (fun M w => (Φ M w ∧ Pin b o cs m.deltas M w) ∧ Pin b' o' cs' m.deltas M w) ∧ k = m.deltas.length - i) ⟨⟨R, _, _, inferInstance, fun w F c => c, 0, rfl, Nat.zero_le _, rfl, rfl, rfl⟩, ?_⟩
  rintro n R1 Φ1 k _ ⟨i, rfl, hi, rfl, rfl, rfl⟩
  refine Br.intro (fun hlt => ?_) (fun hge => fun w G cx => ⟨rfl, cx.left⟩)
  have hlt : i < m.deltas.length := by simpa using hlt
  obtain ⟨q, qc, he, hq1, hq2, _, _⟩ := hcs i hlt
  obtain ⟨q', qc', he', hq1', hq2', _, _⟩ := hcs' i hlt
  have hp := hp (by omega)
  have hp' := hp' (by omega)
  refine ⟨R1, _, inferInstance, fun w G cx => cx, by omega, ptrK_intro b o hp ⟨by omega, ptrK_intro b' o' hp' ⟨m.deltas[i].time, fun w G cx => ⟨_, pin_rowAt cx.phi.1.2 hlt he 0 (by simp), rfl⟩, m.deltas[i].time, fun w G cx => ⟨_, pin_rowAt cx.phi.2 hlt he' 0 (by simp), rfl⟩,
    Br.intro (fun h => by simp at h) (fun _ => ⟨by omega, ptrK_intro b o hp ⟨by omega, ptrK_intro b' o' hp' ⟨m.deltas[i].n, fun w G cx => ⟨_, pin_rowAt cx.phi.1.2 hlt he 2 (by simp), rfl⟩, m.deltas[i].n, fun w G cx => ⟨_, pin_rowAt cx.phi.2 hlt he' 2 (by simp), rfl⟩,
      Br.intro (fun h => by simp at h) (fun _ => ⟨by omega, ptrK_intro b o hp ⟨by omega, ptrK_intro b' o' hp' ⟨q, m.deltas[i].row.length, qc, fun w G cx => ⟨q, m.deltas[i].row.length, qc, pin_rowAt cx.phi.1.2 hlt he 1 (by simp), rfl⟩, q', m.deltas[i].row.length, qc', fun w G cx => ⟨q', m.deltas[i].row.length, qc', pin_rowAt cx.phi.2 hlt he' 1 (by simp), rfl⟩, fun w G cx => ?_⟩⟩⟩)⟩⟩⟩)⟩⟩⟩
  refine (rSameRows_in (Φ := fun M w => (Φ M w ∧ Pin b o cs m.deltas M w) ∧ Pin b' o' cs' m.deltas M w) q q' qc qc' m.deltas[i].row m.deltas[i].row (fun M w h => pin_row h.1.2 hlt he) (fun M w h => pin_row h.2 hlt he') (len_max hq1 hq2)).use cx fun w cx => ⟨_, rfl, R1, _, inferInstance, cx, fun w G cx => cx, ?_⟩
  rw [cmpR_refl]
  exact Br.intro (fun h => by simp at h) (fun _ => ⟨by unfold I64; omega, R1, _, m.deltas.length - (i + 1), inferInstance, fun w G cx => cx, ⟨i + 1, rfl, hlt, rfl, rfl, rfl⟩, by omega⟩)

/-! ### lists of messages -/
theorem pin_msg {M : List Nat} {w : World} {b o : Nat} {cs : List (List Value)} {l : List MsgD} (h : Pin b o cs l M w) {j : Nat} (hj : j < l.length) : ∃ p c, cs.getD j [] = l[j].cells p c ∧ l[j].deltas.length ≤ c ∧ c ≤ maxLen ∧ l[j].Ok := by
  obtain ⟨_, h1, h2⟩ := h j hj
  obtain ⟨p, c, e, g1, g2, g3, _⟩ := msg_cells h2
  exact ⟨p, c, e, g1, g2, g3⟩

theorem pin_msgSl {M : List Nat} {w : World} {b o : Nat} {cs : List (List Value)} {l : List MsgD} (h : Pin b o cs l M w) {j : Nat} (hj : j < l.length) {p : Option Addr} {c : Nat} (e : cs.getD j [] = l[j].cells p c) : Sl M w p l[j].deltas := by
  have := (h j hj).2.2
  rw [e] at this
  exact msg_sl this

theorem pin_msgAt {M : List Nat} {w : World} {b o : Nat} {cs : List (List Value)} {l : List MsgD} (h : Pin b o cs l M w) {j : Nat} (hj : j < l.length) {p : Option Addr} {c : Nat} (e : cs.getD j [] = l[j].cells p c) : RowAt w b (o + j * 6) (l[j].cells p c) := by
  have := (h j hj).2.1
  rw [e] at this
  exact this

theorem in_msgs {Φ : PW} {f : FuncId} {args : Array Value} {v : Value} {b o : Nat} {cs : List (List Value)} {l : List MsgD} (hΦ : ∀ M w, Φ M w → Pin b o cs l M w)
    (h : (∀ j, (hj : j < l.length) → ∃ p c, cs.getD j [] = l[j].cells p c ∧ l[j].deltas.length ≤ c ∧ c ≤ maxLen ∧ l[j].Ok) → GivesIn Φ Try.prog f args v) : GivesIn Φ Try.prog f args v :=
  ⟨fun W w S c => (h fun j hj => pin_msg (hΦ _ _ c.phi) hj).go W w S c⟩

set_option maxHeartbeats 1000000 in
theorem rSameList_in {Φ : PW} [Stable Φ] (p p' : Option Addr) (cap cap' : Nat) (l : List MsgD) (hΦ : ∀ M w, Φ M w → Sl M w p l) (hΨ : ∀ M w, Φ M w → Sl M w p' l) (hlen : l.length ≤ 9223372036854775807) :
    GivesIn Φ Try.prog F.errataref36_SameList #[.slice p l.length cap, .slice p' l.length cap'] (.bool true) := by
  refine .pinned hΦ fun b o cs hp => .pinned (fun M w h => hΨ M w h.1) fun b' o' cs' hp' => ?_
  refine in_msgs (fun M w h => h.1.2) fun hcs => in_msgs (fun M w h => h.2) fun hcs' => ?_
  refine gives_in (Berrataref36_SameList_run p l.length cap p' l.length cap') fun W R => ?_
  refine Br.intro (fun h => by simp at h) (fun h => ?_)
  refine exI_mk (fun n R' Φ' k => ∃ i : Nat, n = i ∧ i ≤ l.length ∧ R' = R ∧ Φ' = (fun M w => (Φ M w ∧ Pin b o cs l M w) ∧ Pin b' o' cs' l M w) ∧ k = l.length - i) ⟨⟨R, _, _, inferInstance, fun w F c => c, 0, rfl, Nat.zero_le _, rfl, rfl, rfl⟩, ?_⟩
  rintro n R1 Φ1 k _ ⟨i, rfl, hi, rfl, rfl, rfl⟩
  refine Br.intro (fun hlt => ?_) (fun hge => fun w G cx => ⟨rfl, cx.left⟩)
  have hlt : i < l.length := by simpa using hlt
  obtain ⟨q, qc, he, hq1, hq2, _⟩ := hcs i hlt
  obtain ⟨q', qc', he', hq1', hq2', _⟩ := hcs' i hlt
  have hp := hp (by omega)
  have hp' := hp' (by omega)
  refine ⟨R1, _, inferInstance, fun w G cx => cx, by omega, ptrK_intro b o hp ⟨by omega, ptrK_intro b' o' hp' fun w G cx => ⟨l[i].kind, l[i].node, l[i].inp, l[i].bucket, l[i].n, q, l[i].deltas.length, qc, pin_msgAt cx.phi.1.2 hlt he, fun w G cx => ⟨l[i].kind, l[i].node, l[i].inp, l[i].bucket, l[i].n, q', l[i].deltas.length, qc', pin_msgAt cx.phi.2 hlt he', fun w G cx => ?_⟩⟩⟩⟩
  refine (rSame_in (Φ := fun M w => (Φ M w ∧ Pin b o cs l M w) ∧ Pin b' o' cs' l M w) q q' qc qc' l[i] (fun M w h => pin_msgSl h.1.2 hlt he) (fun M w h => pin_msgSl h.2 hlt he') (len_max hq1 hq2)).use cx fun w cx => ⟨_, rfl, R1, _, inferInstance, cx, fun w G cx => cx, ?_⟩
  exact Br.intro (fun h => by simp at h) (fun _ => ⟨by unfold I64; omega, R1, _, l.length - (i + 1), inferInstance, fun w G cx => cx, ⟨i + 1, rfl, hlt, rfl, rfl, rfl⟩, by omega⟩)

/-! ### few -/
set_option maxHeartbeats 1000000 in
theorem Few_in {Φ : PW} [Stable Φ] (p : Option Addr) (cap : Nat) (m : MsgD) (hΦ : ∀ M w, Φ M w → Sl M w p m.deltas) (hlen : m.deltas.length ≤ 9223372036854775807) :
    GivesP Φ Try.prog F.errataref36_Few #[m.v p cap] fun v => ∃ b, v = .bool b ∧ (b = true → m.Small) := by
  refine .pinned hΦ fun b o cs hp => .cells (fun M w h => h.2) fun hcs => ?_
  refine gives_p (Berrataref36_Few_run m.kind m.node m.inp m.bucket m.n p m.deltas.length cap) fun W R => ?_
  refine fun _ => exI_mk (fun n R' Φ' k => ∃ i : Nat, n = i ∧ i ≤ m.deltas.length ∧ R' = R ∧ Φ' = (fun M w => Φ M w ∧ Pin b o cs m.deltas M w) ∧ k = m.deltas.length - i ∧ ∀ j, (hj : j < m.deltas.length) → j < i → m.deltas[j].row.length ≤ 12) ⟨⟨R, _, _, inferInstance, fun w F c => c, 0, rfl, Nat.zero_le _, rfl, rfl, rfl, fun j hj h => by omega⟩, ?_⟩
  rintro n R1 Φ1 k _ ⟨i, rfl, hi, rfl, rfl, rfl, hok⟩
  refine Br.intro (fun hlt => ?_) (fun hge => fun w G cx => ⟨⟨_, rfl, fun h => ?_⟩, cx.left⟩)
  · have hlt : i < m.deltas.length := by simpa using hlt
    have hp := hp (by omega)
    obtain ⟨q, qc, he, hq1, hq2, _, _⟩ := hcs i hlt
    refine ⟨by omega, ptrK_intro b o hp fun w G cx => ⟨q, m.deltas[i].row.length, qc, pin_rowAt cx.phi.2 hlt he 1 (by simp), Br.intro (fun h => fun w G cx => ⟨⟨_, rfl, fun h => by cases h⟩, cx.left⟩) (fun hrow => ?_)⟩⟩
    have hrow : m.deltas[i].row.length ≤ 12 := by have := of_decide_eq_false hrow; omega
    have hth : There q m.deltas[i].row.length := (pin_row cx.phi.2 hlt he).there
    refine exI_mk (fun n R' Φ' k => ∃ a : Nat, n = a ∧ a ≤ m.deltas[i].row.length ∧ R' = R1 ∧ Φ' = (fun M w => Φ M w ∧ Pin b o cs m.deltas M w) ∧ k = m.deltas[i].row.length - a) ⟨⟨R1, _, _, inferInstance, fun w F c => c, 0, rfl, Nat.zero_le _, rfl, rfl, rfl⟩, ?_⟩
    rintro n R2 Φ2 k _ ⟨a, rfl, ha, rfl, rfl, rfl⟩
    refine ⟨by omega, ptrK_intro b o hp fun w G cx => ⟨q, m.deltas[i].row.length, qc, pin_rowAt cx.phi.2 hlt he 1 (by simp), Br.intro (fun h => ?_) (fun h => ?_)⟩⟩
    · have h : a < m.deltas[i].row.length := by simpa using h
      obtain ⟨b2, o2, hq⟩ := hth (by omega)
      refine ⟨by omega, ptrK_intro b o hp fun w G cx => ⟨q, m.deltas[i].row.length, qc, pin_rowAt cx.phi.2 hlt he 1 (by simp), by omega, ptrK_intro b2 o2 hq fun w G cx => ⟨m.deltas[i].row[a].text, ?_, Br.intro (fun h => fun w G cx => ⟨⟨_, rfl, fun h => by cases h⟩, cx.left⟩) (fun _ => ⟨by unfold I64; omega, R2, _, m.deltas[i].row.length - (a + 1), inferInstance, fun w F c => c, ⟨a + 1, rfl, h, rfl, rfl, rfl⟩, by omega⟩)⟩⟩⟩
      have h1 := pin_row cx.phi.2 hlt he
      rw [hq] at h1
      exact sl_val h1 h 2 (by simp)
    · exact ⟨by unfold I64; omega, R2, _, m.deltas.length - (i + 1), inferInstance, fun w F c => c, ⟨i + 1, rfl, hlt, rfl, rfl, rfl, fun j hj hji => by
        rcases Nat.lt_or_ge j i with h' | h'
        · exact hok j hj h'
        · have : j = i := by omega
          subst this
          exact hrow⟩, by omega⟩
  · have hge : i = m.deltas.length := Nat.le_antisymm hi (by simpa using hge)
    have h := of_decide_eq_true h
    refine ⟨by omega, fun x hx => ?_⟩
    obtain ⟨j, hj, rfl⟩ := List.getElem_of_mem hx
    have := hok j hj (by omega)
    omega

/-! ### right -/
theorem right_in {Φ : PW} [Stable Φ] (p : Option Addr) (cap : Nat) (m : MsgD) (hΦ : ∀ M w, Φ M w → Sl M w p m.deltas) (hlen : m.deltas.length ≤ 9223372036854775807) :
    GivesP Φ Try.prog F.erratalaw36_right #[m.v p cap] fun v => ∃ b, v = .bool b := by
  refine .pinned hΦ fun b o cs hp => .cells (fun M w h => h.2) fun hcs => ?_
  refine gives_p (Berratalaw36_right_run m.kind m.node m.inp m.bucket m.n p m.deltas.length cap) fun W R => ?_
  refine fun _ _ => exI_mk (fun n a0 a1 a2 a3 a4 _ _ _ R' Φ' k => ∃ i : Nat, n = i ∧ i ≤ m.deltas.length ∧ a0 = 0 ∧ a1 = 0 ∧ a2 = 0 ∧ a3 = 0 ∧ a4 = 0 ∧ R' = R ∧ Φ' = (fun M w => Φ M w ∧ Pin b o cs m.deltas M w) ∧ k = m.deltas.length - i) ⟨⟨R, _, _, inferInstance, fun w F c => c, 0, rfl, Nat.zero_le _, rfl, rfl, rfl, rfl, rfl, rfl, rfl, rfl⟩, ?_⟩
  rintro n _ _ _ _ _ _ _ _ R1 Φ1 k _ ⟨i, rfl, hi, rfl, rfl, rfl, rfl, rfl, rfl, rfl, rfl⟩
  refine Br.intro (fun hlt => ?_) (fun hge => fun w G cx => ⟨⟨_, rfl⟩, cx.left⟩)
  have hlt : i < m.deltas.length := by simpa using hlt
  obtain ⟨q, qc, he, hq1, hq2, _, _⟩ := hcs i hlt
  refine ⟨by omega, ptrK_intro b o (hp (by omega)) fun w G cx => ⟨q, m.deltas[i].row.length, qc, pin_rowAt cx.phi.2 hlt he 1 (by simp), fun k w G cx => ?_⟩⟩
  have hel : Elems (dom (Own.blk k [.int .i64 0, .slice q m.deltas[i].row.length qc, .int .i64 1] 56 :: (R1 ++ G))) w [.int .i64 0, .slice q m.deltas[i].row.length qc, .int .i64 1] [(⟨0, m.deltas[i].row, 1⟩ : DeltaD)] :=
    Elems.one (rep_delta (x := ⟨0, m.deltas[i].row, 1⟩) hq1 hq2 (by show I64 0; unfold I64; omega) (by show I64 1; unfold I64; omega) (pin_row cx.phi.2 hlt he))
  obtain ⟨cx1, hsl⟩ := cx.freezeBlk hel
  have hst : Stable (fun M w => (Φ M w ∧ Pin b o cs m.deltas M w) ∧ Sl M w (some ⟨k, 0, none⟩) [(⟨0, m.deltas[i].row, 1⟩ : DeltaD)]) :=
    have h2 := instStableSl (some ⟨k, 0, none⟩) [(⟨0, m.deltas[i].row, 1⟩ : DeltaD)]
    instStableAnd (fun M w => Φ M w ∧ Pin b o cs m.deltas M w) (fun M w => Sl M w (some ⟨k, 0, none⟩) [(⟨0, m.deltas[i].row, 1⟩ : DeltaD)])
  refine (rRight_in (Φ := fun M w => (Φ M w ∧ Pin b o cs m.deltas M w) ∧ Sl M w (some ⟨k, 0, none⟩) [(⟨0, m.deltas[i].row, 1⟩ : DeltaD)]) (some ⟨k, 0, none⟩) 1 ⟨0, 0, 0, 0, 0, [⟨0, m.deltas[i].row, 1⟩]⟩ (fun _ _ h => h.2) (by simp)).use (cx1.add hsl) fun w cx => ⟨_, rfl, R1, fun M w => Φ M w ∧ Pin b o cs m.deltas M w, inferInstance, cx.fst, ?_⟩
  exact Br.intro (fun h => fun w G cx => ⟨⟨_, rfl⟩, cx.left⟩) (fun _ => ⟨by unfold I64; omega, R1, _, m.deltas.length - (i + 1), inferInstance, fun w G cx => cx, ⟨i + 1, rfl, hlt, rfl, rfl, rfl, rfl, rfl, rfl, rfl, rfl⟩, by omega⟩)

end Go.Proofs.Yticgmbmghnikeaa
