/-
  The walks of Same, SameList, few, right and small.
-/
import Derived.Test.YtfpgbejdlikpgaaGreatDoorCBa9
import Derived.Test.YtfpgbejdlikpgaaGreatDoorCBa4
import Derived.Test.YtfpgbejdlikpgaaGreatDoorCBa6

section
set_option linter.unusedVariables false
set_option linter.unusedSimpArgs false
namespace Go.Proofs.YtfpgbejdlikpgaaGreatDoor
open Go.Vc

/-- the function hands back a value of which C holds -/
structure GivesP (Φ : PW) (P : Program) (f : FuncId) (args : Array Value) (C : Value → Prop) : Prop where
  go : ∀ (W w : World) (S : List Own), Ctx W w S Φ → Calls P f args w fun e w' => ∃ v, e = .returned v ∧ C v ∧ Ctx W w' S Φ

theorem GivesP.use {Φ : PW} {P : Program} {f : FuncId} {args : Array Value} {C : Value → Prop} (h : GivesP Φ P f args C) {W w : World} {S : List Own} (c : Ctx W w S Φ) {K : Ending → World → Prop} (hk : ∀ v w', C v → Ctx W w' S Φ → K (.returned v) w') : Calls P f args w K :=
  (h.go W w S c).mono fun e w' ⟨v, he, hc, c'⟩ => by subst he; exact hk v w' hc c'

theorem gives_p {Φ : PW} [Stable Φ] {P : Program} {f : FuncId} {args : Array Value} {C : Value → Prop} {B : World → List Own → PW → (Value → World → Prop) → Prop}
    (run : ∀ {W w : World} {R : List Own} {Φ : PW} [Stable Φ] {J : Value → World → Prop}, Ctx W w R Φ → B W R Φ J → Calls P f args w fun e w' => ∃ v, e = .returned v ∧ J v w')
    (h : ∀ (W : World) (R : List Own), B W R Φ fun u w' => C u ∧ Ctx W w' R Φ) : GivesP Φ P f args C :=
  ⟨fun W w S c => run c (h W S)⟩

theorem GivesP.pinned {Φ : PW} [Stable Φ] {P : Program} {f : FuncId} {args : Array Value} {C : Value → Prop} {α : Type} [Gv α] {p : Option Addr} {l : List α} (hΦ : ∀ M w, Φ M w → Sl M w p l)
    (h : ∀ b o cs, (0 < l.length → p = some ⟨b, o, none⟩) → GivesP (fun M w => Φ M w ∧ Pin b o cs l M w) P f args C) : GivesP Φ P f args C :=
  ⟨fun W w S c => by
    obtain ⟨b, o, cs, hp, c'⟩ := c.pin (hΦ _ _ c.phi)
    exact ((h b o cs hp).go W w S c').mono fun e w' ⟨v, h1, h2, h3⟩ => ⟨v, h1, h2, h3.fst⟩⟩

theorem cells_of {W w : World} {S : List Own} {Φ : PW} {b o : Nat} {cs : List (List Value)} {l : List DeltaD} (c : Ctx W w S Φ) (hΦ : ∀ M w, Φ M w → Pin b o cs l M w) : ∀ j, (hj : j < l.length) → ∃ p c, cs.getD j [] = l[j].cells p c ∧ l[j].row.length ≤ c ∧ c ≤ maxLen ∧ I64 l[j].time ∧ I64 l[j].n := fun j hj => by
  obtain ⟨p, c, h1, h2, h3, h4, h5, _⟩ := pin_delta (hΦ _ _ c.phi) hj
  exact ⟨p, c, h1, h2, h3, h4, h5⟩

theorem GivesP.cells {Φ : PW} {f : FuncId} {args : Array Value} {C : Value → Prop} {b o : Nat} {cs : List (List Value)} {l : List DeltaD} (hΦ : ∀ M w, Φ M w → Pin b o cs l M w)
    (h : (∀ j, (hj : j < l.length) → ∃ p c, cs.getD j [] = l[j].cells p c ∧ l[j].row.length ≤ c ∧ c ≤ maxLen ∧ I64 l[j].time ∧ I64 l[j].n) → GivesP Φ Tryz.prog f args C) : GivesP Φ Tryz.prog f args C :=
  ⟨fun W w S c => (h (cells_of c hΦ)).go W w S c⟩

set_option maxHeartbeats 1000000 in
theorem rSame_in {Φ : PW} [Stable Φ] (p p' : Option Addr) (cap cap' : Nat) (m : MsgD) (hΦ : ∀ M w, Φ M w → Sl M w p m.deltas) (hΨ : ∀ M w, Φ M w → Sl M w p' m.deltas) (hlen : m.deltas.length ≤ 9223372036854775807) :
    GivesIn Φ Tryz.prog F.errataref36_Same #[m.v p cap, m.v p' cap'] (.bool true) := by
  refine .pinned hΦ fun b o cs hp => .pinned (fun M w h => hΨ M w h.1) fun b' o' cs' hp' => ?_
  refine in_cells (fun M w h => h.1.2) fun hcs => in_cells (fun M w h => h.2) fun hcs' => ?_
  refine gives_in (Oerrataref36_Same_run m.kind m.node m.inp m.bucket m.n p m.deltas.length cap m.kind m.node m.inp m.bucket m.n p' m.deltas.length cap') fun W R => ?_
  refine fun _ _ w G cx => Br.intro (fun h => by simp at h) (fun h => ?_)
  refine exI_mk (fun n R' Φ' k => ∃ i : Nat, n = i ∧ i ≤ m.deltas.length ∧ R' = R ∧ Φ' = (fun M w => (Φ M w ∧ Pin b o cs m.deltas M w) ∧ Pin b' o' cs' m.deltas M w) ∧ k = m.deltas.length - i) ⟨⟨R, _, _, inferInstance, fun w F c => c, 0, rfl, Nat.zero_le _, rfl, rfl, rfl⟩, ?_⟩
  rintro n R1 Φ1 k _ ⟨i, rfl, hi, rfl, rfl, rfl⟩
  refine Br.intro (fun hlt => ?_) (fun hge => fun w G cx => ⟨rfl, cx.left⟩)
  have hlt : i < m.deltas.length := by simpa using hlt
  obtain ⟨q, qc, he, hq1, hq2, _, _⟩ := hcs i hlt
  obtain ⟨q', qc', he', hq1', hq2', _, _⟩ := hcs' i hlt
  have hp := hp (by omega)
  have hp' := hp' (by omega)
  refine ⟨R1, _, inferInstance, fun w G cx => cx, by omega, ptrK_intro b o hp ⟨by omega, ptrK_intro b' o' hp' ⟨m.deltas[i].time, fun w G cx => ⟨_, pin_rowAt cx.phi.1.2 hlt he 0 (by simp), rfl⟩, m.deltas[i].time, fun w G cx => ⟨_, pin_rowAt cx.phi.2 hlt he' 0 (by simp), rfl⟩,
    Br.intro (fun h => by simp at h) (fun _ => ⟨by omega, ptrK_intro b o hp ⟨by omega, ptrK_intro b' o' hp' ⟨m.deltas[i].n, fun w G cx => ⟨_, pin_rowAt cx.phi.1.2 hlt he 2 (by simp), rfl⟩, m.deltas[i].n, fun w G cx => ⟨_, pin_rowAt cx.phi.2 hlt he' 2 (by simp), rfl⟩,
      Br.intro (fun h => by simp at h) (fun _ => ⟨by omega, ptrK_intro b o hp ⟨by omega, ptrK_intro b' o' hp' ⟨q, m.deltas[i].row.length, qc, fun w G cx => ⟨q, m.deltas[i].row.length, qc, pin_rowAt cx.phi.1.2 hlt he 1 (by simp), rfl⟩, q', m.deltas[i].row.length, qc', fun w G cx => ⟨q', m.deltas[i].row.length, qc', pin_rowAt cx.phi.2 hlt he' 1 (by simp), rfl⟩, fun w G cx => ?_⟩⟩⟩)⟩⟩⟩)⟩⟩⟩
  refine (rSameRows_in (Φ := fun M w => (Φ M w ∧ Pin b o cs m.deltas M w) ∧ Pin b' o' cs' m.deltas M w) q q' qc qc' m.deltas[i].row m.deltas[i].row (fun M w h => pin_row h.1.2 hlt he) (fun M w h => pin_row h.2 hlt he') (len_max hq1 hq2)).use cx fun w cx => ⟨_, rfl, R1, _, inferInstance, cx, fun w G cx => cx, ?_⟩
  rw [cmpR_refl]
  exact Br.intro (fun h => by simp at h) (fun _ => ⟨by unfold I64; omega, R1, _, m.deltas.length - (i + 1), inferInstance, fun w G cx => cx, ⟨i + 1, rfl, hlt, rfl, rfl, rfl⟩, by omega⟩)

/-! ### lists of messages -/
theorem pin_msg {M : List Nat} {w : World} {b o : Nat} {cs : List (List Value)} {l : List MsgD} (h : Pin b o cs l M w) {j : Nat} (hj : j < l.length) : ∃ p c, cs.getD j [] = l[j].cells p c ∧ l[j].deltas.length ≤ c ∧ c ≤ maxLen ∧ l[j].Ok := by
  obtain ⟨_, h1, h2⟩ := h j hj
  obtain ⟨p, c, e, g1, g2, g3, _⟩ := msg_cells h2
  exact ⟨p, c, e, g1, g2, g3⟩

theorem pin_msgSl {M : List Nat} {w : World} {b o : Nat} {cs : List (List Value)} {l : List MsgD} (h : Pin b o cs l M w) {j : Nat} (hj : j < l.length) {p : Option Addr} {c : Nat} (e : cs.getD j [] = l[j].cells p c) : Sl M w p l[j].deltas := by
  have := (h j hj).2.2
  rw [e] at this
  exact msg_sl this

theorem pin_msgAt {M : List Nat} {w : World} {b o : Nat} {cs : List (List Value)} {l : List MsgD} (h : Pin b o cs l M w) {j : Nat} (hj : j < l.length) {p : Option Addr} {c : Nat} (e : cs.getD j [] = l[j].cells p c) : RowAt w b (o + j * 6) (l[j].cells p c) := by
  have := (h j hj).2.1
  rw [e] at this
  exact this

theorem in_msgs {Φ : PW} {f : FuncId} {args : Array Value} {v : Value} {b o : Nat} {cs : List (List Value)} {l : List MsgD} (hΦ : ∀ M w, Φ M w → Pin b o cs l M w)
    (h : (∀ j, (hj : j < l.length) → ∃ p c, cs.getD j [] = l[j].cells p c ∧ l[j].deltas.length ≤ c ∧ c ≤ maxLen ∧ l[j].Ok) → GivesIn Φ Tryz.prog f args v) : GivesIn Φ Tryz.prog f args v :=
  ⟨fun W w S c => (h fun j hj => pin_msg (hΦ _ _ c.phi) hj).go W w S c⟩

set_option maxHeartbeats 1000000 in
theorem rSameList_in {Φ : PW} [Stable Φ] (p p' : Option Addr) (cap cap' : Nat) (l : List MsgD) (hΦ : ∀ M w, Φ M w → Sl M w p l) (hΨ : ∀ M w, Φ M w → Sl M w p' l) (hlen : l.length ≤ 9223372036854775807) :
    GivesIn Φ Tryz.prog F.errataref36_SameList #[.slice p l.length cap, .slice p' l.length cap'] (.bool true) := by
  refine .pinned hΦ fun b o cs hp => .pinned (fun M w h => hΨ M w h.1) fun b' o' cs' hp' => ?_
  refine in_msgs (fun M w h => h.1.2) fun hcs => in_msgs (fun M w h => h.2) fun hcs' => ?_
  refine gives_in (Oerrataref36_SameList_run p l.length cap p' l.length cap') fun W R => ?_
  refine Br.intro (fun h => by simp at h) (fun h => ?_)
  refine exI_mk (fun n R' Φ' k => ∃ i : Nat, n = i ∧ i ≤ l.length ∧ R' = R ∧ Φ' = (fun M w => (Φ M w ∧ Pin b o cs l M w) ∧ Pin b' o' cs' l M w) ∧ k = l.length - i) ⟨⟨R, _, _, inferInstance, fun w F c => c, 0, rfl, Nat.zero_le _, rfl, rfl, rfl⟩, ?_⟩
  rintro n R1 Φ1 k _ ⟨i, rfl, hi, rfl, rfl, rfl⟩
  refine Br.intro (fun hlt => ?_) (fun hge => fun w G cx => ⟨rfl, cx.left⟩)
  have hlt : i < l.length := by simpa using hlt
  obtain ⟨q, qc, he, hq1, hq2, _⟩ := hcs i hlt
  obtain ⟨q', qc', he', hq1', hq2', _⟩ := hcs' i hlt
  have hp := hp (by omega)
  have hp' := hp' (by omega)
  refine ⟨R1, _, inferInstance, fun w G cx => cx, by omega, ptrK_intro b o hp ⟨by omega, ptrK_intro b' o' hp' fun w G cx => ⟨l[i].kind, l[i].node, l[i].inp, l[i].bucket, l[i].n, q, l[i].deltas.length, qc, pin_msgAt cx.phi.1.2 hlt he, fun w G cx => ⟨l[i].kind, l[i].node, l[i].inp, l[i].bucket, l[i].n, q', l[i].deltas.length, qc', pin_msgAt cx.phi.2 hlt he', fun w G cx => ?_⟩⟩⟩⟩
  refine (rSame_in (Φ := fun M w => (Φ M w ∧ Pin b o cs l M w) ∧ Pin b' o' cs' l M w) q q' qc qc' l[i] (fun M w h => pin_msgSl h.1.2 hlt he) (fun M w h => pin_msgSl h.2 hlt he') (len_max hq1 hq2)).use cx fun w cx => ⟨_, rfl, R1, _, inferInstance, cx, fun w G cx => cx, ?_⟩
  exact Br.intro (fun h => by simp at h) (fun _ => ⟨by unfold I64; omega, R1, _, l.length - (i + 1), inferInstance, fun w G cx => cx, ⟨i + 1, rfl, hlt, rfl, rfl, rfl⟩, by omega⟩)

/-! ### few -/
set_option maxHeartbeats 1000000 in
theorem Few36_in {Φ : PW} [Stable Φ] (p : Option Addr) (cap : Nat) (m : MsgD) (hΦ : ∀ M w, Φ M w → Sl M w p m.deltas) (hlen : m.deltas.length ≤ 9223372036854775807) :
    GivesP Φ Tryz.prog F.errataref36_Few #[m.v p cap] fun v => ∃ b, v = .bool b ∧ (b = true → m.Small) := by
  refine .pinned hΦ fun b o cs hp => .cells (fun M w h => h.2) fun hcs => ?_
  refine gives_p (Berrataref36_Few_run m.kind m.node m.inp m.bucket m.n p m.deltas.length cap) fun W R => ?_
  refine fun _ => exI_mk (fun n R' Φ' k => ∃ i : Nat, n = i ∧ i ≤ m.deltas.length ∧ R' = R ∧ Φ' = (fun M w => Φ M w ∧ Pin b o cs m.deltas M w) ∧ k = m.deltas.length - i ∧ ∀ j, (hj : j < m.deltas.length) → j < i → m.deltas[j].row.length ≤ 12) ⟨⟨R, _, _, inferInstance, fun w F c => c, 0, rfl, Nat.zero_le _, rfl, rfl, rfl, fun j hj h => by omega⟩, ?_⟩
  rintro n R1 Φ1 k _ ⟨i, rfl, hi, rfl, rfl, rfl, hok⟩
  refine Br.intro (fun hlt => ?_) (fun hge => fun w G cx => ⟨⟨_, rfl, fun h => ?_⟩, cx.left⟩)
  · have hlt : i < m.deltas.length := by simpa using hlt
    have hp := hp (by omega)
    obtain ⟨q, qc, he, hq1, hq2, _, _⟩ := hcs i hlt
    refine ⟨by omega, ptrK_intro b o hp fun w G cx => ⟨q, m.deltas[i].row.length, qc, pin_rowAt cx.phi.2 hlt he 1 (by simp), Br.intro (fun h => fun w G cx => ⟨⟨_, rfl, fun h => by cases h⟩, cx.left⟩) (fun hrow => ?_)⟩⟩
    have hrow : m.deltas[i].row.length ≤ 12 := by have := of_decide_eq_false hrow; omega
    have hth : There q m.deltas[i].row.length := (pin_row cx.phi.2 hlt he).there
    refine exI_mk (fun n R' Φ' k => ∃ a : Nat, n = a ∧ a ≤ m.deltas[i].row.length ∧ R' = R1 ∧ Φ' = (fun M w => Φ M w ∧ Pin b o cs m.deltas M w) ∧ k = m.deltas[i].row.length - a) ⟨⟨R1, _, _, inferInstance, fun w F c => c, 0, rfl, Nat.zero_le _, rfl, rfl, rfl⟩, ?_⟩
    rintro n R2 Φ2 k _ ⟨a, rfl, ha, rfl, rfl, rfl⟩
    refine ⟨by omega, ptrK_intro b o hp fun w G cx => ⟨q, m.deltas[i].row.length, qc, pin_rowAt cx.phi.2 hlt he 1 (by simp), Br.intro (fun h => ?_) (fun h => ?_)⟩⟩
    · have h : a < m.deltas[i].row.length := by simpa using h
      obtain ⟨b2, o2, hq⟩ := hth (by omega)
      refine ⟨by omega, ptrK_intro b o hp fun w G cx => ⟨q, m.deltas[i].row.length, qc, pin_rowAt cx.phi.2 hlt he 1 (by simp), by omega, ptrK_intro b2 o2 hq fun w G cx => ⟨m.deltas[i].row[a].text, ?_, Br.intro (fun h => fun w G cx => ⟨⟨_, rfl, fun h => by cases h⟩, cx.left⟩) (fun _ => ⟨by unfold I64; omega, R2, _, m.deltas[i].row.length - (a + 1), inferInstance, fun w F c => c, ⟨a + 1, rfl, h, rfl, rfl, rfl⟩, by omega⟩)⟩⟩⟩
      have h1 := pin_row cx.phi.2 hlt he
      rw [hq] at h1
      exact sl_val h1 h 2 (by simp)
    · exact ⟨by unfold I64; omega, R2, _, m.deltas.length - (i + 1), inferInstance, fun w F c => c, ⟨i + 1, rfl, hlt, rfl, rfl, rfl, fun j hj hji => by
        rcases Nat.lt_or_ge j i with h' | h'
        · exact hok j hj h'
        · have : j = i := by omega
          subst this
          exact hrow⟩, by omega⟩
  · have hge : i = m.deltas.length := Nat.le_antisymm hi (by simpa using hge)
    have h := of_decide_eq_true h
    refine ⟨by omega, fun x hx => ?_⟩
    obtain ⟨j, hj, rfl⟩ := List.getElem_of_mem hx
    have := hok j hj (by omega)
    omega

/-! ### right -/
theorem right_in {Φ : PW} [Stable Φ] (p : Option Addr) (cap : Nat) (m : MsgD) (hΦ : ∀ M w, Φ M w → Sl M w p m.deltas) (hlen : m.deltas.length ≤ 9223372036854775807) :
    GivesP Φ Tryz.prog F.erratalaw36_right #[m.v p cap] fun v => ∃ b, v = .bool b := by
  refine .pinned hΦ fun b o cs hp => .cells (fun M w h => h.2) fun hcs => ?_
  refine gives_p (Berratalaw36_right_run m.kind m.node m.inp m.bucket m.n p m.deltas.length cap) fun W R => ?_
  refine fun _ _ => exI_mk (fun n a0 a1 a2 a3 a4 _ _ _ R' Φ' k => ∃ i : Nat, n = i ∧ i ≤ m.deltas.length ∧ a0 = 0 ∧ a1 = 0 ∧ a2 = 0 ∧ a3 = 0 ∧ a4 = 0 ∧ R' = R ∧ Φ' = (fun M w => Φ M w ∧ Pin b o cs m.deltas M w) ∧ k = m.deltas.length - i) ⟨⟨R, _, _, inferInstance, fun w F c => c, 0, rfl, Nat.zero_le _, rfl, rfl, rfl, rfl, rfl, rfl, rfl, rfl⟩, ?_⟩
  rintro n _ _ _ _ _ _ _ _ R1 Φ1 k _ ⟨i, rfl, hi, rfl, rfl, rfl, rfl, rfl, rfl, rfl, rfl⟩
  refine Br.intro (fun hlt => ?_) (fun hge => fun w G cx => ⟨⟨_, rfl⟩, cx.left⟩)
  have hlt : i < m.deltas.length := by simpa using hlt
  obtain ⟨q, qc, he, hq1, hq2, _, _⟩ := hcs i hlt
  refine ⟨by omega, ptrK_intro b o (hp (by omega)) fun w G cx => ⟨q, m.deltas[i].row.length, qc, pin_rowAt cx.phi.2 hlt he 1 (by simp), fun k w G cx => ?_⟩⟩
  have hel : Elems (dom (Own.blk k [.int .i64 0, .slice q m.deltas[i].row.length qc, .int .i64 1] 62 :: (R1 ++ G))) w [.int .i64 0, .slice q m.deltas[i].row.length qc, .int .i64 1] [(⟨0, m.deltas[i].row, 1⟩ : DeltaD)] :=
    Elems.one (rep_delta (x := ⟨0, m.deltas[i].row, 1⟩) hq1 hq2 (by show I64 0; unfold I64; omega) (by show I64 1; unfold I64; omega) (pin_row cx.phi.2 hlt he))
  obtain ⟨cx1, hsl⟩ := cx.freezeBlk hel
  have hst : Stable (fun M w => (Φ M w ∧ Pin b o cs m.deltas M w) ∧ Sl M w (some ⟨k, 0, none⟩) [(⟨0, m.deltas[i].row, 1⟩ : DeltaD)]) :=
    have h2 := instStableSl (some ⟨k, 0, none⟩) [(⟨0, m.deltas[i].row, 1⟩ : DeltaD)]
    instStableAnd (fun M w => Φ M w ∧ Pin b o cs m.deltas M w) (fun M w => Sl M w (some ⟨k, 0, none⟩) [(⟨0, m.deltas[i].row, 1⟩ : DeltaD)])
  refine (rRight_in (Φ := fun M w => (Φ M w ∧ Pin b o cs m.deltas M w) ∧ Sl M w (some ⟨k, 0, none⟩) [(⟨0, m.deltas[i].row, 1⟩ : DeltaD)]) (some ⟨k, 0, none⟩) 1 ⟨0, 0, 0, 0, 0, [⟨0, m.deltas[i].row, 1⟩]⟩ (fun _ _ h => h.2) (by simp)).use (cx1.add hsl) fun w cx => ⟨_, rfl, R1, fun M w => Φ M w ∧ Pin b o cs m.deltas M w, inferInstance, cx.fst, ?_⟩
  exact Br.intro (fun h => fun w G cx => ⟨⟨_, rfl⟩, cx.left⟩) (fun _ => ⟨by unfold I64; omega, R1, _, m.deltas.length - (i + 1), inferInstance, fun w G cx => cx, ⟨i + 1, rfl, hlt, rfl, rfl, rfl, rfl, rfl, rfl, rfl, rfl⟩, by omega⟩)

end Go.Proofs.YtfpgbejdlikpgaaGreatDoor
end

/-
  The conditions of the walks of some functions, one formula each; 'B<f>_run' says that they suffice. The formulas are printed by a program; the kernel compares them with the functions' code.
-/
section
namespace Go.Proofs.YtfpgbejdlikpgaaGreatDoor
set_option linter.unusedVariables false
set_option linter.unusedSimpArgs false
open Go.Vc

/-- (*channel.Channel).Len -/
def Qchannel_Channel_Len (cB cO : Nat) (w : World) (J : Value → World → Prop) : Prop :=
  ∃ (n0 : Int), w.cell? (Addr.mk cB (cO + 25) none) = some (Value.int IntKind.i64 n0) ∧ J (Value.int IntKind.i64 n0) w

theorem Qchannel_Channel_Len_run (cB cO : Nat) (w : World) (J : Value → World → Prop) (h : Qchannel_Channel_Len cB cO w J) : Calls Tryz.prog F.channel_Channel_Len #[.pointer (some ⟨cB, cO, none⟩)] w fun e w' => ∃ v, e = .returned v ∧ J v w' :=
  vcF_sound (H := { keep := some [0, 2] }) (by rw [show vcF Tryz.prog { keep := some [0, 2] } F.channel_Channel_Len #[.pointer (some ⟨cB, cO, none⟩)] w J = Qchannel_Channel_Len cB cO w J by kernel_rfl]; exact h)

/-- (*channel.Channel).Free -/
def Qchannel_Channel_Free (cB cO : Nat) (w : World) (J : Value → World → Prop) : Prop :=
  ∃ (n0 : Int), w.cell? (Addr.mk cB (cO + 25) none) = some (Value.int IntKind.i64 n0) ∧ I64 (4 - n0) ∧ J (Value.int IntKind.i64 (4 - n0)) w

theorem Qchannel_Channel_Free_run (cB cO : Nat) (w : World) (J : Value → World → Prop) (h : Qchannel_Channel_Free cB cO w J) : Calls Tryz.prog F.channel_Channel_Free #[.pointer (some ⟨cB, cO, none⟩)] w fun e w' => ∃ v, e = .returned v ∧ J v w' :=
  vcF_sound (H := { keep := some [0, 2] }) (by rw [show vcF Tryz.prog { keep := some [0, 2] } F.channel_Channel_Free #[.pointer (some ⟨cB, cO, none⟩)] w J = Qchannel_Channel_Free cB cO w J by kernel_rfl]; exact h)

/-- (*channel.Channel).Sent -/
def Qchannel_Channel_Sent (cB cO : Nat) (w : World) (J : Value → World → Prop) : Prop :=
  ∃ (n0 : Int), w.cell? (Addr.mk cB (cO + 26) none) = some (Value.int IntKind.i64 n0) ∧ J (Value.int IntKind.i64 n0) w

theorem Qchannel_Channel_Sent_run (cB cO : Nat) (w : World) (J : Value → World → Prop) (h : Qchannel_Channel_Sent cB cO w J) : Calls Tryz.prog F.channel_Channel_Sent #[.pointer (some ⟨cB, cO, none⟩)] w fun e w' => ∃ v, e = .returned v ∧ J v w' :=
  vcF_sound (H := { keep := some [0, 2] }) (by rw [show vcF Tryz.prog { keep := some [0, 2] } F.channel_Channel_Sent #[.pointer (some ⟨cB, cO, none⟩)] w J = Qchannel_Channel_Sent cB cO w J by kernel_rfl]; exact h)

end Go.Proofs.YtfpgbejdlikpgaaGreatDoor
end

/-
  The walk of small.
-/
section
set_option linter.unusedVariables false
set_option linter.unusedSimpArgs false
namespace Go.Proofs.YtfpgbejdlikpgaaGreatDoor
open Go.Vc

theorem Len_q {w : World} {b : Nat} {n : Int} (h : w.cell? ⟨b, 25, none⟩ = some (.int .i64 n)) : Calls Tryz.prog F.channel_Channel_Len #[.pointer (some ⟨b, 0, none⟩)] w fun e w' => e = .returned (.int .i64 n) ∧ w' = w :=
  (Qchannel_Channel_Len_run b 0 w (fun u w' => u = .int .i64 n ∧ w' = w) ⟨n, by rw [Nat.zero_add]; exact h, rfl, rfl⟩).mono fun e w' ⟨v, h1, h2, h3⟩ => ⟨by rw [h1, h2], h3⟩

theorem Free_q {w : World} {b : Nat} {n : Int} (h : w.cell? ⟨b, 25, none⟩ = some (.int .i64 n)) (h0 : 0 ≤ n) (h4 : n ≤ 4) : Calls Tryz.prog F.channel_Channel_Free #[.pointer (some ⟨b, 0, none⟩)] w fun e w' => e = .returned (.int .i64 (4 - n)) ∧ w' = w :=
  (Qchannel_Channel_Free_run b 0 w (fun u w' => u = .int .i64 (4 - n) ∧ w' = w) ⟨n, by rw [Nat.zero_add]; exact h, by unfold I64; omega, rfl, rfl⟩).mono fun e w' ⟨v, h1, h2, h3⟩ => ⟨by rw [h1, h2], h3⟩

theorem Sent_q {w : World} {b : Nat} {n : Int} (h : w.cell? ⟨b, 26, none⟩ = some (.int .i64 n)) : Calls Tryz.prog F.channel_Channel_Sent #[.pointer (some ⟨b, 0, none⟩)] w fun e w' => e = .returned (.int .i64 n) ∧ w' = w :=
  (Qchannel_Channel_Sent_run b 0 w (fun u w' => u = .int .i64 n ∧ w' = w) ⟨n, by rw [Nat.zero_add]; exact h, rfl, rfl⟩).mono fun e w' ⟨v, h1, h2, h3⟩ => ⟨by rw [h1, h2], h3⟩

abbrev markM (n : Int) : MsgD := ⟨2, 0, 0, 0, n, []⟩
theorem mark_g (n : Int) : Gives Tryz.prog F.erratalaw36_mark #[.int .i64 n] ((markM n).v none 0) :=
  gives_of (Berratalaw36_mark_run n) fun W R Φ _ => fun _ w G c => ⟨rfl, c.left⟩

theorem mark_right (i : Nat) (h : i ≤ 4) : rightM (markM i) = true := by
  match i, h with
  | 0, _ => rfl
  | 1, _ => rfl
  | 2, _ => rfl
  | 3, _ => rfl
  | 4, _ => rfl

theorem mark_ok (i : Nat) (h : i ≤ 4) : (markM i).Ok := ⟨by show I64 2; unfold I64; omega, by show I64 0; unfold I64; omega, by show I64 0; unfold I64; omega, by show I64 0; unfold I64; omega, by show I64 i; unfold I64; omega⟩

def marks (i : Nat) : List MsgD := (List.range i).map fun k => markM (k : Nat)
theorem marks_len (i : Nat) : (marks i).length = i := by simp [marks]
theorem marks_succ (i : Nat) : marks (i + 1) = marks i ++ [markM (i : Nat)] := by unfold marks; rw [List.range_succ, List.map_append]; rfl

/-- send, with what stays known of the channel -/
theorem Send_in {W w : World} {S : List Own} {Φ : PW} [Stable Φ] {b : Nat} {cs : List Value} {m : MsgD} {p : Option Addr} {cap : Nat} {q : List MsgD} {first sent : Nat} (c : Ctx W w (.blk b cs 59 :: S) (fun M w => Φ M w ∧ ChanS cs q first M w)) (hc : ChanC cs q first sent)
    (hm : ∀ M w, Φ M w → Sl M w p m.deltas) (hok : m.Ok) (hr : rightM m = true) (hq : q.length < 4) (hs : sent < 1000000) {K : Ending → World → Prop}
    (hk : ∀ cs' w', ChanC cs' (q ++ [m]) first (sent + 1) → Ctx W w' (.blk b cs' 59 :: S) (fun M w => Φ M w ∧ ChanS cs' (q ++ [m]) first M w) → K (.returned (.int .i64 0)) w') :
    Calls Tryz.prog F.channel_Channel_Send #[.pointer (some ⟨b, 0, none⟩), m.v p cap] w K := by
  have hsm := right_small hr
  refine Send_ok (Φ := fun M w => Φ M w ∧ ChanS cs q first M w) c hc (fun M w h => hm M w h.1) (by have := hsm.1; omega) hr hq hs fun p' cap' w' h1 h2 cx => ?_
  exact hk _ w' (hc.send hq rfl hsm) (cx.weak fun M w h => ⟨h.1.1, h.1.2.send hc.len hq hc.lt4 (rep_msg hok h1 h2 h.2)⟩)

theorem Take_in {W w : World} {S : List Own} {Φ : PW} [Stable Φ] {b : Nat} {cs : List Value} {first sent : Nat} {m : MsgD} {q : List MsgD} (c : Ctx W w (.blk b cs 59 :: S) (fun M w => Φ M w ∧ ChanS cs (m :: q) first M w)) (hc : ChanC cs (m :: q) first sent) {K : Ending → World → Prop}
    (hk : ∀ p cap ds rows w' cs', ChanC cs' q ((first + 1) % 4) sent → Fresh ds rows m.deltas → Ctx W w' (.blk b cs' 59 :: (.buf p m.deltas.length cap ds 62 3 :: rows) ++ S) (fun M w => Φ M w ∧ ChanS cs' q ((first + 1) % 4) M w) → K (.returned (.tuple #[m.v p cap, .int .i64 0])) w') :
    Calls Tryz.prog F.channel_Channel_Take #[.pointer (some ⟨b, 0, none⟩)] w K := by
  refine Take_some (Φ := fun M w => Φ M w ∧ ChanS cs (m :: q) first M w) c hc (fun M w h => h.2) fun p cap ds rows w' hf cx => ?_
  have hcnt := hc.count
  exact hk p cap ds rows w' _ hc.take hf (cx.weak fun M w h => ⟨h.1, h.2.take (by simp only [List.length_cons] at hcnt; omega) hc.lt4⟩)

set_option maxHeartbeats 1000000 in
theorem small_g : Gives Tryz.prog F.erratalaw36_small #[] (.bool true) := by
  refine gives_of Berratalaw36_small_run fun W R Φ _ => ?_
  refine fun w G cx => New_use cx fun b w cx => ⟨some ⟨b, 0, none⟩, rfl, .blk b chan0 59 :: R, Φ, inferInstance, cx, Br.intro (fun h => by cases h) (fun _ => ?_)⟩
  refine exI_mk (fun n R' Φ' k => ∃ (i : Nat) (cs : List Value), n = i ∧ i ≤ 4 ∧ R' = .blk b cs 59 :: R ∧ Φ' = (fun M w => Φ M w ∧ ChanS cs (marks i) 0 M w) ∧ k = 4 - i ∧ ChanC cs (marks i) 0 i)
    ⟨⟨.blk b chan0 59 :: R, fun M w => Φ M w ∧ ChanS chan0 (marks 0) 0 M w, _, inferInstance, fun w G c => c.weak fun M w h => ⟨h, chan0_s M w⟩, 0, chan0, rfl, Nat.zero_le _, rfl, rfl, rfl, chan0_c⟩, ?_⟩
  rintro n R1 Φ1 k _ ⟨i, cs, rfl, hi, rfl, rfl, rfl, hc⟩
  refine Br.intro (fun hlt => ?_) (fun hge => ?_)
  · have hlt : i < 4 := by have := of_decide_eq_true hlt; omega
    refine fun w G cx => (mark_g i).use cx fun w cx => ⟨_, _, _, _, _, none, _, 0, rfl, .blk b cs 59 :: R, fun M w => Φ M w ∧ ChanS cs (marks i) 0 M w, inferInstance, cx, fun w G cx => ?_⟩
    refine Send_in (m := markM i) cx hc (fun M w h => Sl.nil) (mark_ok i hi) (mark_right i hi) (by rw [marks_len]; exact hlt) (by omega) fun cs' w hc' cx => ⟨0, rfl, .blk b cs' 59 :: R, fun M w => Φ M w ∧ ChanS cs' (marks i ++ [markM i]) 0 M w, inferInstance, cx, Br.intro (fun h => by simp at h) (fun _ => ?_)⟩
    rw [← marks_succ] at hc'
    exact ⟨by unfold I64; omega, .blk b cs' 59 :: R, fun M w => Φ M w ∧ ChanS cs' (marks (i + 1)) 0 M w, 4 - (i + 1), inferInstance, fun w G cx => by rw [marks_succ]; exact cx, ⟨i + 1, cs', rfl, hlt, rfl, rfl, rfl, hc'⟩, by omega⟩
  · have hge : i = 4 := by have := of_decide_eq_false hge; omega
    subst hge
    refine fun w G cx => (mark_g 4).use cx fun w cx => ⟨_, _, _, _, _, none, _, 0, rfl, .blk b cs 59 :: R, fun M w => Φ M w ∧ ChanS cs (marks 4) 0 M w, inferInstance, cx, fun w G cx => ?_⟩
    refine Send_full (Φ := fun M w => Φ M w ∧ ChanS cs (marks 4) 0 M w) (m := markM 4) cx hc (fun M w h => Sl.nil) (by simp) rfl (marks_len 4) fun w cx => ⟨27, rfl, .blk b cs 59 :: R, fun M w => Φ M w ∧ ChanS cs (marks 4) 0 M w, inferInstance, cx, fun w G cx => ?_⟩
    refine Take_in (m := markM 0) (q := [markM 1, markM 2, markM 3]) cx hc fun p cap ds rows w cs1 hc1 hf cx => ⟨_, _, _, _, _, p, _, cap, _, rfl, .blk b cs1 59 :: R, fun M w => Φ M w ∧ ChanS cs1 [markM 1, markM 2, markM 3] 1 M w, inferInstance, ?_, fun _ w G cx => ?_⟩
    · exact cx.sub (List.Sublist.cons_cons _ (List.Sublist.cons _ (List.sublist_append_right rows _)))
    refine (mark_g 4).use cx fun w cx => ⟨_, _, _, _, _, none, _, 0, rfl, .blk b cs1 59 :: R, fun M w => Φ M w ∧ ChanS cs1 [markM 1, markM 2, markM 3] 1 M w, inferInstance, cx, fun w G cx => ?_⟩
    refine Send_in (m := markM 4) cx hc1 (fun M w h => Sl.nil) (mark_ok 4 (by omega)) rfl (by simp) (by omega) fun cs' w hc' cx => ⟨0, rfl, .blk b cs' 59 :: R, fun M w => Φ M w ∧ ChanS cs' ([markM 1, markM 2, markM 3] ++ [markM 4]) 1 M w, inferInstance, cx, fun w G cx => ?_⟩
    have h25 : w.cell? ⟨b, 25, none⟩ = some (.int .i64 4) := cx.get 0 rfl hc'.c25
    have h26 : w.cell? ⟨b, 26, none⟩ = some (.int .i64 5) := cx.get 0 rfl hc'.c26
    exact ⟨4, fun _ w' e => by subst e; exact Len_q h25, 0, fun _ w' e => by subst e; exact Free_q h25 (by omega) (by omega), 5, fun _ w' e => by subst e; exact Sent_q h26, fun w G cx => ⟨rfl, (cx.left.drop1).fst⟩⟩

end Go.Proofs.YtfpgbejdlikpgaaGreatDoor
end

/-
  Formulas in an older shape (printed by a program for another seat; numbers of types turned).
-/
section
namespace Go.Proofs.YtfpgbejdlikpgaaGreatDoor
set_option linter.unusedVariables false
set_option linter.unusedSimpArgs false
set_option maxRecDepth 100000
open Go.Vc

def Ochannel_Channel_List (cB cO : Nat) (W : World) (R : List Own) (Φ : PW) (J : Value → World → Prop) : Prop :=
  ∀ (w0 : World) (R1 : List Own), Ctx W w0 (R ++ R1) Φ → ∃ (n2 : Int), w0.cell? (Addr.mk cB (cO + 25) none) = some (Value.int IntKind.i64 n2) ∧ exI fun (I3 : Option Addr → Nat → Nat → Int →
  List Own → PW → Nat → Prop) => (∃ (R4 : List Own), ∃ (Φ5 : PW), ∃ (k6 : Nat), Stable Φ5 ∧ (∀ (w7 : World) (R8 : List Own), Ctx W w7 (R ++ R8) Φ → Ctx W w7 (R4 ++ R8) Φ5) ∧ I3 none 0 0 0 R4
  Φ5 k6) ∧ ∀ (p9 : Option Addr) (k10 k11 : Nat) (n12 : Int) (R13 : List Own) (I14 : List Nat → World → Prop) (k15 : Nat), Stable I14 → I3 p9 k10 k11 n12 R13 I14 k15 → Br (decide (n12 < n2))
  (∃ (R16 : List Own), ∃ (Φ17 : PW), Stable Φ17 ∧ (∀ (w18 : World) (R19 : List Own), Ctx W w18 (R13 ++ R19) I14 → Ctx W w18 (R16 ++ R19) Φ17) ∧ ∃ (n20 : Int), (∀ (w21 : World) (R22 : List
  Own), Ctx W w21 (R16 ++ R22) Φ17 → ∃ (n23 : Int), w21.cell? (Addr.mk cB (cO + 24) none) = some (Value.int IntKind.i64 n23) ∧ Value.int IntKind.i64 n23 = Value.int IntKind.i64 n20) ∧ I64
  (n20 + n12) ∧ ((4 : Int) = 0 → False) ∧ (0 ≤ (n20 + n12).tmod 4 ∧ (n20 + n12).tmod (4 : Int) < 4) ∧ ∃ (n24 : Int), ∃ (n25 : Int), ∃ (n26 : Int), ∃ (n27 : Int), ∃ (n28 : Int), ∃ (p29 :
  Option Addr), ∃ (k30 : Nat), ∃ (k31 : Nat), (∀ (w32 : World) (R33 : List Own), Ctx W w32 (R16 ++ R33) Φ17 → ∃ (n34 : Int), ∃ (n35 : Int), ∃ (n36 : Int), ∃ (n37 : Int), ∃ (n38 : Int), ∃ (p39
  : Option Addr), ∃ (k40 : Nat), ∃ (k41 : Nat), RowAt w32 cB (cO + ((n20 + n12).tmod 4).toNat * 6) [Value.int IntKind.i64 n34, Value.int IntKind.i64 n35, Value.int IntKind.i64 n36, Value.int
  IntKind.i64 n37, Value.int IntKind.i64 n38, Value.slice p39 k40 k41] ∧ Value.agg #[Value.int IntKind.i64 n34, Value.int IntKind.i64 n35, Value.int IntKind.i64 n36, Value.int IntKind.i64
  n37, Value.int IntKind.i64 n38, Value.slice p39 k40 k41] = Value.agg #[Value.int IntKind.i64 n24, Value.int IntKind.i64 n25, Value.int IntKind.i64 n26, Value.int IntKind.i64 n27, Value.int
  IntKind.i64 n28, Value.slice p29 k30 k31]) ∧ ∀ (w42 : World) (R43 : List Own), Ctx W w42 (R13 ++ R43) I14 → Calls Tryz.prog F.channel_clone #[Value.agg #[Value.int IntKind.i64 n24, Value.int
  IntKind.i64 n25, Value.int IntKind.i64 n26, Value.int IntKind.i64 n27, Value.int IntKind.i64 n28, Value.slice p29 k30 k31]] w42 fun (e44 : Ending) (w45 : World) => ∃ (n46 : Int), ∃ (n47 :
  Int), ∃ (n48 : Int), ∃ (n49 : Int), ∃ (n50 : Int), ∃ (p51 : Option Addr), ∃ (k52 : Nat), ∃ (k53 : Nat), e44 = Ending.returned (Value.agg #[Value.int IntKind.i64 n46, Value.int IntKind.i64
  n47, Value.int IntKind.i64 n48, Value.int IntKind.i64 n49, Value.int IntKind.i64 n50, Value.slice p51 k52 k53]) ∧ ∃ (R54 : List Own), ∃ (Φ55 : PW), Stable Φ55 ∧ Ctx W w45 (R54 ++ R43) Φ55 ∧
  (∀ (w56 : World) (R57 : List Own), Ctx W w56 (R54 ++ R57) Φ55 → Ctx W w56 (R16 ++ R57) Φ17) ∧ ∀ (k58 : Nat), (∀ (w59 : World) (R60 : List Own), Ctx W w59 (Own.blk k58 [Value.int IntKind.i64
  n46, Value.int IntKind.i64 n47, Value.int IntKind.i64 n48, Value.int IntKind.i64 n49, Value.int IntKind.i64 n50, Value.slice p51 k52 k53] 32 :: R54 ++ R60) Φ55 → Ctx W w59 (R16 ++ R60) Φ17)
  ∧ ∀ (w61 : World) (R62 : List Own), Ctx W w61 (Own.blk k58 [Value.int IntKind.i64 n46, Value.int IntKind.i64 n47, Value.int IntKind.i64 n48, Value.int IntKind.i64 n49, Value.int IntKind.i64
  n50, Value.slice p51 k52 k53] 32 :: R54 ++ R62) Φ55 → ∃ (p63 : Option Addr), ∃ (k64 : Nat), ∃ (k65 : Nat), ∃ (w66 : World), Sem.run Tryz.prog (builtin Builtin.append #[41, 41] 41 #[false,
  false] #[Value.slice p9 k10 k11, Value.slice (some (Addr.mk k58 0 none)) 1 1]) w61 = Result.ok (Next.value (Value.slice p63 k64 k65)) w66 ∧ ∃ (R67 : List Own), ∃ (Φ68 : PW), Stable Φ68 ∧
  Ctx W w66 (R67 ++ R62) Φ68 ∧ (∀ (w69 : World) (R70 : List Own), Ctx W w69 (R67 ++ R70) Φ68 → Ctx W w69 (R16 ++ R70) Φ17) ∧ I64 (n12 + 1) ∧ ∃ (R71 : List Own), ∃ (Φ72 : PW), ∃ (k73 : Nat),
  Stable Φ72 ∧ (∀ (w74 : World) (R75 : List Own), Ctx W w74 (R67 ++ R75) Φ68 → Ctx W w74 (R71 ++ R75) Φ72) ∧ I3 p63 k64 k65 (n12 + 1) R71 Φ72 k73 ∧ k73 < k15) (∀ (w76 : World) (R77 : List
  Own), Ctx W w76 (R13 ++ R77) I14 → J (Value.slice p9 k10 k11) w76)

theorem Ochannel_Channel_List_run (cB cO : Nat) {W w : World} {R : List Own} {Φ : PW} [Stable Φ] {J : Value → World → Prop} (c : Ctx W w R Φ) (h : Ochannel_Channel_List cB cO W R Φ J) : Calls Tryz.prog F.channel_Channel_List #[.pointer (some ⟨cB, cO, none⟩)] w fun e w' => ∃ v, e = .returned v ∧ J v w' :=
  vcFS_sound (H := { keep := some [0, 2, 3, 4, 8, 9, 10], stages := [(5, [.late [] [0, 1, 2, 6, 3, 9, 4, 10, 5, 7, 8, 11, 12] [(13, []), (14, []), (15, [16])]])], loops := [(3, [(3, .one (.slice)), (9, .one (.int .i64))], [])] }) (by rw [show vcFS Tryz.prog W { keep := some [0, 2, 3, 4, 8, 9, 10], stages := [(5, [.late [] [0, 1, 2, 6, 3, 9, 4, 10, 5, 7, 8, 11, 12] [(13, []), (14, []), (15, [16])]])], loops := [(3, [(3, .one (.slice)), (9, .one (.int .i64))], [])] } F.channel_Channel_List #[.pointer (some ⟨cB, cO, none⟩)] R Φ J = Ochannel_Channel_List cB cO W R Φ J by kernel_rfl]; exact h) c

end Go.Proofs.YtfpgbejdlikpgaaGreatDoor
end

/-
  The walks of the reference's Clone, of spoil, List and few.
-/
section
set_option linter.unusedVariables false
set_option linter.unusedSimpArgs false
namespace Go.Proofs.YtfpgbejdlikpgaaGreatDoor
open Go.Vc

/-! ### the reference's Clone -/
theorem Fresh.nil : Fresh [] [] [] := ⟨rfl, fun j hj => by simp at hj⟩

theorem Fresh.snoc {cs vc : List Value} {rows : List Own} {l : List DeltaD} {x : DeltaD} {q : Option Addr} {c : Nat} (h : Fresh cs rows l) (h1 : x.row.length ≤ c) (h2 : c ≤ maxLen) (h3 : I64 x.time) (h4 : I64 x.n) (h5 : ∀ M w, Elems M w vc x.row) :
    Fresh (cs ++ x.cells q c) (.buf q x.row.length c vc 83 3 :: rows) (l ++ [x]) := by
  refine ⟨by rw [List.length_append, List.length_append, h.len]; simp only [List.length_cons, List.length_nil]; omega, fun j hj => ?_⟩
  rw [List.length_append, List.length_singleton] at hj
  by_cases hlt : j < l.length
  · obtain ⟨q', c', vc', g1, g2, g3, g4, g5, g6, g7⟩ := h.go j hlt
    have hle : (j + 1) * 3 ≤ cs.length := by rw [h.len]; exact Nat.mul_le_mul_right _ hlt
    rw [List.getElem_append_left hlt]
    exact ⟨q', c', vc', by rw [List.drop_append_of_le_length (by omega), List.take_append_of_le_length (by simp; omega), g1], g2, g3, g4, g5, List.mem_cons_of_mem _ g6, g7⟩
  · have : j = l.length := by omega
    subst this
    rw [List.getElem_append_right (Nat.le_refl _)]
    simp only [Nat.sub_self, List.getElem_cons_zero]
    exact ⟨q, c, vc, by rw [← h.len, List.drop_left]; rfl, h1, h2, h3, h4, List.mem_cons_self, h5⟩

/-! ### spoil -/
/-- the cells of deltas that are owned with their rows, whatever stands in them -/
structure Loose (cs : List Value) (rows : List Own) (l : List DeltaD) : Prop where
  len : cs.length = l.length * 3
  go : ∀ j, (hj : j < l.length) → ∃ q c vc t, cs[j * 3]? = some (.int .i64 t) ∧ cs[j * 3 + 1]? = some (.slice q l[j].row.length c) ∧ Own.buf q l[j].row.length c vc 83 3 ∈ rows ∧ vc.length = l[j].row.length * 3 ∧ ∀ i, i < l[j].row.length → ∃ x, vc[i * 3 + 1]? = some (.int .i64 x)

end Go.Proofs.YtfpgbejdlikpgaaGreatDoor
end

/-
  The walks of spoil, List and few.
-/
section
set_option linter.unusedVariables false
set_option linter.unusedSimpArgs false
namespace Go.Proofs.YtfpgbejdlikpgaaGreatDoor
open Go.Vc

theorem Loose.setRow {cs : List Value} {rows : List Own} {l : List DeltaD} (h : Loose cs rows l) {j n : Nat} {q : Option Addr} {c : Nat} {vc vc' : List Value} (hj : rows[j]? = some (.buf q n c vc 83 3)) (hl : vc'.length = vc.length)
    (hi : ∀ i : Nat, (∃ x, vc[i * 3 + 1]? = some (.int .i64 x)) → ∃ x, vc'[i * 3 + 1]? = some (.int .i64 x)) : Loose cs (rows.set j (.buf q n c vc' 83 3)) l := by
  refine ⟨h.len, fun k hk => ?_⟩
  obtain ⟨q1, c1, vc1, t, e1, e2, h3, h4, h5⟩ := h.go k hk
  obtain ⟨i, hi'⟩ := List.getElem?_of_mem h3
  have hlt := (List.getElem?_eq_some_iff.1 hj).1
  by_cases hij : j = i
  · subst hij
    rw [hj] at hi'
    simp only [Option.some.injEq, Own.buf.injEq] at hi'
    obtain ⟨rfl, rfl, rfl, rfl, _⟩ := hi'
    exact ⟨q, c, vc', t, e1, e2, List.mem_of_getElem? (i := j) (by rw [List.getElem?_set_self hlt]), by rw [hl, h4], fun i hi2 => hi i (h5 i hi2)⟩
  · exact ⟨q1, c1, vc1, t, e1, e2, List.mem_of_getElem? (i := i) (by rw [List.getElem?_set_ne hij]; exact hi'), h4, h5⟩

/-! ### List -/
theorem chan_at {W w : World} {S : List Own} {Φ : PW} {b : Nat} {cs : List Value} {q : List MsgD} {first : Nat} (c : Ctx W w S Φ) (hS : ∀ M w, Φ M w → ChanS cs q first M w) {k : Nat} (hk : k < q.length) :
    ∃ p0 c0, (cs.drop ((first + k) % 4 * 6)).take 6 = q[k].cells p0 c0 ∧ q[k].deltas.length ≤ c0 ∧ c0 ≤ maxLen ∧ q[k].Ok ∧ ∀ M w, Φ M w → Sl M w p0 q[k].deltas := by
  obtain ⟨p0, c0, he, h1, h2, h3, _⟩ := msg_cells (hS _ _ c.phi k hk)
  refine ⟨p0, c0, he, h1, h2, h3, fun M w h => ?_⟩
  have := hS _ _ h k hk
  rw [he] at this
  exact msg_sl this

set_option maxHeartbeats 2000000 in
theorem List_use {W w : World} {S : List Own} {Φ : PW} [Stable Φ] {b : Nat} {cs : List Value} {first sent : Nat} {q : List MsgD} (c : Ctx W w (.blk b cs 59 :: S) Φ) (hc : ChanC cs q first sent) (hS : ∀ M w, Φ M w → ChanS cs q first M w) {K : Ending → World → Prop}
    (hk : ∀ p cap w', q.length ≤ cap → Ctx W w' (.blk b cs 59 :: S) (fun M w => Φ M w ∧ Sl M w p q) → K (.returned (.slice p q.length cap)) w') : Calls Tryz.prog F.channel_Channel_List #[.pointer (some ⟨b, 0, none⟩)] w K := by
  have hf := hc.lt4
  have hl := hc.len
  have hcnt := hc.count
  have hat := fun k (hk : k < q.length) => chan_at (b := b) c hS hk
  refine (Ochannel_Channel_List_run b 0 (J := fun u w' => K (.returned u) w') c ?_).mono fun e w' ⟨v, he, hj⟩ => by rw [he]; exact hj
  refine fun w G cx => ⟨_, cx.left.get 0 rfl (by rw [Nat.zero_add]; exact hc.c25), ?_⟩
  refine exI_mk (fun p n c' nI R' Φ' k => ∃ (i : Nat) (gs : List Value), nI = i ∧ i ≤ q.length ∧ n = i ∧ R' = .buf p i c' gs 32 6 :: .blk b cs 59 :: S ∧ Φ' = (fun M w => Φ M w ∧ Elems M w gs (q.take i)) ∧ k = q.length - i)
    ⟨⟨.buf none 0 0 [] 32 6 :: .blk b cs 59 :: S, fun M w => Φ M w ∧ Elems M w [] (q.take 0), _, inferInstance, fun w G cx => (cx.weak fun M w h => ⟨h, by rw [List.take_zero]; exact Elems.nil⟩).nobuf 32 6, 0, [], rfl, Nat.zero_le _, rfl, rfl, rfl, rfl⟩, ?_⟩
  rintro p i c' nI R1 Φ1 k _ ⟨_, gs, rfl, hi, rfl, rfl, rfl, rfl⟩
  refine Br.intro (fun hlt => ?_) (fun hge => fun w G cx => ?_)
  · have hlt : i < q.length := by simpa using hlt
    obtain ⟨p0, c0, he, h1, h2, hok, hsl⟩ := hat i hlt
    have hix : (first + i) % 4 < 4 := Nat.mod_lt _ (by omega)
    have htm : ((first : Int) + (i : Int)).tmod 4 = ((first + i) % 4 : Nat) := rfl
    have hsm := hc.small q[i] (List.getElem_mem hlt)
    generalize hme : q[i] = m at he h1 hok hsl hsm
    refine ⟨[.blk b cs 59], Φ, inferInstance, fun w G cx => ?_, (first : Int), fun w G cx => ⟨_, cx.get 0 rfl (by rw [Nat.zero_add]; exact hc.c24), rfl⟩, by unfold I64; omega, by omega, by omega, m.kind, m.node, m.inp, m.bucket, m.n, p0, m.deltas.length, c0, fun w G cx => ⟨m.kind, m.node, m.inp, m.bucket, m.n, p0, m.deltas.length, c0, ?_, rfl⟩, fun w G cx => ?_⟩
    · exact cx.fst.sub (List.Sublist.cons _ (List.Sublist.cons_cons _ (List.sublist_append_right _ _)))
    · rw [htm, Int.toNat_natCast, Nat.zero_add]
      exact cx.row 0 rfl (rows_of (vs := m.cells p0 c0) he)
    · have hst : Stable (fun M w => Elems M w gs (q.take i)) := instStableElems gs (q.take i)
      refine ((clone_copy (Φ := fun M w => Φ M w ∧ Elems M w gs (q.take i)) p0 c0 m (fun M w h => hsl M w h.1) hsm.1 hsm.2).gsl).use cx fun p2 cap2 w hcap hmax cx => ?_
      refine ⟨_, _, _, _, _, p2, _, cap2, rfl, _, fun M w => (Φ M w ∧ Elems M w gs (q.take i)) ∧ Sl M w p2 m.deltas, inferInstance, cx, fun w G cx => ?_, fun k2 => ⟨fun w G cx => ?_, fun w G cx => ?_⟩⟩
      · exact cx.fst.fst.sub (List.Sublist.cons _ (List.Sublist.cons_cons _ (List.sublist_append_right _ _)))
      · exact cx.fst.fst.sub (List.Sublist.cons _ (List.Sublist.cons _ (List.Sublist.cons_cons _ (List.sublist_append_right _ _))))
      · obtain ⟨p', cap', w', hrun, _, cx'⟩ := Ctx.app1 (P := Tryz.prog) (ts := 41) (ty := 41) (kb := #[false, false]) (size := 6) (bytes := 64) cx (by kernel_rfl) (by omega) rfl rfl (by omega) (by omega)
        have hst2 : Stable (fun M w => Φ M w ∧ Elems M w (gs ++ m.cells p2 cap2) (q.take (i + 1))) := inferInstance
        refine ⟨p', i + 1, cap', w', hrun, .buf p' (i + 1) cap' (gs ++ m.cells p2 cap2) 32 6 :: .blk b cs 59 :: S, fun M w => Φ M w ∧ Elems M w (gs ++ m.cells p2 cap2) (q.take (i + 1)), hst2, cx'.weak fun M w h => ⟨h.1.1, ?_⟩, fun w G cx => ?_, by unfold I64; omega, _, _, q.length - (i + 1), hst2, fun w G cx => cx, ⟨i + 1, _, rfl, hlt, rfl, rfl, rfl, rfl⟩, by omega⟩
        · rw [List.take_succ_eq_append_getElem hlt, hme]
          exact h.1.2.snoc (rep_msg hok hcap hmax h.2)
        · exact cx.fst.sub (List.Sublist.cons _ (List.Sublist.cons_cons _ (List.sublist_append_right _ _)))
  · have hge : i = q.length := Nat.le_antisymm hi (by simpa using hge)
    subst hge
    have h := cx.phi.2
    rw [List.take_length] at h
    obtain ⟨cx2, hs, _, hcap, _⟩ := Ctx.freeze (α := MsgD) cx h
    exact hk p c' w hcap (Ctx.left (F := G) (Φ := fun M w => Φ M w ∧ Sl M w p q) ((cx2.add hs).weak fun M w h => ⟨h.1.1, h.2⟩))

/-! ### few -/
structure OpD where
  op : Int
  m : MsgD
instance : Gv OpD := Gv.via (β := Int × MsgD) (fun x => (x.op, x.m)) (fun y => ⟨y.1, y.2⟩) (fun _ => rfl)

abbrev OpD.cells (x : OpD) (p : Option Addr) (c : Nat) : List Value := .int .i64 x.op :: x.m.cells p c

theorem op_cells {M : List Nat} {w : World} {cs : List Value} {x : OpD} (h : Gv.rep M w cs x) : ∃ p c, cs = x.cells p c ∧ x.m.deltas.length ≤ c ∧ c ≤ maxLen ∧ x.m.Ok ∧ Sl M w p x.m.deltas := by
  obtain ⟨_, _, rfl, ⟨rfl, h1⟩, h2⟩ := h
  obtain ⟨p, c, rfl, h3, h4, h5, h6⟩ := msg_cells h2
  exact ⟨p, c, rfl, h3, h4, h5, h6⟩

theorem op_sl {M : List Nat} {w : World} {x : OpD} {p : Option Addr} {c : Nat} (h : Gv.rep M w (x.cells p c) x) : Sl M w p x.m.deltas := by
  obtain ⟨p', c', e, _, _, _, h1⟩ := op_cells h
  simp only [OpD.cells, MsgD.cells, List.cons.injEq, Value.slice.injEq] at e
  rw [e.2.2.2.2.2.2.1.1]
  exact h1

theorem pin_op {M : List Nat} {w : World} {b o : Nat} {cs : List (List Value)} {l : List OpD} (h : Pin b o cs l M w) {j : Nat} (hj : j < l.length) : ∃ p c, cs.getD j [] = l[j].cells p c ∧ l[j].m.deltas.length ≤ c ∧ c ≤ maxLen ∧ l[j].m.Ok := by
  obtain ⟨_, h1, h2⟩ := h j hj
  obtain ⟨p, c, e, g1, g2, g3, _⟩ := op_cells h2
  exact ⟨p, c, e, g1, g2, g3⟩

theorem pin_opSl {M : List Nat} {w : World} {b o : Nat} {cs : List (List Value)} {l : List OpD} (h : Pin b o cs l M w) {j : Nat} (hj : j < l.length) {p : Option Addr} {c : Nat} (e : cs.getD j [] = l[j].cells p c) : Sl M w p l[j].m.deltas := by
  have := (h j hj).2.2
  rw [e] at this
  exact op_sl this

theorem pin_opAt {M : List Nat} {w : World} {b o : Nat} {cs : List (List Value)} {l : List OpD} (h : Pin b o cs l M w) {j : Nat} (hj : j < l.length) {p : Option Addr} {c : Nat} (e : cs.getD j [] = l[j].cells p c) : RowAt w b (o + j * 7) (l[j].cells p c) := by
  have := (h j hj).2.1
  rw [e] at this
  exact this

theorem pin_opMsg {M : List Nat} {w : World} {b o : Nat} {cs : List (List Value)} {l : List OpD} (h : Pin b o cs l M w) {j : Nat} (hj : j < l.length) {p : Option Addr} {c : Nat} (e : cs.getD j [] = l[j].cells p c) : RowAt w b (o + j * 7 + 1) (l[j].m.cells p c) := fun k hk => by
  have := pin_opAt h hj e (k + 1) (by simp at hk ⊢; omega)
  rw [show o + j * 7 + 1 + k = o + j * 7 + (k + 1) by omega]
  simpa using this

abbrev OpCells (cs : List (List Value)) (l : List OpD) : Prop := ∀ j, (hj : j < l.length) → ∃ p c, cs.getD j [] = l[j].cells p c ∧ l[j].m.deltas.length ≤ c ∧ c ≤ maxLen ∧ l[j].m.Ok

set_option maxHeartbeats 1000000 in
theorem few_in {Φ : PW} [Stable Φ] (p : Option Addr) (cap : Nat) (l : List OpD) (n : Int) (b o : Nat) (cs : List (List Value)) (hp : 0 < l.length → p = some ⟨b, o, none⟩) (hΦ : ∀ M w, Φ M w → Pin b o cs l M w) (hcs : OpCells cs l) (hlen : l.length ≤ 9223372036854775807) :
    GivesP Φ Tryz.prog F.erratalaw36_few #[.slice p l.length cap, .int .i64 n] fun v => ∃ b, v = .bool b ∧ (b = true → (∀ x ∈ l, x.m.Small) ∧ (l.length : Int) ≤ n) := by
  refine gives_p (Berratalaw36_few_run p l.length cap n) fun W R => ?_
  refine exI_mk (fun n R' Φ' k => ∃ i : Nat, n = i ∧ i ≤ l.length ∧ R' = R ∧ Φ' = Φ ∧ k = l.length - i ∧ ∀ j, (hj : j < l.length) → j < i → l[j].m.Small) ⟨⟨R, _, _, inferInstance, fun w F c => c, 0, rfl, Nat.zero_le _, rfl, rfl, rfl, fun j hj h => by omega⟩, ?_⟩
  rintro n' R1 Φ1 k _ ⟨i, rfl, hi, rfl, rfl, rfl, hok⟩
  refine Br.intro (fun hlt => ?_) (fun hge => fun w G cx => ⟨⟨_, rfl, fun h => ?_⟩, cx.left⟩)
  · have hlt : i < l.length := by simpa using hlt
    have hp := hp (by omega)
    obtain ⟨q, qc, he, hq1, hq2, _⟩ := hcs i hlt
    refine ⟨by omega, ptrK_intro b o hp fun w G cx => ⟨l[i].m.kind, l[i].m.node, l[i].m.inp, l[i].m.bucket, l[i].m.n, q, l[i].m.deltas.length, qc, pin_opMsg (hΦ _ _ cx.phi) hlt he, fun w G cx => ?_⟩⟩
    refine (Few36_in q qc l[i].m (fun M w h => pin_opSl (hΦ _ _ h) hlt he) (len_max hq1 hq2)).use cx fun v w ⟨bf, hbf, hb⟩ cx => ?_
    subst hbf
    refine ⟨bf, rfl, R1, Φ1, inferInstance, cx, Br.intro (fun h => fun w G cx => ⟨⟨_, rfl, fun h => by cases h⟩, cx.left⟩) (fun h => ⟨by unfold I64; omega, _, Φ1, l.length - (i + 1), inferInstance, fun w F c => c, ⟨i + 1, rfl, hlt, rfl, rfl, rfl, fun j hj hji => ?_⟩, by omega⟩)⟩
    rcases Nat.lt_or_ge j i with h' | h'
    · exact hok j hj h'
    · have : j = i := by omega
      subst this
      exact hb (by simpa using h)
  · have hge : i = l.length := Nat.le_antisymm hi (by simpa using hge)
    have h := of_decide_eq_true h
    refine ⟨fun x hx => ?_, h⟩
    obtain ⟨j, hj, rfl⟩ := List.getElem_of_mem hx
    exact hok j hj (by omega)

end Go.Proofs.YtfpgbejdlikpgaaGreatDoor
end

/-
  Channel: what is owned and laid aside during Send and Clone; the methods, each in one contract.
-/
section
set_option linter.unusedVariables false
set_option linter.unusedSimpArgs false
namespace Go.Proofs.YtfpgbejdlikpgaaGreatDoor
open Go.Vc

section
variable {P : Program} {W w : World} {S S' T G Q : List Own} {Φ Ψ : PW}


/-- what Send answers -/
def SendR (m : MsgD) (q : List MsgD) (sent : Nat) (e : Int) (q' : List MsgD) (n' : Nat) : Prop :=
  (rightM m = false ∧ e = 1 ∧ q' = q ∧ n' = sent) ∨ (rightM m = true ∧ q.length = 4 ∧ e = 27 ∧ q' = q ∧ n' = sent) ∨ (rightM m = true ∧ q.length < 4 ∧ e = 0 ∧ q' = q ++ [m] ∧ n' = sent + 1)

end

end Go.Proofs.YtfpgbejdlikpgaaGreatDoor
end

/-
  Rows, read: in plain Lean, and walked.
-/
section
set_option linter.unusedVariables false
set_option linter.unusedSimpArgs false
namespace Go.Proofs.YtfpgbejdlikpgaaGreatDoor
open Go.Vc


/-! ### in plain Lean -/
def stepV (st : RdS) : ValD × RdS := (⟨(rdInt st).1, (rdInt (rdInt st).2).1, (stepT (rdInt (rdInt st).2).2).1⟩, (stepT (rdInt (rdInt st).2).2).2)
def rowLoop : Nat → RdS → List ValD → Option (List ValD × RdS)
  | 0, st, acc => some (acc, st)
  | n + 1, st, acc => if st.1 = [] then none else rowLoop n (stepV st).2 (acc ++ [(stepV st).1])
def readRowP (l : List UInt8) : Option (List ValD) := match rowLoop (rdNat (l, false)).1.toNat (rdNat (l, false)).2 [] with
  | some (acc, st) => if rdDone st then some acc else none
  | none => none

theorem num_read {e : UInt8} (he : e.toNat = 58 ∨ e.toNat = 59 ∨ e.toNat = 91) {least n : Int} {r : List UInt8} {bad : Bool} (h : I64 n) (h2 : least ≤ n) : stepN e least (Lib.itoa n ++ e :: r, bad) = (n, (r, bad)) :=
  stepN_some (st := (Lib.itoa n ++ e :: r, bad)) ((numP_iff he).2 ⟨⟨h, h2⟩, rfl⟩)
theorem intB_list (n : Int) : (intB n).data.toList = Lib.itoa n ++ [59] := by
  unfold intB numB
  rw [ByteArray.data_append, Array.toList_append]
theorem int_read {n : Int} {r : List UInt8} {bad : Bool} (h : I64 n) : rdInt ((intB n).data.toList ++ r, bad) = (n, (r, bad)) := by
  rw [intB_list, List.append_assoc]
  exact num_read (.inr (.inl rfl)) h h.1
theorem nat_read {n : Nat} {r : List UInt8} {bad : Bool} (h : (n : Int) ≤ 9223372036854775807) : rdNat ((natB n).data.toList ++ r, bad) = ((n : Int), (r, bad)) := by
  unfold natB
  rw [if_neg (by omega), intB_list, List.append_assoc]
  exact num_read (.inr (.inl rfl)) (by unfold I64; omega) (by omega)
theorem textB_list (s : ByteArray) : (textB s).data.toList = Lib.itoa s.size ++ 58 :: (s.data.toList ++ [44]) := by
  unfold textB numB
  simp [ByteArray.data_append]
theorem text_read {s : ByteArray} {r : List UInt8} (h : s.size ≤ 9223372036854775807) : stepT ((textB s).data.toList ++ r, false) = (s, (r, false)) := by
  have e1 : stepN 58 0 ((textB s).data.toList ++ r, false) = ((s.size : Int), (s.data.toList ++ 44 :: r, false)) := by
    rw [textB_list, List.append_assoc, List.cons_append, List.append_assoc]
    exact num_read (.inl rfl) (by unfold I64; omega) (by omega)
  unfold stepT
  simp only [e1]
  have hl : s.data.toList.length = s.size := list_size s
  rw [if_neg (by rw [List.length_append, List.length_cons, hl]; omega), Int.toNat_natCast, List.drop_left' hl, List.take_left' hl]
  rfl
theorem val_read {v : ValD} {r : List UInt8} (h1 : I64 v.kind) (h2 : I64 v.num) (h3 : v.text.size ≤ 9223372036854775807) : stepV ((valB v).data.toList ++ r, false) = (v, (r, false)) := by
  have e : (valB v).data.toList ++ r = (intB v.kind).data.toList ++ ((intB v.num).data.toList ++ ((textB v.text).data.toList ++ r)) := by
    unfold valB
    simp [ByteArray.data_append]
  unfold stepV
  rw [e, int_read h1]
  simp only
  rw [int_read h2]
  simp only
  rw [text_read h3]
theorem valB_pos (v : ValD) (h : I64 v.kind) : (valB v).data.toList ≠ [] := fun e => by
  have h1 := intB_size h
  have h2 := congrArg List.length e
  rw [list_size] at h2
  unfold valB at h2
  rw [size_app, size_app, List.length_nil] at h2
  omega
def FitV (v : ValD) : Prop := (I64 v.kind ∧ I64 v.num) ∧ v.text.size ≤ 9223372036854775807
theorem vals_read : ∀ (r : List ValD) (acc : List ValD) (t : List UInt8), (∀ v ∈ r, FitV v) → rowLoop r.length (valsL r ++ t, false) acc = some (acc ++ r, (t, false))
  | [], acc, t, _ => by simp [rowLoop, valsL]
  | v :: r, acc, t, h => by
    obtain ⟨⟨h1, h2⟩, h3⟩ := h v (by simp)
    have e : valsL (v :: r) ++ t = (valB v).data.toList ++ (valsL r ++ t) := by simp [valsL]
    have hp := valB_pos v h1
    rw [e, List.length_cons, rowLoop, if_neg (by intro e; exact hp (List.append_eq_nil_iff.1 e).1), val_read h1 h2 h3]
    simp only
    rw [vals_read r _ t fun u hu => h u (by simp [hu]), List.append_assoc]
    rfl
theorem row_read {r : List ValD} (h : ∀ v ∈ r, FitV v) (hl : r.length ≤ 9223372036854775807) : readRowP (rowL r) = some r := by
  have h1 := vals_read r [] [] h
  rw [List.append_nil, List.nil_append] at h1
  unfold readRowP rowL
  rw [nat_read (by omega)]
  simp only [Int.toNat_natCast]
  rw [h1]
  rfl

/-! lengths -/
theorem stepC_len (c : UInt8) (st : RdS) : (stepC c st).1.length ≤ st.1.length := by
  unfold stepC
  split
  · simp
  · rename_i h
    split
    · rw [h]; simp
    · simp
theorem stepT_len (st : RdS) : (stepT st).2.1.length ≤ st.1.length ∧ (stepT st).1.size ≤ st.1.length := by
  have h1 := stepN_len 58 0 st
  have h2 := stepC_len 44 (((stepN 58 0 st).2.1.drop (stepN 58 0 st).1.toNat, (stepN 58 0 st).2.2))
  rw [List.length_drop] at h2
  unfold stepT
  simp only
  split
  · exact ⟨Nat.zero_le _, Nat.zero_le _⟩
  · refine ⟨by simp only; omega, ?_⟩
    simp only
    split
    · exact Nat.zero_le _
    · rw [bs_size, List.length_take]; omega
/-- a number's reading eats something, or all -/
theorem stepN_eats (e : UInt8) (least : Int) (st : RdS) (h : st.1 ≠ []) : (stepN e least st).2.1.length < st.1.length := by
  have hp := List.length_pos_iff.2 h
  unfold stepN
  split
  · rename_i n r h
    unfold numP at h
    simp only at h
    split at h
    · cases h
    · split at h
      · split at h
        · cases h
          simp only [List.length_drop]; omega
        · cases h
      · cases h
  · simpa using hp
theorem stepV_len (st : RdS) : (stepV st).2.1.length ≤ st.1.length ∧ (st.1 ≠ [] → (stepV st).2.1.length < st.1.length) ∧ (stepV st).1.text.size ≤ st.1.length := by
  have a := stepN_len 59 (-9223372036854775808) st
  have b := stepN_len 59 (-9223372036854775808) (rdInt st).2
  have c := stepT_len (rdInt (rdInt st).2).2
  have a' : (rdInt st).2.1.length ≤ st.1.length := a
  have b' : (rdInt (rdInt st).2).2.1.length ≤ (rdInt st).2.1.length := b
  unfold stepV
  refine ⟨by simp only; omega, fun h => ?_, by simp only; omega⟩
  have d : (rdInt st).2.1.length < st.1.length := stepN_eats 59 (-9223372036854775808) st h
  simp only; omega
theorem rdInt_i64 (st : RdS) : I64 (rdInt st).1 := by
  unfold rdInt stepN
  split
  · rename_i n r h
    exact ((numP_iff (.inr (.inl rfl))).1 h).1.1
  · unfold I64; simp
theorem rowLoop_fit {L : Nat} : ∀ (n : Nat) (st : RdS) (acc : List ValD) (out : List ValD) (st' : RdS), rowLoop n st acc = some (out, st') → acc.length + st.1.length ≤ L → (∀ v ∈ acc, v.text.size ≤ L) → out.length + st'.1.length ≤ L ∧ ∀ v ∈ out, v.text.size ≤ L
  | 0, st, acc, out, st', h, h1, h2 => by
    unfold rowLoop at h
    cases h
    exact ⟨h1, h2⟩
  | n + 1, st, acc, out, st', h, h1, h2 => by
    unfold rowLoop at h
    split at h
    · cases h
    · rename_i hne
      obtain ⟨a, b, c⟩ := stepV_len st
      have b := b hne
      refine rowLoop_fit n _ _ out st' h (by rw [List.length_append, List.length_singleton]; omega) fun v hv => ?_
      rcases List.mem_append.1 hv with hv | hv
      · exact h2 v hv
      · rw [List.mem_singleton.1 hv]; omega
theorem readRow_fit {l : List UInt8} {r : List ValD} (h : readRowP l = some r) : r.length ≤ l.length ∧ ∀ v ∈ r, v.text.size ≤ l.length := by
  unfold readRowP at h
  split at h
  · rename_i acc st hl
    split at h
    · cases h
      have hn : (rdNat (l, false)).2.1.length ≤ l.length := stepN_len 59 0 (l, false)
      have := rowLoop_fit (L := l.length) _ _ _ _ _ hl (by simp only [List.length_nil]; omega) (by simp)
      exact ⟨by omega, this.2⟩
    · cases h
  · cases h

/-! ### walked -/
section
variable {W w : World} {R G S : List Own} {Φ : PW} {b : Nat} {st : RdS}

theorem take_to [Stable Φ] (hΦ : ∀ M w, Φ M w → NumI M w) (hl : st.1.length ≤ 1000000000) (c : Ctx W w (rd b st :: S ++ G) Φ) {K : Int → Int → ByteArray → List Own → PW → Prop}
    (hk : K (stepV st).1.kind (stepV st).1.num (stepV st).1.text (rd b (stepV st).2 :: S) Φ) :
    Calls Tryz.prog F.value_take #[.pointer (some ⟨b, 0, none⟩)] w fun e w' => ∃ n m s, e = .returned (.agg #[.int .i64 n, .int .i64 m, .string s]) ∧ ∃ R' Φ', Stable Φ' ∧ Ctx W w' (R' ++ G) Φ' ∧ K n m s R' Φ' := by
  refine (Bvalue_take_run b 0 (J := fun u w' => ∃ n m s, (Ending.returned u) = .returned (.agg #[.int .i64 n, .int .i64 m, .string s]) ∧ ∃ R' Φ', Stable Φ' ∧ Ctx W w' (R' ++ G) Φ' ∧ K n m s R' Φ') (R := rd b st :: (S ++ G)) c ?_).mono fun e w' ⟨v, he, hj⟩ => by rw [he]; exact hj
  have a : (rdInt st).2.1.length ≤ st.1.length := stepN_len 59 (-9223372036854775808) st
  have b : (rdInt (rdInt st).2).2.1.length ≤ (rdInt st).2.1.length := stepN_len 59 (-9223372036854775808) (rdInt st).2
  exact fun _ w F1 cx => RInt_to (S := S ++ G) hΦ (by omega) cx fun w F1 cx => RInt_to (S := S ++ G) hΦ (by omega) cx fun _ w F1 cx => Text_to (S := S ++ G) hΦ (by omega) cx fun w F1 cx => ⟨_, _, _, rfl, _, Φ, inferInstance, cx.left, hk⟩

theorem rep_of {M : List Nat} {w : World} {v : ValD} (h1 : I64 v.kind) (h2 : I64 v.num) (h3 : v.text.size ≤ maxLen) : Gv.rep M w [.int .i64 v.kind, .int .i64 v.num, .string v.text] v :=
  ⟨[.int .i64 v.kind], [.int .i64 v.num, .string v.text], rfl, ⟨rfl, h1⟩, [.int .i64 v.num], [.string v.text], rfl, ⟨rfl, h2⟩, rfl, h3⟩

set_option maxHeartbeats 1000000 in
theorem ReadRow_use [Stable Φ] (hΦ : ∀ M w, Φ M w → NumI M w) (l : List UInt8) (hl : l.length ≤ 10000000) (c : Ctx W w S Φ) {K : Ending → World → Prop}
    (h0 : readRowP l = none → ∀ w', Ctx W w' S Φ → K (.returned (.tuple #[.slice none 0 0, .bool false])) w')
    (h1 : ∀ r p cap w', readRowP l = some r → r.length ≤ cap → cap ≤ maxLen → Ctx W w' S (fun M w => Φ M w ∧ Sl M w p r) → K (.returned (.tuple #[.slice p r.length cap, .bool true])) w') :
    Calls Tryz.prog F.value_ReadRow #[.string (bs l)] w K := by
  refine (Bvalue_ReadRow_run (bs l) (J := fun u w' => K (.returned u) w') (R := S) c ?_).mono fun e w' ⟨v, he, hj⟩ => by rw [he]; exact hj
  clear c
  refine fun w G cx => Open_use l cx fun b w cx => ⟨_, rfl, rd b (l, false) :: S, Φ, inferInstance, cx, ?_⟩
  clear cx
  refine fun w G cx => RNum_to (S := S) hΦ (by simp only; omega) cx ?_
  clear cx
  have hlen : (rdNat (l, false)).2.1.length ≤ l.length := stepN_len 59 0 (l, false)
  have hnn := stepN_nonneg (e := 59) (.inr (.inl rfl)) (l, false)
  have hrow : readRowP l = match rowLoop (rdNat (l, false)).1.toNat (rdNat (l, false)).2 [] with
    | some (acc, st) => if rdDone st then some acc else none
    | none => none := rfl
  have hnn : 0 ≤ (rdNat (l, false)).1 ∧ (rdNat (l, false)).1 ≤ 9223372036854775807 := hnn
  obtain ⟨⟨n0, st0⟩, hst⟩ : ∃ x, rdNat (l, false) = x := ⟨_, rfl⟩
  rw [hst] at hlen hnn hrow ⊢
  simp only at hlen hnn hrow ⊢
  refine exI_mk (fun p n c m R' Φ' k => ∃ (st : RdS) (acc : List ValD) (ds : List Value), n = acc.length ∧ R' = .buf p n c ds 83 3 :: rd b st :: S ∧ Φ' = (fun M w => Φ M w ∧ Elems M w ds acc) ∧ k = m.toNat ∧ 0 ≤ m ∧ m ≤ 9223372036854775807 ∧ acc.length + st.1.length ≤ l.length ∧ rowLoop n0.toNat st0 [] = rowLoop m.toNat st acc)
    ⟨⟨.buf none 0 0 [] 83 3 :: rd b st0 :: S, fun M w => Φ M w ∧ Elems M w [] ([] : List ValD), _, inferInstance, fun w G cx => (cx.nobuf 83 3).weak fun M w h => ⟨h, Elems.nil⟩, st0, [], [], rfl, rfl, rfl, rfl, hnn.1, hnn.2, by simp only [List.length_nil]; omega, rfl⟩, ?_⟩
  rintro p n c m R1 Φ1 k _ ⟨st, acc, ds, rfl, rfl, rfl, rfl, hm0, hm1, hal, hrl⟩
  have hst1 : Stable (fun M w => Φ M w ∧ Elems M w ds acc) := inferInstance
  refine Br.intro (fun hpos => ?_) (fun hz => ?_)
  · have hpos := of_decide_eq_true hpos
    refine fun w G cx => Left_to (S := .buf p acc.length c ds 83 3 :: S) cx.swap ?_
    refine Br.intro (fun hz => fun w G cx => ?_) (fun hnz => ?_)
    · have hz := of_decide_eq_true hz
      refine h0 ?_ w (cx.left.drop1.drop1.weak fun M w h => h.1)
      rw [hrow, hrl, show m.toNat = (m.toNat - 1) + 1 by omega, rowLoop, if_pos (List.length_eq_zero_iff.1 (by omega))]
    · have hnz := of_decide_eq_false hnz
      have hne : st.1 ≠ [] := fun e => hnz (by rw [e]; rfl)
      obtain ⟨q1, q2, q3⟩ := stepV_len st
      have q2 := q2 hne
      have hi1 := rdInt_i64 st
      have hi2 := rdInt_i64 (rdInt st).2
      refine fun w G cx => take_to (S := .buf p acc.length c ds 83 3 :: S) (fun M w h => hΦ M w h.1) (by omega) cx ?_
      refine fun bk w G cx => ?_
      have cx1 : Ctx W w (.blk bk [.int .i64 (stepV st).1.kind, .int .i64 (stepV st).1.num, .string (stepV st).1.text] 83 :: .buf p acc.length c ds 83 3 :: (rd b (stepV st).2 :: S ++ G)) (fun M w => Φ M w ∧ Elems M w ds acc) := cx.perm ((List.Perm.swap _ _ _).cons _)
      obtain ⟨p', cap', w', hrun, _, cx'⟩ := Ctx.app1 (P := Tryz.prog) (ts := 60) (ty := 60) (kb := #[false, false]) (size := 3) (bytes := 32) cx1 (by kernel_rfl) (by omega) rfl rfl (by omega) (by omega)
      have hst2 : Stable (fun M w => Φ M w ∧ Elems M w (ds ++ [.int .i64 (stepV st).1.kind, .int .i64 (stepV st).1.num, .string (stepV st).1.text]) (acc ++ [(stepV st).1])) := inferInstance
      have hcx2 : Ctx W w' (.buf p' (acc ++ [(stepV st).1]).length cap' (ds ++ [.int .i64 (stepV st).1.kind, .int .i64 (stepV st).1.num, .string (stepV st).1.text]) 83 3 :: rd b (stepV st).2 :: S ++ G) (fun M w => Φ M w ∧ Elems M w (ds ++ [.int .i64 (stepV st).1.kind, .int .i64 (stepV st).1.num, .string (stepV st).1.text]) (acc ++ [(stepV st).1])) := by
        rw [List.length_append, List.length_singleton]
        exact cx'.weak fun M w h => ⟨h.1, h.2.snoc (rep_of hi1 hi2 (Nat.le_trans q3 (Nat.le_trans (by omega : st.1.length ≤ 10000000) (by decide))))⟩
      refine ⟨p', acc.length + 1, cap', w', hrun, _, _, hst2, hcx2, by unfold I64; omega, _, _, (m - 1).toNat, hst2, fun w G cx => cx, ⟨(stepV st).2, acc ++ [(stepV st).1], _, by simp, by simp, rfl, rfl, by omega, by omega, by rw [List.length_append, List.length_singleton]; omega, ?_⟩, by omega⟩
      rw [hrl, show m.toNat = (m - 1).toNat + 1 by omega, rowLoop, if_neg hne]
  · have hz := of_decide_eq_false hz
    have hm : m.toNat = 0 := by omega
    rw [hm, rowLoop] at hrl
    rw [hrl] at hrow
    simp only at hrow
    refine fun w G cx => Done_to (S := .buf p acc.length c ds 83 3 :: S) cx.swap ?_
    refine Br.intro (fun hd => fun w G cx => ?_) (fun hd => fun w G cx => ?_)
    · refine h0 ?_ w (cx.left.drop1.drop1.weak fun M w h => h.1)
      rw [hrow, if_neg (by simpa using hd)]
    · have cx := cx.left.drop1
      obtain ⟨cx3, hs, _, g1, g2⟩ := Ctx.freeze (α := ValD) cx.fst cx.phi.2
      exact h1 acc p c w (by rw [hrow, if_pos (by simpa using hd)]) g1 g2 (cx3.add hs)

theorem ReadRow_to [Stable Φ] (hΦ : ∀ M w, Φ M w → NumI M w) (l : List UInt8) (hl : l.length ≤ 10000000) (c : Ctx W w (R ++ G) Φ) {K : Option Addr → Nat → Nat → Bool → List Own → PW → Prop}
    (h0 : readRowP l = none → K none 0 0 false R Φ)
    (h1 : ∀ r p cap, readRowP l = some r → r.length ≤ cap → cap ≤ maxLen → Stable (fun M w => Φ M w ∧ Sl M w p r) → K p r.length cap true R (fun M w => Φ M w ∧ Sl M w p r)) :
    Calls Tryz.prog F.value_ReadRow #[.string (bs l)] w fun e w' => ∃ p n c ok, e = .returned (.tuple #[.slice p n c, .bool ok]) ∧ ∃ R' Φ', Stable Φ' ∧ Ctx W w' (R' ++ G) Φ' ∧ K p n c ok R' Φ' :=
  ReadRow_use hΦ l hl c (fun h w' c => ⟨none, 0, 0, false, rfl, R, Φ, inferInstance, c, h0 h⟩) fun r p cap w' h g1 g2 c => ⟨p, r.length, cap, true, rfl, R, _, inferInstance, c, h1 r p cap h g1 g2 inferInstance⟩
theorem ReadRowS_to [Stable Φ] (hΦ : ∀ M w, Φ M w → NumI M w) (s : ByteArray) (hl : s.size ≤ 10000000) (c : Ctx W w (R ++ G) Φ) {K : Option Addr → Nat → Nat → Bool → List Own → PW → Prop}
    (h0 : readRowP s.data.toList = none → K none 0 0 false R Φ)
    (h1 : ∀ r p cap, readRowP s.data.toList = some r → r.length ≤ cap → cap ≤ maxLen → Stable (fun M w => Φ M w ∧ Sl M w p r) → K p r.length cap true R (fun M w => Φ M w ∧ Sl M w p r)) :
    Calls Tryz.prog F.value_ReadRow #[.string s] w fun e w' => ∃ p n c ok, e = .returned (.tuple #[.slice p n c, .bool ok]) ∧ ∃ R' Φ', Stable Φ' ∧ Ctx W w' (R' ++ G) Φ' ∧ K p n c ok R' Φ' :=
  ReadRow_to hΦ s.data.toList (by rw [list_size]; exact hl) c h0 h1
end
end Go.Proofs.YtfpgbejdlikpgaaGreatDoor
end

/-
  delta.Read: in plain Lean, and walked.
-/
section
set_option linter.unusedVariables false
set_option linter.unusedSimpArgs false
namespace Go.Proofs.YtfpgbejdlikpgaaGreatDoor
open Go.Vc


/-! ### in plain Lean -/
def stepD (st : RdS) : Option (DeltaD × RdS) := (readRowP (stepT (rdInt st).2).1.data.toList).map fun r => (⟨(rdInt st).1, r, (rdInt (stepT (rdInt st).2).2).1⟩, (rdInt (stepT (rdInt st).2).2).2)
theorem stepD_none {st : RdS} (h : readRowP (stepT (rdInt st).2).1.data.toList = none) : stepD st = none := by unfold stepD; rw [h]; rfl
theorem stepD_some {st : RdS} {r : List ValD} (h : readRowP (stepT (rdInt st).2).1.data.toList = some r) : stepD st = some (⟨(rdInt st).1, r, (rdInt (stepT (rdInt st).2).2).1⟩, (rdInt (stepT (rdInt st).2).2).2) := by unfold stepD; rw [h]; rfl
theorem stepD_inv {st st' : RdS} {x : DeltaD} (h : stepD st = some (x, st')) : ∃ r, readRowP (stepT (rdInt st).2).1.data.toList = some r ∧ x = ⟨(rdInt st).1, r, (rdInt (stepT (rdInt st).2).2).1⟩ ∧ st' = (rdInt (stepT (rdInt st).2).2).2 := by
  unfold stepD at h
  obtain ⟨r, h1, h2⟩ := Option.map_eq_some_iff.1 h
  injection h2 with h3 h4
  exact ⟨r, h1, h3.symm, h4.symm⟩
attribute [irreducible] stepD
def readLoop : Nat → RdS → List DeltaD → Option (List DeltaD)
  | 0, _, acc => some acc
  | n + 1, st, acc => (stepD st).bind fun y => readLoop n y.2 (acc ++ [y.1])
theorem readLoop_z (st : RdS) (acc : List DeltaD) : readLoop 0 st acc = some acc := rfl
theorem readLoop_n {n : Nat} {st : RdS} {acc : List DeltaD} (h : stepD st = none) : readLoop (n + 1) st acc = none := by
  show (stepD st).bind _ = none
  rw [h]; rfl
theorem readLoop_s {n : Nat} {st st' : RdS} {acc : List DeltaD} {x : DeltaD} (h : stepD st = some (x, st')) : readLoop (n + 1) st acc = readLoop n st' (acc ++ [x]) := by
  show (stepD st).bind _ = _
  rw [h]; rfl
def readAll (l : List UInt8) : Option (List DeltaD) := readLoop (min (rdNat (l, false)).1 l.length).toNat (rdNat (l, false)).2 []
def readP (l : List UInt8) : Option (List DeltaD) := match readAll l with
  | some out => if consolidated out && decide (bytesL out = l) then some out else none
  | none => none

theorem deltaB_list (x : DeltaD) : (deltaB x).data.toList = (intB x.time).data.toList ++ ((textB (rowB x.row)).data.toList ++ (intB x.n).data.toList) := by
  unfold deltaB
  simp [ByteArray.data_append]
theorem delta_read {x : DeltaD} {t : List UInt8} (h1 : I64 x.time) (h2 : I64 x.n) (h3 : ∀ v ∈ x.row, FitV v) (h4 : x.row.length ≤ 9223372036854775807) (h5 : (rowB x.row).size ≤ 9223372036854775807) : stepD ((deltaB x).data.toList ++ t, false) = some (x, (t, false)) := by
  have e1 : rdInt ((deltaB x).data.toList ++ t, false) = (x.time, ((textB (rowB x.row)).data.toList ++ ((intB x.n).data.toList ++ t), false)) := by
    rw [deltaB_list, List.append_assoc, int_read h1, List.append_assoc]
  have e2 := text_read (r := (intB x.n).data.toList ++ t) h5
  have e3 : readRowP (stepT (rdInt ((deltaB x).data.toList ++ t, false)).2).1.data.toList = some x.row := by
    rw [e1]
    show readRowP (stepT ((textB (rowB x.row)).data.toList ++ ((intB x.n).data.toList ++ t), false)).1.data.toList = some x.row
    rw [e2]
    exact row_read h3 h4
  rw [stepD_some e3, e1]
  simp only
  rw [e2]
  simp only
  rw [int_read h2]
theorem deltas_read : ∀ (c : List DeltaD) (acc : List DeltaD) (t : List UInt8), (∀ x ∈ c, (I64 x.time ∧ I64 x.n) ∧ (∀ v ∈ x.row, FitV v) ∧ x.row.length ≤ 9223372036854775807 ∧ (rowB x.row).size ≤ 9223372036854775807) → readLoop c.length (deltasL c ++ t, false) acc = some (acc ++ c)
  | [], acc, t, _ => by rw [List.append_nil]; rfl
  | x :: c, acc, t, h => by
    obtain ⟨⟨h1, h2⟩, h3, h4, h5⟩ := h x (by simp)
    have e : deltasL (x :: c) ++ t = (deltaB x).data.toList ++ (deltasL c ++ t) := by simp [deltasL]
    rw [e, List.length_cons, readLoop_s (delta_read h1 h2 h3 h4 h5)]
    rw [deltas_read c _ t fun y hy => h y (by simp [hy]), List.append_assoc]
    rfl
theorem deltaB_pos {x : DeltaD} (h : I64 x.time) : 1 ≤ (deltaB x).data.toList.length := by
  have h1 := intB_size h
  rw [list_size]
  unfold deltaB
  rw [size_app, size_app]; omega
theorem deltasL_pos : ∀ {c : List DeltaD}, (∀ x ∈ c, I64 x.time) → c.length ≤ (deltasL c).length
  | [], _ => Nat.zero_le _
  | x :: c, h => by
    have h1 := deltaB_pos (h x (by simp))
    have h2 := deltasL_pos (c := c) fun y hy => h y (by simp [hy])
    have e : deltasL (x :: c) = (deltaB x).data.toList ++ deltasL c := by simp [deltasL]
    rw [e, List.length_append, List.length_cons]; omega
def FitD (x : DeltaD) : Prop := (I64 x.time ∧ I64 x.n) ∧ (∀ v ∈ x.row, FitV v) ∧ x.row.length ≤ 9223372036854775807 ∧ (rowB x.row).size ≤ 9223372036854775807
theorem all_read {a : List DeltaD} (h : ∀ x ∈ consP a, FitD x) (hl : (consP a).length ≤ 1000000000) : readAll (bytesL a) = some (consP a) := by
  have h1 := deltas_read (consP a) [] [] h
  rw [List.append_nil, List.nil_append] at h1
  have h2 := deltasL_pos fun x hx => (h x hx).1.1
  unfold readAll bytesL
  rw [nat_read (by omega)]
  simp only
  rw [show (min ((consP a).length : Int) (((natB (consP a).length).data.toList ++ deltasL (consP a)).length : Int)).toNat = (consP a).length by rw [List.length_append]; omega]
  exact h1
theorem bytesL_cons (a : List DeltaD) : bytesL (consP a) = bytesL a := by
  unfold bytesL
  rw [consP_cons]
theorem read_bytes {a : List DeltaD} (h : ∀ x ∈ consP a, FitD x) (hl : (consP a).length ≤ 1000000000) : readP (bytesL a) = some (consP a) := by
  unfold readP
  rw [all_read h hl]
  simp only
  rw [norm_cons (consP_norm a).1, bytesL_cons, decide_eq_true rfl]
  rfl
/-- what is read is the encoding's own -/
theorem read_is {l : List UInt8} {out : List DeltaD} (h : readP l = some out) : readAll l = some out ∧ consolidated out = true ∧ bytesL out = l := by
  unfold readP at h
  split at h
  · rename_i o ho
    split at h
    · rename_i hc
      cases h
      rw [Bool.and_eq_true] at hc
      exact ⟨ho, hc.1, of_decide_eq_true hc.2⟩
    · cases h
  · cases h

/-! lengths -/
theorem stepN_bad (e : UInt8) (least : Int) : stepN e least ([], true) = (0, ([], true)) := by
  refine stepN_none ?_
  unfold numP
  rw [show Lib.indexByte (List.take 21 (([], true) : RdS).1) e = -1 from rfl]
  rfl
theorem stepT_bad {st : RdS} (h : st = ([], true)) : stepT st = (ByteArray.mk #[], ([], true)) := by
  subst h
  unfold stepT
  simp only [stepN_bad]
  rfl
theorem readRow_nil : readRowP [] = none := by
  have e : rdNat ([], false) = (0, ([], true)) := by
    refine stepN_none ?_
    unfold numP
    rw [show Lib.indexByte (List.take 21 (([], false) : RdS).1) 59 = -1 from rfl]
    rfl
  unfold readRowP
  rw [e]
  rfl
/-- either the number was eaten whole, or all is lost -/
theorem rdInt_eats (st : RdS) : (rdInt st).2 = ([], true) ∨ (rdInt st).2.1.length + 2 ≤ st.1.length := by
  unfold rdInt stepN
  split
  · rename_i n r h
    obtain ⟨⟨h1, _⟩, h2⟩ := (numP_iff (.inr (.inl rfl))).1 h
    have := itoa_len h1
    right
    rw [h2, List.length_append, List.length_cons]
    simp only; omega
  · exact .inl rfl
theorem stepT_eats (st : RdS) : (stepT st).1.data.toList = [] ∨ (stepT st).2.1.length + 3 ≤ st.1.length := by
  unfold stepT
  simp only
  split
  · exact .inl rfl
  · rename_i h
    by_cases hc : (stepC 44 ((stepN 58 0 st).2.1.drop (stepN 58 0 st).1.toNat, (stepN 58 0 st).2.2)).2 = true
    · left
      rw [if_pos hc]
    · right
      simp only
      unfold stepN at hc ⊢
      split at hc
      · rename_i n r hn
        obtain ⟨⟨h1, _⟩, h2⟩ := (numP_iff (.inl rfl)).1 hn
        have := itoa_len h1
        simp only at hc ⊢
        unfold stepC at hc ⊢
        simp only at hc ⊢
        split at hc
        · exact absurd rfl hc
        · rename_i x r2 hx
          have hlen := congrArg List.length hx
          rw [List.length_drop, List.length_cons] at hlen
          split at hc
          · rename_i hxe
            rw [if_pos hxe, h2, List.length_append, List.length_cons]
            simp only; omega
          · exact absurd rfl hc
      · exfalso
        apply hc
        rfl
theorem stepD_eats {st st' : RdS} {x : DeltaD} (h : stepD st = some (x, st')) : st'.1.length + 5 ≤ st.1.length ∧ x.row.length ≤ st.1.length ∧ ∀ v ∈ x.row, v.text.size ≤ st.1.length := by
  obtain ⟨r, hr, rfl, rfl⟩ := stepD_inv h
  obtain ⟨f1, f2⟩ := readRow_fit hr
  rcases stepT_eats (rdInt st).2 with e | e
  · rw [e, readRow_nil] at hr
    cases hr
  · rcases rdInt_eats st with e2 | e2
    · rw [e2, List.length_nil] at e
      omega
    · have a : (rdInt (stepT (rdInt st).2).2).2.1.length ≤ (stepT (rdInt st).2).2.1.length := stepN_len 59 (-9223372036854775808) _
      have b := (stepT_len (rdInt st).2).2
      rw [list_size] at f1 f2
      refine ⟨?_, ?_, fun v hv => ?_⟩
      · omega
      · show r.length ≤ _
        omega
      · have := f2 v hv
        omega
theorem readLoop_fit {L : Nat} : ∀ (n : Nat) (st : RdS) (acc out : List DeltaD), readLoop n st acc = some out → acc.length * 5 + st.1.length ≤ L → (∀ x ∈ acc, x.row.length ≤ L ∧ ∀ v ∈ x.row, v.text.size ≤ L) → out.length * 5 ≤ L ∧ ∀ x ∈ out, x.row.length ≤ L ∧ ∀ v ∈ x.row, v.text.size ≤ L
  | 0, st, acc, out, h, h1, h2 => by
    rw [readLoop_z] at h
    cases h
    exact ⟨by omega, h2⟩
  | n + 1, st, acc, out, h, h1, h2 => by
    cases hs : stepD st with
    | none =>
      rw [readLoop_n hs] at h
      cases h
    | some y =>
      obtain ⟨x, st'⟩ := y
      rw [readLoop_s hs] at h
      obtain ⟨a, b, c⟩ := stepD_eats hs
      refine readLoop_fit n st' _ out h (by rw [List.length_append, List.length_singleton]; omega) fun y hy => ?_
      rcases List.mem_append.1 hy with hy | hy
      · exact h2 y hy
      · rw [List.mem_singleton.1 hy]
        exact ⟨by omega, fun v hv => by have := c v hv; omega⟩
theorem readAll_fit {l : List UInt8} {out : List DeltaD} (h : readAll l = some out) : out.length * 5 ≤ l.length ∧ ∀ x ∈ out, x.row.length ≤ l.length ∧ ∀ v ∈ x.row, v.text.size ≤ l.length := by
  have hn : (rdNat (l, false)).2.1.length ≤ l.length := stepN_len 59 0 (l, false)
  exact readLoop_fit _ _ _ _ h (by simp only [List.length_nil]; omega) (by simp)

/-! ### walked -/
section
variable {W w : World} {R G S : List Own} {Φ : PW} {b : Nat} {st : RdS}

set_option maxHeartbeats 2000000 in
theorem Read_use [Stable Φ] (hΦ : ∀ M w, Φ M w → NumI M w) (l : List UInt8) (hl : l.length ≤ 10000000) (hfit : ∀ out, readAll l = some out → out.length ≤ 400 ∧ ∀ x ∈ out, Fit x) (c : Ctx W w S Φ) {K : Ending → World → Prop}
    (h0 : readP l = none → ∀ w', Ctx W w' S Φ → K (.returned (.tuple #[.slice none 0 0, .bool false])) w')
    (h1 : ∀ r p cap w', readP l = some r → r.length ≤ cap → cap ≤ maxLen → Ctx W w' S (fun M w => Φ M w ∧ Sl M w p r) → K (.returned (.tuple #[.slice p r.length cap, .bool true])) w') :
    Calls Tryz.prog F.delta_Read #[.string (bs l)] w K := by
  refine (Bdelta_Read_run (bs l) (J := fun u w' => K (.returned u) w') (R := S) c ?_).mono fun e w' ⟨v, he, hj⟩ => by rw [he]; exact hj
  clear c
  refine fun w G cx => Open_use l cx fun b w cx => ⟨_, rfl, rd b (l, false) :: S, Φ, inferInstance, cx, ?_⟩
  clear cx
  refine fun w G cx => RNum_to (S := S) hΦ (by simp only; omega) cx ?_
  clear cx
  have hlen : (rdNat (l, false)).2.1.length ≤ l.length := stepN_len 59 0 (l, false)
  have hnn : 0 ≤ (rdNat (l, false)).1 ∧ (rdNat (l, false)).1 ≤ 9223372036854775807 := stepN_nonneg (e := 59) (.inr (.inl rfl)) (l, false)
  have hall : readAll l = readLoop (min (rdNat (l, false)).1 l.length).toNat (rdNat (l, false)).2 [] := rfl
  have hrow : readP l = match readAll l with
    | some out => if consolidated out && decide (bytesL out = l) then some out else none
    | none => none := rfl
  obtain ⟨⟨n0, st0⟩, hst⟩ : ∃ x, rdNat (l, false) = x := ⟨_, rfl⟩
  rw [hst] at hlen hnn hall ⊢
  simp only at hlen hnn hall ⊢
  obtain ⟨m0, hm0⟩ : ∃ m, (min n0 (l.length : Int)).toNat = m := ⟨_, rfl⟩
  rw [hm0] at hall
  have hsz : (bs l).size = l.length := bs_size l
  have hml : m0 ≤ l.length := by omega
  refine exI_mk (fun p n c i R' Φ' k => ∃ (j : Nat) (st : RdS) (acc : List DeltaD) (ds : List Value), n = acc.length ∧ R' = .buf p n c ds 62 3 :: rd b st :: S ∧ Φ' = (fun M w => Φ M w ∧ Elems M w ds acc) ∧ k = m0 - j ∧ i = j ∧ j ≤ m0 ∧ st.1.length ≤ l.length ∧ acc.length ≤ j ∧ readAll l = readLoop (m0 - j) st acc)
    ⟨⟨.buf none 0 0 [] 62 3 :: rd b st0 :: S, fun M w => Φ M w ∧ Elems M w [] ([] : List DeltaD), _, inferInstance, fun w G cx => (cx.nobuf 62 3).weak fun M w h => ⟨h, Elems.nil⟩, 0, st0, [], [], rfl, rfl, rfl, rfl, rfl, Nat.zero_le _, hlen, Nat.le_refl _, hall⟩, ?_⟩
  rintro p n c i R1 Φ1 k _ ⟨j, st, acc, ds, rfl, rfl, rfl, rfl, rfl, hj, hsl, haj, hrl⟩
  clear hall
  have hst1 : Stable (fun M w => Φ M w ∧ Elems M w ds acc) := inferInstance
  refine Br.intro (fun hlt => ?_) (fun hge => ?_)
  · have hlt := of_decide_eq_true hlt
    have hjm : j < m0 := by omega
    rw [show m0 - j = (m0 - (j + 1)) + 1 by omega] at hrl
    have q1 : (rdInt st).2.1.length ≤ st.1.length := stepN_len 59 (-9223372036854775808) st
    obtain ⟨q2, q3⟩ := stepT_len (rdInt st).2
    have q4 : (rdInt (stepT (rdInt st).2).2).2.1.length ≤ (stepT (rdInt st).2).2.1.length := stepN_len 59 (-9223372036854775808) _
    have hi1 := rdInt_i64 st
    have hi2 := rdInt_i64 (stepT (rdInt st).2).2
    refine fun w G cx => RInt_to (S := .buf p acc.length c ds 62 3 :: S) (fun M w h => hΦ M w h.1) (by omega) cx.swap ?_
    refine fun _ w G cx => Text_to (S := .buf p acc.length c ds 62 3 :: S) (fun M w h => hΦ M w h.1) (by omega) cx ?_
    refine fun w G cx => ReadRowS_to (R := rd b (stepT (rdInt st).2).2 :: .buf p acc.length c ds 62 3 :: S) (fun M w h => hΦ M w h.1) (stepT (rdInt st).2).1 (by omega) cx (fun hn => ?_) (fun r q qc hr g1 g2 hst2 => ?_)
    · rw [readLoop_n (stepD_none hn)] at hrl
      refine Br.intro (fun _ => fun w G cx => h0 (by rw [hrow, hrl]) w (cx.left.drop1.drop1.weak fun M w h => h.1)) (fun h => by cases h)
    · refine Br.intro (fun h => by cases h) (fun _ => ?_)
      have hd : stepD st = some (⟨(rdInt st).1, r, (rdInt (stepT (rdInt st).2).2).1⟩, (rdInt (stepT (rdInt st).2).2).2) := stepD_some hr
      obtain ⟨x, hx⟩ : ∃ x : DeltaD, x = ⟨(rdInt st).1, r, (rdInt (stepT (rdInt st).2).2).1⟩ := ⟨_, rfl⟩
      rw [← hx] at hd
      rw [readLoop_s hd] at hrl
      refine fun w G cx => RInt_to (S := .buf p acc.length c ds 62 3 :: S) (fun M w h => hΦ M w h.1.1) (by omega) cx ?_
      refine fun bk w G cx => ?_
      have cx1 : Ctx W w (.blk bk (x.cells q qc) 62 :: .buf p acc.length c ds 62 3 :: (rd b (rdInt (stepT (rdInt st).2).2).2 :: S ++ G)) (fun M w => (Φ M w ∧ Elems M w ds acc) ∧ Sl M w q r) := by rw [hx]; exact cx.perm ((List.Perm.swap _ _ _).cons _)
      obtain ⟨p', cap', w', hrun, _, cx'⟩ := Ctx.app1 (P := Tryz.prog) (ts := 30) (ty := 30) (kb := #[false, false]) (size := 3) (bytes := 40) cx1 (by kernel_rfl) (by omega) rfl rfl (by omega) (by omega)
      have hst3 : Stable (fun M w => Φ M w ∧ Elems M w (ds ++ x.cells q qc) (acc ++ [x])) := inferInstance
      have hcx2 : Ctx W w' (.buf p' (acc ++ [x]).length cap' (ds ++ x.cells q qc) 62 3 :: rd b (rdInt (stepT (rdInt st).2).2).2 :: S ++ G) (fun M w => Φ M w ∧ Elems M w (ds ++ x.cells q qc) (acc ++ [x])) := by
        rw [List.length_append, List.length_singleton]
        exact cx'.weak fun M w h => ⟨h.1.1, h.1.2.snoc (rep_delta (x := x) (by rw [hx]; exact g1) g2 (by rw [hx]; exact hi1) (by rw [hx]; exact hi2) (by rw [hx]; exact h.2))⟩
      refine ⟨p', acc.length + 1, cap', w', hrun, _, _, hst3, hcx2, by unfold I64; omega, _, _, m0 - (j + 1), hst3, fun w G cx => cx, ⟨j + 1, _, acc ++ [x], _, by simp, by simp, rfl, rfl, by omega, by omega, by omega, by rw [List.length_append, List.length_singleton]; omega, hrl⟩, by omega⟩
  · have hge := of_decide_eq_false hge
    have hjm : m0 - j = 0 := by omega
    rw [hjm, readLoop_z] at hrl
    rw [hrl] at hrow
    simp only at hrow
    obtain ⟨fl, ff⟩ := hfit acc hrl
    have hst2 : Stable (fun M w => Φ M w ∧ Sl M w p acc) := inferInstance
    intro w G cx
    obtain ⟨cx3, hs, _, g1, g2⟩ := Ctx.freeze (α := DeltaD) cx.fst cx.phi.2
    refine (Consolidated_in (Φ := fun M w => Φ M w ∧ Sl M w p acc) p c acc (fun M w h => h.2) (by omega)).toB (R := rd b st :: S) (cx3.add hs) ?_
    clear cx cx3 hs
    refine Br.intro (fun hc => fun w G cx => h0 ?_ w (cx.left.drop1.weak fun M w h => h.1)) (fun hc => ?_)
    · have hc : consolidated acc = false := by simpa using hc
      rw [hrow, hc, if_neg (by simp)]
    · have hc : consolidated acc = true := by simpa using hc
      rw [hc, Bool.true_and] at hrow
      refine fun w G cx => (Bytes28_in (Φ := fun M w => Φ M w ∧ Sl M w p acc) p c acc (fun _ M w h => (hΦ M w h.1).1) (fun M w h => h.2) fl ff).toS (R := rd b st :: S) cx ?_
      refine Br.intro (fun hb => fun w G cx => h0 ?_ w (cx.left.drop1.weak fun M w h => h.1)) (fun hb => fun w G cx => h1 acc p c w ?_ g1 g2 cx.left.drop1)
      · have hb : bytesL acc ≠ l := fun e => of_decide_eq_true hb (by rw [e]; rfl)
        rw [hrow, decide_eq_false hb, if_neg (by simp)]
      · have hb : bytesL acc = l := bs_inj.1 (Decidable.not_not.1 (of_decide_eq_false hb))
        rw [hrow, decide_eq_true hb, if_pos rfl]

end
end Go.Proofs.YtfpgbejdlikpgaaGreatDoor
end

/-
  The encoding of a message, both sides, walked.
-/
section
set_option linter.unusedVariables false
set_option linter.unusedSimpArgs false
namespace Go.Proofs.YtfpgbejdlikpgaaGreatDoor
open Go.Vc

def msgB (m : MsgD) : ByteArray := intB m.kind ++ intB m.node ++ intB m.inp ++ intB m.bucket ++ intB m.n ++ textB (bs (bytesL m.deltas))
theorem msgB_size {m : MsgD} (hok : m.Ok) (hb : (bytesL m.deltas).length ≤ 100000000000) : (msgB m).size ≤ (bytesL m.deltas).length + 200 := by
  have h0 := intB_size hok.kind
  have h1 := intB_size hok.node
  have h2 := intB_size hok.inp
  have h3 := intB_size hok.bucket
  have h4 := intB_size hok.n
  have h5 := textB_size (s := bs (bytesL m.deltas)) (by rw [bs_size]; omega)
  rw [bs_size] at h5
  unfold msgB
  rw [size_app, size_app, size_app, size_app, size_app]
  omega

section
variable {Φ : PW}
theorem MessageBytes_in [Stable Φ] (hT : ∀ M w, Φ M w → TabI M w) {m : MsgD} {p : Option Addr} {c : Nat} (hΦ : ∀ M w, Φ M w → Sl M w p m.deltas) (hok : m.Ok) (hl : m.deltas.length ≤ 400) (hf : ∀ x ∈ m.deltas, Fit x) (hb : (bytesL m.deltas).length ≤ 100000000000) :
    GivesIn Φ Tryz.prog F.channel_MessageBytes #[m.v p c] (.string (msgB m)) := by
  have h0 := intB_size hok.kind
  have h1 := intB_size hok.node
  have h2 := intB_size hok.inp
  have h3 := intB_size hok.bucket
  have h4 := intB_size hok.n
  have h5 := textB_size (s := bs (bytesL m.deltas)) (by rw [bs_size]; omega)
  have h6 : (bs (bytesL m.deltas)).size = (bytesL m.deltas).length := bs_size _
  refine gives_in (Bchannel_MessageBytes_run m.kind m.node m.inp m.bucket m.n p m.deltas.length c) fun W R => fun _ => ?_
  have any : ∀ {w : World} {R G : List Own} {Ψ : PW} [Stable Ψ], Ctx W w (R ++ G) Ψ → Ctx W w ([] ++ G) (fun _ _ => True) := fun cx => (Ctx.right cx).weak fun _ _ _ => trivial
  refine ⟨[], fun _ _ => True, inferInstance, fun w G cx => any cx, fun w G cx => ?_⟩
  refine (Int_in (.inl ⟨hT, hok.kind⟩)).toS cx ⟨fun w G cx => any cx, fun w G cx => (Int_in (.inl ⟨hT, hok.node⟩)).toS cx ⟨fun w G cx => any cx, by show (intB m.kind).size + (intB m.node).size ≤ _; omega, fun w G cx => (Int_in (.inl ⟨hT, hok.inp⟩)).toS cx ⟨fun w G cx => any cx, by show (intB m.kind ++ intB m.node).size + (intB m.inp).size ≤ _; rw [size_app]; omega, fun w G cx => (Int_in (.inl ⟨hT, hok.bucket⟩)).toS cx ⟨fun w G cx => any cx, by show (intB m.kind ++ intB m.node ++ intB m.inp).size + (intB m.bucket).size ≤ _; rw [size_app, size_app]; omega, fun w G cx => (Int_in (.inl ⟨hT, hok.n⟩)).toS cx ⟨fun w G cx => any cx, by show (intB m.kind ++ intB m.node ++ intB m.inp ++ intB m.bucket).size + (intB m.n).size ≤ _; rw [size_app, size_app, size_app]; omega, fun w G cx => ?_⟩⟩⟩⟩⟩
  refine (Bytes28_in p c m.deltas (fun _ => hT) hΦ hl hf).toS cx ⟨fun w G cx => any cx, fun w G cx => (Text_in (s := bs (bytesL m.deltas)) (.inl ⟨hT, by unfold I64; omega⟩) (by omega)).toS cx ⟨fun w G cx => any cx, ?_, fun w G cx => ⟨rfl, cx.left⟩⟩⟩
  show (intB m.kind ++ intB m.node ++ intB m.inp ++ intB m.bucket ++ intB m.n).size + (textB (bs (bytesL m.deltas))).size ≤ _
  rw [size_app, size_app, size_app, size_app]
  omega
end
end Go.Proofs.YtfpgbejdlikpgaaGreatDoor
end

/-
  channel.Same finds equal messages equal, walked; the reference's New.
-/
section
set_option linter.unusedVariables false
set_option linter.unusedSimpArgs false
namespace Go.Proofs.YtfpgbejdlikpgaaGreatDoor
open Go.Vc


end Go.Proofs.YtfpgbejdlikpgaaGreatDoor
end

/-
  The reference's channel: New, Take.
-/
section
set_option linter.unusedVariables false
set_option linter.unusedSimpArgs false
namespace Go.Proofs.YtfpgbejdlikpgaaGreatDoor
open Go.Vc


end Go.Proofs.YtfpgbejdlikpgaaGreatDoor
end

/-
  The reference's channel: Send.
-/
section
set_option linter.unusedVariables false
set_option linter.unusedSimpArgs false
namespace Go.Proofs.YtfpgbejdlikpgaaGreatDoor
open Go.Vc


end Go.Proofs.YtfpgbejdlikpgaaGreatDoor
end

/-
  The channel: Take with its error, Copy; the encoding of both sides, walked.
-/
section
set_option linter.unusedVariables false
set_option linter.unusedSimpArgs false
namespace Go.Proofs.YtfpgbejdlikpgaaGreatDoor
open Go.Vc


/-! ### messages that may be sent -/
theorem cons_keys : ∀ {l : List DeltaD}, ∀ z ∈ consP l, ∃ y ∈ l, y.key = z.key
  | [], z, hz => by cases hz
  | x :: l, z, hz => by
    rcases insD_key x (consP l) z hz with h | ⟨y, hy, h⟩
    · exact ⟨x, by simp, h.symm⟩
    · obtain ⟨u, hu, he⟩ := cons_keys y hy
      exact ⟨u, by simp [hu], he.trans h⟩
/-- what is plain data has numbers of 64 bits -/
def Mach (l : List DeltaD) : Prop := ∀ x ∈ l, (I64 x.time ∧ I64 x.n) ∧ ∀ v ∈ x.row, (I64 v.kind ∧ I64 v.num) ∧ v.text.size ≤ maxLen
theorem sl_mach {M : List Nat} {w : World} {p : Option Addr} {l : List DeltaD} (h : Sl M w p l) : Mach l := fun x hx => by
  obtain ⟨i, hi, rfl⟩ := List.getElem_of_mem hx
  obtain ⟨_, _, _, _, _, _, hr⟩ := h i hi
  obtain ⟨_, _, _, _, _, ht, hn, hs⟩ := delta_cells hr
  exact ⟨⟨ht, hn⟩, sl_i64 hs⟩
theorem cons_mach {a : List DeltaD} (h : Mach a) : Mach (consP a) := fun z hz => by
  obtain ⟨y, hy, he⟩ := cons_keys z hz
  have h1 := h y hy
  have e1 : y.time = z.time := congrArg Prod.fst he
  have e2 : y.row = z.row := congrArg Prod.snd he
  rw [← e1, ← e2]
  exact ⟨⟨h1.1.1, (consP_norm a).1.i64 z hz⟩, h1.2⟩

structure Good (m : MsgD) : Prop where
  ok : m.Ok
  right : rightM m = true
  mach : Mach m.deltas

theorem right_fits {m : MsgD} (h : rightM m = true) : m.deltas.length ≤ 8 ∧ ∀ x ∈ m.deltas, x.row.length ≤ 12 ∧ ∀ v ∈ x.row, v.text.size ≤ 200 := by
  unfold rightM headM at h
  simp only [Bool.and_eq_true, Bool.not_eq_true', Bool.or_eq_false_iff, decide_eq_false_iff_not] at h
  obtain ⟨⟨⟨_, ⟨⟨_, h1⟩, _⟩⟩, _⟩, h2⟩ := h
  refine ⟨by omega, fun x hx => ?_⟩
  rw [List.any_eq_false] at h2
  have := h2 x hx
  simp only [Bool.not_eq_true', Bool.not_eq_false] at this
  unfold rightR at this
  simp only [Bool.and_eq_true, decide_eq_true_eq, List.all_eq_true] at this
  refine ⟨by have := this.1; omega, fun v hv => ?_⟩
  have h3 := this.2 v hv
  unfold rightV3 at h3
  split at h3
  · rw [of_decide_eq_true h3]; exact Nat.zero_le _
  · split at h3
    · simp only [Bool.and_eq_true, decide_eq_true_eq] at h3
      omega
    · simp only [Bool.and_eq_true, decide_eq_true_eq] at h3
      rw [h3.2]; exact Nat.zero_le _
theorem right_cons {m : MsgD} (h : rightM m = true) : consolidated m.deltas = true := by
  unfold rightM at h
  simp only [Bool.and_eq_true] at h
  exact h.1.2
theorem Good.fit {m : MsgD} (h : Good m) : ∀ x ∈ m.deltas, Fit x := fun x hx => by
  have := (right_fits h.right).2 x hx
  exact ⟨by omega, fun v hv => Nat.le_trans (this.2 v hv) (by decide)⟩
theorem Good.row {m : MsgD} (h : Good m) {x : DeltaD} (hx : x ∈ consP m.deltas) : (I64 x.time ∧ I64 x.n) ∧ (rowB x.row).size ≤ 3229 ∧ x.row.length ≤ 12 ∧ ∀ v ∈ x.row, (I64 v.kind ∧ I64 v.num) ∧ v.text.size ≤ 200 := by
  have h1 := consP_row (P := fun r => r.length ≤ 12 ∧ ∀ v ∈ r, v.text.size ≤ 200) (right_fits h.right).2 x hx
  have h2 := cons_mach h.mach x hx
  have h3 : ∀ v ∈ x.row, (I64 v.kind ∧ I64 v.num) ∧ v.text.size ≤ 200 := fun v hv => ⟨(h2.2 v hv).1, h1.2 v hv⟩
  have h := rowL_len (m := 200) (r := x.row) h3 (by decide) (by omega)
  have : x.row.length * (200 + 64) ≤ 12 * (200 + 64) := Nat.mul_le_mul_right _ h1.1
  refine ⟨h2.1, ?_, h1.1, h3⟩
  unfold rowB
  rw [size_list]; omega
theorem deltasL_size : ∀ {c : List DeltaD}, (∀ x ∈ c, (deltaB x).size ≤ 3300) → (deltasL c).length ≤ c.length * 3300
  | [], _ => by simp [deltasL]
  | x :: c, h => by
    have h1 := deltasL_size (c := c) fun y hy => h y (by simp [hy])
    have h2 := h x (by simp)
    have e : deltasL (x :: c) = (deltaB x).data.toList ++ deltasL c := by simp [deltasL]
    rw [e, List.length_append, list_size, List.length_cons, Nat.add_mul]
    omega
theorem Good.bytes {m : MsgD} (h : Good m) : (bytesL m.deltas).length ≤ 30000 := by
  have h1 : ∀ x ∈ consP m.deltas, (deltaB x).size ≤ 3300 := fun x hx => by
    obtain ⟨h2, h3, _⟩ := h.row hx
    have a1 := intB_size h2.1
    have a2 := intB_size h2.2
    have a3 := textB_size (s := rowB x.row) (by omega)
    unfold deltaB
    rw [size_app, size_app]; omega
  have h4 := deltasL_size h1
  have h5 := consP_len m.deltas
  have h5' := (right_fits h.right).1
  have h6 := natB_size (n := ((consP m.deltas).length : Int)) (by unfold I64; omega)
  unfold bytesL
  rw [List.length_append, list_size]
  omega
theorem Good.msg {m : MsgD} (h : Good m) : (msgB m).size ≤ 30200 := Nat.le_trans (msgB_size h.ok (by have := h.bytes; omega)) (by have := h.bytes; omega)

/-! ### the encoding -/
def qL (q : List MsgD) : List UInt8 := q.flatMap fun m => (textB (msgB m)).data.toList
def headQ (n sent : Nat) : List UInt8 := (intB sent).data.toList ++ (natB n).data.toList
def chanL (q : List MsgD) (sent : Nat) : List UInt8 := headQ q.length sent ++ qL q
theorem qL_app (a b : List MsgD) : qL (a ++ b) = qL a ++ qL b := List.flatMap_append
theorem qL_one (m : MsgD) : qL [m] = (textB (msgB m)).data.toList := by simp [qL]
theorem qL_cons (m : MsgD) (q : List MsgD) : qL (m :: q) = (textB (msgB m)).data.toList ++ qL q := by simp [qL]
theorem bs_cat (a : List UInt8) (b : ByteArray) : bs a ++ b = bs (a ++ b.data.toList) := by
  apply ByteArray.ext
  apply Array.toList_inj.1
  rw [ByteArray.data_append, Array.toList_append]
  rfl
theorem Good.text {m : MsgD} (h : Good m) : (textB (msgB m)).size ≤ 30300 := by
  have h1 := h.msg
  have h2 := textB_size (s := msgB m) (by omega)
  omega
theorem qL_len : ∀ {q : List MsgD}, (∀ m ∈ q, Good m) → (qL q).length ≤ q.length * 30300
  | [], _ => by simp [qL]
  | m :: q, h => by
    have h1 := (h m (by simp)).text
    have h2 := qL_len (q := q) fun y hy => h y (by simp [hy])
    rw [qL_cons, List.length_append, List.length_cons, list_size]
    omega
theorem headQ_len {n sent : Nat} (hn : n ≤ 4) (hs : sent ≤ 1099511627776) : (headQ n sent).length ≤ 100 := by
  have h1 := intB_size (n := (sent : Int)) (by unfold I64; omega)
  have h2 := natB_size (n := (n : Int)) (by unfold I64; omega)
  unfold headQ
  rw [List.length_append, list_size, list_size]
  omega
theorem headQ_bs (n sent : Nat) : intB sent ++ natB n = bs (headQ n sent) := by
  rw [show intB (sent : Int) ++ natB (n : Int) = bs (intB (sent : Int)).data.toList ++ natB (n : Int) from rfl, bs_cat]
  rfl

theorem SendR.good {m : MsgD} {q q1 : List MsgD} {s n1 : Nat} {e1 : Int} (h : SendR m q s e1 q1 n1) (hq : ∀ x ∈ q, Good x) (hok : m.Ok) (hm : Mach m.deltas) : (∀ x ∈ q1, Good x) ∧ s ≤ n1 ∧ n1 ≤ s + 1 ∧ (q.length ≤ s → q1.length ≤ n1) := by
  rcases h with ⟨_, _, rfl, rfl⟩ | ⟨_, _, _, rfl, rfl⟩ | ⟨hr, _, _, rfl, rfl⟩
  · exact ⟨hq, Nat.le_refl _, by omega, id⟩
  · exact ⟨hq, Nat.le_refl _, by omega, id⟩
  · refine ⟨fun x hx => ?_, by omega, Nat.le_refl _, fun h => by rw [List.length_append, List.length_singleton]; omega⟩
    rcases List.mem_append.1 hx with hx | hx
    · exact hq x hx
    · rw [List.mem_singleton.1 hx]; exact ⟨hok, hr, hm⟩

/-! ### Take, Copy -/
def takeE (q : List MsgD) : Int := if q.length = 0 then 4 else 0
section
variable {W w : World} {S : List Own} {Φ : PW}
theorem TakeE_use [Stable Φ] {b : Nat} {cs : List Value} {q : List MsgD} {first sent : Nat} (c : Ctx W w (.blk b cs 59 :: S) (fun M w => Φ M w ∧ ChanS cs q first M w)) (hc : ChanC cs q first sent) {K : Ending → World → Prop}
    (hk : ∀ p cap w' cs' first', ChanC cs' q.tail first' sent → Ctx W w' (.blk b cs' 59 :: S) (fun M w => (Φ M w ∧ ChanS cs' q.tail first' M w) ∧ Sl M w p (q.headD msg0).deltas) → K (.returned (.tuple #[(q.headD msg0).v p cap, .int .i64 (takeE q)])) w') :
    Calls Tryz.prog F.channel_Channel_Take #[.pointer (some ⟨b, 0, none⟩)] w K := by
  cases q with
  | nil => exact Take_none c hc fun w' cx => hk none 0 w' cs first hc (cx.weak fun M w h => ⟨h, Sl.nil⟩)
  | cons m q =>
    refine Take_in c hc fun p cap ds rows w' cs' hc' hf cx => ?_
    have st : Stable (fun M w => Φ M w ∧ ChanS cs' q ((first + 1) % 4) M w) := inferInstance
    obtain ⟨c2, h2, _⟩ := hf.sl (cx.perm List.perm_middle.symm)
    exact hk p cap w' cs' _ hc' (c2.add h2)

theorem SendE_use [Stable Φ] {b : Nat} {cs : List Value} {m : MsgD} {p : Option Addr} {cap : Nat} {q : List MsgD} {first sent : Nat} (c : Ctx W w (.blk b cs 59 :: S) (fun M w => Φ M w ∧ ChanS cs q first M w)) (hc : ChanC cs q first sent)
    (hm : ∀ M w, Φ M w → Sl M w p m.deltas) (hok : m.Ok) (hlen : m.deltas.length ≤ 9223372036854775807) (hs : sent < 1000000) {K : Ending → World → Prop}
    (hk : ∀ e cs' q' n' w', SendR m q sent e q' n' → ChanC cs' q' first n' → Ctx W w' (.blk b cs' 59 :: S) (fun M w => Φ M w ∧ ChanS cs' q' first M w) → K (.returned (.int .i64 e)) w') :
    Calls Tryz.prog F.channel_Channel_Send #[.pointer (some ⟨b, 0, none⟩), m.v p cap] w K := by
  have hst1 : Stable (fun M w => Φ M w ∧ ChanS cs q first M w) := inferInstance
  cases hr : rightM m with
  | false => exact Send_arg c (fun M w h => hm M w h.1) hlen hr fun w' cx => hk 1 cs q sent w' (.inl ⟨hr, rfl, rfl, rfl⟩) hc cx
  | true =>
  have hcnt := hc.count
  by_cases hq4 : q.length = 4
  · exact Send_full c hc (fun M w h => hm M w h.1) hlen hr hq4 fun w' cx => hk 27 cs q sent w' (.inr (.inl ⟨hr, hq4, rfl, rfl, rfl⟩)) hc cx
  have hq : q.length < 4 := by omega
  exact Send_in c hc hm hok hr hq hs fun cs' w' hc' cx => hk 0 cs' (q ++ [m]) (sent + 1) w' (.inr (.inr ⟨hr, hq, rfl, rfl, rfl⟩)) hc' cx
theorem Sent_use [Stable Φ] {b : Nat} {cs : List Value} {t : TypeId} {n : Int} {i : Nat} (c : Ctx W w S Φ) (hi : S[i]? = some (.blk b cs t)) (hn : cs[26]? = some (.int .i64 n)) {K : Ending → World → Prop} (hk : ∀ w', Ctx W w' S Φ → K (.returned (.int .i64 n)) w') :
    Calls Tryz.prog F.channel_Channel_Sent #[.pointer (some ⟨b, 0, none⟩)] w K :=
  (Bchannel_Channel_Sent_run b 0 (J := fun u w' => K (.returned u) w') c fun w G cx => ⟨n, cx.left.get i hi (by rw [Nat.zero_add]; exact hn), fun w G cx => hk w cx.left⟩).mono fun e w' ⟨v, he, hj⟩ => by rw [he]; exact hj

/-! ### Bytes -/
set_option maxHeartbeats 1000000 in
theorem BytesC_use [Stable Φ] (hT : ∀ M w, Φ M w → TabI M w) {b : Nat} {cs : List Value} {q : List MsgD} {first sent : Nat} (cx : Ctx W w (.blk b cs 59 :: S) Φ) (hc : ChanC cs q first sent) (hS : ∀ M w, Φ M w → ChanS cs q first M w) (hg : ∀ m ∈ q, Good m) (hs : sent ≤ 1099511627776) {K : Ending → World → Prop}
    (hk : ∀ w', Ctx W w' (.blk b cs 59 :: S) Φ → K (.returned (.string (bs (chanL q sent)))) w') : Calls Tryz.prog F.channel_Channel_Bytes #[.pointer (some ⟨b, 0, none⟩)] w K := by
  have hq4 := hc.count
  have hh := headQ_len hq4 hs
  have h1 := intB_size (n := (sent : Int)) (by unfold I64; omega)
  have h2 := natB_size (n := (q.length : Int)) (by unfold I64; omega)
  have hpre : ∀ i, (qL (q.take i)).length ≤ 121200 := fun i => by
    have h1 := qL_len (q := q.take i) fun y hy => hg y (List.mem_of_mem_take hy)
    rw [List.length_take] at h1
    omega
  refine (Bchannel_Channel_Bytes_run b 0 (J := fun u w' => K (.returned u) w') cx ?_).mono fun e w' ⟨v, he, hj⟩ => by rw [he]; exact hj
  clear cx
  have keep : ∀ {w : World} {G : List Own} {X : PW} [Stable X], Ctx W w ((.blk b cs 59 :: S) ++ G) X → Ctx W w ([.blk b cs 59] ++ G) (fun _ _ => True) := fun cx => (Ctx.sub cx (((List.nil_sublist _).cons_cons _).append_right _)).weak fun _ _ _ => trivial
  refine ⟨[.blk b cs 59], fun _ _ => True, inferInstance, fun w G cx => keep cx, (sent : Int), fun w G cx => ⟨_, cx.get 0 rfl hc.c26, rfl⟩, (q.length : Int), fun w G cx => ⟨_, cx.get 0 rfl hc.c25, rfl⟩, fun w G cx => ?_⟩
  refine (Int_in (.inl ⟨hT, by unfold I64; omega⟩)).toS cx ⟨fun w G cx => keep cx, fun w G cx => (Num_in (.inl ⟨hT, by unfold I64; omega⟩)).toS cx ⟨by show (intB (sent : Int)).size + (natB (q.length : Int)).size ≤ _; omega, fun w G cx => ?_⟩⟩
  refine List_use (S := S ++ G) cx hc hS fun p cap w hcap cx => ?_
  obtain ⟨g, o, ms, hp, cx⟩ := cx.pin cx.phi.2
  obtain ⟨Ψ, hΨ⟩ : ∃ Ψ : PW, Ψ = (fun M w => (Φ M w ∧ Sl M w p q) ∧ Pin g o ms q M w) := ⟨_, rfl⟩
  have stΨ : Stable Ψ := by rw [hΨ]; exact instStableAnd (fun M w => Φ M w ∧ Sl M w p q) (fun M w => Pin g o ms q M w)
  have k0 : ∀ M w, Ψ M w → Φ M w := fun M w h => by rw [hΨ] at h; exact h.1.1
  have k2 : ∀ M w, Ψ M w → Pin g o ms q M w := fun M w h => by rw [hΨ] at h; exact h.2
  rw [← hΨ] at cx
  refine ⟨p, _, cap, rfl, .blk b cs 59 :: S, Ψ, stΨ, cx, ?_⟩
  clear cx
  rw [headQ_bs]
  refine exI_mk (fun st nI R' Φ' k => ∃ i : Nat, nI = i ∧ i ≤ q.length ∧ st = bs (headQ q.length sent ++ qL (q.take i)) ∧ R' = .blk b cs 59 :: S ∧ Φ' = Ψ ∧ k = q.length - i) ⟨⟨_, Ψ, _, stΨ, fun w G cx => cx, 0, rfl, Nat.zero_le _, by rw [List.take_zero, show qL [] = [] from rfl, List.append_nil], rfl, rfl, rfl⟩, ?_⟩
  rintro st nI R1 Φ1 k _ ⟨i, rfl, hi, rfl, rfl, rfl, rfl⟩
  have hpi := hpre i
  have hbs : (bs (headQ q.length sent ++ qL (q.take i))).size = (headQ q.length sent).length + (qL (q.take i)).length := by rw [bs_size, List.length_append]
  refine Br.intro (fun hlt => ?_) (fun hge => fun w G cx => ?_)
  · have hlt : i < q.length := by have := of_decide_eq_true hlt; omega
    have hgm := hg _ (List.getElem_mem hlt)
    have hmt := hgm.text
    have hmb := hgm.bytes
    have hms := hgm.msg
    refine ⟨⟨by omega, by omega⟩, ptrK_intro g o (hp (by omega)) fun w G cx => ?_⟩
    obtain ⟨mp, mc, he, hm1, hm2, hok⟩ := pin_msg (k2 _ _ cx.phi) hlt
    refine ⟨q[i].kind, q[i].node, q[i].inp, q[i].bucket, q[i].n, mp, _, mc, by rw [Int.toNat_natCast]; exact pin_msgAt (k2 _ _ cx.phi) hlt he, fun _ w G cx => ?_⟩
    refine (MessageBytes_in (m := q[i]) (fun M w h => hT _ _ (k0 _ _ h)) (fun M w h => pin_msgSl (k2 _ _ h) hlt he) hok (by have := (right_fits hgm.right).1; omega) hgm.fit (by omega)).toS cx fun w G cx => ?_
    refine (Text_in (s := msgB q[i]) (.inl ⟨fun M w h => hT _ _ (k0 _ _ h), by unfold I64; omega⟩) (by omega)).toS cx ⟨by show (bs (headQ q.length sent ++ qL (q.take i))).size + (textB (msgB q[i])).size ≤ _; omega, by unfold I64; omega, _, Φ1, q.length - (i + 1), stΨ, fun w G cx => cx, ⟨i + 1, by omega, by omega, ?_, rfl, rfl, rfl⟩, by omega⟩
    rw [bs_cat, List.take_succ_eq_append_getElem hlt, qL_app, qL_one, List.append_assoc]
  · have hge : i = q.length := by have := of_decide_eq_false hge; omega
    subst hge
    rw [List.take_length]
    exact hk w ((Ctx.left (F := G) cx).weak k0)

end
end Go.Proofs.YtfpgbejdlikpgaaGreatDoor
end

/-
  What was read stands in the string: the readers' results, read backwards.
-/
section
set_option linter.unusedVariables false
set_option linter.unusedSimpArgs false
namespace Go.Proofs.YtfpgbejdlikpgaaGreatDoor
open Go.Vc

theorem stepN_is {e : UInt8} (he : e.toNat = 58 ∨ e.toNat = 59 ∨ e.toNat = 91) {least : Int} {st : RdS} (h : (stepN e least st).2.2 = false) :
    st.2 = false ∧ I64 (stepN e least st).1 ∧ least ≤ (stepN e least st).1 ∧ st.1 = Lib.itoa (stepN e least st).1 ++ e :: (stepN e least st).2.1 := by
  unfold stepN at h ⊢
  split at h
  · rename_i n r hn
    obtain ⟨⟨h1, h2⟩, h3⟩ := (numP_iff he).1 hn
    exact ⟨h, h1, h2, h3⟩
  · cases h
theorem int_is {st : RdS} (h : (rdInt st).2.2 = false) : st.2 = false ∧ I64 (rdInt st).1 ∧ st.1 = (intB (rdInt st).1).data.toList ++ (rdInt st).2.1 := by
  obtain ⟨h1, h2, _, h3⟩ := stepN_is (e := 59) (.inr (.inl rfl)) h
  refine ⟨h1, h2, ?_⟩
  rw [intB_list, List.append_assoc, List.singleton_append]
  exact h3
theorem nat_is {st : RdS} (h : (rdNat st).2.2 = false) : st.2 = false ∧ I64 (rdNat st).1 ∧ 0 ≤ (rdNat st).1 ∧ st.1 = (natB (rdNat st).1).data.toList ++ (rdNat st).2.1 := by
  obtain ⟨h1, h2, h4, h3⟩ := stepN_is (e := 59) (.inr (.inl rfl)) h
  have h4 : 0 ≤ (rdNat st).1 := h4
  refine ⟨h1, h2, h4, ?_⟩
  rw [show natB (rdNat st).1 = intB (rdNat st).1 from if_neg (by omega), intB_list, List.append_assoc, List.singleton_append]
  exact h3
theorem stepC_is {c : UInt8} {st : RdS} (h : (stepC c st).2 = false) : st.2 = false ∧ st.1 = c :: (stepC c st).1 := by
  obtain ⟨l, bad⟩ := st
  unfold stepC at h ⊢
  cases l with
  | nil => cases h
  | cons x r =>
    simp only at h ⊢
    by_cases hx : x = c
    · rw [if_pos hx] at h ⊢
      exact ⟨h, by rw [hx]⟩
    · rw [if_neg hx] at h
      cases h
theorem text_is {st : RdS} (h : (stepT st).2.2 = false) : st.2 = false ∧ st.1 = (textB (stepT st).1).data.toList ++ (stepT st).2.1 := by
  unfold stepT at h ⊢
  simp only at h ⊢
  split at h
  · cases h
  rename_i hlt
  rw [if_neg hlt]
  simp only at h ⊢
  rw [if_neg (by rw [h]; simp)]
  obtain ⟨h1, h2⟩ := stepC_is h
  simp only at h1 h2
  obtain ⟨h3, h4, h5, h6⟩ := stepN_is (e := 58) (.inl rfl) h1
  refine ⟨h3, ?_⟩
  have hl : ((stepN 58 0 st).2.1.take (stepN 58 0 st).1.toNat).length = (stepN 58 0 st).1.toNat := by rw [List.length_take]; omega
  rw [textB_list, bs_list, bs_size, hl, show (((stepN 58 0 st).1.toNat : Nat) : Int) = (stepN 58 0 st).1 by omega, List.append_assoc, List.cons_append, List.append_assoc, List.singleton_append, ← h2, List.take_append_drop]
  exact h6
theorem done_is {st : RdS} (h : rdDone st = true) : st = ([], false) := by
  unfold rdDone at h
  rw [Bool.and_eq_true] at h
  obtain ⟨l, bad⟩ := st
  have h1 := of_decide_eq_true h.2
  have h2 := h.1
  simp only at h1 h2
  cases bad with
  | true => cases h2
  | false => rw [h1]
end Go.Proofs.YtfpgbejdlikpgaaGreatDoor
end

/-
  The conditions of the walks of some functions, one formula each; 'B<f>_run' says that they suffice. The formulas are printed by a program; the kernel compares them with the functions' code.
-/
section
namespace Go.Proofs.YtfpgbejdlikpgaaGreatDoor
set_option linter.unusedVariables false
set_option linter.unusedSimpArgs false
set_option maxRecDepth 100000
open Go.Vc

/-- errataref01.Back -/
-- loop at region 6: 5 n, 6 i; blocks 
def Merrataref01_Back (s : ByteArray) (W : World) (R : List Own) (Φ : PW) (J : Value → World → Prop) : Prop :=
  ∀ (w0 : World) (R1 : List Own), Ctx W w0 (R ++ R1) Φ → ∃ (u2 : UInt8), (decide (0 < (↑s.size : Int)) = true → (0 : Int) ≤ 0 ∧ s.data.toList.get?Internal 0 = some u2) ∧ Br (decide (0 <
  (↑s.size : Int)) && decide ((↑u2.toNat : Int) = 45)) (exI fun (I3 : Int → Int → List Own → PW → Nat → Prop) => (∃ (R4 : List Own), ∃ (Φ5 : PW), ∃ (k6 : Nat), Stable Φ5 ∧ (∀ (w7 : World) (R8
  : List Own), Ctx W w7 (R ++ R8) Φ → Ctx W w7 (R4 ++ R8) Φ5) ∧ I3 0 1 R4 Φ5 k6) ∧ ∀ (n9 n10 : Int) (R11 : List Own) (I12 : List Nat → World → Prop) (k13 : Nat), Stable I12 → I3 n9 n10 R11
  I12 k13 → Br (decide (n10 < (↑s.size : Int))) (∀ (w14 : World) (R15 : List Own), Ctx W w14 (R11 ++ R15) I12 → ∃ (u16 : UInt8), (0 ≤ n10 ∧ s.data.toList.get?Internal n10.toNat = some u16) ∧
  ∃ (u17 : UInt8), ((!decide ((↑u16.toNat : Int) < 48)) = true → 0 ≤ n10 ∧ s.data.toList.get?Internal n10.toNat = some u17) ∧ Br (decide ((↑u16.toNat : Int) < 48) || decide (57 < (↑u17.toNat
  : Int)) || decide (20 < n10)) (∀ (w18 : World) (R19 : List Own), Ctx W w18 (R11 ++ R19) I12 → J (Value.tuple #[Value.int IntKind.i64 0, Value.bool false]) w18) (∃ (u20 : UInt8), (0 ≤ n10 ∧
  s.data.toList.get?Internal n10.toNat = some u20) ∧ I64 (n10 + 1) ∧ ∃ (R21 : List Own), ∃ (Φ22 : PW), ∃ (k23 : Nat), Stable Φ22 ∧ (∀ (w24 : World) (R25 : List Own), Ctx W w24 (R11 ++ R25)
  I12 → Ctx W w24 (R21 ++ R25) Φ22) ∧ I3 (IntKind.i64.wrap (IntKind.i64.wrap (10 * n9) - IntKind.i64.wrap (IntKind.u8.wrap ((↑u20.toNat : Int) - 48)))) (n10 + 1) R21 Φ22 k23 ∧ k23 < k13)) (∀
  (w26 : World) (R27 : List Own), Ctx W w26 (R11 ++ R27) I12 → Calls Tryz.prog F.errataref01_Int #[Value.int IntKind.i64 n9] w26 fun (e28 : Ending) (w29 : World) => ∃ (s30 : ByteArray), e28 =
  Ending.returned (Value.string s30) ∧ ∃ (R31 : List Own), ∃ (Φ32 : PW), Stable Φ32 ∧ Ctx W w29 (R31 ++ R27) Φ32 ∧ (s.size + (ByteArray.mk #[OfNat.ofNat 59]).size).le 9223372036854775807 ∧ ∀
  (w33 : World) (R34 : List Own), Ctx W w33 (R31 ++ R34) Φ32 → J (Value.tuple #[Value.int IntKind.i64 n9, Value.bool (decide (s30 = s ++ ByteArray.mk #[OfNat.ofNat 59]))]) w33)) (exI fun (I35
  : Int → Int → List Own → PW → Nat → Prop) => (∃ (R36 : List Own), ∃ (Φ37 : PW), ∃ (k38 : Nat), Stable Φ37 ∧ (∀ (w39 : World) (R40 : List Own), Ctx W w39 (R ++ R40) Φ → Ctx W w39 (R36 ++
  R40) Φ37) ∧ I35 0 0 R36 Φ37 k38) ∧ ∀ (n41 n42 : Int) (R43 : List Own) (I44 : List Nat → World → Prop) (k45 : Nat), Stable I44 → I35 n41 n42 R43 I44 k45 → Br (decide (n42 < (↑s.size : Int)))
  (∀ (w46 : World) (R47 : List Own), Ctx W w46 (R43 ++ R47) I44 → ∃ (u48 : UInt8), (0 ≤ n42 ∧ s.data.toList.get?Internal n42.toNat = some u48) ∧ ∃ (u49 : UInt8), ((!decide ((↑u48.toNat : Int)
  < 48)) = true → 0 ≤ n42 ∧ s.data.toList.get?Internal n42.toNat = some u49) ∧ Br (decide ((↑u48.toNat : Int) < 48) || decide (57 < (↑u49.toNat : Int)) || decide (20 < n42)) (∀ (w50 : World)
  (R51 : List Own), Ctx W w50 (R43 ++ R51) I44 → J (Value.tuple #[Value.int IntKind.i64 0, Value.bool false]) w50) (∃ (u52 : UInt8), (0 ≤ n42 ∧ s.data.toList.get?Internal n42.toNat = some
  u52) ∧ I64 (n42 + 1) ∧ ∃ (R53 : List Own), ∃ (Φ54 : PW), ∃ (k55 : Nat), Stable Φ54 ∧ (∀ (w56 : World) (R57 : List Own), Ctx W w56 (R43 ++ R57) I44 → Ctx W w56 (R53 ++ R57) Φ54) ∧ I35
  (IntKind.i64.wrap (IntKind.i64.wrap (10 * n41) - IntKind.i64.wrap (IntKind.u8.wrap ((↑u52.toNat : Int) - 48)))) (n42 + 1) R53 Φ54 k55 ∧ k55 < k45)) (∀ (w58 : World) (R59 : List Own), Ctx W
  w58 (R43 ++ R59) I44 → Calls Tryz.prog F.errataref01_Int #[Value.int IntKind.i64 (IntKind.i64.wrap (0 - n41))] w58 fun (e60 : Ending) (w61 : World) => ∃ (s62 : ByteArray), e60 =
  Ending.returned (Value.string s62) ∧ ∃ (R63 : List Own), ∃ (Φ64 : PW), Stable Φ64 ∧ Ctx W w61 (R63 ++ R59) Φ64 ∧ (s.size + (ByteArray.mk #[OfNat.ofNat 59]).size).le 9223372036854775807 ∧ ∀
  (w65 : World) (R66 : List Own), Ctx W w65 (R63 ++ R66) Φ64 → J (Value.tuple #[Value.int IntKind.i64 (IntKind.i64.wrap (0 - n41)), Value.bool (decide (s62 = s ++ ByteArray.mk #[OfNat.ofNat
  59]))]) w65))

theorem Merrataref01_Back_run (s : ByteArray) {W w : World} {R : List Own} {Φ : PW} [Stable Φ] {J : Value → World → Prop} (c : Ctx W w R Φ) (h : Merrataref01_Back s W R Φ J) : Calls Tryz.prog F.errataref01_Back #[.string s] w fun e w' => ∃ v, e = .returned v ∧ J v w' :=
  vcFS_sound (H := { keep := some [0, 2, 3, 4, 5, 6, 14, 19, 35, 45], wrap := [37, 43, 47], loops := [(6, [(5, .one (.int .i64)), (6, .one (.int .i64))], [])] }) (by rw [show vcFS Tryz.prog W { keep := some [0, 2, 3, 4, 5, 6, 14, 19, 35, 45], wrap := [37, 43, 47], loops := [(6, [(5, .one (.int .i64)), (6, .one (.int .i64))], [])] } F.errataref01_Back #[.string s] R Φ J = Merrataref01_Back s W R Φ J by kernel_rfl]; exact h) c

end Go.Proofs.YtfpgbejdlikpgaaGreatDoor
end

/-
  The reference's reader of encodings, walked: it does what the program's reader does.
-/
section
set_option linter.unusedVariables false
set_option linter.unusedSimpArgs false
namespace Go.Proofs.YtfpgbejdlikpgaaGreatDoor
open Go.Vc


/-! ### plain -/
theorem getI : ∀ (l : List UInt8) (i : Nat), l.get?Internal i = l[i]?
  | [], _ => rfl
  | _ :: _, 0 => rfl
  | x :: l, i + 1 => by
    show l.get?Internal i = (x :: l)[i + 1]?
    rw [getI l i]; rfl
/-- a reader that has failed has nothing left -/
def RdOk (st : RdS) : Prop := st.2 = true → st.1 = []
theorem rdOk0 (l : List UInt8) : RdOk (l, false) := fun h => by cases h
theorem rdOkF : RdOk ([], true) := fun _ => rfl
theorem numP_nil (e : UInt8) (least : Int) : numP e least [] = none := by
  unfold numP
  simp [Lib.indexByte]
theorem stepN_ok {e : UInt8} {least : Int} {st : RdS} (h : RdOk st) : RdOk (stepN e least st).2 := by
  unfold stepN
  cases hn : numP e least st.1 with
  | none => exact rdOkF
  | some x =>
    obtain ⟨n, r⟩ := x
    intro hb
    have hb : st.2 = true := hb
    rw [h hb, numP_nil] at hn
    cases hn
theorem stepC_ok {c : UInt8} {st : RdS} (h : RdOk st) : RdOk (stepC c st) := by
  obtain ⟨l, b⟩ := st
  cases l with
  | nil => exact rdOkF
  | cons x r =>
    unfold stepC
    simp only
    split
    · intro hb
      have := h hb
      cases this
    · exact rdOkF
theorem rdInt_ok {st : RdS} (h : RdOk st) : RdOk (rdInt st).2 := stepN_ok h
theorem rdNat_ok {st : RdS} (h : RdOk st) : RdOk (rdNat st).2 := stepN_ok h
theorem stepT_ok {st : RdS} (h : RdOk st) : RdOk (stepT st).2 := by
  unfold stepT
  simp only
  split
  · exact rdOkF
  · refine stepC_ok fun hb => ?_
    have := stepN_ok (e := 58) (least := 0) h hb
    simp only
    rw [this, List.drop_nil]

/-- the digits of a number behind its sign -/
theorem itoa_digs {l : List UInt8} {f : Nat} (hf : f = 1 ∧ l[0]? = some 45 ∨ f = 0 ∧ l[0]? ≠ some 45) {n : Int} (hn : I64 n) (e : l = Lib.itoa n) : ∃ u : Nat, l.drop f = Lib.decDigits u ∧ u ≤ 9223372036854775808 ∧ n = (if f = 1 then -(u : Int) else u) := by
  unfold I64 at hn
  unfold Lib.itoa at e
  split at e
  · rename_i h
    rcases hf with ⟨rfl, h0⟩ | ⟨rfl, h0⟩
    · exact ⟨n.natAbs, by rw [e]; rfl, by omega, by rw [if_pos rfl]; omega⟩
    · rw [e] at h0; exact absurd rfl h0
  · rename_i h
    rcases hf with ⟨rfl, h0⟩ | ⟨rfl, h0⟩
    · have hd := digits_chars n.toNat 45 (by rw [← e]; exact List.mem_of_getElem? h0)
      exact absurd hd.1 (by decide)
    · exact ⟨n.toNat, by rw [e]; rfl, by omega, by rw [if_neg (by decide)]; omega⟩
theorem digV_pre (D : List UInt8) (k : Nat) : digV 0 (D.take k) ≤ digV 0 D := by
  have h := digV_mono (D.drop k) (digV 0 (D.take k))
  have e : digV (digV 0 (D.take k)) (D.drop k) = digV 0 D := by
    unfold digV
    rw [← List.foldl_append, List.take_append_drop]
  omega
theorem u8_dig {c : UInt8} (h : 48 ≤ c.toNat ∧ c.toNat ≤ 57) : IntKind.i64.wrap (IntKind.u8.wrap ((c.toNat : Int) - 48)) = ((c.toNat - 48 : Nat) : Int) := by
  have e : ((c.toNat : Int) - 48) = ((c.toNat - 48 : Nat) : Int) := by omega
  rw [e]
  have h2 : IntKind.u8.wrap ((c.toNat - 48 : Nat) : Int) = ((c.toNat - 48 : Nat) : Int) := by simp [IntKind.wrap, IntKind.signed, IntKind.bits]; omega
  rw [h2, i64_wrap (by unfold I64; omega)]
theorem wrap_i64 (x : Int) : I64 (IntKind.i64.wrap x) := by
  unfold I64
  simp [IntKind.wrap, IntKind.signed, IntKind.bits]
  split <;> omega

/-- what is known while a number's digits are added -/
def BackI (l : List UInt8) (f j : Nat) (acc : Int) : Prop := f ≤ j ∧ j ≤ l.length ∧ I64 acc ∧ ∀ n, I64 n → l = Lib.itoa n → acc = -((digV 0 ((l.drop f).take (j - f)) : Nat) : Int)
theorem backI0 {l : List UInt8} {f : Nat} (h : f ≤ l.length) : BackI l f f 0 := ⟨Nat.le_refl _, h, by unfold I64; decide, fun n _ _ => by rw [Nat.sub_self, List.take_zero]; rfl⟩
theorem back_dig {l : List UInt8} {f j : Nat} (hf : f = 1 ∧ l[0]? = some 45 ∨ f = 0 ∧ l[0]? ≠ some 45) (hfj : f ≤ j) {c : UInt8} (hc : l[j]? = some c) {n : Int} (hn : I64 n) (e : l = Lib.itoa n) : (48 ≤ c.toNat ∧ c.toNat ≤ 57) ∧ j ≤ 20 := by
  obtain ⟨u, hu, _, _⟩ := itoa_digs hf hn e
  refine ⟨digits_chars u c ?_, ?_⟩
  · rw [← hu]
    refine List.mem_of_getElem? (i := j - f) ?_
    rw [List.getElem?_drop, show f + (j - f) = j by omega]
    exact hc
  · have := itoa_len hn
    rw [← e] at this
    have := (List.getElem?_eq_some_iff.1 hc).1
    omega
theorem backI_step {l : List UInt8} {f j : Nat} {acc : Int} (hf : f = 1 ∧ l[0]? = some 45 ∨ f = 0 ∧ l[0]? ≠ some 45) (h : BackI l f j acc) {c : UInt8} (hc : l[j]? = some c) : BackI l f (j + 1) (IntKind.i64.wrap (IntKind.i64.wrap (10 * acc) - IntKind.i64.wrap (IntKind.u8.wrap ((c.toNat : Int) - 48)))) := by
  obtain ⟨h1, h2, h3, h4⟩ := h
  have hjl := (List.getElem?_eq_some_iff.1 hc).1
  refine ⟨by omega, by omega, wrap_i64 _, fun n hn e => ?_⟩
  have h5 := h4 n hn e
  obtain ⟨u, hu, hub, _⟩ := itoa_digs hf hn e
  obtain ⟨hd, _⟩ := back_dig hf h1 hc hn e
  have hs : (l.drop f).take (j + 1 - f) = (l.drop f).take (j - f) ++ [c] := by
    rw [show j + 1 - f = (j - f) + 1 by omega, List.take_add_one, List.getElem?_drop, show f + (j - f) = j by omega, hc]
    rfl
  have hpre := digV_pre (l.drop f) (j + 1 - f)
  rw [hu] at hpre
  rw [digV_dec u] at hpre
  rw [← hu, hs, digV_snoc] at hpre
  rw [hs, digV_snoc, h5, u8_dig hd]
  rw [i64_wrap (n := 10 * -((digV 0 ((l.drop f).take (j - f)) : Nat) : Int)) (by unfold I64; omega)]
  rw [i64_wrap (by unfold I64; omega)]
  omega
theorem backI_end {l : List UInt8} {f j : Nat} {acc : Int} (hf : f = 1 ∧ l[0]? = some 45 ∨ f = 0 ∧ l[0]? ≠ some 45) (h : BackI l f j acc) (hj : l.length ≤ j) {n : Int} (hn : I64 n) (e : l = Lib.itoa n) : n = (if f = 1 then acc else IntKind.i64.wrap (0 - acc)) := by
  obtain ⟨h1, h2, h3, h4⟩ := h
  have h5 := h4 n hn e
  obtain ⟨u, hu, hub, hn2⟩ := itoa_digs hf hn e
  rw [List.take_of_length_le (by rw [List.length_drop]; omega), hu, digV_dec] at h5
  rcases hf with ⟨rfl, _⟩ | ⟨rfl, _⟩
  · rw [if_pos rfl] at hn2 ⊢
    omega
  · rw [if_neg (by decide)] at hn2 ⊢
    unfold I64 at hn
    rw [h5, i64_wrap (by unfold I64; omega)]
    omega
theorem intB_semi {n : Int} {l : List UInt8} : (intB n = bs l ++ ByteArray.mk #[59]) ↔ l = Lib.itoa n := by
  have e1 : (intB n).data.toList = Lib.itoa n ++ [59] := by unfold intB numB; simp [ByteArray.data_append]
  have e2 : (bs l ++ ByteArray.mk #[59]).data.toList = l ++ [59] := by simp [bs, ByteArray.data_append]
  constructor
  · intro h
    have h2 : (intB n).data.toList = (bs l ++ ByteArray.mk #[59]).data.toList := by rw [h]
    rw [e1, e2] at h2
    exact (List.append_cancel_right h2).symm
  · intro h
    apply ByteArray.ext
    apply Array.toList_inj.1
    rw [e1, e2, h]

section
variable {W w : World} {R G S : List Own} {Φ : PW} {b : Nat} {st : RdS}

theorem Back_to [Stable Φ] (l : List UInt8) (hl : l.length ≤ 1000000000) (c : Ctx W w (R ++ G) Φ) {K : Int → Bool → List Own → PW → Prop}
    (h1 : ∀ n, I64 n → l = Lib.itoa n → K n true R Φ) (h0 : (∀ n, I64 n → l ≠ Lib.itoa n) → ∀ m, K m false R Φ) :
    Calls Tryz.prog F.errataref01_Back #[.string (bs l)] w fun e w' => ∃ n ok, e = .returned (.tuple #[.int .i64 n, .bool ok]) ∧ ∃ R' Φ', Stable Φ' ∧ Ctx W w' (R' ++ G) Φ' ∧ K n ok R' Φ' := by
  refine (Merrataref01_Back_run (bs l) (J := fun u w' => ∃ n ok, (Ending.returned u) = .returned (.tuple #[.int .i64 n, .bool ok]) ∧ ∃ R' Φ', Stable Φ' ∧ Ctx W w' (R' ++ G) Φ' ∧ K n ok R' Φ') (R := R ++ G) c ?_).mono fun e w' ⟨v, he, hj⟩ => by rw [he]; exact hj
  clear c
  have hsz : (bs l).size = l.length := bs_size l
  have body : ∀ (f : Nat), (f = 1 ∧ l[0]? = some 45 ∨ f = 0 ∧ l[0]? ≠ some 45) → ∀ (n : Int), I64 n → (∀ m, I64 m → l = Lib.itoa m → m = n) → ∀ {w : World} {G2 : List Own}, Ctx W w ((R ++ G) ++ G2) Φ →
      Calls Tryz.prog F.errataref01_Int #[.int .i64 n] w fun e28 w29 => ∃ (s30 : ByteArray), e28 = .returned (.string s30) ∧ ∃ (R31 : List Own), ∃ (Φ32 : PW), Stable Φ32 ∧ Ctx W w29 (R31 ++ G2) Φ32 ∧ ((bs l).size + (ByteArray.mk #[OfNat.ofNat 59]).size).le 9223372036854775807 ∧ ∀ (w33 : World) (R34 : List Own), Ctx W w33 (R31 ++ R34) Φ32 →
        ∃ n' ok, (Ending.returned (Value.tuple #[.int .i64 n, .bool (decide (s30 = bs l ++ ByteArray.mk #[OfNat.ofNat 59]))])) = .returned (.tuple #[.int .i64 n', .bool ok]) ∧ ∃ R' Φ', Stable Φ' ∧ Ctx W w33 (R' ++ G) Φ' ∧ K n' ok R' Φ' := fun f hf n hn hu {w G2} cx =>
    (Gives.in (Int01_g n hn)).toS cx ⟨by rw [hsz]; show l.length + 1 ≤ 9223372036854775807; omega, fun w G3 cx => ⟨n, _, rfl, R, Φ, inferInstance, cx.left, by
      by_cases he : l = Lib.itoa n
      · rw [decide_eq_true (intB_semi.2 he)]; exact h1 n hn he
      · rw [decide_eq_false fun h => he (intB_semi.1 h)]
        exact h0 (fun m hm e => he (by rw [← hu m hm e]; exact e)) n⟩⟩
  have bad : (∀ n, I64 n → l ≠ Lib.itoa n) → ∀ {w : World} {G2 : List Own}, Ctx W w ((R ++ G) ++ G2) Φ → ∃ n' ok, (Ending.returned (Value.tuple #[.int .i64 0, .bool false])) = .returned (.tuple #[.int .i64 n', .bool ok]) ∧ ∃ R' Φ', Stable Φ' ∧ Ctx W w (R' ++ G) Φ' ∧ K n' ok R' Φ' := fun h {w G2} cx => ⟨0, false, rfl, R, Φ, inferInstance, cx.left, h0 h 0⟩
  refine fun w G2 cx => ⟨l[0]?.getD 0, fun h => ⟨by decide, ?_⟩, ?_⟩
  · have h := of_decide_eq_true h
    rw [hsz] at h
    rw [bs_list, getI, List.getElem?_eq_getElem (by omega)]; rfl
  clear cx
  have hbyte : ∀ {j : Nat}, j < l.length → (bs l).data.toList.get?Internal ((j : Int)).toNat = some (l[j]?.getD 0) ∧ l[j]? = some (l[j]?.getD 0) := fun {j} hj => by
    rw [bs_list, getI, Int.toNat_natCast, List.getElem?_eq_getElem hj]
    exact ⟨rfl, rfl⟩
  refine Br.intro (fun hs => ?_) (fun hs => ?_)
  · rw [Bool.and_eq_true, hsz] at hs
    have h0l := of_decide_eq_true hs.1
    have hc0 := of_decide_eq_true hs.2
    have hf : (1 = 1 ∧ l[0]? = some 45 ∨ 1 = 0 ∧ l[0]? ≠ some 45) := .inl ⟨rfl, by
      rw [List.getElem?_eq_getElem (by omega)] at hc0 ⊢
      congr 1
      apply UInt8.toNat_inj.1
      simp only [Option.getD_some] at hc0
      exact Int.ofNat.inj hc0⟩
    refine exI_mk (fun acc jI R' Φ' k => ∃ j : Nat, jI = j ∧ BackI l 1 j acc ∧ R' = R ++ G ∧ Φ' = Φ ∧ k = l.length - j) ⟨⟨_, _, _, inferInstance, fun w G cx => cx, 1, rfl, backI0 (by omega), rfl, rfl, rfl⟩, ?_⟩
    rintro acc jI R1 Φ1 k _ ⟨j, rfl, hB, rfl, rfl, rfl⟩
    rw [hsz]
    refine Br.intro (fun hlt => fun w G2 cx => ?_) (fun hge => fun w G2 cx => ?_)
    · have hlt : j < l.length := by have := of_decide_eq_true hlt; omega
      obtain ⟨hb1, hb2⟩ := hbyte hlt
      refine ⟨_, ⟨by omega, hb1⟩, _, fun _ => ⟨by omega, hb1⟩, Br.intro (fun h => fun w G2 cx => bad (fun n hn e => ?_) cx) (fun h => ⟨_, ⟨by omega, hb1⟩, by unfold I64; omega, _, _, l.length - (j + 1), inferInstance, fun w G cx => cx, ⟨j + 1, by omega, backI_step hf hB hb2, rfl, rfl, rfl⟩, by omega⟩)⟩
      obtain ⟨⟨g1, g2⟩, g3⟩ := back_dig hf hB.1 hb2 hn e
      rw [decide_eq_false (by omega), decide_eq_false (by omega), decide_eq_false (by omega)] at h
      cases h
    · have hge := of_decide_eq_false hge
      exact body 1 hf acc hB.2.2.1 (fun m hm e => by have := backI_end hf hB (by omega) hm e; rw [if_pos rfl] at this; exact this) cx
  · have hf : (0 = 1 ∧ l[0]? = some 45 ∨ 0 = 0 ∧ l[0]? ≠ some 45) := .inr ⟨rfl, fun e => by
      have h0l := (List.getElem?_eq_some_iff.1 e).1
      rw [hsz, e, decide_eq_true (by omega), decide_eq_true (by rfl)] at hs
      cases hs⟩
    refine exI_mk (fun acc jI R' Φ' k => ∃ j : Nat, jI = j ∧ BackI l 0 j acc ∧ R' = R ++ G ∧ Φ' = Φ ∧ k = l.length - j) ⟨⟨_, _, _, inferInstance, fun w G cx => cx, 0, rfl, backI0 (Nat.zero_le _), rfl, rfl, rfl⟩, ?_⟩
    rintro acc jI R1 Φ1 k _ ⟨j, rfl, hB, rfl, rfl, rfl⟩
    rw [hsz]
    refine Br.intro (fun hlt => fun w G2 cx => ?_) (fun hge => ?_)
    · have hlt : j < l.length := by have := of_decide_eq_true hlt; omega
      obtain ⟨hb1, hb2⟩ := hbyte hlt
      refine ⟨_, ⟨by omega, hb1⟩, _, fun _ => ⟨by omega, hb1⟩, Br.intro (fun h => fun w G2 cx => bad (fun n hn e => ?_) cx) (fun h => ⟨_, ⟨by omega, hb1⟩, by unfold I64; omega, _, _, l.length - (j + 1), inferInstance, fun w G cx => cx, ⟨j + 1, by omega, backI_step hf hB hb2, rfl, rfl, rfl⟩, by omega⟩)⟩
      obtain ⟨⟨g1, g2⟩, g3⟩ := back_dig hf hB.1 hb2 hn e
      rw [decide_eq_false (by omega), decide_eq_false (by omega), decide_eq_false (by omega)] at h
      cases h
    · have hge := of_decide_eq_false hge
      exact fun w G2 cx => body 0 hf (IntKind.i64.wrap (0 - acc)) (wrap_i64 _) (fun m hm e => by have := backI_end hf hB (by omega) hm e; rw [if_neg (by decide)] at this; exact this) cx
end
end Go.Proofs.YtfpgbejdlikpgaaGreatDoor
end

/-
  Messages and channels as strings, in plain Lean: how they are read.
-/
section
set_option linter.unusedVariables false
set_option linter.unusedSimpArgs false
namespace Go.Proofs.YtfpgbejdlikpgaaGreatDoor
open Go.Vc

/-! ### a list that is consolidated is its own sum -/
theorem cmpD_trans {x y z : DeltaD} (h1 : cmpD x y < 0) (h2 : cmpD y z < 0) : cmpD x z < 0 := by
  rw [cmpD_key] at *
  exact cmpK_cmp.trans _ _ _ h1 h2
theorem cons_at {l : List DeltaD} (h : consolidated l = true) {j : Nat} (hj : j < l.length) : consAt l j = true := by
  unfold consolidated at h
  rw [List.all_eq_true] at h
  exact h j (List.mem_range.2 hj)
theorem cons_lt {l : List DeltaD} (h : consolidated l = true) : ∀ (j i : Nat) (hj : j < l.length) (hij : i < j), cmpD (l[i]'(by omega)) l[j] < 0
  | 0, i, hj, hij => by omega
  | j + 1, i, hj, hij => by
    have h1 := cons_at h hj
    unfold consAt at h1
    rw [List.getElem?_eq_getElem hj] at h1
    simp only [List.getElem?_eq_getElem (show j < l.length by omega), Bool.and_eq_true, decide_eq_true_eq] at h1
    by_cases e : i = j
    · subst e; exact h1.2
    · exact cmpD_trans (cons_lt h j i (by omega) (by omega)) h1.2
theorem cons_norm {l : List DeltaD} (h : consolidated l = true) (hm : Mach l) : Norm l := by
  refine ⟨List.pairwise_iff_getElem.2 fun i j hi hj hij => cons_lt h j i hj hij, fun x hx => ?_, fun x hx => (hm x hx).1.2⟩
  obtain ⟨j, hj, rfl⟩ := List.getElem_of_mem hx
  have h1 := cons_at h hj
  unfold consAt at h1
  rw [List.getElem?_eq_getElem hj] at h1
  simp only [Bool.and_eq_true, decide_eq_true_eq] at h1
  exact h1.1
theorem Good.self {m : MsgD} (h : Good m) : consP m.deltas = m.deltas := consP_self (cons_norm (right_cons h.right) h.mach)

/-! ### reading a message -/
def intsR : Nat → RdS → List Int × RdS
  | 0, st => ([], st)
  | k + 1, st => ((rdInt st).1 :: (intsR k (rdInt st).2).1, (intsR k (rdInt st).2).2)
def mk5 (ns : List Int) (ds : List DeltaD) : MsgD := ⟨ns.getD 0 0, ns.getD 1 0, ns.getD 2 0, ns.getD 3 0, ns.getD 4 0, ds⟩
def numR (l : List UInt8) : List Int := (intsR 5 (l, false)).1
def datR (l : List UInt8) : List UInt8 := (stepT (intsR 5 (l, false)).2).1.data.toList
def endR (l : List UInt8) : RdS := (stepT (intsR 5 (l, false)).2).2
def finR (l : List UInt8) (m : MsgD) : Option MsgD := if rdDone (endR l) = true ∧ rightM m = true then some m else none
def readMsg (l : List UInt8) : Option MsgD := match readP (datR l) with
  | none => none
  | some ds => finR l (mk5 (numR l) ds)
/-- what the readers of deltas ask for -/
def LFit (l : List UInt8) : Prop := ∀ out, readAll l = some out → out.length ≤ 400 ∧ ∀ x ∈ out, Fit x
def MFit (l : List UInt8) : Prop := l.length ≤ 1000000 ∧ LFit (datR l)

theorem numL_app (a b : ByteArray) : (a ++ b).data.toList = a.data.toList ++ b.data.toList := by simp [ByteArray.data_append]
theorem msgB_list (m : MsgD) (t : List UInt8) : (msgB m).data.toList ++ t = (intB m.kind).data.toList ++ ((intB m.node).data.toList ++ ((intB m.inp).data.toList ++ ((intB m.bucket).data.toList ++ ((intB m.n).data.toList ++ ((textB (bs (bytesL m.deltas))).data.toList ++ t))))) := by
  unfold msgB
  simp only [numL_app, List.append_assoc]
theorem five_read {m : MsgD} (h : m.Ok) (t : List UInt8) : intsR 5 ((msgB m).data.toList ++ t, false) = ([m.kind, m.node, m.inp, m.bucket, m.n], ((textB (bs (bytesL m.deltas))).data.toList ++ t, false)) := by
  rw [msgB_list]
  simp only [intsR]
  rw [int_read h.kind]
  simp only
  rw [int_read h.node]
  simp only
  rw [int_read h.inp]
  simp only
  rw [int_read h.bucket]
  simp only
  rw [int_read h.n]
theorem Good.fitD {m : MsgD} (h : Good m) : ∀ x ∈ consP m.deltas, FitD x := fun x hx => by
  obtain ⟨h1, h2, h3, h4⟩ := h.row hx
  exact ⟨h1, fun v hv => ⟨(h4 v hv).1, Nat.le_trans (h4 v hv).2 (by decide)⟩, Nat.le_trans h3 (by decide), Nat.le_trans h2 (by decide)⟩
theorem Good.read5 {m : MsgD} (h : Good m) : intsR 5 ((msgB m).data.toList, false) = ([m.kind, m.node, m.inp, m.bucket, m.n], ((textB (bs (bytesL m.deltas))).data.toList, false)) := by
  have h1 := five_read h.ok []
  rw [List.append_nil, List.append_nil] at h1
  exact h1
theorem Good.readT {m : MsgD} (h : Good m) : stepT (intsR 5 ((msgB m).data.toList, false)).2 = (bs (bytesL m.deltas), ([], false)) := by
  have hb := h.bytes
  have h2 := text_read (s := bs (bytesL m.deltas)) (r := []) (by rw [bs_size]; omega)
  rw [List.append_nil] at h2
  rw [h.read5]
  exact h2
theorem Good.dat {m : MsgD} (h : Good m) : datR (msgB m).data.toList = bytesL m.deltas := by
  unfold datR
  rw [h.readT, bs_list]
theorem Good.conLen {m : MsgD} (h : Good m) : (consP m.deltas).length ≤ 8 := Nat.le_trans (consP_len _) (right_fits h.right).1
theorem Good.read {m : MsgD} (h : Good m) : readMsg (msgB m).data.toList = some m := by
  have hn := h.conLen
  unfold readMsg
  rw [h.dat, read_bytes h.fitD (by omega)]
  simp only
  rw [h.self]
  have e1 : mk5 (numR (msgB m).data.toList) m.deltas = m := by
    unfold numR
    rw [h.read5]
    rfl
  rw [e1]
  unfold finR endR
  rw [h.readT]
  exact if_pos ⟨rfl, h.right⟩
theorem Good.mfit {m : MsgD} (h : Good m) : MFit (msgB m).data.toList := by
  have hn := h.conLen
  have hs := h.msg
  refine ⟨by rw [list_size]; omega, ?_⟩
  rw [h.dat]
  intro out ho
  rw [all_read h.fitD (by omega)] at ho
  cases ho
  exact ⟨by omega, fun x hx => by
    obtain ⟨_, _, h3, h4⟩ := h.row hx
    exact ⟨by omega, fun v hv => Nat.le_trans (h4 v hv).2 (by decide)⟩⟩
theorem short_fit {l : List UInt8} (h : l.length ≤ 1000) : LFit l := fun out ho => by
  obtain ⟨h1, h2⟩ := readAll_fit ho
  exact ⟨by omega, fun x hx => ⟨by have := (h2 x hx).1; omega, fun v hv => by have := (h2 x hx).2 v hv; omega⟩⟩
theorem intsR_len : ∀ (k : Nat) (st : RdS), (intsR k st).2.1.length ≤ st.1.length
  | 0, st => Nat.le_refl _
  | k + 1, st => by
    have h1 : (rdInt st).2.1.length ≤ st.1.length := stepN_len 59 (-9223372036854775808) st
    have h2 := intsR_len k (rdInt st).2
    show (intsR k (rdInt st).2).2.1.length ≤ _
    omega
theorem short_mfit {l : List UInt8} (h : l.length ≤ 1000) : MFit l := by
  refine ⟨by omega, short_fit ?_⟩
  have h1 := (stepT_len (intsR 5 (l, false)).2).2
  have h2 : (intsR 5 (l, false)).2.1.length ≤ l.length := intsR_len 5 (l, false)
  unfold datR
  rw [list_size]
  omega
theorem five_is {st : RdS} (h : (intsR 5 st).2.2 = false) : st.2 = false ∧ st.1 = (intB ((intsR 5 st).1.getD 0 0)).data.toList ++ ((intB ((intsR 5 st).1.getD 1 0)).data.toList ++ ((intB ((intsR 5 st).1.getD 2 0)).data.toList ++ ((intB ((intsR 5 st).1.getD 3 0)).data.toList ++ ((intB ((intsR 5 st).1.getD 4 0)).data.toList ++ (intsR 5 st).2.1)))) := by
  simp only [intsR] at h ⊢
  obtain ⟨h4, _, e5⟩ := int_is h
  obtain ⟨h3, _, e4⟩ := int_is h4
  obtain ⟨h2, _, e3⟩ := int_is h3
  obtain ⟨h1, _, e2⟩ := int_is h2
  obtain ⟨h0, _, e1⟩ := int_is h1
  refine ⟨h0, ?_⟩
  simp only [List.getD_cons_zero, List.getD_cons_succ]
  rw [← e5, ← e4, ← e3, ← e2]
  exact e1
theorem readMsg_is {l : List UInt8} {m : MsgD} (h : readMsg l = some m) : (msgB m).data.toList = l ∧ rightM m = true := by
  unfold readMsg at h
  split at h
  · cases h
  rename_i ds hds
  unfold finR at h
  split at h
  · rename_i hd
    have e0 := Option.some.inj h
    obtain ⟨hd, hr⟩ := hd
    rw [e0] at hr
    refine ⟨?_, hr⟩
    have hd := done_is hd
    unfold endR at hd
    obtain ⟨h1, h2⟩ := text_is (st := (intsR 5 (l, false)).2) (by rw [hd])
    rw [hd, List.append_nil] at h2
    obtain ⟨_, h3⟩ := five_is h1
    have h4 := (read_is hds).2.2
    have h5 := msgB_list m []
    rw [List.append_nil, List.append_nil] at h5
    rw [h5, ← e0]
    unfold mk5 numR
    simp only
    rw [h4]
    unfold datR
    rw [show bs (stepT (intsR 5 (l, false)).2).1.data.toList = (stepT (intsR 5 (l, false)).2).1 from bs_of _, ← h2]
    exact h3.symm
  · cases h

/-! ### reading a channel: the program -/
theorem readMsg_nil : readMsg [] = none := by
  have h1 : ∀ b, rdInt ([], b) = (0, ([], true)) := fun b => stepN_none (numP_nil _ _)
  have h5 : (intsR 5 (([] : List UInt8), false)).2 = ([], true) := by
    simp only [intsR]
    rw [h1, h1, h1, h1, h1]
  have he : endR [] = ([], true) := by
    unfold endR
    rw [h5, stepT_bad rfl]
  unfold readMsg
  split
  · rfl
  · unfold finR
    rw [he]
    exact if_neg fun h => by cases h.1
theorem bad_msg {st : RdS} (h : st.1 = []) : readMsg (stepT st).1.data.toList = none := by
  have h2 := (stepT_len st).2
  rw [h, List.length_nil] at h2
  have h3 : (stepT st).1.data.toList = [] := List.eq_nil_of_length_eq_zero (by rw [list_size]; omega)
  rw [h3]
  exact readMsg_nil
attribute [local irreducible] readMsg stepT rdInt
def loopC : Nat → RdS → List MsgD → Option (List MsgD × RdS)
  | 0, st, acc => some (acc, st)
  | k + 1, st, acc => (readMsg (stepT st).1.data.toList).bind fun m => loopC k (stepT st).2 (acc ++ [m])
theorem loopC_z (st : RdS) (acc : List MsgD) : loopC 0 st acc = some (acc, st) := rfl
theorem loopC_n {k : Nat} {st : RdS} {acc : List MsgD} (h : readMsg (stepT st).1.data.toList = none) : loopC (k + 1) st acc = none := by
  show (readMsg (stepT st).1.data.toList).bind _ = none
  rw [h]
  rfl
theorem loopC_s {k : Nat} {st : RdS} {acc : List MsgD} {m : MsgD} (h : readMsg (stepT st).1.data.toList = some m) : loopC (k + 1) st acc = loopC k (stepT st).2 (acc ++ [m]) := by
  show (readMsg (stepT st).1.data.toList).bind _ = _
  rw [h]
  rfl
def sentR (l : List UInt8) : Int := (rdInt (l, false)).1
def numC (l : List UInt8) : Int := (rdNat (rdInt (l, false)).2).1
def stC (l : List UInt8) : RdS := (rdNat (rdInt (l, false)).2).2
def accC (l : List UInt8) (q : List MsgD) (st : RdS) : Bool := rdDone st && decide ((q.length : Int) = numC l) && decide (numC l ≤ sentR l) && decide (sentR l ≤ 1099511627776)
def readC (l : List UInt8) : Option (List MsgD) := match loopC (min (numC l) 4).toNat (stC l) [] with
  | none => none
  | some (q, st) => if accC l q st = true then some q else none
def CFit : Nat → RdS → Prop
  | 0, _ => True
  | k + 1, st => MFit (stepT st).1.data.toList ∧ CFit k (stepT st).2
theorem loopC_len : ∀ (k : Nat) (st : RdS) (acc q : List MsgD) (st' : RdS), loopC k st acc = some (q, st') → q.length = acc.length + k
  | 0, st, acc, q, st', h => by
    rw [loopC_z, Option.some.injEq, Prod.mk.injEq] at h
    rw [← h.1, Nat.add_zero]
  | k + 1, st, acc, q, st', h => by
    cases hm : readMsg (stepT st).1.data.toList with
    | none => rw [loopC_n hm] at h; cases h
    | some m =>
      rw [loopC_s hm] at h
      have := loopC_len k _ _ _ _ h
      rw [this, List.length_append, List.length_singleton]
      omega
theorem short_cfit : ∀ (k : Nat) (st : RdS), st.1.length ≤ 1000 → CFit k st
  | 0, _, _ => trivial
  | k + 1, st, h => by
    obtain ⟨h1, h2⟩ := stepT_len st
    exact ⟨short_mfit (by rw [list_size]; omega), short_cfit k _ (by omega)⟩
theorem good_cfit : ∀ (q : List MsgD), (∀ m ∈ q, Good m) → CFit q.length (qL q, false)
  | [], _ => trivial
  | m :: q, h => by
    have hg := h m (by simp)
    have ht := hg.text
    have hm := hg.msg
    have e : stepT (qL (m :: q), false) = (msgB m, (qL q, false)) := by
      rw [qL_cons]
      exact text_read (by omega)
    show MFit (stepT (qL (m :: q), false)).1.data.toList ∧ CFit q.length (stepT (qL (m :: q), false)).2
    rw [e]
    exact ⟨hg.mfit, good_cfit q fun y hy => h y (by simp [hy])⟩
theorem good_loop : ∀ (q acc : List MsgD), (∀ m ∈ q, Good m) → loopC q.length (qL q, false) acc = some (acc ++ q, ([], false))
  | [], acc, _ => by
    rw [List.append_nil, List.length_nil, loopC_z]
    rfl
  | m :: q, acc, h => by
    have hg := h m (by simp)
    have hm := hg.msg
    have e : stepT (qL (m :: q), false) = (msgB m, (qL q, false)) := by
      rw [qL_cons]
      exact text_read (by omega)
    have h1 := good_loop q (acc ++ [m]) fun y hy => h y (by simp [hy])
    rw [List.append_assoc] at h1
    rw [List.length_cons, loopC_s (m := m) (by rw [e]; exact hg.read), e, h1]
    rfl
theorem chan_int {q : List MsgD} {sent : Nat} (hs : sent ≤ 1099511627776) : rdInt (chanL q sent, false) = ((sent : Int), ((natB q.length).data.toList ++ qL q, false)) := by
  unfold chanL headQ
  rw [List.append_assoc]
  exact int_read (by unfold I64; omega)
theorem chan_st {q : List MsgD} {sent : Nat} (hs : sent ≤ 1099511627776) (hq : q.length ≤ 4) : sentR (chanL q sent) = sent ∧ numC (chanL q sent) = q.length ∧ stC (chanL q sent) = (qL q, false) := by
  unfold sentR numC stC
  rw [chan_int hs]
  have h := nat_read (n := q.length) (r := qL q) (bad := false) (by omega)
  rw [show (((sent : Int), ((natB q.length).data.toList ++ qL q, false)) : Int × RdS).2 = ((natB q.length).data.toList ++ qL q, false) from rfl, h]
  exact ⟨rfl, rfl, rfl⟩
theorem chan_read {q : List MsgD} {sent : Nat} (hs : sent ≤ 1099511627776) (hq : q.length ≤ 4) (hqs : q.length ≤ sent) (hg : ∀ m ∈ q, Good m) : readC (chanL q sent) = some q := by
  obtain ⟨h1, h2, h3⟩ := chan_st hs hq
  have hn : (min (q.length : Int) 4).toNat = q.length := by omega
  unfold readC
  rw [h2, h3, hn, good_loop q [] hg]
  simp only
  rw [List.nil_append]
  unfold accC
  rw [h1, h2, decide_eq_true (show (q.length : Int) = q.length from rfl), decide_eq_true (show (q.length : Int) ≤ (sent : Int) by omega), decide_eq_true (show (sent : Int) ≤ 1099511627776 by omega)]
  rfl
theorem loop_is : ∀ (k : Nat) (st : RdS) (acc q : List MsgD) (st' : RdS), loopC k st acc = some (q, st') → st'.2 = false → st.2 = false ∧ ∃ r, q = acc ++ r ∧ st.1 = qL r ++ st'.1
  | 0, st, acc, q, st', h, hb => by
    rw [loopC_z, Option.some.injEq, Prod.mk.injEq] at h
    obtain ⟨rfl, rfl⟩ := h
    exact ⟨hb, [], by simp, rfl⟩
  | k + 1, st, acc, q, st', h, hb => by
    obtain ⟨m, hm⟩ : ∃ m, readMsg (stepT st).1.data.toList = some m := by
      cases hm : readMsg (stepT st).1.data.toList with
      | none => rw [loopC_n hm] at h; cases h
      | some m => exact ⟨m, rfl⟩
    rw [loopC_s hm] at h
    obtain ⟨h1, r, h2, h3⟩ := loop_is k _ _ _ _ h hb
    obtain ⟨h4, h5⟩ := text_is h1
    have h6 := (readMsg_is hm).1
    refine ⟨h4, m :: r, by rw [h2, List.append_assoc]; rfl, ?_⟩
    have e : msgB m = (stepT st).1 := by
      rw [← bs_of (msgB m), h6]
      exact bs_of _
    rw [h5, h3, qL_cons, e, List.append_assoc]
theorem readC_is {l : List UInt8} {q : List MsgD} (h : readC l = some q) : ∃ sent : Nat, sentR l = sent ∧ sent ≤ 1099511627776 ∧ q.length ≤ 4 ∧ numC l = q.length ∧ chanL q sent = l := by
  unfold readC at h
  split at h
  · cases h
  rename_i q' st hl
  split at h
  · rename_i ha
    have e := Option.some.inj h
    subst e
    unfold accC at ha
    simp only [Bool.and_eq_true, decide_eq_true_eq] at ha
    obtain ⟨⟨⟨h1, h2⟩, h3⟩, h4⟩ := ha
    have hd := done_is h1
    have hlen := loopC_len _ _ _ _ _ hl
    obtain ⟨h5, r, h6, h7⟩ := loop_is _ _ _ _ _ hl (by rw [hd])
    rw [List.nil_append] at h6
    subst h6
    rw [hd, List.append_nil] at h7
    obtain ⟨h8, _, h9, h10⟩ := nat_is (st := (rdInt (l, false)).2) h5
    obtain ⟨_, _, h11⟩ := int_is (st := (l, false)) h8
    have hnc : numC l = (rdNat (rdInt (l, false)).2).1 := rfl
    have hst : stC l = (rdNat (rdInt (l, false)).2).2 := rfl
    refine ⟨(sentR l).toNat, by omega, by omega, ?_, h2.symm, ?_⟩
    · rw [List.length_nil] at hlen
      omega
    · unfold chanL headQ
      rw [show (((sentR l).toNat : Nat) : Int) = sentR l by omega, h2, hnc, ← h7, List.append_assoc, hst, ← h10]
      exact h11.symm
  · cases h

/-! ### reading a channel: the reference accepts the same strings -/
def loopR : Nat → RdS → List MsgD → Option (List MsgD × RdS)
  | 0, st, acc => some (acc, st)
  | k + 1, st, acc => if st.1 = [] then some (acc, st) else (readMsg (stepT st).1.data.toList).bind fun m => loopR k (stepT st).2 (acc ++ [m])
def okR (l : List UInt8) : Bool := match loopR (numC l).toNat (stC l) [] with
  | none => false
  | some (q, st) => accC l q st && decide (numC l ≤ 4)
theorem loopR_z (st : RdS) (acc : List MsgD) : loopR 0 st acc = some (acc, st) := rfl
theorem loopR_n {k : Nat} {st : RdS} {acc : List MsgD} (h0 : st.1 ≠ []) (h : readMsg (stepT st).1.data.toList = none) : loopR (k + 1) st acc = none := by
  show (if st.1 = [] then some (acc, st) else (readMsg (stepT st).1.data.toList).bind _) = none
  rw [if_neg h0, h]
  rfl
theorem loopR_s {k : Nat} {st : RdS} {acc : List MsgD} {m : MsgD} (h0 : st.1 ≠ []) (h : readMsg (stepT st).1.data.toList = some m) : loopR (k + 1) st acc = loopR k (stepT st).2 (acc ++ [m]) := by
  show (if st.1 = [] then some (acc, st) else (readMsg (stepT st).1.data.toList).bind _) = _
  rw [if_neg h0, h]
  rfl
theorem loopR_e {k : Nat} {st : RdS} {acc : List MsgD} (h0 : st.1 = []) : loopR k st acc = some (acc, st) := by
  cases k with
  | zero => exact loopR_z st acc
  | succ k =>
    show (if st.1 = [] then some (acc, st) else (readMsg (stepT st).1.data.toList).bind _) = _
    rw [if_pos h0]
theorem loop_same : ∀ (k : Nat) (st : RdS) (acc : List MsgD), (loopR k st acc = loopC k st acc) ∨ (loopC k st acc = none ∧ ∃ q st', loopR k st acc = some (q, st') ∧ q.length < acc.length + k)
  | 0, st, acc => .inl rfl
  | k + 1, st, acc => by
    by_cases h : st.1 = []
    · exact .inr ⟨loopC_n (bad_msg h), acc, st, loopR_e h, by omega⟩
    · cases hm : readMsg (stepT st).1.data.toList with
      | none => exact .inl (by rw [loopC_n hm, loopR_n h hm])
      | some m =>
        rw [loopC_s hm, loopR_s h hm]
        rcases loop_same k (stepT st).2 (acc ++ [m]) with h1 | ⟨h1, q, st', h2, h3⟩
        · exact .inl h1
        · refine .inr ⟨h1, q, st', h2, ?_⟩
          rw [List.length_append, List.length_singleton] at h3
          omega
theorem ok_same (l : List UInt8) : okR l = (readC l).isSome := by
  have hnn : 0 ≤ numC l := (stepN_nonneg (e := 59) (.inr (.inl rfl)) (rdInt (l, false)).2).1
  by_cases h4 : numC l ≤ 4
  · have hk : (min (numC l) 4).toNat = (numC l).toNat := by omega
    unfold okR readC
    rw [hk, decide_eq_true h4]
    rcases loop_same (numC l).toNat (stC l) [] with h1 | ⟨h1, q, st', h2, h3⟩
    · rw [h1]
      split
      · rfl
      · rename_i q st hq
        split
        · rename_i ha
          rw [ha]; rfl
        · rename_i ha
          have ha : accC l q st = false := by simpa using ha
          rw [ha]; rfl
    · rw [h1, h2]
      simp only
      rw [List.length_nil] at h3
      unfold accC
      rw [decide_eq_false (show ¬ (q.length : Int) = numC l by omega)]
      simp
  · have e1 : okR l = false := by
      unfold okR
      split
      · rfl
      · rw [decide_eq_false h4, Bool.and_false]
    rw [e1]
    have e2 : readC l = none := by
      unfold readC
      split
      · rfl
      · rename_i q st hq
        have hlen := loopC_len _ _ _ _ _ hq
        rw [List.length_nil] at hlen
        unfold accC
        rw [decide_eq_false (show ¬ (q.length : Int) = numC l by omega)]
        simp
    rw [e2]
    rfl
end Go.Proofs.YtfpgbejdlikpgaaGreatDoor
end

