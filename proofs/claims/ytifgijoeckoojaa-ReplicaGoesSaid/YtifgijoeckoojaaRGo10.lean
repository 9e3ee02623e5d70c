/-
  For every input erratalaw08.ReplicaGoes returns true, does not panic, comes to an end, and leaves what came in as it was.
  Conditions: none beyond the given statement's own (ReplicaGoesSaid).
-/
import Derived.Test.YtifgijoeckoojaaRGo9
import Derived.Test.YtifgijoeckoojaaRGo7
import Derived.Test.YtifgijoeckoojaaRows

/-
  Liveness, plain: logs, terms and what leaders send stay small.
-/
section
set_option linter.unusedVariables false
set_option linter.unusedSimpArgs false
namespace Go.Proofs.Ytifgijoeckoojaa
open Go.Vc

structure RB (N : Nat) (B : Int) (r : Rep) : Prop where
  nx : r.role = 2 → ∀ f, r.mat f + 1 ≤ r.next f
  len : r.log.length ≤ N
  term : r.term ≤ B
def MB (N : Nat) (B : Int) (m : MsgR) : Prop := m.term ≤ B ∧ (m.kind = 2 → m.index.toNat + m.recs.length ≤ N)
structure CB (N : Nat) (B : Int) (C : Cl) : Prop where
  rep : ∀ j, j < 3 → RB N B (C.nd j).rep
  msg : ∀ m ∈ C.sent, MB N B m

theorem RB.more {N N' : Nat} {B B' : Int} {r : Rep} (h : RB N B r) (h1 : N ≤ N') (h2 : B ≤ B') : RB N' B' r := ⟨h.nx, Nat.le_trans h.len h1, Int.le_trans h.term h2⟩
theorem MB.more {N N' : Nat} {B B' : Int} {m : MsgR} (h : MB N B m) (h1 : N ≤ N') (h2 : B ≤ B') : MB N' B' m := ⟨Int.le_trans h.1 h2, fun hk => Nat.le_trans (h.2 hk) h1⟩
theorem CB.more {N N' : Nat} {B B' : Int} {C : Cl} (h : CB N B C) (h1 : N ≤ N') (h2 : B ≤ B') : CB N' B' C := ⟨fun j hj => (h.rep j hj).more h1 h2, fun m hm => (h.msg m hm).more h1 h2⟩

theorem ent_mb {N : Nat} {B : Int} {r : Rep} (ht : r.term ≤ B) (hl : r.log.length ≤ N) {k : Nat} (hn : r.next k ≤ r.log.length + 1) : MB N B (entriesOf r k) := by
  refine ⟨ht, fun _ => ?_⟩
  show (((r.next k - 1 : Nat)) : Int).toNat + ((r.log.drop (r.next k - 1)).take 8).length ≤ N
  rw [Int.toNat_natCast, List.length_take, List.length_drop]
  omega

theorem all_mb {N : Nat} {B : Int} {r : Rep} (ht : r.term ≤ B) (hl : r.log.length ≤ N) (hn : ∀ k, r.next k ≤ r.log.length + 1) : ∀ a ∈ allOf r, MB N B a := fun a ha => by
  unfold allOf at ha
  obtain ⟨k, _, rfl⟩ := List.mem_map.1 ha
  exact ent_mb ht hl (hn k)

theorem bare_mb {N : Nat} {B : Int} {m : MsgR} (h : m.term ≤ B) (hk : m.kind ≠ 2) : MB N B m := ⟨h, fun hh => absurd hh hk⟩

theorem turn_rb {N : Nat} {B : Int} {r : Rep} {m : MsgR} (h : RB N B r) (hm : m.term ≤ B) : RB N B (turnR r m) := by
  unfold turnR
  split
  · exact ⟨fun hr => (by cases (show (0 : Int) = 2 from hr)), h.len, hm⟩
  · exact h

theorem hear_rb {N : Nat} {B : Int} {r : Rep} {m : MsgR} (hw : r.Wf) (h : RB N B r) (hm : MB N B m) : RB N B (hearP r m).1 ∧ ∀ a ∈ (hearP r m).2.send, MB N B a := by
  cases hy : rightP r.id m with
  | false =>
    rw [hear_no hy]
    exact ⟨h, fun a ha => by cases ha⟩
  | true =>
    have hr := right_iff.1 hy
    obtain ⟨e1, e2⟩ := hear_out hr
    rw [e1, e2]
    have h1 := turn_rb (m := m) h hm.1
    have hw1 := turn_wf hw hr
    have hr1 : m.Right (turnR r m).id := by rw [(turn_same r m).1]; exact hr
    have hle : m.term ≤ (turnR r m).term := by rw [turn_term]; omega
    generalize turnR r m = r1 at h1 hw1 hr1 hle
    have hk := hr.kind
    have hcase : m.kind = 0 ∨ m.kind = 1 ∨ m.kind = 2 ∨ m.kind = 3 := by omega
    rcases hcase with hk | hk | hk | hk
    · rw [hear0 hk]
      obtain ⟨y, ey, _⟩ := vote_out r1 m
      rw [ey]
      refine ⟨?_, fun a ha => ?_⟩
      · unfold voteP
        split <;> exact ⟨h1.nx, h1.len, h1.term⟩
      · rw [List.mem_singleton.1 ha]
        exact bare_mb h1.term (show (1 : Int) ≠ 2 by decide)
    · rw [hear1 hk]
      by_cases hc : (decide (r1.role ≠ 1) || decide (m.term ≠ r1.term) || !m.yes) = true
      · rw [voted_no hc]
        exact ⟨h1, fun a ha => by cases ha⟩
      have hc : (decide (r1.role ≠ 1) || decide (m.term ≠ r1.term) || !m.yes) = false := by simpa using hc
      by_cases h2 : countV (voteR r1 m).votes < 2
      · rw [voted_few hc h2]
        exact ⟨⟨h1.nx, h1.len, h1.term⟩, fun a ha => by cases ha⟩
      · rw [voted_lead hc h2]
        exact ⟨⟨fun _ f => by show 0 + 1 ≤ r1.log.length + 1; omega, h1.len, h1.term⟩, all_mb h1.term h1.len fun k => Nat.le_refl _⟩
    · rw [hear2 hk]
      have hfits := hm.2 hk
      by_cases h2 : m.term < r1.term
      · rw [append_old h2]
        exact ⟨h1, fun a ha => by rw [List.mem_singleton.1 ha]; exact bare_mb h1.term (by show (3 : Int) ≠ 2; decide)⟩
      by_cases h3 : r1.role = 2
      · rw [append_lead h2 h3]
        exact ⟨h1, fun a ha => by cases ha⟩
      by_cases h4 : (decide ((r1.log.length : Int) < m.index) || decide (termAt r1.log m.index.toNat ≠ m.prev)) = true
      · rw [append_gap h2 h3 h4]
        exact ⟨⟨fun hr => (by cases (show (0 : Int) = 2 from hr)), h1.len, h1.term⟩, fun a ha => by rw [List.mem_singleton.1 ha]; exact bare_mb h1.term (by show (3 : Int) ≠ 2; decide)⟩
      have h4 : (decide ((r1.log.length : Int) < m.index) || decide (termAt r1.log m.index.toNat ≠ m.prev)) = false := by simpa using h4
      have hle2 : m.index.toNat ≤ r1.log.length := by
        simp only [Bool.or_eq_false_iff, decide_eq_false_iff_not] at h4
        omega
      by_cases h5 : appK r1 m < m.recs.length
      · by_cases h6 : m.index.toNat + appK r1 m + 1 ≤ r1.commit
        · rw [append_done h2 h3 h4 h5 h6]
          exact ⟨⟨fun hr => (by cases (show (0 : Int) = 2 from hr)), h1.len, h1.term⟩, fun a ha => by cases ha⟩
        · rw [append_new h2 h3 h4 h5 h6]
          exact ⟨⟨fun hr => (by cases (show (0 : Int) = 2 from hr)), by show (r1.log.take (m.index.toNat + appK r1 m) ++ m.recs.drop (appK r1 m)).length ≤ N; rw [app_len hle2]; exact hfits, h1.term⟩, fun a ha => by rw [List.mem_singleton.1 ha]; exact bare_mb h1.term (by show (3 : Int) ≠ 2; decide)⟩
      · rw [append_same h2 h3 h4 h5]
        exact ⟨⟨fun hr => (by cases (show (0 : Int) = 2 from hr)), h1.len, h1.term⟩, fun a ha => by rw [List.mem_singleton.1 ha]; exact bare_mb h1.term (by show (3 : Int) ≠ 2; decide)⟩
    · rw [hear3 hk]
      by_cases hc : (decide (r1.role ≠ 2) || decide (m.term ≠ r1.term) || m.yes && decide ((r1.log.length : Int) < m.index)) = true
      · rw [appended_no hc]
        exact ⟨h1, fun a ha => by cases ha⟩
      have hc : (decide (r1.role ≠ 2) || decide (m.term ≠ r1.term) || m.yes && decide ((r1.log.length : Int) < m.index)) = false := by simpa using hc
      have hc2 := hc
      simp only [Bool.or_eq_false_iff, decide_eq_false_iff_not] at hc2
      have hrole : r1.role = 2 := Decidable.not_not.1 hc2.1.1
      have hwa := (appended_wf hw1 (m := m) hr.index.1).1
      cases hyes : m.yes with
      | false =>
        rw [appended_back hc hyes] at hwa ⊢
        refine ⟨⟨fun _ f => ?_, h1.len, h1.term⟩, fun a ha => ?_⟩
        · show r1.mat f + 1 ≤ put r1.next _ _ f
          have := h1.nx hrole f
          unfold put
          split
          · rename_i hf
            rw [hf]
            exact Nat.le_max_left _ _
          · exact this
        · rw [List.mem_singleton.1 ha]
          exact ent_mb (r := backR r1 m) h1.term h1.len (hwa.ok.next hrole m.src.toNat).2.1
      | true =>
        obtain ⟨a1, a2, a3, a4, a5, a6, a7⟩ := adv_eq (fwdR r1 m)
        have hrb : RB N B (advanceP (fwdR r1 m)) := by
          refine ⟨fun _ f => ?_, by rw [a2]; exact h1.len, by rw [a6]; exact h1.term⟩
          rw [a3, a4]
          show put r1.mat _ _ f + 1 ≤ put r1.next _ _ f
          have := h1.nx hrole f
          unfold put
          split
          · exact Nat.le_refl _
          · exact this
        rw [appended_fwd hc hyes] at hwa ⊢
        split
        · rename_i hmo
          rw [if_pos hmo] at hwa
          refine ⟨hrb, fun a ha => ?_⟩
          rw [List.mem_singleton.1 ha]
          exact ent_mb hrb.term hrb.len (hwa.ok.next (by rw [a1]; exact hrole) _).2.1
        · exact ⟨hrb, fun a ha => by cases ha⟩

theorem tick_rb {N : Nat} {B : Int} {r : Rep} (hw : r.Wf) (h : RB N B r) : RB N (B + 1) (tickP r).1 ∧ ∀ a ∈ (tickP r).2.send, MB N (B + 1) a := by
  by_cases h1 : r.role = 2
  · rw [tick_lead h1]
    exact ⟨h.more (Nat.le_refl _) (by omega), fun a ha => (all_mb h.term h.len (fun k => (hw.ok.next h1 k).2.1) a ha).more (Nat.le_refl _) (by omega)⟩
  by_cases h2 : r.term = 1099511627776
  · rw [tick_max h1 h2]
    exact ⟨h.more (Nat.le_refl _) (by omega), fun a ha => by cases ha⟩
  rw [tick_ask h1 h2]
  have ht := h.term
  refine ⟨⟨fun hr => (by cases (show (1 : Int) = 2 from hr)), h.len, by show r.term + 1 ≤ _; omega⟩, fun a ha => ?_⟩
  obtain ⟨k, _, rfl⟩ := List.mem_map.1 ha
  exact bare_mb (by show r.term + 1 ≤ _; omega) (by show (0 : Int) ≠ 2; decide)

theorem prop_rb {N : Nat} {B : Int} {r : Rep} (hw : r.Wf) (h : RB N B r) (data : ByteArray) : RB (N + 1) B (proposeP r data).1 ∧ ∀ a ∈ (proposeP r data).2.2.2.send, MB (N + 1) B a := by
  have hm := h.more (Nat.le_succ N) (Int.le_refl B)
  by_cases h1 : r.role ≠ 2
  · rw [prop_no h1]
    exact ⟨hm, fun a ha => by cases ha⟩
  by_cases h2 : 2000 < (data.size : Int)
  · rw [prop_big h1 h2]
    exact ⟨hm, fun a ha => by cases ha⟩
  by_cases h3 : r.log.length = 4000
  · rw [prop_full h1 h2 h3]
    exact ⟨hm, fun a ha => by cases ha⟩
  rw [prop_ok h1 h2 h3]
  have hl : (propR r data).log.length = r.log.length + 1 := by show (r.log ++ [_]).length = _; simp
  have hle := h.len
  have hrb : RB (N + 1) B (propR r data) := ⟨h.nx, by rw [hl]; omega, h.term⟩
  refine ⟨hrb, fun a ha => all_mb hrb.term hrb.len (fun k => ?_) a ha⟩
  have := (hw.ok.next (Decidable.not_not.1 h1) k).2.1
  rw [hl]
  show r.next k ≤ _
  omega

theorem new_rb {N : Nat} {B : Int} {i : Nat} {t v : Int} {l : List RecD} (h1 : l.length ≤ N) (h2 : t ≤ B) : RB N B (newRep i t v l) := ⟨fun hr => (by cases (show (0 : Int) = 2 from hr)), h1, h2⟩

theorem CB.start {N : Nat} {B : Int} {C : Cl} (h : CB N B C) (hw : C.Wf) {i : Nat} (hi : i < 3) : CB N B (startC C i) := by
  obtain ⟨h1, h2, h3⟩ := hw.hard i hi
  refine ⟨fun j hj => ?_, h.msg⟩
  by_cases hji : j = i
  · subst hji
    have : ((startC C j).nd j).rep = newRep j (C.nd j).sterm (C.nd j).svote (C.nd j).slog := by unfold startC; simp only [put_self]; rfl
    rw [this, h1, h3]
    exact new_rb (h.rep j hj).len (h.rep j hj).term
  · rw [show (startC C i).nd j = C.nd j from put_ne _ _ hji]
    exact h.rep j hj

theorem CB.set {N : Nat} {B : Int} {C : Cl} (h : CB N B C) {i : Nat} {r : Rep} (hr : RB N B r) {s : List MsgR} (hs : ∀ m ∈ s, m ∈ C.sent ∨ MB N B m) : CB N B (setN C i r s) := by
  refine ⟨fun j hj => ?_, fun m hm => ?_⟩
  · by_cases hji : j = i
    · subst hji
      rw [setN_self]
      exact hr
    · rw [setN_ne C r s hji]
      exact h.rep j hj
  · rcases hs m hm with e | e
    · exact h.msg m e
    · exact e

theorem CB.call {N : Nat} {B : Int} {C : Cl} (h : CB N B C) (hw : C.Wf) {i : Nat} (hi : i < 3) {x : Rep × OutR} (hx : x.1.Wf) (hf : Fits (C.nd i).rep x.1 x.2) (hr : RB N B x.1) (hs : ∀ a ∈ x.2.send, MB N B a) : CB N B (callC C i x) := by
  rw [call_cases hw hi hf]
  have hh : (hardC C i x.1).Wf := hard_wf hw hi hx (by rw [hf.id]; exact (hw.rep i hi).2)
  split
  · exact h.start hw hi
  split
  · exact CB.start (C := hardC C i x.1) (h.set (i := i) (s := C.sent) hr fun m hm => .inl hm) hh hi
  · exact h.set (i := i) (s := C.sent ++ x.2.send.take (300 - C.sent.length)) hr fun m hm => by
      rcases List.mem_append.1 hm with hm | hm
      · exact .inl hm
      · exact .inr (hs m (List.mem_of_mem_take hm))

theorem CB.drop {N : Nat} {B : Int} {C : Cl} (h : CB N B C) (n : Nat) : CB N B (dropC C n) := ⟨h.rep, fun m hm => h.msg m (by
  rcases List.mem_append.1 hm with hm | hm
  · exact List.mem_of_mem_take hm
  · exact List.mem_of_mem_drop hm)⟩

theorem CB.deliver {N : Nat} {B : Int} {C : Cl} (h : CB N B C) (hw : C.Wf) {m : MsgR} (hm : MB N B m) : CB N B (deliver C m) := by
  have hi := who_lt m.to
  have hh := hear_wf (m := m) (hw.rep _ hi).1
  obtain ⟨a, b⟩ := hear_rb (hw.rep _ hi).1 (h.rep _ hi) hm
  exact h.call hw hi hh.1 hh.2 a b

theorem CB.arrive {N : Nat} {B : Int} {C : Cl} (h : CB N B C) (hw : C.Wf) (n : Int) (keep : Bool) : CB N B (arriveC C n keep) := by
  unfold arriveC
  split
  · exact h
  · rename_i m hm
    have hlt := (List.getElem?_eq_some_iff.1 hm).1
    have hmem : m ∈ C.sent := List.mem_of_getElem? hm
    cases keep with
    | true => exact h.deliver hw (h.msg m hmem)
    | false => exact (h.drop _).deliver (drop_wf hw hlt) (h.msg m hmem)

theorem CB.tick {N : Nat} {B : Int} {C : Cl} (h : CB N B C) (hw : C.Wf) {i : Nat} (hi : i < 3) : CB N (B + 1) (tickC C i) := by
  have ht := tick_wf (hw.rep i hi).1
  obtain ⟨a, b⟩ := tick_rb (hw.rep i hi).1 (h.rep i hi)
  exact (h.more (Nat.le_refl _) (by omega)).call hw hi ht.1 ht.2 a b

theorem CB.prop {N : Nat} {B : Int} {C : Cl} (h : CB N B C) (hw : C.Wf) {i : Nat} (hi : i < 3) (data : ByteArray) : CB (N + 1) B (propC C i data) := by
  have ht := propose_wf (hw.rep i hi).1 data
  obtain ⟨a, b⟩ := prop_rb (hw.rep i hi).1 (h.rep i hi) data
  exact (h.more (Nat.le_succ _) (Int.le_refl _)).call (x := ((proposeP (C.nd i).rep data).1, (proposeP (C.nd i).rep data).2.2.2)) hw hi ht.1 ht.2 a b

theorem CB.cluster {N : Nat} {B : Int} {C : Cl} (h : CB N B C) (hw : C.Wf) (x : OpR) : CB (N + 1) (B + 1) (stepCl C x) := by
  have hi := who_lt x.who
  have hmm := h.more (Nat.le_succ N) (show B ≤ B + 1 by omega)
  unfold stepCl
  simp only
  split
  · unfold loseC
    split
    · exact hmm.drop _
    · exact hmm
  split
  · exact hmm.arrive hw _ _
  split
  · exact (h.tick hw hi).more (Nat.le_succ N) (Int.le_refl _)
  split
  · exact (h.prop hw hi x.data).more (Nat.le_refl _) (by omega)
  split
  · exact hmm.start hw hi
  split
  · refine ⟨fun j hj => ?_, hmm.msg⟩
    by_cases hji : j = (pickZ x.who 3).toNat
    · subst hji
      unfold stopC ndC
      simp only [put_self]
      exact hmm.rep _ hj
    · unfold stopC ndC
      simp only [put_ne _ _ hji]
      exact hmm.rep j hj
  · exact hmm.arrive hw _ _

theorem cb0 : CB 0 0 cl0 := ⟨fun j hj => new_rb (Nat.le_refl _) (Int.le_refl _), fun m hm => by cases hm⟩

end Go.Proofs.Ytifgijoeckoojaa
end

/-
  Liveness, plain: a tick, and all messages arrive.
-/
section
set_option linter.unusedVariables false
set_option linter.unusedSimpArgs false
namespace Go.Proofs.Ytifgijoeckoojaa
open Go.Vc

/-- nothing is in flight, and nothing will be interrupted -/
structure Idle (N : Nat) (B : Int) (C : Cl) : Prop where
  inv : ∃ g A, SInv C g A
  stop : ∀ j, j < 3 → (C.nd j).stop = 0
  sent : C.sent = []
  cb : CB N B C

theorem FI.start0 {C : Cl} {i : Nat} {r' : Rep} {T Mx : Int} {t0 : Nat → Int} {ld : Nat → Prop} {f : Nat → MsgR} (hi : i < 3) (hinv : ∃ g A, SInv (setN C i r' ((othersOf i).map f)) g A) (hstop : ∀ j, j < 3 → (C.nd j).stop = 0) (hT : r'.term = T)
    (hr : r'.role = 1 ∨ r'.role = 2) (hf : ∀ k, k < 3 → k ≠ i → Req i T r' (f k) k) (h1 : r'.role = 1 → ∀ k, (f k).kind = 0) (h2 : r'.role = 2 → ∀ k, (f k).kind = 2)
    (hnx : r'.role = 2 → ∀ f, r'.mat f + 1 ≤ r'.next f) (hmx : ∀ j, j < 3 → (C.nd j).rep.term ≤ Mx) (hmi : T ≤ Mx) (hup : ∀ j, j < 3 → t0 j ≤ (C.nd j).rep.term) (hui : t0 i ≤ T) (hld : ∀ j, j < 3 → j ≠ i → (C.nd j).rep.role = 2 → ld j) :
    FI i T Mx t0 ld (setN C i r' ((othersOf i).map f)) := by
  have hjj : ((setN C i r' ((othersOf i).map f)).nd i).rep = r' := setN_self C i r' _
  have hj2 : ∀ k, k ≠ i → (setN C i r' ((othersOf i).map f)).nd k = C.nd k := fun k hk => setN_ne C r' _ hk
  have hmem : ∀ k, k < 3 → k ≠ i → f k ∈ (othersOf i).map f := fun k h1 h2 => List.mem_map.2 ⟨k, (mem_others hi).2 ⟨h1, h2⟩, rfl⟩
  have hback : ∀ m ∈ (othersOf i).map f, ∃ k, k < 3 ∧ k ≠ i ∧ m = f k := fun m hm => by
    obtain ⟨k, hk, rfl⟩ := List.mem_map.1 hm
    obtain ⟨a, b⟩ := (mem_others hi).1 hk
    exact ⟨k, a, b, rfl⟩
  have hpeer : ∀ k, k < 3 → k ≠ i → peerZ i (f k) = k := fun k h1 h2 => by
    have := hf k h1 h2
    rw [peer_to this.2.1, this.1.to]
  refine ⟨hinv, fun k hk => by rw [setN_stop]; exact hstop k hk, ?_, by rw [hjj]; omega, by rw [hjj]; exact fun _ => hT, fun k hk => ?_, fun k hk => ?_, fun k hk hki => .inr ⟨f k, hmem k hk hki, hpeer k hk hki⟩, fun x hx => ?_, ?_, fun hr1 x hx => ?_, by rw [hjj]; exact hnx, fun k hk hki => by rw [hj2 k hki]; exact hld k hk hki, fun hr2 k hk hki => .inr ⟨f k, hmem k hk hki, ?_, hpeer k hk hki⟩⟩
  · rw [hjj]
    show ((othersOf i).map f).length + _ ≤ 4
    rw [List.length_map]
    have : (othersOf i).length = 2 := by
      have h : i = 0 ∨ i = 1 ∨ i = 2 := by omega
      rcases h with rfl | rfl | rfl <;> rfl
    rw [this]
    split <;> omega
  · by_cases hki : k = i
    · subst hki
      rw [hjj, hT]
      exact hui
    · rw [hj2 k hki]
      exact hup k hk
  · by_cases hki : k = i
    · subst hki
      rw [hjj, hT]
      exact hmi
    · rw [hj2 k hki]
      exact hmx k hk
  · rw [hjj]
    obtain ⟨k, k1, k2, rfl⟩ := hback x hx
    exact ⟨k, k1, k2, .inl (hf k k1 k2)⟩
  · show ((othersOf i).map f).Pairwise (apart i)
    have h : ∃ a b, a < 3 ∧ b < 3 ∧ a ≠ b ∧ a ≠ i ∧ b ≠ i ∧ othersOf i = [a, b] := all_two (r := { r' with id := i }) rfl hi
    obtain ⟨a, b, ha, hb, hab, hai, hbi, e⟩ := h
    rw [e]
    refine List.pairwise_cons.2 ⟨fun x hx => ?_, List.pairwise_singleton _ _⟩
    have hx : x = f b := List.mem_singleton.1 hx
    rw [hx]
    intro hh
    have := hh.2
    rw [hpeer a ha hai, hpeer b hb hbi] at this
    omega
  · rw [hjj] at hr1
    obtain ⟨k, k1, k2, rfl⟩ := hback x hx
    rw [h1 hr1 k]
    decide
  · rw [hjj] at hr2
    rw [h2 hr2 k]
    decide

theorem mu_lead {C : Cl} {i : Nat} {r' : Rep} (hi : i < 3) (hid : r'.id = i) (hr : r'.role = 2) (hm : ∀ k, r'.next k ≤ r'.log.length + 1) : mu i (setN C i r' (allOf r')) ≤ 4 + 8 * r'.log.length := by
  unfold mu
  rw [setN_self, if_neg (by rw [hr]; decide)]
  have := all_wt hid hi hr (n := 2 * r'.log.length) fun k => by
    have := hm k
    unfold ms
    omega
  show 0 + sumW (wt i r') (allOf r') ≤ _
  omega

theorem mu_ask {C : Cl} {i : Nat} {r' : Rep} (hi : i < 3) (hr : r'.role = 1) : mu i (setN C i r' ((othersOf i).map fun k => askOf r' k)) ≤ 8 + 8 * r'.log.length := by
  unfold mu
  rw [setN_self, if_pos hr]
  have h : ∃ a b, a < 3 ∧ b < 3 ∧ a ≠ b ∧ a ≠ i ∧ b ≠ i ∧ othersOf i = [a, b] := all_two (r := { r' with id := i }) rfl hi
  obtain ⟨a, b, ha, hb, hab, hai, hbi, e⟩ := h
  have hw : ∀ k, wt i r' (askOf r' k) = 2 := fun k => by
    unfold wt
    rw [if_neg (fun hh => by have := hh.1; omega)]
    rfl
  show 2 * (4 * r'.log.length + 2) + sumW (wt i r') ((othersOf i).map fun k => askOf r' k) ≤ _
  rw [e]
  show 2 * (4 * r'.log.length + 2) + (wt i r' (askOf r' a) + (wt i r' (askOf r' b) + 0)) ≤ _
  rw [hw, hw]
  omega

/-- all messages arrive, and E stays -/
theorem flow_fi {E : Cl → Prop} {N : Nat} {B : Int} {i : Nat} {T Mx : Int} {t0 : Nat → Int} {ld : Nat → Prop} {C : Cl} (hi : i < 3) (h : FI i T Mx t0 ld C) (hc : CB N B C) (he : E C) (hmu : mu i C ≤ 2000)
    (step : ∀ C m rest, FI i T Mx t0 ld C → E C → C.sent = m :: rest → E (arriveC C 0 false)) : FI i T Mx t0 ld (flowC 2000 C) ∧ Idle N B (flowC 2000 C) ∧ E (flowC 2000 C) := by
  obtain ⟨⟨h1, h2, h3⟩, h4⟩ := flow_ends (P := fun C => FI i T Mx t0 ld C ∧ CB N B C ∧ E C) (i := i) (fun C m rest hp hs => by
    obtain ⟨p1, p2, p3⟩ := hp
    obtain ⟨q1, q2⟩ := p1.step hs hi
    obtain ⟨g, A, hinv⟩ := p1.inv
    exact ⟨⟨q1, p2.arrive hinv.m.wf 0 false, step C m rest p1 p3 hs⟩, q2⟩) 2000 C ⟨h, hc, he⟩ hmu
  exact ⟨h1, ⟨h1.inv, h1.stop, h4, h2⟩, h3⟩

/-- the term in which a tick calls -/
def tickT (r : Rep) : Int := if r.role = 2 then r.term else r.term + 1

theorem Idle.tick_set {N : Nat} {B : Int} {C : Cl} (h : Idle N B C) {i : Nat} (hi : i < 3) : tickC C i = setN C i (tickP (C.nd i).rep).1 (tickP (C.nd i).rep).2.send := by
  obtain ⟨g, A, hs⟩ := h.inv
  have ht := tick_wf (hs.m.wf.rep i hi).1
  have hsm := (tick_small (C.nd i).rep).send
  have := call_head hs.m.wf hi (h.stop i hi) (x := tickP (C.nd i).rep) ht.2 (by rw [h.sent]; simp only [List.length_nil]; omega)
  rw [h.sent, List.nil_append] at this
  exact this

theorem Idle.tick_inv {N : Nat} {B : Int} {C : Cl} (h : Idle N B C) {i : Nat} (hi : i < 3) : ∃ g A, SInv (tickC C i) g A := by
  obtain ⟨g, A, hs⟩ := h.inv
  have ht := tick_wf (hs.m.wf.rep i hi).1
  obtain ⟨g', A', h', _⟩ := hs.goes hi ht.1 ht.2 (tick_s hs hi)
  exact ⟨g', A', h'⟩

theorem Idle.tick {N : Nat} {B : Int} {C : Cl} (h : Idle N B C) {i : Nat} (hi : i < 3) (hN : N ≤ 200) (hB : B < 1099511627776) {Mx : Int} (hMx : ∀ j, j < 3 → (C.nd j).rep.term ≤ Mx) (hT : tickT (C.nd i).rep ≤ Mx) :
    FI i (tickT (C.nd i).rep) Mx (fun j => (C.nd j).rep.term) (fun j => (C.nd j).rep.role = 2) (tickC C i) ∧ CB N (B + 1) (tickC C i) ∧ mu i (tickC C i) ≤ 2000 := by
  obtain ⟨g, A, hs⟩ := h.inv
  obtain ⟨hw, hid⟩ := hs.m.wf.rep i hi
  have hcb := h.cb.tick hs.m.wf hi
  have hinv := h.tick_inv hi
  have hrb := h.cb.rep i hi
  have hlen := hrb.len
  have hterm := hrb.term
  have h0 := hw.ok.term0
  rw [h.tick_set hi] at hcb hinv ⊢
  by_cases hr : (C.nd i).rep.role = 2
  · rw [tick_lead hr] at hcb hinv ⊢
    have e : tickT (C.nd i).rep = (C.nd i).rep.term := if_pos hr
    rw [e] at hT ⊢
    have hn := hw.ok.next hr
    have hcm := hw.ok.commit
    have hl4 := hw.ok.len
    have h1t := hw.one (by rw [hr]; decide)
    have eall : allOf (C.nd i).rep = (othersOf i).map fun k => entriesOf (C.nd i).rep k := by unfold allOf; rw [hid]
    refine ⟨?_, hcb, Nat.le_trans (mu_lead hi hid hr fun k => (hn k).2.1) (show 4 + 8 * (C.nd i).rep.log.length ≤ 2000 by omega)⟩
    show FI i _ Mx _ _ (setN C i (C.nd i).rep (allOf (C.nd i).rep))
    have hinv : ∃ g A, SInv (setN C i (C.nd i).rep (allOf (C.nd i).rep)) g A := hinv
    rw [eall] at hinv ⊢
    refine FI.start0 hi hinv h.stop rfl (.inr hr) (fun k hk hki => ?_) (fun h1 => by omega) (fun _ _ => rfl) (fun _ => hrb.nx hr) hMx hT (fun _ _ => Int.le_refl _) (Int.le_refl _) (fun _ _ _ hh => hh)
    exact ⟨entries_right hw.ok h1t hk (by omega) (hn k).1 (hn k).2.1 (c := (C.nd i).rep.commit) (by omega), by show (((C.nd i).rep.id : Nat) : Int) = i; rw [hid], rfl, .inr ⟨rfl, fun _ => ⟨_, by omega, rfl⟩⟩⟩
  · have h2 : ¬ (C.nd i).rep.term = 1099511627776 := by omega
    rw [tick_ask hr h2] at hcb hinv ⊢
    have e : tickT (C.nd i).rep = (C.nd i).rep.term + 1 := if_neg hr
    rw [e] at hT ⊢
    have hao := ask_ok hw.ok hr h2
    refine ⟨?_, hcb, ?_⟩
    · show FI i _ Mx _ _ (setN C i (askR (C.nd i).rep) ((othersOf (C.nd i).rep.id).map fun k => askOf (askR (C.nd i).rep) k))
      have hinv : ∃ g A, SInv (setN C i (askR (C.nd i).rep) ((othersOf (C.nd i).rep.id).map fun k => askOf (askR (C.nd i).rep) k)) g A := hinv
      rw [hid] at hinv ⊢
      refine FI.start0 hi hinv h.stop rfl (.inl rfl) (fun k hk hki => ?_) (fun _ _ => rfl) (fun h1 => by cases (show (1 : Int) = 2 from h1)) (fun h1 => by cases (show (1 : Int) = 2 from h1)) hMx hT (fun _ _ => Int.le_refl _) (show (C.nd i).rep.term ≤ (C.nd i).rep.term + 1 by omega) (fun _ _ _ hh => hh)
      have hne : (askR (C.nd i).rep).id ≠ k := by
        show (C.nd i).rep.id ≠ k
        omega
      exact ⟨ask_right hao (show 1 ≤ (C.nd i).rep.term + 1 by omega) hk hne, by show (((C.nd i).rep.id : Nat) : Int) = i; rw [hid], rfl, .inl rfl⟩
    · show mu i (setN C i (askR (C.nd i).rep) ((othersOf (C.nd i).rep.id).map fun k => askOf (askR (C.nd i).rep) k)) ≤ _
      rw [hid]
      refine Nat.le_trans (mu_ask hi rfl) ?_
      show 8 + 8 * (C.nd i).rep.log.length ≤ 2000
      omega

/-- a tick, and all messages arrive -/
def roundC (i : Nat) (C : Cl) : Cl := flowC 2000 (tickC C i)

theorem Idle.round {N : Nat} {B : Int} {C : Cl} (h : Idle N B C) {i : Nat} (hi : i < 3) (hN : N ≤ 200) (hB : B < 1099511627776) {Mx : Int} (hMx : ∀ j, j < 3 → (C.nd j).rep.term ≤ Mx) (hT : tickT (C.nd i).rep ≤ Mx) :
    FI i (tickT (C.nd i).rep) Mx (fun j => (C.nd j).rep.term) (fun j => (C.nd j).rep.role = 2) (roundC i C) ∧ Idle N (B + 1) (roundC i C) := by
  obtain ⟨h1, h2, h3⟩ := h.tick hi hN hB hMx hT
  obtain ⟨a, b, _⟩ := flow_fi (E := fun _ => True) hi h1 h2 trivial h3 fun _ _ _ _ _ _ => trivial
  exact ⟨a, b⟩

/-- what the terms are then -/
structure Terms (i : Nat) (C C' : Cl) : Prop where
  top : ∀ j, j < 3 → (C'.nd j).rep.term ≤ (C'.nd i).rep.term
  low : ∀ j, j < 3 → tickT (C.nd i).rep ≤ (C'.nd j).rep.term
  up : ∀ j, j < 3 → (C.nd j).rep.term ≤ (C'.nd j).rep.term
  mx : ∀ Mx, (∀ j, j < 3 → (C.nd j).rep.term ≤ Mx) → tickT (C.nd i).rep ≤ Mx → ∀ j, j < 3 → (C'.nd j).rep.term ≤ Mx
  led : (C'.nd i).rep.role = 2 → (C'.nd i).rep.term = tickT (C.nd i).rep
  ro : ∀ j, j < 3 → j ≠ i → (C'.nd j).rep.role = 2 → (C.nd j).rep.role = 2

theorem Idle.terms {N : Nat} {B : Int} {C : Cl} (h : Idle N B C) {i : Nat} (hi : i < 3) (hN : N ≤ 200) (hB : B < 1099511627776) : Terms i C (roundC i C) := by
  have hb : ∀ j, j < 3 → (C.nd j).rep.term ≤ B + 1 := fun j hj => by have := (h.cb.rep j hj).term; omega
  have hbi := (h.cb.rep i hi).term
  have htb : tickT (C.nd i).rep ≤ B + 1 := by unfold tickT; split <;> omega
  obtain ⟨f, id'⟩ := h.round hi hN hB hb htb
  have hq : ∀ j, j < 3 → j ≠ i → ((roundC i C).nd j).rep.term ≤ ((roundC i C).nd i).rep.term ∧ tickT (C.nd i).rep ≤ ((roundC i C).nd j).rep.term := fun j hj hji => by
    rcases f.q j hj hji with e | ⟨m, hm, _⟩
    · exact e
    · rw [id'.sent] at hm
      cases hm
  refine ⟨fun j hj => ?_, fun j hj => ?_, f.up, fun Mx h1 h2 => (h.round hi hN hB h1 h2).1.mx, fun hr => f.ti (by rw [hr]; decide), f.ro⟩
  · by_cases hji : j = i
    · subst hji
      exact Int.le_refl _
    · exact (hq j hj hji).1
  · by_cases hji : j = i
    · subst hji
      exact f.tl
    · exact (hq j hj hji).2

end Go.Proofs.Ytifgijoeckoojaa
end

/-
  Liveness, plain: an election among equals.
-/
section
set_option linter.unusedVariables false
set_option linter.unusedSimpArgs false
namespace Go.Proofs.Ytifgijoeckoojaa
open Go.Vc

def freshL (l : List RecD) (m : MsgR) : Bool := decide (termAt l l.length < m.prev) || decide (m.prev = termAt l l.length) && decide ((l.length : Int) ≤ m.index)
theorem fresh_l (r : Rep) (m : MsgR) : freshP r m = freshL r.log m := rfl

/-- l is at least as far as l' -/
def Ahead (l l' : List RecD) : Prop := termAt l' l'.length < termAt l l.length ∨ (termAt l l.length = termAt l' l'.length ∧ l'.length ≤ l.length)

theorem count_two {v : Nat → Bool} {a b : Nat} (ha : a < 3) (hb : b < 3) (hab : a ≠ b) (h1 : v a = true) (h2 : v b = true) : ¬ countV v < 2 := by
  have hca : a = 0 ∨ a = 1 ∨ a = 2 := by omega
  have hcb : b = 0 ∨ b = 1 ∨ b = 2 := by omega
  unfold countV
  rcases hca with rfl | rfl | rfl <;> rcases hcb with rfl | rfl | rfl <;> first | exact absurd rfl hab | (rw [h1, h2]; show ¬ _ < 2; simp only [b2n, if_true]; omega)

/-- i is being elected, by j's vote if fr -/
structure EI (i j : Nat) (T : Int) (lg : Nat → List RecD) (fr : Prop) (C : Cl) : Prop where
  ne : (C.nd i).rep.role ≠ 0
  keep : (C.nd i).rep.role = 1 → ∀ k, k < 3 → (C.nd k).rep.log = lg k
  el : fr → (C.nd i).rep.role = 2 ∨ ((C.nd i).rep.votes i = true ∧ ((∃ m ∈ C.sent, m.kind = 0 ∧ peerZ i m = j ∧ (C.nd j).rep.term < T ∧ freshL (lg j) m = true) ∨ ∃ m ∈ C.sent, m.kind = 1 ∧ m.src = (j : Nat) ∧ m.yes = true))

theorem EI.step {i j : Nat} {T : Int} {t0 : Nat → Int} {ld : Nat → Prop} {lg : Nat → List RecD} {fr : Prop} {C : Cl} {m : MsgR} {rest : List MsgR} (h : FI i T T t0 ld C) (e : EI i j T lg fr C) (hi : i < 3) (hj : j < 3) (hji : j ≠ i) (he : C.sent = m :: rest) :
    EI i j T lg fr (arriveC C 0 false) := by
  obtain ⟨g, A, hs⟩ := h.inv
  have hw := hs.m.wf
  have hm0 : m ∈ C.sent := by rw [he]; simp
  have hlen := h.len
  have hl : rest.length ≤ 298 := by rw [he, List.length_cons] at hlen; omega
  have hpw := h.pw
  rw [he] at hpw
  obtain ⟨hp1, hp2⟩ := List.pairwise_cons.1 hpw
  obtain ⟨k, hk, hki, hq | hq⟩ := h.msg m hm0
  · have hC := arrive_head hw h.stop he hk hq.1.to hl
    obtain ⟨hwk, hidk⟩ := hw.rep k hk
    have hright : m.Right (C.nd k).rep.id := by rw [hidk]; exact hq.1
    obtain ⟨e1, e2⟩ := hear_out hright
    rw [e1, e2] at hC
    have hpm : peerZ i m = k := by rw [peer_to hq.2.1, hq.1.to]
    obtain ⟨t1, t2, t3, t4, t5, t6⟩ := turn_same (C.nd k).rep m
    have hw1 := turn_wf hwk hright
    rw [hC]
    generalize hX : hearX (turnR (C.nd k).rep m) m = X
    have hii : ((setN C k X.1 (rest ++ X.2.send)).nd i) = C.nd i := setN_ne C _ _ (fun e => hki e.symm)
    refine ⟨by rw [hii]; exact e.ne, ?_, fun hfr => ?_⟩
    · rw [hii]
      intro hr n hn
      by_cases hnk : n = k
      · subst hnk
        rw [setN_self]
        have hk0 : m.kind = 0 := by
          have h1 := h.noapp hr m hm0
          rcases hq.2.2.2 with z | ⟨z, _⟩
          · exact z
          · omega
        rw [hear0 hk0] at hX
        rw [← hX, (vote_wf hw1 (m := m) hright.src.2).2.2.2.1, t2]
        exact e.keep hr n hn
      · rw [setN_ne C _ _ hnk]
        exact e.keep hr n hn
    · rw [hii]
      rcases e.el hfr with e1 | ⟨e1, e2 | ⟨x, hx, x1, x2, x3⟩⟩
      · exact .inl e1
      · by_cases hr2 : (C.nd i).rep.role = 2
        · exact .inl hr2
        have hr1 : (C.nd i).rep.role = 1 := by
          have := e.ne
          rcases (hw.rep i hi).1.ok.role with z | z | z
          · exact absurd z this
          · exact z
          · exact absurd z hr2
        obtain ⟨x, hx, x1, x2, x3, x4⟩ := e2
        refine .inr ⟨e1, ?_⟩
        rw [he] at hx
        rcases List.mem_cons.1 hx with rfl | hx
        · rw [hpm] at x2
          have x2 : k = j := by omega
          subst x2
          rw [hear0 x1] at hX
          obtain ⟨y, ey, hy⟩ := vote_out (turnR (C.nd k).rep x) x
          have hy1 : y = true := by
            rw [hy]
            have hxt := hq.2.2.1
            rw [turn_up (by rw [hxt]; exact x3), fresh_l]
            refine ⟨rfl, .inl rfl, ?_⟩
            show freshL (C.nd k).rep.log x = true
            rw [e.keep hr1 k hk]
            exact x4
          refine .inr ⟨⟨1, (turnR (C.nd k).rep x).id, x.src, (turnR (C.nd k).rep x).term, 0, 0, 0, y, []⟩, ?_, rfl, ?_, hy1⟩
          · show _ ∈ rest ++ X.2.send
            rw [← hX, ey]
            simp
          · show (((turnR (C.nd k).rep x).id : Nat) : Int) = k
            rw [t1, hidk]
        · have hkj : j ≠ k := fun ejk => by
            have h1 := h.noapp hr1 m hm0
            refine hp1 x hx ⟨by omega, by rw [hpm, x2, ejk]⟩
          rw [setN_ne C _ _ hkj]
          exact .inl ⟨x, List.mem_append_left _ hx, x1, x2, x3, x4⟩
      · refine .inr ⟨e1, .inr ⟨x, ?_, x1, x2, x3⟩⟩
        rw [he] at hx
        rcases List.mem_cons.1 hx with rfl | hx
        · exfalso
          rcases hq.2.2.2 with z | ⟨z, _⟩ <;> omega
        · exact List.mem_append_left _ hx
  · have hC := arrive_head hw h.stop he hi hq.1.to hl
    obtain ⟨hwi, hidi⟩ := hw.rep i hi
    have hright : m.Right (C.nd i).rep.id := by rw [hidi]; exact hq.1
    obtain ⟨e1, e2⟩ := hear_out hright
    have hT := hq.2.2.2.1
    have hmt := hq.2.2.1
    have hmx := h.mx k hk
    have hti := h.ti e.ne
    have hup : ¬ (C.nd i).rep.term < m.term := by omega
    rw [e1, e2, turn_id hup] at hC
    have hsn : m.src.toNat = k := by rw [hq.2.1, Int.toNat_natCast]
    rw [hC]
    by_cases hr2 : (C.nd i).rep.role = 2
    · have hro : (hearX (C.nd i).rep m).1.role = 2 := by
        rcases hq.2.2.2.2 with z | ⟨z, _⟩
        · rw [hear1 z, voted_no (by rw [hr2]; simp)]
          exact hr2
        · rw [hear3 z, (appended_same (C.nd i).rep m).1.1]
          exact hr2
      exact ⟨by rw [setN_self, hro]; decide, by rw [setN_self, hro]; exact fun z => (by cases z), fun _ => .inl (by rw [setN_self]; exact hro)⟩
    have hr1 : (C.nd i).rep.role = 1 := by
      have := e.ne
      rcases hwi.ok.role with z | z | z
      · exact absurd z this
      · exact z
      · exact absurd z hr2
    have hk1 : m.kind = 1 := by
      have h1 := h.noapp hr1 m hm0
      rcases hq.2.2.2.2 with z | ⟨z, _⟩
      · exact z
      · omega
    have hkeep : ∀ (r' : Rep) s, r'.log = (C.nd i).rep.log → ∀ n, n < 3 → ((setN C i r' s).nd n).rep.log = lg n := fun r' s hl n hn => by
      by_cases hni : n = i
      · subst hni
        rw [setN_self, hl]
        exact e.keep hr1 n hn
      · rw [setN_ne C _ _ hni]
        exact e.keep hr1 n hn
    rw [hear1 hk1]
    by_cases hc : (decide ((C.nd i).rep.role ≠ 1) || decide (m.term ≠ (C.nd i).rep.term) || !m.yes) = true
    · rw [voted_no hc]
      refine ⟨by rw [setN_self]; exact e.ne, fun _ => hkeep _ _ rfl, fun hfr => ?_⟩
      rw [setN_self, setN_ne C _ _ hji]
      rcases e.el hfr with z | ⟨z1, z2⟩
      · exact .inl z
      refine .inr ⟨z1, ?_⟩
      rcases z2 with ⟨x, hx, x1, x2, x3, x4⟩ | ⟨x, hx, x1, x2, x3⟩
      · refine .inl ⟨x, ?_, x1, x2, x3, x4⟩
        rw [he] at hx
        rcases List.mem_cons.1 hx with rfl | hx
        · omega
        · exact List.mem_append_left _ hx
      · rw [he] at hx
        rcases List.mem_cons.1 hx with rfl | hx
        · exfalso
          rw [hr1, x3, show x.term = (C.nd i).rep.term by omega] at hc
          simp at hc
        · exact .inr ⟨x, List.mem_append_left _ hx, x1, x2, x3⟩
    have hc : (decide ((C.nd i).rep.role ≠ 1) || decide (m.term ≠ (C.nd i).rep.term) || !m.yes) = false := by simpa using hc
    by_cases h2 : countV (voteR (C.nd i).rep m).votes < 2
    · rw [voted_few hc h2]
      refine ⟨by rw [setN_self]; exact e.ne, fun _ => hkeep _ _ rfl, fun hfr => ?_⟩
      exfalso
      rcases e.el hfr with z | ⟨z, _⟩
      · exact hr2 z
      · refine count_two hi hk (fun e => hki e.symm) ?_ ?_ h2
        · show put (C.nd i).rep.votes m.src.toNat true i = true
          rw [hsn, put_ne _ _ (fun e => hki e.symm)]
          exact z
        · show put (C.nd i).rep.votes m.src.toNat true k = true
          rw [hsn]
          exact put_self _ _ _
    · rw [voted_lead hc h2]
      refine ⟨by rw [setN_self]; show (2 : Int) ≠ 0; decide, by rw [setN_self]; exact fun z => (by cases (show (2 : Int) = 1 from z)), fun _ => .inl (by rw [setN_self]; rfl)⟩

/-- all have one term, and none leads: the one that ticks is elected if it is no less far than another one -/
theorem Idle.elect {N : Nat} {B : Int} {C : Cl} (h : Idle N B C) {i j : Nat} (hi : i < 3) (hj : j < 3) (hji : j ≠ i) (hN : N ≤ 200) (hB : B < 1099511627776) {M : Int} (hall : ∀ k, k < 3 → (C.nd k).rep.term = M) (hnl : ∀ k, k < 3 → (C.nd k).rep.role ≠ 2) :
    (∀ k, k < 3 → ((roundC i C).nd k).rep.term = M + 1) ∧ (∀ k, k < 3 → k ≠ i → ((roundC i C).nd k).rep.role ≠ 2) ∧
      (((roundC i C).nd i).rep.role = 2 ∨ ((∀ k, k < 3 → ((roundC i C).nd k).rep.log = (C.nd k).rep.log) ∧ ¬ Ahead (C.nd i).rep.log (C.nd j).rep.log)) := by
  have hT : tickT (C.nd i).rep = M + 1 := by unfold tickT; rw [if_neg (hnl i hi), hall i hi]
  have ht := h.terms hi hN hB
  have hmx := ht.mx (M + 1) (fun k hk => by rw [hall k hk]; omega) (by rw [hT]; exact Int.le_refl _)
  refine ⟨fun k hk => by have h1 := ht.low k hk; have h2 := hmx k hk; omega, fun k hk hki hr => hnl k hk (ht.ro k hk hki hr), ?_⟩
  have htk := h.tick hi hN hB (Mx := M + 1) (fun k hk => by rw [hall k hk]; omega) (by rw [hT]; exact Int.le_refl _)
  rw [hT] at htk
  obtain ⟨f1, f2, f3⟩ := htk
  have hE : EI i j (M + 1) (fun k => (C.nd k).rep.log) (Ahead (C.nd i).rep.log (C.nd j).rep.log) (tickC C i) := by
    obtain ⟨g, A, hs⟩ := h.inv
    obtain ⟨hw, hid⟩ := hs.m.wf.rep i hi
    have hterm := (h.cb.rep i hi).term
    rw [h.tick_set hi, tick_ask (hnl i hi) (by omega)]
    refine ⟨by rw [setN_self]; show (1 : Int) ≠ 0; decide, fun _ k hk => ?_, fun hfr => .inr ⟨?_, .inl ⟨askOf (askR (C.nd i).rep) j, ?_, rfl, ?_, ?_, ?_⟩⟩⟩
    · by_cases hki : k = i
      · subst hki
        rw [setN_self]
        rfl
      · rw [setN_ne C _ _ hki]
    · rw [setN_self]
      show decide (i = (C.nd i).rep.id) = true
      rw [hid]
      simp
    · show _ ∈ (othersOf (C.nd i).rep.id).map fun k => askOf (askR (C.nd i).rep) k
      rw [hid]
      exact List.mem_map.2 ⟨j, (mem_others hi).2 ⟨hj, hji⟩, rfl⟩
    · refine peer_to ?_
      show (((C.nd i).rep.id : Nat) : Int) = i
      rw [hid]
    · rw [setN_ne C _ _ hji, hall j hj]
      omega
    · show freshL (C.nd j).rep.log (askOf (askR (C.nd i).rep) j) = true
      unfold freshL
      show (decide (termAt (C.nd j).rep.log (C.nd j).rep.log.length < termAt (C.nd i).rep.log (C.nd i).rep.log.length) || decide (termAt (C.nd i).rep.log (C.nd i).rep.log.length = termAt (C.nd j).rep.log (C.nd j).rep.log.length) && decide (((C.nd j).rep.log.length : Int) ≤ ((C.nd i).rep.log.length : Nat))) = true
      simp only [Bool.or_eq_true, Bool.and_eq_true, decide_eq_true_eq]
      rcases hfr with z | ⟨z1, z2⟩
      · exact .inl z
      · exact .inr ⟨z1, by omega⟩
  obtain ⟨_, id', e⟩ := flow_fi hi f1 f2 hE f3 fun C m rest hf he hs => EI.step hf he hi hj hji hs
  have e : EI i j (M + 1) (fun k => (C.nd k).rep.log) (Ahead (C.nd i).rep.log (C.nd j).rep.log) (roundC i C) := e
  have id' : Idle N (B + 1) (roundC i C) := id'
  by_cases hr : ((roundC i C).nd i).rep.role = 2
  · exact .inl hr
  refine .inr ⟨?_, fun hfr => ?_⟩
  · obtain ⟨g, A, hs⟩ := id'.inv
    have hne := e.ne
    rcases (hs.m.wf.rep i hi).1.ok.role with z | z | z
    · exact absurd z hne
    · exact e.keep z
    · exact absurd z hr
  · rcases e.el hfr with z | ⟨_, ⟨x, hx, _⟩ | ⟨x, hx, _⟩⟩
    · exact hr z
    · rw [id'.sent] at hx
      cases hx
    · rw [id'.sent] at hx
      cases hx

end Go.Proofs.Ytifgijoeckoojaa
end

/-
  Liveness, plain: one leads, and what it has is everywhere.
-/
section
set_option linter.unusedVariables false
set_option linter.unusedSimpArgs false
namespace Go.Proofs.Ytifgijoeckoojaa
open Go.Vc

def seqC : Nat → Cl → Cl
  | 0, C => C
  | n + 1, C => roundC (n % 3) (seqC n C)

theorem Idle.seq {N : Nat} {B : Int} {C : Cl} (h : Idle N B C) (hN : N ≤ 200) (hB : B < 1000000) : ∀ n : Nat, n ≤ 18 → Idle N (B + n) (seqC n C)
  | 0, _ => by rw [show B + ((0 : Nat) : Int) = B by omega]; exact h
  | n + 1, hn => by
    have h1 := h.seq hN hB n (by omega)
    have hb : ∀ j, j < 3 → ((seqC n C).nd j).rep.term ≤ B + n + 1 := fun j hj => by have := (h1.cb.rep j hj).term; omega
    have hi : n % 3 < 3 := Nat.mod_lt _ (by decide)
    have hbi := (h1.cb.rep _ hi).term
    have := (h1.round hi hN (by omega) (Mx := B + n + 1) hb (by unfold tickT; split <;> omega)).2
    rw [show B + ((n + 1 : Nat) : Int) = B + n + 1 by omega]
    exact this

section
attribute [local irreducible] roundC
theorem Idle.found {N : Nat} {B : Int} {C : Cl} (h : Idle N B C) (hN : N ≤ 200) (hB : B < 1000000) : ∃ n, n < 6 ∧ ((seqC (n + 1) C).nd (n % 3)).rep.role = 2 := by
  refine Classical.byContradiction fun hno => ?_
  have hno : ∀ n, n < 6 → ((seqC (n + 1) C).nd (n % 3)).rep.role ≠ 2 := fun n hn hr => hno ⟨n, hn, hr⟩
  have i0 := h.seq hN hB 0 (by omega)
  have i1 := h.seq hN hB 1 (by omega)
  have i2 := h.seq hN hB 2 (by omega)
  have i3 := h.seq hN hB 3 (by omega)
  have i4 := h.seq hN hB 4 (by omega)
  have i5 := h.seq hN hB 5 (by omega)
  have n0 := hno 0 (by omega)
  have n1 := hno 1 (by omega)
  have n2 := hno 2 (by omega)
  have n3 := hno 3 (by omega)
  have n4 := hno 4 (by omega)
  have n5 := hno 5 (by omega)
  have e1 : seqC 1 C = roundC 0 (seqC 0 C) := rfl
  have e2 : seqC 2 C = roundC 1 (seqC 1 C) := rfl
  have e3 : seqC 3 C = roundC 2 (seqC 2 C) := rfl
  have e4 : seqC 4 C = roundC 0 (seqC 3 C) := rfl
  have e5 : seqC 5 C = roundC 1 (seqC 4 C) := rfl
  have e6 : seqC 6 C = roundC 2 (seqC 5 C) := rfl
  have t1 := i0.terms (i := 0) (by omega) hN (by omega)
  have t2 := i1.terms (i := 1) (by omega) hN (by omega)
  have t3 := i2.terms (i := 2) (by omega) hN (by omega)
  rw [← e1] at t1
  rw [← e2] at t2
  rw [← e3] at t3
  have n0 : ((seqC 1 C).nd 0).rep.role ≠ 2 := n0
  have n1 : ((seqC 2 C).nd 1).rep.role ≠ 2 := n1
  have n2 : ((seqC 3 C).nd 2).rep.role ≠ 2 := n2
  have n3 : ((seqC 4 C).nd 0).rep.role ≠ 2 := n3
  have n4 : ((seqC 5 C).nd 1).rep.role ≠ 2 := n4
  have n5 : ((seqC 6 C).nd 2).rep.role ≠ 2 := n5
  have hnl : ∀ k, k < 3 → ((seqC 3 C).nd k).rep.role ≠ 2 := fun k hk hr => by
    have hc : k = 0 ∨ k = 1 ∨ k = 2 := by omega
    rcases hc with rfl | rfl | rfl
    · exact n0 (t2.ro 0 (by omega) (by omega) (t3.ro 0 (by omega) (by omega) hr))
    · exact n1 (t3.ro 1 (by omega) (by omega) hr)
    · exact n2 hr
  have hall : ∀ k, k < 3 → ((seqC 3 C).nd k).rep.term = ((seqC 3 C).nd 0).rep.term := by
    have a0 := t1.top 1 (by omega)
    have a1 := t1.top 2 (by omega)
    have b0 := t2.top 0 (by omega)
    have b1 := t2.top 2 (by omega)
    have b2 := t2.low 0 (by omega)
    have b3 := t2.up 0 (by omega)
    have b4 := t2.mx (max ((seqC 1 C).nd 0).rep.term (tickT ((seqC 1 C).nd 1).rep)) (fun k hk => by
      have hc : k = 0 ∨ k = 1 ∨ k = 2 := by omega
      rcases hc with rfl | rfl | rfl <;> omega) (by omega) 1 (by omega)
    have c0 := t3.top 0 (by omega)
    have c1 := t3.top 1 (by omega)
    have c2 := t3.low 0 (by omega)
    have c3 := t3.low 1 (by omega)
    have c4 := t3.up 0 (by omega)
    have c5 := t3.up 1 (by omega)
    have c6 := t3.mx (max ((seqC 2 C).nd 0).rep.term (tickT ((seqC 2 C).nd 2).rep)) (fun k hk => by
      have hc : k = 0 ∨ k = 1 ∨ k = 2 := by omega
      rcases hc with rfl | rfl | rfl <;> omega) (by omega)
    have c7 := c6 0 (by omega)
    have c8 := c6 1 (by omega)
    have c9 := c6 2 (by omega)
    intro k hk
    have hc : k = 0 ∨ k = 1 ∨ k = 2 := by omega
    rcases hc with rfl | rfl | rfl <;> omega
  obtain ⟨x1, x2, x3⟩ := i3.elect (i := 0) (j := 1) (by omega) (by omega) (by omega) hN (by omega) hall hnl
  rw [← e4] at x1 x2 x3
  have hnl4 : ∀ k, k < 3 → ((seqC 4 C).nd k).rep.role ≠ 2 := fun k hk => by
    by_cases h0 : k = 0
    · rw [h0]; exact n3
    · exact x2 k hk h0
  rcases x3 with x3 | ⟨x3, x4⟩
  · exact n3 x3
  obtain ⟨y1, y2, y3⟩ := i4.elect (i := 1) (j := 2) (by omega) (by omega) (by omega) hN (by omega) x1 hnl4
  rw [← e5] at y1 y2 y3
  have hnl5 : ∀ k, k < 3 → ((seqC 5 C).nd k).rep.role ≠ 2 := fun k hk => by
    by_cases h0 : k = 1
    · rw [h0]; exact n4
    · exact y2 k hk h0
  rcases y3 with y3 | ⟨y3, y4⟩
  · exact n4 y3
  obtain ⟨z1, z2, z3⟩ := i5.elect (i := 2) (j := 0) (by omega) (by omega) (by omega) hN (by omega) y1 hnl5
  rw [← e6] at z1 z2 z3
  rcases z3 with z3 | ⟨z3, z4⟩
  · exact n5 z3
  rw [x3 1 (by omega), x3 2 (by omega)] at y4
  rw [y3 2 (by omega), y3 0 (by omega), x3 2 (by omega), x3 0 (by omega)] at z4
  unfold Ahead at x4 y4 z4
  omega
end

theorem Terms.eq {i : Nat} {C C' : Cl} (t : Terms i C C') (hr : (C'.nd i).rep.role = 2) {k : Nat} (hk : k < 3) : (C'.nd k).rep.term = (C'.nd i).rep.term := by
  have h1 := t.top k hk
  have h2 := t.low k hk
  have h3 := t.led hr
  omega

/-! ### what is committed -/
theorem most_ge {r : Rep} (hid : r.id < 3) {k : Nat} (hk : k < 3) (hki : k ≠ r.id) : r.mat k ≤ mostOf r := by
  unfold mostOf
  have hm := (mem_others hid).2 ⟨hk, hki⟩
  obtain ⟨a, b, _, _, _, _, _, e⟩ := all_two (r := r) rfl hid
  rw [e] at hm ⊢
  show r.mat k ≤ max (max 0 (r.mat a)) (r.mat b)
  rcases List.mem_cons.1 hm with rfl | hm
  · omega
  · rw [List.mem_singleton.1 hm]
    omega

structure KI (i : Nat) (L : List RecD) (C : Cl) : Prop where
  ro : (C.nd i).rep.role = 2
  log : (C.nd i).rep.log = L
  com : (∃ k, k < 3 ∧ k ≠ i ∧ (C.nd i).rep.mat k = L.length) → (C.nd i).rep.commit = L.length

theorem KI.step {i : Nat} {T : Int} {t0 : Nat → Int} {ld : Nat → Prop} {L : List RecD} {C : Cl} {m : MsgR} {rest : List MsgR} (h : FI i T T t0 ld C) (e : KI i L C) (hi : i < 3) (hlast : termAt L L.length = T) (he : C.sent = m :: rest) : KI i L (arriveC C 0 false) := by
  obtain ⟨g, A, hs⟩ := h.inv
  have hw := hs.m.wf
  have hm0 : m ∈ C.sent := by rw [he]; simp
  have hlen := h.len
  have hl : rest.length ≤ 298 := by rw [he, List.length_cons] at hlen; omega
  obtain ⟨k, hk, hki, hq | hq⟩ := h.msg m hm0
  · rw [arrive_head hw h.stop he hk hq.1.to hl]
    have hii : ∀ r s, ((setN C k r s).nd i) = C.nd i := fun r s => setN_ne C _ _ (fun e => hki e.symm)
    exact ⟨by rw [hii]; exact e.ro, by rw [hii]; exact e.log, by rw [hii]; exact e.com⟩
  · have hC := arrive_head hw h.stop he hi hq.1.to hl
    obtain ⟨hwi, hidi⟩ := hw.rep i hi
    have hright : m.Right (C.nd i).rep.id := by rw [hidi]; exact hq.1
    obtain ⟨e1, e2⟩ := hear_out hright
    have hT := hq.2.2.2.1
    have hmt := hq.2.2.1
    have hmx := h.mx k hk
    have hro := e.ro
    have hti := h.ti (by rw [hro]; decide)
    have hup : ¬ (C.nd i).rep.term < m.term := by omega
    have hmT : m.term = T := by omega
    rw [e1, e2, turn_id hup] at hC
    have hsn : m.src.toNat = k := by rw [hq.2.1, Int.toNat_natCast]
    rw [hC]
    rcases hq.2.2.2.2 with hk1 | ⟨hk3, hb⟩
    · rw [hear1 hk1, voted_no (by rw [hro]; simp)]
      exact ⟨by rw [setN_self]; exact e.ro, by rw [setN_self]; exact e.log, by rw [setN_self]; exact e.com⟩
    · rw [hear3 hk3]
      obtain ⟨b1, b2⟩ := hb hro hmT
      cases hy : m.yes with
      | false =>
        have hc : (decide ((C.nd i).rep.role ≠ 2) || decide (m.term ≠ (C.nd i).rep.term) || m.yes && decide (((C.nd i).rep.log.length : Int) < m.index)) = false := by rw [hro, hy, hmT, hti]; simp
        rw [appended_back hc hy]
        exact ⟨by rw [setN_self]; exact e.ro, by rw [setN_self]; exact e.log, by rw [setN_self]; exact e.com⟩
      | true =>
        have b3 := b1 hy
        rw [List.length_take, List.length_drop] at b3
        have hnx := (hwi.ok.next hro k).2.1
        have hix : m.index.toNat ≤ (C.nd i).rep.log.length := by omega
        have hc : (decide ((C.nd i).rep.role ≠ 2) || decide (m.term ≠ (C.nd i).rep.term) || m.yes && decide (((C.nd i).rep.log.length : Int) < m.index)) = false := by
          rw [hro, hy, hmT, hti, decide_eq_false (show ¬ ((C.nd i).rep.log.length : Int) < m.index by omega)]
          simp
        have hr' : (appendedP (C.nd i).rep m).1 = advanceP (fwdR (C.nd i).rep m) := by
          rw [appended_fwd hc hy]
          split <;> rfl
        obtain ⟨a1, a2, a3, a4, a5, a6, a7⟩ := adv_eq (fwdR (C.nd i).rep m)
        have hfo := fwd_ok hwi.ok hro m hix
        refine ⟨by rw [setN_self, hr', a1]; exact hro, by rw [setN_self, hr', a2]; exact e.log, ?_⟩
        rw [setN_self, hr', a4]
        rintro ⟨f, hf, hfi, hfm⟩
        have hge := most_ge (r := fwdR (C.nd i).rep m) (by show (C.nd i).rep.id < 3; omega) hf (by show f ≠ (C.nd i).rep.id; omega)
        have hle : mostOf (fwdR (C.nd i).rep m) ≤ (C.nd i).rep.log.length := mostTo_le (fun x => (hfo.next hro x).2.2) _
        have hlogL := e.log
        have hmost : mostOf (fwdR (C.nd i).rep m) = L.length := by rw [hlogL] at hle; omega
        have hcm := hwi.ok.commit
        unfold advanceP
        rw [hmost]
        split
        · rfl
        · rename_i hn
          simp only [Bool.and_eq_true, decide_eq_true_eq, not_and] at hn
          have h1 : (fwdR (C.nd i).rep m).commit = (C.nd i).rep.commit := rfl
          have h2 : (fwdR (C.nd i).rep m).log = L := hlogL
          have h3 : (fwdR (C.nd i).rep m).term = T := hti
          rw [h1, h2, h3] at hn
          rw [hlogL] at hcm
          rw [h1]
          have : ¬ (C.nd i).rep.commit < L.length := fun hlt => hn hlt hlast
          omega

structure HI (i : Nat) (L : List RecD) (C : Cl) : Prop where
  ro : (C.nd i).rep.role = 2
  log : (C.nd i).rep.log = L
  cm : (C.nd i).rep.commit = L.length
  mt : ∀ k, k < 3 → k ≠ i → (C.nd i).rep.mat k = L.length ∧ (C.nd i).rep.next k = L.length + 1
  com : ∀ k, k < 3 → k ≠ i → L.length ≤ (C.nd k).rep.commit ∨ ∃ m ∈ C.sent, m.kind = 2 ∧ peerZ i m = k ∧ m.commit = (L.length : Nat)

theorem HI.step {i : Nat} {T : Int} {t0 : Nat → Int} {ld : Nat → Prop} {L : List RecD} {C : Cl} {m : MsgR} {rest : List MsgR} (h : FI i T T t0 ld C) (e : HI i L C) (hi : i < 3) (he : C.sent = m :: rest) : HI i L (arriveC C 0 false) := by
  obtain ⟨g, A, hs⟩ := h.inv
  have hw := hs.m.wf
  have hm0 : m ∈ C.sent := by rw [he]; simp
  have hlen := h.len
  have hl : rest.length ≤ 298 := by rw [he, List.length_cons] at hlen; omega
  have hro := e.ro
  have hti := h.ti (by rw [hro]; decide)
  obtain ⟨k, hk, hki, hq | hq⟩ := h.msg m hm0
  · have hC := arrive_head hw h.stop he hk hq.1.to hl
    obtain ⟨hwk, hidk⟩ := hw.rep k hk
    have hright : m.Right (C.nd k).rep.id := by rw [hidk]; exact hq.1
    obtain ⟨e1, e2⟩ := hear_out hright
    rw [e1, e2] at hC
    have hpm : peerZ i m = k := by rw [peer_to hq.2.1, hq.1.to]
    obtain ⟨t1, t2, t3, t4, t5, t6⟩ := turn_same (C.nd k).rep m
    have t7 := turn_term (C.nd k).rep m
    have hw1 := turn_wf hwk hright
    have hmT := hq.2.2.1
    have hmx := h.mx k hk
    rw [hC]
    have hii : ∀ r s, ((setN C k r s).nd i) = C.nd i := fun r s => setN_ne C _ _ (fun e => hki e.symm)
    refine ⟨by rw [hii]; exact hro, by rw [hii]; exact e.log, by rw [hii]; exact e.cm, by rw [hii]; exact e.mt, fun n hn hni => ?_⟩
    by_cases hnk : n = k
    · subst hnk
      rw [setN_self]
      rcases hq.2.2.2 with hk0 | ⟨hk2, hen⟩
      · have hcs : (hearX (turnR (C.nd n).rep m) m).1.commit = (C.nd n).rep.commit := by
          rw [hear0 hk0, ← t3]
          unfold voteP
          split <;> rfl
        rw [hcs]
        rcases e.com n hn hni with z | ⟨x, hx, x1, x2, x3⟩
        · exact .inl z
        · rw [he] at hx
          rcases List.mem_cons.1 hx with rfl | hx
          · omega
          · exact .inr ⟨x, List.mem_append_left _ hx, x1, x2, x3⟩
      · obtain ⟨c, hc4, hmc⟩ := hen hro
        obtain ⟨m1, m2⟩ := e.mt n hn hni
        have hrT : (turnR (C.nd n).rep m).term = T := by omega
        have h1 : ¬ m.term < (turnR (C.nd n).rep m).term := by omega
        have h2 : ¬ (turnR (C.nd n).rep m).role = 2 := fun h2 => by
          by_cases hup : (C.nd n).rep.term < m.term
          · rw [turn_up hup] at h2
            cases (show (0 : Int) = 2 from h2)
          · rw [turn_id hup] at h2 hrT
            have a1 := (hs.m.lead n hn h2).1
            have a2 := (hs.m.lead i hi hro).1
            rw [hrT] at a1
            rw [hti, a1] at a2
            omega
        have hng := hs.no_gap hi hn hni hro (by omega) (by rw [m1, m2])
        have h3 : (decide (((turnR (C.nd n).rep m).log.length : Int) < m.index) || decide (termAt (turnR (C.nd n).rep m).log m.index.toNat ≠ m.prev)) = false := by
          rw [t2, hmc]
          exact hng
        have hrecs : m.recs = [] := by
          rw [hmc]
          show ((C.nd i).rep.log.drop ((C.nd i).rep.next n - 1)).take 8 = []
          rw [e.log, m2, show L.length + 1 - 1 = L.length by omega, List.drop_length]
          rfl
        have h4 : ¬ appK (turnR (C.nd n).rep m) m < m.recs.length := by rw [hrecs]; exact Nat.not_lt_zero _
        have hix : m.index.toNat = L.length := by
          rw [hmc]
          show ((((C.nd i).rep.next n - 1 : Nat)) : Int).toNat = _
          rw [m2]
          omega
        rw [hear2 hk2, append_same h1 h2 h3 h4]
        show L.length ≤ appC (turnR (C.nd n).rep m) m ∨ _
        unfold appC
        rw [hrecs, hix, t3]
        rcases e.com n hn hni with z | ⟨x, hx, x1, x2, x3⟩
        · exact .inl (by omega)
        · rw [he] at hx
          rcases List.mem_cons.1 hx with rfl | hx
          · refine .inl ?_
            rw [x3, Int.toNat_natCast]
            simp only [List.length_nil]
            omega
          · exact .inr ⟨x, List.mem_append_left _ hx, x1, x2, x3⟩
    · rw [setN_ne C _ _ hnk]
      rcases e.com n hn hni with z | ⟨x, hx, x1, x2, x3⟩
      · exact .inl z
      · rw [he] at hx
        rcases List.mem_cons.1 hx with rfl | hx
        · rw [hpm] at x2
          omega
        · exact .inr ⟨x, List.mem_append_left _ hx, x1, x2, x3⟩
  · have hC := arrive_head hw h.stop he hi hq.1.to hl
    obtain ⟨hwi, hidi⟩ := hw.rep i hi
    have hright : m.Right (C.nd i).rep.id := by rw [hidi]; exact hq.1
    obtain ⟨e1, e2⟩ := hear_out hright
    have hT := hq.2.2.2.1
    have hmt := hq.2.2.1
    have hmx := h.mx k hk
    have hup : ¬ (C.nd i).rep.term < m.term := by omega
    have hmT : m.term = T := by omega
    rw [e1, e2, turn_id hup] at hC
    have hsn : m.src.toNat = k := by rw [hq.2.1, Int.toNat_natCast]
    have hpm : peerZ i m = k := peer_src hq.2.1 hki
    rw [hC]
    have hcom : ∀ (r' : Rep) s, ∀ n, n < 3 → n ≠ i → L.length ≤ ((setN C i r' (rest ++ s)).nd n).rep.commit ∨ ∃ x ∈ rest ++ s, x.kind = 2 ∧ peerZ i x = n ∧ x.commit = (L.length : Nat) := fun r' s n hn hni => by
      rw [setN_ne C _ _ hni]
      rcases e.com n hn hni with z | ⟨x, hx, x1, x2, x3⟩
      · exact .inl z
      · rw [he] at hx
        rcases List.mem_cons.1 hx with rfl | hx
        · exfalso
          rcases hq.2.2.2.2 with z | ⟨z, _⟩ <;> omega
        · exact .inr ⟨x, List.mem_append_left _ hx, x1, x2, x3⟩
    rcases hq.2.2.2.2 with hk1 | ⟨hk3, hb⟩
    · rw [hear1 hk1, voted_no (by rw [hro]; simp)]
      exact ⟨by rw [setN_self]; exact e.ro, by rw [setN_self]; exact e.log, by rw [setN_self]; exact e.cm, by rw [setN_self]; exact e.mt, hcom _ _⟩
    · rw [hear3 hk3]
      obtain ⟨b1, b2⟩ := hb hro hmT
      obtain ⟨m1, m2⟩ := e.mt k hk hki
      cases hy : m.yes with
      | false =>
        have := (b2 hy).2
        omega
      | true =>
        have b3 := b1 hy
        rw [List.length_take, List.length_drop, e.log, m2] at b3
        have hlogL := e.log
        have hix : m.index.toNat = L.length := by omega
        have hc : (decide ((C.nd i).rep.role ≠ 2) || decide (m.term ≠ (C.nd i).rep.term) || m.yes && decide (((C.nd i).rep.log.length : Int) < m.index)) = false := by
          rw [hro, hy, hmT, hti, hlogL, decide_eq_false (show ¬ (L.length : Int) < m.index by omega)]
          simp
        have hr' : (appendedP (C.nd i).rep m).1 = advanceP (fwdR (C.nd i).rep m) := by
          rw [appended_fwd hc hy]
          split <;> rfl
        obtain ⟨a1, a2, a3, a4, a5, a6, a7⟩ := adv_eq (fwdR (C.nd i).rep m)
        have hfo := fwd_ok hwi.ok hro m (by rw [hlogL, hix]; exact Nat.le_refl _)
        have hle : mostOf (fwdR (C.nd i).rep m) ≤ L.length := by rw [← hlogL]; exact mostTo_le (fun x => (hfo.next hro x).2.2) _
        refine ⟨by rw [setN_self, hr', a1]; exact hro, by rw [setN_self, hr', a2]; exact e.log, ?_, ?_, hcom _ _⟩
        · rw [setN_self, hr']
          unfold advanceP
          rw [if_neg]
          · exact e.cm
          · have h1 : (fwdR (C.nd i).rep m).commit = L.length := e.cm
            rw [h1, decide_eq_false (show ¬ L.length < mostOf (fwdR (C.nd i).rep m) by omega)]
            simp
        · rw [setN_self, hr', a3, a4]
          intro n hn hni
          show put (C.nd i).rep.mat m.src.toNat (max ((C.nd i).rep.mat m.src.toNat) m.index.toNat) n = _ ∧ put (C.nd i).rep.next m.src.toNat (max ((C.nd i).rep.mat m.src.toNat) m.index.toNat + 1) n = _
          rw [hsn]
          by_cases hnk : n = k
          · subst hnk
            rw [put_self, put_self]
            omega
          · rw [put_ne _ _ hnk, put_ne _ _ hnk]
            exact e.mt n hn hni

end Go.Proofs.Ytifgijoeckoojaa
end

/-
  Liveness, plain: the whole.
-/
section
set_option linter.unusedVariables false
set_option linter.unusedSimpArgs false
namespace Go.Proofs.Ytifgijoeckoojaa
open Go.Vc

theorem MInv.same {C C' : Cl} {g : Gh} (h : MInv C g) (hw : C'.Wf) (e : ∀ j, (C'.nd j).rep = (C.nd j).rep) (hs : ∀ m ∈ C'.sent, m ∈ C.sent) : MInv C' g := by
  refine ⟨hw, fun j hj => ?_, fun j hj t ht => ?_, fun m hm => h.yes m (hs m hm), fun j hj hr => ?_, fun j hj hr => ?_, h.quo, fun t ht => ?_, h.none, fun j hj => ?_, h.ll, fun m hm => h.app m (hs m hm)⟩
  · rw [e]; exact h.now j hj
  · rw [e] at ht; exact h.later j hj t ht
  · rw [e] at hr ⊢; exact h.cand j hj hr
  · rw [e] at hr ⊢; exact h.lead j hj hr
  · obtain ⟨j, hj, a1, a2⟩ := h.ldt t ht
    exact ⟨j, hj, a1, by rw [e]; exact a2⟩
  · rw [e]; exact h.log j hj

theorem SInv.same {C C' : Cl} {g : Gh} {A : Int → Nat → Nat} (h : SInv C g A) (hw : C'.Wf) (e : ∀ j, (C'.nd j).rep = (C.nd j).rep) (hs : ∀ m ∈ C'.sent, m ∈ C.sent) : SInv C' g A := by
  have hc : ∀ t p, Cannot C A t p → Cannot C' A t p := fun t p ⟨x, y, a1, a2, a3, a4, a5, a6, a7⟩ => ⟨x, y, a1, a2, a3, by rw [e]; exact a4, by rw [e]; exact a5, a6, a7⟩
  refine ⟨h.m.same hw e hs, h.asc, h.a1, fun t j hj => ?_, fun j hj => ?_, fun t j p hj => ?_, fun t u p a b c => (h.ib t u p a b c).imp id (hc t p), fun m hm hk => ?_, fun c hcc => ?_, fun c hcc => ?_, fun t x c hx hcc hV => ?_, fun j hj => ?_, fun m hm => h.ik m (hs m hm), fun m hm => h.ic m (hs m hm), fun j hj => ?_⟩
  · rw [e]; exact h.a2 t j hj
  · rw [e]; exact h.a3 j hj
  · rw [e]; exact h.ia t j p hj
  · obtain ⟨c, a1, a2, a3, a4⟩ := h.iq m (hs m hm) hk
    exact ⟨c, a1, a2, by rw [e]; exact a3, by rw [e]; exact a4⟩
  · rw [e]; exact h.il c hcc
  · rw [e]; exact fun a x b d t p k1 k2 k3 => (h.iv c hcc a x b d t p k1 k2 k3).imp id (hc t p)
  · rw [e]; exact h.vt t x c hx hcc hV
  · rw [e]; exact h.im j hj
  · rw [e]; exact h.co j hj

/-- the first i are not interrupted any longer -/
def zeroC (C : Cl) : Nat → Cl
  | 0 => ⟨C.nd, []⟩
  | i + 1 => ndC (zeroC C i) i { (zeroC C i).nd i with stop := 0 }

theorem zero_rep (C : Cl) : ∀ i j, ((zeroC C i).nd j).rep = (C.nd j).rep ∧ ((zeroC C i).nd j).sterm = (C.nd j).sterm ∧ ((zeroC C i).nd j).svote = (C.nd j).svote ∧ ((zeroC C i).nd j).slog = (C.nd j).slog
  | 0, j => ⟨rfl, rfl, rfl, rfl⟩
  | i + 1, j => by
    have h := zero_rep C i j
    by_cases hj : j = i
    · subst hj
      unfold zeroC ndC
      simp only [put_self]
      exact h
    · unfold zeroC ndC
      simp only [put_ne _ _ hj]
      exact h

theorem zero_sent (C : Cl) : ∀ i, (zeroC C i).sent = []
  | 0 => rfl
  | i + 1 => zero_sent C i

theorem zero_stop (C : Cl) : ∀ i j, ((zeroC C i).nd j).stop = if j < i then 0 else (C.nd j).stop
  | 0, j => by rw [if_neg (by omega)]; rfl
  | i + 1, j => by
    have h := zero_stop C i j
    by_cases hj : j = i
    · subst hj
      unfold zeroC ndC
      simp only [put_self]
      rw [if_pos (by omega)]
    · unfold zeroC ndC
      simp only [put_ne _ _ hj]
      rw [h]
      by_cases hlt : j < i
      · rw [if_pos hlt, if_pos (by omega)]
      · rw [if_neg hlt, if_neg (by omega)]

theorem zero_wf {C : Cl} (h : C.Wf) (i : Nat) : (zeroC C i).Wf := by
  refine ⟨fun j hj => ?_, fun j hj => ?_, fun j hj => ?_, by rw [zero_sent]; exact Nat.zero_le _⟩
  · rw [(zero_rep C i j).1]
    exact h.rep j hj
  · obtain ⟨h1, h2, h3, h4⟩ := zero_rep C i j
    rw [h1, h2, h3, h4]
    exact h.hard j hj
  · rw [zero_stop]
    split
    · exact .inl rfl
    · exact h.stop j hj

theorem zero_idle {C : Cl} {g : Gh} {A : Int → Nat → Nat} {N : Nat} {B : Int} (h : SInv C g A) (hc : CB N B C) : Idle N B (zeroC C 3) :=
  ⟨⟨g, A, h.same (zero_wf h.m.wf 3) (fun j => (zero_rep C 3 j).1) fun m hm => by rw [zero_sent] at hm; cases hm⟩, fun j hj => by rw [zero_stop, if_pos hj], zero_sent C 3, ⟨fun j hj => by rw [(zero_rep C 3 j).1]; exact hc.rep j hj, fun m hm => by rw [zero_sent] at hm; cases hm⟩⟩

theorem Idle.wf {N : Nat} {B : Int} {C : Cl} (h : Idle N B C) : C.Wf := by
  obtain ⟨g, A, hs⟩ := h.inv
  exact hs.m.wf

/-! ### the leader proposes -/
structure Done1 (i : Nat) (T : Int) (L : List RecD) (C : Cl) : Prop where
  ro : (C.nd i).rep.role = 2
  log : (C.nd i).rep.log = L
  cm : (C.nd i).rep.commit = L.length
  mt : ∀ k, k < 3 → k ≠ i → (C.nd i).rep.mat k = L.length ∧ (C.nd i).rep.next k = L.length + 1
  all : ∀ k, k < 3 → (C.nd k).rep.term = T

theorem Idle.propose {N : Nat} {B : Int} {C : Cl} (h : Idle N B C) {i : Nat} (hi : i < 3) (hN : N + 1 ≤ 200) {T : Int} (hall : ∀ k, k < 3 → (C.nd k).rep.term = T) (hr : (C.nd i).rep.role = 2) {data : ByteArray} (hd : data.size ≤ 2000) :
    proposeP (C.nd i).rep data = (propR (C.nd i).rep data, (((C.nd i).rep.log.length + 1 : Nat) : Int), 0, (proposeP (C.nd i).rep data).2.2.2) ∧
      Done1 i T ((C.nd i).rep.log ++ [⟨T, data⟩]) (flowC 2000 (propC C i data)) ∧ Idle (N + 1) B (flowC 2000 (propC C i data)) := by
  obtain ⟨g, A, hs⟩ := h.inv
  obtain ⟨hw, hid⟩ := hs.m.wf.rep i hi
  have hrb := h.cb.rep i hi
  have hlen := hrb.len
  have h1t := hw.one (by rw [hr]; decide)
  have hp := prop_ok (r := (C.nd i).rep) (data := data) (by rw [hr]; simp) (by omega) (by omega)
  refine ⟨by rw [hp], ?_⟩
  have hpw := propose_wf hw data
  have hcb := h.cb.prop hs.m.wf hi data
  have hinv : ∃ g A, SInv (propC C i data) g A := by
    obtain ⟨g', A', h', _⟩ := hs.goes (x := ((proposeP (C.nd i).rep data).1, (proposeP (C.nd i).rep data).2.2.2)) hi hpw.1 hpw.2 (prop_s hs hi data)
    exact ⟨g', A', h'⟩
  have hsm := (propose_small (r := (C.nd i).rep) hw.ok.len data).send
  have hset : propC C i data = setN C i (propR (C.nd i).rep data) (allOf (propR (C.nd i).rep data)) := by
    have := call_head hs.m.wf hi (h.stop i hi) (x := ((proposeP (C.nd i).rep data).1, (proposeP (C.nd i).rep data).2.2.2)) hpw.2 (by rw [h.sent]; simp only [List.length_nil]; omega)
    rw [h.sent, List.nil_append] at this
    unfold propC
    rw [this, hp]
  have hok : (propR (C.nd i).rep data).Wf := by rw [hp] at hpw; exact hpw.1
  generalize hr' : propR (C.nd i).rep data = r' at hset hok
  have hT : r'.term = T := by rw [← hr']; exact hall i hi
  have hro : r'.role = 2 := by rw [← hr']; exact hr
  have hidr : r'.id = i := by rw [← hr']; exact hid
  have hlog : r'.log = (C.nd i).rep.log ++ [⟨T, data⟩] := by rw [← hr', ← hall i hi]; rfl
  have hll : r'.log.length = (C.nd i).rep.log.length + 1 := by rw [hlog]; simp
  have hmat : r'.mat = (C.nd i).rep.mat := by rw [← hr']; rfl
  have hnext : r'.next = (C.nd i).rep.next := by rw [← hr']; rfl
  have hn := hok.ok.next hro
  have hcm := hok.ok.commit
  have eall : allOf r' = (othersOf i).map fun k => entriesOf r' k := by unfold allOf; rw [hidr]
  have hmu : mu i (propC C i data) ≤ 2000 := by
    rw [hset]
    exact Nat.le_trans (mu_lead hi hidr hro fun k => (hn k).2.1) (by omega)
  have hf : FI i T T (fun j => (C.nd j).rep.term) (fun j => (C.nd j).rep.role = 2) (propC C i data) := by
    rw [hset] at hinv ⊢
    rw [eall] at hinv ⊢
    refine FI.start0 hi hinv h.stop hT (.inr hro) (fun k hk hki => ?_) (fun h1 => by omega) (fun _ _ => rfl) (fun _ f => by rw [hmat, hnext]; exact hrb.nx hr f) (fun j hj => by rw [hall j hj]; exact Int.le_refl _) (Int.le_refl _) (fun _ _ => Int.le_refl _) (by show (C.nd i).rep.term ≤ T; rw [hall i hi]; exact Int.le_refl _) (fun _ _ _ hh => hh)
    exact ⟨entries_right hok.ok (by rw [hT, ← hall i hi]; exact h1t) hk (by omega) (hn k).1 (hn k).2.1 (c := r'.commit) (by omega), by show ((r'.id : Nat) : Int) = i; rw [hidr], hT, .inr ⟨rfl, fun _ => ⟨_, by omega, rfl⟩⟩⟩
  have hlast : termAt r'.log r'.log.length = T := by
    rw [hll, termAt_succ (show (C.nd i).rep.log.length < r'.log.length by omega)]
    have : r'.log[(C.nd i).rep.log.length]? = some ⟨T, data⟩ := by rw [hlog]; simp
    rw [List.getElem?_eq_getElem (show (C.nd i).rep.log.length < r'.log.length by omega)] at this
    rw [Option.some.inj this]
  have hK : KI i r'.log (propC C i data) := by
    rw [hset]
    refine ⟨by rw [setN_self]; exact hro, by rw [setN_self], ?_⟩
    rw [setN_self]
    rintro ⟨k, hk, hki, hkm⟩
    have := (hw.ok.next hr k).2.2
    rw [hmat] at hkm
    omega
  obtain ⟨f1, f2, f3⟩ := flow_fi hi hf hcb hK hmu fun C m rest hf he hs => KI.step hf he hi hlast hs
  generalize flowC 2000 (propC C i data) = C2 at f1 f2 f3 ⊢
  have hgoal : ∀ k, k < 3 → k ≠ i → (C2.nd i).rep.mat k = r'.log.length ∧ (C2.nd i).rep.next k = r'.log.length + 1 := fun k hk hki => by
    rcases f1.goal f3.ro k hk hki with z | ⟨x, hx, _⟩
    · rw [f3.log] at z
      exact z
    · rw [f2.sent] at hx
      cases hx
  have hti := f1.ti (by rw [f3.ro]; decide)
  rw [← hlog]
  refine ⟨⟨f3.ro, f3.log, ?_, hgoal, fun k hk => ?_⟩, f2⟩
  · refine f3.com ?_
    have hex : ∃ k, k < 3 ∧ k ≠ i := by
      by_cases h0 : i = 0
      · exact ⟨1, by omega, by omega⟩
      · exact ⟨0, by omega, by omega⟩
    obtain ⟨k, hk, hki⟩ := hex
    exact ⟨k, hk, hki, (hgoal k hk hki).1⟩
  · by_cases hki : k = i
    · rw [hki]; exact hti
    · rcases f1.q k hk hki with z | ⟨x, hx, _⟩
      · omega
      · rw [f2.sent] at hx
        cases hx

/-- then it ticks -/
theorem Idle.last {N : Nat} {B : Int} {C : Cl} (h : Idle N B C) {i : Nat} (hi : i < 3) (hN : N ≤ 200) (hB : B < 1000000) {T : Int} {L : List RecD} (hL : termAt L L.length = T) (h0 : 0 < L.length) (hd : Done1 i T L C) :
    Idle N (B + 1) (roundC i C) ∧ ((roundC i C).nd i).rep.log = L ∧ ∀ k, k < 3 → ((roundC i C).nd k).rep.commit = L.length ∧ ((roundC i C).nd k).rep.log = L := by
  have hT : tickT (C.nd i).rep = T := by unfold tickT; rw [if_pos hd.ro, hd.all i hi]
  obtain ⟨f1, f2, f3⟩ := h.tick hi hN (by omega) (Mx := T) (fun k hk => by rw [hd.all k hk]; exact Int.le_refl _) (by rw [hT]; exact Int.le_refl _)
  rw [hT] at f1
  have hH : HI i L (tickC C i) := by
    obtain ⟨g, A, hs⟩ := h.inv
    obtain ⟨hw, hid⟩ := hs.m.wf.rep i hi
    rw [h.tick_set hi, tick_lead hd.ro]
    refine ⟨by rw [setN_self]; exact hd.ro, by rw [setN_self]; exact hd.log, by rw [setN_self]; exact hd.cm, by rw [setN_self]; exact hd.mt, fun k hk hki => .inr ⟨entriesOf (C.nd i).rep k, ?_, rfl, peer_ent hid k, ?_⟩⟩
    · exact (all_mem hid hi).2 ⟨k, hk, hki, rfl⟩
    · show (((C.nd i).rep.commit : Nat) : Int) = _
      rw [hd.cm]
  obtain ⟨k1, k2, k3⟩ := flow_fi hi f1 f2 hH f3 fun C m rest hf he hs => HI.step hf he hi hs
  have k1 : FI i T T (fun j => (C.nd j).rep.term) (fun j => (C.nd j).rep.role = 2) (roundC i C) := k1
  have k2 : Idle N (B + 1) (roundC i C) := k2
  have k3 : HI i L (roundC i C) := k3
  generalize roundC i C = C3 at k1 k2 k3 ⊢
  refine ⟨k2, k3.log, fun k hk => ?_⟩
  by_cases hki : k = i
  · subst hki
    exact ⟨k3.cm, k3.log⟩
  · obtain ⟨g, A, hs⟩ := k2.inv
    obtain ⟨hw, hid⟩ := hs.m.wf.rep k hk
    have hti := k1.ti (by rw [k3.ro]; decide)
    have hkT : (C3.nd k).rep.term ≤ T := k1.mx k hk
    obtain ⟨m1, m2⟩ := hs.has_mat hi hk hki k3.ro (by omega)
    rw [(k3.mt k hk hki).1, k3.log, List.take_length] at m2
    rw [(k3.mt k hk hki).1] at m1
    have hlen : (C3.nd k).rep.log.length = L.length := by
      refine Nat.le_antisymm (Nat.le_of_not_lt fun hlt => ?_) m1
      obtain ⟨x, hx⟩ : ∃ x, (C3.nd k).rep.log[L.length]? = some x := ⟨_, List.getElem?_eq_getElem hlt⟩
      have hxT : x.term = T := by
        have h1 := hw.ok.log.hi x (List.mem_of_getElem? hx)
        have h2 := hw.ok.log.asc (L.length - 1) L.length (by omega) hlt (by omega)
        have h3 : (C3.nd k).rep.log[L.length]'hlt = x := by
          rw [List.getElem?_eq_getElem hlt] at hx
          exact Option.some.inj hx
        have h4 : ((C3.nd k).rep.log[L.length - 1]'(by omega)).term = T := by
          have e1 := termAt_succ (l := (C3.nd k).rep.log) (k := L.length - 1) (by omega)
          rw [show L.length - 1 + 1 = L.length by omega] at e1
          rw [← e1, ← hL, ← termAt_take m1, m2]
        rw [h3, h4] at h2
        omega
      have hpre := hs.m.log k hk L.length x hx
      have hLL := (hs.m.lead i hi k3.ro).2
      rw [hti] at hLL
      rw [hxT, hLL, k3.log] at hpre
      have := congrArg List.length hpre
      rw [List.length_take, List.length_take] at this
      omega
    have hlog : (C3.nd k).rep.log = L := by
      rw [← m2, ← hlen, List.take_length]
    refine ⟨?_, hlog⟩
    have hcm := hw.ok.commit
    rw [hlen] at hcm
    rcases k3.com k hk hki with z | ⟨x, hx, _⟩
    · omega
    · rw [k2.sent] at hx
      cases hx

end Go.Proofs.Ytifgijoeckoojaa
end

/-
  ReplicaMatches, walked.
-/
section
set_option linter.unusedVariables false
set_option linter.unusedSimpArgs false
namespace Go.Proofs.Ytifgijoeckoojaa
open Go.Vc

/-! ### terms never decrease -/
/-! ### where it lies -/
theorem log_cl {W w : World} {L : Lay} {C : Cl} {G : List Own} {Φ : PW} [Stable Φ] (cx : Ctx W w (clO L C ++ G) (CPhi Φ L C)) (h : C.Wf) {k : Nat} (hk : k < 3) {K : Ending → World → Prop} (hK : ∀ q cap w', (C.nd k).rep.log.length ≤ cap → cap ≤ maxLen → Ctx W w' (clO L C ++ G) (CPhi (MPhi Φ q (C.nd k).rep.log) L C) → K (.returned (.slice q (C.nd k).rep.log.length cap)) w') :
    Calls Try.prog F.replica_Replica_Log #[.pointer (some ⟨L.b k, 0, none⟩)] w K :=
  Log_use (focus hk cx) (h.rep k hk).1.ok.recs (h.rep k hk).1.ok.len fun q cap w h1 h2 cx => hK q cap w h1 h2 (by
    have hst : Stable (fun M w => CPhi Φ L C M w ∧ Sl M w q (C.nd k).rep.log) := instStableAnd (CPhi Φ L C) (fun M w => Sl M w q (C.nd k).rep.log)
    exact (unfocus hk cx).weak fun M w h => ⟨⟨h.1.1, h.2⟩, h.1.2⟩)

end Go.Proofs.Ytifgijoeckoojaa
end

/-
  begins, walked.
-/
section
set_option linter.unusedVariables false
set_option linter.unusedSimpArgs false
namespace Go.Proofs.Ytifgijoeckoojaa
open Go.Vc

end Go.Proofs.Ytifgijoeckoojaa
end

/-
  Leaders that were seen: pairs of a term and a number.
-/
section
set_option linter.unusedVariables false
set_option linter.unusedSimpArgs false
namespace Go.Proofs.Ytifgijoeckoojaa
open Go.Vc

end Go.Proofs.Ytifgijoeckoojaa
end

/-
  ReplicaSafe, walked.
-/
section
set_option linter.unusedVariables false
set_option linter.unusedSimpArgs false
namespace Go.Proofs.Ytifgijoeckoojaa
open Go.Vc

abbrev SPhi (Φ : PW) (es : List Value) (lead : List (Int × Int)) (kp : Option Addr) (known : List RecD) : PW := fun M w => Φ M w ∧ Elems M w es lead ∧ Sl M w kp known
instance sphi_stable (Φ : PW) [Stable Φ] (es : List Value) (lead : List (Int × Int)) (kp : Option Addr) (known : List RecD) : Stable (SPhi Φ es lead kp known) :=
  have h2 : Stable (fun M w => Elems M w es lead ∧ Sl M w kp known) := instStableAnd (fun M w => Elems M w es lead) (fun M w => Sl M w kp known)
  instStableAnd Φ (fun M w => Elems M w es lead ∧ Sl M w kp known)
/-- what the law keeps in mind is so -/
structure SafeF (g : Gh) (A : Int → Nat → Nat) (lead : List (Int × Int)) (t : Int) (known : List RecD) : Prop where
  led : ∀ x ∈ lead, g.ld x.1 = x.2 ∧ g.ld x.1 ≠ -1
  sure : Sure g A t known known.length

theorem SafeF.aft {g g' : Gh} {A A' : Int → Nat → Nat} (h : Aft g A g' A') {lead : List (Int × Int)} {t : Int} {known : List RecD} (s : SafeF g A lead t known) : SafeF g' A' lead t known :=
  ⟨fun x hx => by
    obtain ⟨a, b⟩ := s.led x hx
    have e := h.ld x.1 b
    exact ⟨by rw [e, a], by rw [e]; exact b⟩, s.sure.ext0 h.ext h.a (Int.le_refl _)⟩

theorem role_cl {W w : World} {L : Lay} {C : Cl} {G : List Own} {Φ : PW} [Stable Φ] (cx : Ctx W w (clO L C ++ G) Φ) {k : Nat} (hk : k < 3) : Calls Try.prog F.replica_Replica_Role #[.pointer (some ⟨L.b k, 0, none⟩)] w fun e w' => e = .returned (.int .i64 (C.nd k).rep.role) ∧ w' = w :=
  Role_q (here_of (focus hk cx))

theorem commit_cl {W w : World} {L : Lay} {C : Cl} {G : List Own} {Φ : PW} [Stable Φ] (cx : Ctx W w (clO L C ++ G) Φ) {k : Nat} (hk : k < 3) : Calls Try.prog F.replica_Replica_Commit #[.pointer (some ⟨L.b k, 0, none⟩)] w fun e w' => e = .returned (.int .i64 (C.nd k).rep.commit) ∧ w' = w :=
  Commit_q (here_of (focus hk cx))

theorem commit_go {W w : World} {L : Lay} {C : Cl} {G : List Own} {Φ : PW} [Stable Φ] (cx : Ctx W w (clO L C ++ G) Φ) {k : Nat} (hk : k < 3) {K : Ending → World → Prop} (hK : ∀ w', Ctx W w' (clO L C ++ G) Φ → K (.returned (.int .i64 (C.nd k).rep.commit)) w') :
    Calls Try.prog F.replica_Replica_Commit #[.pointer (some ⟨L.b k, 0, none⟩)] w K :=
  (commit_cl cx hk).mono fun e w' ⟨h1, h2⟩ => by subst h2; rw [h1]; exact hK _ cx

theorem role_go {W w : World} {L : Lay} {C : Cl} {G : List Own} {Φ : PW} [Stable Φ] (cx : Ctx W w (clO L C ++ G) Φ) {k : Nat} (hk : k < 3) {K : Ending → World → Prop} (hK : ∀ w', Ctx W w' (clO L C ++ G) Φ → K (.returned (.int .i64 (C.nd k).rep.role)) w') :
    Calls Try.prog F.replica_Replica_Role #[.pointer (some ⟨L.b k, 0, none⟩)] w K :=
  (role_cl cx hk).mono fun e w' ⟨h1, h2⟩ => by subst h2; rw [h1]; exact hK _ cx

end Go.Proofs.Ytifgijoeckoojaa
end

/-
  ReplicaSafe, walked.
-/
section
set_option linter.unusedVariables false
set_option linter.unusedSimpArgs false
namespace Go.Proofs.Ytifgijoeckoojaa
open Go.Vc

theorem Sure.cut {g : Gh} {A : Int → Nat → Nat} {s s' : Int} {l : List RecD} {n : Nat} (h : Sure g A s l n) (hs : s ≤ s') : Sure g A s' (l.take n) n := by
  rcases h with e | ⟨t, p, h1, h2, h3, h4, h5⟩
  · exact .inl e
  · exact .inr ⟨t, p, h1, by omega, h3, by rw [List.length_take]; omega, by rw [List.take_take, Nat.min_self]; exact h5⟩

end Go.Proofs.Ytifgijoeckoojaa
end

/-
  The conditions of the walks of some functions, one formula each; 'B<f>_run' says that they suffice. The formulas are printed by a program; the kernel compares them with the functions' code.
-/
section
namespace Go.Proofs.Ytifgijoeckoojaa
set_option linter.unusedVariables false
set_option linter.unusedSimpArgs false
set_option maxRecDepth 100000
open Go.Vc

/-- erratalaw08.ReplicaGoes -/
-- loop at region 31: 14 i; blocks 
-- loop at region 17: 9 lead, 10 n; blocks 
-- loop at region 12: 8 i; blocks 
-- loop at region 6: 7 i; blocks 
-- known blocks: 13 o
def Berratalaw08_ReplicaGoes (lP : Option Addr) (lN lC : Nat) (data : ByteArray) (W : World) (R : List Own) (Φ : PW) (J : Value → World → Prop) : Prop :=
  ∀ (w0 : World) (R1 : List Own), Ctx W w0 (R ++ R1) Φ → Calls Try.prog F.erratalaw08_small #[] w0 fun (e2 : Ending) (w3 : World) => ∃ (c4 : Bool), e2 = Ending.returned (Value.bool c4) ∧ ∃
  (R5 : List Own), ∃ (Φ6 : PW), Stable Φ6 ∧ Ctx W w3 (R5 ++ R1) Φ6 ∧ ∀ (w7 : World) (R8 : List Own), Ctx W w7 (R5 ++ R8) Φ6 → Calls Try.prog F.erratalaw08_begin #[] w7 fun (e9 : Ending) (w10
  : World) => ∃ (p11 : Option Addr), e9 = Ending.returned (Value.pointer p11) ∧ ∃ (R12 : List Own), ∃ (Φ13 : PW), Stable Φ13 ∧ Ctx W w10 (R12 ++ R8) Φ13 ∧ ∀ (w14 : World) (R15 : List Own),
  Ctx W w14 (R12 ++ R15) Φ13 → Calls Try.prog F.erratalaw08_few #[Value.slice lP lN lC, Value.int IntKind.i64 100] w14 fun (e16 : Ending) (w17 : World) => ∃ (c18 : Bool), e16 =
  Ending.returned (Value.bool c18) ∧ ∃ (R19 : List Own), ∃ (Φ20 : PW), Stable Φ20 ∧ Ctx W w17 (R19 ++ R15) Φ20 ∧ Br (!c18) (∀ (w21 : World) (R22 : List Own), Ctx W w21 (R19 ++ R22) Φ20 → ∀
  (w23 : World) (R24 : List Own), Ctx W w23 (R19 ++ R24) Φ20 → J (Value.bool (c4 && !p11.isNone)) w23) (Br (decide (40 < (↑data.size : Int))) (∀ (w25 : World) (R26 : List Own), Ctx W w25 (R19
  ++ R26) Φ20 → ∀ (w27 : World) (R28 : List Own), Ctx W w27 (R19 ++ R28) Φ20 → J (Value.bool (c4 && !p11.isNone)) w27) (Br p11.isNone (∀ (w29 : World) (R30 : List Own), Ctx W w29 (R19 ++ R30)
  Φ20 → ∀ (w31 : World) (R32 : List Own), Ctx W w31 (R19 ++ R32) Φ20 → J (Value.bool (c4 && !p11.isNone)) w31) (exI fun (I33 : Int → List Own → PW → Nat → Prop) => (∃ (R34 : List Own), ∃ (Φ35
  : PW), ∃ (k36 : Nat), Stable Φ35 ∧ (∀ (w37 : World) (R38 : List Own), Ctx W w37 (R19 ++ R38) Φ20 → Ctx W w37 (R34 ++ R38) Φ35) ∧ I33 0 R34 Φ35 k36) ∧ ∀ (n39 : Int) (R40 : List Own) (I41 :
  List Nat → World → Prop) (k42 : Nat), Stable I41 → I33 n39 R40 I41 k42 → Br (decide (n39 < (↑lN : Int))) ((0 ≤ n39 ∧ n39 < (↑lN : Int)) ∧ ptrK none lP fun (k43 k44 : Nat) => ∀ (w45 : World)
  (R46 : List Own), Ctx W w45 (R40 ++ R46) I41 → ∃ (n47 : Int), ∃ (n48 : Int), ∃ (n49 : Int), ∃ (s50 : ByteArray), RowAt w45 k43 (k44 + n39.toNat * 4) [Value.int IntKind.i64 n47, Value.int
  IntKind.i64 n48, Value.int IntKind.i64 n49, Value.string s50] ∧ ∀ (w51 : World) (R52 : List Own), Ctx W w51 (R40 ++ R52) I41 → Calls Try.prog F.erratalaw08_cluster_step #[Value.pointer p11,
  Value.agg #[Value.int IntKind.i64 n47, Value.int IntKind.i64 n48, Value.int IntKind.i64 n49, Value.string s50]] w51 fun (e53 : Ending) (w54 : World) => ∃ (c55 : Bool), e53 = Ending.returned
  (Value.bool c55) ∧ ∃ (R56 : List Own), ∃ (Φ57 : PW), Stable Φ57 ∧ Ctx W w54 (R56 ++ R52) Φ57 ∧ Br (!c55) (∀ (w58 : World) (R59 : List Own), Ctx W w58 (R56 ++ R59) Φ57 → J (Value.bool false)
  w58) (I64 (n39 + 1) ∧ ∃ (R60 : List Own), ∃ (Φ61 : PW), ∃ (k62 : Nat), Stable Φ61 ∧ (∀ (w63 : World) (R64 : List Own), Ctx W w63 (R56 ++ R64) Φ57 → Ctx W w63 (R60 ++ R64) Φ61) ∧ I33 (n39 +
  1) R60 Φ61 k62 ∧ k62 < k42)) (ptrK none p11 fun (k65 k66 : Nat) => ∀ (w67 : World) (R68 : List Own), Ctx W w67 (R40 ++ R68) I41 → CanWrite w67 k65 (k66 + 2) 1 ∧ ∀ (w69 : World), w69 =
  w67.setCell (Addr.mk k65 (k66 + 2) none) (Value.slice none 0 0) → ∃ (R70 : List Own), ∃ (Φ71 : PW), Stable Φ71 ∧ Ctx W w69 (R70 ++ R68) Φ71 ∧ exI fun (I72 : Int → List Own → PW → Nat →
  Prop) => (∃ (R73 : List Own), ∃ (Φ74 : PW), ∃ (k75 : Nat), Stable Φ74 ∧ (∀ (w76 : World) (R77 : List Own), Ctx W w76 (R70 ++ R77) Φ71 → Ctx W w76 (R73 ++ R77) Φ74) ∧ I72 0 R73 Φ74 k75) ∧ ∀
  (n78 : Int) (R79 : List Own) (I80 : List Nat → World → Prop) (k81 : Nat), Stable I80 → I72 n78 R79 I80 k81 → Br (decide (n78 < 3)) (ptrK none p11 fun (k82 k83 : Nat) => ∀ (w84 : World) (R85
  : List Own), Ctx W w84 (R79 ++ R85) I80 → ∃ (p86 : Option Addr), ∃ (k87 : Nat), ∃ (k88 : Nat), w84.cell? (Addr.mk k82 (k83 + 1) none) = some (Value.slice p86 k87 k88) ∧ (0 ≤ n78 ∧ n78 <
  (↑k87 : Int)) ∧ ptrK none p86 fun (k89 k90 : Nat) => ∀ (w91 : World) (R92 : List Own), Ctx W w91 (R79 ++ R92) I80 → CanWrite w91 k89 (k90 + n78.toNat * 4 + 3) 1 ∧ ∀ (w93 : World), w93 =
  w91.setCell (Addr.mk k89 (k90 + n78.toNat * 4 + 3) none) (Value.int IntKind.i64 0) → ∃ (R94 : List Own), ∃ (Φ95 : PW), Stable Φ95 ∧ Ctx W w93 (R94 ++ R92) Φ95 ∧ I64 (n78 + 1) ∧ ∃ (R96 :
  List Own), ∃ (Φ97 : PW), ∃ (k98 : Nat), Stable Φ97 ∧ (∀ (w99 : World) (R100 : List Own), Ctx W w99 (R94 ++ R100) Φ95 → Ctx W w99 (R96 ++ R100) Φ97) ∧ I72 (n78 + 1) R96 Φ97 k98 ∧ k98 < k81)
  (exI fun (I101 : Int → Int → List Own → PW → Nat → Prop) => (∃ (R102 : List Own), ∃ (Φ103 : PW), ∃ (k104 : Nat), Stable Φ103 ∧ (∀ (w105 : World) (R106 : List Own), Ctx W w105 (R79 ++ R106)
  I80 → Ctx W w105 (R102 ++ R106) Φ103) ∧ I101 (-1) 0 R102 Φ103 k104) ∧ ∀ (n107 n108 : Int) (R109 : List Own) (I110 : List Nat → World → Prop) (k111 : Nat), Stable I110 → I101 n107 n108 R109
  I110 k111 → ∀ (w112 : World) (R113 : List Own), Ctx W w112 (R109 ++ R113) I110 → Br (decide (n108 < 18) && decide (n107 < 0)) (((3 : Int) = 0 → False) ∧ ptrK none p11 fun (k114 k115 : Nat)
  => ∀ (w116 : World) (R117 : List Own), Ctx W w116 (R109 ++ R117) I110 → ∃ (p118 : Option Addr), ∃ (k119 : Nat), ∃ (k120 : Nat), w116.cell? (Addr.mk k114 k115 none) = some (Value.slice p118
  k119 k120) ∧ ((3 : Int) = 0 → False) ∧ (0 ≤ n108.tmod 3 ∧ n108.tmod 3 < (↑k119 : Int)) ∧ ptrK none p118 fun (k121 k122 : Nat) => ∀ (w123 : World) (R124 : List Own), Ctx W w123 (R109 ++
  R124) I110 → ∃ (p125 : Option Addr), w123.cell? (Addr.mk k121 (k122 + (n108.tmod 3).toNat) none) = some (Value.pointer p125) ∧ ∀ (w126 : World) (R127 : List Own), Ctx W w126 (R109 ++ R127)
  I110 → Calls Try.prog F.replica_Replica_Tick #[Value.pointer p125] w126 fun (e128 : Ending) (w129 : World) => ∃ (c130 : Bool), ∃ (n131 : Int), ∃ (n132 : Int), ∃ (n133 : Int), ∃ (p134 :
  Option Addr), ∃ (k135 : Nat), ∃ (k136 : Nat), ∃ (p137 : Option Addr), ∃ (k138 : Nat), ∃ (k139 : Nat), e128 = Ending.returned (Value.agg #[Value.bool c130, Value.int IntKind.i64 n131,
  Value.int IntKind.i64 n132, Value.int IntKind.i64 n133, Value.slice p134 k135 k136, Value.slice p137 k138 k139]) ∧ ∃ (R140 : List Own), ∃ (Φ141 : PW), Stable Φ141 ∧ Ctx W w129 (R140 ++
  R127) Φ141 ∧ ∀ (w142 : World) (R143 : List Own), Ctx W w142 (R140 ++ R143) Φ141 → Calls Try.prog F.erratalaw08_cluster_done #[Value.pointer p11, Value.int IntKind.i64 (n108.tmod 3),
  Value.agg #[Value.bool c130, Value.int IntKind.i64 n131, Value.int IntKind.i64 n132, Value.int IntKind.i64 n133, Value.slice p134 k135 k136, Value.slice p137 k138 k139]] w142 fun (e144 :
  Ending) (w145 : World) => ∃ (c146 : Bool), e144 = Ending.returned (Value.bool c146) ∧ ∃ (R147 : List Own), ∃ (Φ148 : PW), Stable Φ148 ∧ Ctx W w145 (R147 ++ R143) Φ148 ∧ Br (!c146) (∀ (w149
  : World) (R150 : List Own), Ctx W w149 (R147 ++ R150) Φ148 → J (Value.bool false) w149) (∀ (w151 : World) (R152 : List Own), Ctx W w151 (R147 ++ R152) Φ148 → Calls Try.prog
  F.erratalaw08_cluster_flow #[Value.pointer p11] w151 fun (e153 : Ending) (w154 : World) => ∃ (c155 : Bool), e153 = Ending.returned (Value.bool c155) ∧ ∃ (R156 : List Own), ∃ (Φ157 : PW),
  Stable Φ157 ∧ Ctx W w154 (R156 ++ R152) Φ157 ∧ Br (!c155) (∀ (w158 : World) (R159 : List Own), Ctx W w158 (R156 ++ R159) Φ157 → J (Value.bool false) w158) (ptrK none p11 fun (k160 k161 :
  Nat) => ∀ (w162 : World) (R163 : List Own), Ctx W w162 (R156 ++ R163) Φ157 → ∃ (p164 : Option Addr), ∃ (k165 : Nat), ∃ (k166 : Nat), w162.cell? (Addr.mk k160 k161 none) = some (Value.slice
  p164 k165 k166) ∧ ((3 : Int) = 0 → False) ∧ (0 ≤ n108.tmod 3 ∧ n108.tmod 3 < (↑k165 : Int)) ∧ ptrK none p164 fun (k167 k168 : Nat) => ∀ (w169 : World) (R170 : List Own), Ctx W w169 (R156 ++
  R170) Φ157 → ∃ (p171 : Option Addr), w169.cell? (Addr.mk k167 (k168 + (n108.tmod 3).toNat) none) = some (Value.pointer p171) ∧ ∀ (w172 : World) (R173 : List Own), Ctx W w172 (R156 ++ R173)
  Φ157 → Calls Try.prog F.replica_Replica_Role #[Value.pointer p171] w172 fun (e174 : Ending) (w175 : World) => ∃ (n176 : Int), e174 = Ending.returned (Value.int IntKind.i64 n176) ∧ ∃ (R177 :
  List Own), ∃ (Φ178 : PW), Stable Φ178 ∧ Ctx W w175 (R177 ++ R173) Φ178 ∧ Br (decide (n176 = 2)) (((3 : Int) = 0 → False) ∧ I64 (n108 + 1) ∧ ∃ (R179 : List Own), ∃ (Φ180 : PW), ∃ (k181 :
  Nat), Stable Φ180 ∧ (∀ (w182 : World) (R183 : List Own), Ctx W w182 (R177 ++ R183) Φ178 → Ctx W w182 (R179 ++ R183) Φ180) ∧ I101 (n108.tmod 3) (n108 + 1) R179 Φ180 k181 ∧ k181 < k111) (I64
  (n108 + 1) ∧ ∃ (R184 : List Own), ∃ (Φ185 : PW), ∃ (k186 : Nat), Stable Φ185 ∧ (∀ (w187 : World) (R188 : List Own), Ctx W w187 (R177 ++ R188) Φ178 → Ctx W w187 (R184 ++ R188) Φ185) ∧ I101
  n107 (n108 + 1) R184 Φ185 k186 ∧ k186 < k111)))) (Br (decide (n107 < 0)) (∀ (w189 : World) (R190 : List Own), Ctx W w189 (R109 ++ R190) I110 → J (Value.bool false) w189) (ptrK none p11 fun
  (k191 k192 : Nat) => ∀ (w193 : World) (R194 : List Own), Ctx W w193 (R109 ++ R194) I110 → ∃ (p195 : Option Addr), ∃ (k196 : Nat), ∃ (k197 : Nat), w193.cell? (Addr.mk k191 k192 none) = some
  (Value.slice p195 k196 k197) ∧ (0 ≤ n107 ∧ n107 < (↑k196 : Int)) ∧ ptrK none p195 fun (k198 k199 : Nat) => ∀ (w200 : World) (R201 : List Own), Ctx W w200 (R109 ++ R201) I110 → ∃ (p202 :
  Option Addr), w200.cell? (Addr.mk k198 (k199 + n107.toNat) none) = some (Value.pointer p202) ∧ ∀ (w203 : World) (R204 : List Own), Ctx W w203 (R109 ++ R204) I110 → Calls Try.prog
  F.replica_Replica_Propose #[Value.pointer p202, Value.string data] w203 fun (e205 : Ending) (w206 : World) => ∃ (n207 : Int), ∃ (n208 : Int), ∃ (c209 : Bool), ∃ (n210 : Int), ∃ (n211 :
  Int), ∃ (n212 : Int), ∃ (p213 : Option Addr), ∃ (k214 : Nat), ∃ (k215 : Nat), ∃ (p216 : Option Addr), ∃ (k217 : Nat), ∃ (k218 : Nat), e205 = Ending.returned (Value.tuple #[Value.int
  IntKind.i64 n207, Value.int IntKind.i64 n208, Value.agg #[Value.bool c209, Value.int IntKind.i64 n210, Value.int IntKind.i64 n211, Value.int IntKind.i64 n212, Value.slice p213 k214 k215,
  Value.slice p216 k217 k218]]) ∧ ∃ (R219 : List Own), ∃ (Φ220 : PW), Stable Φ220 ∧ Ctx W w206 (R219 ++ R204) Φ220 ∧ ∀ (b : Nat), Br (decide (n208 ≠ 0)) (∀ (w221 : World) (R222 : List Own),
  Ctx W w221 (R219 ++ R222) Φ220 → J (Value.bool false) w221) (∀ (w223 : World) (R224 : List Own), Ctx W w223 (R219 ++ R224) Φ220 → Calls Try.prog F.erratalaw08_cluster_done #[Value.pointer
  p11, Value.int IntKind.i64 n107, Value.agg #[Value.bool c209, Value.int IntKind.i64 n210, Value.int IntKind.i64 n211, Value.int IntKind.i64 n212, Value.slice p213 k214 k215, Value.slice
  p216 k217 k218]] w223 fun (e225 : Ending) (w226 : World) => ∃ (c227 : Bool), e225 = Ending.returned (Value.bool c227) ∧ ∃ (R228 : List Own), ∃ (Φ229 : PW), Stable Φ229 ∧ Ctx W w226 (R228 ++
  R224) Φ229 ∧ Br (!c227) (∀ (w230 : World) (R231 : List Own), Ctx W w230 (R228 ++ R231) Φ229 → J (Value.bool false) w230) (∀ (w232 : World) (R233 : List Own), Ctx W w232 (R228 ++ R233) Φ229
  → Calls Try.prog F.erratalaw08_cluster_flow #[Value.pointer p11] w232 fun (e234 : Ending) (w235 : World) => ∃ (c236 : Bool), e234 = Ending.returned (Value.bool c236) ∧ ∃ (R237 : List Own),
  ∃ (Φ238 : PW), Stable Φ238 ∧ Ctx W w235 (R237 ++ R233) Φ238 ∧ Br (!c236) (∀ (w239 : World) (R240 : List Own), Ctx W w239 (R237 ++ R240) Φ238 → J (Value.bool false) w239) (ptrK none p11 fun
  (k241 k242 : Nat) => ∀ (w243 : World) (R244 : List Own), Ctx W w243 (R237 ++ R244) Φ238 → ∃ (p245 : Option Addr), ∃ (k246 : Nat), ∃ (k247 : Nat), w243.cell? (Addr.mk k241 k242 none) = some
  (Value.slice p245 k246 k247) ∧ (0 ≤ n107 ∧ n107 < (↑k246 : Int)) ∧ ptrK none p245 fun (k248 k249 : Nat) => ∀ (w250 : World) (R251 : List Own), Ctx W w250 (R237 ++ R251) Φ238 → ∃ (p252 :
  Option Addr), w250.cell? (Addr.mk k248 (k249 + n107.toNat) none) = some (Value.pointer p252) ∧ ∀ (w253 : World) (R254 : List Own), Ctx W w253 (R237 ++ R254) Φ238 → Calls Try.prog
  F.replica_Replica_Commit #[Value.pointer p252] w253 fun (e255 : Ending) (w256 : World) => ∃ (n257 : Int), e255 = Ending.returned (Value.int IntKind.i64 n257) ∧ ∃ (R258 : List Own), ∃ (Φ259
  : PW), Stable Φ259 ∧ Ctx W w256 (R258 ++ R254) Φ259 ∧ Br (decide (n257 ≠ n207)) (∀ (w260 : World) (R261 : List Own), Ctx W w260 (R258 ++ R261) Φ259 → J (Value.bool false) w260) (ptrK none
  p11 fun (k262 k263 : Nat) => ∀ (w264 : World) (R265 : List Own), Ctx W w264 (R258 ++ R265) Φ259 → ∃ (p266 : Option Addr), ∃ (k267 : Nat), ∃ (k268 : Nat), w264.cell? (Addr.mk k262 k263 none)
  = some (Value.slice p266 k267 k268) ∧ (0 ≤ n107 ∧ n107 < (↑k267 : Int)) ∧ ptrK none p266 fun (k269 k270 : Nat) => ∀ (w271 : World) (R272 : List Own), Ctx W w271 (R258 ++ R272) Φ259 → ∃
  (p273 : Option Addr), w271.cell? (Addr.mk k269 (k270 + n107.toNat) none) = some (Value.pointer p273) ∧ ∀ (w274 : World) (R275 : List Own), Ctx W w274 (R258 ++ R275) Φ259 → Calls Try.prog
  F.replica_Replica_Tick #[Value.pointer p273] w274 fun (e276 : Ending) (w277 : World) => ∃ (c278 : Bool), ∃ (n279 : Int), ∃ (n280 : Int), ∃ (n281 : Int), ∃ (p282 : Option Addr), ∃ (k283 :
  Nat), ∃ (k284 : Nat), ∃ (p285 : Option Addr), ∃ (k286 : Nat), ∃ (k287 : Nat), e276 = Ending.returned (Value.agg #[Value.bool c278, Value.int IntKind.i64 n279, Value.int IntKind.i64 n280,
  Value.int IntKind.i64 n281, Value.slice p282 k283 k284, Value.slice p285 k286 k287]) ∧ ∃ (R288 : List Own), ∃ (Φ289 : PW), Stable Φ289 ∧ Ctx W w277 (R288 ++ R275) Φ289 ∧ ∀ (w290 : World)
  (R291 : List Own), Ctx W w290 (R288 ++ R291) Φ289 → Calls Try.prog F.erratalaw08_cluster_done #[Value.pointer p11, Value.int IntKind.i64 n107, Value.agg #[Value.bool c278, Value.int
  IntKind.i64 n279, Value.int IntKind.i64 n280, Value.int IntKind.i64 n281, Value.slice p282 k283 k284, Value.slice p285 k286 k287]] w290 fun (e292 : Ending) (w293 : World) => ∃ (c294 :
  Bool), e292 = Ending.returned (Value.bool c294) ∧ ∃ (R295 : List Own), ∃ (Φ296 : PW), Stable Φ296 ∧ Ctx W w293 (R295 ++ R291) Φ296 ∧ Br (!c294) (∀ (w297 : World) (R298 : List Own), Ctx W
  w297 (R295 ++ R298) Φ296 → J (Value.bool false) w297) (∀ (w299 : World) (R300 : List Own), Ctx W w299 (R295 ++ R300) Φ296 → Calls Try.prog F.erratalaw08_cluster_flow #[Value.pointer p11]
  w299 fun (e301 : Ending) (w302 : World) => ∃ (c303 : Bool), e301 = Ending.returned (Value.bool c303) ∧ ∃ (R304 : List Own), ∃ (Φ305 : PW), Stable Φ305 ∧ Ctx W w302 (R304 ++ R300) Φ305 ∧ Br
  (!c303) (∀ (w306 : World) (R307 : List Own), Ctx W w306 (R304 ++ R307) Φ305 → J (Value.bool false) w306) (exI fun (I308 : Int → List Own → PW → Nat → Prop) => (∃ (R309 : List Own), ∃ (Φ310
  : PW), ∃ (k311 : Nat), Stable Φ310 ∧ (∀ (w312 : World) (R313 : List Own), Ctx W w312 (R304 ++ R313) Φ305 → Ctx W w312 (R309 ++ R313) Φ310) ∧ I308 0 R309 Φ310 k311) ∧ ∀ (n314 : Int) (R315 :
  List Own) (I316 : List Nat → World → Prop) (k317 : Nat), Stable I316 → I308 n314 R315 I316 k317 → Br (decide (n314 < 3)) (∃ (R318 : List Own), ∃ (Φ319 : PW), Stable Φ319 ∧ (∀ (w320 : World)
  (R321 : List Own), Ctx W w320 (R315 ++ R321) I316 → Ctx W w320 (R318 ++ R321) Φ319) ∧ ptrK none p11 fun (k322 k323 : Nat) => ∃ (p324 : Option Addr), ∃ (k325 : Nat), ∃ (k326 : Nat), (∀ (w327
  : World) (R328 : List Own), Ctx W w327 (R318 ++ R328) Φ319 → ∃ (p329 : Option Addr), ∃ (k330 : Nat), ∃ (k331 : Nat), w327.cell? (Addr.mk k322 k323 none) = some (Value.slice p329 k330 k331)
  ∧ Value.slice p329 k330 k331 = Value.slice p324 k325 k326) ∧ (0 ≤ n314 ∧ n314 < (↑k325 : Int)) ∧ ptrK none p324 fun (k332 k333 : Nat) => ∃ (p334 : Option Addr), (∀ (w335 : World) (R336 :
  List Own), Ctx W w335 (R318 ++ R336) Φ319 → ∃ (p337 : Option Addr), w335.cell? (Addr.mk k332 (k333 + n314.toNat) none) = some (Value.pointer p337) ∧ Value.pointer p337 = Value.pointer p334)
  ∧ ∀ (w338 : World) (R339 : List Own), Ctx W w338 (R315 ++ R339) I316 → Calls Try.prog F.replica_Replica_Commit #[Value.pointer p334] w338 fun (e340 : Ending) (w341 : World) => ∃ (n342 :
  Int), e340 = Ending.returned (Value.int IntKind.i64 n342) ∧ ∃ (R343 : List Own), ∃ (Φ344 : PW), Stable Φ344 ∧ Ctx W w341 (R343 ++ R339) Φ344 ∧ (∀ (w345 : World) (R346 : List Own), Ctx W
  w345 (R343 ++ R346) Φ344 → Ctx W w345 (R318 ++ R346) Φ319) ∧ ∃ (R347 : List Own), ∃ (Φ348 : PW), Stable Φ348 ∧ (∀ (w349 : World) (R350 : List Own), Ctx W w349 (R343 ++ R350) Φ344 → Ctx W
  w349 (R347 ++ R350) Φ348) ∧ Br (decide (n342 ≠ n207)) (∀ (w351 : World) (R352 : List Own), Ctx W w351 (R343 ++ R352) Φ344 → J (Value.bool false) w351) (ptrK none p11 fun (k353 k354 : Nat)
  => ptrK none p11 fun (k355 k356 : Nat) => ∃ (p357 : Option Addr), ∃ (k358 : Nat), ∃ (k359 : Nat), (∀ (w360 : World) (R361 : List Own), Ctx W w360 (R347 ++ R361) Φ348 → ∃ (p362 : Option
  Addr), ∃ (k363 : Nat), ∃ (k364 : Nat), w360.cell? (Addr.mk k353 k354 none) = some (Value.slice p362 k363 k364) ∧ Value.slice p362 k363 k364 = Value.slice p357 k358 k359) ∧ ∃ (p365 : Option
  Addr), ∃ (k366 : Nat), ∃ (k367 : Nat), (∀ (w368 : World) (R369 : List Own), Ctx W w368 (R347 ++ R369) Φ348 → ∃ (p370 : Option Addr), ∃ (k371 : Nat), ∃ (k372 : Nat), w368.cell? (Addr.mk k355
  k356 none) = some (Value.slice p370 k371 k372) ∧ Value.slice p370 k371 k372 = Value.slice p365 k366 k367) ∧ (0 ≤ n314 ∧ n314 < (↑k358 : Int)) ∧ ptrK none p357 fun (k373 k374 : Nat) => (0 ≤
  n107 ∧ n107 < (↑k366 : Int)) ∧ ptrK none p365 fun (k375 k376 : Nat) => ∃ (p377 : Option Addr), (∀ (w378 : World) (R379 : List Own), Ctx W w378 (R347 ++ R379) Φ348 → ∃ (p380 : Option Addr),
  w378.cell? (Addr.mk k373 (k374 + n314.toNat) none) = some (Value.pointer p380) ∧ Value.pointer p380 = Value.pointer p377) ∧ ∃ (p381 : Option Addr), (∀ (w382 : World) (R383 : List Own), Ctx
  W w382 (R347 ++ R383) Φ348 → ∃ (p384 : Option Addr), w382.cell? (Addr.mk k375 (k376 + n107.toNat) none) = some (Value.pointer p384) ∧ Value.pointer p384 = Value.pointer p381) ∧ ∀ (w385 :
  World) (R386 : List Own), Ctx W w385 (R343 ++ R386) Φ344 → Calls Try.prog F.replica_Replica_Log #[Value.pointer p377] w385 fun (e387 : Ending) (w388 : World) => ∃ (p389 : Option Addr), ∃
  (k390 : Nat), ∃ (k391 : Nat), e387 = Ending.returned (Value.slice p389 k390 k391) ∧ ∃ (R392 : List Own), ∃ (Φ393 : PW), Stable Φ393 ∧ Ctx W w388 (R392 ++ R386) Φ393 ∧ (∀ (w394 : World)
  (R395 : List Own), Ctx W w394 (R392 ++ R395) Φ393 → Ctx W w394 (R347 ++ R395) Φ348) ∧ ∀ (w396 : World) (R397 : List Own), Ctx W w396 (R392 ++ R397) Φ393 → Calls Try.prog
  F.replica_Replica_Log #[Value.pointer p381] w396 fun (e398 : Ending) (w399 : World) => ∃ (p400 : Option Addr), ∃ (k401 : Nat), ∃ (k402 : Nat), e398 = Ending.returned (Value.slice p400 k401
  k402) ∧ ∃ (R403 : List Own), ∃ (Φ404 : PW), Stable Φ404 ∧ Ctx W w399 (R403 ++ R397) Φ404 ∧ ∀ (w405 : World) (R406 : List Own), Ctx W w405 (R403 ++ R406) Φ404 → Calls Try.prog
  F.errataref08_SameRecs #[Value.slice p389 k390 k391, Value.slice p400 k401 k402] w405 fun (e407 : Ending) (w408 : World) => ∃ (c409 : Bool), e407 = Ending.returned (Value.bool c409) ∧ ∃
  (R410 : List Own), ∃ (Φ411 : PW), Stable Φ411 ∧ Ctx W w408 (R410 ++ R406) Φ411 ∧ Br (!c409) (∀ (w412 : World) (R413 : List Own), Ctx W w412 (R410 ++ R413) Φ411 → J (Value.bool false) w412)
  (I64 (n314 + 1) ∧ ∃ (R414 : List Own), ∃ (Φ415 : PW), ∃ (k416 : Nat), Stable Φ415 ∧ (∀ (w417 : World) (R418 : List Own), Ctx W w417 (R410 ++ R418) Φ411 → Ctx W w417 (R414 ++ R418) Φ415) ∧
  I308 (n314 + 1) R414 Φ415 k416 ∧ k416 < k317))) (Br c4 (ptrK none p11 fun (k419 k420 : Nat) => ∀ (w421 : World) (R422 : List Own), Ctx W w421 (R315 ++ R422) I316 → ∃ (p423 : Option Addr), ∃
  (k424 : Nat), ∃ (k425 : Nat), w421.cell? (Addr.mk k419 k420 none) = some (Value.slice p423 k424 k425) ∧ (0 ≤ n107 ∧ n107 < (↑k424 : Int)) ∧ ptrK none p423 fun (k426 k427 : Nat) => ∀ (w428 :
  World) (R429 : List Own), Ctx W w428 (R315 ++ R429) I316 → ∃ (p430 : Option Addr), w428.cell? (Addr.mk k426 (k427 + n107.toNat) none) = some (Value.pointer p430) ∧ ∀ (w431 : World) (R432 :
  List Own), Ctx W w431 (R315 ++ R432) I316 → Calls Try.prog F.replica_Replica_Log #[Value.pointer p430] w431 fun (e433 : Ending) (w434 : World) => ∃ (p435 : Option Addr), ∃ (k436 : Nat), ∃
  (k437 : Nat), e433 = Ending.returned (Value.slice p435 k436 k437) ∧ ∃ (R438 : List Own), ∃ (Φ439 : PW), Stable Φ439 ∧ Ctx W w434 (R438 ++ R432) Φ439 ∧ I64 (n207 - 1) ∧ (0 ≤ n207 - 1 ∧ n207
  - 1 < (↑k436 : Int)) ∧ ptrK none p435 fun (k440 k441 : Nat) => ∀ (w442 : World) (R443 : List Own), Ctx W w442 (R438 ++ R443) Φ439 → ∃ (s444 : ByteArray), w442.cell? (Addr.mk k440 (k441 +
  (n207 - 1).toNat * 2 + 1) none) = some (Value.string s444) ∧ ∀ (w445 : World) (R446 : List Own), Ctx W w445 (R438 ++ R446) Φ439 → J (Value.bool (decide (s444 = data))) w445) (∀ (w447 :
  World) (R448 : List Own), Ctx W w447 (R315 ++ R448) I316 → J (Value.bool false) w447)))))))))))))))

theorem Berratalaw08_ReplicaGoes_run (lP : Option Addr) (lN lC : Nat) (data : ByteArray) {W w : World} {R : List Own} {Φ : PW} [Stable Φ] {J : Value → World → Prop} (c : Ctx W w R Φ) (h : Berratalaw08_ReplicaGoes lP lN lC data W R Φ J) : Calls Try.prog F.erratalaw08_ReplicaGoes #[.slice lP lN lC, .string data] w fun e w' => ∃ v, e = .returned v ∧ J v w' :=
  vcFS_sound (H := { keep := some [0, 1, 4, 5, 6, 7, 8, 9, 10, 11, 12, 13, 14, 28, 37, 46, 51, 66, 87, 97, 101, 140, 157, 159, 191], track := [13], stages := [(33, [.held [(0, true), (4, true), (8, true), (1, true), (2, true), (3, true), (5, true), (6, true), (7, false)], .held [(9, true), (10, true), (11, true), (15, true), (19, true), (23, true), (12, true), (20, true), (13, true), (21, true), (14, true), (22, true), (16, true), (24, true), (17, true), (25, true), (18, false)], .stage [] (some 26), .stage [] (some 27), .stage [28, 29] none])], split := [3, 19, 26, 28, 35], loops := [(31, [(14, .one (.int .i64))], []), (17, [(9, .one (.int .i64)), (10, .one (.int .i64))], []), (12, [(8, .one (.int .i64))], []), (6, [(7, .one (.int .i64))], [])] }) (by rw [show vcFS Try.prog W { keep := some [0, 1, 4, 5, 6, 7, 8, 9, 10, 11, 12, 13, 14, 28, 37, 46, 51, 66, 87, 97, 101, 140, 157, 159, 191], track := [13], stages := [(33, [.held [(0, true), (4, true), (8, true), (1, true), (2, true), (3, true), (5, true), (6, true), (7, false)], .held [(9, true), (10, true), (11, true), (15, true), (19, true), (23, true), (12, true), (20, true), (13, true), (21, true), (14, true), (22, true), (16, true), (24, true), (17, true), (25, true), (18, false)], .stage [] (some 26), .stage [] (some 27), .stage [28, 29] none])], split := [3, 19, 26, 28, 35], loops := [(31, [(14, .one (.int .i64))], []), (17, [(9, .one (.int .i64)), (10, .one (.int .i64))], []), (12, [(8, .one (.int .i64))], []), (6, [(7, .one (.int .i64))], [])] } F.erratalaw08_ReplicaGoes #[.slice lP lN lC, .string data] R Φ J = Berratalaw08_ReplicaGoes lP lN lC data W R Φ J by kernel_rfl]; exact h) c

/-- (*erratalaw08.cluster).flow -/
-- loop at region 2: 3 n; blocks 
def Berratalaw08_cluster_flow (xB xO : Nat) (W : World) (R : List Own) (Φ : PW) (J : Value → World → Prop) : Prop :=
  exI fun (I0 : Int → List Own → PW → Nat → Prop) => (∃ (R1 : List Own), ∃ (Φ2 : PW), ∃ (k3 : Nat), Stable Φ2 ∧ (∀ (w4 : World) (R5 : List Own), Ctx W w4 (R ++ R5) Φ → Ctx W w4 (R1 ++ R5) Φ2)
  ∧ I0 0 R1 Φ2 k3) ∧ ∀ (n6 : Int) (R7 : List Own) (I8 : List Nat → World → Prop) (k9 : Nat), Stable I8 → I0 n6 R7 I8 k9 → ∀ (w10 : World) (R11 : List Own), Ctx W w10 (R7 ++ R11) I8 → ∃ (p12 :
  Option Addr), ∃ (k13 : Nat), ∃ (k14 : Nat), (decide (n6 < 2000) = true → w10.cell? (Addr.mk xB (xO + 2) none) = some (Value.slice p12 k13 k14)) ∧ Br (decide (n6 < 2000) && decide (0 < (↑k13
  : Int))) (∀ (w15 : World) (R16 : List Own), Ctx W w15 (R7 ++ R16) I8 → Calls Try.prog F.erratalaw08_cluster_arrive #[Value.pointer (some (Addr.mk xB xO none)), Value.int IntKind.i64 0,
  Value.bool false] w15 fun (e17 : Ending) (w18 : World) => ∃ (c19 : Bool), e17 = Ending.returned (Value.bool c19) ∧ ∃ (R20 : List Own), ∃ (Φ21 : PW), Stable Φ21 ∧ Ctx W w18 (R20 ++ R16) Φ21
  ∧ Br (!c19) (∀ (w22 : World) (R23 : List Own), Ctx W w22 (R20 ++ R23) Φ21 → J (Value.bool false) w22) (I64 (n6 + 1) ∧ ∃ (R24 : List Own), ∃ (Φ25 : PW), ∃ (k26 : Nat), Stable Φ25 ∧ (∀ (w27 :
  World) (R28 : List Own), Ctx W w27 (R20 ++ R28) Φ21 → Ctx W w27 (R24 ++ R28) Φ25) ∧ I0 (n6 + 1) R24 Φ25 k26 ∧ k26 < k9)) (∀ (w29 : World) (R30 : List Own), Ctx W w29 (R7 ++ R30) I8 → J
  (Value.bool true) w29)

theorem Berratalaw08_cluster_flow_run (xB xO : Nat) {W w : World} {R : List Own} {Φ : PW} [Stable Φ] {J : Value → World → Prop} (c : Ctx W w R Φ) (h : Berratalaw08_cluster_flow xB xO W R Φ J) : Calls Try.prog F.erratalaw08_cluster_flow #[.pointer (some ⟨xB, xO, none⟩)] w fun e w' => ∃ v, e = .returned v ∧ J v w' :=
  vcFS_sound (H := { keep := some [0, 2, 3, 13, 18], loops := [(2, [(3, .one (.int .i64))], [])] }) (by rw [show vcFS Try.prog W { keep := some [0, 2, 3, 13, 18], loops := [(2, [(3, .one (.int .i64))], [])] } F.erratalaw08_cluster_flow #[.pointer (some ⟨xB, xO, none⟩)] R Φ J = Berratalaw08_cluster_flow xB xO W R Φ J by kernel_rfl]; exact h) c

end Go.Proofs.Ytifgijoeckoojaa
end

/-
  All messages arrive, walked; a tick and a proposal in a cluster, walked.
-/
section
set_option linter.unusedVariables false
set_option linter.unusedSimpArgs false
namespace Go.Proofs.Ytifgijoeckoojaa
open Go.Vc

theorem flow_succ (n : Nat) (C : Cl) : flowC (n + 1) C = if C.sent.length = 0 then C else flowC n (arriveC C 0 false) := rfl
theorem flow_zero (C : Cl) : flowC 0 C = C := rfl
theorem flow_stop {C : Cl} (h : C.sent.length = 0) : ∀ n, flowC n C = C
  | 0 => rfl
  | n + 1 => by rw [flow_succ, if_pos h]

attribute [local irreducible] flowC

set_option maxRecDepth 20000 in
theorem flow_use {W w : World} {L : Lay} {C : Cl} {G : List Own} {Φ : PW} [Stable Φ] (cx : Ctx W w (clO L C ++ G) (CPhi Φ L C)) (h : C.Wf) {K : Ending → World → Prop}
    (hK : ∀ L' w', L'.x = L.x → Ctx W w' (clO L' (flowC 2000 C) ++ G) (CPhi Φ L' (flowC 2000 C)) → K (.returned (.bool true)) w') : Calls Try.prog F.erratalaw08_cluster_flow #[.pointer (some ⟨L.x, 0, none⟩)] w K := by
  refine (Berratalaw08_cluster_flow_run L.x 0 (J := fun u w' => K (.returned u) w') cx ?_).mono fun e w' ⟨v, he, hj⟩ => by rw [he]; exact hj
  clear cx
  refine exI_mk (fun nI R' Φ' k => ∃ (n : Nat) (L' : Lay) (C' : Cl), nI = n ∧ n ≤ 2000 ∧ L'.x = L.x ∧ C'.Wf ∧ flowC (2000 - n) C' = flowC 2000 C ∧ R' = clO L' C' ++ G ∧ Φ' = CPhi Φ L' C' ∧ k = 2000 - n)
    ⟨⟨clO L C ++ G, CPhi Φ L C, _, inferInstance, fun w F cx => cx, 0, L, C, rfl, Nat.zero_le _, rfl, h, by rw [Nat.sub_zero], rfl, rfl, rfl⟩, ?_⟩
  rintro nI R1 Φ1 k _ ⟨n, L1, C1, rfl, hn, hx, hw, hfl, rfl, rfl, rfl⟩
  rw [← hx]
  refine fun w F cx => ⟨L1.tp, C1.sent.length, L1.tc, fun _ => cx.get 0 rfl rfl, Br.intro (fun hgo => fun w F cx => ?_) (fun hend => fun w F cx => ?_)⟩
  · simp only [Bool.and_eq_true, decide_eq_true_eq] at hgo
    obtain ⟨hn2, hs⟩ := hgo
    refine arrive_use (gl cx) hw 0 false fun L2 w hx2 cx => ⟨true, rfl, clO L2 (arriveC C1 0 false) ++ G, CPhi Φ L2 (arriveC C1 0 false), inferInstance, gr cx, Br.intro (fun h => by cases h) (fun _ => ⟨by unfold I64; omega, clO L2 (arriveC C1 0 false) ++ G, CPhi Φ L2 (arriveC C1 0 false), 2000 - (n + 1), inferInstance, fun w F cx => cx, ⟨n + 1, L2, arriveC C1 0 false, rfl, by omega, by rw [hx2, hx], arrive_wf hw 0 false, ?_, rfl, rfl, rfl⟩, by omega⟩)⟩
    rw [← hfl, show 2000 - n = (2000 - (n + 1)) + 1 by omega, flow_succ, if_neg (by omega)]
  · have hfin : C1 = flowC 2000 C := by
      rw [← hfl]
      by_cases hs : C1.sent.length = 0
      · rw [flow_stop hs]
      · have : n = 2000 := by
          simp only [Bool.and_eq_false_iff, decide_eq_false_iff_not] at hend
          omega
        rw [this]
        exact (flow_zero C1).symm
    have := hK L1 w hx (by rw [← hfin]; exact cx.left)
    exact this

/-- nothing is in flight any longer -/
theorem lose_all {W w w' : World} {L : Lay} {C : Cl} {G F : List Own} {Φ : PW} [Stable Φ] (cx : Ctx W w (clO L C ++ G ++ F) (CPhi Φ L C)) (hw : w' = w.setCell ⟨L.x, 2, none⟩ (.slice none 0 0)) :
    Ctx W w' (clO (L.sentAt none 0 []) (zeroC C 0) ++ G ++ F) (CPhi Φ (L.sentAt none 0 []) (zeroC C 0)) := by
  have cx2 := cx.put 0 hw rfl
  have cx3 : Ctx W w' (.buf L.tp C.sent.length L.tc L.mc 37 9 :: ([.blk L.x [.slice L.rp 3 L.rc, .slice L.sp 3 L.sc, .slice none 0 0] 34, .buf L.rp 3 L.rc (rCells L) 46 1, .buf L.sp 3 L.sc (sCells L C) 42 4] ++ (repsO L C ++ G ++ F))) (CPhi Φ L C) :=
    cx2.perm (List.perm_middle (l₁ := [Own.blk L.x [.slice L.rp 3 L.rc, .slice L.sp 3 L.sc, .slice none 0 0] 34, .buf L.rp 3 L.rc (rCells L) 46 1, .buf L.sp 3 L.sc (sCells L C) 42 4]))
  have cx4 : Ctx W w' ([.blk L.x [.slice L.rp 3 L.rc, .slice L.sp 3 L.sc, .slice none 0 0] 34, .buf L.rp 3 L.rc (rCells L) 46 1, .buf L.sp 3 L.sc (sCells L C) 42 4] ++ (repsO L C ++ G ++ F)) (CPhi Φ L C) := cx3.sub (List.sublist_cons_self _ _)
  have cx5 := cx4.nobuf 37 9
  have cx6 : Ctx W w' ([.blk L.x [.slice L.rp 3 L.rc, .slice L.sp 3 L.sc, .slice none 0 0] 34, .buf L.rp 3 L.rc (rCells L) 46 1, .buf L.sp 3 L.sc (sCells L C) 42 4] ++ .buf none 0 0 [] 37 9 :: (repsO L C ++ G ++ F)) (CPhi Φ L C) :=
    cx5.perm (List.perm_middle (l₁ := [Own.blk L.x [.slice L.rp 3 L.rc, .slice L.sp 3 L.sc, .slice none 0 0] 34, .buf L.rp 3 L.rc (rCells L) 46 1, .buf L.sp 3 L.sc (sCells L C) 42 4])).symm
  exact cx6.weak fun M w h => ⟨h.1, Elems.nil, h.2.2⟩

theorem tmod3 (n : Nat) : ((n : Nat) : Int).tmod 3 = ((n % 3 : Nat) : Int) := by
  rw [Int.tmod_eq_emod_of_nonneg (by omega)]
  omega

end Go.Proofs.Ytifgijoeckoojaa
end

/-
  ReplicaGoes, walked.
-/
section
set_option linter.unusedVariables false
set_option linter.unusedSimpArgs false
namespace Go.Proofs.Ytifgijoeckoojaa
open Go.Vc
attribute [local irreducible] flowC

/-- whether one was found to lead among the first n ticks -/
def FoundSt (C : Cl) (lead : Int) (n : Nat) : Prop :=
  (lead = -1 ∧ ∀ k, k < n → ((seqC (k + 1) C).nd (k % 3)).rep.role ≠ 2) ∨ ∃ m, n = m + 1 ∧ lead = ((m % 3 : Nat) : Int) ∧ ((seqC (m + 1) C).nd (m % 3)).rep.role = 2

set_option maxHeartbeats 8000000 in
set_option maxRecDepth 20000 in
theorem Goes_in {Φ : PW} [Stable Φ] (p : Option Addr) (cap : Nat) (l : List OpR) (data : ByteArray) (hΦ : ∀ M w, Φ M w → Sl M w p l) (hlen : l.length ≤ 9223372036854775807) :
    GivesIn Φ Try.prog F.erratalaw08_ReplicaGoes #[.slice p l.length cap, .string data] (.bool true) := by
  refine .there (fun M w h => (hΦ M w h).there) fun hth => ?_
  refine gives_in (Berratalaw08_ReplicaGoes_run p l.length cap data) fun W R => ?_
  refine fun w G cx => small_g.use cx fun w cx => ⟨true, rfl, R, Φ, inferInstance, cx, fun w G cx => begin_use cx fun L0 w cx => ⟨some ⟨L0.x, 0, none⟩, rfl, clO L0 cl0 ++ R, CPhi Φ L0 cl0, inferInstance, gr cx, fun w G cx => ?_⟩⟩
  obtain ⟨bf, hbf, hfew⟩ := few_in (Φ := CPhi Φ L0 cl0) p cap l 100 (fun M w h => hΦ M w h.1) hlen
  refine hbf.use cx fun w cx => ⟨bf, rfl, clO L0 cl0 ++ R, CPhi Φ L0 cl0, inferInstance, cx, Br.intro (fun h => fun w G cx w G cx => ⟨rfl, cx.left.right.weak fun M w h => h.1⟩) (fun hbt => Br.intro (fun h => fun w G cx w G cx => ⟨rfl, cx.left.right.weak fun M w h => h.1⟩) (fun hd => Br.intro (fun h => by cases h) (fun _ => ?_)))⟩
  have hl100 := (hfew (by simpa using hbt)).2
  have hd40 : data.size ≤ 40 := by have := of_decide_eq_false hd; omega
  clear cx hfew hbf hd
  refine exI_mk (fun iI R' Φ' kk => ∃ (i : Nat) (L : Lay) (C : Cl) (g : Gh) (A : Int → Nat → Nat), iI = i ∧ i ≤ l.length ∧ L.x = L0.x ∧ R' = clO L C ++ R ∧ Φ' = CPhi Φ L C ∧ SInv C g A ∧ CB i i C ∧ kk = l.length - i)
    ⟨⟨clO L0 cl0 ++ R, CPhi Φ L0 cl0, _, inferInstance, fun w G cx => cx, 0, L0, cl0, gh0, _, rfl, Nat.zero_le _, rfl, rfl, rfl, sinv0, cb0, rfl⟩, ?_⟩
  rintro iI R1 Φ1 kk _ ⟨i, L, C, g, A, rfl, hi, hx, rfl, rfl, hinv, hcb, rfl⟩
  refine Br.intro (fun hlt => ?_) (fun hge => ?_)
  · have hlt : i < l.length := by have := of_decide_eq_true hlt; omega
    obtain ⟨lb, lo, rfl⟩ := hth (by omega)
    refine ⟨by omega, ptrK_intro lb lo rfl fun w G cx => ⟨l[i].op, l[i].who, l[i].n, l[i].data, by rw [Int.toNat_natCast]; exact sl_op (hΦ _ _ cx.phi.1) hlt, fun w G cx => ?_⟩⟩
    obtain ⟨g1, A1, hinv1, haft⟩ := hinv.cluster l[i]
    have hcb1 := hcb.cluster hinv.m.wf l[i]
    generalize hop : l[i] = op at hinv1 hcb1
    have hstep := fun K hK => step_use (gl cx) hinv.m.wf op (K := K) hK
    rw [hx] at hstep
    refine hstep _ fun L1 w hx1 cx => ⟨true, rfl, clO L1 (stepCl C op) ++ R, CPhi Φ L1 (stepCl C op), inferInstance, gr cx, Br.intro (fun h => by cases h) (fun _ => ⟨by unfold I64; omega, clO L1 (stepCl C op) ++ R, CPhi Φ L1 (stepCl C op), l.length - (i + 1), inferInstance, fun w G cx => cx, ⟨i + 1, L1, stepCl C op, g1, A1, rfl, hlt, hx1, rfl, rfl, hinv1, hcb1, rfl⟩, by omega⟩)⟩
  have hi100 : i ≤ 100 := by omega
  rw [← hx]
  refine ptrK_intro L.x 0 rfl fun w G cx => ⟨cx.can 0 rfl (by simp), fun w' hw' => ⟨clO (L.sentAt none 0 []) (zeroC C 0) ++ R, CPhi Φ (L.sentAt none 0 []) (zeroC C 0), inferInstance, lose_all cx hw', ?_⟩⟩
  clear hw' cx
  have hx2 : (L.sentAt none 0 []).x = L.x := rfl
  have hidle : Idle 100 100 (zeroC C 3) := zero_idle hinv (hcb.more (by omega) (by omega))
  have hzw := fun n => zero_wf hinv.m.wf n
  rw [← hx2]
  generalize L.sentAt none 0 [] = L2
  clear hx2 hx hinv hcb
  refine exI_mk (fun nI R' Φ' kk => ∃ n : Nat, nI = n ∧ n ≤ 3 ∧ R' = clO L2 (zeroC C n) ++ R ∧ Φ' = CPhi Φ L2 (zeroC C n) ∧ kk = 3 - n)
    ⟨⟨clO L2 (zeroC C 0) ++ R, CPhi Φ L2 (zeroC C 0), _, inferInstance, fun w G cx => cx, 0, rfl, Nat.zero_le _, rfl, rfl, rfl⟩, ?_⟩
  rintro nI R1 Φ1 kk _ ⟨n, rfl, hn, rfl, rfl, rfl⟩
  refine Br.intro (fun hlt => ?_) (fun hge => ?_)
  · have hn3 : n < 3 := by have := of_decide_eq_true hlt; omega
    refine ptrK_intro L2.x 0 rfl fun w G cx => ?_
    obtain ⟨⟨gs, hgs⟩, _⟩ := lay_at (gl cx)
    refine ⟨L2.sp, 3, L2.sc, cx.get 0 rfl rfl, by omega, ptrK_intro gs 0 hgs fun w G cx => ⟨cx.bufCan 2 rfl hgs (by show _ ≤ 12; rw [Int.toNat_natCast]; omega), fun w' hw' => ?_⟩⟩
    rw [Int.toNat_natCast, Nat.zero_add] at hw'
    have h2 := s_put (n := { (zeroC C n).nd n with stop := 0 }) hn3 (show 3 < 4 by decide) rfl (by rfl) (gl cx) hgs hw'
    exact ⟨clO L2 (zeroC C (n + 1)) ++ R, CPhi Φ L2 (zeroC C (n + 1)), inferInstance, gr (h2.weak fun M w h => ⟨h.1, (ClS_nd (n := { (zeroC C n).nd n with stop := 0 }) hn3 rfl).2 h.2⟩), by unfold I64; omega, clO L2 (zeroC C (n + 1)) ++ R, CPhi Φ L2 (zeroC C (n + 1)), 3 - (n + 1), inferInstance, fun w G cx => cx, ⟨n + 1, rfl, hn3, rfl, rfl, rfl⟩, by omega⟩
  have hn3 : n = 3 := by have := of_decide_eq_false hge; omega
  subst hn3
  clear hzw hge hn
  generalize zeroC C 3 = C0 at hidle
  have hseq := hidle.seq (by omega) (by omega)
  refine exI_mk (fun leadI nI R' Φ' kk => ∃ (n : Nat) (L3 : Lay), nI = n ∧ n ≤ 18 ∧ L3.x = L2.x ∧ R' = clO L3 (seqC n C0) ++ R ∧ Φ' = CPhi Φ L3 (seqC n C0) ∧ FoundSt C0 leadI n ∧ kk = 18 - n)
    ⟨⟨clO L2 C0 ++ R, CPhi Φ L2 C0, _, inferInstance, fun w G cx => cx, 0, L2, rfl, Nat.zero_le _, rfl, rfl, rfl, .inl ⟨rfl, fun k hk => absurd hk (Nat.not_lt_zero k)⟩, rfl⟩, ?_⟩
  rintro leadI nI R1 Φ1 kk _ ⟨n, L3, rfl, hn, hx3, rfl, rfl, hfs, rfl⟩
  rw [tmod3, ← hx3]
  have hid := hseq n hn
  refine fun w G cx => Br.intro (fun hgo => ?_) (fun hend => Br.intro (fun hno => ?_) (fun hyes => ?_))
  · simp only [Bool.and_eq_true, decide_eq_true_eq] at hgo
    obtain ⟨hn18, hneg⟩ := hgo
    have hn18 : n < 18 := by omega
    have hfs : leadI = -1 ∧ ∀ k, k < n → ((seqC (k + 1) C0).nd (k % 3)).rep.role ≠ 2 := by
      rcases hfs with z | ⟨m, _, z, _⟩
      · exact z
      · omega
    have hi3 : n % 3 < 3 := Nat.mod_lt _ (by decide)
    have hsn : seqC (n + 1) C0 = flowC 2000 (tickC (seqC n C0) (n % 3)) := rfl
    have hid1 := hseq (n + 1) (by omega)
    obtain ⟨hrw, hrid⟩ := hid.wf.rep _ hi3
    have hh := tick_wf hrw
    have htw := tick_c hid.wf hi3
    obtain ⟨ii, hii⟩ : ∃ ii, n % 3 = ii := ⟨_, rfl⟩
    rw [hii] at hi3 hrw hrid hh htw hsn ⊢
    generalize seqC n C0 = Cn at *
    have hCn := hid.wf
    refine ⟨by decide, ptrK_intro L3.x 0 rfl fun w G cx => ?_⟩
    obtain ⟨_, gp, hgp⟩ := lay_at (gl cx)
    refine ⟨L3.rp, 3, L3.rc, cx.get 0 rfl rfl, by decide, by omega, ptrK_intro gp 0 hgp fun w G cx => ⟨some ⟨L3.b ii, 0, none⟩, by rw [Int.toNat_natCast, Nat.zero_add]; exact cx.bufGet 1 rfl hgp (r_at hi3), fun w G cx => Tick_use (focus hi3 (gl cx)) hrw.ok (out_k hi3 fun p c q1 c1 q2 c2 w cx => ?_)⟩⟩
    refine ⟨_, _, _, _, q1, _, c1, q2, _, c2, rfl, clO (L3.at ii (L3.b ii) p c) (repC Cn ii (tickP (Cn.nd ii).rep).1) ++ R, CPhi (OPhi Φ q1 (tickP (Cn.nd ii).rep).2.recs q2 (tickP (Cn.nd ii).rep).2.send) (L3.at ii (L3.b ii) p c) (repC Cn ii (tickP (Cn.nd ii).rep).1), inferInstance, gr cx, fun w F cx => ?_⟩
    refine after_use (L1 := L3.at ii (L3.b ii) p c) hCn hi3 hh.1 hh.2 (tick_small _) (gl cx) c1 c2 fun L4 w hx4 cx => ⟨true, rfl, clO L4 (tickC Cn ii) ++ R, CPhi Φ L4 (tickC Cn ii), inferInstance, gr cx, Br.intro (fun h => by cases h) (fun _ => fun w G cx => ?_)⟩
    have hx4 : L4.x = L3.x := hx4
    rw [← hx4]
    refine flow_use (gl cx) htw fun L5 w hx5 cx => ⟨true, rfl, clO L5 (flowC 2000 (tickC Cn ii)) ++ R, CPhi Φ L5 (flowC 2000 (tickC Cn ii)), inferInstance, gr cx, Br.intro (fun h => by cases h) (fun _ => ?_)⟩
    rw [← hsn, ← hx5]
    clear cx
    have hw1 := hid1.wf
    obtain ⟨C1, hC1⟩ : ∃ C1, seqC (n + 1) C0 = C1 := ⟨_, rfl⟩
    rw [hC1]
    refine ptrK_intro L5.x 0 rfl fun w G cx => ?_
    obtain ⟨_, gp5, hgp5⟩ := lay_at (gl cx)
    refine ⟨L5.rp, 3, L5.rc, cx.get 0 rfl rfl, by decide, by omega, ptrK_intro gp5 0 hgp5 fun w G cx => ⟨some ⟨L5.b ii, 0, none⟩, by rw [Int.toNat_natCast, Nat.zero_add]; exact cx.bufGet 1 rfl hgp5 (r_at hi3), fun w G cx => role_go (gl cx) hi3 fun w cx => ⟨_, rfl, clO L5 C1 ++ R, CPhi Φ L5 C1, inferInstance, gr cx, ?_⟩⟩⟩
    refine Br.intro (fun hr => ⟨by decide, by unfold I64; omega, clO L5 C1 ++ R, CPhi Φ L5 C1, 18 - (n + 1), inferInstance, fun w G cx => cx, ⟨n + 1, L5, rfl, hn18, by rw [hx5, hx4, hx3], by rw [hC1], by rw [hC1], .inr ⟨n, rfl, by rw [hii], by rw [hC1, hii]; exact of_decide_eq_true hr⟩, rfl⟩, by omega⟩) (fun hr => ⟨by unfold I64; omega, clO L5 C1 ++ R, CPhi Φ L5 C1, 18 - (n + 1), inferInstance, fun w G cx => cx, ⟨n + 1, L5, rfl, hn18, by rw [hx5, hx4, hx3], by rw [hC1], by rw [hC1], .inl ⟨hfs.1, fun k hk => ?_⟩, rfl⟩, by omega⟩)
    by_cases hkn : k = n
    · rw [hkn, hC1, hii]
      exact of_decide_eq_false hr
    · exact hfs.2 k (by omega)
  · exfalso
    have hno := of_decide_eq_true hno
    rcases hfs with ⟨z1, z2⟩ | ⟨m, _, z, _⟩
    · have hn18 : n = 18 := by
        simp only [Bool.and_eq_false_iff, decide_eq_false_iff_not] at hend
        omega
      obtain ⟨k, hk, hkr⟩ := hidle.found (by omega) (by omega)
      exact z2 k (by omega) hkr
    · omega
  · have hyes := of_decide_eq_false hyes
    obtain ⟨m, hm, hlead, hrole⟩ : ∃ m, n = m + 1 ∧ leadI = ((m % 3 : Nat) : Int) ∧ ((seqC (m + 1) C0).nd (m % 3)).rep.role = 2 := by
      rcases hfs with ⟨z1, _⟩ | z
      · omega
      · exact z
    clear hfs hend hyes
    subst hm
    subst hlead
    have hi3 : m % 3 < 3 := Nat.mod_lt _ (by decide)
    have ht := (hseq m (by omega)).terms hi3 (by omega) (by omega)
    have hall : ∀ k, k < 3 → ((seqC (m + 1) C0).nd k).rep.term = ((seqC (m + 1) C0).nd (m % 3)).rep.term := fun k hk => Terms.eq (C' := seqC (m + 1) C0) ht hrole hk
    clear ht
    obtain ⟨ii, hii⟩ : ∃ ii, m % 3 = ii := ⟨_, rfl⟩
    rw [hii] at hi3 hrole hall ⊢
    generalize seqC (m + 1) C0 = C1 at *
    obtain ⟨T, hT⟩ : ∃ T, (C1.nd ii).rep.term = T := ⟨_, rfl⟩
    rw [hT] at hall
    obtain ⟨hp, hd1, hid2⟩ := hid.propose hi3 (by omega) hall hrole (data := data) (by omega)
    obtain ⟨hrw, hrid⟩ := hid.wf.rep _ hi3
    have hh := propose_wf hrw data
    have hC1 := hid.wf
    have hpc := prop_c hC1 hi3 data
    have hll : (C1.nd ii).rep.log.length ≤ 100 := (hid.cb.rep ii hi3).len
    refine ptrK_intro L3.x 0 rfl fun w G cx => ?_
    obtain ⟨_, gp, hgp⟩ := lay_at (gl cx)
    refine ⟨L3.rp, 3, L3.rc, cx.get 0 rfl rfl, by omega, ptrK_intro gp 0 hgp fun w G cx => ⟨some ⟨L3.b ii, 0, none⟩, by rw [Int.toNat_natCast, Nat.zero_add]; exact cx.bufGet 1 rfl hgp (r_at hi3), fun w G cx => Propose_use (focus hi3 (gl cx)) hrw.ok (fun hr => hrw.one (by rw [hr]; decide)) data (out_k (x := ((proposeP (C1.nd ii).rep data).1, (proposeP (C1.nd ii).rep data).2.2.2)) hi3 fun p c q1 c1 q2 c2 w cx => ?_)⟩⟩
    refine ⟨_, _, _, _, _, _, q1, _, c1, q2, _, c2, rfl, clO (L3.at ii (L3.b ii) p c) (repC C1 ii (proposeP (C1.nd ii).rep data).1) ++ R, CPhi (OPhi Φ q1 (proposeP (C1.nd ii).rep data).2.2.2.recs q2 (proposeP (C1.nd ii).rep data).2.2.2.send) (L3.at ii (L3.b ii) p c) (repC C1 ii (proposeP (C1.nd ii).rep data).1), inferInstance, gr cx, fun kb => Br.intro (fun h => ?_) (fun _ => fun w F cx => ?_)⟩
    · rw [hp] at h
      simp at h
    have hn1 : (proposeP (C1.nd ii).rep data).2.1 = ((((C1.nd ii).rep.log ++ [(⟨T, data⟩ : RecD)]).length : Nat) : Int) := by rw [hp]; simp
    rw [hn1]
    have hLn : ((C1.nd ii).rep.log ++ [(⟨T, data⟩ : RecD)]).length = (C1.nd ii).rep.log.length + 1 := by simp
    have hLt : termAt ((C1.nd ii).rep.log ++ [(⟨T, data⟩ : RecD)]) ((C1.nd ii).rep.log ++ [(⟨T, data⟩ : RecD)]).length = T := by
      rw [hLn]
      exact term_some (x := ⟨T, data⟩) (by simp)
    have hLd : ((C1.nd ii).rep.log ++ [(⟨T, data⟩ : RecD)])[((C1.nd ii).rep.log ++ [(⟨T, data⟩ : RecD)]).length - 1]? = some ⟨T, data⟩ := by
      rw [hLn]
      simp
    refine after_use (x := ((proposeP (C1.nd ii).rep data).1, (proposeP (C1.nd ii).rep data).2.2.2)) (L1 := L3.at ii (L3.b ii) p c) hC1 hi3 hh.1 hh.2 (propose_small hrw.ok.len data) (gl cx) c1 c2 fun L4 w hx4 cx => ⟨true, rfl, clO L4 (propC C1 ii data) ++ R, CPhi Φ L4 (propC C1 ii data), inferInstance, gr cx, Br.intro (fun h => by cases h) (fun _ => fun w G cx => ?_)⟩
    have hx4 : L4.x = L3.x := hx4
    rw [← hx4]
    refine flow_use (gl cx) hpc fun L5 w hx5 cx => ⟨true, rfl, clO L5 (flowC 2000 (propC C1 ii data)) ++ R, CPhi Φ L5 (flowC 2000 (propC C1 ii data)), inferInstance, gr cx, Br.intro (fun h => by cases h) (fun _ => ?_)⟩
    rw [← hx5]
    clear cx
    generalize flowC 2000 (propC C1 ii data) = C2 at hd1 hid2 ⊢
    clear hp hn1 hh hpc hrw hrid
    generalize (C1.nd ii).rep.log ++ [(⟨T, data⟩ : RecD)] = Lg at *
    have hLg0 : 0 < Lg.length := by omega
    have hLg1 : Lg.length ≤ 101 := by omega
    clear hLn hall hrole hC1 hid
    have hlast := hid2.last hi3 (by omega) (by omega) hLt hLg0 hd1
    obtain ⟨hrw, hrid⟩ := hid2.wf.rep _ hi3
    have hh := tick_wf hrw
    have hC2 := hid2.wf
    have htw := tick_c hC2 hi3
    have hcm := hd1.cm
    refine ptrK_intro L5.x 0 rfl fun w G cx => ?_
    obtain ⟨_, gp5, hgp5⟩ := lay_at (gl cx)
    refine ⟨L5.rp, 3, L5.rc, cx.get 0 rfl rfl, by omega, ptrK_intro gp5 0 hgp5 fun w G cx => ⟨some ⟨L5.b ii, 0, none⟩, by rw [Int.toNat_natCast, Nat.zero_add]; exact cx.bufGet 1 rfl hgp5 (r_at hi3), fun w G cx => commit_go (gl cx) hi3 fun w cx => ⟨_, rfl, clO L5 C2 ++ R, CPhi Φ L5 C2, inferInstance, gr cx, Br.intro (fun h => ?_) (fun _ => ptrK_intro L5.x 0 rfl fun w G cx => ⟨L5.rp, 3, L5.rc, cx.get 0 rfl rfl, by omega, ptrK_intro gp5 0 hgp5 fun w G cx => ⟨some ⟨L5.b ii, 0, none⟩, by rw [Int.toNat_natCast, Nat.zero_add]; exact cx.bufGet 1 rfl hgp5 (r_at hi3), fun w G cx => Tick_use (focus hi3 (gl cx)) hrw.ok (out_k hi3 fun p c q1 c1 q2 c2 w cx => ?_)⟩⟩)⟩⟩⟩
    · exact absurd (by rw [hcm]) (of_decide_eq_true h)
    refine ⟨_, _, _, _, q1, _, c1, q2, _, c2, rfl, clO (L5.at ii (L5.b ii) p c) (repC C2 ii (tickP (C2.nd ii).rep).1) ++ R, CPhi (OPhi Φ q1 (tickP (C2.nd ii).rep).2.recs q2 (tickP (C2.nd ii).rep).2.send) (L5.at ii (L5.b ii) p c) (repC C2 ii (tickP (C2.nd ii).rep).1), inferInstance, gr cx, fun w F cx => ?_⟩
    refine after_use (L1 := L5.at ii (L5.b ii) p c) hC2 hi3 hh.1 hh.2 (tick_small _) (gl cx) c1 c2 fun L6 w hx6 cx => ⟨true, rfl, clO L6 (tickC C2 ii) ++ R, CPhi Φ L6 (tickC C2 ii), inferInstance, gr cx, Br.intro (fun h => by cases h) (fun _ => fun w G cx => ?_)⟩
    have hx6 : L6.x = L5.x := hx6
    rw [← hx6]
    have hrd : roundC ii C2 = flowC 2000 (tickC C2 ii) := rfl
    rw [hrd] at hlast
    refine flow_use (gl cx) htw fun L7 w hx7 cx => ?_
    obtain ⟨_, gp7, hgp7⟩ := lay_at cx
    refine ⟨true, rfl, clO L7 (flowC 2000 (tickC C2 ii)) ++ R, CPhi Φ L7 (flowC 2000 (tickC C2 ii)), inferInstance, gr cx, Br.intro (fun h => by cases h) (fun _ => ?_)⟩
    rw [← hx7]
    clear cx hrd
    generalize flowC 2000 (tickC C2 ii) = C3 at hlast ⊢
    obtain ⟨hid3, hlog3, hall3⟩ := hlast
    have hC3 := hid3.wf
    clear hh htw hcm hd1 hid2 hrw hrid hC2
    have hrp : ∀ {w : World} {G : List Own} {Ψ : PW} (_ : Ctx W w (clO L7 C3 ++ R ++ G) Ψ), ∃ (p : Option Addr) (n c : Nat), w.cell? ⟨L7.x, 0, none⟩ = some (.slice p n c) ∧ Value.slice p n c = .slice L7.rp 3 L7.rc := fun cx => ⟨L7.rp, 3, L7.rc, cx.get 0 rfl rfl, rfl⟩
    have hrk : ∀ {w : World} {G : List Own} {Ψ : PW} {k : Nat} (_ : k < 3) (_ : Ctx W w (clO L7 C3 ++ R ++ G) Ψ), w.cell? ⟨gp7, 0 + (k : Int).toNat, none⟩ = some (.pointer (some ⟨L7.b k, 0, none⟩)) := fun hk cx => by
      rw [Int.toNat_natCast, Nat.zero_add]
      exact cx.bufGet 1 rfl hgp7 (r_at hk)
    refine exI_mk (fun nI R' Φ' kk => ∃ k : Nat, nI = k ∧ k ≤ 3 ∧ R' = clO L7 C3 ++ R ∧ Φ' = CPhi Φ L7 C3 ∧ kk = 3 - k)
      ⟨⟨clO L7 C3 ++ R, CPhi Φ L7 C3, _, inferInstance, fun w G cx => cx, 0, rfl, Nat.zero_le _, rfl, rfl, rfl⟩, ?_⟩
    rintro nI R1 Φ1 kk _ ⟨k, rfl, hk, rfl, rfl, rfl⟩
    refine Br.intro (fun hlt => ?_) (fun _ => Br.intro (fun _ => ?_) (fun h => by cases h))
    · have hk3 : k < 3 := by have := of_decide_eq_true hlt; omega
      obtain ⟨hck, hlk⟩ := hall3 k hk3
      refine ⟨clO L7 C3 ++ R, CPhi Φ L7 C3, inferInstance, fun w G cx => cx, ptrK_intro L7.x 0 rfl ⟨L7.rp, 3, L7.rc, fun w G cx => hrp cx, by omega, ptrK_intro gp7 0 hgp7 ⟨some ⟨L7.b k, 0, none⟩, fun w G cx => ⟨some ⟨L7.b k, 0, none⟩, hrk hk3 cx, rfl⟩, fun w G cx => commit_go (gl cx) hk3 fun w cx => ⟨_, rfl, clO L7 C3 ++ R, CPhi Φ L7 C3, inferInstance, gr cx, fun w G cx => cx, clO L7 C3 ++ R, CPhi Φ L7 C3, inferInstance, fun w G cx => cx, Br.intro (fun h => ?_) (fun _ => ?_)⟩⟩⟩⟩
      · exact absurd (by rw [hck]) (of_decide_eq_true h)
      refine ptrK_intro L7.x 0 rfl (ptrK_intro L7.x 0 rfl ⟨L7.rp, 3, L7.rc, fun w G cx => hrp cx, L7.rp, 3, L7.rc, fun w G cx => hrp cx, by omega, ptrK_intro gp7 0 hgp7 ⟨by omega, ptrK_intro gp7 0 hgp7 ⟨some ⟨L7.b k, 0, none⟩, fun w G cx => ⟨some ⟨L7.b k, 0, none⟩, hrk hk3 cx, rfl⟩, some ⟨L7.b ii, 0, none⟩, fun w G cx => ⟨some ⟨L7.b ii, 0, none⟩, hrk hi3 cx, rfl⟩, fun w G cx => log_cl (gl cx) hC3 hk3 fun q cq w hq1 hq2 cx => ⟨q, _, cq, rfl, clO L7 C3 ++ R, CPhi (MPhi Φ q (C3.nd k).rep.log) L7 C3, inferInstance, gr cx, fun w G cx => cx.weak fun M w h => ⟨h.1.1, h.2⟩, fun w G cx => log_cl (gl cx) hC3 hi3 fun q2 cq2 w hq3 hq4 cx => ⟨q2, _, cq2, rfl, clO L7 C3 ++ R, CPhi (MPhi (MPhi Φ q (C3.nd k).rep.log) q2 (C3.nd ii).rep.log) L7 C3, inferInstance, gr cx, fun w G cx => ?_⟩⟩⟩⟩⟩)
      have hb := SameRecs_in (Φ := CPhi (MPhi (MPhi Φ q (C3.nd k).rep.log) q2 (C3.nd ii).rep.log) L7 C3) q q2 cq cq2 (C3.nd k).rep.log (C3.nd ii).rep.log (fun M w h => h.1.1.2) (fun M w h => h.1.2) (by rw [hlk]; omega)
      rw [decide_eq_true (by rw [hlk, hlog3])] at hb
      refine hb.use cx fun w cx => ⟨true, rfl, clO L7 C3 ++ R, CPhi (MPhi (MPhi Φ q (C3.nd k).rep.log) q2 (C3.nd ii).rep.log) L7 C3, inferInstance, cx, Br.intro (fun h => by cases h) (fun _ => ⟨by unfold I64; omega, clO L7 C3 ++ R, CPhi Φ L7 C3, 3 - (k + 1), inferInstance, fun w G cx => cx.weak fun M w h => ⟨h.1.1.1, h.2⟩, ⟨k + 1, rfl, hk3, rfl, rfl, rfl⟩, by omega⟩)⟩
    · refine ptrK_intro L7.x 0 rfl fun w G cx => ⟨L7.rp, 3, L7.rc, cx.get 0 rfl rfl, by omega, ptrK_intro gp7 0 hgp7 fun w G cx => ⟨some ⟨L7.b ii, 0, none⟩, hrk hi3 cx, fun w G cx => log_cl (gl cx) hC3 hi3 fun q cq w hq1 hq2 cx => ?_⟩⟩
      rw [hlog3] at cx ⊢
      obtain ⟨qb, qo, rfl⟩ := (cx.phi.1.2).there hLg0
      refine ⟨_, _, cq, rfl, clO L7 C3 ++ R, CPhi (MPhi Φ (some ⟨qb, qo, none⟩) Lg) L7 C3, inferInstance, gr cx, by unfold I64; omega, by omega, ptrK_intro qb qo rfl fun w G cx => ⟨data, ?_, fun w G cx => ⟨by simp, cx.left.right.weak fun M w h => h.1.1⟩⟩⟩
      have hlt : Lg.length - 1 < Lg.length := by omega
      have hrow := sl_rec cx.phi.1.2 hlt 1 (by simp)
      have hdat : Lg[Lg.length - 1].data = data := by
        rw [List.getElem?_eq_getElem hlt] at hLd
        rw [Option.some.inj hLd]
      rw [show (((Lg.length : Nat) : Int) - 1).toNat = Lg.length - 1 by omega]
      rw [← hdat]
      exact hrow

end Go.Proofs.Ytifgijoeckoojaa
end

section
set_option linter.unusedVariables false
set_option linter.unusedSimpArgs false
namespace Go.Proofs.Ytifgijoeckoojaa
open Go.ChangeShapes Go.WideShapes Go.ChangeAt Go.RowKit Go.Vc


theorem df_own : ownKnob Try.prog.godebug = none := by kernel_rfl
theorem df_laid : laidOutB Try.prog = true := by kernel_rfl

theorem trodAll_n {H : Type} {enc : TypeId × Value → H} {P : Program} {w : World} {base : Nat} {spare : Nat → Bool} {held : Bool} {t0 t1 : TypeId} {args : Array Value} {ds : List (DataW H)} {ps : List MemPlace} (h : DataW.TrodAll enc P w base spare held [t0, t1] args.toList ds ps) :
    ∃ v0 v1 d0 d1 p0 p1, args = #[v0, v1] ∧ ds = [d0, d1] ∧ ps = p0 ++ p1 ∧ DataW.Trod enc P w base spare held t0 v0 d0 p0 ∧ DataW.Trod enc P w base spare held t1 v1 d1 p1 := by
  obtain ⟨v0, vs0, d0, ds0, p0, q0, hargs, rfl, rfl, h0, h⟩ := trodAll_cons h
  obtain ⟨v1, vs1, d1, ds1, p1, q1, rfl, rfl, rfl, h1, h⟩ := trodAll_cons h
  obtain ⟨rfl, rfl, rfl⟩ := trodAll_nil h
  exact ⟨v0, v1, d0, d1, p0, p1, by cases args; simp_all, rfl, by simp, h0, h1⟩

set_option maxRecDepth 100000 in
theorem law_lifted (os : Os) (started : os.Started) (H : Type) (enc : TypeId × Value → H) :
    ReturnsInHanded {} Try.checked os 4 .any (Rows.replicaGoesSpec.pre6 enc Try.prog Try.f4 Rows.replicaGoesRow.domain false) (Rows.replicaGoesSpec.post enc Try.prog Try.f4 false true false false) := by
  refine lawTrue (C := Try.checked) (tb := 4) df_own started (by kernel_rfl) Try.func4 df_laid rfl ?_ rfl Try.underlying4 (by kernel_rfl)
    (ChangeSpec.witness6 (enc := enc) (C := Try.checked) false ⟨#[], #[.slice none 0 0, .string .empty], []⟩ 8 (by kernel_rfl) (by kernel_rfl) (by kernel_rfl) (by kernel_rfl)) ?_
  · intro ds hd
    match ds, hd with
    | [_, _], _ => exact ⟨rfl, rfl, rfl⟩
  · intro W base args ds p hval0 hA0 _
    have hval : ∀ (j : Nat) t v, Try.f4.params[j]? = some t → args[j]? = some v → Value.okWide Try.prog W .any base t v := hval0
    have hA : DataW.TrodAll enc Try.prog W 0 (fun _ => true) true Try.f4.params.toList args.toList ds p := hA0
    rw [Try.params4] at hA hval
    obtain ⟨v0, v1, d0, d1, p0, p1, rfl, rfl, rfl, h0, h1⟩ := trodAll_n hA
    obtain ⟨lp, lc, l, rfl, la, lb, s0⟩ := open_sl (α := OpR) 12 Try.underlying22 (hval 0 22 v0 rfl rfl) (by kernel_rfl) h0
    obtain ⟨data, rfl, rfl, rfl, dataw⟩ := Go.ChangeMaps.open_string Try.underlying9 (hval 1 9 v1 rfl rfl) h1
    have st0 : Stable (fun M w => Sl M w lp l) := inferInstance
    have fin : GivesIn (fun M w => Sl M w lp l) Try.prog 4 _ (.bool true) := (Goes_in (Φ := (fun M w => Sl M w lp l)) lp lc l data (fun _ _ h => h) (Nat.le_trans la (Nat.le_trans lb (by decide))))
    exact fin.law s0

theorem goes_holds : Rows.ReplicaGoesSaid :=
  OpenClaim.holds_of_wide 4 Try.f4 rfl rfl rfl rfl rfl rfl rfl ⟨rfl, rfl, rfl, rfl, rfl⟩ rfl rfl rfl rfl rfl (by kernel_rfl) Try.func4 (by kernel_rfl)
    (of_decide_eq_true (by kernel_rfl)) (by unfold Func.isWrapper; first | (rw [if_pos (by decide +kernel)]; kernel_rfl) | (rw [if_neg (by decide +kernel)]; exact ⟨rfl, rfl⟩))
    (fun os started H enc _ => law_lifted os started H enc)

end Go.Proofs.Ytifgijoeckoojaa
end

