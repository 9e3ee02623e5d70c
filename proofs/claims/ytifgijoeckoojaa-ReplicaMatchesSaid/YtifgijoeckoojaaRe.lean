/-
  Replica: sound, right, New, voted, advance, appended.
-/
import Derived.Test.YtifgijoeckoojaaRd
set_option linter.unusedVariables false
set_option linter.unusedSimpArgs false
namespace Go.Proofs.Ytifgijoeckoojaa
open Go.Vc

/-! ### sound -/
theorem soundR_drop (l : List RecD) (i : Nat) (hi : i < l.length) (least most : Int) : soundR (l.drop i) least most = if (decide (l[i].term < least) || decide (most < l[i].term) || decide (2000 < (l[i].data.size : Int))) = true then false else soundR (l.drop (i + 1)) l[i].term most := by
  rw [List.drop_eq_getElem_cons hi]; rfl

theorem sound_in {Φ : PW} [Stable Φ] (p : Option Addr) (cap : Nat) (l : List RecD) (least most : Int) (hΦ : ∀ M w, Φ M w → Sl M w p l) (hlen : l.length ≤ 9223372036854775807) :
    GivesIn Φ Try.prog F.replica_sound #[.slice p l.length cap, .int .i64 least, .int .i64 most] (.bool (soundR l least most)) := by
  refine .there (fun M w h => (hΦ M w h).there) fun hth => ?_
  refine gives_in (Breplica_sound_run p l.length cap least most) fun W R => ?_
  refine exI_mk (fun le n R' Φ' k => ∃ i : Nat, n = i ∧ i ≤ l.length ∧ R' = R ∧ Φ' = Φ ∧ k = l.length - i ∧ soundR l least most = soundR (l.drop i) le most) ⟨⟨R, Φ, _, inferInstance, fun w F c => c, 0, rfl, Nat.zero_le _, rfl, rfl, rfl, rfl⟩, ?_⟩
  rintro le n R1 Φ1 k _ ⟨i, rfl, hi, rfl, rfl, rfl, hs⟩
  refine Br.intro (fun hlt => ?_) (fun hge => fun w F cx => ⟨?_, cx.left⟩)
  · have hlt : i < l.length := by simpa using hlt
    obtain ⟨b, o, rfl⟩ := hth (by omega)
    rw [soundR_drop l i hlt] at hs
    refine ⟨by omega, ptrK_intro b o rfl fun w F cx => ⟨l[i].term, l[i].data, by rw [Int.toNat_natCast]; exact sl_rec (hΦ _ _ cx.phi) hlt, fun _ w F cx => Br.intro (fun h => fun w F cx => ⟨?_, cx.left⟩) (fun h => ⟨by unfold I64; omega, R1, Φ1, l.length - (i + 1), inferInstance, fun w F c => c, ⟨i + 1, rfl, hlt, rfl, rfl, rfl, ?_⟩, by omega⟩)⟩⟩
    · rw [hs, if_pos h]
    · rw [hs, if_neg (by rw [h]; simp)]
  · have hge : i = l.length := Nat.le_antisymm hi (by simpa using hge)
    rw [hs, hge, List.drop_length]
    rfl

/-! ### right -/
theorem right_use {W w : World} {S : List Own} {Φ : PW} [Stable Φ] {b : Nat} {r : Rep} {p : Option Addr} {c : Nat} (cx : Ctx W w (repO b r p c ++ S) Φ) (m : MsgR) (q : Option Addr) (qc : Nat) (hsl : ∀ M w, Φ M w → Sl M w q m.recs) (hlen : m.recs.length ≤ 9223372036854775807) (hix : I64 m.index) {K : Ending → World → Prop}
    (hK : ∀ w', Ctx W w' (repO b r p c ++ S) Φ → K (.returned (.bool (rightP r.id m))) w') : Calls Try.prog F.replica_Replica_right #[.pointer (some ⟨b, 0, none⟩), m.v q qc] w K := by
  refine (Breplica_Replica_right_run b 0 m.kind m.src m.to m.term m.index m.prev m.commit m.yes q m.recs.length qc (J := fun u w' => K (.returned u) w') cx ?_).mono fun e w' ⟨v, he, hj⟩ => by rw [he]; exact hj
  have hfalse : ∀ {w : World} {G : List Own}, rightP r.id m = false → Ctx W w (repO b r p c ++ S ++ G) Φ → K (.returned (.bool false)) w := fun {w G} h cx => by
    have := hK w cx.left
    rw [h] at this
    exact this
  refine fun _ w G cx => ⟨_, fun w' hw => (between_q m.kind 0 3).atN hw, r.id, fun _ => cx.get 0 rfl rfl, r.id, fun _ => cx.get 0 rfl rfl, _, fun _ w' hw => (between_q m.src 0 2).atN hw, Br.intro (fun h => fun w G cx => ?_) (fun h1 => fun w G cx => ?_)⟩
  · refine hfalse ?_ cx
    rw [Bool.eq_false_iff]
    intro hr
    unfold rightP at hr
    simp only [Bool.and_eq_true, Bool.or_eq_true, decide_eq_true_eq, Bool.not_eq_true', Bool.and_eq_false_iff, decide_eq_false_iff_not] at hr h
    omega
  refine ⟨_, fun w' hw => (between_q m.term 1 1099511627776).at hw, _, fun _ w' hw => (between_q m.index 0 4000).at hw, _, fun _ w' hw => (between_q m.prev 0 m.term).at hw, Br.intro (fun h => fun w G cx => ?_) (fun h2 => fun w G cx => ?_)⟩
  · refine hfalse ?_ cx
    rw [Bool.eq_false_iff]
    intro hr
    unfold rightP at hr
    simp only [Bool.and_eq_true, Bool.or_eq_true, decide_eq_true_eq, Bool.not_eq_true', Bool.and_eq_false_iff, decide_eq_false_iff_not] at hr h
    omega
  refine ((between_q m.commit 0 4000).gives).use (gl cx) fun w cx => ⟨_, rfl, repO b r p c ++ S, Φ, inferInstance, gr cx, Br.intro (fun h3 => Br.intro (fun h4 => ?_) (fun h => fun w G cx => ?_)) (fun h => fun w G cx => ?_)⟩
  · simp only [Bool.and_eq_true, Bool.or_eq_true, decide_eq_true_eq, Bool.or_eq_false_iff, Bool.not_eq_false', Bool.and_eq_false_iff, decide_eq_false_iff_not] at h1 h2 h3 h4
    refine ⟨by unfold I64; omega, Br.intro (fun h5 => fun w G cx => ?_) (fun h => fun w G cx => ?_)⟩
    · have h5 := of_decide_eq_true h5
      refine (sound_in q qc m.recs (max 1 m.prev) m.term hsl hlen).use (gl cx) fun w cx => ⟨_, rfl, repO b r p c ++ S, Φ, inferInstance, gr cx, fun w G cx => ?_⟩
      have := hK w cx.left
      have hr : rightP r.id m = soundR m.recs (max 1 m.prev) m.term := by
        unfold rightP
        have hz : (!(decide (m.index = 0) && decide (m.prev ≠ 0))) = true := by
          simp only [Bool.not_eq_true', Bool.and_eq_false_iff, decide_eq_false_iff_not]
          omega
        rw [hz, decide_eq_true (show 0 ≤ m.kind by omega), decide_eq_true (show m.kind ≤ 3 by omega), decide_eq_true (show m.to = r.id by omega), decide_eq_true (show m.src ≠ r.id by omega), decide_eq_true (show 0 ≤ m.src by omega), decide_eq_true (show m.src ≤ 2 by omega),
          decide_eq_true (show 1 ≤ m.term by omega), decide_eq_true (show m.term ≤ 1099511627776 by omega), decide_eq_true (show 0 ≤ m.index by omega), decide_eq_true (show m.index ≤ 4000 by omega), decide_eq_true (show 0 ≤ m.prev by omega), decide_eq_true (show m.prev ≤ m.term by omega),
          decide_eq_true (show 0 ≤ m.commit by omega), decide_eq_true (show m.commit ≤ 4000 by omega), decide_eq_true h4, decide_eq_true h5]
        rfl
      rw [hr] at this
      exact this
    · refine hfalse ?_ cx
      rw [Bool.eq_false_iff]
      intro hr
      unfold rightP at hr
      simp only [Bool.and_eq_true, decide_eq_true_eq, decide_eq_false_iff_not] at hr h
      omega
  · refine hfalse ?_ cx
    rw [Bool.eq_false_iff]
    intro hr
    unfold rightP at hr
    simp only [Bool.and_eq_true, decide_eq_true_eq, decide_eq_false_iff_not] at hr h
    omega
  · refine hfalse ?_ cx
    rw [Bool.eq_false_iff]
    intro hr
    unfold rightP at hr
    simp only [Bool.and_eq_true, decide_eq_true_eq, Bool.and_eq_false_iff, decide_eq_false_iff_not] at hr h
    omega

/-! ### New -/
def newB (id term vote : Int) (l : List RecD) : Bool := decide (0 ≤ id) && decide (id ≤ 2) && decide (0 ≤ term) && decide (term ≤ 1099511627776) && decide (-1 ≤ vote) && decide (vote ≤ 2) && decide ((l.length : Int) ≤ 4000) && soundR l 1 term

theorem New_use {W w : World} {S : List Own} {Φ : PW} [Stable Φ] (cx : Ctx W w S Φ) (id term vote : Int) (l : List RecD) (q : Option Addr) (qc : Nat) (hsl : ∀ M w, Φ M w → Sl M w q l) (hlen : l.length ≤ 9223372036854775807) {K : Ending → World → Prop}
    (h0 : newB id term vote l = false → ∀ w', Ctx W w' S Φ → K (.returned (.pointer none)) w')
    (h1 : newB id term vote l = true → ∀ b p c w', Ctx W w' (repO b (newRep id.toNat term vote l) p c ++ S) Φ → K (.returned (.pointer (some ⟨b, 0, none⟩))) w') : Calls Try.prog F.replica_New #[.int .i64 id, .agg #[.int .i64 term, .int .i64 vote], .slice q l.length qc] w K := by
  refine (Breplica_New_run id term vote q l.length qc (J := fun u w' => K (.returned u) w') cx ?_).mono fun e w' ⟨v, he, hj⟩ => by rw [he]; exact hj
  have hf : ∀ {w : World} {G : List Own}, newB id term vote l = false → Ctx W w (S ++ G) Φ → K (.returned (.pointer none)) w := fun h cx => h0 h _ cx.left
  refine fun _ w G cx => (between_q id 0 2).gives.use cx fun w cx => ⟨_, rfl, S, Φ, inferInstance, cx, Br.intro (fun h => fun w G cx => hf ?_ cx) (fun hb1 => fun w G cx => (between_q term 0 1099511627776).gives.use cx fun w cx => ⟨_, rfl, S, Φ, inferInstance, cx, Br.intro (fun h => fun w G cx => hf ?_ cx) (fun hb2 => fun w G cx => (between_q vote (-1) 2).gives.use cx fun w cx => ⟨_, rfl, S, Φ, inferInstance, cx, Br.intro (fun h => fun w G cx => hf ?_ cx) (fun hb3 => Br.intro (fun h => fun w G cx => hf ?_ cx) (fun hb4 => fun w G cx => (sound_in q qc l 1 term hsl hlen).use cx fun w cx => ⟨_, rfl, S, Φ, inferInstance, cx, Br.intro (fun h => fun w G cx => hf ?_ cx) (fun hb5 => ?_)⟩))⟩)⟩)⟩
  · unfold newB
    rw [Bool.eq_false_iff]; intro hr
    simp only [Bool.and_eq_true, decide_eq_true_eq, Bool.not_eq_true', Bool.and_eq_false_iff, decide_eq_false_iff_not] at hr h
    omega
  · unfold newB
    rw [Bool.eq_false_iff]; intro hr
    simp only [Bool.and_eq_true, decide_eq_true_eq, Bool.not_eq_true', Bool.and_eq_false_iff, decide_eq_false_iff_not] at hr h
    omega
  · unfold newB
    rw [Bool.eq_false_iff]; intro hr
    simp only [Bool.and_eq_true, decide_eq_true_eq, Bool.not_eq_true', Bool.and_eq_false_iff, decide_eq_false_iff_not] at hr h
    omega
  · unfold newB
    rw [Bool.eq_false_iff]; intro hr
    simp only [Bool.and_eq_true, decide_eq_true_eq] at hr h
    omega
  · unfold newB
    rw [show soundR l 1 term = false by simpa using h, Bool.and_false]
  · simp only [Bool.not_eq_false', Bool.and_eq_true, decide_eq_true_eq, decide_eq_false_iff_not] at hb1 hb2 hb3 hb4 hb5
    have hn : newB id term vote l = true := by
      unfold newB
      rw [hb5, Bool.and_true]
      simp only [Bool.and_eq_true, decide_eq_true_eq]
      omega
    refine ⟨[], fun _ _ => True, inferInstance, fun w G cx => (cx.weak fun _ _ _ => trivial).right, fun w G cx => CloneR_use cx hsl (by omega) fun p cap w cx => ⟨p, _, cap, rfl, .buf p l.length cap (recCells l) 55 2 :: S, Φ, inferInstance, cx, fun w G cx => (cx.weak fun _ _ _ => trivial).right, fun k => ⟨fun w G cx => (cx.weak fun _ _ _ => trivial).right, fun w G cx => ?_⟩⟩⟩
    have hid : id = (id.toNat : Nat) := by omega
    refine h1 hn k p cap w ?_
    have := cx.left
    rw [hid] at this
    exact this

/-! ### voted -/
theorem voted_no {r : Rep} {m : MsgR} (h : (decide (r.role ≠ 1) || decide (m.term ≠ r.term) || !m.yes) = true) : votedP r m = (r, out0) := by unfold votedP; rw [if_pos h]
def voteR (r : Rep) (m : MsgR) : Rep := { r with votes := put r.votes m.src.toNat true }
def leadR (r : Rep) (m : MsgR) : Rep := { voteR r m with role := 2, next := fun _ => r.log.length + 1, mat := fun _ => 0 }
theorem voted_few {r : Rep} {m : MsgR} (h : (decide (r.role ≠ 1) || decide (m.term ≠ r.term) || !m.yes) = false) (h2 : countV (voteR r m).votes < 2) : votedP r m = (voteR r m, out0) := by
  unfold votedP; rw [if_neg (by rw [h]; simp)]; show (if countV (voteR r m).votes < 2 then _ else _) = _; rw [if_pos h2]; rfl
theorem voted_lead {r : Rep} {m : MsgR} (h : (decide (r.role ≠ 1) || decide (m.term ≠ r.term) || !m.yes) = false) (h2 : ¬ countV (voteR r m).votes < 2) : votedP r m = (leadR r m, outS (allOf (leadR r m))) := by
  unfold votedP; rw [if_neg (by rw [h]; simp)]; show (if countV (voteR r m).votes < 2 then _ else _) = _; rw [if_neg h2]; rfl

theorem lead_ok {r : Rep} (h : r.Ok) (m : MsgR) : (leadR r m).Ok := by
  have h1 := h.len
  exact ⟨h.id, h.term0, h.termM, h.vote0, h.voteM, h.log, h.len, .inr (.inr rfl), h.commit, fun _ i => ⟨by show 1 ≤ r.log.length + 1; omega, Nat.le_refl _, Nat.zero_le _⟩, fun i => ⟨by show r.log.length + 1 ≤ 4001; omega, by show 0 ≤ 4000; omega⟩⟩

def countTo (v : Nat → Bool) : Nat → Nat
  | 0 => 0
  | k + 1 => countTo v k + b2n (v k)

theorem countTo_succ (v : Nat → Bool) (i : Nat) : countTo v (i + 1) = countTo v i + b2n (v i) := rfl

set_option maxHeartbeats 1000000 in
theorem voted_use {W w : World} {S : List Own} {Φ : PW} [Stable Φ] {b : Nat} {r : Rep} {p : Option Addr} {c : Nat} (cx : Ctx W w (repO b r p c ++ S) Φ) (hr : r.Ok) (m : MsgR) (q : Option Addr) (qc : Nat) (h1 : 0 ≤ m.src) (h2 : m.src ≤ 2) {K : Ending → World → Prop}
    (hK : OutK W S Φ b (votedP r m).1 (votedP r m).2 fun v w => K (.returned v) w) : Calls Try.prog F.replica_Replica_voted #[.pointer (some ⟨b, 0, none⟩), m.v q qc] w K := by
  have hlen := hr.len
  refine (Breplica_Replica_voted_run b 0 m.kind m.src m.to m.term m.index m.prev m.commit m.yes q m.recs.length qc (J := fun u w' => K (.returned u) w') cx ?_).mono fun e w' ⟨v, he, hj⟩ => by rw [he]; exact hj
  refine fun _ _ w G cx => ⟨r.role, cx.get 0 rfl rfl, r.term, fun _ => cx.get 0 rfl rfl, Br.intro (fun h => fun w G cx => ?_) (fun h => ?_)⟩
  · rw [voted_no h] at hK
    exact hK.zero cx.left
  refine ⟨[], fun _ _ => True, inferInstance, fun w G cx => (cx.weak fun _ _ _ => trivial).right, by omega, fun w G cx => ⟨cx.can 0 rfl (by simp; omega), fun w' hw' => ?_⟩⟩
  rw [Nat.zero_add] at hw'
  have cx1 : Ctx W w' (repO b (voteR r m) p c ++ S ++ G) Φ := gr (put_rep (gl cx) hw' (voteR r m) (set_vote (r := r) true (by omega)) rfl)
  refine ⟨_, Φ, inferInstance, cx1, fun w G cx => (cx.weak fun _ _ _ => trivial).right, fun w G cx => ⟨(voteR r m).votes 0, (voteR r m).votes 1, (voteR r m).votes 2, cx.row 0 rfl (rows_of (vs := [.bool ((voteR r m).votes 0), .bool ((voteR r m).votes 1), .bool ((voteR r m).votes 2)]) rfl), ?_⟩⟩
  refine exI_mk (fun n iI R' Φ' k => ∃ i : Nat, iI = i ∧ i ≤ 3 ∧ n = countTo (voteR r m).votes i ∧ R' = repO b (voteR r m) p c ++ S ∧ Φ' = Φ ∧ k = 3 - i) ⟨⟨_, Φ, _, inferInstance, fun w G cx => cx, 0, rfl, Nat.zero_le _, rfl, rfl, rfl, rfl⟩, ?_⟩
  rintro n iI R1 Φ1 k _ ⟨i, rfl, hi, rfl, rfl, rfl, rfl⟩
  have hct : countTo (voteR r m).votes i ≤ 3 := by
    have : ∀ j, countTo (voteR r m).votes j ≤ j := by
      intro j
      induction j with
      | zero => exact Nat.le_refl _
      | succ j ih => unfold countTo; have : b2n ((voteR r m).votes j) ≤ 1 := by unfold b2n; split <;> omega
                     omega
    have := this i; omega
  refine Br.intro (fun hlt => ?_) (fun hge => ?_)
  · have hlt : i < 3 := by have := of_decide_eq_true hlt; omega
    refine ⟨(voteR r m).votes i, ⟨by omega, by omega, ?_⟩, Br.intro (fun hv => ⟨by unfold I64; omega, by unfold I64; omega, _, Φ1, 3 - (i + 1), inferInstance, fun w G cx => cx, ⟨i + 1, rfl, by omega, ?_, rfl, rfl, rfl⟩, by omega⟩) (fun hv => ⟨by unfold I64; omega, _, Φ1, 3 - (i + 1), inferInstance, fun w G cx => cx, ⟨i + 1, rfl, by omega, ?_, rfl, rfl, rfl⟩, by omega⟩)⟩
    · match i, hlt with
      | 0, _ => rfl
      | 1, _ => rfl
      | 2, _ => rfl
    · rw [countTo_succ, hv]; simp [b2n]
    · rw [countTo_succ, hv]; simp [b2n]
  · have hge : i = 3 := by have := of_decide_eq_false hge; omega
    subst hge
    have hc3 : countTo (voteR r m).votes 3 = countV (voteR r m).votes := by simp [countTo, countV]
    rw [hc3]
    refine Br.intro (fun h2' => fun w G cx => ?_) (fun h2' => fun w G cx => ⟨cx.can 0 rfl (by simp), fun w' hw' => ?_⟩)
    · have h2' := of_decide_eq_true h2'
      rw [voted_few h (by omega)] at hK
      exact hK.zero cx.left
    have h2' := of_decide_eq_false h2'
    rw [voted_lead h (by omega)] at hK
    have cx1 : Ctx W w' (repO b { voteR r m with role := 2 } p c ++ S ++ G) Φ1 := gr (put_rep (gl cx) hw' { voteR r m with role := 2 } rfl rfl)
    refine ⟨_, Φ1, inferInstance, cx1, ?_⟩
    refine exI_mk (fun iI R' Φ' k => ∃ (i : Nat) (nx mt : Nat → Nat), iI = i ∧ i ≤ 3 ∧ (∀ j, j < i → nx j = r.log.length + 1 ∧ mt j = 0) ∧ R' = repO b { voteR r m with role := 2, next := nx, mat := mt } p c ++ S ∧ Φ' = Φ1 ∧ k = 3 - i) ⟨⟨_, Φ1, _, inferInstance, fun w G cx => cx, 0, r.next, r.mat, rfl, Nat.zero_le _, fun j h => by omega, rfl, rfl, rfl⟩, ?_⟩
    rintro iI R2 Φ2 k _ ⟨i, nx, mt, rfl, hi, hnm, rfl, rfl, rfl⟩
    refine Br.intro (fun hlt => ?_) (fun hge => fun w G cx => ?_)
    · have hlt : i < 3 := by have := of_decide_eq_true hlt; omega
      refine ⟨[], fun _ _ => True, inferInstance, fun w G cx => (cx.weak fun _ _ _ => trivial).right, fun w G cx => ⟨p, r.log.length, c, cx.get 0 rfl rfl, by unfold I64; omega, by omega, fun w G cx => ⟨cx.can 0 rfl (by simp; omega), fun w' hw' => ?_⟩⟩⟩
      rw [Nat.zero_add, Int.toNat_natCast, show ((r.log.length : Int) + 1) = ((r.log.length + 1 : Nat) : Int) by omega] at hw'
      have cx1 := gr (put_rep (gl cx) hw' { voteR r m with role := 2, next := put nx i (r.log.length + 1), mat := mt } (set_next (r := { voteR r m with role := 2, next := nx, mat := mt }) (r.log.length + 1) hlt) rfl)
      refine ⟨_, Φ2, inferInstance, cx1, fun w G cx => (cx.weak fun _ _ _ => trivial).right, by omega, fun w G cx => ⟨cx.can 0 rfl (by simp; omega), fun w' hw' => ?_⟩⟩
      rw [Nat.zero_add, Int.toNat_natCast] at hw'
      have cx1 := gr (put_rep (gl cx) hw' { voteR r m with role := 2, next := put nx i (r.log.length + 1), mat := put mt i 0 } (set_mat (r := { voteR r m with role := 2, next := put nx i (r.log.length + 1), mat := mt }) 0 hlt) rfl)
      refine ⟨_, Φ2, inferInstance, cx1, fun w G cx => (cx.weak fun _ _ _ => trivial).right, by unfold I64; omega, _, Φ2, 3 - (i + 1), inferInstance, fun w G cx => cx, ⟨i + 1, put nx i (r.log.length + 1), put mt i 0, rfl, by omega, fun j hj => ?_, rfl, rfl, rfl⟩, by omega⟩
      unfold put
      by_cases hji : j = i
      · rw [if_pos hji, if_pos hji]; exact ⟨rfl, rfl⟩
      · rw [if_neg hji, if_neg hji]; exact hnm j (by omega)
    · have hge : i = 3 := by have := of_decide_eq_false hge; omega
      subst hge
      have hcells : ({ voteR r m with role := 2, next := nx, mat := mt } : Rep).cells p c = (leadR r m).cells p c := by
        simp only [Rep.cells, leadR, (hnm 0 (by omega)).1, (hnm 1 (by omega)).1, (hnm 2 (by omega)).1, (hnm 0 (by omega)).2, (hnm 1 (by omega)).2, (hnm 2 (by omega)).2]
      have cx1 : Ctx W w (repO b (leadR r m) p c ++ (S ++ G)) Φ2 := by
        have := gl cx
        unfold repO at this
        rw [hcells] at this
        exact this
      have hlo := lead_ok hr m
      exact all_use cx1 hlo (fun i hi => hlo.fit rfl hi) fun q cap w h1 h2 cx => ⟨q, _, cap, rfl, repO b (leadR r m) p c ++ S, fun M w => Φ2 M w ∧ Sl M w q (allOf (leadR r m)), inferInstance, gr cx, fun w G cx => hK.sent h1 h2 (Ctx.left (F := G) (Φ := fun M w => Φ2 M w ∧ Sl M w q (allOf (leadR r m))) cx)⟩

end Go.Proofs.Ytifgijoeckoojaa
