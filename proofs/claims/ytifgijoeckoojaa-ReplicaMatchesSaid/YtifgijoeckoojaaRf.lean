/-
  Replica: advance, appended, Propose.
-/
import Derived.Test.YtifgijoeckoojaaRe
set_option linter.unusedVariables false
set_option linter.unusedSimpArgs false
namespace Go.Proofs.Ytifgijoeckoojaa
open Go.Vc

/-! ### advance -/
def mostTo (r : Rep) (l : List Nat) : Nat := l.foldl (fun a i => max a (r.mat i)) 0

theorem mostTo_take {r : Rep} {l : List Nat} {i : Nat} (h : i < l.length) : mostTo r (l.take (i + 1)) = max (mostTo r (l.take i)) (r.mat l[i]) := by
  unfold mostTo
  rw [List.take_succ_eq_append_getElem h, List.foldl_append]
  rfl

theorem mostTo_le {r : Rep} {n : Nat} (h : ∀ i, r.mat i ≤ n) (l : List Nat) : mostTo r l ≤ n := by
  have : ∀ (l : List Nat) (a : Nat), a ≤ n → l.foldl (fun a i => max a (r.mat i)) a ≤ n := by
    intro l
    induction l with
    | nil => intro a h; exact h
    | cons x l ih => intro a ha; exact ih _ (Nat.max_le.2 ⟨ha, h x⟩)
  exact this l 0 (Nat.zero_le _)

set_option maxHeartbeats 1000000 in
theorem advance_use {W w : World} {S : List Own} {Φ : PW} [Stable Φ] {b : Nat} {r : Rep} {p : Option Addr} {c : Nat} (cx : Ctx W w (repO b r p c ++ S) Φ) (hid : r.id ≤ 2) (hlen : r.log.length ≤ 4000) (hm : ∀ i, r.mat i ≤ r.log.length) {K : Ending → World → Prop}
    (hK : ∀ w', Ctx W w' (repO b (advanceP r) p c ++ S) Φ → K (.returned (.tuple #[])) w') : Calls Try.prog F.replica_Replica_advance #[.pointer (some ⟨b, 0, none⟩)] w K := by
  have hol := others_len r.id
  refine (Breplica_Replica_advance_run b 0 (J := fun u w' => K (.returned u) w') cx ?_).mono fun e w' ⟨v, he, hj⟩ => by rw [he]; exact hj
  refine fun w G cx => others_use hid (gl cx) fun k rest w cx => ⟨some ⟨k, 0, none⟩, 2, 3, rfl, repO b r p c ++ (.blk k ((othersOf r.id).map (fun x : Nat => intv (x : Int)) ++ rest) 3 :: S), Φ, inferInstance, gr (Q := repO b r p c) (T := .blk k ((othersOf r.id).map (fun x : Nat => intv (x : Int)) ++ rest) 3 :: S) (mid cx), ?_⟩
  refine exI_mk (fun n iI R' Φ' m => ∃ i : Nat, iI = i ∧ i ≤ 2 ∧ n = mostTo r ((othersOf r.id).take i) ∧ R' = repO b r p c ++ (.blk k ((othersOf r.id).map (fun x : Nat => intv (x : Int)) ++ rest) 3 :: S) ∧ Φ' = Φ ∧ m = 2 - i) ⟨⟨_, Φ, _, inferInstance, fun w G cx => cx, 0, rfl, Nat.zero_le _, rfl, rfl, rfl, rfl⟩, ?_⟩
  rintro n iI R1 Φ1 m _ ⟨i, rfl, hi, rfl, rfl, rfl, rfl⟩
  refine Br.intro (fun hlt => ?_) (fun hge => fun w G cx => ?_)
  · have hlt : i < 2 := by have := of_decide_eq_true hlt; omega
    have hio : i < (othersOf r.id).length := by omega
    have hn3 := (others_lt _ (List.getElem_mem hio)).1
    refine ⟨by omega, ptrK_intro k 0 rfl fun w G cx => ⟨((othersOf r.id)[i] : Nat), ?_, by omega, fun w G cx => ⟨(r.mat (othersOf r.id)[i] : Nat), ?_, by unfold I64; omega, _, Φ1, 2 - (i + 1), inferInstance, fun w G cx => cx, ⟨i + 1, rfl, by omega, ?_, rfl, rfl, rfl⟩, by omega⟩⟩⟩
    · rw [Int.toNat_natCast, Nat.zero_add]
      refine cx.get 2 rfl ?_
      rw [List.getElem?_append_left (by rw [List.length_map]; omega), List.getElem?_map, List.getElem?_eq_getElem hio]
      rfl
    · rw [Int.toNat_natCast, Nat.zero_add]
      exact cx.get 0 rfl (cells_mat hn3)
    · rw [mostTo_take hio]; omega
  · have hge : i = 2 := by have := of_decide_eq_false hge; omega
    subst hge
    have htk : (othersOf r.id).take 2 = othersOf r.id := by rw [← hol, List.take_length]
    rw [htk]
    have hml := mostTo_le hm (othersOf r.id)
    have hfin : ∀ {w : World} {G : List Own} {r' : Rep}, Ctx W w (repO b r' p c ++ (.blk k ((othersOf r.id).map (fun x : Nat => intv (x : Int)) ++ rest) 3 :: S) ++ G) Φ1 → Ctx W w (repO b r' p c ++ S) Φ1 := fun cx => (front cx.left).drop1
    refine ⟨r.commit, cx.get 0 rfl rfl, _, fun _ w' hw => term_dr (here_of (gl cx)) rfl hml hlen hw, r.term, fun _ => cx.get 0 rfl rfl, Br.intro (fun h => fun w G cx => ⟨cx.can 0 rfl (by simp), fun w' hw' => ?_⟩) (fun h => fun w G cx => ?_)⟩
    · have ha : advanceP r = { r with commit := mostOf r } := by
        unfold advanceP
        rw [if_pos]
        simp only [Bool.and_eq_true, decide_eq_true_eq] at h ⊢
        exact ⟨by have := h.1; show r.commit < mostTo r (othersOf r.id); omega, h.2⟩
      rw [ha] at hK
      have cx1 := gr (put_rep (gl cx) hw' { r with commit := mostOf r } rfl rfl)
      exact ⟨_, Φ1, inferInstance, cx1, fun w G cx => hK w (hfin cx)⟩
    · have ha : advanceP r = r := by
        unfold advanceP
        rw [if_neg]
        intro h'
        simp only [Bool.and_eq_true, decide_eq_true_eq, Bool.and_eq_false_iff, decide_eq_false_iff_not] at h h'
        rcases h with h | h
        · have := h'.1; change r.commit < mostTo r (othersOf r.id) at this; omega
        · exact h h'.2
      rw [ha] at hK
      exact hK w (hfin cx)

/-! ### appended -/
def backR (r : Rep) (m : MsgR) : Rep := { r with next := put r.next m.src.toNat (max (r.mat m.src.toNat + 1) (min (r.next m.src.toNat - 1) (m.index.toNat + 1))) }
def fwdR (r : Rep) (m : MsgR) : Rep := { r with mat := put r.mat m.src.toNat (max (r.mat m.src.toNat) m.index.toNat), next := put r.next m.src.toNat (max (r.mat m.src.toNat) m.index.toNat + 1) }

theorem appended_no {r : Rep} {m : MsgR} (h : (decide (r.role ≠ 2) || decide (m.term ≠ r.term) || m.yes && decide ((r.log.length : Int) < m.index)) = true) : appendedP r m = (r, out0) := by unfold appendedP; rw [if_pos h]
theorem appended_back {r : Rep} {m : MsgR} (h : (decide (r.role ≠ 2) || decide (m.term ≠ r.term) || m.yes && decide ((r.log.length : Int) < m.index)) = false) (hy : m.yes = false) : appendedP r m = (backR r m, outS [entriesOf (backR r m) m.src.toNat]) := by
  unfold appendedP; rw [if_neg (by rw [h]; simp)]; simp only [hy, if_true]; rfl
theorem appended_fwd {r : Rep} {m : MsgR} (h : (decide (r.role ≠ 2) || decide (m.term ≠ r.term) || m.yes && decide ((r.log.length : Int) < m.index)) = false) (hy : m.yes = true) :
    appendedP r m = if max (r.mat m.src.toNat) m.index.toNat + 1 ≤ r.log.length then (advanceP (fwdR r m), outS [entriesOf (advanceP (fwdR r m)) m.src.toNat]) else (advanceP (fwdR r m), out0) := by
  unfold appendedP; rw [if_neg (by rw [h]; simp)]; simp only [hy, Bool.true_eq_false, if_false]; rfl

theorem back_ok {r : Rep} (h : r.Ok) (hr : r.role = 2) (m : MsgR) : (backR r m).Ok := by
  have h1 := h.len
  have h2 := h.next hr m.src.toNat
  refine ⟨h.id, h.term0, h.termM, h.vote0, h.voteM, h.log, h.len, h.role, h.commit, fun _ i => ?_, fun i => ?_⟩
  · have h3 := h.next hr i
    show 1 ≤ put r.next _ _ i ∧ put r.next _ _ i ≤ r.log.length + 1 ∧ r.mat i ≤ r.log.length
    unfold put
    split
    · omega
    · exact h3
  · have h3 := h.next hr i
    show put r.next _ _ i ≤ 4001 ∧ r.mat i ≤ 4000
    unfold put
    split <;> omega

theorem fwd_ok {r : Rep} (h : r.Ok) (hr : r.role = 2) (m : MsgR) (hm : m.index.toNat ≤ r.log.length) : (fwdR r m).Ok := by
  have h1 := h.len
  have h2 := h.next hr m.src.toNat
  refine ⟨h.id, h.term0, h.termM, h.vote0, h.voteM, h.log, h.len, h.role, h.commit, fun _ i => ?_, fun i => ?_⟩
  · have h3 := h.next hr i
    show 1 ≤ put r.next _ _ i ∧ put r.next _ _ i ≤ r.log.length + 1 ∧ put r.mat _ _ i ≤ r.log.length
    unfold put
    split
    · omega
    · exact h3
  · have h3 := h.next hr i
    show put r.next _ _ i ≤ 4001 ∧ put r.mat _ _ i ≤ 4000
    unfold put
    split <;> omega

theorem adv_ok {r : Rep} (h : r.Ok) (hr : r.role = 2) : (advanceP r).Ok := by
  unfold advanceP
  split
  · refine ⟨h.id, h.term0, h.termM, h.vote0, h.voteM, h.log, h.len, h.role, ?_, h.next, h.bound⟩
    exact mostTo_le (fun i => (h.next hr i).2.2) (othersOf r.id)
  · exact h
theorem adv_eq (r : Rep) : (advanceP r).role = r.role ∧ (advanceP r).log = r.log ∧ (advanceP r).next = r.next ∧ (advanceP r).mat = r.mat ∧ (advanceP r).id = r.id ∧ (advanceP r).term = r.term ∧ (advanceP r).vote = r.vote := by
  unfold advanceP
  split <;> exact ⟨rfl, rfl, rfl, rfl, rfl, rfl, rfl⟩

set_option maxHeartbeats 1000000 in
theorem answer_entries {W w : World} {S G : List Own} {Φ : PW} [Stable Φ] {b : Nat} {r : Rep} {p : Option Addr} {c : Nat} {q : Option Addr} {cap n : Nat} (cx : Ctx W w (repO b r p c ++ S ++ G) (fun M w => Φ M w ∧ Sl M w q (entriesOf r n).recs)) (hm : (entriesOf r n).Ok) (h1 : (entriesOf r n).recs.length ≤ cap) (h2 : cap ≤ maxLen) {K : Value → World → Prop} (hK : OutK W S Φ b r (outS [entriesOf r n]) K)
    {K2 : Ending → World → Prop} (hk2 : ∀ q w', Ctx W w' (repO b r p c ++ S ++ G) (fun M w => Φ M w ∧ Sl M w q [entriesOf r n]) → (∀ w G', Ctx W w (repO b r p c ++ S ++ G') (fun M w => Φ M w ∧ Sl M w q [entriesOf r n]) → K (outV (outS [entriesOf r n]) none 0 q 1) w) → K2 (.returned (outV (outS [entriesOf r n]) none 0 q 1)) w') :
    Calls Try.prog F.replica_answer #[(entriesOf r n).v q cap] w K2 := by
  have hst : Stable (fun M w => Φ M w ∧ Sl M w q (entriesOf r n).recs) := inferInstance
  refine answer_use cx (entriesOf r n) q cap hm h1 h2 (fun M w h => h.2) fun q2 w cx => hk2 q2 w (cx.weak fun M w h => ⟨h.1.1, h.2⟩) fun w G' cx => ?_
  have hst : Stable (fun M w => Φ M w ∧ Sl M w q2 [entriesOf r n]) := inferInstance
  exact hK.sent (by simp) (by simp [maxLen]) (Ctx.left (F := G') cx)

set_option maxHeartbeats 1000000 in
theorem appended_use {W w : World} {S : List Own} {Φ : PW} [Stable Φ] {b : Nat} {r : Rep} {p : Option Addr} {c : Nat} (cx : Ctx W w (repO b r p c ++ S) Φ) (hr : r.Ok) (m : MsgR) (q : Option Addr) (qc : Nat) (h1 : 0 ≤ m.src) (h2 : m.src ≤ 2) (h3 : 0 ≤ m.index) (h4 : m.index ≤ 4000) {K : Ending → World → Prop}
    (hK : OutK W S Φ b (appendedP r m).1 (appendedP r m).2 fun v w => K (.returned v) w) : Calls Try.prog F.replica_Replica_appended #[.pointer (some ⟨b, 0, none⟩), m.v q qc] w K := by
  have hlen := hr.len
  have hsr : m.src = (m.src.toNat : Nat) := by omega
  have hs3 : m.src.toNat < 3 := by omega
  refine (Breplica_Replica_appended_run b 0 m.kind m.src m.to m.term m.index m.prev m.commit m.yes q m.recs.length qc (J := fun u w' => K (.returned u) w') cx ?_).mono fun e w' ⟨v, he, hj⟩ => by rw [he]; exact hj
  refine fun _ _ w G cx => ⟨r.role, cx.get 0 rfl rfl, r.term, fun _ => cx.get 0 rfl rfl, p, r.log.length, c, fun _ => cx.get 0 rfl rfl, Br.intro (fun h => fun w G cx => ?_) (fun h => fun w G cx => ⟨by omega, by omega, Br.intro (fun hy => fun w G cx => ?_) (fun hy => fun w G cx => ?_)⟩)⟩
  · rw [appended_no h] at hK
    exact hK.zero cx.left
  · have hy : m.yes = false := by simpa using hy
    rw [appended_back h hy] at hK
    have hrole : r.role = 2 := by
      simp only [Bool.or_eq_false_iff, decide_eq_false_iff_not] at h
      exact Decidable.not_not.1 h.1.1
    have hn := hr.next hrole m.src.toNat
    have hbo := back_ok hr hrole m
    refine ⟨(r.mat m.src.toNat : Nat), by rw [Nat.zero_add]; exact cx.get 0 rfl (cells_mat hs3), fun w G cx => ⟨(r.next m.src.toNat : Nat), by rw [Nat.zero_add]; exact cx.get 0 rfl (cells_next hs3), by unfold I64; omega, by unfold I64; omega, by unfold I64; omega, fun w G cx => ⟨cx.can 0 rfl (by simp; omega), fun w' hw' => ?_⟩⟩⟩
    have hval : max ((r.mat m.src.toNat : Int) + 1) (min ((r.next m.src.toNat : Int) - 1) (m.index + 1)) = ((max (r.mat m.src.toNat + 1) (min (r.next m.src.toNat - 1) (m.index.toNat + 1)) : Nat) : Int) := by omega
    rw [Nat.zero_add, hval] at hw'
    have cx1 : Ctx W w' (repO b (backR r m) p c ++ S ++ G) Φ := gr (put_rep (gl cx) hw' (backR r m) (set_next (r := r) _ hs3) rfl)
    refine ⟨_, Φ, inferInstance, cx1, fun w G cx => ?_⟩
    refine entries_use (gl cx) hbo.recs m.src.toNat hsr (hbo.fit hrole hs3) fun q2 cap2 w g1 g2 cx => ?_
    have hst : Stable (fun M w => Φ M w ∧ Sl M w q2 (entriesOf (backR r m) m.src.toNat).recs) := inferInstance
    refine ⟨_, _, _, _, _, _, _, _, q2, _, cap2, rfl, repO b (backR r m) p c ++ S, fun M w => Φ M w ∧ Sl M w q2 (entriesOf (backR r m) m.src.toNat).recs, hst, gr cx, fun w G cx => ?_⟩
    refine answer_entries cx (entries_ok hbo (hbo.fit hrole hs3)) g1 g2 hK fun q3 w cx hfin => ⟨_, _, _, _, none, _, 0, q3, _, 1, rfl, repO b (backR r m) p c ++ S, fun M w => Φ M w ∧ Sl M w q3 [entriesOf (backR r m) m.src.toNat], inferInstance, cx, fun w G cx => hfin w G cx⟩
  · have hy : m.yes = true := by simpa using hy
    rw [appended_fwd h hy] at hK
    simp only [Bool.or_eq_false_iff, decide_eq_false_iff_not, hy, Bool.true_and] at h
    have hrole : r.role = 2 := Decidable.not_not.1 h.1.1
    have hix : m.index.toNat ≤ r.log.length := by have := h.2; omega
    have hn := hr.next hrole m.src.toNat
    have hfo := fwd_ok hr hrole m hix
    obtain ⟨e1, e2, e3, e4, e5, e6, e7⟩ := adv_eq (fwdR r m)
    have hao := adv_ok hfo hrole
    refine ⟨(r.mat m.src.toNat : Nat), by rw [Nat.zero_add]; exact cx.get 0 rfl (cells_mat hs3), fun w G cx => ⟨cx.can 0 rfl (by simp; omega), fun w' hw' => ?_⟩⟩
    have hval : max (r.mat m.src.toNat : Int) m.index = ((max (r.mat m.src.toNat) m.index.toNat : Nat) : Int) := by omega
    rw [Nat.zero_add, hval] at hw'
    have cx1 := gr (put_rep (gl cx) hw' { r with mat := put r.mat m.src.toNat (max (r.mat m.src.toNat) m.index.toNat) } (set_mat (r := r) _ hs3) rfl)
    have hget : ({ r with mat := put r.mat m.src.toNat (max (r.mat m.src.toNat) m.index.toNat) } : Rep).mat m.src.toNat = max (r.mat m.src.toNat) m.index.toNat := by simp [put]
    refine ⟨_, Φ, inferInstance, cx1, fun w G cx => ⟨((max (r.mat m.src.toNat) m.index.toNat : Nat) : Int), ?_, by unfold I64; omega, fun w G cx => ⟨cx.can 0 rfl (by simp; omega), fun w' hw' => ?_⟩⟩⟩
    · rw [Nat.zero_add]
      have := cx.get 0 rfl (cells_mat (r := { r with mat := put r.mat m.src.toNat (max (r.mat m.src.toNat) m.index.toNat) }) (p := p) (c := c) hs3)
      rw [hget] at this
      exact this
    rw [Nat.zero_add, show (((max (r.mat m.src.toNat) m.index.toNat : Nat) : Int) + 1) = ((max (r.mat m.src.toNat) m.index.toNat + 1 : Nat) : Int) by omega] at hw'
    have cx1 : Ctx W w' (repO b (fwdR r m) p c ++ S ++ G) Φ := gr (put_rep (gl cx) hw' (fwdR r m) (set_next (r := { r with mat := put r.mat m.src.toNat (max (r.mat m.src.toNat) m.index.toNat) }) _ hs3) rfl)
    refine ⟨_, Φ, inferInstance, cx1, fun w G cx => advance_use (gl cx) hr.id hlen (fun i => (hfo.next hrole i).2.2) fun w cx => ⟨rfl, repO b (advanceP (fwdR r m)) p c ++ S, Φ, inferInstance, gr cx, fun w G cx => ⟨((max (r.mat m.src.toNat) m.index.toNat + 1 : Nat) : Int), ?_, p, (advanceP (fwdR r m)).log.length, c, cx.get 0 rfl rfl, Br.intro (fun hle => fun w G cx => ?_) (fun hle => fun w G cx => ?_)⟩⟩⟩
    · rw [Nat.zero_add]
      have := cx.get 0 rfl (cells_next (r := advanceP (fwdR r m)) (p := p) (c := c) hs3)
      rw [e3] at this
      have e8 : (fwdR r m).next m.src.toNat = max (r.mat m.src.toNat) m.index.toNat + 1 := by simp [fwdR, put]
      rw [e8] at this
      exact this
    · have hle := of_decide_eq_true hle
      rw [e2] at hle
      have hle : max (r.mat m.src.toNat) m.index.toNat + 1 ≤ r.log.length := by
        have : (fwdR r m).log = r.log := rfl
        rw [this] at hle
        omega
      rw [if_pos hle] at hK
      have hro : (advanceP (fwdR r m)).role = 2 := by rw [e1]; exact hrole
      refine entries_use (gl cx) hao.recs m.src.toNat hsr (hao.fit hro hs3) fun q2 cap2 w g1 g2 cx => ?_
      have hst : Stable (fun M w => Φ M w ∧ Sl M w q2 (entriesOf (advanceP (fwdR r m)) m.src.toNat).recs) := inferInstance
      refine ⟨_, _, _, _, _, _, _, _, q2, _, cap2, rfl, repO b (advanceP (fwdR r m)) p c ++ S, fun M w => Φ M w ∧ Sl M w q2 (entriesOf (advanceP (fwdR r m)) m.src.toNat).recs, hst, gr cx, fun w G cx => ?_⟩
      refine answer_entries cx (entries_ok hao (hao.fit hro hs3)) g1 g2 hK fun q3 w cx hfin => ⟨_, _, _, _, none, _, 0, q3, _, 1, rfl, repO b (advanceP (fwdR r m)) p c ++ S, fun M w => Φ M w ∧ Sl M w q3 [entriesOf (advanceP (fwdR r m)) m.src.toNat], inferInstance, cx, fun w G cx => hfin w G cx⟩
    · have hle := of_decide_eq_false hle
      rw [e2] at hle
      have hle : ¬ max (r.mat m.src.toNat) m.index.toNat + 1 ≤ r.log.length := by
        have : (fwdR r m).log = r.log := rfl
        rw [this] at hle
        omega
      rw [if_neg hle] at hK
      exact hK.zero cx.left

end Go.Proofs.Ytifgijoeckoojaa
