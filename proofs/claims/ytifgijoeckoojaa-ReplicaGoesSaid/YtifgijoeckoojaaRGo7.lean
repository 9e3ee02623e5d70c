/-
  Replica: append.
-/
import Derived.Test.YtifgijoeckoojaaRGo6
import Derived.Test.YtifgijoeckoojaaRGo5

section
set_option linter.unusedVariables false
set_option linter.unusedSimpArgs false
namespace Go.Proofs.Ytifgijoeckoojaa
open Go.Vc

theorem agree_le : ∀ a b : List RecD, agree a b ≤ b.length
  | [], b => by cases b <;> simp [agree]
  | x :: a, [] => by simp [agree]
  | x :: a, y :: b => by
    unfold agree
    split
    · have := agree_le a b; simp only [List.length_cons]; omega
    · simp

theorem agree_lt : ∀ a b : List RecD, agree a b ≤ a.length
  | [], b => by cases b <;> simp [agree]
  | x :: a, [] => by simp [agree]
  | x :: a, y :: b => by
    unfold agree
    split
    · have := agree_lt a b; simp only [List.length_cons]; omega
    · simp

theorem agree_step {l rs : List RecD} {n j : Nat} (hj : j < rs.length) : agree (l.drop (n + j)) (rs.drop j) = if (decide (n + j < l.length) && decide (termAt l (n + j + 1) = rs[j].term)) = true then agree (l.drop (n + j + 1)) (rs.drop (j + 1)) + 1 else 0 := by
  rw [List.drop_eq_getElem_cons hj]
  by_cases h : n + j < l.length
  · rw [List.drop_eq_getElem_cons h, decide_eq_true h, Bool.true_and, termAt_succ h]
    by_cases ht : l[n + j].term = rs[j].term
    · rw [if_pos (decide_eq_true ht)]; simp [agree, ht]
    · rw [if_neg (by simp [ht])]; simp [agree, ht]
  · rw [decide_eq_false h, Bool.false_and, if_neg (by simp), List.drop_eq_nil_of_le (by omega)]
    rfl

theorem append_old {r : Rep} {m : MsgR} (h : m.term < r.term) : appendP r m = (r, outS [msgOf r 3 m.src]) := by unfold appendP; rw [if_pos h]
theorem append_lead {r : Rep} {m : MsgR} (h : ¬ m.term < r.term) (h2 : r.role = 2) : appendP r m = (r, out0) := by unfold appendP; rw [if_neg h, if_pos h2]
def folR (r : Rep) : Rep := { r with role := 0 }
def nackOf (r : Rep) (m : MsgR) : MsgR := ⟨3, r.id, m.src, r.term, min (r.log.length : Int) (m.index - 1), 0, 0, false, []⟩
theorem append_gap {r : Rep} {m : MsgR} (h : ¬ m.term < r.term) (h2 : ¬ r.role = 2) (h3 : (decide ((r.log.length : Int) < m.index) || decide (termAt r.log m.index.toNat ≠ m.prev)) = true) : appendP r m = (folR r, outS [nackOf r m]) := by unfold appendP; rw [if_neg h, if_neg h2]; simp only; rw [if_pos h3]; rfl
def appC (r : Rep) (m : MsgR) : Nat := max r.commit (min m.commit.toNat (m.index.toNat + m.recs.length))
def appK (r : Rep) (m : MsgR) : Nat := agree (r.log.drop m.index.toNat) m.recs
def sameR (r : Rep) (m : MsgR) : Rep := { r with role := 0, commit := appC r m }
def appR (r : Rep) (m : MsgR) (k : Nat) : Rep := { r with role := 0, log := r.log.take (m.index.toNat + k) ++ m.recs.drop k, commit := appC r m }
theorem append_same {r : Rep} {m : MsgR} (h : ¬ m.term < r.term) (h2 : ¬ r.role = 2) (h3 : (decide ((r.log.length : Int) < m.index) || decide (termAt r.log m.index.toNat ≠ m.prev)) = false) (h4 : ¬ appK r m < m.recs.length) : appendP r m = (sameR r m, outS [ackOf r m]) := by
  unfold appendP; rw [if_neg h, if_neg h2]; simp only; rw [if_neg (by rw [h3]; simp), if_neg (show ¬ agree (r.log.drop m.index.toNat) m.recs < m.recs.length from h4)]; rfl
theorem append_done {r : Rep} {m : MsgR} (h : ¬ m.term < r.term) (h2 : ¬ r.role = 2) (h3 : (decide ((r.log.length : Int) < m.index) || decide (termAt r.log m.index.toNat ≠ m.prev)) = false) (h4 : appK r m < m.recs.length) (h5 : m.index.toNat + appK r m + 1 ≤ r.commit) : appendP r m = (folR r, out0) := by
  unfold appendP; rw [if_neg h, if_neg h2]; simp only; rw [if_neg (by rw [h3]; simp), if_pos (show agree (r.log.drop m.index.toNat) m.recs < m.recs.length from h4), if_pos (show m.index.toNat + agree (r.log.drop m.index.toNat) m.recs + 1 ≤ r.commit from h5)]; rfl
theorem append_new {r : Rep} {m : MsgR} (h : ¬ m.term < r.term) (h2 : ¬ r.role = 2) (h3 : (decide ((r.log.length : Int) < m.index) || decide (termAt r.log m.index.toNat ≠ m.prev)) = false) (h4 : appK r m < m.recs.length) (h5 : ¬ m.index.toNat + appK r m + 1 ≤ r.commit) :
    appendP r m = (appR r m (appK r m), ⟨false, 0, 0, ((m.index.toNat + appK r m + 1 : Nat) : Int), m.recs.drop (appK r m), [ackOf r m]⟩) := by
  unfold appendP; rw [if_neg h, if_neg h2]; simp only; rw [if_neg (by rw [h3]; simp), if_pos (show agree (r.log.drop m.index.toNat) m.recs < m.recs.length from h4), if_neg (show ¬ m.index.toNat + agree (r.log.drop m.index.toNat) m.recs + 1 ≤ r.commit from h5)]; rfl

/-- what a right message is -/
structure MsgR.Right (id : Nat) (m : MsgR) : Prop where
  kind : 0 ≤ m.kind ∧ m.kind ≤ 3
  to : m.to = id
  src : m.src ≠ id ∧ 0 ≤ m.src ∧ m.src ≤ 2
  term : 1 ≤ m.term ∧ m.term ≤ 1099511627776
  index : 0 ≤ m.index ∧ m.index ≤ 4000
  prev : 0 ≤ m.prev ∧ m.prev ≤ m.term
  zero : m.index = 0 → m.prev = 0
  commit : 0 ≤ m.commit ∧ m.commit ≤ 4000
  len : m.recs.length ≤ 8
  fits : m.index + m.recs.length ≤ 4000
  sound : soundR m.recs (max 1 m.prev) m.term = true

theorem right_iff {id : Nat} {m : MsgR} : rightP id m = true ↔ m.Right id := by
  unfold rightP
  simp only [Bool.and_eq_true, Bool.not_eq_true', Bool.and_eq_false_iff, decide_eq_true_eq, decide_eq_false_iff_not]
  constructor
  · rintro ⟨⟨⟨⟨⟨⟨⟨⟨⟨⟨⟨⟨⟨⟨⟨⟨⟨h1, h2⟩, h3⟩, h4⟩, h5⟩, h6⟩, h7⟩, h8⟩, h9⟩, h10⟩, h11⟩, h12⟩, h13⟩, h14⟩, h15⟩, h16⟩, h17⟩, h18⟩
    exact ⟨⟨h1, h2⟩, h3, ⟨h4, h5, h6⟩, ⟨h7, h8⟩, ⟨h9, h10⟩, ⟨h11, h12⟩, fun h => by omega, ⟨h14, h15⟩, by omega, h17, h18⟩
  · intro h
    obtain ⟨a1, a2⟩ := h.kind
    obtain ⟨b1, b2, b3⟩ := h.src
    obtain ⟨c1, c2⟩ := h.term
    obtain ⟨d1, d2⟩ := h.index
    obtain ⟨e1, e2⟩ := h.prev
    obtain ⟨f1, f2⟩ := h.commit
    have := h.len
    have := h.zero
    exact ⟨⟨⟨⟨⟨⟨⟨⟨⟨⟨⟨⟨⟨⟨⟨⟨⟨a1, a2⟩, h.to⟩, b1⟩, b2⟩, b3⟩, c1⟩, c2⟩, d1⟩, d2⟩, e1⟩, e2⟩, by omega⟩, f1⟩, f2⟩, by omega⟩, h.fits⟩, h.sound⟩

theorem soundR_iff : ∀ (l : List RecD) (least most : Int), soundR l least most = true → (∀ x ∈ l, least ≤ x.term ∧ x.term ≤ most ∧ x.data.size ≤ 2000) ∧ ∀ i j, i ≤ j → (hj : j < l.length) → (hi : i < l.length) → l[i].term ≤ l[j].term
  | [], _, _, _ => ⟨fun x hx => (by cases hx), fun i j _ hj => (by simp at hj)⟩
  | x :: l, least, most, h => by
    unfold soundR at h
    split at h
    · cases h
    rename_i h1
    simp only [Bool.or_eq_true, decide_eq_true_eq, not_or] at h1
    obtain ⟨h2, h3⟩ := soundR_iff l x.term most h
    refine ⟨fun y hy => ?_, fun i j hij hj hi => ?_⟩
    · rcases List.mem_cons.1 hy with rfl | hy
      · omega
      · have := h2 y hy; omega
    · cases i with
      | zero =>
        cases j with
        | zero => exact Int.le_refl _
        | succ j => simp only [List.getElem_cons_zero, List.getElem_cons_succ]; exact (h2 _ (List.getElem_mem _)).1
      | succ i =>
        cases j with
        | zero => omega
        | succ j => simp only [List.getElem_cons_succ]; exact h3 i j (by omega) _ _

set_option maxHeartbeats 4000000 in
theorem append_use {W w : World} {S : List Own} {Φ : PW} [Stable Φ] {b : Nat} {r : Rep} {p : Option Addr} {c : Nat} (cx : Ctx W w (repO b r p c ++ S) Φ) (hr : r.Ok) (m : MsgR) (hm : m.Right r.id) (q : Option Addr) (qc : Nat) (hsl : ∀ M w, Φ M w → Sl M w q m.recs) (hqc : m.recs.length ≤ qc) {K : Ending → World → Prop}
    (hK : OutK W S Φ b (appendP r m).1 (appendP r m).2 fun v w => K (.returned v) w) : Calls Try.prog F.replica_Replica_append #[.pointer (some ⟨b, 0, none⟩), m.v q qc] w K := by
  have hlen := hr.len
  have hcm := hr.commit
  obtain ⟨hs1, hs2, hs3⟩ := hm.src
  obtain ⟨hi1, hi2⟩ := hm.index
  obtain ⟨hc1, hc2⟩ := hm.commit
  have hl8 := hm.len
  have hfit := hm.fits
  have ht0 := hr.term0
  have htM := hr.termM
  have hix : m.index = (m.index.toNat : Nat) := by omega
  have hth : There q m.recs.length := (hsl _ _ cx.phi).there
  have hrok : ∀ x ∈ m.recs, x.Ok := sl_recOk (hsl _ _ cx.phi)
  have hzero : (repO b { r with role := (0 : Int) } p c) = repO b (folR r) p c := rfl
  refine (Breplica_Replica_append_run b 0 m.kind m.src m.to m.term m.index m.prev m.commit m.yes q m.recs.length qc (J := fun u w' => K (.returned u) w') cx ?_).mono fun e w' ⟨v, he, hj⟩ => by rw [he]; exact hj
  refine fun _ _ w G cx => message_use (gl cx) 3 m.src fun w cx => ⟨_, _, _, _, _, _, _, _, none, _, 0, rfl, repO b r p c ++ S, Φ, inferInstance, gr cx, fun k w G cx => ⟨cx.can 0 rfl (by simp), fun w' hw' => ?_⟩⟩
  have cx1 : Ctx W w' (repO b r p c ++ .blk k ((msgOf r 3 m.src).cells none 0) 37 :: S ++ G) Φ := sink (cx.puts 0 hw' rfl)
  have hmok0 := msg_ok0 hr (kind := 3) (to := m.src) (index := 0) (prev := 0) (yes := false) (by omega) (by omega) (by omega) (by omega)
  refine ⟨_, Φ, inferInstance, cx1, fun w G cx => ⟨r.term, cx.get 0 rfl rfl, Br.intro (fun h => fun w G cx => ⟨_, _, _, _, _, _, _, _, none, _, 0, cx.row0 2 rfl, fun w G cx => ?_⟩) (fun h => fun w G cx => ⟨r.role, cx.get 0 rfl rfl, Br.intro (fun h2 => fun w G cx => ?_) (fun h2 => fun w G cx => ⟨cx.can 0 rfl (by simp), fun w' hw' => ?_⟩)⟩)⟩⟩
  · rw [append_old (of_decide_eq_true h)] at hK
    refine reply cx hmok0 rfl hK fun q w cx hfin => ⟨_, _, _, _, none, _, 0, q, _, 1, rfl, _, _, inferInstance, cx, fun w G cx => hfin w G cx⟩
  · rw [append_lead (of_decide_eq_false h) (of_decide_eq_true h2)] at hK
    exact hK.zero (lift cx).drop1.left
  have h := of_decide_eq_false h
  have h2 := of_decide_eq_false h2
  have cx1 : Ctx W w' (repO b (folR r) p c ++ .blk k ((msgOf r 3 m.src).cells none 0) 37 :: S ++ G) Φ := gr (put_rep (gl cx) hw' (folR r) rfl rfl)
  refine ⟨_, Φ, inferInstance, cx1, fun w G cx => ⟨p, r.log.length, c, cx.get 0 rfl rfl, termAt r.log m.index.toNat, fun hle w' hw => term_dr (r := folR r) (here_of (gl cx)) hix ?_ hlen hw, Br.intro (fun h3 => ?_) (fun h3 => ?_)⟩⟩
  · simp only [Bool.not_eq_true', decide_eq_false_iff_not] at hle
    show m.index.toNat ≤ r.log.length
    omega
  · rw [append_gap h h2 h3] at hK
    refine ⟨by unfold I64; omega, fun w G cx => ⟨p, r.log.length, c, cx.get 0 rfl rfl, fun w G cx => ⟨cx.can 2 rfl (by simp), fun w' hw' => ?_⟩⟩⟩
    have cx1 : Ctx W w' (repO b (folR r) p c ++ .blk k ((nackOf r m).cells none 0) 37 :: S ++ G) Φ := cx.put 2 hw' rfl
    refine ⟨_, Φ, inferInstance, cx1, fun w G cx => ⟨_, _, _, _, _, _, _, _, none, _, 0, cx.row0 2 rfl, fun w G cx => ?_⟩⟩
    have hno : (nackOf r m).Ok := msg_ok0 hr (by omega) (by omega) (by omega) (by omega)
    refine reply (r := folR r) cx hno rfl hK fun q w cx hfin => ⟨_, _, _, _, none, _, 0, q, _, 1, rfl, _, _, inferInstance, cx, fun w G cx => hfin w G cx⟩
  have hle : m.index.toNat ≤ r.log.length := by
    simp only [Bool.or_eq_false_iff, decide_eq_false_iff_not] at h3
    omega
  have hao : (ackOf r m).Ok := msg_ok0 hr (by omega) (by omega) (by omega) (by omega)
  -- the loop over what agrees
  refine fun _ => exI_mk (fun jI a0 a1 a2 a3 a4 a5 a6 a7 a8 a9 sv tm vt fr rp rn rc sp sn sc R' Φ' kk => ∃ j : Nat, jI = j ∧ j ≤ m.recs.length ∧ sv = false ∧ tm = 0 ∧ vt = 0 ∧ fr = 0 ∧ rp = none ∧ rn = 0 ∧ rc = 0 ∧ sp = none ∧ sn = 0 ∧ sc = 0 ∧ R' = repO b (folR r) p c ++ .blk k ((msgOf r 3 m.src).cells none 0) 37 :: S ∧ Φ' = Φ ∧ kk = m.recs.length - j ∧ appK r m = j + agree (r.log.drop (m.index.toNat + j)) (m.recs.drop j))
    ⟨⟨_, Φ, _, inferInstance, fun w G cx => cx, 0, rfl, Nat.zero_le _, rfl, rfl, rfl, rfl, rfl, rfl, rfl, rfl, rfl, rfl, rfl, rfl, rfl, by simp [appK]⟩, ?_⟩
  rintro jI _ _ _ _ _ _ _ _ _ _ _ _ _ _ _ _ _ _ _ _ R1 Φ1 kk _ ⟨j, rfl, hj, rfl, rfl, rfl, rfl, rfl, rfl, rfl, rfl, rfl, rfl, rfl, rfl, rfl, hag⟩
  -- what follows when the entries are in place
  have hfin : ∀ (r2 : Rep) (p2 : Option Addr) (c2 : Nat) (Ψ : PW), Stable Ψ → r2.id = r.id → r2.term = r.term → r2.commit = r.commit → ∀ (w : World) (G : List Own), Ctx W w (repO b r2 p2 c2 ++ .blk k ((msgOf r 3 m.src).cells none 0) 37 :: S ++ G) Ψ →
      CanWrite w k 7 1 ∧ ∀ w', w' = w.setCell (Addr.mk k 7 none) (.bool true) → Ctx W w' (repO b r2 p2 c2 ++ .blk k ((⟨3, r.id, m.src, r.term, 0, 0, 0, true, []⟩ : MsgR).cells none 0) 37 :: S ++ G) Ψ :=
    fun r2 p2 c2 Ψ hst e1 e2 e3 w G cx => ⟨cx.can 2 rfl (by simp), fun w' hw' => cx.put 2 hw' rfl⟩
  have hval : m.index + (m.recs.length : Int) = (m.index + m.recs.length : Int) := rfl
  have hcv : ∀ r2 : Rep, r2.commit = r.commit → max (r2.commit : Int) (min m.commit (m.index + (m.recs.length : Int))) = ((appC r m : Nat) : Int) := fun r2 e => by rw [e]; unfold appC; omega
  refine Br.intro (fun hlt => ?_) (fun hge => ?_)
  · have hlt : j < m.recs.length := by simpa using hlt
    obtain ⟨qb, qo, rfl⟩ := hth (by omega)
    refine ⟨by omega, ptrK_intro qb qo rfl fun w G cx => ⟨m.recs[j].term, m.recs[j].data, by rw [Int.toNat_natCast]; exact sl_rec (hsl _ _ cx.phi) hlt, fun _ => ⟨by unfold I64; omega, by unfold I64; omega, fun w G cx => ⟨p, r.log.length, c, cx.get 0 rfl rfl, termAt r.log (m.index.toNat + j + 1), fun hle2 w' hw => term_dr (r := folR r) (here_of (gl cx)) (by omega) ?_ hlen hw, Br.intro (fun heq => ?_) (fun hne => ?_)⟩⟩⟩⟩
    · have := of_decide_eq_true hle2
      show m.index.toNat + j + 1 ≤ r.log.length
      omega
    · refine ⟨by unfold I64; omega, _, Φ1, m.recs.length - (j + 1), inferInstance, fun w G cx => cx, ⟨j + 1, rfl, hlt, rfl, rfl, rfl, rfl, rfl, rfl, rfl, rfl, rfl, rfl, rfl, rfl, rfl, ?_⟩, by omega⟩
      rw [agree_step hlt, if_pos] at hag
      · rw [show m.index.toNat + (j + 1) = m.index.toNat + j + 1 by omega]; omega
      · simp only [Bool.and_eq_true, decide_eq_true_eq] at heq ⊢
        exact ⟨by omega, heq.2⟩
    · rw [agree_step hlt, if_neg] at hag
      case hnc =>
        intro h'
        simp only [Bool.and_eq_true, decide_eq_true_eq, Bool.and_eq_false_iff, decide_eq_false_iff_not] at hne h'
        rcases hne with hne | hne
        · omega
        · exact hne h'.2
      have hag : appK r m = j := by omega
      refine fun w G cx => ⟨r.commit, cx.get 0 rfl rfl, Br.intro (fun h5 => fun w G cx => ?_) (fun h5 => ?_)⟩
      · rw [append_done h h2 h3 (by omega) (by have := of_decide_eq_true h5; omega)] at hK
        exact hK.zero (lift cx).drop1.left
      have h5 := of_decide_eq_false h5
      rw [append_new h h2 h3 (by omega) (by omega), hag] at hK
      have htl : (r.log.take (m.index.toNat + j)).length = m.index.toNat + j := by
        rw [List.length_take]
        have := agree_lt (r.log.drop m.index.toNat) m.recs
        rw [List.length_drop] at this
        unfold appK at hag
        omega
      have hjl : m.index.toNat + j ≤ r.log.length := by rw [List.length_take] at htl; omega
      refine ⟨by omega, fun w G cx => ?_⟩
      -- the rest is copied
      rw [Int.toNat_natCast, show m.recs.length - j = (m.recs.drop j).length by rw [List.length_drop]]
      refine CloneR_use cx (fun M w h => addr_sub (hsl M w h) j hqc) (by rw [List.length_drop]; omega) fun rp rcap w cx => ?_
      obtain ⟨_, hrc1, hrc2⟩ := cx.bufLen 0 rfl
      obtain ⟨cx2, hs, _⟩ := Ctx.freeze (α := RecD) cx (recs_elems fun x hx => hrok x (List.mem_of_mem_drop hx))
      have hst : Stable (fun M w => Φ1 M w ∧ Sl M w rp (m.recs.drop j)) := inferInstance
      refine ⟨rp, _, rcap, rfl, _, fun M w => Φ1 M w ∧ Sl M w rp (m.recs.drop j), hst, cx2.add hs, [.blk b ((folR r).cells p c) 76], fun _ _ => True, inferInstance, fun w G cx => (cx.weak fun _ _ _ => trivial).sub (List.Sublist.cons_cons _ (List.Sublist.cons _ (List.Sublist.cons _ (List.sublist_append_right _ _)))), by unfold I64; omega, p, r.log.length, c, fun w G cx => ⟨p, r.log.length, c, cx.get 0 rfl rfl, rfl⟩, ?_, fun w G cx => ?_⟩
      · have hc := (cx.bufLen 2 rfl).2.1
        have hc : r.log.length ≤ c := hc
        omega
      have hcap : r.log.length ≤ c := (cx.bufLen 1 rfl).2.1
      have hlk : (m.index + (j : Int) + 1 - 1).toNat = m.index.toNat + j := by omega
      have hsp : subPtr p 2 0 c = p := by
        unfold subPtr
        split
        · rfl
        · cases p with
          | none => rfl
          | some a => simp [Addr.add]
      rw [hlk, hsp, ← htl]
      have cx3 : Ctx W w (.blk k ((msgOf r 3 m.src).cells none 0) 37 :: S ++ G) (Aside W (repO b (folR r) p c) (fun M w => Φ1 M w ∧ Sl M w rp (m.recs.drop j))) := cx.asideF
      refine CloneR_use cx3 (fun M w h => Sl.take (log_sl h (n := r.log.length) (c := c) (List.mem_cons_of_mem _ List.mem_cons_self) hr.recs) _) (by show (r.log.take _).length < _; rw [htl]; omega) fun np ncap w cx => ?_
      have cx4 : Ctx W w (repO b (folR r) p c ++ (.buf np (r.log.take (m.index.toNat + j)).length ncap (recCells (r.log.take (m.index.toNat + j))) 55 2 :: .blk k ((msgOf r 3 m.src).cells none 0) 37 :: S) ++ G) (fun M w => Φ1 M w ∧ Sl M w rp (m.recs.drop j)) := Ctx.unasideF (T := .buf np (r.log.take (m.index.toNat + j)).length ncap (recCells (r.log.take (m.index.toNat + j))) 55 2 :: .blk k ((msgOf r 3 m.src).cells none 0) 37 :: S) cx
      refine ⟨np, _, ncap, rfl, _, _, hst, cx4, fun w G cx => (cx.weak fun _ _ _ => trivial).sub (List.Sublist.cons_cons _ (List.Sublist.cons _ (List.Sublist.cons _ (List.Sublist.cons _ (List.sublist_append_right _ _))))), fun w G cx => ?_⟩
      have cx5 := lift (Q := repO b (folR r) p c) cx
      obtain ⟨p', cap', w', news, hrun, _, cx'⟩ := Ctx.appSl (P := Try.prog) (α := RecD) (ts := 35) (ty := 35) (kb := #[false, false]) (bytes := 24) (c2 := rcap) cx5 (by kernel_rfl) rec_one (fun M w h => h.2) (by rw [List.length_drop]; omega) (by rw [htl, List.length_drop]; omega) (by omega)
      have hnews := (elems_recs cx'.phi.2).1
      subst hnews
      have hnl : (r.log.take (m.index.toNat + j)).length + (m.recs.drop j).length = (appR r m j).log.length := by show _ = (r.log.take (m.index.toNat + j) ++ m.recs.drop j).length; rw [List.length_append]
      have hnc : recCells (r.log.take (m.index.toNat + j)) ++ recCells (m.recs.drop j) = recCells (appR r m j).log := by rw [← recs_app]; rfl
      rw [hnl] at hrun
      rw [hnl, hnc] at cx'
      have cx6 : Ctx W w' (.buf p' (appR r m j).log.length cap' (recCells (appR r m j).log) 55 2 :: (repO b (folR r) p c ++ (.blk k ((msgOf r 3 m.src).cells none 0) 37 :: S)) ++ G) (fun M w => Φ1 M w ∧ Sl M w rp (m.recs.drop j)) := cx'.weak fun M w h => h.1
      refine ⟨p', _, cap', w', hrun, _, _, hst, cx6, fun w G cx => (cx.weak fun _ _ _ => trivial).sub (List.Sublist.cons _ (List.Sublist.cons_cons _ (List.Sublist.cons _ (List.Sublist.cons _ (List.sublist_append_right _ _))))), fun w G cx => ⟨cx.can 1 rfl (by simp), fun w' hw' => ?_⟩⟩
      -- the replica with the new log, and the old commit number
      have hcells : ((folR r).cells p c).set 3 (.slice p' (appR r m j).log.length cap') = ({ appR r m j with commit := r.commit } : Rep).cells p' cap' := by simp [Rep.cells, appR, folR]
      have cx7 : Ctx W w' (repO b { appR r m j with commit := r.commit } p' cap' ++ .blk k ((msgOf r 3 m.src).cells none 0) 37 :: S ++ G) (fun M w => Φ1 M w ∧ Sl M w rp (m.recs.drop j)) := by
        have h1 : Ctx W w' (.buf p' (appR r m j).log.length cap' (recCells (appR r m j).log) 55 2 :: .blk b (((folR r).cells p c).set 3 (.slice p' (appR r m j).log.length cap')) 76 :: .buf p r.log.length c (recCells r.log) 55 2 :: (.blk k ((msgOf r 3 m.src).cells none 0) 37 :: S ++ G)) (fun M w => Φ1 M w ∧ Sl M w rp (m.recs.drop j)) := cx.put 1 hw' rfl
        rw [hcells] at h1
        exact (h1.sub (List.Sublist.cons_cons _ (List.Sublist.cons_cons _ (List.sublist_cons_self _ _)))).swap
      refine ⟨_, _, hst, cx7, [], fun _ _ => True, inferInstance, fun w G cx => (cx.weak fun _ _ _ => trivial).right, by unfold I64; omega, fun w G cx => ?_⟩
      obtain ⟨g1, g2⟩ := hfin { appR r m j with commit := r.commit } p' cap' _ hst rfl rfl rfl w G cx
      refine ⟨g1, fun w' hw' => ⟨_, _, hst, g2 w' hw', fun w G cx => (cx.weak fun _ _ _ => trivial).right, fun w G cx => ⟨cx.can 2 rfl (by simp), fun w' hw' => ?_⟩⟩⟩
      have cx8 : Ctx W w' (repO b { appR r m j with commit := r.commit } p' cap' ++ .blk k ((ackOf r m).cells none 0) 37 :: S ++ G) (fun M w => Φ1 M w ∧ Sl M w rp (m.recs.drop j)) := cx.put 2 hw' rfl
      refine ⟨_, _, hst, cx8, fun w G cx => ⟨_, cx.get 2 rfl rfl, fun w G cx => ⟨_, cx.get 0 rfl rfl, fun w G cx => ⟨cx.can 0 rfl (by simp), fun w' hw' => ?_⟩⟩⟩⟩
      rw [show max (r.commit : Int) (min m.commit (ackOf r m).index) = ((appC r m : Nat) : Int) from hcv { appR r m j with commit := r.commit } rfl] at hw'
      have cx9 : Ctx W w' (repO b (appR r m j) p' cap' ++ .blk k ((ackOf r m).cells none 0) 37 :: S ++ G) (fun M w => Φ1 M w ∧ Sl M w rp (m.recs.drop j)) := gr (put_rep (gl cx) hw' (appR r m j) rfl rfl)
      refine ⟨_, _, hst, cx9, fun w G cx => ⟨_, _, _, _, _, _, _, _, none, _, 0, cx.row0 2 rfl, fun k2 w G cx => ?_⟩⟩
      obtain ⟨cx10, hs2⟩ := cx.freezeBlk (Elems.one (rep_msg (x := ackOf r m) hao (Nat.le_refl _) (by simp [maxLen]) Sl.nil))
      have cx11 := (lift (cx10.add (Ψ := fun M w => Sl M w (some ⟨k2, 0, none⟩) [ackOf r m]) hs2)).drop1.left
      have hkk := hK p' cap' rp rcap (some ⟨k2, 0, none⟩) 1 w hrc1 hrc2 (by simp) (by simp [maxLen]) (cx11.weak fun M w h => ⟨h.1.1, h.1.2, h.2⟩)
      rw [show m.index + (j : Int) + 1 = ((m.index.toNat + j + 1 : Nat) : Int) by omega]
      exact hkk
  · have hge : j = m.recs.length := Nat.le_antisymm hj (by simpa using hge)
    subst hge
    rw [List.drop_length] at hag
    have hag : ¬ appK r m < m.recs.length := by omega
    rw [append_same h h2 h3 hag] at hK
    refine ⟨[], fun _ _ => True, inferInstance, fun w G cx => (cx.weak fun _ _ _ => trivial).right, by unfold I64; omega, fun w G cx => ?_⟩
    obtain ⟨g1, g2⟩ := hfin (folR r) p c Φ1 inferInstance rfl rfl rfl w G cx
    refine ⟨g1, fun w' hw' => ⟨_, Φ1, inferInstance, g2 w' hw', fun w G cx => (cx.weak fun _ _ _ => trivial).right, fun w G cx => ⟨cx.can 2 rfl (by simp), fun w' hw' => ?_⟩⟩⟩
    have cx8 : Ctx W w' (repO b (folR r) p c ++ .blk k ((ackOf r m).cells none 0) 37 :: S ++ G) Φ1 := cx.put 2 hw' rfl
    refine ⟨_, Φ1, inferInstance, cx8, fun w G cx => ⟨_, cx.get 2 rfl rfl, fun w G cx => ⟨_, cx.get 0 rfl rfl, fun w G cx => ⟨cx.can 0 rfl (by simp), fun w' hw' => ?_⟩⟩⟩⟩
    rw [show max ((folR r).commit : Int) (min m.commit (ackOf r m).index) = ((appC r m : Nat) : Int) from hcv (folR r) rfl] at hw'
    have cx9 : Ctx W w' (repO b (sameR r m) p c ++ .blk k ((ackOf r m).cells none 0) 37 :: S ++ G) Φ1 := gr (put_rep (gl cx) hw' (sameR r m) rfl rfl)
    refine ⟨_, Φ1, inferInstance, cx9, fun w G cx => ⟨_, _, _, _, _, _, _, _, none, _, 0, cx.row0 2 rfl, fun k2 w G cx => ?_⟩⟩
    obtain ⟨cx10, hs2⟩ := cx.freezeBlk (Elems.one (rep_msg (x := ackOf r m) hao (Nat.le_refl _) (by simp [maxLen]) Sl.nil))
    exact hK.sent (by simp) (by simp [maxLen]) (lift (cx10.add (Ψ := fun M w => Sl M w (some ⟨k2, 0, none⟩) [ackOf r m]) hs2)).drop1.left

end Go.Proofs.Ytifgijoeckoojaa
end

/-
  Replica: Hear.
-/
section
set_option linter.unusedVariables false
set_option linter.unusedSimpArgs false
namespace Go.Proofs.Ytifgijoeckoojaa
open Go.Vc

def finO (r : Rep) (x : Rep × OutR) : Rep × OutR := if (decide (x.1.term = r.term) && decide (x.1.vote = r.vote)) = true then x else (x.1, { x.2 with save := true, term := x.1.term, vote := x.1.vote })
def upR (r : Rep) (m : MsgR) : Rep := { r with term := m.term, vote := -1, role := 0 }
def hearX (r1 : Rep) (m : MsgR) : Rep × OutR := if m.kind = 0 then voteP r1 m else if m.kind = 1 then votedP r1 m else if m.kind = 2 then appendP r1 m else appendedP r1 m

theorem hear_no {r : Rep} {m : MsgR} (h : rightP r.id m = false) : hearP r m = (r, out0) := by unfold hearP; rw [if_pos h]
theorem hear_yes {r : Rep} {m : MsgR} (h : rightP r.id m = true) : hearP r m = finO r (hearX (if r.term < m.term then upR r m else r) m) := by unfold hearP; rw [if_neg (by rw [h]; simp)]; rfl

theorem up_ok {r : Rep} (h : r.Ok) (m : MsgR) (hm : m.Right r.id) (ht : r.term < m.term) : (upR r m).Ok := by
  have h1 := h.term0
  have h2 := hm.term.2
  refine ⟨h.id, by show 0 ≤ m.term; omega, h2, by show (-1 : Int) ≤ -1; omega, by show (-1 : Int) ≤ 2; omega, ⟨h.log.lo, fun x hx => ?_, h.log.data, h.log.asc⟩, h.len, .inl rfl, h.commit, fun hr => ?_, h.bound⟩
  · have := h.log.hi x hx
    show x.term ≤ m.term
    omega
  · cases (show (0 : Int) = 2 from hr)

theorem okAgg40 : okAgg Try.prog 40 = true := by kernel_rfl

theorem hear_post {W : World} {S G : List Own} {Φ : PW} [Stable Φ] {b : Nat} {r : Rep} {x : Rep × OutR} {J : Value → World → Prop} (hK : OutK W S Φ b (finO r x).1 (finO r x).2 J) :
    OutK W (S ++ G) Φ b x.1 x.2 (fun v w => ∃ (c : Bool) (n1 n2 n3 : Int) (p1 : Option Addr) (k1 k2 : Nat) (p2 : Option Addr) (k3 k4 : Nat), Ending.returned v = .returned (.agg #[.bool c, .int .i64 n1, .int .i64 n2, .int .i64 n3, .slice p1 k1 k2, .slice p2 k3 k4]) ∧
      ∃ (R : List Own) (Φ' : PW), Stable Φ' ∧ Ctx W w (R ++ G) Φ' ∧ ∀ (w : World) (F : List Own), Ctx W w (R ++ F) Φ' → ∃ (a1 a2 : Int), RowAt w b (0 + 1) [.int .i64 a1, .int .i64 a2] ∧ okAgg Try.prog 40 = true ∧
        Br (!(decide (a1 = r.term) && (decide (a2 = r.vote) && true)))
          (∃ (R2 : List Own) (Φ2 : PW), Stable Φ2 ∧ (∀ (w : World) (F : List Own), Ctx W w (R ++ F) Φ' → Ctx W w (R2 ++ F) Φ2) ∧ ∃ (b1 b2 : Int), (∀ (w : World) (F : List Own), Ctx W w (R2 ++ F) Φ2 → ∃ (d1 d2 : Int), RowAt w b (0 + 1) [.int .i64 d1, .int .i64 d2] ∧ Value.agg #[.int .i64 d1, .int .i64 d2] = Value.agg #[.int .i64 b1, .int .i64 b2]) ∧
            (∀ (w : World) (F : List Own), Ctx W w (R ++ F) Φ' → Ctx W w (R2 ++ F) Φ2) ∧ (∀ (w : World) (F : List Own), Ctx W w (R ++ F) Φ' → Ctx W w (R2 ++ F) Φ2) ∧ ∀ (w : World) (F : List Own), Ctx W w (R ++ F) Φ' → J (.agg #[.bool true, .int .i64 b1, .int .i64 b2, .int .i64 n3, .slice p1 k1 k2, .slice p2 k3 k4]) w)
          (∀ (w : World) (F : List Own), Ctx W w (R ++ F) Φ' → J (.agg #[.bool c, .int .i64 n1, .int .i64 n2, .int .i64 n3, .slice p1 k1 k2, .slice p2 k3 k4]) w)) := by
  obtain ⟨r', o⟩ := x
  intro p' c' q1 c1 q2 c2 w h1 h2 h3 h4 cx
  have hrow : ∀ {w : World} {F : List Own}, Ctx W w (repO b r' p' c' ++ S ++ F) (OPhi Φ q1 o.recs q2 o.send) → RowAt w b (0 + 1) [.int .i64 r'.term, .int .i64 r'.vote] := fun cx => cx.row 0 rfl (rows_of (vs := [.int .i64 r'.term, .int .i64 r'.vote]) rfl)
  refine ⟨_, _, _, _, q1, _, c1, q2, _, c2, rfl, repO b r' p' c' ++ S, OPhi Φ q1 o.recs q2 o.send, inferInstance, gr cx, fun w F cx => ⟨r'.term, r'.vote, hrow cx, okAgg40, Br.intro (fun hd => ?_) (fun hd => ?_)⟩⟩
  · have hf : finO r (r', o) = (r', { o with save := true, term := r'.term, vote := r'.vote }) := by
      unfold finO
      rw [if_neg]
      intro h
      simp only [Bool.and_true, Bool.not_eq_true'] at hd
      rw [hd] at h; cases h
    rw [hf] at hK
    exact ⟨repO b r' p' c' ++ S, OPhi Φ q1 o.recs q2 o.send, inferInstance, fun w F cx => cx, r'.term, r'.vote, fun w F cx => ⟨_, _, hrow cx, rfl⟩, fun w F cx => cx, fun w F cx => cx, fun w F cx => hK p' c' q1 c1 q2 c2 w h1 h2 h3 h4 cx.left⟩
  · have hf : finO r (r', o) = (r', o) := by
      unfold finO
      rw [if_pos]
      simpa using hd
    rw [hf] at hK
    exact fun w F cx => hK p' c' q1 c1 q2 c2 w h1 h2 h3 h4 cx.left

set_option maxHeartbeats 2000000 in
theorem Hear_use {W w : World} {S : List Own} {Φ : PW} [Stable Φ] {b : Nat} {r : Rep} {p : Option Addr} {c : Nat} (cx : Ctx W w (repO b r p c ++ S) Φ) (hr : r.Ok) (m : MsgR) (hmo : m.Ok) (q : Option Addr) (qc : Nat) (hsl : ∀ M w, Φ M w → Sl M w q m.recs) (hqc : m.recs.length ≤ qc) (hqm : qc ≤ maxLen) {K : Ending → World → Prop}
    (hK : OutK W S Φ b (hearP r m).1 (hearP r m).2 fun v w => K (.returned v) w) : Calls Try.prog F.replica_Replica_Hear #[.pointer (some ⟨b, 0, none⟩), m.v q qc] w K := by
  refine (Breplica_Replica_Hear_run b 0 m.kind m.src m.to m.term m.index m.prev m.commit m.yes q m.recs.length qc (J := fun u w' => K (.returned u) w') cx ?_).mono fun e w' ⟨v, he, hj⟩ => by rw [he]; exact hj
  refine fun _ _ w G cx => right_use (gl cx) m q qc hsl (Nat.le_trans hqc (Nat.le_trans hqm (by decide))) hmo.index fun w cx => ⟨_, rfl, repO b r p c ++ S, Φ, inferInstance, gr cx, Br.intro (fun h => fun w G cx => ?_) (fun h => fun w G cx => ⟨r.term, r.vote, cx.row 0 rfl (rows_of (vs := [.int .i64 r.term, .int .i64 r.vote]) rfl), fun _ w G cx => ⟨r.term, cx.get 0 rfl rfl, Br.intro (fun ht => fun w G cx => ⟨cx.can 0 rfl (by simp), fun w' hw' => ?_⟩) (fun ht => ?_)⟩⟩)⟩
  · rw [hear_no (by simpa using h)] at hK
    exact hK.zero cx.left
  all_goals
    have hy : rightP r.id m = true := by simpa using h
    have hmr := right_iff.1 hy
    obtain ⟨hs1, hs2, hs3⟩ := hmr.src
    obtain ⟨hk1, hk2⟩ := hmr.kind
    obtain ⟨hi1, hi2⟩ := hmr.index
    rw [hear_yes hy] at hK
  · have ht := of_decide_eq_true ht
    rw [if_pos ht] at hK
    have hu := up_ok hr m hmr ht
    have cx1 := gr (puts_rep (gl cx) hw' { r with term := m.term, vote := -1 } rfl rfl)
    refine ⟨_, Φ, inferInstance, cx1, fun w G cx => ⟨cx.can 0 rfl (by simp), fun w' hw' => ?_⟩⟩
    have cx1 : Ctx W w' (repO b (upR r m) p c ++ S ++ G) Φ := gr (put_rep (gl cx) hw' (upR r m) rfl rfl)
    refine ⟨_, Φ, inferInstance, cx1, fun _ => Br.intro (fun k0 => fun w G cx => ?_) (fun k0 => Br.intro (fun k1 => fun w G cx => ?_) (fun k1 => Br.intro (fun k2 => fun w G cx => ?_) (fun k2 => Br.intro (fun k3 => fun w G cx => ?_) (fun k3 => ?_))))⟩
    · rw [show hearX (upR r m) m = voteP (upR r m) m by unfold hearX; rw [if_pos (of_decide_eq_true k0)]] at hK
      exact vote_use (gl cx) hu m q qc hs2 hs3 (hear_post hK)
    · rw [show hearX (upR r m) m = votedP (upR r m) m by unfold hearX; rw [if_neg (of_decide_eq_false k0), if_pos (of_decide_eq_true k1)]] at hK
      exact voted_use (gl cx) hu m q qc hs2 hs3 (hear_post hK)
    · rw [show hearX (upR r m) m = appendP (upR r m) m by unfold hearX; rw [if_neg (of_decide_eq_false k0), if_neg (of_decide_eq_false k1), if_pos (of_decide_eq_true k2)]] at hK
      exact append_use (gl cx) hu m hmr q qc hsl hqc (hear_post hK)
    · rw [show hearX (upR r m) m = appendedP (upR r m) m by unfold hearX; rw [if_neg (of_decide_eq_false k0), if_neg (of_decide_eq_false k1), if_neg (of_decide_eq_false k2)]] at hK
      exact appended_use (gl cx) hu m q qc hs2 hs3 hi1 hi2 (hear_post hK)
    · exfalso
      have := of_decide_eq_false k0; have := of_decide_eq_false k1; have := of_decide_eq_false k2; have := of_decide_eq_false k3
      omega
  · have ht := of_decide_eq_false ht
    rw [if_neg ht] at hK
    refine fun _ => Br.intro (fun k0 => fun w G cx => ?_) (fun k0 => Br.intro (fun k1 => fun w G cx => ?_) (fun k1 => Br.intro (fun k2 => fun w G cx => ?_) (fun k2 => Br.intro (fun k3 => fun w G cx => ?_) (fun k3 => ?_))))
    · rw [show hearX r m = voteP r m by unfold hearX; rw [if_pos (of_decide_eq_true k0)]] at hK
      exact vote_use (gl cx) hr m q qc hs2 hs3 (hear_post hK)
    · rw [show hearX r m = votedP r m by unfold hearX; rw [if_neg (of_decide_eq_false k0), if_pos (of_decide_eq_true k1)]] at hK
      exact voted_use (gl cx) hr m q qc hs2 hs3 (hear_post hK)
    · rw [show hearX r m = appendP r m by unfold hearX; rw [if_neg (of_decide_eq_false k0), if_neg (of_decide_eq_false k1), if_pos (of_decide_eq_true k2)]] at hK
      exact append_use (gl cx) hr m hmr q qc hsl hqc (hear_post hK)
    · rw [show hearX r m = appendedP r m by unfold hearX; rw [if_neg (of_decide_eq_false k0), if_neg (of_decide_eq_false k1), if_neg (of_decide_eq_false k2)]] at hK
      exact appended_use (gl cx) hr m q qc hs2 hs3 hi1 hi2 (hear_post hK)
    · exfalso
      have := of_decide_eq_false k0; have := of_decide_eq_false k1; have := of_decide_eq_false k2; have := of_decide_eq_false k3
      omega

end Go.Proofs.Ytifgijoeckoojaa
end

/-
  The conditions of the walks of some functions, one formula each; 'B<f>_run' says that they suffice. The formulas are printed by a program; the kernel compares them with the functions' code.
-/
section
namespace Go.Proofs.Ytifgijoeckoojaa
set_option linter.unusedVariables false
set_option linter.unusedSimpArgs false
open Go.Vc

/-- erratalaw08.pick -/
def Qerratalaw08_pick (n : Int) (m : Int) (w : World) (J : Value → World → Prop) : Prop :=
  Br (decide (m < 1)) (J (Value.int IntKind.i64 0) w) ((m = 0 → False) ∧ Br (decide (n.tmod m < 0)) (I64 (n.tmod m + m) ∧ J (Value.int IntKind.i64 (n.tmod m + m)) w) (J (Value.int IntKind.i64
  (n.tmod m)) w))

theorem Qerratalaw08_pick_run (n : Int) (m : Int) (w : World) (J : Value → World → Prop) (h : Qerratalaw08_pick n m w J) : Calls Try.prog F.erratalaw08_pick #[.int .i64 n, .int .i64 m] w fun e w' => ∃ v, e = .returned v ∧ J v w' :=
  vcF_sound (H := { keep := some [0, 1, 4, 6, 11] }) (by rw [show vcF Try.prog { keep := some [0, 1, 4, 6, 11] } F.erratalaw08_pick #[.int .i64 n, .int .i64 m] w J = Qerratalaw08_pick n m w J by kernel_rfl]; exact h)

end Go.Proofs.Ytifgijoeckoojaa
end

/-
  The conditions of the walks of some functions, one formula each; 'B<f>_run' says that they suffice. The formulas are printed by a program; the kernel compares them with the functions' code.
-/
section
namespace Go.Proofs.Ytifgijoeckoojaa
set_option linter.unusedVariables false
set_option linter.unusedSimpArgs false
set_option maxRecDepth 100000
open Go.Vc

/-- erratalaw08.small -/
-- known blocks: 3 one, 4 two, 5 three, 8 four, 9 five
def Berratalaw08_small  (W : World) (R : List Own) (Φ : PW) (J : Value → World → Prop) : Prop :=
  ∀ (w0 : World) (R1 : List Own), Ctx W w0 (R ++ R1) Φ → Calls Try.prog F.replica_New #[Value.int IntKind.i64 0, Value.agg #[Value.int IntKind.i64 0, Value.int IntKind.i64 (-1)], Value.slice
  none 0 0] w0 fun (e2 : Ending) (w3 : World) => ∃ (p4 : Option Addr), e2 = Ending.returned (Value.pointer p4) ∧ ∃ (R5 : List Own), ∃ (Φ6 : PW), Stable Φ6 ∧ Ctx W w3 (R5 ++ R1) Φ6 ∧ ∀ (w7 :
  World) (R8 : List Own), Ctx W w7 (R5 ++ R8) Φ6 → Calls Try.prog F.replica_New #[Value.int IntKind.i64 1, Value.agg #[Value.int IntKind.i64 0, Value.int IntKind.i64 (-1)], Value.slice none 0
  0] w7 fun (e9 : Ending) (w10 : World) => ∃ (p11 : Option Addr), e9 = Ending.returned (Value.pointer p11) ∧ ∃ (R12 : List Own), ∃ (Φ13 : PW), Stable Φ13 ∧ Ctx W w10 (R12 ++ R8) Φ13 ∧ ∀ (w14
  : World) (R15 : List Own), Ctx W w14 (R12 ++ R15) Φ13 → Br (p4.isNone || p11.isNone) (∀ (w16 : World) (R17 : List Own), Ctx W w16 (R12 ++ R17) Φ13 → J (Value.bool false) w16) (∀ (w18 :
  World) (R19 : List Own), Ctx W w18 (R12 ++ R19) Φ13 → Calls Try.prog F.replica_Replica_Tick #[Value.pointer p4] w18 fun (e20 : Ending) (w21 : World) => ∃ (c22 : Bool), ∃ (n23 : Int), ∃ (n24
  : Int), ∃ (n25 : Int), ∃ (p26 : Option Addr), ∃ (k27 : Nat), ∃ (k28 : Nat), ∃ (p29 : Option Addr), ∃ (k30 : Nat), ∃ (k31 : Nat), e20 = Ending.returned (Value.agg #[Value.bool c22, Value.int
  IntKind.i64 n23, Value.int IntKind.i64 n24, Value.int IntKind.i64 n25, Value.slice p26 k27 k28, Value.slice p29 k30 k31]) ∧ ∃ (R32 : List Own), ∃ (Φ33 : PW), Stable Φ33 ∧ Ctx W w21 (R32 ++
  R19) Φ33 ∧ ∀ (b : Nat), Br (decide ((↑k30 : Int) ≠ 2)) (∀ (w34 : World) (R35 : List Own), Ctx W w34 (R32 ++ R35) Φ33 → J (Value.bool false) w34) (Br (!c22) (∀ (w36 : World) (R37 : List
  Own), Ctx W w36 (R32 ++ R37) Φ33 → J (Value.bool false) w36) (okAgg Try.prog 40 = true ∧ Br (!(decide (n23 = 1) && (decide (n24 = 0) && true))) (∀ (w38 : World) (R39 : List Own), Ctx W w38
  (R32 ++ R39) Φ33 → J (Value.bool false) w38) (((0 : Int) ≤ 0 ∧ 0 < (↑k30 : Int)) ∧ ptrK none p29 fun (k40 k41 : Nat) => ∀ (w42 : World) (R43 : List Own), Ctx W w42 (R32 ++ R43) Φ33 → ∃ (n44
  : Int), ∃ (n45 : Int), ∃ (n46 : Int), ∃ (n47 : Int), ∃ (n48 : Int), ∃ (n49 : Int), ∃ (n50 : Int), ∃ (c51 : Bool), ∃ (p52 : Option Addr), ∃ (k53 : Nat), ∃ (k54 : Nat), RowAt w42 k40 k41
  [Value.int IntKind.i64 n44, Value.int IntKind.i64 n45, Value.int IntKind.i64 n46, Value.int IntKind.i64 n47, Value.int IntKind.i64 n48, Value.int IntKind.i64 n49, Value.int IntKind.i64 n50,
  Value.bool c51, Value.slice p52 k53 k54] ∧ ∀ (w55 : World) (R56 : List Own), Ctx W w55 (R32 ++ R56) Φ33 → Calls Try.prog F.replica_Replica_Hear #[Value.pointer p11, Value.agg #[Value.int
  IntKind.i64 n44, Value.int IntKind.i64 n45, Value.int IntKind.i64 n46, Value.int IntKind.i64 n47, Value.int IntKind.i64 n48, Value.int IntKind.i64 n49, Value.int IntKind.i64 n50, Value.bool
  c51, Value.slice p52 k53 k54]] w55 fun (e57 : Ending) (w58 : World) => ∃ (c59 : Bool), ∃ (n60 : Int), ∃ (n61 : Int), ∃ (n62 : Int), ∃ (p63 : Option Addr), ∃ (k64 : Nat), ∃ (k65 : Nat), ∃
  (p66 : Option Addr), ∃ (k67 : Nat), ∃ (k68 : Nat), e57 = Ending.returned (Value.agg #[Value.bool c59, Value.int IntKind.i64 n60, Value.int IntKind.i64 n61, Value.int IntKind.i64 n62,
  Value.slice p63 k64 k65, Value.slice p66 k67 k68]) ∧ ∃ (R69 : List Own), ∃ (Φ70 : PW), Stable Φ70 ∧ Ctx W w58 (R69 ++ R56) Φ70 ∧ ∀ (b : Nat) (w71 : World) (R72 : List Own), Ctx W w71 (R69
  ++ R72) Φ70 → ((!decide ((↑k67 : Int) ≠ 1)) = true → (0 : Int) ≤ 0 ∧ 0 < (↑k67 : Int)) ∧ ptrK (some !decide ((↑k67 : Int) ≠ 1)) p66 fun (k73 k74 : Nat) => ∃ (c75 : Bool), ((!decide ((↑k67 :
  Int) ≠ 1)) = true → w71.cell? (Addr.mk k73 (k74 + 7) none) = some (Value.bool c75)) ∧ Br (decide ((↑k67 : Int) ≠ 1) || !c75) (∀ (w76 : World) (R77 : List Own), Ctx W w76 (R69 ++ R77) Φ70 →
  J (Value.bool false) w76) (((0 : Int) ≤ 0 ∧ 0 < (↑k67 : Int)) ∧ ptrK none p66 fun (k78 k79 : Nat) => ∀ (w80 : World) (R81 : List Own), Ctx W w80 (R69 ++ R81) Φ70 → ∃ (n82 : Int), ∃ (n83 :
  Int), ∃ (n84 : Int), ∃ (n85 : Int), ∃ (n86 : Int), ∃ (n87 : Int), ∃ (n88 : Int), ∃ (c89 : Bool), ∃ (p90 : Option Addr), ∃ (k91 : Nat), ∃ (k92 : Nat), RowAt w80 k78 k79 [Value.int
  IntKind.i64 n82, Value.int IntKind.i64 n83, Value.int IntKind.i64 n84, Value.int IntKind.i64 n85, Value.int IntKind.i64 n86, Value.int IntKind.i64 n87, Value.int IntKind.i64 n88, Value.bool
  c89, Value.slice p90 k91 k92] ∧ ∀ (w93 : World) (R94 : List Own), Ctx W w93 (R69 ++ R94) Φ70 → Calls Try.prog F.replica_Replica_Hear #[Value.pointer p4, Value.agg #[Value.int IntKind.i64
  n82, Value.int IntKind.i64 n83, Value.int IntKind.i64 n84, Value.int IntKind.i64 n85, Value.int IntKind.i64 n86, Value.int IntKind.i64 n87, Value.int IntKind.i64 n88, Value.bool c89,
  Value.slice p90 k91 k92]] w93 fun (e95 : Ending) (w96 : World) => ∃ (c97 : Bool), ∃ (n98 : Int), ∃ (n99 : Int), ∃ (n100 : Int), ∃ (p101 : Option Addr), ∃ (k102 : Nat), ∃ (k103 : Nat), ∃
  (p104 : Option Addr), ∃ (k105 : Nat), ∃ (k106 : Nat), e95 = Ending.returned (Value.agg #[Value.bool c97, Value.int IntKind.i64 n98, Value.int IntKind.i64 n99, Value.int IntKind.i64 n100,
  Value.slice p101 k102 k103, Value.slice p104 k105 k106]) ∧ ∃ (R107 : List Own), ∃ (Φ108 : PW), Stable Φ108 ∧ Ctx W w96 (R107 ++ R94) Φ108 ∧ ∀ (b : Nat) (w109 : World) (R110 : List Own), Ctx
  W w109 (R107 ++ R110) Φ108 → Calls Try.prog F.replica_Replica_Propose #[Value.pointer p4, Value.string (ByteArray.mk #[OfNat.ofNat 97])] w109 fun (e111 : Ending) (w112 : World) => ∃ (n113 :
  Int), ∃ (n114 : Int), ∃ (c115 : Bool), ∃ (n116 : Int), ∃ (n117 : Int), ∃ (n118 : Int), ∃ (p119 : Option Addr), ∃ (k120 : Nat), ∃ (k121 : Nat), ∃ (p122 : Option Addr), ∃ (k123 : Nat), ∃
  (k124 : Nat), e111 = Ending.returned (Value.tuple #[Value.int IntKind.i64 n113, Value.int IntKind.i64 n114, Value.agg #[Value.bool c115, Value.int IntKind.i64 n116, Value.int IntKind.i64
  n117, Value.int IntKind.i64 n118, Value.slice p119 k120 k121, Value.slice p122 k123 k124]]) ∧ ∃ (R125 : List Own), ∃ (Φ126 : PW), Stable Φ126 ∧ Ctx W w112 (R125 ++ R110) Φ126 ∧ ∀ (b : Nat)
  (w127 : World) (R128 : List Own), Ctx W w127 (R125 ++ R128) Φ126 → ∃ (n129 : Int), ((!decide ((↑k105 : Int) ≠ 2)) = true → ∀ (w130 : World), w130 = w127 → Calls Try.prog
  F.replica_Replica_Role #[Value.pointer p4] w130 fun (e131 : Ending) (w132 : World) => e131 = Ending.returned (Value.int IntKind.i64 n129) ∧ w132 = w127) ∧ Br (decide ((↑k105 : Int) ≠ 2) ||
  decide (n129 ≠ 2) || decide (n113 ≠ 1) || decide (n114 ≠ 0) || decide ((↑k123 : Int) ≠ 2)) (∀ (w133 : World) (R134 : List Own), Ctx W w133 (R125 ++ R134) Φ126 → J (Value.bool false) w133)
  (((0 : Int) ≤ 0 ∧ 0 < (↑k123 : Int)) ∧ ptrK none p122 fun (k135 k136 : Nat) => ∀ (w137 : World) (R138 : List Own), Ctx W w137 (R125 ++ R138) Φ126 → ∃ (n139 : Int), ∃ (n140 : Int), ∃ (n141 :
  Int), ∃ (n142 : Int), ∃ (n143 : Int), ∃ (n144 : Int), ∃ (n145 : Int), ∃ (c146 : Bool), ∃ (p147 : Option Addr), ∃ (k148 : Nat), ∃ (k149 : Nat), RowAt w137 k135 k136 [Value.int IntKind.i64
  n139, Value.int IntKind.i64 n140, Value.int IntKind.i64 n141, Value.int IntKind.i64 n142, Value.int IntKind.i64 n143, Value.int IntKind.i64 n144, Value.int IntKind.i64 n145, Value.bool
  c146, Value.slice p147 k148 k149] ∧ ∀ (w150 : World) (R151 : List Own), Ctx W w150 (R125 ++ R151) Φ126 → Calls Try.prog F.replica_Replica_Hear #[Value.pointer p11, Value.agg #[Value.int
  IntKind.i64 n139, Value.int IntKind.i64 n140, Value.int IntKind.i64 n141, Value.int IntKind.i64 n142, Value.int IntKind.i64 n143, Value.int IntKind.i64 n144, Value.int IntKind.i64 n145,
  Value.bool c146, Value.slice p147 k148 k149]] w150 fun (e152 : Ending) (w153 : World) => ∃ (c154 : Bool), ∃ (n155 : Int), ∃ (n156 : Int), ∃ (n157 : Int), ∃ (p158 : Option Addr), ∃ (k159 :
  Nat), ∃ (k160 : Nat), ∃ (p161 : Option Addr), ∃ (k162 : Nat), ∃ (k163 : Nat), e152 = Ending.returned (Value.agg #[Value.bool c154, Value.int IntKind.i64 n155, Value.int IntKind.i64 n156,
  Value.int IntKind.i64 n157, Value.slice p158 k159 k160, Value.slice p161 k162 k163]) ∧ ∃ (R164 : List Own), ∃ (Φ165 : PW), Stable Φ165 ∧ Ctx W w153 (R164 ++ R151) Φ165 ∧ ∀ (b : Nat) (w166 :
  World) (R167 : List Own), Ctx W w166 (R164 ++ R167) Φ165 → Br (decide ((↑k162 : Int) ≠ 1) || decide (n157 ≠ 1)) (∀ (w168 : World) (R169 : List Own), Ctx W w168 (R164 ++ R169) Φ165 → J
  (Value.bool false) w168) (((0 : Int) ≤ 0 ∧ 0 < (↑k162 : Int)) ∧ ptrK none p161 fun (k170 k171 : Nat) => ∀ (w172 : World) (R173 : List Own), Ctx W w172 (R164 ++ R173) Φ165 → ∃ (n174 : Int),
  ∃ (n175 : Int), ∃ (n176 : Int), ∃ (n177 : Int), ∃ (n178 : Int), ∃ (n179 : Int), ∃ (n180 : Int), ∃ (c181 : Bool), ∃ (p182 : Option Addr), ∃ (k183 : Nat), ∃ (k184 : Nat), RowAt w172 k170 k171
  [Value.int IntKind.i64 n174, Value.int IntKind.i64 n175, Value.int IntKind.i64 n176, Value.int IntKind.i64 n177, Value.int IntKind.i64 n178, Value.int IntKind.i64 n179, Value.int
  IntKind.i64 n180, Value.bool c181, Value.slice p182 k183 k184] ∧ ∀ (w185 : World) (R186 : List Own), Ctx W w185 (R164 ++ R186) Φ165 → Calls Try.prog F.replica_Replica_Hear #[Value.pointer
  p4, Value.agg #[Value.int IntKind.i64 n174, Value.int IntKind.i64 n175, Value.int IntKind.i64 n176, Value.int IntKind.i64 n177, Value.int IntKind.i64 n178, Value.int IntKind.i64 n179,
  Value.int IntKind.i64 n180, Value.bool c181, Value.slice p182 k183 k184]] w185 fun (e187 : Ending) (w188 : World) => ∃ (c189 : Bool), ∃ (n190 : Int), ∃ (n191 : Int), ∃ (n192 : Int), ∃ (p193
  : Option Addr), ∃ (k194 : Nat), ∃ (k195 : Nat), ∃ (p196 : Option Addr), ∃ (k197 : Nat), ∃ (k198 : Nat), e187 = Ending.returned (Value.agg #[Value.bool c189, Value.int IntKind.i64 n190,
  Value.int IntKind.i64 n191, Value.int IntKind.i64 n192, Value.slice p193 k194 k195, Value.slice p196 k197 k198]) ∧ ∃ (R199 : List Own), ∃ (Φ200 : PW), Stable Φ200 ∧ Ctx W w188 (R199 ++
  R186) Φ200 ∧ ∀ (w201 : World) (R202 : List Own), Ctx W w201 (R199 ++ R202) Φ200 → Calls Try.prog F.replica_Replica_Commit #[Value.pointer p4] w201 fun (e203 : Ending) (w204 : World) => ∃
  (n205 : Int), e203 = Ending.returned (Value.int IntKind.i64 n205) ∧ ∃ (R206 : List Own), ∃ (Φ207 : PW), Stable Φ207 ∧ Ctx W w204 (R206 ++ R202) Φ207 ∧ Br (decide (n205 = 1)) (∀ (w208 :
  World) (R209 : List Own), Ctx W w208 (R206 ++ R209) Φ207 → Calls Try.prog F.replica_Replica_Log #[Value.pointer p4] w208 fun (e210 : Ending) (w211 : World) => ∃ (p212 : Option Addr), ∃
  (k213 : Nat), ∃ (k214 : Nat), e210 = Ending.returned (Value.slice p212 k213 k214) ∧ ∃ (R215 : List Own), ∃ (Φ216 : PW), Stable Φ216 ∧ Ctx W w211 (R215 ++ R209) Φ216 ∧ Br (decide ((↑k213 :
  Int) = 1)) (∀ (w217 : World) (R218 : List Own), Ctx W w217 (R215 ++ R218) Φ216 → Calls Try.prog F.replica_Replica_Log #[Value.pointer p11] w217 fun (e219 : Ending) (w220 : World) => ∃ (p221
  : Option Addr), ∃ (k222 : Nat), ∃ (k223 : Nat), e219 = Ending.returned (Value.slice p221 k222 k223) ∧ ∃ (R224 : List Own), ∃ (Φ225 : PW), Stable Φ225 ∧ Ctx W w220 (R224 ++ R218) Φ225 ∧ ∀
  (w226 : World) (R227 : List Own), Ctx W w226 (R224 ++ R227) Φ225 → J (Value.bool (decide ((↑k222 : Int) = 1))) w226) (∀ (w228 : World) (R229 : List Own), Ctx W w228 (R215 ++ R229) Φ216 → J
  (Value.bool false) w228)) (∀ (w230 : World) (R231 : List Own), Ctx W w230 (R206 ++ R231) Φ207 → J (Value.bool false) w230))))))))

theorem Berratalaw08_small_run  {W w : World} {R : List Own} {Φ : PW} [Stable Φ] {J : Value → World → Prop} (c : Ctx W w R Φ) (h : Berratalaw08_small  W R Φ J) : Calls Try.prog F.erratalaw08_small #[] w fun e w' => ∃ v, e = .returned v ∧ J v w' :=
  vcFS_sound (H := { keep := some [0, 1, 2, 3, 4, 5, 6, 7, 8, 9, 19, 36, 54, 89, 104], track := [3, 4, 5, 8, 9], split := [6, 19] }) (by rw [show vcFS Try.prog W { keep := some [0, 1, 2, 3, 4, 5, 6, 7, 8, 9, 19, 36, 54, 89, 104], track := [3, 4, 5, 8, 9], split := [6, 19] } F.erratalaw08_small #[] R Φ J = Berratalaw08_small  W R Φ J by kernel_rfl]; exact h) c

/-- erratalaw08.begin -/
-- loop at region 3: 2 i; blocks 
def Berratalaw08_begin  (W : World) (R : List Own) (Φ : PW) (J : Value → World → Prop) : Prop :=
  ∀ (k0 : Nat), exI fun (I1 : Int → List Own → PW → Nat → Prop) => (∃ (R2 : List Own), ∃ (Φ3 : PW), ∃ (k4 : Nat), Stable Φ3 ∧ (∀ (w5 : World) (R6 : List Own), Ctx W w5 (Own.blk k0
  [Value.slice none 0 0, Value.slice none 0 0, Value.slice none 0 0] 34 :: R ++ R6) Φ → Ctx W w5 (R2 ++ R6) Φ3) ∧ I1 0 R2 Φ3 k4) ∧ ∀ (n7 : Int) (R8 : List Own) (I9 : List Nat → World → Prop)
  (k10 : Nat), Stable I9 → I1 n7 R8 I9 k10 → Br (decide (n7 < 3)) (∃ (R11 : List Own), ∃ (Φ12 : PW), Stable Φ12 ∧ (∀ (w13 : World) (R14 : List Own), Ctx W w13 (R8 ++ R14) I9 → Ctx W w13 (R11
  ++ R14) Φ12) ∧ ∃ (p15 : Option Addr), ∃ (k16 : Nat), ∃ (k17 : Nat), (∀ (w18 : World) (R19 : List Own), Ctx W w18 (R11 ++ R19) Φ12 → ∃ (p20 : Option Addr), ∃ (k21 : Nat), ∃ (k22 : Nat),
  w18.cell? (Addr.mk k0 0 none) = some (Value.slice p20 k21 k22) ∧ Value.slice p20 k21 k22 = Value.slice p15 k16 k17) ∧ ∀ (w23 : World) (R24 : List Own), Ctx W w23 (R8 ++ R24) I9 → Calls
  Try.prog F.replica_New #[Value.int IntKind.i64 n7, Value.agg #[Value.int IntKind.i64 0, Value.int IntKind.i64 (-1)], Value.slice none 0 0] w23 fun (e25 : Ending) (w26 : World) => ∃ (p27 :
  Option Addr), e25 = Ending.returned (Value.pointer p27) ∧ ∃ (R28 : List Own), ∃ (Φ29 : PW), Stable Φ29 ∧ Ctx W w26 (R28 ++ R24) Φ29 ∧ (∀ (w30 : World) (R31 : List Own), Ctx W w30 (R28 ++
  R31) Φ29 → Ctx W w30 (R11 ++ R31) Φ12) ∧ ∀ (k32 : Nat), (∀ (w33 : World) (R34 : List Own), Ctx W w33 (Own.blk k32 [Value.pointer p27] 46 :: R28 ++ R34) Φ29 → Ctx W w33 (R11 ++ R34) Φ12) ∧ ∀
  (w35 : World) (R36 : List Own), Ctx W w35 (Own.blk k32 [Value.pointer p27] 46 :: R28 ++ R36) Φ29 → ∃ (p37 : Option Addr), ∃ (k38 : Nat), ∃ (k39 : Nat), ∃ (w40 : World), Sem.run Try.prog
  (builtin Builtin.append #[31, 31] 31 #[false, false] #[Value.slice p15 k16 k17, Value.slice (some (Addr.mk k32 0 none)) 1 1]) w35 = Result.ok (Next.value (Value.slice p37 k38 k39)) w40 ∧ ∃
  (R41 : List Own), ∃ (Φ42 : PW), Stable Φ42 ∧ Ctx W w40 (R41 ++ R36) Φ42 ∧ (∀ (w43 : World) (R44 : List Own), Ctx W w43 (R41 ++ R44) Φ42 → Ctx W w43 (R11 ++ R44) Φ12) ∧ ∀ (w45 : World) (R46
  : List Own), Ctx W w45 (R41 ++ R46) Φ42 → CanWrite w45 k0 0 1 ∧ ∀ (w47 : World), w47 = w45.setCell (Addr.mk k0 0 none) (Value.slice p37 k38 k39) → ∃ (R48 : List Own), ∃ (Φ49 : PW), Stable
  Φ49 ∧ Ctx W w47 (R48 ++ R46) Φ49 ∧ ∀ (w50 : World) (R51 : List Own), Ctx W w50 (R48 ++ R51) Φ49 → ∃ (p52 : Option Addr), ∃ (k53 : Nat), ∃ (k54 : Nat), w50.cell? (Addr.mk k0 1 none) = some
  (Value.slice p52 k53 k54) ∧ ∀ (k55 : Nat) (w56 : World) (R57 : List Own), Ctx W w56 (Own.blk k55 [Value.int IntKind.i64 0, Value.int IntKind.i64 (-1), Value.slice none 0 0, Value.int
  IntKind.i64 0] 42 :: R48 ++ R57) Φ49 → ∃ (p58 : Option Addr), ∃ (k59 : Nat), ∃ (k60 : Nat), ∃ (w61 : World), Sem.run Try.prog (builtin Builtin.append #[32, 32] 32 #[false, false]
  #[Value.slice p52 k53 k54, Value.slice (some (Addr.mk k55 0 none)) 1 1]) w56 = Result.ok (Next.value (Value.slice p58 k59 k60)) w61 ∧ ∃ (R62 : List Own), ∃ (Φ63 : PW), Stable Φ63 ∧ Ctx W
  w61 (R62 ++ R57) Φ63 ∧ ∀ (w64 : World) (R65 : List Own), Ctx W w64 (R62 ++ R65) Φ63 → CanWrite w64 k0 1 1 ∧ ∀ (w66 : World), w66 = w64.setCell (Addr.mk k0 1 none) (Value.slice p58 k59 k60)
  → ∃ (R67 : List Own), ∃ (Φ68 : PW), Stable Φ68 ∧ Ctx W w66 (R67 ++ R65) Φ68 ∧ I64 (n7 + 1) ∧ ∃ (R69 : List Own), ∃ (Φ70 : PW), ∃ (k71 : Nat), Stable Φ70 ∧ (∀ (w72 : World) (R73 : List Own),
  Ctx W w72 (R67 ++ R73) Φ68 → Ctx W w72 (R69 ++ R73) Φ70) ∧ I1 (n7 + 1) R69 Φ70 k71 ∧ k71 < k10) (∀ (w74 : World) (R75 : List Own), Ctx W w74 (R8 ++ R75) I9 → ∃ (p76 : Option Addr), ∃ (k77 :
  Nat), ∃ (k78 : Nat), w74.cell? (Addr.mk k0 0 none) = some (Value.slice p76 k77 k78) ∧ ((0 : Int) ≤ 0 ∧ 0 < (↑k77 : Int)) ∧ ptrK none p76 fun (k79 k80 : Nat) => ∃ (p81 : Option Addr),
  w74.cell? (Addr.mk k79 k80 none) = some (Value.pointer p81) ∧ ∃ (p82 : Option Addr), ∃ (k83 : Nat), ∃ (k84 : Nat), ((!p81.isNone) = true → w74.cell? (Addr.mk k0 0 none) = some (Value.slice
  p82 k83 k84)) ∧ ((!p81.isNone) = true → (0 : Int) ≤ 1 ∧ 1 < (↑k83 : Int)) ∧ ptrK (some !p81.isNone) p82 fun (k85 k86 : Nat) => ∃ (p87 : Option Addr), ((!p81.isNone) = true → w74.cell?
  (Addr.mk k85 k86.succ none) = some (Value.pointer p87)) ∧ ∃ (p88 : Option Addr), ∃ (k89 : Nat), ∃ (k90 : Nat), ((!(p81.isNone || p87.isNone)) = true → w74.cell? (Addr.mk k0 0 none) = some
  (Value.slice p88 k89 k90)) ∧ ((!(p81.isNone || p87.isNone)) = true → (0 : Int) ≤ 2 ∧ 2 < (↑k89 : Int)) ∧ ptrK (some !(p81.isNone || p87.isNone)) p88 fun (k91 k92 : Nat) => ∃ (p93 : Option
  Addr), ((!(p81.isNone || p87.isNone)) = true → w74.cell? (Addr.mk k91 (k92 + 1).succ none) = some (Value.pointer p93)) ∧ Br (p81.isNone || p87.isNone || p93.isNone) (∀ (w94 : World) (R95 :
  List Own), Ctx W w94 (R8 ++ R95) I9 → J (Value.pointer none) w94) (∀ (w96 : World) (R97 : List Own), Ctx W w96 (R8 ++ R97) I9 → J (Value.pointer (some (Addr.mk k0 0 none))) w96))

theorem Berratalaw08_begin_run  {W w : World} {R : List Own} {Φ : PW} [Stable Φ] {J : Value → World → Prop} (c : Ctx W w R Φ) (h : Berratalaw08_begin  W R Φ J) : Calls Try.prog F.erratalaw08_begin #[] w fun e w' => ∃ v, e = .returned v ∧ J v w' :=
  vcFS_sound (H := { keep := some [0, 1, 2, 6, 56], stages := [(5, [.held [(0, true), (1, true), (5, true), (6, true), (2, true), (3, true), (4, true), (7, false), (8, false), (9, false)], .stage [10] none, .stage [11] (some 12)])], loops := [(3, [(2, .one (.int .i64))], [])] }) (by rw [show vcFS Try.prog W { keep := some [0, 1, 2, 6, 56], stages := [(5, [.held [(0, true), (1, true), (5, true), (6, true), (2, true), (3, true), (4, true), (7, false), (8, false), (9, false)], .stage [10] none, .stage [11] (some 12)])], loops := [(3, [(2, .one (.int .i64))], [])] } F.erratalaw08_begin #[] R Φ J = Berratalaw08_begin  W R Φ J by kernel_rfl]; exact h) c

/-- erratalaw08.few -/
-- loop at region 2: 5 i; blocks 
def Berratalaw08_few (lP : Option Addr) (lN lC : Nat) (n : Int) (W : World) (R : List Own) (Φ : PW) (J : Value → World → Prop) : Prop :=
  exI fun (I0 : Int → List Own → PW → Nat → Prop) => (∃ (R1 : List Own), ∃ (Φ2 : PW), ∃ (k3 : Nat), Stable Φ2 ∧ (∀ (w4 : World) (R5 : List Own), Ctx W w4 (R ++ R5) Φ → Ctx W w4 (R1 ++ R5) Φ2)
  ∧ I0 0 R1 Φ2 k3) ∧ ∀ (n6 : Int) (R7 : List Own) (I8 : List Nat → World → Prop) (k9 : Nat), Stable I8 → I0 n6 R7 I8 k9 → Br (decide (n6 < (↑lN : Int))) ((0 ≤ n6 ∧ n6 < (↑lN : Int)) ∧ ptrK
  none lP fun (k10 k11 : Nat) => ∀ (w12 : World) (R13 : List Own), Ctx W w12 (R7 ++ R13) I8 → ∃ (s14 : ByteArray), w12.cell? (Addr.mk k10 (k11 + n6.toNat * 4 + 3) none) = some (Value.string
  s14) ∧ Br (decide (40 < (↑s14.size : Int))) (∀ (w15 : World) (R16 : List Own), Ctx W w15 (R7 ++ R16) I8 → J (Value.bool false) w15) (I64 (n6 + 1) ∧ ∃ (R17 : List Own), ∃ (Φ18 : PW), ∃ (k19
  : Nat), Stable Φ18 ∧ (∀ (w20 : World) (R21 : List Own), Ctx W w20 (R7 ++ R21) I8 → Ctx W w20 (R17 ++ R21) Φ18) ∧ I0 (n6 + 1) R17 Φ18 k19 ∧ k19 < k9)) (∀ (w22 : World) (R23 : List Own), Ctx
  W w22 (R7 ++ R23) I8 → J (Value.bool (decide ((↑lN : Int) ≤ n))) w22)

theorem Berratalaw08_few_run (lP : Option Addr) (lN lC : Nat) (n : Int) {W w : World} {R : List Own} {Φ : PW} [Stable Φ] {J : Value → World → Prop} (c : Ctx W w R Φ) (h : Berratalaw08_few lP lN lC n W R Φ J) : Calls Try.prog F.erratalaw08_few #[.slice lP lN lC, .int .i64 n] w fun e w' => ∃ v, e = .returned v ∧ J v w' :=
  vcFS_sound (H := { keep := some [0, 1, 4, 5, 9, 18], loops := [(2, [(5, .one (.int .i64))], [])] }) (by rw [show vcFS Try.prog W { keep := some [0, 1, 4, 5, 9, 18], loops := [(2, [(5, .one (.int .i64))], [])] } F.erratalaw08_few #[.slice lP lN lC, .int .i64 n] R Φ J = Berratalaw08_few lP lN lC n W R Φ J by kernel_rfl]; exact h) c

/-- (*erratalaw08.cluster).step -/
-- known blocks: 3 o, 9 out
def Berratalaw08_cluster_step (xB xO : Nat) (o0 : Int) (o1 : Int) (o2 : Int) (o3 : ByteArray) (W : World) (R : List Own) (Φ : PW) (J : Value → World → Prop) : Prop :=
  ∀ (b : Nat) (w0 : World) (R1 : List Own), Ctx W w0 (R ++ R1) Φ → Calls Try.prog F.erratalaw08_pick #[Value.int IntKind.i64 o1, Value.int IntKind.i64 3] w0 fun (e2 : Ending) (w3 : World) =>
  ∃ (n4 : Int), e2 = Ending.returned (Value.int IntKind.i64 n4) ∧ ∃ (R5 : List Own), ∃ (Φ6 : PW), Stable Φ6 ∧ Ctx W w3 (R5 ++ R1) Φ6 ∧ ∃ (n7 : Int), (∀ (w8 : World), Sem.run Try.prog (binOp
  BinOp.and 3 (Value.int IntKind.i64 o0) (Value.int IntKind.i64 15)) w8 = Result.ok (Value.int IntKind.i64 n7) w8) ∧ Br (decide (n7 = 8)) (∀ (w9 : World) (R10 : List Own), Ctx W w9 (R5 ++
  R10) Φ6 → ∃ (p11 : Option Addr), ∃ (k12 : Nat), ∃ (k13 : Nat), w9.cell? (Addr.mk xB (xO + 2) none) = some (Value.slice p11 k12 k13) ∧ Br (decide (0 < (↑k12 : Int))) (∀ (w14 : World) (R15 :
  List Own), Ctx W w14 (R5 ++ R15) Φ6 → ∃ (p16 : Option Addr), ∃ (k17 : Nat), ∃ (k18 : Nat), w14.cell? (Addr.mk xB (xO + 2) none) = some (Value.slice p16 k17 k18) ∧ ∃ (n19 : Int), (∀ (w20 :
  World), (∃ (k21 : Nat), w20 = w14.drewN k21) → Calls Try.prog F.erratalaw08_pick #[Value.int IntKind.i64 o2, Value.int IntKind.i64 (↑k17 : Int)] w20 fun (e22 : Ending) (w23 : World) => e22
  = Ending.returned (Value.int IntKind.i64 n19) ∧ ∃ (k24 : Nat), w23 = w14.drewN k24) ∧ ∃ (R25 : List Own), ∃ (Φ26 : PW), Stable Φ26 ∧ (∀ (w27 : World) (R28 : List Own), Ctx W w27 (R5 ++ R28)
  Φ6 → Ctx W w27 (R25 ++ R28) Φ26) ∧ I64 (n19 + 1) ∧ ∃ (p29 : Option Addr), ∃ (k30 : Nat), ∃ (k31 : Nat), (∀ (w32 : World) (R33 : List Own), Ctx W w32 (R25 ++ R33) Φ26 → ∃ (p34 : Option
  Addr), ∃ (k35 : Nat), ∃ (k36 : Nat), w32.cell? (Addr.mk xB (xO + 2) none) = some (Value.slice p34 k35 k36) ∧ Value.slice p34 k35 k36 = Value.slice p29 k30 k31) ∧ ∃ (p37 : Option Addr), ∃
  (k38 : Nat), ∃ (k39 : Nat), (∀ (w40 : World) (R41 : List Own), Ctx W w40 (R25 ++ R41) Φ26 → ∃ (p42 : Option Addr), ∃ (k43 : Nat), ∃ (k44 : Nat), w40.cell? (Addr.mk xB (xO + 2) none) = some
  (Value.slice p42 k43 k44) ∧ Value.slice p42 k43 k44 = Value.slice p37 k38 k39) ∧ (0 ≤ n19 ∧ n19 ≤ (↑k31 : Int)) ∧ (0 ≤ n19 + 1 ∧ n19 + 1 ≤ (↑k38 : Int) ∧ k38 ≤ k39) ∧ ∀ (k45 : Nat), (∀ (w46
  : World) (R47 : List Own), Ctx W w46 (Own.blk k45 [] 37 :: R5 ++ R47) Φ6 → Ctx W w46 (R25 ++ R47) Φ26) ∧ ∀ (w48 : World) (R49 : List Own), Ctx W w48 (Own.blk k45 [] 37 :: R5 ++ R49) Φ6 → ∃
  (p50 : Option Addr), ∃ (k51 : Nat), ∃ (k52 : Nat), ∃ (w53 : World), Sem.run Try.prog (builtin Builtin.append #[27, 27] 27 #[false, false] #[Value.slice (some (Addr.mk k45 0 none)) 0 0,
  Value.slice (subPtr p29 9 0 k31) n19.toNat k31]) w48 = Result.ok (Next.value (Value.slice p50 k51 k52)) w53 ∧ ∃ (R54 : List Own), ∃ (Φ55 : PW), Stable Φ55 ∧ Ctx W w53 (R54 ++ R49) Φ55 ∧ (∀
  (w56 : World) (R57 : List Own), Ctx W w56 (R54 ++ R57) Φ55 → Ctx W w56 (R25 ++ R57) Φ26) ∧ ∀ (w58 : World) (R59 : List Own), Ctx W w58 (R54 ++ R59) Φ55 → ∃ (p60 : Option Addr), ∃ (k61 :
  Nat), ∃ (k62 : Nat), ∃ (w63 : World), Sem.run Try.prog (builtin Builtin.append #[27, 27] 27 #[false, false] #[Value.slice p50 k51 k52, Value.slice (subPtr p37 9 (n19 + 1).toNat k39) (k38 -
  (n19 + 1).toNat) (k39 - (n19 + 1).toNat)]) w58 = Result.ok (Next.value (Value.slice p60 k61 k62)) w63 ∧ ∃ (R64 : List Own), ∃ (Φ65 : PW), Stable Φ65 ∧ Ctx W w63 (R64 ++ R59) Φ65 ∧ (∀ (w66 :
  World) (R67 : List Own), Ctx W w66 (R64 ++ R67) Φ65 → Ctx W w66 (R25 ++ R67) Φ26) ∧ ∀ (w68 : World) (R69 : List Own), Ctx W w68 (R64 ++ R69) Φ65 → CanWrite w68 xB (xO + 2) 1 ∧ ∀ (w70 :
  World), w70 = w68.setCell (Addr.mk xB (xO + 2) none) (Value.slice p60 k61 k62) → ∃ (R71 : List Own), ∃ (Φ72 : PW), Stable Φ72 ∧ Ctx W w70 (R71 ++ R69) Φ72 ∧ ∀ (w73 : World) (R74 : List
  Own), Ctx W w73 (R71 ++ R74) Φ72 → J (Value.bool true) w73) (∀ (w75 : World) (R76 : List Own), Ctx W w75 (R5 ++ R76) Φ6 → J (Value.bool true) w75)) (Br (decide (n7 = 9)) (∀ (w77 : World)
  (R78 : List Own), Ctx W w77 (R5 ++ R78) Φ6 → Calls Try.prog F.erratalaw08_cluster_arrive #[Value.pointer (some (Addr.mk xB xO none)), Value.int IntKind.i64 o2, Value.bool true] w77 fun (e79
  : Ending) (w80 : World) => ∃ (c81 : Bool), e79 = Ending.returned (Value.bool c81) ∧ ∃ (R82 : List Own), ∃ (Φ83 : PW), Stable Φ83 ∧ Ctx W w80 (R82 ++ R78) Φ83 ∧ ∀ (w84 : World) (R85 : List
  Own), Ctx W w84 (R82 ++ R85) Φ83 → J (Value.bool c81) w84) (Br (decide (n7 = 10)) (Br (decide (n7 = 10)) (∀ (w86 : World) (R87 : List Own), Ctx W w86 (R5 ++ R87) Φ6 → ∃ (p88 : Option Addr),
  ∃ (k89 : Nat), ∃ (k90 : Nat), w86.cell? (Addr.mk xB xO none) = some (Value.slice p88 k89 k90) ∧ (0 ≤ n4 ∧ n4 < (↑k89 : Int)) ∧ ptrK none p88 fun (k91 k92 : Nat) => ∀ (w93 : World) (R94 :
  List Own), Ctx W w93 (R5 ++ R94) Φ6 → ∃ (p95 : Option Addr), w93.cell? (Addr.mk k91 (k92 + n4.toNat) none) = some (Value.pointer p95) ∧ ∀ (w96 : World) (R97 : List Own), Ctx W w96 (R5 ++
  R97) Φ6 → Calls Try.prog F.replica_Replica_Tick #[Value.pointer p95] w96 fun (e98 : Ending) (w99 : World) => ∃ (c100 : Bool), ∃ (n101 : Int), ∃ (n102 : Int), ∃ (n103 : Int), ∃ (p104 :
  Option Addr), ∃ (k105 : Nat), ∃ (k106 : Nat), ∃ (p107 : Option Addr), ∃ (k108 : Nat), ∃ (k109 : Nat), e98 = Ending.returned (Value.agg #[Value.bool c100, Value.int IntKind.i64 n101,
  Value.int IntKind.i64 n102, Value.int IntKind.i64 n103, Value.slice p104 k105 k106, Value.slice p107 k108 k109]) ∧ ∃ (R110 : List Own), ∃ (Φ111 : PW), Stable Φ111 ∧ Ctx W w99 (R110 ++ R97)
  Φ111 ∧ ∀ (w112 : World) (R113 : List Own), Ctx W w112 (R110 ++ R113) Φ111 → Calls Try.prog F.erratalaw08_cluster_done #[Value.pointer (some (Addr.mk xB xO none)), Value.int IntKind.i64 n4,
  Value.agg #[Value.bool c100, Value.int IntKind.i64 n101, Value.int IntKind.i64 n102, Value.int IntKind.i64 n103, Value.slice p104 k105 k106, Value.slice p107 k108 k109]] w112 fun (e114 :
  Ending) (w115 : World) => ∃ (c116 : Bool), e114 = Ending.returned (Value.bool c116) ∧ ∃ (R117 : List Own), ∃ (Φ118 : PW), Stable Φ118 ∧ Ctx W w115 (R117 ++ R113) Φ118 ∧ ∀ (w119 : World)
  (R120 : List Own), Ctx W w119 (R117 ++ R120) Φ118 → J (Value.bool c116) w119) (Br (decide (n7 = 12)) (Br (decide (n7 = 12)) (∃ (R121 : List Own), ∃ (Φ122 : PW), Stable Φ122 ∧ (∀ (w123 :
  World) (R124 : List Own), Ctx W w123 (R5 ++ R124) Φ6 → Ctx W w123 (R121 ++ R124) Φ122) ∧ ∃ (p125 : Option Addr), ∃ (k126 : Nat), ∃ (k127 : Nat), (∀ (w128 : World) (R129 : List Own), Ctx W
  w128 (R121 ++ R129) Φ122 → ∃ (p130 : Option Addr), ∃ (k131 : Nat), ∃ (k132 : Nat), w128.cell? (Addr.mk xB xO none) = some (Value.slice p130 k131 k132) ∧ Value.slice p130 k131 k132 =
  Value.slice p125 k126 k127) ∧ (0 ≤ n4 ∧ n4 < (↑k126 : Int)) ∧ ptrK none p125 fun (k133 k134 : Nat) => ∃ (p135 : Option Addr), (∀ (w136 : World) (R137 : List Own), Ctx W w136 (R121 ++ R137)
  Φ122 → ∃ (p138 : Option Addr), w136.cell? (Addr.mk k133 (k134 + n4.toNat) none) = some (Value.pointer p138) ∧ Value.pointer p138 = Value.pointer p135) ∧ (∀ (w139 : World) (R140 : List Own),
  Ctx W w139 (R5 ++ R140) Φ6 → Calls Try.prog F.replica_Replica_Propose #[Value.pointer p135, Value.string o3] w139 fun (e141 : Ending) (w142 : World) => ∃ (n143 : Int), ∃ (n144 : Int), ∃
  (c145 : Bool), ∃ (n146 : Int), ∃ (n147 : Int), ∃ (n148 : Int), ∃ (p149 : Option Addr), ∃ (k150 : Nat), ∃ (k151 : Nat), ∃ (p152 : Option Addr), ∃ (k153 : Nat), ∃ (k154 : Nat), e141 =
  Ending.returned (Value.tuple #[Value.int IntKind.i64 n143, Value.int IntKind.i64 n144, Value.agg #[Value.bool c145, Value.int IntKind.i64 n146, Value.int IntKind.i64 n147, Value.int
  IntKind.i64 n148, Value.slice p149 k150 k151, Value.slice p152 k153 k154]]) ∧ ∃ (R155 : List Own), ∃ (Φ156 : PW), Stable Φ156 ∧ Ctx W w142 (R155 ++ R140) Φ156 ∧ (∀ (w157 : World) (R158 :
  List Own), Ctx W w157 (R155 ++ R158) Φ156 → Ctx W w157 (R121 ++ R158) Φ122) ∧ (∀ (k159 : Nat), (∀ (w160 : World) (R161 : List Own), Ctx W w160 (Own.blk k159 [Value.bool false, Value.int
  IntKind.i64 0, Value.int IntKind.i64 0, Value.int IntKind.i64 0, Value.slice none 0 0, Value.slice none 0 0] 45 :: R155 ++ R161) Φ156 → Ctx W w160 (R121 ++ R161) Φ122) ∧ (∀ (w162 : World)
  (R163 : List Own), Ctx W w162 (Own.blk k159 [Value.bool false, Value.int IntKind.i64 0, Value.int IntKind.i64 0, Value.int IntKind.i64 0, Value.slice none 0 0, Value.slice none 0 0] 45 ::
  R155 ++ R163) Φ156 → CanWrite w162 k159 0 6 ∧ ∀ (w164 : World), w164 = w162.setCells k159 0 [Value.bool c145, Value.int IntKind.i64 n146, Value.int IntKind.i64 n147, Value.int IntKind.i64
  n148, Value.slice p149 k150 k151, Value.slice p152 k153 k154] → ∃ (R165 : List Own), ∃ (Φ166 : PW), Stable Φ166 ∧ Ctx W w164 (R165 ++ R163) Φ166 ∧ (∀ (w167 : World) (R168 : List Own), Ctx W
  w167 (R165 ++ R168) Φ166 → Ctx W w167 (R121 ++ R168) Φ122) ∧ ∀ (w169 : World) (R170 : List Own), Ctx W w169 (R165 ++ R170) Φ166 → ∃ (c171 : Bool), ∃ (n172 : Int), ∃ (n173 : Int), ∃ (n174 :
  Int), ∃ (p175 : Option Addr), ∃ (k176 : Nat), ∃ (k177 : Nat), ∃ (p178 : Option Addr), ∃ (k179 : Nat), ∃ (k180 : Nat), RowAt w169 k159 0 [Value.bool c171, Value.int IntKind.i64 n172,
  Value.int IntKind.i64 n173, Value.int IntKind.i64 n174, Value.slice p175 k176 k177, Value.slice p178 k179 k180] ∧ ∀ (w181 : World) (R182 : List Own), Ctx W w181 (R165 ++ R182) Φ166 → Calls
  Try.prog F.erratalaw08_cluster_done #[Value.pointer (some (Addr.mk xB xO none)), Value.int IntKind.i64 n4, Value.agg #[Value.bool c171, Value.int IntKind.i64 n172, Value.int IntKind.i64
  n173, Value.int IntKind.i64 n174, Value.slice p175 k176 k177, Value.slice p178 k179 k180]] w181 fun (e183 : Ending) (w184 : World) => ∃ (c185 : Bool), e183 = Ending.returned (Value.bool
  c185) ∧ ∃ (R186 : List Own), ∃ (Φ187 : PW), Stable Φ187 ∧ Ctx W w184 (R186 ++ R182) Φ187 ∧ ∀ (w188 : World) (R189 : List Own), Ctx W w188 (R186 ++ R189) Φ187 → J (Value.bool c185) w188) ∧
  True) ∧ True) ∧ (∀ (k190 : Nat), (∀ (w191 : World) (R192 : List Own), Ctx W w191 (Own.blk k190 [Value.bool false, Value.int IntKind.i64 0, Value.int IntKind.i64 0, Value.int IntKind.i64 0,
  Value.slice none 0 0, Value.slice none 0 0] 45 :: R5 ++ R192) Φ6 → Ctx W w191 (R121 ++ R192) Φ122) ∧ (∀ (w193 : World) (R194 : List Own), Ctx W w193 (Own.blk k190 [Value.bool false,
  Value.int IntKind.i64 0, Value.int IntKind.i64 0, Value.int IntKind.i64 0, Value.slice none 0 0, Value.slice none 0 0] 45 :: R5 ++ R194) Φ6 → Calls Try.prog F.replica_Replica_Propose
  #[Value.pointer p135, Value.string o3] w193 fun (e195 : Ending) (w196 : World) => ∃ (n197 : Int), ∃ (n198 : Int), ∃ (c199 : Bool), ∃ (n200 : Int), ∃ (n201 : Int), ∃ (n202 : Int), ∃ (p203 :
  Option Addr), ∃ (k204 : Nat), ∃ (k205 : Nat), ∃ (p206 : Option Addr), ∃ (k207 : Nat), ∃ (k208 : Nat), e195 = Ending.returned (Value.tuple #[Value.int IntKind.i64 n197, Value.int IntKind.i64
  n198, Value.agg #[Value.bool c199, Value.int IntKind.i64 n200, Value.int IntKind.i64 n201, Value.int IntKind.i64 n202, Value.slice p203 k204 k205, Value.slice p206 k207 k208]]) ∧ ∃ (R209 :
  List Own), ∃ (Φ210 : PW), Stable Φ210 ∧ Ctx W w196 (R209 ++ R194) Φ210 ∧ (∀ (w211 : World) (R212 : List Own), Ctx W w211 (R209 ++ R212) Φ210 → Ctx W w211 (R121 ++ R212) Φ122) ∧ (∀ (w213 :
  World) (R214 : List Own), Ctx W w213 (R209 ++ R214) Φ210 → CanWrite w213 k190 0 6 ∧ ∀ (w215 : World), w215 = w213.setCells k190 0 [Value.bool c199, Value.int IntKind.i64 n200, Value.int
  IntKind.i64 n201, Value.int IntKind.i64 n202, Value.slice p203 k204 k205, Value.slice p206 k207 k208] → ∃ (R216 : List Own), ∃ (Φ217 : PW), Stable Φ217 ∧ Ctx W w215 (R216 ++ R214) Φ217 ∧ (∀
  (w218 : World) (R219 : List Own), Ctx W w218 (R216 ++ R219) Φ217 → Ctx W w218 (R121 ++ R219) Φ122) ∧ ∀ (w220 : World) (R221 : List Own), Ctx W w220 (R216 ++ R221) Φ217 → ∃ (c222 : Bool), ∃
  (n223 : Int), ∃ (n224 : Int), ∃ (n225 : Int), ∃ (p226 : Option Addr), ∃ (k227 : Nat), ∃ (k228 : Nat), ∃ (p229 : Option Addr), ∃ (k230 : Nat), ∃ (k231 : Nat), RowAt w220 k190 0 [Value.bool
  c222, Value.int IntKind.i64 n223, Value.int IntKind.i64 n224, Value.int IntKind.i64 n225, Value.slice p226 k227 k228, Value.slice p229 k230 k231] ∧ ∀ (w232 : World) (R233 : List Own), Ctx W
  w232 (R216 ++ R233) Φ217 → Calls Try.prog F.erratalaw08_cluster_done #[Value.pointer (some (Addr.mk xB xO none)), Value.int IntKind.i64 n4, Value.agg #[Value.bool c222, Value.int
  IntKind.i64 n223, Value.int IntKind.i64 n224, Value.int IntKind.i64 n225, Value.slice p226 k227 k228, Value.slice p229 k230 k231]] w232 fun (e234 : Ending) (w235 : World) => ∃ (c236 :
  Bool), e234 = Ending.returned (Value.bool c236) ∧ ∃ (R237 : List Own), ∃ (Φ238 : PW), Stable Φ238 ∧ Ctx W w235 (R237 ++ R233) Φ238 ∧ ∀ (w239 : World) (R240 : List Own), Ctx W w239 (R237 ++
  R240) Φ238 → J (Value.bool c236) w239) ∧ True) ∧ True) ∧ True) (Br (decide (n7 = 14)) (∀ (w241 : World) (R242 : List Own), Ctx W w241 (R5 ++ R242) Φ6 → Calls Try.prog
  F.erratalaw08_cluster_start #[Value.pointer (some (Addr.mk xB xO none)), Value.int IntKind.i64 n4] w241 fun (e243 : Ending) (w244 : World) => ∃ (c245 : Bool), e243 = Ending.returned
  (Value.bool c245) ∧ ∃ (R246 : List Own), ∃ (Φ247 : PW), Stable Φ247 ∧ Ctx W w244 (R246 ++ R242) Φ247 ∧ ∀ (w248 : World) (R249 : List Own), Ctx W w248 (R246 ++ R249) Φ247 → J (Value.bool
  c245) w248) (Br (decide (n7 = 15)) (∃ (n250 : Int), (∀ (w251 : World), Sem.run Try.prog (binOp BinOp.and 3 (Value.int IntKind.i64 o2) (Value.int IntKind.i64 1)) w251 = Result.ok (Value.int
  IntKind.i64 n250) w251) ∧ ∀ (w252 : World) (R253 : List Own), Ctx W w252 (R5 ++ R253) Φ6 → ∃ (p254 : Option Addr), ∃ (k255 : Nat), ∃ (k256 : Nat), w252.cell? (Addr.mk xB (xO + 1) none) =
  some (Value.slice p254 k255 k256) ∧ I64 (1 + n250) ∧ (0 ≤ n4 ∧ n4 < (↑k255 : Int)) ∧ ptrK none p254 fun (k257 k258 : Nat) => ∀ (w259 : World) (R260 : List Own), Ctx W w259 (R5 ++ R260) Φ6 →
  CanWrite w259 k257 (k258 + n4.toNat * 4 + 3) 1 ∧ ∀ (w261 : World), w261 = w259.setCell (Addr.mk k257 (k258 + n4.toNat * 4 + 3) none) (Value.int IntKind.i64 (1 + n250)) → ∃ (R262 : List
  Own), ∃ (Φ263 : PW), Stable Φ263 ∧ Ctx W w261 (R262 ++ R260) Φ263 ∧ ∀ (w264 : World) (R265 : List Own), Ctx W w264 (R262 ++ R265) Φ263 → J (Value.bool true) w264) (∀ (w266 : World) (R267 :
  List Own), Ctx W w266 (R5 ++ R267) Φ6 → Calls Try.prog F.erratalaw08_cluster_arrive #[Value.pointer (some (Addr.mk xB xO none)), Value.int IntKind.i64 o2, Value.bool false] w266 fun (e268 :
  Ending) (w269 : World) => ∃ (c270 : Bool), e268 = Ending.returned (Value.bool c270) ∧ ∃ (R271 : List Own), ∃ (Φ272 : PW), Stable Φ272 ∧ Ctx W w269 (R271 ++ R267) Φ272 ∧ ∀ (w273 : World)
  (R274 : List Own), Ctx W w273 (R271 ++ R274) Φ272 → J (Value.bool c270) w273)))) (Br (decide (n7 = 13)) (∃ (R275 : List Own), ∃ (Φ276 : PW), Stable Φ276 ∧ (∀ (w277 : World) (R278 : List
  Own), Ctx W w277 (R5 ++ R278) Φ6 → Ctx W w277 (R275 ++ R278) Φ276) ∧ ∃ (p279 : Option Addr), ∃ (k280 : Nat), ∃ (k281 : Nat), (∀ (w282 : World) (R283 : List Own), Ctx W w282 (R275 ++ R283)
  Φ276 → ∃ (p284 : Option Addr), ∃ (k285 : Nat), ∃ (k286 : Nat), w282.cell? (Addr.mk xB xO none) = some (Value.slice p284 k285 k286) ∧ Value.slice p284 k285 k286 = Value.slice p279 k280 k281)
  ∧ (0 ≤ n4 ∧ n4 < (↑k280 : Int)) ∧ ptrK none p279 fun (k287 k288 : Nat) => ∃ (p289 : Option Addr), (∀ (w290 : World) (R291 : List Own), Ctx W w290 (R275 ++ R291) Φ276 → ∃ (p292 : Option
  Addr), w290.cell? (Addr.mk k287 (k288 + n4.toNat) none) = some (Value.pointer p292) ∧ Value.pointer p292 = Value.pointer p289) ∧ (∀ (w293 : World) (R294 : List Own), Ctx W w293 (R5 ++ R294)
  Φ6 → Calls Try.prog F.replica_Replica_Propose #[Value.pointer p289, Value.string o3] w293 fun (e295 : Ending) (w296 : World) => ∃ (n297 : Int), ∃ (n298 : Int), ∃ (c299 : Bool), ∃ (n300 :
  Int), ∃ (n301 : Int), ∃ (n302 : Int), ∃ (p303 : Option Addr), ∃ (k304 : Nat), ∃ (k305 : Nat), ∃ (p306 : Option Addr), ∃ (k307 : Nat), ∃ (k308 : Nat), e295 = Ending.returned (Value.tuple
  #[Value.int IntKind.i64 n297, Value.int IntKind.i64 n298, Value.agg #[Value.bool c299, Value.int IntKind.i64 n300, Value.int IntKind.i64 n301, Value.int IntKind.i64 n302, Value.slice p303
  k304 k305, Value.slice p306 k307 k308]]) ∧ ∃ (R309 : List Own), ∃ (Φ310 : PW), Stable Φ310 ∧ Ctx W w296 (R309 ++ R294) Φ310 ∧ (∀ (w311 : World) (R312 : List Own), Ctx W w311 (R309 ++ R312)
  Φ310 → Ctx W w311 (R275 ++ R312) Φ276) ∧ (∀ (k313 : Nat), (∀ (w314 : World) (R315 : List Own), Ctx W w314 (Own.blk k313 [Value.bool false, Value.int IntKind.i64 0, Value.int IntKind.i64 0,
  Value.int IntKind.i64 0, Value.slice none 0 0, Value.slice none 0 0] 45 :: R309 ++ R315) Φ310 → Ctx W w314 (R275 ++ R315) Φ276) ∧ (∀ (w316 : World) (R317 : List Own), Ctx W w316 (Own.blk
  k313 [Value.bool false, Value.int IntKind.i64 0, Value.int IntKind.i64 0, Value.int IntKind.i64 0, Value.slice none 0 0, Value.slice none 0 0] 45 :: R309 ++ R317) Φ310 → CanWrite w316 k313
  0 6 ∧ ∀ (w318 : World), w318 = w316.setCells k313 0 [Value.bool c299, Value.int IntKind.i64 n300, Value.int IntKind.i64 n301, Value.int IntKind.i64 n302, Value.slice p303 k304 k305,
  Value.slice p306 k307 k308] → ∃ (R319 : List Own), ∃ (Φ320 : PW), Stable Φ320 ∧ Ctx W w318 (R319 ++ R317) Φ320 ∧ (∀ (w321 : World) (R322 : List Own), Ctx W w321 (R319 ++ R322) Φ320 → Ctx W
  w321 (R275 ++ R322) Φ276) ∧ ∀ (w323 : World) (R324 : List Own), Ctx W w323 (R319 ++ R324) Φ320 → ∃ (c325 : Bool), ∃ (n326 : Int), ∃ (n327 : Int), ∃ (n328 : Int), ∃ (p329 : Option Addr), ∃
  (k330 : Nat), ∃ (k331 : Nat), ∃ (p332 : Option Addr), ∃ (k333 : Nat), ∃ (k334 : Nat), RowAt w323 k313 0 [Value.bool c325, Value.int IntKind.i64 n326, Value.int IntKind.i64 n327, Value.int
  IntKind.i64 n328, Value.slice p329 k330 k331, Value.slice p332 k333 k334] ∧ ∀ (w335 : World) (R336 : List Own), Ctx W w335 (R319 ++ R336) Φ320 → Calls Try.prog F.erratalaw08_cluster_done
  #[Value.pointer (some (Addr.mk xB xO none)), Value.int IntKind.i64 n4, Value.agg #[Value.bool c325, Value.int IntKind.i64 n326, Value.int IntKind.i64 n327, Value.int IntKind.i64 n328,
  Value.slice p329 k330 k331, Value.slice p332 k333 k334]] w335 fun (e337 : Ending) (w338 : World) => ∃ (c339 : Bool), e337 = Ending.returned (Value.bool c339) ∧ ∃ (R340 : List Own), ∃ (Φ341
  : PW), Stable Φ341 ∧ Ctx W w338 (R340 ++ R336) Φ341 ∧ ∀ (w342 : World) (R343 : List Own), Ctx W w342 (R340 ++ R343) Φ341 → J (Value.bool c339) w342) ∧ True) ∧ True) ∧ (∀ (k344 : Nat), (∀
  (w345 : World) (R346 : List Own), Ctx W w345 (Own.blk k344 [Value.bool false, Value.int IntKind.i64 0, Value.int IntKind.i64 0, Value.int IntKind.i64 0, Value.slice none 0 0, Value.slice
  none 0 0] 45 :: R5 ++ R346) Φ6 → Ctx W w345 (R275 ++ R346) Φ276) ∧ (∀ (w347 : World) (R348 : List Own), Ctx W w347 (Own.blk k344 [Value.bool false, Value.int IntKind.i64 0, Value.int
  IntKind.i64 0, Value.int IntKind.i64 0, Value.slice none 0 0, Value.slice none 0 0] 45 :: R5 ++ R348) Φ6 → Calls Try.prog F.replica_Replica_Propose #[Value.pointer p289, Value.string o3]
  w347 fun (e349 : Ending) (w350 : World) => ∃ (n351 : Int), ∃ (n352 : Int), ∃ (c353 : Bool), ∃ (n354 : Int), ∃ (n355 : Int), ∃ (n356 : Int), ∃ (p357 : Option Addr), ∃ (k358 : Nat), ∃ (k359 :
  Nat), ∃ (p360 : Option Addr), ∃ (k361 : Nat), ∃ (k362 : Nat), e349 = Ending.returned (Value.tuple #[Value.int IntKind.i64 n351, Value.int IntKind.i64 n352, Value.agg #[Value.bool c353,
  Value.int IntKind.i64 n354, Value.int IntKind.i64 n355, Value.int IntKind.i64 n356, Value.slice p357 k358 k359, Value.slice p360 k361 k362]]) ∧ ∃ (R363 : List Own), ∃ (Φ364 : PW), Stable
  Φ364 ∧ Ctx W w350 (R363 ++ R348) Φ364 ∧ (∀ (w365 : World) (R366 : List Own), Ctx W w365 (R363 ++ R366) Φ364 → Ctx W w365 (R275 ++ R366) Φ276) ∧ (∀ (w367 : World) (R368 : List Own), Ctx W
  w367 (R363 ++ R368) Φ364 → CanWrite w367 k344 0 6 ∧ ∀ (w369 : World), w369 = w367.setCells k344 0 [Value.bool c353, Value.int IntKind.i64 n354, Value.int IntKind.i64 n355, Value.int
  IntKind.i64 n356, Value.slice p357 k358 k359, Value.slice p360 k361 k362] → ∃ (R370 : List Own), ∃ (Φ371 : PW), Stable Φ371 ∧ Ctx W w369 (R370 ++ R368) Φ371 ∧ (∀ (w372 : World) (R373 : List
  Own), Ctx W w372 (R370 ++ R373) Φ371 → Ctx W w372 (R275 ++ R373) Φ276) ∧ ∀ (w374 : World) (R375 : List Own), Ctx W w374 (R370 ++ R375) Φ371 → ∃ (c376 : Bool), ∃ (n377 : Int), ∃ (n378 :
  Int), ∃ (n379 : Int), ∃ (p380 : Option Addr), ∃ (k381 : Nat), ∃ (k382 : Nat), ∃ (p383 : Option Addr), ∃ (k384 : Nat), ∃ (k385 : Nat), RowAt w374 k344 0 [Value.bool c376, Value.int
  IntKind.i64 n377, Value.int IntKind.i64 n378, Value.int IntKind.i64 n379, Value.slice p380 k381 k382, Value.slice p383 k384 k385] ∧ ∀ (w386 : World) (R387 : List Own), Ctx W w386 (R370 ++
  R387) Φ371 → Calls Try.prog F.erratalaw08_cluster_done #[Value.pointer (some (Addr.mk xB xO none)), Value.int IntKind.i64 n4, Value.agg #[Value.bool c376, Value.int IntKind.i64 n377,
  Value.int IntKind.i64 n378, Value.int IntKind.i64 n379, Value.slice p380 k381 k382, Value.slice p383 k384 k385]] w386 fun (e388 : Ending) (w389 : World) => ∃ (c390 : Bool), e388 =
  Ending.returned (Value.bool c390) ∧ ∃ (R391 : List Own), ∃ (Φ392 : PW), Stable Φ392 ∧ Ctx W w389 (R391 ++ R387) Φ392 ∧ ∀ (w393 : World) (R394 : List Own), Ctx W w393 (R391 ++ R394) Φ392 → J
  (Value.bool c390) w393) ∧ True) ∧ True) ∧ True) (Br (decide (n7 = 14)) (∀ (w395 : World) (R396 : List Own), Ctx W w395 (R5 ++ R396) Φ6 → Calls Try.prog F.erratalaw08_cluster_start
  #[Value.pointer (some (Addr.mk xB xO none)), Value.int IntKind.i64 n4] w395 fun (e397 : Ending) (w398 : World) => ∃ (c399 : Bool), e397 = Ending.returned (Value.bool c399) ∧ ∃ (R400 : List
  Own), ∃ (Φ401 : PW), Stable Φ401 ∧ Ctx W w398 (R400 ++ R396) Φ401 ∧ ∀ (w402 : World) (R403 : List Own), Ctx W w402 (R400 ++ R403) Φ401 → J (Value.bool c399) w402) (Br (decide (n7 = 15)) (∃
  (n404 : Int), (∀ (w405 : World), Sem.run Try.prog (binOp BinOp.and 3 (Value.int IntKind.i64 o2) (Value.int IntKind.i64 1)) w405 = Result.ok (Value.int IntKind.i64 n404) w405) ∧ ∀ (w406 :
  World) (R407 : List Own), Ctx W w406 (R5 ++ R407) Φ6 → ∃ (p408 : Option Addr), ∃ (k409 : Nat), ∃ (k410 : Nat), w406.cell? (Addr.mk xB (xO + 1) none) = some (Value.slice p408 k409 k410) ∧
  I64 (1 + n404) ∧ (0 ≤ n4 ∧ n4 < (↑k409 : Int)) ∧ ptrK none p408 fun (k411 k412 : Nat) => ∀ (w413 : World) (R414 : List Own), Ctx W w413 (R5 ++ R414) Φ6 → CanWrite w413 k411 (k412 + n4.toNat
  * 4 + 3) 1 ∧ ∀ (w415 : World), w415 = w413.setCell (Addr.mk k411 (k412 + n4.toNat * 4 + 3) none) (Value.int IntKind.i64 (1 + n404)) → ∃ (R416 : List Own), ∃ (Φ417 : PW), Stable Φ417 ∧ Ctx W
  w415 (R416 ++ R414) Φ417 ∧ ∀ (w418 : World) (R419 : List Own), Ctx W w418 (R416 ++ R419) Φ417 → J (Value.bool true) w418) (∀ (w420 : World) (R421 : List Own), Ctx W w420 (R5 ++ R421) Φ6 →
  Calls Try.prog F.erratalaw08_cluster_arrive #[Value.pointer (some (Addr.mk xB xO none)), Value.int IntKind.i64 o2, Value.bool false] w420 fun (e422 : Ending) (w423 : World) => ∃ (c424 :
  Bool), e422 = Ending.returned (Value.bool c424) ∧ ∃ (R425 : List Own), ∃ (Φ426 : PW), Stable Φ426 ∧ Ctx W w423 (R425 ++ R421) Φ426 ∧ ∀ (w427 : World) (R428 : List Own), Ctx W w427 (R425 ++
  R428) Φ426 → J (Value.bool c424) w427)))))) (Br (decide (n7 = 11)) (∀ (w429 : World) (R430 : List Own), Ctx W w429 (R5 ++ R430) Φ6 → ∃ (p431 : Option Addr), ∃ (k432 : Nat), ∃ (k433 : Nat),
  w429.cell? (Addr.mk xB xO none) = some (Value.slice p431 k432 k433) ∧ (0 ≤ n4 ∧ n4 < (↑k432 : Int)) ∧ ptrK none p431 fun (k434 k435 : Nat) => ∀ (w436 : World) (R437 : List Own), Ctx W w436
  (R5 ++ R437) Φ6 → ∃ (p438 : Option Addr), w436.cell? (Addr.mk k434 (k435 + n4.toNat) none) = some (Value.pointer p438) ∧ ∀ (w439 : World) (R440 : List Own), Ctx W w439 (R5 ++ R440) Φ6 →
  Calls Try.prog F.replica_Replica_Tick #[Value.pointer p438] w439 fun (e441 : Ending) (w442 : World) => ∃ (c443 : Bool), ∃ (n444 : Int), ∃ (n445 : Int), ∃ (n446 : Int), ∃ (p447 : Option
  Addr), ∃ (k448 : Nat), ∃ (k449 : Nat), ∃ (p450 : Option Addr), ∃ (k451 : Nat), ∃ (k452 : Nat), e441 = Ending.returned (Value.agg #[Value.bool c443, Value.int IntKind.i64 n444, Value.int
  IntKind.i64 n445, Value.int IntKind.i64 n446, Value.slice p447 k448 k449, Value.slice p450 k451 k452]) ∧ ∃ (R453 : List Own), ∃ (Φ454 : PW), Stable Φ454 ∧ Ctx W w442 (R453 ++ R440) Φ454 ∧ ∀
  (w455 : World) (R456 : List Own), Ctx W w455 (R453 ++ R456) Φ454 → Calls Try.prog F.erratalaw08_cluster_done #[Value.pointer (some (Addr.mk xB xO none)), Value.int IntKind.i64 n4, Value.agg
  #[Value.bool c443, Value.int IntKind.i64 n444, Value.int IntKind.i64 n445, Value.int IntKind.i64 n446, Value.slice p447 k448 k449, Value.slice p450 k451 k452]] w455 fun (e457 : Ending)
  (w458 : World) => ∃ (c459 : Bool), e457 = Ending.returned (Value.bool c459) ∧ ∃ (R460 : List Own), ∃ (Φ461 : PW), Stable Φ461 ∧ Ctx W w458 (R460 ++ R456) Φ461 ∧ ∀ (w462 : World) (R463 :
  List Own), Ctx W w462 (R460 ++ R463) Φ461 → J (Value.bool c459) w462) (Br (decide (n7 = 12)) (Br (decide (n7 = 12)) (∃ (R464 : List Own), ∃ (Φ465 : PW), Stable Φ465 ∧ (∀ (w466 : World)
  (R467 : List Own), Ctx W w466 (R5 ++ R467) Φ6 → Ctx W w466 (R464 ++ R467) Φ465) ∧ ∃ (p468 : Option Addr), ∃ (k469 : Nat), ∃ (k470 : Nat), (∀ (w471 : World) (R472 : List Own), Ctx W w471
  (R464 ++ R472) Φ465 → ∃ (p473 : Option Addr), ∃ (k474 : Nat), ∃ (k475 : Nat), w471.cell? (Addr.mk xB xO none) = some (Value.slice p473 k474 k475) ∧ Value.slice p473 k474 k475 = Value.slice
  p468 k469 k470) ∧ (0 ≤ n4 ∧ n4 < (↑k469 : Int)) ∧ ptrK none p468 fun (k476 k477 : Nat) => ∃ (p478 : Option Addr), (∀ (w479 : World) (R480 : List Own), Ctx W w479 (R464 ++ R480) Φ465 → ∃
  (p481 : Option Addr), w479.cell? (Addr.mk k476 (k477 + n4.toNat) none) = some (Value.pointer p481) ∧ Value.pointer p481 = Value.pointer p478) ∧ (∀ (w482 : World) (R483 : List Own), Ctx W
  w482 (R5 ++ R483) Φ6 → Calls Try.prog F.replica_Replica_Propose #[Value.pointer p478, Value.string o3] w482 fun (e484 : Ending) (w485 : World) => ∃ (n486 : Int), ∃ (n487 : Int), ∃ (c488 :
  Bool), ∃ (n489 : Int), ∃ (n490 : Int), ∃ (n491 : Int), ∃ (p492 : Option Addr), ∃ (k493 : Nat), ∃ (k494 : Nat), ∃ (p495 : Option Addr), ∃ (k496 : Nat), ∃ (k497 : Nat), e484 = Ending.returned
  (Value.tuple #[Value.int IntKind.i64 n486, Value.int IntKind.i64 n487, Value.agg #[Value.bool c488, Value.int IntKind.i64 n489, Value.int IntKind.i64 n490, Value.int IntKind.i64 n491,
  Value.slice p492 k493 k494, Value.slice p495 k496 k497]]) ∧ ∃ (R498 : List Own), ∃ (Φ499 : PW), Stable Φ499 ∧ Ctx W w485 (R498 ++ R483) Φ499 ∧ (∀ (w500 : World) (R501 : List Own), Ctx W
  w500 (R498 ++ R501) Φ499 → Ctx W w500 (R464 ++ R501) Φ465) ∧ (∀ (k502 : Nat), (∀ (w503 : World) (R504 : List Own), Ctx W w503 (Own.blk k502 [Value.bool false, Value.int IntKind.i64 0,
  Value.int IntKind.i64 0, Value.int IntKind.i64 0, Value.slice none 0 0, Value.slice none 0 0] 45 :: R498 ++ R504) Φ499 → Ctx W w503 (R464 ++ R504) Φ465) ∧ (∀ (w505 : World) (R506 : List
  Own), Ctx W w505 (Own.blk k502 [Value.bool false, Value.int IntKind.i64 0, Value.int IntKind.i64 0, Value.int IntKind.i64 0, Value.slice none 0 0, Value.slice none 0 0] 45 :: R498 ++ R506)
  Φ499 → CanWrite w505 k502 0 6 ∧ ∀ (w507 : World), w507 = w505.setCells k502 0 [Value.bool c488, Value.int IntKind.i64 n489, Value.int IntKind.i64 n490, Value.int IntKind.i64 n491,
  Value.slice p492 k493 k494, Value.slice p495 k496 k497] → ∃ (R508 : List Own), ∃ (Φ509 : PW), Stable Φ509 ∧ Ctx W w507 (R508 ++ R506) Φ509 ∧ (∀ (w510 : World) (R511 : List Own), Ctx W w510
  (R508 ++ R511) Φ509 → Ctx W w510 (R464 ++ R511) Φ465) ∧ ∀ (w512 : World) (R513 : List Own), Ctx W w512 (R508 ++ R513) Φ509 → ∃ (c514 : Bool), ∃ (n515 : Int), ∃ (n516 : Int), ∃ (n517 : Int),
  ∃ (p518 : Option Addr), ∃ (k519 : Nat), ∃ (k520 : Nat), ∃ (p521 : Option Addr), ∃ (k522 : Nat), ∃ (k523 : Nat), RowAt w512 k502 0 [Value.bool c514, Value.int IntKind.i64 n515, Value.int
  IntKind.i64 n516, Value.int IntKind.i64 n517, Value.slice p518 k519 k520, Value.slice p521 k522 k523] ∧ ∀ (w524 : World) (R525 : List Own), Ctx W w524 (R508 ++ R525) Φ509 → Calls Try.prog
  F.erratalaw08_cluster_done #[Value.pointer (some (Addr.mk xB xO none)), Value.int IntKind.i64 n4, Value.agg #[Value.bool c514, Value.int IntKind.i64 n515, Value.int IntKind.i64 n516,
  Value.int IntKind.i64 n517, Value.slice p518 k519 k520, Value.slice p521 k522 k523]] w524 fun (e526 : Ending) (w527 : World) => ∃ (c528 : Bool), e526 = Ending.returned (Value.bool c528) ∧ ∃
  (R529 : List Own), ∃ (Φ530 : PW), Stable Φ530 ∧ Ctx W w527 (R529 ++ R525) Φ530 ∧ ∀ (w531 : World) (R532 : List Own), Ctx W w531 (R529 ++ R532) Φ530 → J (Value.bool c528) w531) ∧ True) ∧
  True) ∧ (∀ (k533 : Nat), (∀ (w534 : World) (R535 : List Own), Ctx W w534 (Own.blk k533 [Value.bool false, Value.int IntKind.i64 0, Value.int IntKind.i64 0, Value.int IntKind.i64 0,
  Value.slice none 0 0, Value.slice none 0 0] 45 :: R5 ++ R535) Φ6 → Ctx W w534 (R464 ++ R535) Φ465) ∧ (∀ (w536 : World) (R537 : List Own), Ctx W w536 (Own.blk k533 [Value.bool false,
  Value.int IntKind.i64 0, Value.int IntKind.i64 0, Value.int IntKind.i64 0, Value.slice none 0 0, Value.slice none 0 0] 45 :: R5 ++ R537) Φ6 → Calls Try.prog F.replica_Replica_Propose
  #[Value.pointer p478, Value.string o3] w536 fun (e538 : Ending) (w539 : World) => ∃ (n540 : Int), ∃ (n541 : Int), ∃ (c542 : Bool), ∃ (n543 : Int), ∃ (n544 : Int), ∃ (n545 : Int), ∃ (p546 :
  Option Addr), ∃ (k547 : Nat), ∃ (k548 : Nat), ∃ (p549 : Option Addr), ∃ (k550 : Nat), ∃ (k551 : Nat), e538 = Ending.returned (Value.tuple #[Value.int IntKind.i64 n540, Value.int IntKind.i64
  n541, Value.agg #[Value.bool c542, Value.int IntKind.i64 n543, Value.int IntKind.i64 n544, Value.int IntKind.i64 n545, Value.slice p546 k547 k548, Value.slice p549 k550 k551]]) ∧ ∃ (R552 :
  List Own), ∃ (Φ553 : PW), Stable Φ553 ∧ Ctx W w539 (R552 ++ R537) Φ553 ∧ (∀ (w554 : World) (R555 : List Own), Ctx W w554 (R552 ++ R555) Φ553 → Ctx W w554 (R464 ++ R555) Φ465) ∧ (∀ (w556 :
  World) (R557 : List Own), Ctx W w556 (R552 ++ R557) Φ553 → CanWrite w556 k533 0 6 ∧ ∀ (w558 : World), w558 = w556.setCells k533 0 [Value.bool c542, Value.int IntKind.i64 n543, Value.int
  IntKind.i64 n544, Value.int IntKind.i64 n545, Value.slice p546 k547 k548, Value.slice p549 k550 k551] → ∃ (R559 : List Own), ∃ (Φ560 : PW), Stable Φ560 ∧ Ctx W w558 (R559 ++ R557) Φ560 ∧ (∀
  (w561 : World) (R562 : List Own), Ctx W w561 (R559 ++ R562) Φ560 → Ctx W w561 (R464 ++ R562) Φ465) ∧ ∀ (w563 : World) (R564 : List Own), Ctx W w563 (R559 ++ R564) Φ560 → ∃ (c565 : Bool), ∃
  (n566 : Int), ∃ (n567 : Int), ∃ (n568 : Int), ∃ (p569 : Option Addr), ∃ (k570 : Nat), ∃ (k571 : Nat), ∃ (p572 : Option Addr), ∃ (k573 : Nat), ∃ (k574 : Nat), RowAt w563 k533 0 [Value.bool
  c565, Value.int IntKind.i64 n566, Value.int IntKind.i64 n567, Value.int IntKind.i64 n568, Value.slice p569 k570 k571, Value.slice p572 k573 k574] ∧ ∀ (w575 : World) (R576 : List Own), Ctx W
  w575 (R559 ++ R576) Φ560 → Calls Try.prog F.erratalaw08_cluster_done #[Value.pointer (some (Addr.mk xB xO none)), Value.int IntKind.i64 n4, Value.agg #[Value.bool c565, Value.int
  IntKind.i64 n566, Value.int IntKind.i64 n567, Value.int IntKind.i64 n568, Value.slice p569 k570 k571, Value.slice p572 k573 k574]] w575 fun (e577 : Ending) (w578 : World) => ∃ (c579 :
  Bool), e577 = Ending.returned (Value.bool c579) ∧ ∃ (R580 : List Own), ∃ (Φ581 : PW), Stable Φ581 ∧ Ctx W w578 (R580 ++ R576) Φ581 ∧ ∀ (w582 : World) (R583 : List Own), Ctx W w582 (R580 ++
  R583) Φ581 → J (Value.bool c579) w582) ∧ True) ∧ True) ∧ True) (Br (decide (n7 = 14)) (∀ (w584 : World) (R585 : List Own), Ctx W w584 (R5 ++ R585) Φ6 → Calls Try.prog
  F.erratalaw08_cluster_start #[Value.pointer (some (Addr.mk xB xO none)), Value.int IntKind.i64 n4] w584 fun (e586 : Ending) (w587 : World) => ∃ (c588 : Bool), e586 = Ending.returned
  (Value.bool c588) ∧ ∃ (R589 : List Own), ∃ (Φ590 : PW), Stable Φ590 ∧ Ctx W w587 (R589 ++ R585) Φ590 ∧ ∀ (w591 : World) (R592 : List Own), Ctx W w591 (R589 ++ R592) Φ590 → J (Value.bool
  c588) w591) (Br (decide (n7 = 15)) (∃ (n593 : Int), (∀ (w594 : World), Sem.run Try.prog (binOp BinOp.and 3 (Value.int IntKind.i64 o2) (Value.int IntKind.i64 1)) w594 = Result.ok (Value.int
  IntKind.i64 n593) w594) ∧ ∀ (w595 : World) (R596 : List Own), Ctx W w595 (R5 ++ R596) Φ6 → ∃ (p597 : Option Addr), ∃ (k598 : Nat), ∃ (k599 : Nat), w595.cell? (Addr.mk xB (xO + 1) none) =
  some (Value.slice p597 k598 k599) ∧ I64 (1 + n593) ∧ (0 ≤ n4 ∧ n4 < (↑k598 : Int)) ∧ ptrK none p597 fun (k600 k601 : Nat) => ∀ (w602 : World) (R603 : List Own), Ctx W w602 (R5 ++ R603) Φ6 →
  CanWrite w602 k600 (k601 + n4.toNat * 4 + 3) 1 ∧ ∀ (w604 : World), w604 = w602.setCell (Addr.mk k600 (k601 + n4.toNat * 4 + 3) none) (Value.int IntKind.i64 (1 + n593)) → ∃ (R605 : List
  Own), ∃ (Φ606 : PW), Stable Φ606 ∧ Ctx W w604 (R605 ++ R603) Φ606 ∧ ∀ (w607 : World) (R608 : List Own), Ctx W w607 (R605 ++ R608) Φ606 → J (Value.bool true) w607) (∀ (w609 : World) (R610 :
  List Own), Ctx W w609 (R5 ++ R610) Φ6 → Calls Try.prog F.erratalaw08_cluster_arrive #[Value.pointer (some (Addr.mk xB xO none)), Value.int IntKind.i64 o2, Value.bool false] w609 fun (e611 :
  Ending) (w612 : World) => ∃ (c613 : Bool), e611 = Ending.returned (Value.bool c613) ∧ ∃ (R614 : List Own), ∃ (Φ615 : PW), Stable Φ615 ∧ Ctx W w612 (R614 ++ R610) Φ615 ∧ ∀ (w616 : World)
  (R617 : List Own), Ctx W w616 (R614 ++ R617) Φ615 → J (Value.bool c613) w616)))) (Br (decide (n7 = 13)) (∃ (R618 : List Own), ∃ (Φ619 : PW), Stable Φ619 ∧ (∀ (w620 : World) (R621 : List
  Own), Ctx W w620 (R5 ++ R621) Φ6 → Ctx W w620 (R618 ++ R621) Φ619) ∧ ∃ (p622 : Option Addr), ∃ (k623 : Nat), ∃ (k624 : Nat), (∀ (w625 : World) (R626 : List Own), Ctx W w625 (R618 ++ R626)
  Φ619 → ∃ (p627 : Option Addr), ∃ (k628 : Nat), ∃ (k629 : Nat), w625.cell? (Addr.mk xB xO none) = some (Value.slice p627 k628 k629) ∧ Value.slice p627 k628 k629 = Value.slice p622 k623 k624)
  ∧ (0 ≤ n4 ∧ n4 < (↑k623 : Int)) ∧ ptrK none p622 fun (k630 k631 : Nat) => ∃ (p632 : Option Addr), (∀ (w633 : World) (R634 : List Own), Ctx W w633 (R618 ++ R634) Φ619 → ∃ (p635 : Option
  Addr), w633.cell? (Addr.mk k630 (k631 + n4.toNat) none) = some (Value.pointer p635) ∧ Value.pointer p635 = Value.pointer p632) ∧ (∀ (w636 : World) (R637 : List Own), Ctx W w636 (R5 ++ R637)
  Φ6 → Calls Try.prog F.replica_Replica_Propose #[Value.pointer p632, Value.string o3] w636 fun (e638 : Ending) (w639 : World) => ∃ (n640 : Int), ∃ (n641 : Int), ∃ (c642 : Bool), ∃ (n643 :
  Int), ∃ (n644 : Int), ∃ (n645 : Int), ∃ (p646 : Option Addr), ∃ (k647 : Nat), ∃ (k648 : Nat), ∃ (p649 : Option Addr), ∃ (k650 : Nat), ∃ (k651 : Nat), e638 = Ending.returned (Value.tuple
  #[Value.int IntKind.i64 n640, Value.int IntKind.i64 n641, Value.agg #[Value.bool c642, Value.int IntKind.i64 n643, Value.int IntKind.i64 n644, Value.int IntKind.i64 n645, Value.slice p646
  k647 k648, Value.slice p649 k650 k651]]) ∧ ∃ (R652 : List Own), ∃ (Φ653 : PW), Stable Φ653 ∧ Ctx W w639 (R652 ++ R637) Φ653 ∧ (∀ (w654 : World) (R655 : List Own), Ctx W w654 (R652 ++ R655)
  Φ653 → Ctx W w654 (R618 ++ R655) Φ619) ∧ (∀ (k656 : Nat), (∀ (w657 : World) (R658 : List Own), Ctx W w657 (Own.blk k656 [Value.bool false, Value.int IntKind.i64 0, Value.int IntKind.i64 0,
  Value.int IntKind.i64 0, Value.slice none 0 0, Value.slice none 0 0] 45 :: R652 ++ R658) Φ653 → Ctx W w657 (R618 ++ R658) Φ619) ∧ (∀ (w659 : World) (R660 : List Own), Ctx W w659 (Own.blk
  k656 [Value.bool false, Value.int IntKind.i64 0, Value.int IntKind.i64 0, Value.int IntKind.i64 0, Value.slice none 0 0, Value.slice none 0 0] 45 :: R652 ++ R660) Φ653 → CanWrite w659 k656
  0 6 ∧ ∀ (w661 : World), w661 = w659.setCells k656 0 [Value.bool c642, Value.int IntKind.i64 n643, Value.int IntKind.i64 n644, Value.int IntKind.i64 n645, Value.slice p646 k647 k648,
  Value.slice p649 k650 k651] → ∃ (R662 : List Own), ∃ (Φ663 : PW), Stable Φ663 ∧ Ctx W w661 (R662 ++ R660) Φ663 ∧ (∀ (w664 : World) (R665 : List Own), Ctx W w664 (R662 ++ R665) Φ663 → Ctx W
  w664 (R618 ++ R665) Φ619) ∧ ∀ (w666 : World) (R667 : List Own), Ctx W w666 (R662 ++ R667) Φ663 → ∃ (c668 : Bool), ∃ (n669 : Int), ∃ (n670 : Int), ∃ (n671 : Int), ∃ (p672 : Option Addr), ∃
  (k673 : Nat), ∃ (k674 : Nat), ∃ (p675 : Option Addr), ∃ (k676 : Nat), ∃ (k677 : Nat), RowAt w666 k656 0 [Value.bool c668, Value.int IntKind.i64 n669, Value.int IntKind.i64 n670, Value.int
  IntKind.i64 n671, Value.slice p672 k673 k674, Value.slice p675 k676 k677] ∧ ∀ (w678 : World) (R679 : List Own), Ctx W w678 (R662 ++ R679) Φ663 → Calls Try.prog F.erratalaw08_cluster_done
  #[Value.pointer (some (Addr.mk xB xO none)), Value.int IntKind.i64 n4, Value.agg #[Value.bool c668, Value.int IntKind.i64 n669, Value.int IntKind.i64 n670, Value.int IntKind.i64 n671,
  Value.slice p672 k673 k674, Value.slice p675 k676 k677]] w678 fun (e680 : Ending) (w681 : World) => ∃ (c682 : Bool), e680 = Ending.returned (Value.bool c682) ∧ ∃ (R683 : List Own), ∃ (Φ684
  : PW), Stable Φ684 ∧ Ctx W w681 (R683 ++ R679) Φ684 ∧ ∀ (w685 : World) (R686 : List Own), Ctx W w685 (R683 ++ R686) Φ684 → J (Value.bool c682) w685) ∧ True) ∧ True) ∧ (∀ (k687 : Nat), (∀
  (w688 : World) (R689 : List Own), Ctx W w688 (Own.blk k687 [Value.bool false, Value.int IntKind.i64 0, Value.int IntKind.i64 0, Value.int IntKind.i64 0, Value.slice none 0 0, Value.slice
  none 0 0] 45 :: R5 ++ R689) Φ6 → Ctx W w688 (R618 ++ R689) Φ619) ∧ (∀ (w690 : World) (R691 : List Own), Ctx W w690 (Own.blk k687 [Value.bool false, Value.int IntKind.i64 0, Value.int
  IntKind.i64 0, Value.int IntKind.i64 0, Value.slice none 0 0, Value.slice none 0 0] 45 :: R5 ++ R691) Φ6 → Calls Try.prog F.replica_Replica_Propose #[Value.pointer p632, Value.string o3]
  w690 fun (e692 : Ending) (w693 : World) => ∃ (n694 : Int), ∃ (n695 : Int), ∃ (c696 : Bool), ∃ (n697 : Int), ∃ (n698 : Int), ∃ (n699 : Int), ∃ (p700 : Option Addr), ∃ (k701 : Nat), ∃ (k702 :
  Nat), ∃ (p703 : Option Addr), ∃ (k704 : Nat), ∃ (k705 : Nat), e692 = Ending.returned (Value.tuple #[Value.int IntKind.i64 n694, Value.int IntKind.i64 n695, Value.agg #[Value.bool c696,
  Value.int IntKind.i64 n697, Value.int IntKind.i64 n698, Value.int IntKind.i64 n699, Value.slice p700 k701 k702, Value.slice p703 k704 k705]]) ∧ ∃ (R706 : List Own), ∃ (Φ707 : PW), Stable
  Φ707 ∧ Ctx W w693 (R706 ++ R691) Φ707 ∧ (∀ (w708 : World) (R709 : List Own), Ctx W w708 (R706 ++ R709) Φ707 → Ctx W w708 (R618 ++ R709) Φ619) ∧ (∀ (w710 : World) (R711 : List Own), Ctx W
  w710 (R706 ++ R711) Φ707 → CanWrite w710 k687 0 6 ∧ ∀ (w712 : World), w712 = w710.setCells k687 0 [Value.bool c696, Value.int IntKind.i64 n697, Value.int IntKind.i64 n698, Value.int
  IntKind.i64 n699, Value.slice p700 k701 k702, Value.slice p703 k704 k705] → ∃ (R713 : List Own), ∃ (Φ714 : PW), Stable Φ714 ∧ Ctx W w712 (R713 ++ R711) Φ714 ∧ (∀ (w715 : World) (R716 : List
  Own), Ctx W w715 (R713 ++ R716) Φ714 → Ctx W w715 (R618 ++ R716) Φ619) ∧ ∀ (w717 : World) (R718 : List Own), Ctx W w717 (R713 ++ R718) Φ714 → ∃ (c719 : Bool), ∃ (n720 : Int), ∃ (n721 :
  Int), ∃ (n722 : Int), ∃ (p723 : Option Addr), ∃ (k724 : Nat), ∃ (k725 : Nat), ∃ (p726 : Option Addr), ∃ (k727 : Nat), ∃ (k728 : Nat), RowAt w717 k687 0 [Value.bool c719, Value.int
  IntKind.i64 n720, Value.int IntKind.i64 n721, Value.int IntKind.i64 n722, Value.slice p723 k724 k725, Value.slice p726 k727 k728] ∧ ∀ (w729 : World) (R730 : List Own), Ctx W w729 (R713 ++
  R730) Φ714 → Calls Try.prog F.erratalaw08_cluster_done #[Value.pointer (some (Addr.mk xB xO none)), Value.int IntKind.i64 n4, Value.agg #[Value.bool c719, Value.int IntKind.i64 n720,
  Value.int IntKind.i64 n721, Value.int IntKind.i64 n722, Value.slice p723 k724 k725, Value.slice p726 k727 k728]] w729 fun (e731 : Ending) (w732 : World) => ∃ (c733 : Bool), e731 =
  Ending.returned (Value.bool c733) ∧ ∃ (R734 : List Own), ∃ (Φ735 : PW), Stable Φ735 ∧ Ctx W w732 (R734 ++ R730) Φ735 ∧ ∀ (w736 : World) (R737 : List Own), Ctx W w736 (R734 ++ R737) Φ735 → J
  (Value.bool c733) w736) ∧ True) ∧ True) ∧ True) (Br (decide (n7 = 14)) (∀ (w738 : World) (R739 : List Own), Ctx W w738 (R5 ++ R739) Φ6 → Calls Try.prog F.erratalaw08_cluster_start
  #[Value.pointer (some (Addr.mk xB xO none)), Value.int IntKind.i64 n4] w738 fun (e740 : Ending) (w741 : World) => ∃ (c742 : Bool), e740 = Ending.returned (Value.bool c742) ∧ ∃ (R743 : List
  Own), ∃ (Φ744 : PW), Stable Φ744 ∧ Ctx W w741 (R743 ++ R739) Φ744 ∧ ∀ (w745 : World) (R746 : List Own), Ctx W w745 (R743 ++ R746) Φ744 → J (Value.bool c742) w745) (Br (decide (n7 = 15)) (∃
  (n747 : Int), (∀ (w748 : World), Sem.run Try.prog (binOp BinOp.and 3 (Value.int IntKind.i64 o2) (Value.int IntKind.i64 1)) w748 = Result.ok (Value.int IntKind.i64 n747) w748) ∧ ∀ (w749 :
  World) (R750 : List Own), Ctx W w749 (R5 ++ R750) Φ6 → ∃ (p751 : Option Addr), ∃ (k752 : Nat), ∃ (k753 : Nat), w749.cell? (Addr.mk xB (xO + 1) none) = some (Value.slice p751 k752 k753) ∧
  I64 (1 + n747) ∧ (0 ≤ n4 ∧ n4 < (↑k752 : Int)) ∧ ptrK none p751 fun (k754 k755 : Nat) => ∀ (w756 : World) (R757 : List Own), Ctx W w756 (R5 ++ R757) Φ6 → CanWrite w756 k754 (k755 + n4.toNat
  * 4 + 3) 1 ∧ ∀ (w758 : World), w758 = w756.setCell (Addr.mk k754 (k755 + n4.toNat * 4 + 3) none) (Value.int IntKind.i64 (1 + n747)) → ∃ (R759 : List Own), ∃ (Φ760 : PW), Stable Φ760 ∧ Ctx W
  w758 (R759 ++ R757) Φ760 ∧ ∀ (w761 : World) (R762 : List Own), Ctx W w761 (R759 ++ R762) Φ760 → J (Value.bool true) w761) (∀ (w763 : World) (R764 : List Own), Ctx W w763 (R5 ++ R764) Φ6 →
  Calls Try.prog F.erratalaw08_cluster_arrive #[Value.pointer (some (Addr.mk xB xO none)), Value.int IntKind.i64 o2, Value.bool false] w763 fun (e765 : Ending) (w766 : World) => ∃ (c767 :
  Bool), e765 = Ending.returned (Value.bool c767) ∧ ∃ (R768 : List Own), ∃ (Φ769 : PW), Stable Φ769 ∧ Ctx W w766 (R768 ++ R764) Φ769 ∧ ∀ (w770 : World) (R771 : List Own), Ctx W w770 (R768 ++
  R771) Φ769 → J (Value.bool c767) w770))))))))

theorem Berratalaw08_cluster_step_run (xB xO : Nat) (o0 : Int) (o1 : Int) (o2 : Int) (o3 : ByteArray) {W w : World} {R : List Own} {Φ : PW} [Stable Φ] {J : Value → World → Prop} (c : Ctx W w R Φ) (h : Berratalaw08_cluster_step xB xO o0 o1 o2 o3 W R Φ J) : Calls Try.prog F.erratalaw08_cluster_step #[.pointer (some ⟨xB, xO, none⟩), .agg #[.int .i64 o0, .int .i64 o1, .int .i64 o2, .string o3]] w fun e w' => ∃ v, e = .returned v ∧ J v w' :=
  vcFS_sound (H := { keep := some [0, 3, 4, 5, 6, 9, 15, 16, 23, 51, 57, 71, 92, 97], track := [3, 9], stages := [(6, [.held [(0, true), (2, true), (6, true), (9, true), (13, true), (3, true), (10, true), (14, true), (4, true), (11, true), (5, true), (12, true), (7, true), (15, true), (1, false), (8, false), (16, false)], .stage [17] none, .stage [18] (some 19)]), (15, [.tree (.rd 0 (.rd 4 (.rd 7 (.rd 1 (.rd 8 (.rd 2 (.rd 3 (.rd 5 (.rd 6 (.alt 9 (.rd 10 (.rd 11 (.rd 12 (.rd 13 (.alt 14 (.rd 15 (.rd 16 (.alt 17 (.done) (.no)))) (.no)))))) (.alt 14 (.alt 9 (.rd 10 (.rd 11 (.rd 12 (.rd 13 (.rd 15 (.rd 16 (.alt 17 (.done) (.no)))))))) (.no)) (.no)))))))))))) 18]), (20, [.stage [0, 4, 5, 1, 6, 2, 7, 3, 8] none, .stage [9] none, .stage [10] (some 11)])] }) (by rw [show vcFS Try.prog W { keep := some [0, 3, 4, 5, 6, 9, 15, 16, 23, 51, 57, 71, 92, 97], track := [3, 9], stages := [(6, [.held [(0, true), (2, true), (6, true), (9, true), (13, true), (3, true), (10, true), (14, true), (4, true), (11, true), (5, true), (12, true), (7, true), (15, true), (1, false), (8, false), (16, false)], .stage [17] none, .stage [18] (some 19)]), (15, [.tree (.rd 0 (.rd 4 (.rd 7 (.rd 1 (.rd 8 (.rd 2 (.rd 3 (.rd 5 (.rd 6 (.alt 9 (.rd 10 (.rd 11 (.rd 12 (.rd 13 (.alt 14 (.rd 15 (.rd 16 (.alt 17 (.done) (.no)))) (.no)))))) (.alt 14 (.alt 9 (.rd 10 (.rd 11 (.rd 12 (.rd 13 (.rd 15 (.rd 16 (.alt 17 (.done) (.no)))))))) (.no)) (.no)))))))))))) 18]), (20, [.stage [0, 4, 5, 1, 6, 2, 7, 3, 8] none, .stage [9] none, .stage [10] (some 11)])] } F.erratalaw08_cluster_step #[.pointer (some ⟨xB, xO, none⟩), .agg #[.int .i64 o0, .int .i64 o1, .int .i64 o2, .string o3]] R Φ J = Berratalaw08_cluster_step xB xO o0 o1 o2 o3 W R Φ J by kernel_rfl]; exact h) c

/-- (*erratalaw08.cluster).done -/
-- loop at region 10: 7 k; blocks 
-- cut 5: ; blocks 
-- cut 7: ; blocks 
-- known blocks: 5 o
def Berratalaw08_cluster_done (xB xO : Nat) (i : Int) (o0 : Bool) (o1 : Int) (o2 : Int) (o3 : Int) (o4P : Option Addr) (o4N o4C : Nat) (o5P : Option Addr) (o5N o5C : Nat) (W : World) (R : List Own) (Φ : PW) (J : Value → World → Prop) : Prop :=
  ∀ (b : Nat) (w0 : World) (R1 : List Own), Ctx W w0 (R ++ R1) Φ → ∃ (p2 : Option Addr), ∃ (k3 : Nat), ∃ (k4 : Nat), w0.cell? (Addr.mk xB (xO + 1) none) = some (Value.slice p2 k3 k4) ∧ (0 ≤ i
  ∧ i < (↑k3 : Int)) ∧ ptrK none p2 fun (k5 k6 : Nat) => ∀ (w7 : World) (R8 : List Own), Ctx W w7 (R ++ R8) Φ → ∃ (n9 : Int), w7.cell? (Addr.mk k5 (k6 + i.toNat * 4 + 3) none) = some
  (Value.int IntKind.i64 n9) ∧ Br (decide (n9 = 1)) (∀ (w10 : World) (R11 : List Own), Ctx W w10 (R ++ R11) Φ → Calls Try.prog F.erratalaw08_cluster_start #[Value.pointer (some (Addr.mk xB xO
  none)), Value.int IntKind.i64 i] w10 fun (e12 : Ending) (w13 : World) => ∃ (c14 : Bool), e12 = Ending.returned (Value.bool c14) ∧ ∃ (R15 : List Own), ∃ (Φ16 : PW), Stable Φ16 ∧ Ctx W w13
  (R15 ++ R11) Φ16 ∧ ∀ (w17 : World) (R18 : List Own), Ctx W w17 (R15 ++ R18) Φ16 → J (Value.bool c14) w17) (exI fun (I19 : List Own → PW → Prop) => Br o0 (∀ (w20 : World) (R21 : List Own),
  Ctx W w20 (R ++ R21) Φ → ∃ (p22 : Option Addr), ∃ (k23 : Nat), ∃ (k24 : Nat), w20.cell? (Addr.mk xB (xO + 1) none) = some (Value.slice p22 k23 k24) ∧ (0 ≤ i ∧ i < (↑k23 : Int)) ∧ ptrK none
  p22 fun (k25 k26 : Nat) => ∀ (w27 : World) (R28 : List Own), Ctx W w27 (R ++ R28) Φ → CanWrite w27 k25 (k26 + i.toNat * 4) 2 ∧ ∀ (w29 : World), w29 = w27.setCells k25 (k26 + i.toNat * 4)
  [Value.int IntKind.i64 o1, Value.int IntKind.i64 o2] → ∃ (R30 : List Own), ∃ (Φ31 : PW), Stable Φ31 ∧ Ctx W w29 (R30 ++ R28) Φ31 ∧ ∃ (R32 : List Own), ∃ (Φ33 : PW), Stable Φ33 ∧ (∀ (w34 :
  World) (R35 : List Own), Ctx W w34 (R30 ++ R35) Φ31 → Ctx W w34 (R32 ++ R35) Φ33) ∧ I19 R32 Φ33) (∃ (R36 : List Own), ∃ (Φ37 : PW), Stable Φ37 ∧ (∀ (w38 : World) (R39 : List Own), Ctx W w38
  (R ++ R39) Φ → Ctx W w38 (R36 ++ R39) Φ37) ∧ I19 R36 Φ37) ∧ ∀ (R40 : List Own) (I41 : List Nat → World → Prop), Stable I41 → I19 R40 I41 → exI fun (I42 : List Own → PW → Prop) => Br (decide
  (0 < o3)) (∃ (R43 : List Own), ∃ (Φ44 : PW), Stable Φ44 ∧ (∀ (w45 : World) (R46 : List Own), Ctx W w45 (R40 ++ R46) I41 → Ctx W w45 (R43 ++ R46) Φ44) ∧ I64 (o3 - 1) ∧ ∃ (p47 : Option Addr),
  ∃ (k48 : Nat), ∃ (k49 : Nat), (∀ (w50 : World) (R51 : List Own), Ctx W w50 (R43 ++ R51) Φ44 → ∃ (p52 : Option Addr), ∃ (k53 : Nat), ∃ (k54 : Nat), w50.cell? (Addr.mk xB (xO + 1) none) =
  some (Value.slice p52 k53 k54) ∧ Value.slice p52 k53 k54 = Value.slice p47 k48 k49) ∧ ∃ (p55 : Option Addr), ∃ (k56 : Nat), ∃ (k57 : Nat), (∀ (w58 : World) (R59 : List Own), Ctx W w58 (R43
  ++ R59) Φ44 → ∃ (p60 : Option Addr), ∃ (k61 : Nat), ∃ (k62 : Nat), w58.cell? (Addr.mk xB (xO + 1) none) = some (Value.slice p60 k61 k62) ∧ Value.slice p60 k61 k62 = Value.slice p55 k56 k57)
  ∧ ∃ (p63 : Option Addr), ∃ (k64 : Nat), ∃ (k65 : Nat), (∀ (w66 : World) (R67 : List Own), Ctx W w66 (R43 ++ R67) Φ44 → ∃ (p68 : Option Addr), ∃ (k69 : Nat), ∃ (k70 : Nat), w66.cell?
  (Addr.mk xB (xO + 1) none) = some (Value.slice p68 k69 k70) ∧ Value.slice p68 k69 k70 = Value.slice p63 k64 k65) ∧ (0 ≤ i ∧ i < (↑k56 : Int)) ∧ ptrK none p55 fun (k71 k72 : Nat) => (0 ≤ i ∧
  i < (↑k64 : Int)) ∧ ptrK none p63 fun (k73 k74 : Nat) => ∃ (p75 : Option Addr), ∃ (k76 : Nat), ∃ (k77 : Nat), (∀ (w78 : World) (R79 : List Own), Ctx W w78 (R43 ++ R79) Φ44 → ∃ (p80 : Option
  Addr), ∃ (k81 : Nat), ∃ (k82 : Nat), w78.cell? (Addr.mk k71 (k72 + i.toNat * 4 + 2) none) = some (Value.slice p80 k81 k82) ∧ Value.slice p80 k81 k82 = Value.slice p75 k76 k77) ∧ ∃ (p83 :
  Option Addr), ∃ (k84 : Nat), ∃ (k85 : Nat), (∀ (w86 : World) (R87 : List Own), Ctx W w86 (R43 ++ R87) Φ44 → ∃ (p88 : Option Addr), ∃ (k89 : Nat), ∃ (k90 : Nat), w86.cell? (Addr.mk k73 (k74
  + i.toNat * 4 + 2) none) = some (Value.slice p88 k89 k90) ∧ Value.slice p88 k89 k90 = Value.slice p83 k84 k85) ∧ (0 ≤ min (o3 - 1) (↑k84 : Int) ∧ min (o3 - 1) (↑k84 : Int) ≤ (↑k77 : Int)) ∧
  ∀ (k91 : Nat), (∀ (w92 : World) (R93 : List Own), Ctx W w92 (Own.blk k91 [] 55 :: R40 ++ R93) I41 → Ctx W w92 (R43 ++ R93) Φ44) ∧ ∀ (w94 : World) (R95 : List Own), Ctx W w94 (Own.blk k91 []
  55 :: R40 ++ R95) I41 → ∃ (p96 : Option Addr), ∃ (k97 : Nat), ∃ (k98 : Nat), ∃ (w99 : World), Sem.run Try.prog (builtin Builtin.append #[35, 35] 35 #[false, false] #[Value.slice (some
  (Addr.mk k91 0 none)) 0 0, Value.slice (subPtr p75 2 0 k77) (min (o3 - 1) (↑k84 : Int)).toNat k77]) w94 = Result.ok (Next.value (Value.slice p96 k97 k98)) w99 ∧ ∃ (R100 : List Own), ∃ (Φ101
  : PW), Stable Φ101 ∧ Ctx W w99 (R100 ++ R95) Φ101 ∧ (∀ (w102 : World) (R103 : List Own), Ctx W w102 (R100 ++ R103) Φ101 → Ctx W w102 (R43 ++ R103) Φ44) ∧ ∀ (w104 : World) (R105 : List Own),
  Ctx W w104 (R100 ++ R105) Φ101 → ∃ (p106 : Option Addr), ∃ (k107 : Nat), ∃ (k108 : Nat), ∃ (w109 : World), Sem.run Try.prog (builtin Builtin.append #[35, 35] 35 #[false, false]
  #[Value.slice p96 k97 k98, Value.slice o4P o4N o4C]) w104 = Result.ok (Next.value (Value.slice p106 k107 k108)) w109 ∧ ∃ (R110 : List Own), ∃ (Φ111 : PW), Stable Φ111 ∧ Ctx W w109 (R110 ++
  R105) Φ111 ∧ (∀ (w112 : World) (R113 : List Own), Ctx W w112 (R110 ++ R113) Φ111 → Ctx W w112 (R43 ++ R113) Φ44) ∧ (0 ≤ i ∧ i < (↑k48 : Int)) ∧ ptrK none p47 fun (k114 k115 : Nat) => ∀
  (w116 : World) (R117 : List Own), Ctx W w116 (R110 ++ R117) Φ111 → CanWrite w116 k114 (k115 + i.toNat * 4 + 2) 1 ∧ ∀ (w118 : World), w118 = w116.setCell (Addr.mk k114 (k115 + i.toNat * 4 +
  2) none) (Value.slice p106 k107 k108) → ∃ (R119 : List Own), ∃ (Φ120 : PW), Stable Φ120 ∧ Ctx W w118 (R119 ++ R117) Φ120 ∧ ∃ (R121 : List Own), ∃ (Φ122 : PW), Stable Φ122 ∧ (∀ (w123 :
  World) (R124 : List Own), Ctx W w123 (R119 ++ R124) Φ120 → Ctx W w123 (R121 ++ R124) Φ122) ∧ I42 R121 Φ122) (∃ (R125 : List Own), ∃ (Φ126 : PW), Stable Φ126 ∧ (∀ (w127 : World) (R128 : List
  Own), Ctx W w127 (R40 ++ R128) I41 → Ctx W w127 (R125 ++ R128) Φ126) ∧ I42 R125 Φ126) ∧ ∀ (R129 : List Own) (I130 : List Nat → World → Prop), Stable I130 → I42 R129 I130 → ∀ (w131 : World)
  (R132 : List Own), Ctx W w131 (R129 ++ R132) I130 → ∃ (p133 : Option Addr), ∃ (k134 : Nat), ∃ (k135 : Nat), w131.cell? (Addr.mk xB (xO + 1) none) = some (Value.slice p133 k134 k135) ∧ (0 ≤
  i ∧ i < (↑k134 : Int)) ∧ ptrK none p133 fun (k136 k137 : Nat) => ∀ (w138 : World) (R139 : List Own), Ctx W w138 (R129 ++ R139) I130 → ∃ (n140 : Int), w138.cell? (Addr.mk k136 (k137 +
  i.toNat * 4 + 3) none) = some (Value.int IntKind.i64 n140) ∧ Br (decide (n140 = 2)) (∀ (w141 : World) (R142 : List Own), Ctx W w141 (R129 ++ R142) I130 → Calls Try.prog
  F.erratalaw08_cluster_start #[Value.pointer (some (Addr.mk xB xO none)), Value.int IntKind.i64 i] w141 fun (e143 : Ending) (w144 : World) => ∃ (c145 : Bool), e143 = Ending.returned
  (Value.bool c145) ∧ ∃ (R146 : List Own), ∃ (Φ147 : PW), Stable Φ147 ∧ Ctx W w144 (R146 ++ R142) Φ147 ∧ ∀ (w148 : World) (R149 : List Own), Ctx W w148 (R146 ++ R149) Φ147 → J (Value.bool
  c145) w148) (exI fun (I150 : Int → List Own → PW → Nat → Prop) => (∃ (R151 : List Own), ∃ (Φ152 : PW), ∃ (k153 : Nat), Stable Φ152 ∧ (∀ (w154 : World) (R155 : List Own), Ctx W w154 (R129 ++
  R155) I130 → Ctx W w154 (R151 ++ R155) Φ152) ∧ I150 0 R151 Φ152 k153) ∧ ∀ (n156 : Int) (R157 : List Own) (I158 : List Nat → World → Prop) (k159 : Nat), Stable I158 → I150 n156 R157 I158
  k159 → ∀ (w160 : World) (R161 : List Own), Ctx W w160 (R157 ++ R161) I158 → ∃ (p162 : Option Addr), ∃ (k163 : Nat), ∃ (k164 : Nat), (decide (n156 < (↑o5N : Int)) = true → w160.cell?
  (Addr.mk xB (xO + 2) none) = some (Value.slice p162 k163 k164)) ∧ Br (decide (n156 < (↑o5N : Int)) && decide ((↑k163 : Int) < 300)) (∃ (R165 : List Own), ∃ (Φ166 : PW), Stable Φ166 ∧ (∀
  (w167 : World) (R168 : List Own), Ctx W w167 (R157 ++ R168) I158 → Ctx W w167 (R165 ++ R168) Φ166) ∧ (0 ≤ n156 ∧ n156 < (↑o5N : Int)) ∧ ptrK none o5P fun (k169 k170 : Nat) => ∃ (p171 :
  Option Addr), ∃ (k172 : Nat), ∃ (k173 : Nat), (∀ (w174 : World) (R175 : List Own), Ctx W w174 (R165 ++ R175) Φ166 → ∃ (p176 : Option Addr), ∃ (k177 : Nat), ∃ (k178 : Nat), w174.cell?
  (Addr.mk xB (xO + 2) none) = some (Value.slice p176 k177 k178) ∧ Value.slice p176 k177 k178 = Value.slice p171 k172 k173) ∧ ∃ (n179 : Int), ∃ (n180 : Int), ∃ (n181 : Int), ∃ (n182 : Int), ∃
  (n183 : Int), ∃ (n184 : Int), ∃ (n185 : Int), ∃ (c186 : Bool), ∃ (p187 : Option Addr), ∃ (k188 : Nat), ∃ (k189 : Nat), (∀ (w190 : World) (R191 : List Own), Ctx W w190 (R165 ++ R191) Φ166 →
  ∃ (n192 : Int), ∃ (n193 : Int), ∃ (n194 : Int), ∃ (n195 : Int), ∃ (n196 : Int), ∃ (n197 : Int), ∃ (n198 : Int), ∃ (c199 : Bool), ∃ (p200 : Option Addr), ∃ (k201 : Nat), ∃ (k202 : Nat),
  RowAt w190 k169 (k170 + n156.toNat * 9) [Value.int IntKind.i64 n192, Value.int IntKind.i64 n193, Value.int IntKind.i64 n194, Value.int IntKind.i64 n195, Value.int IntKind.i64 n196,
  Value.int IntKind.i64 n197, Value.int IntKind.i64 n198, Value.bool c199, Value.slice p200 k201 k202] ∧ Value.agg #[Value.int IntKind.i64 n192, Value.int IntKind.i64 n193, Value.int
  IntKind.i64 n194, Value.int IntKind.i64 n195, Value.int IntKind.i64 n196, Value.int IntKind.i64 n197, Value.int IntKind.i64 n198, Value.bool c199, Value.slice p200 k201 k202] = Value.agg
  #[Value.int IntKind.i64 n179, Value.int IntKind.i64 n180, Value.int IntKind.i64 n181, Value.int IntKind.i64 n182, Value.int IntKind.i64 n183, Value.int IntKind.i64 n184, Value.int
  IntKind.i64 n185, Value.bool c186, Value.slice p187 k188 k189]) ∧ ∀ (k203 : Nat), (∀ (w204 : World) (R205 : List Own), Ctx W w204 (Own.blk k203 [Value.int IntKind.i64 n179, Value.int
  IntKind.i64 n180, Value.int IntKind.i64 n181, Value.int IntKind.i64 n182, Value.int IntKind.i64 n183, Value.int IntKind.i64 n184, Value.int IntKind.i64 n185, Value.bool c186, Value.slice
  p187 k188 k189] 37 :: R157 ++ R205) I158 → Ctx W w204 (R165 ++ R205) Φ166) ∧ ∀ (w206 : World) (R207 : List Own), Ctx W w206 (Own.blk k203 [Value.int IntKind.i64 n179, Value.int IntKind.i64
  n180, Value.int IntKind.i64 n181, Value.int IntKind.i64 n182, Value.int IntKind.i64 n183, Value.int IntKind.i64 n184, Value.int IntKind.i64 n185, Value.bool c186, Value.slice p187 k188
  k189] 37 :: R157 ++ R207) I158 → ∃ (p208 : Option Addr), ∃ (k209 : Nat), ∃ (k210 : Nat), ∃ (w211 : World), Sem.run Try.prog (builtin Builtin.append #[27, 27] 27 #[false, false]
  #[Value.slice p171 k172 k173, Value.slice (some (Addr.mk k203 0 none)) 1 1]) w206 = Result.ok (Next.value (Value.slice p208 k209 k210)) w211 ∧ ∃ (R212 : List Own), ∃ (Φ213 : PW), Stable
  Φ213 ∧ Ctx W w211 (R212 ++ R207) Φ213 ∧ (∀ (w214 : World) (R215 : List Own), Ctx W w214 (R212 ++ R215) Φ213 → Ctx W w214 (R165 ++ R215) Φ166) ∧ ∀ (w216 : World) (R217 : List Own), Ctx W
  w216 (R212 ++ R217) Φ213 → CanWrite w216 xB (xO + 2) 1 ∧ ∀ (w218 : World), w218 = w216.setCell (Addr.mk xB (xO + 2) none) (Value.slice p208 k209 k210) → ∃ (R219 : List Own), ∃ (Φ220 : PW),
  Stable Φ220 ∧ Ctx W w218 (R219 ++ R217) Φ220 ∧ I64 (n156 + 1) ∧ ∃ (R221 : List Own), ∃ (Φ222 : PW), ∃ (k223 : Nat), Stable Φ222 ∧ (∀ (w224 : World) (R225 : List Own), Ctx W w224 (R219 ++
  R225) Φ220 → Ctx W w224 (R221 ++ R225) Φ222) ∧ I150 (n156 + 1) R221 Φ222 k223 ∧ k223 < k159) (∀ (w226 : World) (R227 : List Own), Ctx W w226 (R157 ++ R227) I158 → J (Value.bool true)
  w226)))

theorem Berratalaw08_cluster_done_run (xB xO : Nat) (i : Int) (o0 : Bool) (o1 : Int) (o2 : Int) (o3 : Int) (o4P : Option Addr) (o4N o4C : Nat) (o5P : Option Addr) (o5N o5C : Nat) {W w : World} {R : List Own} {Φ : PW} [Stable Φ] {J : Value → World → Prop} (c : Ctx W w R Φ) (h : Berratalaw08_cluster_done xB xO i o0 o1 o2 o3 o4P o4N o4C o5P o5N o5C W R Φ J) : Calls Try.prog F.erratalaw08_cluster_done #[.pointer (some ⟨xB, xO, none⟩), .int .i64 i, .agg #[.bool o0, .int .i64 o1, .int .i64 o2, .int .i64 o3, .slice o4P o4N o4C, .slice o5P o5N o5C]] w fun e w' => ∃ v, e = .returned v ∧ J v w' :=
  vcFS_sound (H := { keep := some [0, 1, 5, 6, 7, 16, 21, 33, 76, 92], track := [5], stages := [(4, [.stage [0, 4, 5, 1, 6, 2, 3] none, .stage [7] none, .stage [8] (some 9)]), (6, [.held [(0, true), (4, true), (6, true), (10, true), (14, true), (17, true), (21, true), (29, true), (1, true), (7, true), (15, true), (18, true), (30, true), (2, true), (8, true), (16, true), (19, true), (3, true), (9, true), (20, true), (11, true), (22, true), (12, true), (23, true), (13, true), (24, true), (25, true), (26, true), (27, true), (5, false), (28, false), (31, false)], .stage [32] none, .stage [33] (some 34)]), (12, [.held [(0, true), (1, true), (5, true), (7, true), (2, true), (6, true), (3, true), (8, true), (4, true), (9, true), (10, false), (11, false)], .stage [12] none, .stage [13] (some 14)])], loops := [(10, [(7, .one (.int .i64))], [])], cuts := [(5, [], []), (7, [], [])] }) (by rw [show vcFS Try.prog W { keep := some [0, 1, 5, 6, 7, 16, 21, 33, 76, 92], track := [5], stages := [(4, [.stage [0, 4, 5, 1, 6, 2, 3] none, .stage [7] none, .stage [8] (some 9)]), (6, [.held [(0, true), (4, true), (6, true), (10, true), (14, true), (17, true), (21, true), (29, true), (1, true), (7, true), (15, true), (18, true), (30, true), (2, true), (8, true), (16, true), (19, true), (3, true), (9, true), (20, true), (11, true), (22, true), (12, true), (23, true), (13, true), (24, true), (25, true), (26, true), (27, true), (5, false), (28, false), (31, false)], .stage [32] none, .stage [33] (some 34)]), (12, [.held [(0, true), (1, true), (5, true), (7, true), (2, true), (6, true), (3, true), (8, true), (4, true), (9, true), (10, false), (11, false)], .stage [12] none, .stage [13] (some 14)])], loops := [(10, [(7, .one (.int .i64))], [])], cuts := [(5, [], []), (7, [], [])] } F.erratalaw08_cluster_done #[.pointer (some ⟨xB, xO, none⟩), .int .i64 i, .agg #[.bool o0, .int .i64 o1, .int .i64 o2, .int .i64 o3, .slice o4P o4N o4C, .slice o5P o5N o5C]] R Φ J = Berratalaw08_cluster_done xB xO i o0 o1 o2 o3 o4P o4N o4C o5P o5N o5C W R Φ J by kernel_rfl]; exact h) c

/-- errataref08.SameRecs -/
-- loop at region 4: 5 i; blocks 
def Berrataref08_SameRecs (aP : Option Addr) (aN aC : Nat) (bP : Option Addr) (bN bC : Nat) (W : World) (R : List Own) (Φ : PW) (J : Value → World → Prop) : Prop :=
  Br (decide ((↑aN : Int) ≠ (↑bN : Int))) (∀ (w0 : World) (R1 : List Own), Ctx W w0 (R ++ R1) Φ → J (Value.bool false) w0) (exI fun (I2 : Int → List Own → PW → Nat → Prop) => (∃ (R3 : List
  Own), ∃ (Φ4 : PW), ∃ (k5 : Nat), Stable Φ4 ∧ (∀ (w6 : World) (R7 : List Own), Ctx W w6 (R ++ R7) Φ → Ctx W w6 (R3 ++ R7) Φ4) ∧ I2 0 R3 Φ4 k5) ∧ ∀ (n8 : Int) (R9 : List Own) (I10 : List Nat
  → World → Prop) (k11 : Nat), Stable I10 → I2 n8 R9 I10 k11 → Br (decide (n8 < (↑aN : Int))) (∀ (w12 : World) (R13 : List Own), Ctx W w12 (R9 ++ R13) I10 → (0 ≤ n8 ∧ n8 < (↑aN : Int)) ∧ ptrK
  none aP fun (k14 k15 : Nat) => ∃ (n16 : Int), ∃ (s17 : ByteArray), RowAt w12 k14 (k15 + n8.toNat * 2) [Value.int IntKind.i64 n16, Value.string s17] ∧ (0 ≤ n8 ∧ n8 < (↑bN : Int)) ∧ ptrK none
  bP fun (k18 k19 : Nat) => ∃ (n20 : Int), ∃ (s21 : ByteArray), RowAt w12 k18 (k19 + n8.toNat * 2) [Value.int IntKind.i64 n20, Value.string s21] ∧ okAgg Try.prog 55 = true ∧ Br (!(decide (n16
  = n20) && (decide (s17 = s21) && true))) (∀ (w22 : World) (R23 : List Own), Ctx W w22 (R9 ++ R23) I10 → J (Value.bool false) w22) (I64 (n8 + 1) ∧ ∃ (R24 : List Own), ∃ (Φ25 : PW), ∃ (k26 :
  Nat), Stable Φ25 ∧ (∀ (w27 : World) (R28 : List Own), Ctx W w27 (R9 ++ R28) I10 → Ctx W w27 (R24 ++ R28) Φ25) ∧ I2 (n8 + 1) R24 Φ25 k26 ∧ k26 < k11)) (∀ (w29 : World) (R30 : List Own), Ctx
  W w29 (R9 ++ R30) I10 → J (Value.bool true) w29))

theorem Berrataref08_SameRecs_run (aP : Option Addr) (aN aC : Nat) (bP : Option Addr) (bN bC : Nat) {W w : World} {R : List Own} {Φ : PW} [Stable Φ] {J : Value → World → Prop} (c : Ctx W w R Φ) (h : Berrataref08_SameRecs aP aN aC bP bN bC W R Φ J) : Calls Try.prog F.errataref08_SameRecs #[.slice aP aN aC, .slice bP bN bC] w fun e w' => ∃ v, e = .returned v ∧ J v w' :=
  vcFS_sound (H := { keep := some [0, 1, 4, 5, 10, 14, 25], loops := [(4, [(5, .one (.int .i64))], [])] }) (by rw [show vcFS Try.prog W { keep := some [0, 1, 4, 5, 10, 14, 25], loops := [(4, [(5, .one (.int .i64))], [])] } F.errataref08_SameRecs #[.slice aP aN aC, .slice bP bN bC] R Φ J = Berrataref08_SameRecs aP aN aC bP bN bC W R Φ J by kernel_rfl]; exact h) c

/-- (*erratalaw08.cluster).arrive -/
-- cut 7: ; blocks 
-- known blocks: 7 m
def Berratalaw08_cluster_arrive (xB xO : Nat) (n : Int) (keep : Bool) (W : World) (R : List Own) (Φ : PW) (J : Value → World → Prop) : Prop :=
  ∀ (w0 : World) (R1 : List Own), Ctx W w0 (R ++ R1) Φ → ∃ (p2 : Option Addr), ∃ (k3 : Nat), ∃ (k4 : Nat), w0.cell? (Addr.mk xB (xO + 2) none) = some (Value.slice p2 k3 k4) ∧ Br (decide ((↑k3
  : Int) = 0)) (∀ (w5 : World) (R6 : List Own), Ctx W w5 (R ++ R6) Φ → J (Value.bool true) w5) (∀ (w7 : World) (R8 : List Own), Ctx W w7 (R ++ R8) Φ → ∃ (p9 : Option Addr), ∃ (k10 : Nat), ∃
  (k11 : Nat), w7.cell? (Addr.mk xB (xO + 2) none) = some (Value.slice p9 k10 k11) ∧ ∀ (w12 : World) (R13 : List Own), Ctx W w12 (R ++ R13) Φ → Calls Try.prog F.erratalaw08_pick #[Value.int
  IntKind.i64 n, Value.int IntKind.i64 (↑k10 : Int)] w12 fun (e14 : Ending) (w15 : World) => ∃ (n16 : Int), e14 = Ending.returned (Value.int IntKind.i64 n16) ∧ ∃ (R17 : List Own), ∃ (Φ18 :
  PW), Stable Φ18 ∧ Ctx W w15 (R17 ++ R13) Φ18 ∧ ∀ (w19 : World) (R20 : List Own), Ctx W w19 (R17 ++ R20) Φ18 → ∃ (p21 : Option Addr), ∃ (k22 : Nat), ∃ (k23 : Nat), w19.cell? (Addr.mk xB (xO
  + 2) none) = some (Value.slice p21 k22 k23) ∧ (0 ≤ n16 ∧ n16 < (↑k22 : Int)) ∧ ptrK none p21 fun (k24 k25 : Nat) => ∀ (w26 : World) (R27 : List Own), Ctx W w26 (R17 ++ R27) Φ18 → ∃ (n28 :
  Int), ∃ (n29 : Int), ∃ (n30 : Int), ∃ (n31 : Int), ∃ (n32 : Int), ∃ (n33 : Int), ∃ (n34 : Int), ∃ (c35 : Bool), ∃ (p36 : Option Addr), ∃ (k37 : Nat), ∃ (k38 : Nat), RowAt w26 k24 (k25 +
  n16.toNat * 9) [Value.int IntKind.i64 n28, Value.int IntKind.i64 n29, Value.int IntKind.i64 n30, Value.int IntKind.i64 n31, Value.int IntKind.i64 n32, Value.int IntKind.i64 n33, Value.int
  IntKind.i64 n34, Value.bool c35, Value.slice p36 k37 k38] ∧ ∀ (b : Nat), exI fun (I39 : List Own → PW → Prop) => Br (!keep) (∃ (R40 : List Own), ∃ (Φ41 : PW), Stable Φ41 ∧ (∀ (w42 : World)
  (R43 : List Own), Ctx W w42 (R17 ++ R43) Φ18 → Ctx W w42 (R40 ++ R43) Φ41) ∧ I64 (n16 + 1) ∧ ∃ (p44 : Option Addr), ∃ (k45 : Nat), ∃ (k46 : Nat), (∀ (w47 : World) (R48 : List Own), Ctx W
  w47 (R40 ++ R48) Φ41 → ∃ (p49 : Option Addr), ∃ (k50 : Nat), ∃ (k51 : Nat), w47.cell? (Addr.mk xB (xO + 2) none) = some (Value.slice p49 k50 k51) ∧ Value.slice p49 k50 k51 = Value.slice p44
  k45 k46) ∧ ∃ (p52 : Option Addr), ∃ (k53 : Nat), ∃ (k54 : Nat), (∀ (w55 : World) (R56 : List Own), Ctx W w55 (R40 ++ R56) Φ41 → ∃ (p57 : Option Addr), ∃ (k58 : Nat), ∃ (k59 : Nat),
  w55.cell? (Addr.mk xB (xO + 2) none) = some (Value.slice p57 k58 k59) ∧ Value.slice p57 k58 k59 = Value.slice p52 k53 k54) ∧ (0 ≤ n16 ∧ n16 ≤ (↑k46 : Int)) ∧ (0 ≤ n16 + 1 ∧ n16 + 1 ≤ (↑k53
  : Int) ∧ k53 ≤ k54) ∧ ∀ (k60 : Nat), (∀ (w61 : World) (R62 : List Own), Ctx W w61 (Own.blk k60 [] 37 :: R17 ++ R62) Φ18 → Ctx W w61 (R40 ++ R62) Φ41) ∧ ∀ (w63 : World) (R64 : List Own), Ctx
  W w63 (Own.blk k60 [] 37 :: R17 ++ R64) Φ18 → ∃ (p65 : Option Addr), ∃ (k66 : Nat), ∃ (k67 : Nat), ∃ (w68 : World), Sem.run Try.prog (builtin Builtin.append #[27, 27] 27 #[false, false]
  #[Value.slice (some (Addr.mk k60 0 none)) 0 0, Value.slice (subPtr p44 9 0 k46) n16.toNat k46]) w63 = Result.ok (Next.value (Value.slice p65 k66 k67)) w68 ∧ ∃ (R69 : List Own), ∃ (Φ70 :
  PW), Stable Φ70 ∧ Ctx W w68 (R69 ++ R64) Φ70 ∧ (∀ (w71 : World) (R72 : List Own), Ctx W w71 (R69 ++ R72) Φ70 → Ctx W w71 (R40 ++ R72) Φ41) ∧ ∀ (w73 : World) (R74 : List Own), Ctx W w73 (R69
  ++ R74) Φ70 → ∃ (p75 : Option Addr), ∃ (k76 : Nat), ∃ (k77 : Nat), ∃ (w78 : World), Sem.run Try.prog (builtin Builtin.append #[27, 27] 27 #[false, false] #[Value.slice p65 k66 k67,
  Value.slice (subPtr p52 9 (n16 + 1).toNat k54) (k53 - (n16 + 1).toNat) (k54 - (n16 + 1).toNat)]) w73 = Result.ok (Next.value (Value.slice p75 k76 k77)) w78 ∧ ∃ (R79 : List Own), ∃ (Φ80 :
  PW), Stable Φ80 ∧ Ctx W w78 (R79 ++ R74) Φ80 ∧ (∀ (w81 : World) (R82 : List Own), Ctx W w81 (R79 ++ R82) Φ80 → Ctx W w81 (R40 ++ R82) Φ41) ∧ ∀ (w83 : World) (R84 : List Own), Ctx W w83 (R79
  ++ R84) Φ80 → CanWrite w83 xB (xO + 2) 1 ∧ ∀ (w85 : World), w85 = w83.setCell (Addr.mk xB (xO + 2) none) (Value.slice p75 k76 k77) → ∃ (R86 : List Own), ∃ (Φ87 : PW), Stable Φ87 ∧ Ctx W w85
  (R86 ++ R84) Φ87 ∧ ∃ (R88 : List Own), ∃ (Φ89 : PW), Stable Φ89 ∧ (∀ (w90 : World) (R91 : List Own), Ctx W w90 (R86 ++ R91) Φ87 → Ctx W w90 (R88 ++ R91) Φ89) ∧ I39 R88 Φ89) (∃ (R92 : List
  Own), ∃ (Φ93 : PW), Stable Φ93 ∧ (∀ (w94 : World) (R95 : List Own), Ctx W w94 (R17 ++ R95) Φ18 → Ctx W w94 (R92 ++ R95) Φ93) ∧ I39 R92 Φ93) ∧ ∀ (R96 : List Own) (I97 : List Nat → World →
  Prop), Stable I97 → I39 R96 I97 → ∀ (w98 : World) (R99 : List Own), Ctx W w98 (R96 ++ R99) I97 → Calls Try.prog F.erratalaw08_pick #[Value.int IntKind.i64 n30, Value.int IntKind.i64 3] w98
  fun (e100 : Ending) (w101 : World) => ∃ (n102 : Int), e100 = Ending.returned (Value.int IntKind.i64 n102) ∧ ∃ (R103 : List Own), ∃ (Φ104 : PW), Stable Φ104 ∧ Ctx W w101 (R103 ++ R99) Φ104 ∧
  ∃ (R105 : List Own), ∃ (Φ106 : PW), Stable Φ106 ∧ (∀ (w107 : World) (R108 : List Own), Ctx W w107 (R103 ++ R108) Φ104 → Ctx W w107 (R105 ++ R108) Φ106) ∧ ∃ (p109 : Option Addr), ∃ (k110 :
  Nat), ∃ (k111 : Nat), (∀ (w112 : World) (R113 : List Own), Ctx W w112 (R105 ++ R113) Φ106 → ∃ (p114 : Option Addr), ∃ (k115 : Nat), ∃ (k116 : Nat), w112.cell? (Addr.mk xB xO none) = some
  (Value.slice p114 k115 k116) ∧ Value.slice p114 k115 k116 = Value.slice p109 k110 k111) ∧ (0 ≤ n102 ∧ n102 < (↑k110 : Int)) ∧ ptrK none p109 fun (k117 k118 : Nat) => ∃ (p119 : Option Addr),
  (∀ (w120 : World) (R121 : List Own), Ctx W w120 (R105 ++ R121) Φ106 → ∃ (p122 : Option Addr), w120.cell? (Addr.mk k117 (k118 + n102.toNat) none) = some (Value.pointer p122) ∧ Value.pointer
  p122 = Value.pointer p119) ∧ ∀ (w123 : World) (R124 : List Own), Ctx W w123 (R103 ++ R124) Φ104 → Calls Try.prog F.replica_Replica_Hear #[Value.pointer p119, Value.agg #[Value.int
  IntKind.i64 n28, Value.int IntKind.i64 n29, Value.int IntKind.i64 n30, Value.int IntKind.i64 n31, Value.int IntKind.i64 n32, Value.int IntKind.i64 n33, Value.int IntKind.i64 n34, Value.bool
  c35, Value.slice p36 k37 k38]] w123 fun (e125 : Ending) (w126 : World) => ∃ (c127 : Bool), ∃ (n128 : Int), ∃ (n129 : Int), ∃ (n130 : Int), ∃ (p131 : Option Addr), ∃ (k132 : Nat), ∃ (k133 :
  Nat), ∃ (p134 : Option Addr), ∃ (k135 : Nat), ∃ (k136 : Nat), e125 = Ending.returned (Value.agg #[Value.bool c127, Value.int IntKind.i64 n128, Value.int IntKind.i64 n129, Value.int
  IntKind.i64 n130, Value.slice p131 k132 k133, Value.slice p134 k135 k136]) ∧ ∃ (R137 : List Own), ∃ (Φ138 : PW), Stable Φ138 ∧ Ctx W w126 (R137 ++ R124) Φ138 ∧ (∀ (w139 : World) (R140 :
  List Own), Ctx W w139 (R137 ++ R140) Φ138 → Ctx W w139 (R105 ++ R140) Φ106) ∧ ∀ (w141 : World) (R142 : List Own), Ctx W w141 (R137 ++ R142) Φ138 → Calls Try.prog F.erratalaw08_cluster_done
  #[Value.pointer (some (Addr.mk xB xO none)), Value.int IntKind.i64 n102, Value.agg #[Value.bool c127, Value.int IntKind.i64 n128, Value.int IntKind.i64 n129, Value.int IntKind.i64 n130,
  Value.slice p131 k132 k133, Value.slice p134 k135 k136]] w141 fun (e143 : Ending) (w144 : World) => ∃ (c145 : Bool), e143 = Ending.returned (Value.bool c145) ∧ ∃ (R146 : List Own), ∃ (Φ147
  : PW), Stable Φ147 ∧ Ctx W w144 (R146 ++ R142) Φ147 ∧ ∀ (w148 : World) (R149 : List Own), Ctx W w148 (R146 ++ R149) Φ147 → J (Value.bool c145) w148)

theorem Berratalaw08_cluster_arrive_run (xB xO : Nat) (n : Int) (keep : Bool) {W w : World} {R : List Own} {Φ : PW} [Stable Φ] {J : Value → World → Prop} (c : Ctx W w R Φ) (h : Berratalaw08_cluster_arrive xB xO n keep W R Φ J) : Calls Try.prog F.erratalaw08_cluster_arrive #[.pointer (some ⟨xB, xO, none⟩), .int .i64 n, .bool keep] w fun e w' => ∃ v, e = .returned v ∧ J v w' :=
  vcFS_sound (H := { keep := some [0, 1, 2, 6, 7, 8, 14, 30], track := [7], stages := [(6, [.held [(0, true), (2, true), (6, true), (9, true), (13, true), (3, true), (10, true), (14, true), (4, true), (11, true), (5, true), (12, true), (7, true), (15, true), (1, false), (8, false), (16, false)], .stage [17] none, .stage [18] (some 19)]), (8, [.held [(0, true), (1, true), (2, true), (6, true), (9, true), (3, true), (4, true), (5, true), (7, true), (8, true), (10, false)], .stage [] (some 11), .stage [12] none])], cuts := [(7, [], [])] }) (by rw [show vcFS Try.prog W { keep := some [0, 1, 2, 6, 7, 8, 14, 30], track := [7], stages := [(6, [.held [(0, true), (2, true), (6, true), (9, true), (13, true), (3, true), (10, true), (14, true), (4, true), (11, true), (5, true), (12, true), (7, true), (15, true), (1, false), (8, false), (16, false)], .stage [17] none, .stage [18] (some 19)]), (8, [.held [(0, true), (1, true), (2, true), (6, true), (9, true), (3, true), (4, true), (5, true), (7, true), (8, true), (10, false)], .stage [] (some 11), .stage [12] none])], cuts := [(7, [], [])] } F.erratalaw08_cluster_arrive #[.pointer (some ⟨xB, xO, none⟩), .int .i64 n, .bool keep] R Φ J = Berratalaw08_cluster_arrive xB xO n keep W R Φ J by kernel_rfl]; exact h) c

/-- (*erratalaw08.cluster).start -/
def Berratalaw08_cluster_start (xB xO : Nat) (i : Int) (W : World) (R : List Own) (Φ : PW) (J : Value → World → Prop) : Prop :=
  ∀ (w0 : World) (R1 : List Own), Ctx W w0 (R ++ R1) Φ → ∃ (p2 : Option Addr), ∃ (k3 : Nat), ∃ (k4 : Nat), w0.cell? (Addr.mk xB (xO + 1) none) = some (Value.slice p2 k3 k4) ∧ (0 ≤ i ∧ i <
  (↑k3 : Int)) ∧ ptrK none p2 fun (k5 k6 : Nat) => ∀ (w7 : World) (R8 : List Own), Ctx W w7 (R ++ R8) Φ → CanWrite w7 k5 (k6 + i.toNat * 4 + 3) 1 ∧ ∀ (w9 : World), w9 = w7.setCell (Addr.mk k5
  (k6 + i.toNat * 4 + 3) none) (Value.int IntKind.i64 0) → ∃ (R10 : List Own), ∃ (Φ11 : PW), Stable Φ11 ∧ Ctx W w9 (R10 ++ R8) Φ11 ∧ ∃ (R12 : List Own), ∃ (Φ13 : PW), Stable Φ13 ∧ (∀ (w14 :
  World) (R15 : List Own), Ctx W w14 (R10 ++ R15) Φ11 → Ctx W w14 (R12 ++ R15) Φ13) ∧ ∃ (p16 : Option Addr), ∃ (k17 : Nat), ∃ (k18 : Nat), (∀ (w19 : World) (R20 : List Own), Ctx W w19 (R12 ++
  R20) Φ13 → ∃ (p21 : Option Addr), ∃ (k22 : Nat), ∃ (k23 : Nat), w19.cell? (Addr.mk xB xO none) = some (Value.slice p21 k22 k23) ∧ Value.slice p21 k22 k23 = Value.slice p16 k17 k18) ∧ ∃ (p24
  : Option Addr), ∃ (k25 : Nat), ∃ (k26 : Nat), (∀ (w27 : World) (R28 : List Own), Ctx W w27 (R12 ++ R28) Φ13 → ∃ (p29 : Option Addr), ∃ (k30 : Nat), ∃ (k31 : Nat), w27.cell? (Addr.mk xB (xO
  + 1) none) = some (Value.slice p29 k30 k31) ∧ Value.slice p29 k30 k31 = Value.slice p24 k25 k26) ∧ ∃ (p32 : Option Addr), ∃ (k33 : Nat), ∃ (k34 : Nat), (∀ (w35 : World) (R36 : List Own),
  Ctx W w35 (R12 ++ R36) Φ13 → ∃ (p37 : Option Addr), ∃ (k38 : Nat), ∃ (k39 : Nat), w35.cell? (Addr.mk xB (xO + 1) none) = some (Value.slice p37 k38 k39) ∧ Value.slice p37 k38 k39 =
  Value.slice p32 k33 k34) ∧ (0 ≤ i ∧ i < (↑k25 : Int)) ∧ ptrK none p24 fun (k40 k41 : Nat) => (0 ≤ i ∧ i < (↑k33 : Int)) ∧ ptrK none p32 fun (k42 k43 : Nat) => ∃ (n44 : Int), ∃ (n45 : Int),
  (∀ (w46 : World) (R47 : List Own), Ctx W w46 (R12 ++ R47) Φ13 → ∃ (n48 : Int), ∃ (n49 : Int), RowAt w46 k40 (k41 + i.toNat * 4) [Value.int IntKind.i64 n48, Value.int IntKind.i64 n49] ∧
  Value.agg #[Value.int IntKind.i64 n48, Value.int IntKind.i64 n49] = Value.agg #[Value.int IntKind.i64 n44, Value.int IntKind.i64 n45]) ∧ ∃ (p50 : Option Addr), ∃ (k51 : Nat), ∃ (k52 : Nat),
  (∀ (w53 : World) (R54 : List Own), Ctx W w53 (R12 ++ R54) Φ13 → ∃ (p55 : Option Addr), ∃ (k56 : Nat), ∃ (k57 : Nat), w53.cell? (Addr.mk k42 (k43 + i.toNat * 4 + 2) none) = some (Value.slice
  p55 k56 k57) ∧ Value.slice p55 k56 k57 = Value.slice p50 k51 k52) ∧ ∀ (w58 : World) (R59 : List Own), Ctx W w58 (R10 ++ R59) Φ11 → Calls Try.prog F.replica_New #[Value.int IntKind.i64 i,
  Value.agg #[Value.int IntKind.i64 n44, Value.int IntKind.i64 n45], Value.slice p50 k51 k52] w58 fun (e60 : Ending) (w61 : World) => ∃ (p62 : Option Addr), e60 = Ending.returned
  (Value.pointer p62) ∧ ∃ (R63 : List Own), ∃ (Φ64 : PW), Stable Φ64 ∧ Ctx W w61 (R63 ++ R59) Φ64 ∧ (∀ (w65 : World) (R66 : List Own), Ctx W w65 (R63 ++ R66) Φ64 → Ctx W w65 (R12 ++ R66) Φ13)
  ∧ (0 ≤ i ∧ i < (↑k17 : Int)) ∧ ptrK none p16 fun (k67 k68 : Nat) => ∀ (w69 : World) (R70 : List Own), Ctx W w69 (R63 ++ R70) Φ64 → CanWrite w69 k67 (k68 + i.toNat) 1 ∧ ∀ (w71 : World), w71
  = w69.setCell (Addr.mk k67 (k68 + i.toNat) none) (Value.pointer p62) → ∃ (R72 : List Own), ∃ (Φ73 : PW), Stable Φ73 ∧ Ctx W w71 (R72 ++ R70) Φ73 ∧ ∀ (w74 : World) (R75 : List Own), Ctx W
  w74 (R72 ++ R75) Φ73 → ∃ (p76 : Option Addr), ∃ (k77 : Nat), ∃ (k78 : Nat), w74.cell? (Addr.mk xB xO none) = some (Value.slice p76 k77 k78) ∧ (0 ≤ i ∧ i < (↑k77 : Int)) ∧ ptrK none p76 fun
  (k79 k80 : Nat) => ∀ (w81 : World) (R82 : List Own), Ctx W w81 (R72 ++ R82) Φ73 → ∃ (p83 : Option Addr), w81.cell? (Addr.mk k79 (k80 + i.toNat) none) = some (Value.pointer p83) ∧ ∀ (w84 :
  World) (R85 : List Own), Ctx W w84 (R72 ++ R85) Φ73 → J (Value.bool !p83.isNone) w84

theorem Berratalaw08_cluster_start_run (xB xO : Nat) (i : Int) {W w : World} {R : List Own} {Φ : PW} [Stable Φ] {J : Value → World → Prop} (c : Ctx W w R Φ) (h : Berratalaw08_cluster_start xB xO i W R Φ J) : Calls Try.prog F.erratalaw08_cluster_start #[.pointer (some ⟨xB, xO, none⟩), .int .i64 i] w fun e w' => ∃ v, e = .returned v ∧ J v w' :=
  vcFS_sound (H := { keep := some [0, 1, 4], stages := [(2, [.held [(0, true), (4, true), (5, true), (6, true), (10, true), (14, true), (18, true), (1, true), (7, true), (15, true), (2, true), (8, true), (16, true), (3, true), (9, true), (17, true), (11, true), (19, true), (12, true), (20, true), (13, true), (21, true), (22, false)], .stage [23] (some 24)])] }) (by rw [show vcFS Try.prog W { keep := some [0, 1, 4], stages := [(2, [.held [(0, true), (4, true), (5, true), (6, true), (10, true), (14, true), (18, true), (1, true), (7, true), (15, true), (2, true), (8, true), (16, true), (3, true), (9, true), (17, true), (11, true), (19, true), (12, true), (20, true), (13, true), (21, true), (22, false)], .stage [23] (some 24)])] } F.erratalaw08_cluster_start #[.pointer (some ⟨xB, xO, none⟩), .int .i64 i] R Φ J = Berratalaw08_cluster_start xB xO i W R Φ J by kernel_rfl]; exact h) c

end Go.Proofs.Ytifgijoeckoojaa
end

/-
  Three replicas, what they have stored, and messages: in plain Lean, and where they lie; pick, few, SameRecs.
-/
section
set_option linter.unusedVariables false
set_option linter.unusedSimpArgs false
namespace Go.Proofs.Ytifgijoeckoojaa
open Go.Vc

/-! ### in plain Lean -/
structure Node where
  rep : Rep
  sterm : Int
  svote : Int
  slog : List RecD
  stop : Int

structure Cl where
  nd : Nat → Node
  sent : List MsgR

def startN (i : Nat) (n : Node) : Node := { n with stop := 0, rep := newRep i n.sterm n.svote n.slog }
def saveN (n : Node) (o : OutR) : Node := if o.save = true then { n with sterm := o.term, svote := o.vote } else n
def keepN (n : Node) (o : OutR) : Node := if 0 < o.src then { n with slog := n.slog.take (min (o.src - 1) (n.slog.length : Int)).toNat ++ o.recs } else n
def startC (C : Cl) (i : Nat) : Cl := { C with nd := put C.nd i (startN i (C.nd i)) }
def repC (C : Cl) (i : Nat) (r : Rep) : Cl := { C with nd := put C.nd i { C.nd i with rep := r } }
/-- what a call of a replica says is done -/
def doneC (C : Cl) (i : Nat) (o : OutR) : Cl :=
  if (C.nd i).stop = 1 then startC C i
  else
    let C1 : Cl := { C with nd := put C.nd i (keepN (saveN (C.nd i) o) o) }
    if (C.nd i).stop = 2 then startC C1 i
    else { C1 with sent := C.sent ++ o.send.take (300 - C.sent.length) }

def pickZ (n m : Int) : Int := if m < 1 then 0 else n.emod m

theorem pickZ_lt {n m : Int} (h : 0 < m) : 0 ≤ pickZ n m ∧ pickZ n m < m := by
  unfold pickZ
  rw [if_neg (by omega)]
  exact ⟨Int.emod_nonneg _ (by omega), Int.emod_lt_of_pos _ h⟩

theorem tmod_pick {n m : Int} (h : 0 < m) : (if n.tmod m < 0 then n.tmod m + m else n.tmod m) = n.emod m := by
  have h1 := Int.emod_nonneg n (show m ≠ 0 by omega)
  have h2 := Int.emod_lt_of_pos n h
  rcases Int.le_total 0 n with hn | hn
  · rw [Int.tmod_eq_emod_of_nonneg hn, if_neg (by omega)]
    rfl
  · have h3 : n.tmod m ≤ 0 := by
      have := Int.tmod_nonneg m (show 0 ≤ -n by omega)
      rw [Int.neg_tmod] at this
      omega
    have h4 : -m < n.tmod m := by
      have := Int.tmod_lt_of_pos (-n) h
      rw [Int.neg_tmod] at this
      omega
    have h5 : (n.tmod m).emod m = n.emod m := by
      have e := Int.tmod_add_mul_tdiv n m
      have : n = n.tmod m + m * n.tdiv m := by omega
      conv => rhs; rw [this]
      exact (Int.add_mul_emod_self_left _ _ _).symm
    by_cases hz : n.tmod m < 0
    · rw [if_pos hz]
      have : (n.tmod m + m).emod m = n.emod m := by
        rw [← h5]
        have := Int.add_mul_emod_self_left (n.tmod m) m 1
        rwa [Int.mul_one] at this
      rw [← this]
      exact (Int.emod_eq_of_lt (by omega) (by omega)).symm
    · rw [if_neg hz, ← h5]
      exact (Int.emod_eq_of_lt (by omega) (by omega)).symm

theorem pick_q (n m : Int) (hm : I64 m) : Quiet Try.prog F.erratalaw08_pick #[.int .i64 n, .int .i64 m] (.int .i64 (pickZ n m)) :=
  quiet_of (fun w J h => Qerratalaw08_pick_run n m w J h) fun w => Br.intro (fun h => ⟨by unfold pickZ; rw [if_pos (of_decide_eq_true h)], rfl⟩) (fun h => by
    have h := of_decide_eq_false h
    have hp := tmod_pick (n := n) (show 0 < m by omega)
    have hl := pickZ_lt (n := n) (show 0 < m by omega)
    have hz : pickZ n m = n.emod m := by unfold pickZ; rw [if_neg (by omega)]
    refine ⟨by omega, Br.intro (fun h2 => ?_) (fun h2 => ?_)⟩
    · have h2 := of_decide_eq_true h2
      rw [if_pos h2] at hp
      unfold I64 at hm
      exact ⟨by unfold I64; omega, by rw [hz, hp], rfl⟩
    · have h2 := of_decide_eq_false h2
      rw [if_neg h2] at hp
      exact ⟨by rw [hz, hp], rfl⟩)

/-! ### few -/
structure OpR where
  op : Int
  who : Int
  n : Int
  data : ByteArray
instance : Gv OpR := Gv.via (β := Int × Int × Int × ByteArray) (fun x => (x.op, x.who, x.n, x.data)) (fun y => ⟨y.1, y.2.1, y.2.2.1, y.2.2.2⟩) (fun _ => rfl)

theorem sl_op {M : List Nat} {w : World} {b o : Nat} {l : List OpR} (h : Sl M w (some ⟨b, o, none⟩) l) {i : Nat} (hi : i < l.length) : RowAt w b (o + i * 4) [.int .i64 l[i].op, .int .i64 l[i].who, .int .i64 l[i].n, .string l[i].data] := by
  obtain ⟨b', o', cs, e, _, h3, _, _, rfl, ⟨rfl, _⟩, _, _, rfl, ⟨rfl, _⟩, _, _, rfl, ⟨rfl, _⟩, rfl, _⟩ := h i hi
  cases e
  exact h3

theorem few_in {Φ : PW} [Stable Φ] (p : Option Addr) (cap : Nat) (l : List OpR) (n : Int) (hΦ : ∀ M w, Φ M w → Sl M w p l) (hlen : l.length ≤ 9223372036854775807) :
    ∃ bf : Bool, GivesIn Φ Try.prog F.erratalaw08_few #[.slice p l.length cap, .int .i64 n] (.bool bf) ∧ (bf = true → (∀ x ∈ l, x.data.size ≤ 40) ∧ (l.length : Int) ≤ n) := by
  refine ⟨(l.all fun x => decide (x.data.size ≤ 40)) && decide ((l.length : Int) ≤ n), ?_, fun h => ?_⟩
  · refine .there (fun M w h => (hΦ M w h).there) fun hth => ?_
    refine gives_in (Berratalaw08_few_run p l.length cap n) fun W R => ?_
    refine exI_mk (fun iI R' Φ' k => ∃ i : Nat, iI = i ∧ i ≤ l.length ∧ R' = R ∧ Φ' = Φ ∧ k = l.length - i ∧ (l.all fun x => decide (x.data.size ≤ 40)) = ((l.drop i).all fun x => decide (x.data.size ≤ 40))) ⟨⟨R, Φ, _, inferInstance, fun w F c => c, 0, rfl, Nat.zero_le _, rfl, rfl, rfl, rfl⟩, ?_⟩
    rintro iI R1 Φ1 k _ ⟨i, rfl, hi, rfl, rfl, rfl, hs⟩
    refine Br.intro (fun hlt => ?_) (fun hge => fun w F cx => ⟨?_, cx.left⟩)
    · have hlt : i < l.length := by simpa using hlt
      obtain ⟨b, o, rfl⟩ := hth (by omega)
      rw [List.drop_eq_getElem_cons hlt, List.all_cons] at hs
      refine ⟨by omega, ptrK_intro b o rfl fun w F cx => ⟨l[i].data, by rw [Int.toNat_natCast]; exact sl_op (hΦ _ _ cx.phi) hlt 3 (by simp), Br.intro (fun h => fun w F cx => ⟨?_, cx.left⟩) (fun h => ⟨by unfold I64; omega, R1, Φ1, l.length - (i + 1), inferInstance, fun w F c => c, ⟨i + 1, rfl, hlt, rfl, rfl, rfl, ?_⟩, by omega⟩)⟩⟩
      · rw [hs, decide_eq_false (by have := of_decide_eq_true h; omega), Bool.false_and, Bool.false_and]
      · rw [hs, decide_eq_true (by have := of_decide_eq_false h; omega), Bool.true_and]
    · have hge : i = l.length := Nat.le_antisymm hi (by simpa using hge)
      rw [hs, hge, List.drop_length]
      rfl
  · simp only [Bool.and_eq_true, List.all_eq_true, decide_eq_true_eq] at h
    exact h

/-! ### SameRecs -/
theorem okAgg55 : okAgg Try.prog 55 = true := by kernel_rfl

theorem SameRecs_in {Φ : PW} [Stable Φ] (p q : Option Addr) (cap cap2 : Nat) (a b : List RecD) (hΦ : ∀ M w, Φ M w → Sl M w p a) (hΨ : ∀ M w, Φ M w → Sl M w q b) (hlen : a.length ≤ 1000000) :
    GivesIn Φ Try.prog F.errataref08_SameRecs #[.slice p a.length cap, .slice q b.length cap2] (.bool (decide (a = b))) := by
  refine .there (fun M w h => (hΦ M w h).there) fun hth => .there (fun M w h => (hΨ M w h).there) fun hth2 => ?_
  refine gives_in (Berrataref08_SameRecs_run p a.length cap q b.length cap2) fun W R => ?_
  refine Br.intro (fun h => fun w G cx => ⟨?_, cx.left⟩) (fun h => ?_)
  · rw [decide_eq_false]
    intro e
    have := of_decide_eq_true h
    rw [e] at this
    exact this rfl
  have hl : a.length = b.length := by have := of_decide_eq_false h; omega
  refine exI_mk (fun iI R' Φ' k => ∃ i : Nat, iI = i ∧ i ≤ a.length ∧ R' = R ∧ Φ' = Φ ∧ k = a.length - i ∧ a.take i = b.take i) ⟨⟨R, Φ, _, inferInstance, fun w F c => c, 0, rfl, Nat.zero_le _, rfl, rfl, rfl, rfl⟩, ?_⟩
  rintro iI R1 Φ1 k _ ⟨i, rfl, hi, rfl, rfl, rfl, hs⟩
  refine Br.intro (fun hlt => fun w G cx => ?_) (fun hge => fun w F cx => ⟨?_, cx.left⟩)
  · have hlt : i < a.length := by simpa using hlt
    have hltb : i < b.length := by omega
    obtain ⟨b1, o1, rfl⟩ := hth (by omega)
    obtain ⟨b2, o2, rfl⟩ := hth2 (by omega)
    refine ⟨by omega, ptrK_intro b1 o1 rfl ⟨a[i].term, a[i].data, by rw [Int.toNat_natCast]; exact sl_rec (hΦ _ _ cx.phi) hlt, by omega, ptrK_intro b2 o2 rfl ⟨b[i].term, b[i].data, by rw [Int.toNat_natCast]; exact sl_rec (hΨ _ _ cx.phi) hltb, okAgg55, Br.intro (fun h => fun w G cx => ⟨?_, cx.left⟩) (fun h => ⟨by unfold I64; omega, R1, Φ1, a.length - (i + 1), inferInstance, fun w F c => c, ⟨i + 1, rfl, hlt, rfl, rfl, rfl, ?_⟩, by omega⟩)⟩⟩⟩
    · rw [decide_eq_false]
      intro e
      subst e
      simp at h
    · have he : a[i] = b[i] := by
        simp only [Bool.not_eq_false', Bool.and_true, Bool.and_eq_true, decide_eq_true_eq] at h
        exact rec_ext.2 h
      rw [List.take_succ_eq_append_getElem hlt, List.take_succ_eq_append_getElem hltb, hs, he]
  · have hge : i = a.length := Nat.le_antisymm hi (by simpa using hge)
    rw [decide_eq_true]
    rw [hge, List.take_length, hl, List.take_length] at hs
    exact hs

/-! ### where it lies -/
structure Lay where
  x : Nat
  rp : Option Addr
  rc : Nat
  sp : Option Addr
  sc : Nat
  tp : Option Addr
  tc : Nat
  mc : List Value
  b : Nat → Nat
  p : Nat → Option Addr
  c : Nat → Nat
  lp : Nat → Option Addr
  lc : Nat → Nat

abbrev ptrV (b : Nat) : Value := .pointer (some ⟨b, 0, none⟩)
abbrev nodeS (n : Node) (p : Option Addr) (c : Nat) : List Value := [.int .i64 n.sterm, .int .i64 n.svote, .slice p n.slog.length c, .int .i64 n.stop]
abbrev sCells (L : Lay) (C : Cl) : List Value := nodeS (C.nd 0) (L.lp 0) (L.lc 0) ++ nodeS (C.nd 1) (L.lp 1) (L.lc 1) ++ nodeS (C.nd 2) (L.lp 2) (L.lc 2)
abbrev rCells (L : Lay) : List Value := [ptrV (L.b 0), ptrV (L.b 1), ptrV (L.b 2)]
abbrev xCells (L : Lay) (C : Cl) : List Value := [.slice L.rp 3 L.rc, .slice L.sp 3 L.sc, .slice L.tp C.sent.length L.tc]
abbrev heads (L : Lay) (C : Cl) : List Own := [.blk L.x (xCells L C) 34, .buf L.rp 3 L.rc (rCells L) 46 1, .buf L.sp 3 L.sc (sCells L C) 42 4, .buf L.tp C.sent.length L.tc L.mc 37 9]
abbrev repI (L : Lay) (C : Cl) (i : Nat) : List Own := repO (L.b i) (C.nd i).rep (L.p i) (L.c i)
abbrev repsO (L : Lay) (C : Cl) : List Own := repI L C 0 ++ (repI L C 1 ++ repI L C 2)
def restO (L : Lay) (C : Cl) (i : Nat) : List Own := if i = 0 then repI L C 1 ++ repI L C 2 else if i = 1 then repI L C 0 ++ repI L C 2 else repI L C 0 ++ repI L C 1
abbrev clO (L : Lay) (C : Cl) : List Own := heads L C ++ repsO L C

def LogS (M : List Nat) (w : World) (p : Option Addr) (c : Nat) (l : List RecD) : Prop := l.length ≤ c ∧ Sl M w p l
instance logs_stable (p : Option Addr) (c : Nat) (l : List RecD) : Stable (fun M w => LogS M w p c l) := instStableAnd (fun _ _ => l.length ≤ c) (fun M w => Sl M w p l)

def ClS (L : Lay) (C : Cl) : PW := fun M w => Elems M w L.mc C.sent ∧ (LogS M w (L.lp 0) (L.lc 0) (C.nd 0).slog ∧ LogS M w (L.lp 1) (L.lc 1) (C.nd 1).slog ∧ LogS M w (L.lp 2) (L.lc 2) (C.nd 2).slog)
instance cls_stable (L : Lay) (C : Cl) : Stable (ClS L C) :=
  have h1 : Stable (fun M w => Elems M w L.mc C.sent) := instStableElems L.mc C.sent
  have h2 : Stable (fun M w => LogS M w (L.lp 1) (L.lc 1) (C.nd 1).slog ∧ LogS M w (L.lp 2) (L.lc 2) (C.nd 2).slog) := instStableAnd (fun M w => LogS M w (L.lp 1) (L.lc 1) (C.nd 1).slog) (fun M w => LogS M w (L.lp 2) (L.lc 2) (C.nd 2).slog)
  have h3 : Stable (fun M w => LogS M w (L.lp 0) (L.lc 0) (C.nd 0).slog ∧ LogS M w (L.lp 1) (L.lc 1) (C.nd 1).slog ∧ LogS M w (L.lp 2) (L.lc 2) (C.nd 2).slog) := instStableAnd (fun M w => LogS M w (L.lp 0) (L.lc 0) (C.nd 0).slog) (fun M w => LogS M w (L.lp 1) (L.lc 1) (C.nd 1).slog ∧ LogS M w (L.lp 2) (L.lc 2) (C.nd 2).slog)
  instStableAnd (fun M w => Elems M w L.mc C.sent) (fun M w => LogS M w (L.lp 0) (L.lc 0) (C.nd 0).slog ∧ LogS M w (L.lp 1) (L.lc 1) (C.nd 1).slog ∧ LogS M w (L.lp 2) (L.lc 2) (C.nd 2).slog)

theorem ClS.logs {L : Lay} {C : Cl} {M : List Nat} {w : World} (h : ClS L C M w) {i : Nat} (hi : i < 3) : LogS M w (L.lp i) (L.lc i) (C.nd i).slog := by
  match i, hi with
  | 0, _ => exact h.2.1
  | 1, _ => exact h.2.2.1
  | 2, _ => exact h.2.2.2
theorem ClS.log {L : Lay} {C : Cl} {M : List Nat} {w : World} (h : ClS L C M w) {i : Nat} (hi : i < 3) : Sl M w (L.lp i) (C.nd i).slog := (h.logs hi).2

theorem reps_perm (L : Lay) (C : Cl) {i : Nat} (hi : i < 3) : (repsO L C).Perm (repI L C i ++ restO L C i) := by
  match i, hi with
  | 0, _ => exact List.Perm.refl _
  | 1, _ =>
    refine (List.Perm.of_eq (List.append_assoc (repI L C 0) (repI L C 1) (repI L C 2)).symm).trans ?_
    refine (List.Perm.append_right (repI L C 2) (List.perm_append_comm (l₁ := repI L C 0) (l₂ := repI L C 1))).trans ?_
    exact List.Perm.of_eq (List.append_assoc (repI L C 1) (repI L C 0) (repI L C 2))
  | 2, _ =>
    refine (List.Perm.of_eq (List.append_assoc (repI L C 0) (repI L C 1) (repI L C 2)).symm).trans ?_
    exact List.perm_append_comm

/-- one replica in front -/
theorem focus {W w : World} {L : Lay} {C : Cl} {G : List Own} {Φ : PW} [Stable Φ] {i : Nat} (hi : i < 3) (c : Ctx W w (clO L C ++ G) Φ) : Ctx W w (repI L C i ++ (heads L C ++ restO L C i ++ G)) Φ := by
  refine c.perm ?_
  rw [← List.append_assoc]
  refine List.Perm.append_right G ?_
  refine (List.Perm.append_left (heads L C) (reps_perm L C hi)).trans ?_
  rw [← List.append_assoc, ← List.append_assoc]
  exact List.Perm.append_right _ List.perm_append_comm

theorem unfocus {W w : World} {L : Lay} {C : Cl} {G : List Own} {Φ : PW} [Stable Φ] {i : Nat} (hi : i < 3) (c : Ctx W w (repI L C i ++ (heads L C ++ restO L C i ++ G)) Φ) : Ctx W w (clO L C ++ G) Φ := by
  refine c.perm (List.Perm.symm ?_)
  rw [← List.append_assoc]
  refine List.Perm.append_right G ?_
  refine (List.Perm.append_left (heads L C) (reps_perm L C hi)).trans ?_
  rw [← List.append_assoc, ← List.append_assoc]
  exact List.Perm.append_right _ List.perm_append_comm

/-- the places of replica i are others -/
def Lay.at (L : Lay) (i b : Nat) (p : Option Addr) (c : Nat) : Lay := { L with b := put L.b i b, p := put L.p i p, c := put L.c i c }

theorem put_self {α : Type} (f : Nat → α) (i : Nat) (x : α) : put f i x i = x := if_pos rfl
theorem put_ne {α : Type} (f : Nat → α) {i j : Nat} (x : α) (h : j ≠ i) : put f i x j = f j := if_neg h
theorem put_id {α : Type} (f : Nat → α) (i : Nat) : put f i (f i) = f := by
  funext j; unfold put; split
  · rename_i h; rw [h]
  · rfl

theorem rest_at {L : Lay} {C : Cl} {i b : Nat} {p : Option Addr} {c : Nat} {r : Rep} (hi : i < 3) : restO (L.at i b p c) (repC C i r) i = restO L C i := by
  match i, hi with
  | 0, _ => rfl
  | 1, _ => rfl
  | 2, _ => rfl

theorem repI_at {L : Lay} {C : Cl} {i b : Nat} {p : Option Addr} {c : Nat} {r : Rep} : repI (L.at i b p c) (repC C i r) i = repO b r p c := by
  simp only [repI, Lay.at, repC, put_self]

theorem heads_at {L : Lay} {C : Cl} {i : Nat} {p : Option Addr} {c : Nat} {r : Rep} (hi : i < 3) : heads (L.at i (L.b i) p c) (repC C i r) = heads L C := by
  simp only [heads, Lay.at, put_id]
  match i, hi with
  | 0, _ => rfl
  | 1, _ => rfl
  | 2, _ => rfl

theorem ClS_at {L : Lay} {C : Cl} {i b : Nat} {p : Option Addr} {c : Nat} {r : Rep} (hi : i < 3) {M : List Nat} {w : World} : ClS (L.at i b p c) (repC C i r) M w ↔ ClS L C M w := by
  match i, hi with
  | 0, _ => exact Iff.rfl
  | 1, _ => exact Iff.rfl
  | 2, _ => exact Iff.rfl

/-- after a call of replica i -/
theorem refocus {W w : World} {L : Lay} {C : Cl} {G : List Own} {Φ : PW} [Stable Φ] {i : Nat} (hi : i < 3) {r : Rep} {p : Option Addr} {c : Nat} (cx : Ctx W w (repO (L.b i) r p c ++ (heads L C ++ restO L C i ++ G)) Φ) :
    Ctx W w (clO (L.at i (L.b i) p c) (repC C i r) ++ G) Φ := by
  refine unfocus hi ?_
  rw [repI_at, heads_at hi, rest_at hi]
  exact cx

end Go.Proofs.Ytifgijoeckoojaa
end

