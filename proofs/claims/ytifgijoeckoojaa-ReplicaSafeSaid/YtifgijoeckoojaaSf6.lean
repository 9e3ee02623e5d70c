/-
  Replica: append.
-/
import Derived.Test.YtifgijoeckoojaaSf5
import Derived.Test.YtifgijoeckoojaaSf4

section
set_option linter.unusedVariables false
set_option linter.unusedSimpArgs false
namespace Go.Proofs.Ytifgijoeckoojaa
open Go.Vc

theorem agree_le : ∀ a b : List RecD, agree a b ≤ b.length
  | [], b => by cases b <;> simp [agree]
  | x :: a, [] => by simp [agree]
  | x :: a, y :: b => by
    unfold agree
    split
    · have := agree_le a b; simp only [List.length_cons]; omega
    · simp

theorem agree_lt : ∀ a b : List RecD, agree a b ≤ a.length
  | [], b => by cases b <;> simp [agree]
  | x :: a, [] => by simp [agree]
  | x :: a, y :: b => by
    unfold agree
    split
    · have := agree_lt a b; simp only [List.length_cons]; omega
    · simp

theorem agree_step {l rs : List RecD} {n j : Nat} (hj : j < rs.length) : agree (l.drop (n + j)) (rs.drop j) = if (decide (n + j < l.length) && decide (termAt l (n + j + 1) = rs[j].term)) = true then agree (l.drop (n + j + 1)) (rs.drop (j + 1)) + 1 else 0 := by
  rw [List.drop_eq_getElem_cons hj]
  by_cases h : n + j < l.length
  · rw [List.drop_eq_getElem_cons h, decide_eq_true h, Bool.true_and, termAt_succ h]
    by_cases ht : l[n + j].term = rs[j].term
    · rw [if_pos (decide_eq_true ht)]; simp [agree, ht]
    · rw [if_neg (by simp [ht])]; simp [agree, ht]
  · rw [decide_eq_false h, Bool.false_and, if_neg (by simp), List.drop_eq_nil_of_le (by omega)]
    rfl

theorem append_old {r : Rep} {m : MsgR} (h : m.term < r.term) : appendP r m = (r, outS [msgOf r 3 m.src]) := by unfold appendP; rw [if_pos h]
theorem append_lead {r : Rep} {m : MsgR} (h : ¬ m.term < r.term) (h2 : r.role = 2) : appendP r m = (r, out0) := by unfold appendP; rw [if_neg h, if_pos h2]
def folR (r : Rep) : Rep := { r with role := 0 }
def nackOf (r : Rep) (m : MsgR) : MsgR := ⟨3, r.id, m.src, r.term, min (r.log.length : Int) (m.index - 1), 0, 0, false, []⟩
theorem append_gap {r : Rep} {m : MsgR} (h : ¬ m.term < r.term) (h2 : ¬ r.role = 2) (h3 : (decide ((r.log.length : Int) < m.index) || decide (termAt r.log m.index.toNat ≠ m.prev)) = true) : appendP r m = (folR r, outS [nackOf r m]) := by unfold appendP; rw [if_neg h, if_neg h2]; simp only; rw [if_pos h3]; rfl
def appC (r : Rep) (m : MsgR) : Nat := max r.commit (min m.commit.toNat (m.index.toNat + m.recs.length))
def appK (r : Rep) (m : MsgR) : Nat := agree (r.log.drop m.index.toNat) m.recs
def sameR (r : Rep) (m : MsgR) : Rep := { r with role := 0, commit := appC r m }
def appR (r : Rep) (m : MsgR) (k : Nat) : Rep := { r with role := 0, log := r.log.take (m.index.toNat + k) ++ m.recs.drop k, commit := appC r m }
theorem append_same {r : Rep} {m : MsgR} (h : ¬ m.term < r.term) (h2 : ¬ r.role = 2) (h3 : (decide ((r.log.length : Int) < m.index) || decide (termAt r.log m.index.toNat ≠ m.prev)) = false) (h4 : ¬ appK r m < m.recs.length) : appendP r m = (sameR r m, outS [ackOf r m]) := by
  unfold appendP; rw [if_neg h, if_neg h2]; simp only; rw [if_neg (by rw [h3]; simp), if_neg (show ¬ agree (r.log.drop m.index.toNat) m.recs < m.recs.length from h4)]; rfl
theorem append_done {r : Rep} {m : MsgR} (h : ¬ m.term < r.term) (h2 : ¬ r.role = 2) (h3 : (decide ((r.log.length : Int) < m.index) || decide (termAt r.log m.index.toNat ≠ m.prev)) = false) (h4 : appK r m < m.recs.length) (h5 : m.index.toNat + appK r m + 1 ≤ r.commit) : appendP r m = (folR r, out0) := by
  unfold appendP; rw [if_neg h, if_neg h2]; simp only; rw [if_neg (by rw [h3]; simp), if_pos (show agree (r.log.drop m.index.toNat) m.recs < m.recs.length from h4), if_pos (show m.index.toNat + agree (r.log.drop m.index.toNat) m.recs + 1 ≤ r.commit from h5)]; rfl
theorem append_new {r : Rep} {m : MsgR} (h : ¬ m.term < r.term) (h2 : ¬ r.role = 2) (h3 : (decide ((r.log.length : Int) < m.index) || decide (termAt r.log m.index.toNat ≠ m.prev)) = false) (h4 : appK r m < m.recs.length) (h5 : ¬ m.index.toNat + appK r m + 1 ≤ r.commit) :
    appendP r m = (appR r m (appK r m), ⟨false, 0, 0, ((m.index.toNat + appK r m + 1 : Nat) : Int), m.recs.drop (appK r m), [ackOf r m]⟩) := by
  unfold appendP; rw [if_neg h, if_neg h2]; simp only; rw [if_neg (by rw [h3]; simp), if_pos (show agree (r.log.drop m.index.toNat) m.recs < m.recs.length from h4), if_neg (show ¬ m.index.toNat + agree (r.log.drop m.index.toNat) m.recs + 1 ≤ r.commit from h5)]; rfl

/-- what a right message is -/
structure MsgR.Right (id : Nat) (m : MsgR) : Prop where
  kind : 0 ≤ m.kind ∧ m.kind ≤ 3
  to : m.to = id
  src : m.src ≠ id ∧ 0 ≤ m.src ∧ m.src ≤ 2
  term : 1 ≤ m.term ∧ m.term ≤ 1099511627776
  index : 0 ≤ m.index ∧ m.index ≤ 4000
  prev : 0 ≤ m.prev ∧ m.prev ≤ m.term
  zero : m.index = 0 → m.prev = 0
  commit : 0 ≤ m.commit ∧ m.commit ≤ 4000
  len : m.recs.length ≤ 8
  fits : m.index + m.recs.length ≤ 4000
  sound : soundR m.recs (max 1 m.prev) m.term = true

theorem right_iff {id : Nat} {m : MsgR} : rightP id m = true ↔ m.Right id := by
  unfold rightP
  simp only [Bool.and_eq_true, Bool.not_eq_true', Bool.and_eq_false_iff, decide_eq_true_eq, decide_eq_false_iff_not]
  constructor
  · rintro ⟨⟨⟨⟨⟨⟨⟨⟨⟨⟨⟨⟨⟨⟨⟨⟨⟨h1, h2⟩, h3⟩, h4⟩, h5⟩, h6⟩, h7⟩, h8⟩, h9⟩, h10⟩, h11⟩, h12⟩, h13⟩, h14⟩, h15⟩, h16⟩, h17⟩, h18⟩
    exact ⟨⟨h1, h2⟩, h3, ⟨h4, h5, h6⟩, ⟨h7, h8⟩, ⟨h9, h10⟩, ⟨h11, h12⟩, fun h => by omega, ⟨h14, h15⟩, by omega, h17, h18⟩
  · intro h
    obtain ⟨a1, a2⟩ := h.kind
    obtain ⟨b1, b2, b3⟩ := h.src
    obtain ⟨c1, c2⟩ := h.term
    obtain ⟨d1, d2⟩ := h.index
    obtain ⟨e1, e2⟩ := h.prev
    obtain ⟨f1, f2⟩ := h.commit
    have := h.len
    have := h.zero
    exact ⟨⟨⟨⟨⟨⟨⟨⟨⟨⟨⟨⟨⟨⟨⟨⟨⟨a1, a2⟩, h.to⟩, b1⟩, b2⟩, b3⟩, c1⟩, c2⟩, d1⟩, d2⟩, e1⟩, e2⟩, by omega⟩, f1⟩, f2⟩, by omega⟩, h.fits⟩, h.sound⟩

theorem soundR_iff : ∀ (l : List RecD) (least most : Int), soundR l least most = true → (∀ x ∈ l, least ≤ x.term ∧ x.term ≤ most ∧ x.data.size ≤ 2000) ∧ ∀ i j, i ≤ j → (hj : j < l.length) → (hi : i < l.length) → l[i].term ≤ l[j].term
  | [], _, _, _ => ⟨fun x hx => (by cases hx), fun i j _ hj => (by simp at hj)⟩
  | x :: l, least, most, h => by
    unfold soundR at h
    split at h
    · cases h
    rename_i h1
    simp only [Bool.or_eq_true, decide_eq_true_eq, not_or] at h1
    obtain ⟨h2, h3⟩ := soundR_iff l x.term most h
    refine ⟨fun y hy => ?_, fun i j hij hj hi => ?_⟩
    · rcases List.mem_cons.1 hy with rfl | hy
      · omega
      · have := h2 y hy; omega
    · cases i with
      | zero =>
        cases j with
        | zero => exact Int.le_refl _
        | succ j => simp only [List.getElem_cons_zero, List.getElem_cons_succ]; exact (h2 _ (List.getElem_mem _)).1
      | succ i =>
        cases j with
        | zero => omega
        | succ j => simp only [List.getElem_cons_succ]; exact h3 i j (by omega) _ _

set_option maxHeartbeats 4000000 in
theorem append_use {W w : World} {S : List Own} {Φ : PW} [Stable Φ] {b : Nat} {r : Rep} {p : Option Addr} {c : Nat} (cx : Ctx W w (repO b r p c ++ S) Φ) (hr : r.Ok) (m : MsgR) (hm : m.Right r.id) (q : Option Addr) (qc : Nat) (hsl : ∀ M w, Φ M w → Sl M w q m.recs) (hqc : m.recs.length ≤ qc) {K : Ending → World → Prop}
    (hK : OutK W S Φ b (appendP r m).1 (appendP r m).2 fun v w => K (.returned v) w) : Calls Try.prog F.replica_Replica_append #[.pointer (some ⟨b, 0, none⟩), m.v q qc] w K := by
  have hlen := hr.len
  have hcm := hr.commit
  obtain ⟨hs1, hs2, hs3⟩ := hm.src
  obtain ⟨hi1, hi2⟩ := hm.index
  obtain ⟨hc1, hc2⟩ := hm.commit
  have hl8 := hm.len
  have hfit := hm.fits
  have ht0 := hr.term0
  have htM := hr.termM
  have hix : m.index = (m.index.toNat : Nat) := by omega
  have hth : There q m.recs.length := (hsl _ _ cx.phi).there
  have hrok : ∀ x ∈ m.recs, x.Ok := sl_recOk (hsl _ _ cx.phi)
  have hzero : (repO b { r with role := (0 : Int) } p c) = repO b (folR r) p c := rfl
  refine (Breplica_Replica_append_run b 0 m.kind m.src m.to m.term m.index m.prev m.commit m.yes q m.recs.length qc (J := fun u w' => K (.returned u) w') cx ?_).mono fun e w' ⟨v, he, hj⟩ => by rw [he]; exact hj
  refine fun _ _ w G cx => message_use (gl cx) 3 m.src fun w cx => ⟨_, _, _, _, _, _, _, _, none, _, 0, rfl, repO b r p c ++ S, Φ, inferInstance, gr cx, fun k w G cx => ⟨cx.can 0 rfl (by simp), fun w' hw' => ?_⟩⟩
  have cx1 : Ctx W w' (repO b r p c ++ .blk k ((msgOf r 3 m.src).cells none 0) 37 :: S ++ G) Φ := sink (cx.puts 0 hw' rfl)
  have hmok0 := msg_ok0 hr (kind := 3) (to := m.src) (index := 0) (prev := 0) (yes := false) (by omega) (by omega) (by omega) (by omega)
  refine ⟨_, Φ, inferInstance, cx1, fun w G cx => ⟨r.term, cx.get 0 rfl rfl, Br.intro (fun h => fun w G cx => ⟨_, _, _, _, _, _, _, _, none, _, 0, cx.row0 2 rfl, fun w G cx => ?_⟩) (fun h => fun w G cx => ⟨r.role, cx.get 0 rfl rfl, Br.intro (fun h2 => fun w G cx => ?_) (fun h2 => fun w G cx => ⟨cx.can 0 rfl (by simp), fun w' hw' => ?_⟩)⟩)⟩⟩
  · rw [append_old (of_decide_eq_true h)] at hK
    refine reply cx hmok0 rfl hK fun q w cx hfin => ⟨_, _, _, _, none, _, 0, q, _, 1, rfl, _, _, inferInstance, cx, fun w G cx => hfin w G cx⟩
  · rw [append_lead (of_decide_eq_false h) (of_decide_eq_true h2)] at hK
    exact hK.zero (lift cx).drop1.left
  have h := of_decide_eq_false h
  have h2 := of_decide_eq_false h2
  have cx1 : Ctx W w' (repO b (folR r) p c ++ .blk k ((msgOf r 3 m.src).cells none 0) 37 :: S ++ G) Φ := gr (put_rep (gl cx) hw' (folR r) rfl rfl)
  refine ⟨_, Φ, inferInstance, cx1, fun w G cx => ⟨p, r.log.length, c, cx.get 0 rfl rfl, termAt r.log m.index.toNat, fun hle w' hw => term_dr (r := folR r) (here_of (gl cx)) hix ?_ hlen hw, Br.intro (fun h3 => ?_) (fun h3 => ?_)⟩⟩
  · simp only [Bool.not_eq_true', decide_eq_false_iff_not] at hle
    show m.index.toNat ≤ r.log.length
    omega
  · rw [append_gap h h2 h3] at hK
    refine ⟨by unfold I64; omega, fun w G cx => ⟨p, r.log.length, c, cx.get 0 rfl rfl, fun w G cx => ⟨cx.can 2 rfl (by simp), fun w' hw' => ?_⟩⟩⟩
    have cx1 : Ctx W w' (repO b (folR r) p c ++ .blk k ((nackOf r m).cells none 0) 37 :: S ++ G) Φ := cx.put 2 hw' rfl
    refine ⟨_, Φ, inferInstance, cx1, fun w G cx => ⟨_, _, _, _, _, _, _, _, none, _, 0, cx.row0 2 rfl, fun w G cx => ?_⟩⟩
    have hno : (nackOf r m).Ok := msg_ok0 hr (by omega) (by omega) (by omega) (by omega)
    refine reply (r := folR r) cx hno rfl hK fun q w cx hfin => ⟨_, _, _, _, none, _, 0, q, _, 1, rfl, _, _, inferInstance, cx, fun w G cx => hfin w G cx⟩
  have hle : m.index.toNat ≤ r.log.length := by
    simp only [Bool.or_eq_false_iff, decide_eq_false_iff_not] at h3
    omega
  have hao : (ackOf r m).Ok := msg_ok0 hr (by omega) (by omega) (by omega) (by omega)
  -- the loop over what agrees
  refine fun _ => exI_mk (fun jI a0 a1 a2 a3 a4 a5 a6 a7 a8 a9 sv tm vt fr rp rn rc sp sn sc R' Φ' kk => ∃ j : Nat, jI = j ∧ j ≤ m.recs.length ∧ sv = false ∧ tm = 0 ∧ vt = 0 ∧ fr = 0 ∧ rp = none ∧ rn = 0 ∧ rc = 0 ∧ sp = none ∧ sn = 0 ∧ sc = 0 ∧ R' = repO b (folR r) p c ++ .blk k ((msgOf r 3 m.src).cells none 0) 37 :: S ∧ Φ' = Φ ∧ kk = m.recs.length - j ∧ appK r m = j + agree (r.log.drop (m.index.toNat + j)) (m.recs.drop j))
    ⟨⟨_, Φ, _, inferInstance, fun w G cx => cx, 0, rfl, Nat.zero_le _, rfl, rfl, rfl, rfl, rfl, rfl, rfl, rfl, rfl, rfl, rfl, rfl, rfl, by simp [appK]⟩, ?_⟩
  rintro jI _ _ _ _ _ _ _ _ _ _ _ _ _ _ _ _ _ _ _ _ R1 Φ1 kk _ ⟨j, rfl, hj, rfl, rfl, rfl, rfl, rfl, rfl, rfl, rfl, rfl, rfl, rfl, rfl, rfl, hag⟩
  -- what follows when the entries are in place
  have hfin : ∀ (r2 : Rep) (p2 : Option Addr) (c2 : Nat) (Ψ : PW), Stable Ψ → r2.id = r.id → r2.term = r.term → r2.commit = r.commit → ∀ (w : World) (G : List Own), Ctx W w (repO b r2 p2 c2 ++ .blk k ((msgOf r 3 m.src).cells none 0) 37 :: S ++ G) Ψ →
      CanWrite w k 7 1 ∧ ∀ w', w' = w.setCell (Addr.mk k 7 none) (.bool true) → Ctx W w' (repO b r2 p2 c2 ++ .blk k ((⟨3, r.id, m.src, r.term, 0, 0, 0, true, []⟩ : MsgR).cells none 0) 37 :: S ++ G) Ψ :=
    fun r2 p2 c2 Ψ hst e1 e2 e3 w G cx => ⟨cx.can 2 rfl (by simp), fun w' hw' => cx.put 2 hw' rfl⟩
  have hval : m.index + (m.recs.length : Int) = (m.index + m.recs.length : Int) := rfl
  have hcv : ∀ r2 : Rep, r2.commit = r.commit → max (r2.commit : Int) (min m.commit (m.index + (m.recs.length : Int))) = ((appC r m : Nat) : Int) := fun r2 e => by rw [e]; unfold appC; omega
  refine Br.intro (fun hlt => ?_) (fun hge => ?_)
  · have hlt : j < m.recs.length := by simpa using hlt
    obtain ⟨qb, qo, rfl⟩ := hth (by omega)
    refine ⟨by omega, ptrK_intro qb qo rfl fun w G cx => ⟨m.recs[j].term, m.recs[j].data, by rw [Int.toNat_natCast]; exact sl_rec (hsl _ _ cx.phi) hlt, fun _ => ⟨by unfold I64; omega, by unfold I64; omega, fun w G cx => ⟨p, r.log.length, c, cx.get 0 rfl rfl, termAt r.log (m.index.toNat + j + 1), fun hle2 w' hw => term_dr (r := folR r) (here_of (gl cx)) (by omega) ?_ hlen hw, Br.intro (fun heq => ?_) (fun hne => ?_)⟩⟩⟩⟩
    · have := of_decide_eq_true hle2
      show m.index.toNat + j + 1 ≤ r.log.length
      omega
    · refine ⟨by unfold I64; omega, _, Φ1, m.recs.length - (j + 1), inferInstance, fun w G cx => cx, ⟨j + 1, rfl, hlt, rfl, rfl, rfl, rfl, rfl, rfl, rfl, rfl, rfl, rfl, rfl, rfl, rfl, ?_⟩, by omega⟩
      rw [agree_step hlt, if_pos] at hag
      · rw [show m.index.toNat + (j + 1) = m.index.toNat + j + 1 by omega]; omega
      · simp only [Bool.and_eq_true, decide_eq_true_eq] at heq ⊢
        exact ⟨by omega, heq.2⟩
    · rw [agree_step hlt, if_neg] at hag
      case hnc =>
        intro h'
        simp only [Bool.and_eq_true, decide_eq_true_eq, Bool.and_eq_false_iff, decide_eq_false_iff_not] at hne h'
        rcases hne with hne | hne
        · omega
        · exact hne h'.2
      have hag : appK r m = j := by omega
      refine fun w G cx => ⟨r.commit, cx.get 0 rfl rfl, Br.intro (fun h5 => fun w G cx => ?_) (fun h5 => ?_)⟩
      · rw [append_done h h2 h3 (by omega) (by have := of_decide_eq_true h5; omega)] at hK
        exact hK.zero (lift cx).drop1.left
      have h5 := of_decide_eq_false h5
      rw [append_new h h2 h3 (by omega) (by omega), hag] at hK
      have htl : (r.log.take (m.index.toNat + j)).length = m.index.toNat + j := by
        rw [List.length_take]
        have := agree_lt (r.log.drop m.index.toNat) m.recs
        rw [List.length_drop] at this
        unfold appK at hag
        omega
      have hjl : m.index.toNat + j ≤ r.log.length := by rw [List.length_take] at htl; omega
      refine ⟨by omega, fun w G cx => ?_⟩
      -- the rest is copied
      rw [Int.toNat_natCast, show m.recs.length - j = (m.recs.drop j).length by rw [List.length_drop]]
      refine CloneR_use cx (fun M w h => addr_sub (hsl M w h) j hqc) (by rw [List.length_drop]; omega) fun rp rcap w cx => ?_
      obtain ⟨_, hrc1, hrc2⟩ := cx.bufLen 0 rfl
      obtain ⟨cx2, hs, _⟩ := Ctx.freeze (α := RecD) cx (recs_elems fun x hx => hrok x (List.mem_of_mem_drop hx))
      have hst : Stable (fun M w => Φ1 M w ∧ Sl M w rp (m.recs.drop j)) := inferInstance
      refine ⟨rp, _, rcap, rfl, _, fun M w => Φ1 M w ∧ Sl M w rp (m.recs.drop j), hst, cx2.add hs, [.blk b ((folR r).cells p c) 76], fun _ _ => True, inferInstance, fun w G cx => (cx.weak fun _ _ _ => trivial).sub (List.Sublist.cons_cons _ (List.Sublist.cons _ (List.Sublist.cons _ (List.sublist_append_right _ _)))), by unfold I64; omega, p, r.log.length, c, fun w G cx => ⟨p, r.log.length, c, cx.get 0 rfl rfl, rfl⟩, ?_, fun w G cx => ?_⟩
      · have hc := (cx.bufLen 2 rfl).2.1
        have hc : r.log.length ≤ c := hc
        omega
      have hcap : r.log.length ≤ c := (cx.bufLen 1 rfl).2.1
      have hlk : (m.index + (j : Int) + 1 - 1).toNat = m.index.toNat + j := by omega
      have hsp : subPtr p 2 0 c = p := by
        unfold subPtr
        split
        · rfl
        · cases p with
          | none => rfl
          | some a => simp [Addr.add]
      rw [hlk, hsp, ← htl]
      have cx3 : Ctx W w (.blk k ((msgOf r 3 m.src).cells none 0) 37 :: S ++ G) (Aside W (repO b (folR r) p c) (fun M w => Φ1 M w ∧ Sl M w rp (m.recs.drop j))) := cx.asideF
      refine CloneR_use cx3 (fun M w h => Sl.take (log_sl h (n := r.log.length) (c := c) (List.mem_cons_of_mem _ List.mem_cons_self) hr.recs) _) (by show (r.log.take _).length < _; rw [htl]; omega) fun np ncap w cx => ?_
      have cx4 : Ctx W w (repO b (folR r) p c ++ (.buf np (r.log.take (m.index.toNat + j)).length ncap (recCells (r.log.take (m.index.toNat + j))) 55 2 :: .blk k ((msgOf r 3 m.src).cells none 0) 37 :: S) ++ G) (fun M w => Φ1 M w ∧ Sl M w rp (m.recs.drop j)) := Ctx.unasideF (T := .buf np (r.log.take (m.index.toNat + j)).length ncap (recCells (r.log.take (m.index.toNat + j))) 55 2 :: .blk k ((msgOf r 3 m.src).cells none 0) 37 :: S) cx
      refine ⟨np, _, ncap, rfl, _, _, hst, cx4, fun w G cx => (cx.weak fun _ _ _ => trivial).sub (List.Sublist.cons_cons _ (List.Sublist.cons _ (List.Sublist.cons _ (List.Sublist.cons _ (List.sublist_append_right _ _))))), fun w G cx => ?_⟩
      have cx5 := lift (Q := repO b (folR r) p c) cx
      obtain ⟨p', cap', w', news, hrun, _, cx'⟩ := Ctx.appSl (P := Try.prog) (α := RecD) (ts := 35) (ty := 35) (kb := #[false, false]) (bytes := 24) (c2 := rcap) cx5 (by kernel_rfl) rec_one (fun M w h => h.2) (by rw [List.length_drop]; omega) (by rw [htl, List.length_drop]; omega) (by omega)
      have hnews := (elems_recs cx'.phi.2).1
      subst hnews
      have hnl : (r.log.take (m.index.toNat + j)).length + (m.recs.drop j).length = (appR r m j).log.length := by show _ = (r.log.take (m.index.toNat + j) ++ m.recs.drop j).length; rw [List.length_append]
      have hnc : recCells (r.log.take (m.index.toNat + j)) ++ recCells (m.recs.drop j) = recCells (appR r m j).log := by rw [← recs_app]; rfl
      rw [hnl] at hrun
      rw [hnl, hnc] at cx'
      have cx6 : Ctx W w' (.buf p' (appR r m j).log.length cap' (recCells (appR r m j).log) 55 2 :: (repO b (folR r) p c ++ (.blk k ((msgOf r 3 m.src).cells none 0) 37 :: S)) ++ G) (fun M w => Φ1 M w ∧ Sl M w rp (m.recs.drop j)) := cx'.weak fun M w h => h.1
      refine ⟨p', _, cap', w', hrun, _, _, hst, cx6, fun w G cx => (cx.weak fun _ _ _ => trivial).sub (List.Sublist.cons _ (List.Sublist.cons_cons _ (List.Sublist.cons _ (List.Sublist.cons _ (List.sublist_append_right _ _))))), fun w G cx => ⟨cx.can 1 rfl (by simp), fun w' hw' => ?_⟩⟩
      -- the replica with the new log, and the old commit number
      have hcells : ((folR r).cells p c).set 3 (.slice p' (appR r m j).log.length cap') = ({ appR r m j with commit := r.commit } : Rep).cells p' cap' := by simp [Rep.cells, appR, folR]
      have cx7 : Ctx W w' (repO b { appR r m j with commit := r.commit } p' cap' ++ .blk k ((msgOf r 3 m.src).cells none 0) 37 :: S ++ G) (fun M w => Φ1 M w ∧ Sl M w rp (m.recs.drop j)) := by
        have h1 : Ctx W w' (.buf p' (appR r m j).log.length cap' (recCells (appR r m j).log) 55 2 :: .blk b (((folR r).cells p c).set 3 (.slice p' (appR r m j).log.length cap')) 76 :: .buf p r.log.length c (recCells r.log) 55 2 :: (.blk k ((msgOf r 3 m.src).cells none 0) 37 :: S ++ G)) (fun M w => Φ1 M w ∧ Sl M w rp (m.recs.drop j)) := cx.put 1 hw' rfl
        rw [hcells] at h1
        exact (h1.sub (List.Sublist.cons_cons _ (List.Sublist.cons_cons _ (List.sublist_cons_self _ _)))).swap
      refine ⟨_, _, hst, cx7, [], fun _ _ => True, inferInstance, fun w G cx => (cx.weak fun _ _ _ => trivial).right, by unfold I64; omega, fun w G cx => ?_⟩
      obtain ⟨g1, g2⟩ := hfin { appR r m j with commit := r.commit } p' cap' _ hst rfl rfl rfl w G cx
      refine ⟨g1, fun w' hw' => ⟨_, _, hst, g2 w' hw', fun w G cx => (cx.weak fun _ _ _ => trivial).right, fun w G cx => ⟨cx.can 2 rfl (by simp), fun w' hw' => ?_⟩⟩⟩
      have cx8 : Ctx W w' (repO b { appR r m j with commit := r.commit } p' cap' ++ .blk k ((ackOf r m).cells none 0) 37 :: S ++ G) (fun M w => Φ1 M w ∧ Sl M w rp (m.recs.drop j)) := cx.put 2 hw' rfl
      refine ⟨_, _, hst, cx8, fun w G cx => ⟨_, cx.get 2 rfl rfl, fun w G cx => ⟨_, cx.get 0 rfl rfl, fun w G cx => ⟨cx.can 0 rfl (by simp), fun w' hw' => ?_⟩⟩⟩⟩
      rw [show max (r.commit : Int) (min m.commit (ackOf r m).index) = ((appC r m : Nat) : Int) from hcv { appR r m j with commit := r.commit } rfl] at hw'
      have cx9 : Ctx W w' (repO b (appR r m j) p' cap' ++ .blk k ((ackOf r m).cells none 0) 37 :: S ++ G) (fun M w => Φ1 M w ∧ Sl M w rp (m.recs.drop j)) := gr (put_rep (gl cx) hw' (appR r m j) rfl rfl)
      refine ⟨_, _, hst, cx9, fun w G cx => ⟨_, _, _, _, _, _, _, _, none, _, 0, cx.row0 2 rfl, fun k2 w G cx => ?_⟩⟩
      obtain ⟨cx10, hs2⟩ := cx.freezeBlk (Elems.one (rep_msg (x := ackOf r m) hao (Nat.le_refl _) (by simp [maxLen]) Sl.nil))
      have cx11 := (lift (cx10.add (Ψ := fun M w => Sl M w (some ⟨k2, 0, none⟩) [ackOf r m]) hs2)).drop1.left
      have hkk := hK p' cap' rp rcap (some ⟨k2, 0, none⟩) 1 w hrc1 hrc2 (by simp) (by simp [maxLen]) (cx11.weak fun M w h => ⟨h.1.1, h.1.2, h.2⟩)
      rw [show m.index + (j : Int) + 1 = ((m.index.toNat + j + 1 : Nat) : Int) by omega]
      exact hkk
  · have hge : j = m.recs.length := Nat.le_antisymm hj (by simpa using hge)
    subst hge
    rw [List.drop_length] at hag
    have hag : ¬ appK r m < m.recs.length := by omega
    rw [append_same h h2 h3 hag] at hK
    refine ⟨[], fun _ _ => True, inferInstance, fun w G cx => (cx.weak fun _ _ _ => trivial).right, by unfold I64; omega, fun w G cx => ?_⟩
    obtain ⟨g1, g2⟩ := hfin (folR r) p c Φ1 inferInstance rfl rfl rfl w G cx
    refine ⟨g1, fun w' hw' => ⟨_, Φ1, inferInstance, g2 w' hw', fun w G cx => (cx.weak fun _ _ _ => trivial).right, fun w G cx => ⟨cx.can 2 rfl (by simp), fun w' hw' => ?_⟩⟩⟩
    have cx8 : Ctx W w' (repO b (folR r) p c ++ .blk k ((ackOf r m).cells none 0) 37 :: S ++ G) Φ1 := cx.put 2 hw' rfl
    refine ⟨_, Φ1, inferInstance, cx8, fun w G cx => ⟨_, cx.get 2 rfl rfl, fun w G cx => ⟨_, cx.get 0 rfl rfl, fun w G cx => ⟨cx.can 0 rfl (by simp), fun w' hw' => ?_⟩⟩⟩⟩
    rw [show max ((folR r).commit : Int) (min m.commit (ackOf r m).index) = ((appC r m : Nat) : Int) from hcv (folR r) rfl] at hw'
    have cx9 : Ctx W w' (repO b (sameR r m) p c ++ .blk k ((ackOf r m).cells none 0) 37 :: S ++ G) Φ1 := gr (put_rep (gl cx) hw' (sameR r m) rfl rfl)
    refine ⟨_, Φ1, inferInstance, cx9, fun w G cx => ⟨_, _, _, _, _, _, _, _, none, _, 0, cx.row0 2 rfl, fun k2 w G cx => ?_⟩⟩
    obtain ⟨cx10, hs2⟩ := cx.freezeBlk (Elems.one (rep_msg (x := ackOf r m) hao (Nat.le_refl _) (by simp [maxLen]) Sl.nil))
    exact hK.sent (by simp) (by simp [maxLen]) (lift (cx10.add (Ψ := fun M w => Sl M w (some ⟨k2, 0, none⟩) [ackOf r m]) hs2)).drop1.left

end Go.Proofs.Ytifgijoeckoojaa
end

/-
  Replica: Hear.
-/
section
set_option linter.unusedVariables false
set_option linter.unusedSimpArgs false
namespace Go.Proofs.Ytifgijoeckoojaa
open Go.Vc

def finO (r : Rep) (x : Rep × OutR) : Rep × OutR := if (decide (x.1.term = r.term) && decide (x.1.vote = r.vote)) = true then x else (x.1, { x.2 with save := true, term := x.1.term, vote := x.1.vote })
def upR (r : Rep) (m : MsgR) : Rep := { r with term := m.term, vote := -1, role := 0 }
def hearX (r1 : Rep) (m : MsgR) : Rep × OutR := if m.kind = 0 then voteP r1 m else if m.kind = 1 then votedP r1 m else if m.kind = 2 then appendP r1 m else appendedP r1 m

theorem hear_no {r : Rep} {m : MsgR} (h : rightP r.id m = false) : hearP r m = (r, out0) := by unfold hearP; rw [if_pos h]
theorem hear_yes {r : Rep} {m : MsgR} (h : rightP r.id m = true) : hearP r m = finO r (hearX (if r.term < m.term then upR r m else r) m) := by unfold hearP; rw [if_neg (by rw [h]; simp)]; rfl

theorem up_ok {r : Rep} (h : r.Ok) (m : MsgR) (hm : m.Right r.id) (ht : r.term < m.term) : (upR r m).Ok := by
  have h1 := h.term0
  have h2 := hm.term.2
  refine ⟨h.id, by show 0 ≤ m.term; omega, h2, by show (-1 : Int) ≤ -1; omega, by show (-1 : Int) ≤ 2; omega, ⟨h.log.lo, fun x hx => ?_, h.log.data, h.log.asc⟩, h.len, .inl rfl, h.commit, fun hr => ?_, h.bound⟩
  · have := h.log.hi x hx
    show x.term ≤ m.term
    omega
  · cases (show (0 : Int) = 2 from hr)

theorem okAgg40 : okAgg Try.prog 40 = true := by kernel_rfl

theorem hear_post {W : World} {S G : List Own} {Φ : PW} [Stable Φ] {b : Nat} {r : Rep} {x : Rep × OutR} {J : Value → World → Prop} (hK : OutK W S Φ b (finO r x).1 (finO r x).2 J) :
    OutK W (S ++ G) Φ b x.1 x.2 (fun v w => ∃ (c : Bool) (n1 n2 n3 : Int) (p1 : Option Addr) (k1 k2 : Nat) (p2 : Option Addr) (k3 k4 : Nat), Ending.returned v = .returned (.agg #[.bool c, .int .i64 n1, .int .i64 n2, .int .i64 n3, .slice p1 k1 k2, .slice p2 k3 k4]) ∧
      ∃ (R : List Own) (Φ' : PW), Stable Φ' ∧ Ctx W w (R ++ G) Φ' ∧ ∀ (w : World) (F : List Own), Ctx W w (R ++ F) Φ' → ∃ (a1 a2 : Int), RowAt w b (0 + 1) [.int .i64 a1, .int .i64 a2] ∧ okAgg Try.prog 40 = true ∧
        Br (!(decide (a1 = r.term) && (decide (a2 = r.vote) && true)))
          (∃ (R2 : List Own) (Φ2 : PW), Stable Φ2 ∧ (∀ (w : World) (F : List Own), Ctx W w (R ++ F) Φ' → Ctx W w (R2 ++ F) Φ2) ∧ ∃ (b1 b2 : Int), (∀ (w : World) (F : List Own), Ctx W w (R2 ++ F) Φ2 → ∃ (d1 d2 : Int), RowAt w b (0 + 1) [.int .i64 d1, .int .i64 d2] ∧ Value.agg #[.int .i64 d1, .int .i64 d2] = Value.agg #[.int .i64 b1, .int .i64 b2]) ∧
            (∀ (w : World) (F : List Own), Ctx W w (R ++ F) Φ' → Ctx W w (R2 ++ F) Φ2) ∧ (∀ (w : World) (F : List Own), Ctx W w (R ++ F) Φ' → Ctx W w (R2 ++ F) Φ2) ∧ ∀ (w : World) (F : List Own), Ctx W w (R ++ F) Φ' → J (.agg #[.bool true, .int .i64 b1, .int .i64 b2, .int .i64 n3, .slice p1 k1 k2, .slice p2 k3 k4]) w)
          (∀ (w : World) (F : List Own), Ctx W w (R ++ F) Φ' → J (.agg #[.bool c, .int .i64 n1, .int .i64 n2, .int .i64 n3, .slice p1 k1 k2, .slice p2 k3 k4]) w)) := by
  obtain ⟨r', o⟩ := x
  intro p' c' q1 c1 q2 c2 w h1 h2 h3 h4 cx
  have hrow : ∀ {w : World} {F : List Own}, Ctx W w (repO b r' p' c' ++ S ++ F) (OPhi Φ q1 o.recs q2 o.send) → RowAt w b (0 + 1) [.int .i64 r'.term, .int .i64 r'.vote] := fun cx => cx.row 0 rfl (rows_of (vs := [.int .i64 r'.term, .int .i64 r'.vote]) rfl)
  refine ⟨_, _, _, _, q1, _, c1, q2, _, c2, rfl, repO b r' p' c' ++ S, OPhi Φ q1 o.recs q2 o.send, inferInstance, gr cx, fun w F cx => ⟨r'.term, r'.vote, hrow cx, okAgg40, Br.intro (fun hd => ?_) (fun hd => ?_)⟩⟩
  · have hf : finO r (r', o) = (r', { o with save := true, term := r'.term, vote := r'.vote }) := by
      unfold finO
      rw [if_neg]
      intro h
      simp only [Bool.and_true, Bool.not_eq_true'] at hd
      rw [hd] at h; cases h
    rw [hf] at hK
    exact ⟨repO b r' p' c' ++ S, OPhi Φ q1 o.recs q2 o.send, inferInstance, fun w F cx => cx, r'.term, r'.vote, fun w F cx => ⟨_, _, hrow cx, rfl⟩, fun w F cx => cx, fun w F cx => cx, fun w F cx => hK p' c' q1 c1 q2 c2 w h1 h2 h3 h4 cx.left⟩
  · have hf : finO r (r', o) = (r', o) := by
      unfold finO
      rw [if_pos]
      simpa using hd
    rw [hf] at hK
    exact fun w F cx => hK p' c' q1 c1 q2 c2 w h1 h2 h3 h4 cx.left

set_option maxHeartbeats 2000000 in
theorem Hear_use {W w : World} {S : List Own} {Φ : PW} [Stable Φ] {b : Nat} {r : Rep} {p : Option Addr} {c : Nat} (cx : Ctx W w (repO b r p c ++ S) Φ) (hr : r.Ok) (m : MsgR) (hmo : m.Ok) (q : Option Addr) (qc : Nat) (hsl : ∀ M w, Φ M w → Sl M w q m.recs) (hqc : m.recs.length ≤ qc) (hqm : qc ≤ maxLen) {K : Ending → World → Prop}
    (hK : OutK W S Φ b (hearP r m).1 (hearP r m).2 fun v w => K (.returned v) w) : Calls Try.prog F.replica_Replica_Hear #[.pointer (some ⟨b, 0, none⟩), m.v q qc] w K := by
  refine (Breplica_Replica_Hear_run b 0 m.kind m.src m.to m.term m.index m.prev m.commit m.yes q m.recs.length qc (J := fun u w' => K (.returned u) w') cx ?_).mono fun e w' ⟨v, he, hj⟩ => by rw [he]; exact hj
  refine fun _ _ w G cx => right_use (gl cx) m q qc hsl (Nat.le_trans hqc (Nat.le_trans hqm (by decide))) hmo.index fun w cx => ⟨_, rfl, repO b r p c ++ S, Φ, inferInstance, gr cx, Br.intro (fun h => fun w G cx => ?_) (fun h => fun w G cx => ⟨r.term, r.vote, cx.row 0 rfl (rows_of (vs := [.int .i64 r.term, .int .i64 r.vote]) rfl), fun _ w G cx => ⟨r.term, cx.get 0 rfl rfl, Br.intro (fun ht => fun w G cx => ⟨cx.can 0 rfl (by simp), fun w' hw' => ?_⟩) (fun ht => ?_)⟩⟩)⟩
  · rw [hear_no (by simpa using h)] at hK
    exact hK.zero cx.left
  all_goals
    have hy : rightP r.id m = true := by simpa using h
    have hmr := right_iff.1 hy
    obtain ⟨hs1, hs2, hs3⟩ := hmr.src
    obtain ⟨hk1, hk2⟩ := hmr.kind
    obtain ⟨hi1, hi2⟩ := hmr.index
    rw [hear_yes hy] at hK
  · have ht := of_decide_eq_true ht
    rw [if_pos ht] at hK
    have hu := up_ok hr m hmr ht
    have cx1 := gr (puts_rep (gl cx) hw' { r with term := m.term, vote := -1 } rfl rfl)
    refine ⟨_, Φ, inferInstance, cx1, fun w G cx => ⟨cx.can 0 rfl (by simp), fun w' hw' => ?_⟩⟩
    have cx1 : Ctx W w' (repO b (upR r m) p c ++ S ++ G) Φ := gr (put_rep (gl cx) hw' (upR r m) rfl rfl)
    refine ⟨_, Φ, inferInstance, cx1, fun _ => Br.intro (fun k0 => fun w G cx => ?_) (fun k0 => Br.intro (fun k1 => fun w G cx => ?_) (fun k1 => Br.intro (fun k2 => fun w G cx => ?_) (fun k2 => Br.intro (fun k3 => fun w G cx => ?_) (fun k3 => ?_))))⟩
    · rw [show hearX (upR r m) m = voteP (upR r m) m by unfold hearX; rw [if_pos (of_decide_eq_true k0)]] at hK
      exact vote_use (gl cx) hu m q qc hs2 hs3 (hear_post hK)
    · rw [show hearX (upR r m) m = votedP (upR r m) m by unfold hearX; rw [if_neg (of_decide_eq_false k0), if_pos (of_decide_eq_true k1)]] at hK
      exact voted_use (gl cx) hu m q qc hs2 hs3 (hear_post hK)
    · rw [show hearX (upR r m) m = appendP (upR r m) m by unfold hearX; rw [if_neg (of_decide_eq_false k0), if_neg (of_decide_eq_false k1), if_pos (of_decide_eq_true k2)]] at hK
      exact append_use (gl cx) hu m hmr q qc hsl hqc (hear_post hK)
    · rw [show hearX (upR r m) m = appendedP (upR r m) m by unfold hearX; rw [if_neg (of_decide_eq_false k0), if_neg (of_decide_eq_false k1), if_neg (of_decide_eq_false k2)]] at hK
      exact appended_use (gl cx) hu m q qc hs2 hs3 hi1 hi2 (hear_post hK)
    · exfalso
      have := of_decide_eq_false k0; have := of_decide_eq_false k1; have := of_decide_eq_false k2; have := of_decide_eq_false k3
      omega
  · have ht := of_decide_eq_false ht
    rw [if_neg ht] at hK
    refine fun _ => Br.intro (fun k0 => fun w G cx => ?_) (fun k0 => Br.intro (fun k1 => fun w G cx => ?_) (fun k1 => Br.intro (fun k2 => fun w G cx => ?_) (fun k2 => Br.intro (fun k3 => fun w G cx => ?_) (fun k3 => ?_))))
    · rw [show hearX r m = voteP r m by unfold hearX; rw [if_pos (of_decide_eq_true k0)]] at hK
      exact vote_use (gl cx) hr m q qc hs2 hs3 (hear_post hK)
    · rw [show hearX r m = votedP r m by unfold hearX; rw [if_neg (of_decide_eq_false k0), if_pos (of_decide_eq_true k1)]] at hK
      exact voted_use (gl cx) hr m q qc hs2 hs3 (hear_post hK)
    · rw [show hearX r m = appendP r m by unfold hearX; rw [if_neg (of_decide_eq_false k0), if_neg (of_decide_eq_false k1), if_pos (of_decide_eq_true k2)]] at hK
      exact append_use (gl cx) hr m hmr q qc hsl hqc (hear_post hK)
    · rw [show hearX r m = appendedP r m by unfold hearX; rw [if_neg (of_decide_eq_false k0), if_neg (of_decide_eq_false k1), if_neg (of_decide_eq_false k2)]] at hK
      exact appended_use (gl cx) hr m q qc hs2 hs3 hi1 hi2 (hear_post hK)
    · exfalso
      have := of_decide_eq_false k0; have := of_decide_eq_false k1; have := of_decide_eq_false k2; have := of_decide_eq_false k3
      omega

end Go.Proofs.Ytifgijoeckoojaa
end

/-
  The conditions of the walks of some functions, one formula each; 'B<f>_run' says that they suffice. The formulas are printed by a program; the kernel compares them with the functions' code.
-/
section
namespace Go.Proofs.Ytifgijoeckoojaa
set_option linter.unusedVariables false
set_option linter.unusedSimpArgs false
open Go.Vc

/-- erratalaw08.pick -/
def Qerratalaw08_pick (n : Int) (m : Int) (w : World) (J : Value → World → Prop) : Prop :=
  Br (decide (m < 1)) (J (Value.int IntKind.i64 0) w) ((m = 0 → False) ∧ Br (decide (n.tmod m < 0)) (I64 (n.tmod m + m) ∧ J (Value.int IntKind.i64 (n.tmod m + m)) w) (J (Value.int IntKind.i64
  (n.tmod m)) w))

theorem Qerratalaw08_pick_run (n : Int) (m : Int) (w : World) (J : Value → World → Prop) (h : Qerratalaw08_pick n m w J) : Calls Try.prog F.erratalaw08_pick #[.int .i64 n, .int .i64 m] w fun e w' => ∃ v, e = .returned v ∧ J v w' :=
  vcF_sound (H := { keep := some [0, 1, 4, 6, 11] }) (by rw [show vcF Try.prog { keep := some [0, 1, 4, 6, 11] } F.erratalaw08_pick #[.int .i64 n, .int .i64 m] w J = Qerratalaw08_pick n m w J by kernel_rfl]; exact h)

end Go.Proofs.Ytifgijoeckoojaa
end

